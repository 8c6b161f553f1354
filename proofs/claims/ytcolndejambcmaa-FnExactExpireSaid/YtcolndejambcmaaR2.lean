/- The steps of a walk over the state, second part: rows and variables in memory. -/
import Derived.Test.YtcolndejambcmaaR
namespace Go.Proofs.Ytcolndejambcmaa.Ew
open Go.RowKit Go.Proofs.YtcolndejambcmaaW.PrintWords Go.Proofs.YtcolndejambcmaaW.PrintLast
set_option linter.unusedVariables false
set_option linter.unusedSimpArgs false
/-- A pointer to the place j cells behind ad. -/
abbrev ptr (ad : Addr) (j : Nat) : Value := .pointer (some (ad.add j))
abbrev at0 (g : Nat) : Addr := ⟨g, 0, none⟩
/-- Where a slice's element i lies. -/
def EA (v : Value) (i : Int) (sz : Nat) (ad : Addr) : Prop := ∃ A0 m c, v = .slice (some A0) m c ∧ 0 ≤ i ∧ i < m ∧ ad = A0.add (i.toNat * sz)
theorem K2.C.cells {α : Type} {d : K2 α} {bb : World} {v : Value} {xs : List α} {i : Int} {x : α} {ad : Addr} (hc : d.C bb v xs) (he : EA v i d.sz ad) (hx : atI xs i = some x) : ∃ cs, d.K bb x cs ∧ CellsAt bb ad 0 cs := by
  obtain ⟨h0, h1, h2⟩ := atI_some hx
  obtain ⟨A, c, h3, _, _, h4⟩ := hc
  obtain ⟨ad', cs, h5, h6, h7⟩ := h4 _ _ h2
  obtain ⟨A0, m, c', h8, _, _, rfl⟩ := he
  rw [h3] at h8
  injection h8 with h8 _ _
  rw [h5] at h8
  injection h8 with h8
  subst h8
  exact ⟨cs, h6, h7⟩
section
variable {P : Program} {n : Nat} {Q : Exit → Env → World → Prop} {env : Env} {w : World} {ops : Array Oper} {rest : List Oper} {α : Type} {d : K2 α} {v : Value} {xs : List α}
theorem SL.len {x : Operand} {t e ty : TypeId} {pos : String} {after : Array Edge} {D : Nat} (hx : ev env x = some v) (hc : d.C w v xs) (hu : P.underlying t = some (.slice e)) (hn : D < n)
    (k : EL P n ops Q rest ((D, vi (xs.length : Int)) :: env) w) : EL P n ops Q (⟨some D, .call { callee := .builtin .len, args := #[x], argTypes := #[t] }, ty, pos, after, none⟩ :: rest) env w := by
  obtain ⟨A, c, rfl, _⟩ := hc
  exact EL.len hx hu hn k
theorem SL.ix {t e ty : TypeId} {x ix : Operand} {pos : String} {after : Array Edge} {D : Nat} {k0 : IntKind} {i : Int} {y : α} (hx : ev env x = some v) (hi : ev env ix = some (.int k0 i)) (hc : d.C w v xs) (hat : atI xs i = some y)
    (hu : P.underlying t = some (.slice e)) (hs : (P.info? e).map (·.size) = some d.sz) (hn : D < n)
    (k : ∀ ad, EA v i d.sz ad → EL P n ops Q rest ((D, ptr ad 0) :: env) w) : EL P n ops Q (⟨some D, .indexAddr t x ix, ty, pos, after, none⟩ :: rest) env w := by
  obtain ⟨h0, h1, h2⟩ := atI_some hat
  obtain ⟨A, c, rfl, h3, _, h4⟩ := hc
  obtain ⟨ad, cs, rfl, h6, h7⟩ := h4 _ _ h2
  obtain ⟨j, rfl⟩ := Int.eq_ofNat_of_zero_le h0
  refine EL.ix hx hi hu hs (by omega) hn ?_
  have := k (ad.add (j * d.sz)) ⟨ad, _, c, rfl, h0, h1, rfl⟩
  rw [show ptr (ad.add (j * d.sz)) 0 = .pointer (some (ad.add (j * d.sz))) by show Value.pointer (some ((ad.add _).add 0)) = _; rw [add_add]; rfl] at this
  exact this
theorem SL.fa {s : TypeId} {x : Operand} {f : Nat} {ty : TypeId} {pos : String} {after : Array Edge} {D : Nat} {A : Addr} {j j' : Nat} {fields : Array Field} {fd : Field} {sz : Nat} (hx : ev env x = some (ptr A j))
    (hu : P.underlying s = some (.struct fields)) (hf : fields[f]? = some fd) (hs : (P.info? fd.type).map (·.size) = some sz) (h0 : sz ≠ 0) (hj : j + fd.offset = j') (hn : D < n)
    (k : EL P n ops Q rest ((D, ptr A j') :: env) w) : EL P n ops Q (⟨some D, .fieldAddr s x f, ty, pos, after, none⟩ :: rest) env w := by
  subst hj
  refine EL.fa hx hu hf hs h0 hn ?_
  rw [add_add]; exact k
/-- One cell is loaded. -/
theorem SL.ld {t : TypeId} {x : Operand} {ty : TypeId} {pos : String} {after : Array Edge} {D : Nat} {A : Addr} {j : Nat} {cs : List Value} {bb : World} {u : Value} {ud : TypeDesc} (hx : ev env x = some (ptr A j)) (hu : P.underlying t = some ud) (h1 : ∀ fs, ud ≠ .struct fs) (h2 : ∀ m e, ud ≠ .array m e)
    (hA : CellsAt bb A 0 cs) (hb : Agr bb w) (hj : cs[j]? = some u) (hn : D < n)
    (k : EL P n ops Q rest ((D, u) :: env) w) : EL P n ops Q (⟨some D, .load t x, ty, pos, after, none⟩ :: rest) env w := by
  have h3 := hb _ _ (hA.get hj)
  rw [Nat.zero_add] at h3
  exact EL.ld hx hu h1 h2 h3 hn k
/-- A struct is loaded. -/
theorem SL.lds {t : TypeId} {x : Operand} {fs : Array Field} {D : Nat} {ty : TypeId} {pos : String} {after : Array Edge} {A : Addr} {j m : Nat} {cs : List Value} {bb : World} (seg : List Value) (hx : ev env x = some (ptr A j)) (hu : P.underlying t = some (.struct fs)) (hA : CellsAt bb A 0 cs) (hb : Agr bb w) (hseg : (cs.drop j).take m = seg) (hs : (P.info? t).map (·.size) = some seg.length) (hn : D < n)
    (k : EL P n ops Q rest ((D, .agg seg.toArray) :: env) w) : EL P n ops Q (⟨some D, .load t x, ty, pos, after, none⟩ :: rest) env w := by
  subst hseg
  exact EL.lds _ hx hu ((hA.sub j m).agr hb) hs hn k
/-- Part of a slice that is read. -/
theorem K2.C.sub {bb : World} {A : Option Addr} {m c : Nat} {lo hi : Nat} (hc : d.C bb (.slice A m c) xs) (h1 : lo ≤ hi) (h2 : hi ≤ xs.length) : d.C bb (.slice (if c = lo then A else A.map (·.add (lo * d.sz))) (hi - lo) (c - lo)) ((xs.take hi).drop lo) := by
  obtain ⟨A', c', h3, h4, h5, h6⟩ := hc
  injection h3 with h3 h7 h8
  subst h3; subst h8
  have hl : ((xs.take hi).drop lo).length = hi - lo := by simp; omega
  by_cases hz : c = lo
  · have : hi = lo := by omega
    subst this
    have : (xs.take hi).drop hi = [] := by simp
    rw [this, if_pos hz]
    rw [Nat.sub_self]
    exact K2.C.empty _ _ _ _
  · rw [if_neg hz]
    refine ⟨_, _, by rw [hl], by omega, by omega, fun i x hx => ?_⟩
    have hx2 : xs[lo + i]? = some x := by
      rw [List.getElem?_drop, List.getElem?_take] at hx
      split at hx
      · exact hx
      · cases hx
    obtain ⟨ad, cs, g1, g2, g3⟩ := h6 _ _ hx2
    subst g1
    refine ⟨ad.add (lo * d.sz), cs, rfl, g2, ?_⟩
    rw [add_add, ← Nat.add_mul]
    exact g3
theorem run_bounds {A : Option Addr} {len cap : Nat} {ol oh : Option Operand} {lo hi : Int} {ρ : Operand → Value} (hρ : Agree env ρ) (hl : (match ol with | none => lo = 0 | some o => ∃ k0, ev env o = some (.int k0 lo))) (hh : (match oh with | none => hi = (len : Int) | some o => ∃ k0, ev env o = some (.int k0 hi)))
    (h0 : 0 ≤ lo) (h1 : lo ≤ hi) (h2 : hi ≤ len) (h3 : len ≤ cap) : (Instr.sliceBounds true len cap (ol.map ρ) (oh.map ρ) none).run P w = .ok (lo.toNat, hi.toNat, cap) w := by
  have hlo : ∀ (y : Nat) (code : BoundsCode), hi = (y : Int) → (match ol.map ρ with | some v => Instr.sliceBound v y code | none => pure 0).run P w = .ok lo.toNat w := by
    intro y code hy
    cases ol with
    | none => simp only at hl; subst hl; simp
    | some o =>
      obtain ⟨k0, hl⟩ := hl
      have := hρ o _ hl
      have h5 : 0 ≤ lo ∧ lo ≤ (y : Int) := by omega
      simp [this, Instr.sliceBound, asIntOf, h5]
  cases oh with
  | none =>
    simp only at hh
    subst hh
    have := hlo len .sliceB rfl
    cases ol with
    | none => simp [Instr.sliceBounds] at this ⊢; exact this
    | some o => simp [Instr.sliceBounds] at this ⊢; simp [this]
  | some o =>
    obtain ⟨k0, hh⟩ := hh
    have h4 := hρ o _ hh
    have h5 : 0 ≤ hi ∧ hi ≤ (cap : Int) := by omega
    have := hlo hi.toNat .sliceB (by omega)
    cases ol with
    | none => simp at this; simp [Instr.sliceBounds, h4, Instr.sliceBound, asIntOf, h5, this]
    | some o2 =>
      obtain ⟨k1, hl⟩ := hl
      have h6 := hρ o2 _ hl
      have h7 : 0 ≤ lo ∧ lo ≤ (hi.toNat : Int) := by omega
      simp [Instr.sliceBounds, h4, h6, Instr.sliceBound, asIntOf, h5, h7]
      intro h8; omega
/-- 'xs[lo:hi]', read. -/
theorem SL.sub {t e : TypeId} {x : Operand} {ol oh : Option Operand} {ty : TypeId} {pos : String} {after : Array Edge} {D : Nat} {ys : List α} {lo hi : Int} {bb : World} (hx : ev env x = some v) (hc : d.C bb v xs) (hl : (match ol with | none => lo = 0 | some o => ∃ k0, ev env o = some (.int k0 lo))) (hh : (match oh with | none => hi = (xs.length : Int) | some o => ∃ k0, ev env o = some (.int k0 hi)))
    (hs : subL xs lo hi = some ys) (hu : P.underlying t = some (.slice e)) (hz : (P.info? e).map (·.size) = some d.sz) (hn : D < n)
    (k : ∀ v', d.C bb v' ys → EL P n ops Q rest ((D, v') :: env) w) : EL P n ops Q (⟨some D, .slice t x ol oh none, ty, pos, after, none⟩ :: rest) env w := by
  obtain ⟨h0, h1, h2, rfl⟩ := subL_some hs
  have hc' := hc
  obtain ⟨A, c, rfl, h3, h4, h5⟩ := hc
  refine EL.val (fun ρ hρ => ?_) rfl rfl hn (k _ (hc'.sub (lo := lo.toNat) (hi := hi.toNat) (by omega) (by omega)))
  have h6 := hρ x _ hx
  have e1 := run_bounds (P := P) (A := A) (w := w) hρ hl hh h0 h1 h2 h3
  have e3 : (Instr.sliceAt t (.slice A xs.length c) (ol.map ρ) (oh.map ρ) none).run P w = .ok (.slice (if c = lo.toNat then A else A.map (·.add (lo.toNat * d.sz))) (hi.toNat - lo.toNat) (c - lo.toNat)) w := by
    simp [Instr.sliceAt, Instr.slice, run_underlying hu]
    rw [e1]
    simp [run_sizeOf hz]
  simp [execOp, h6]
  rw [e3]
  rfl
end
section
variable {P : Program} {n : Nat} {Q : Exit → Env → World → Prop} {env : Env} {w : World} {ops : Array Oper} {rest : List Oper} {b w0 : World} {s0 : Nat → Prop} {L : List Atom}
/-- A variable is put into memory. -/
theorem SL.box (hS : St b w0 s0 L w) {t : TypeId} {x : Operand} {xv : Value} {D : Nat} {ty : TypeId} {pos : String} {after : Array Edge} (hx : ev env x = some xv) (hn : D < n)
    (k : ∀ g w, St b w0 s0 (app L [.blk g t xv.cells]) w → EL P n ops Q rest ((D, ptr (at0 g) 0) :: env) w) : EL P n ops Q (⟨some D, .box t x, ty, pos, after, none⟩ :: rest) env w := by
  refine EL.boxA hx hn (fun g w1 hg hb hB => ?_)
  have := k g w1 (hS.one (Fr.below hB) ⟨⟨blk_lt hb, hg⟩, hb⟩)
  rwa [show ptr (at0 g) 0 = .pointer (some ⟨g, 0, none⟩) from congrArg (fun a => Value.pointer (some a)) (add_plain g 0)] at this
theorem SL.alloc (hS : St b w0 s0 L w) {t : TypeId} {z : Value} {s by_ : Nat} {D : Nat} {ty : TypeId} {pos : String} {after : Array Edge} (hinfo : (P.info? t).map (fun i => (i.zero, i.size, i.bytes)) = some (some z, s, by_)) (hn : D < n)
    (k : ∀ g w, St b w0 s0 (app L [.blk g t z.cells]) w → EL P n ops Q rest ((D, ptr (at0 g) 0) :: env) w) : EL P n ops Q (⟨some D, .alloc t, ty, pos, after, none⟩ :: rest) env w := by
  refine EL.allocA hinfo hn (fun g w1 hg hb hB => ?_)
  have := k g w1 (hS.one (Fr.below hB) ⟨⟨blk_lt hb, hg⟩, hb⟩)
  rwa [show ptr (at0 g) 0 = .pointer (some ⟨g, 0, none⟩) from congrArg (fun a => Value.pointer (some a)) (add_plain g 0)] at this
/-- A store into a variable. -/
theorem SL.stb (hS : St b w0 s0 L w) (i : Nat) {g : Nat} {T : TypeId} {cs : Array Value} (hi : nth L i = some (.blk g T cs)) {t : TypeId} {p x : Operand} {ty : TypeId} {pos : String} {after : Array Edge} {j : Nat} {u : Value} (hp : ev env p = some (ptr (at0 g) j)) (hx : ev env x = some u) (seg : List Value) (hu : u.cells.toList = seg) (ht : (P.info? t).map (·.size) = some seg.length)
    (h1 : seg.all Value.oneCell' = true) (hfit : j + seg.length ≤ cs.size) (cs' : Array Value) (hcs : splice cs j seg = cs')
    (k : ∀ w, St b w0 s0 (upd L i (.blk g T cs')) w → EL P n ops Q rest env w) : EL P n ops Q (⟨none, .store t p x, ty, pos, after, none⟩ :: rest) env w := by
  obtain ⟨f, f1, f2, f3⟩ := hS.ex
  have hb := (f3 i _ hi).2
  refine EL.stb (w0 := w) (B := 0) (T := T) (g := g) (cs := cs) (cs' := cs') hp (add_plain g j) hx seg hu ht (List.all_eq_true.1 h1) hb hfit hcs (Below.refl _ _) (Nat.zero_le _) (fun w1 hb1 hB hk => k w1 (hS.turn hi (fun s hs hh => ⟨⟨hB.os, hB.tape, hB.output, hB.size, fun k _ hn => hk k (fun e => hn (e ▸ hh.1))⟩, s, fun k hk => ⟨by have := hs k hk; have := hB.size; omega, Or.inl hk⟩, hh.1, hb1⟩)))
end
end Go.Proofs.Ytcolndejambcmaa.Ew
