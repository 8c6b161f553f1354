/- Regions that draw their order: guards in them. -/
import Derived.Test.YtcolndejambcmaaR8
namespace Go.Proofs.Ytcolndejambcmaa.Ew
open Go.RowKit Go.Proofs.YtcolndejambcmaaW.PrintWords Go.Proofs.YtcolndejambcmaaW.PrintLast
set_option linter.unusedVariables false
set_option linter.unusedSimpArgs false
section
variable {P : Program} {n : Nat} {Q : Exit → Env → World → Prop} {env : Env} {w : World} {ops : Array Oper} {rest : List Oper} {S : World → Prop} {fuel : Nat} {l : Array Bool} {ds : List Nat}
theorem yielded_of {a : Act} (ha : Has n env a) {j t : Nat} {b : Bool} (ht : (ops[j]?).bind (·.dst) = some t) (hv : lk env t = some (.bool b)) (htn : t < n) : yielded ops a.tmps j = some b := by
  have h1 : a.tmps.getD t undef = .bool b := ha.get t _ hv
  have hlt : t < a.tmps.size := by rw [ha.size]; exact htn
  unfold yielded
  rw [ht]
  simp [hlt] at h1 ⊢
  rw [h1]
theorem yielded_un {a : Act} (ha : Has n env a) {j t : Nat} (ht : (ops[j]?).bind (·.dst) = some t) (hv : lk env t = some undef) (htn : t < n) : yielded ops a.tmps j = none := by
  have h1 : a.tmps.getD t undef = undef := ha.get t _ hv
  have hlt : t < a.tmps.size := by rw [ha.size]; exact htn
  unfold yielded
  rw [ht]
  simp [hlt] at h1 ⊢
  rw [h1]
  rfl
/-- As DR.q, DR.take, the operation's guard being met. -/
theorem DR.qg (i : Nat) {o : Oper} {D : Nat} {v : Value} {j t : Nat} {b want : Bool} (hi : ops[i]? = some o) (h : ∀ w', Runs P env o w' v w') (hg : o.guard = some (j, want)) (ht : (ops[j]?).bind (·.dst) = some t) (hv : lk env t = some (.bool b)) (hb : b = want) (htn : t < n) (hd : o.dst = some D) (hn : D < n) (hc : anyB .any ops l (l.setIfInBounds i true) i = true)
    (k : DR P n ops Q S ds fuel (l.setIfInBounds i true) ((D, v) :: env) w) : DR P n ops Q S ds (fuel + 1) l env w := by
  intro a ha
  refine pure_ (i := i) (N := some D) (v := v) (a' := _) _ hi hd hc (fun _ _ _ h => h) (Or.inl ⟨?_, fun w' => h w' a.eval ha.agree⟩) rfl (k _ (ha.put hn v))
  have hy := yielded_of ha ht hv htn
  unfold Region.wanted
  rw [hg]
  simp [hy, hb]
theorem DR.takeg (i : Nat) {o : Oper} {D : Nat} {v : Value} {j t : Nat} {b want : Bool} (hi : ops[i]? = some o) (h : ∀ w', S w' → Runs P env o w' v w') (hg : o.guard = some (j, want)) (ht : (ops[j]?).bind (·.dst) = some t) (hv : lk env t = some (.bool b)) (hb : b = want) (htn : t < n) (hd : o.dst = some D) (hn : D < n) (hc : takeB .any ops ds l (l.setIfInBounds i true) i = true) (hS : S w)
    (k : DR P n ops Q S ds fuel (l.setIfInBounds i true) ((D, v) :: env) w) : DR P n ops Q S ds (fuel + 1) l env w := by
  intro a ha
  refine take_ (i := i) (N := some D) (v := v) (a' := _) _ hi hd hc (fun _ _ _ h => h) (Or.inl ⟨?_, fun w' hw => h w' hw a.eval ha.agree⟩) hS rfl (k _ (ha.put hn v))
  have hy := yielded_of ha ht hv htn
  unfold Region.wanted
  rw [hg]
  simp [hy, hb]
/-- A guard that is not met. -/
theorem DR.off (i : Nat) {o : Oper} {D : Nat} {j t : Nat} {b want : Bool} (hi : ops[i]? = some o) (hg : o.guard = some (j, want)) (ht : (ops[j]?).bind (·.dst) = some t) (hv : lk env t = some (.bool b)) (hb : b ≠ want) (htn : t < n) (hd : o.dst = some D) (hn : D < n) (hc : anyB .any ops l (l.setIfInBounds i true) i = true)
    (k : DR P n ops Q S ds fuel (l.setIfInBounds i true) ((D, undef) :: env) w) : DR P n ops Q S ds (fuel + 1) l env w := by
  intro a ha
  refine pure_ (i := i) (N := some D) (v := undef) (a' := _) _ hi hd hc (fun _ _ _ h => h) (Or.inr ⟨?_, rfl⟩) rfl (k _ (ha.put hn undef))
  have hy := yielded_of ha ht hv htn
  unfold Region.wanted
  rw [hg]
  simp [hy, hb]
theorem DR.off0 (i : Nat) {o : Oper} {D : Nat} {j t : Nat} {want : Bool} (hi : ops[i]? = some o) (hg : o.guard = some (j, want)) (ht : (ops[j]?).bind (·.dst) = some t) (hv : lk env t = some undef) (htn : t < n) (hd : o.dst = some D) (hn : D < n) (hc : anyB .any ops l (l.setIfInBounds i true) i = true)
    (k : DR P n ops Q S ds fuel (l.setIfInBounds i true) ((D, undef) :: env) w) : DR P n ops Q S ds (fuel + 1) l env w := by
  intro a ha
  refine pure_ (i := i) (N := some D) (v := undef) (a' := _) _ hi hd hc (fun _ _ _ h => h) (Or.inr ⟨?_, rfl⟩) rfl (k _ (ha.put hn undef))
  have hy := yielded_un ha ht hv htn
  unfold Region.wanted
  rw [hg]
  simp [hy]
theorem EL.ungateB {dst : Option Tmp} {op : Op} {ty : TypeId} {pos : String} {after : Array Edge} {j t : Nat} {b want : Bool} (ht : (ops[j]?).bind (·.dst) = some t) (hv : lk env t = some (.bool b)) (hb : b = want) (htn : t < n)
    (h : EL P n ops Q (⟨dst, op, ty, pos, after, none⟩ :: rest) env w) : EL P n ops Q (⟨dst, op, ty, pos, after, some (j, want)⟩ :: rest) env w := by
  subst hb
  exact EL.ungate ht hv htn h
variable {x y z : Operand} {ty : TypeId} {pos : String} {after : Array Edge} {O : Option Tmp} {gd : Option (Nat × Bool)}
theorem rn_pickTb {v : Value} {b : Bool} (hc : ev env z = some (vt b)) (hb : b = true) (hx : ev env x = some v) (w : World) : Runs P env ⟨O, .pick z x y, ty, pos, after, gd⟩ w v w := by subst hb; exact rn_pickT hc hx w
theorem rn_pickFb {v : Value} {b : Bool} (hc : ev env z = some (vt b)) (hb : b = false) (hy : ev env y = some v) (w : World) : Runs P env ⟨O, .pick z x y, ty, pos, after, gd⟩ w v w := by subst hb; exact rn_pickF hc hy w
end
theorem ne_of_t {b : Bool} (h : b = true) : b ≠ false := by rw [h]; decide
theorem ne_of_f {b : Bool} (h : b = false) : b ≠ true := by rw [h]; decide
section
variable {b w0 w : World} {s0 : Nat → Prop} {L : List Atom} {α : Type} {d : K2 α} {e : TypeId} {v : Value} {xs : List α}
theorem Nest.get' {s : Nat → Prop} {css : List (List Value)} {i : Nat} {x : α} {cs : List Value} (h : Nest d w s xs css) (hx : xs[i]? = some x) (hc : css[i]? = some cs) : d.K w x cs := by
  obtain ⟨s1, _, h2, _⟩ := h.focus hx hc
  exact d.K_agr (agr_only _ _) (d.M_K h2)
/-- An element's own part is taken out of its row. -/
theorem St.openE (h : St b w0 s0 L w) (i : Nat) (hi : nth L i = some (.row d e v xs)) {ix : Int} {x : α} {ad : Addr} {cs : List Value} (hE : EA v ix d.sz ad) (hx : atI xs ix = some x) (hA : CellsAt w ad 0 cs) (hl : cs.length = d.sz) : St b w0 s0 (app (upd L i (.hol d e v xs ix.toNat cs)) [.val d cs x]) w := by
  obtain ⟨h0, h1, h2⟩ := atI_some hx
  refine h.apart hi (fun s hs => ?_)
  obtain ⟨css, hr, ho, hn⟩ := hs
  obtain ⟨c1, hc⟩ := hn.get h2
  obtain ⟨ad', c', g1, g2, g3, g4, g5⟩ := hr.at _ _ hc
  have hcs : c1 = cs := by
    obtain ⟨A0, m, c2, q1, _, _, rfl⟩ := hE
    rw [g1] at q1
    injection q1 with q1 _ _
    injection q1 with q1
    subst q1
    exact cells_eq g5 hA ((hr.elt _ (List.mem_of_getElem? hc)).1.trans hl.symm)
  subst hcs
  obtain ⟨s1, f1, f2, f3⟩ := hn.focus h2 hc
  have f2' := d.M_lt f2
  refine ⟨fun k => s k ∧ ¬ s1 k, s1, fun k hk => hk, fun k hk => (f1 k hk).1, ⟨css, hr, fun k hk => ⟨ho k hk, fun h => (f1 k h).2 hk.symm⟩, hc, hn.len, fun w' x' t hw ht hm => ?_⟩, f2⟩
  have hset : css.set ix.toNat c1 = css := by
    refine List.ext_getElem? (fun m => ?_)
    rw [List.getElem?_set]
    by_cases hm : ix.toNat = m
    · subst hm
      have := (List.getElem?_eq_some_iff.1 hc).1
      simp [hc]
      exact this
    · rw [if_neg hm]
  have := f3 w' x' c1 t (fun k hk hn' => hw k ⟨hk.1, hn'⟩) (fun k hk h => ht k hk ⟨h.1.1, h.2⟩) hm
  rw [hset] at this
  exact this.sub (fun k hk => hk.elim (fun h => Or.inl ⟨⟨h.1.1, h.2⟩, h.1.2⟩) Or.inr)
theorem St.shutE (h : St b w0 s0 L w) (i j : Nat) {ix : Nat} {x' : α} {cs : List Value} (hi : nth L i = some (.hol d e v xs ix cs)) (hj : nth L j = some (.val d cs x')) (hij : i ≠ j) : St b w0 s0 (upd (upd L j .emp) i (.row d e v (xs.set ix x'))) w := by
  obtain ⟨s, t, hs, ht, hd, ⟨css, hr, ho, hc, hl, hN⟩, hM, hre⟩ := h.turn2f hi hj hij
  have hM : d.M w t x' cs := hM
  have hM' := d.M_lt hM
  refine hre w _ (fun k => s k ∨ t k) (Fr.refl _ _) (fun k hk => ⟨hk.elim (hs k) (ht k), Or.inl hk⟩) ⟨css, hr, fun k hk => Or.inl (ho k hk), ?_⟩
  refine (hN w x' t (fun _ _ => rfl) (fun k hk h => hd k h hk) hM).sub (fun k hk => hk.elim (fun h => ⟨Or.inl h.1, h.2⟩) (fun h => ⟨Or.inr h, fun e => hd k (ho k e.symm) h⟩))
end
section
variable {b w0 w : World} {s0 : Nat → Prop} {L : List Atom} {e e3 : TypeId} {v : Value}
theorem upd_upd : ∀ (L : List Atom) (i : Nat) (a c : Atom), upd (upd L i a) i c = upd L i c
  | [], _, _, _ => rfl
  | _ :: _, 0, _, _ => rfl
  | x :: r, i + 1, a, c => by show x :: upd (upd r i a) i c = x :: upd r i c; rw [upd_upd r i a c]
theorem upd_len : ∀ (L : List Atom) (i : Nat) (a : Atom), (upd L i a).length = L.length
  | [], _, _ => rfl
  | _ :: _, 0, _ => rfl
  | x :: r, i + 1, a => by show (upd r i a).length + 1 = r.length + 1; rw [upd_len r i a]
theorem upd_app_last : ∀ (L : List Atom) (a c : Atom), upd (app L [a]) L.length c = app L [c]
  | [], _, _ => rfl
  | x :: r, a, c => by show x :: upd (app r [a]) r.length c = x :: app r [c]; rw [upd_app_last r a c]
theorem St.openEnt (h : St b w0 s0 L w) (i : Nat) {xs : List Ent} (hi : nth L i = some (.row (kEnt e3) e v xs)) {ix : Int} {x : Ent} {ad : Addr} {v1 : Sv} (hE : EA v ix 6 ad) (hx : atI xs ix = some x) (hA : CellsAt w ad 0 [str x.q.name, vi x.q.ty, vi x.kind, sl v1, vi x.rank, vi x.till]) :
    St b w0 s0 (app (upd L i (.hol (kEnt e3) e v xs ix.toNat [str x.q.name, vi x.q.ty, vi x.kind, sl v1, vi x.rank, vi x.till])) [.row kRec e3 (sl v1) x.l]) w := by
  have h1 := h.openE i hi (d := kEnt e3) hE hx hA rfl
  have h2 := h1.conv _ (nth_app_last _ _) (a' := .row kRec e3 (sl v1) x.l) (fun w s hm => by
    obtain ⟨v2, hcs, hr⟩ := Ent_M hm
    injection hcs with _ hcs
    injection hcs with _ hcs
    injection hcs with _ hcs
    injection hcs with hcs _
    rw [hcs]; exact hr)
  rwa [upd_app_last] at h2
theorem St.shutEnt (h : St b w0 s0 L w) (i j : Nat) {xs : List Ent} {ix : Nat} {x : Ent} {v1 : Sv} {ys : List Rec} (hi : nth L i = some (.hol (kEnt e3) e v xs ix [str x.q.name, vi x.q.ty, vi x.kind, sl v1, vi x.rank, vi x.till])) (hj : nth L j = some (.row kRec e3 (sl v1) ys)) (hij : i ≠ j) :
    St b w0 s0 (upd (upd L j .emp) i (.row (kEnt e3) e v (xs.set ix { x with l := ys }))) w := by
  have h1 := h.conv j hj (a' := .val (kEnt e3) [str x.q.name, vi x.q.ty, vi x.kind, sl v1, vi x.rank, vi x.till] { x with l := ys }) (fun w s hr => Ent_Mk (x := { x with l := ys }) hr)
  have h2 := h1.shutE i j ((nth_upd_ne hij).trans hi) (nth_upd_self hj) hij
  rwa [upd_upd] at h2
theorem St.openZon (h : St b w0 s0 L w) (i : Nat) {xs : List Zon} (hi : nth L i = some (.row (kZon e3) e v xs)) {ix : Int} {x : Zon} {ad : Addr} {v1 : Sv} (hE : EA v ix 2 ad) (hx : atI xs ix = some x) (hA : CellsAt w ad 0 [str x.apex, sl v1]) :
    St b w0 s0 (app (upd L i (.hol (kZon e3) e v xs ix.toNat [str x.apex, sl v1])) [.row kRec e3 (sl v1) x.l]) w := by
  have h1 := h.openE i hi (d := kZon e3) hE hx hA rfl
  have h2 := h1.conv _ (nth_app_last _ _) (a' := .row kRec e3 (sl v1) x.l) (fun w s hm => by
    obtain ⟨v2, hcs, hr⟩ := Zon_M hm
    injection hcs with _ hcs
    injection hcs with hcs _
    rw [hcs]; exact hr)
  rwa [upd_app_last] at h2
theorem St.shutZon (h : St b w0 s0 L w) (i j : Nat) {xs : List Zon} {ix : Nat} {x : Zon} {v1 : Sv} {ys : List Rec} (hi : nth L i = some (.hol (kZon e3) e v xs ix [str x.apex, sl v1])) (hj : nth L j = some (.row kRec e3 (sl v1) ys)) (hij : i ≠ j) :
    St b w0 s0 (upd (upd L j .emp) i (.row (kZon e3) e v (xs.set ix { x with l := ys }))) w := by
  have h1 := h.conv j hj (a' := .val (kZon e3) [str x.apex, sl v1] { x with l := ys }) (fun w s hr => Zon_Mk (x := { x with l := ys }) hr)
  have h2 := h1.shutE i j ((nth_upd_ne hij).trans hi) (nth_upd_self hj) hij
  rwa [upd_upd] at h2
end
end Go.Proofs.Ytcolndejambcmaa.Ew
