/- The steps of a walk over the state, first part: what only computes or reads. -/
import Derived.Test.YtcolndejambcmaaS
namespace Go.Proofs.Ytcolndejambcmaa.Ew
open Go.RowKit Go.Proofs.YtcolndejambcmaaW.PrintWords Go.Proofs.YtcolndejambcmaaW.PrintLast
set_option linter.unusedVariables false
set_option linter.unusedSimpArgs false
abbrev Str := List UInt8
abbrev str (l : List UInt8) : Value := .string ⟨l.toArray⟩
abbrev vi (x : Int) : Value := .int .i64 x
abbrev vb (x : UInt8) : Value := .int .u8 (x.toNat : Int)
abbrev vt (b : Bool) : Value := .bool b
/-- A slice's three words. -/
abbrev Sv := Option Addr × Nat × Nat
abbrev sl (v : Sv) : Value := .slice v.1 v.2.1 v.2.2
/-- A byte of a number. -/
def u8 (x : Int) : UInt8 := UInt8.ofNat (x % 256).toNat
theorem u8_wrap (x : Int) : IntKind.u8.wrap x = ((u8 x).toNat : Int) := by
  have h : IntKind.u8.wrap x = x % 256 := by
    simp [IntKind.wrap, IntKind.bits, IntKind.signed]
    try omega
  rw [h]
  unfold u8
  have h1 : 0 ≤ x % 256 := by omega
  have h2 : x % 256 < 256 := by omega
  simp
  omega
theorem u8_nat (c : UInt8) : u8 (c.toNat : Int) = c := by
  unfold u8
  have : (c.toNat : Int) % 256 = (c.toNat : Int) := by have := c.toNat_lt; omega
  rw [this]
  simp
theorem str_inj {a b : Str} : (⟨a.toArray⟩ : ByteArray) = ⟨b.toArray⟩ ↔ a = b := by
  constructor
  · intro h; injection h with h; simpa using h
  · rintro rfl; rfl
/-! ### pure words -/
def lim : Nat := 4294967296
/-- An element of a list, at a whole number. -/
def atI {α : Type} (xs : List α) (i : Int) : Option α := if 0 ≤ i then xs[i.toNat]? else none
theorem atI_some {α : Type} {xs : List α} {i : Int} {x : α} (h : atI xs i = some x) : 0 ≤ i ∧ i < xs.length ∧ xs[i.toNat]? = some x := by
  unfold atI at h
  split at h
  · have := (List.getElem?_eq_some_iff.1 h).1
    exact ⟨by assumption, by omega, h⟩
  · cases h
def apL {α : Type} (xs ys : List α) : Option (List α) := if xs.length + ys.length ≤ lim then some (xs ++ ys) else none
theorem apL_some {α : Type} {xs ys zs : List α} (h : apL xs ys = some zs) : xs.length + ys.length ≤ lim ∧ zs = xs ++ ys := by
  unfold apL at h
  split at h
  · injection h with h; exact ⟨by assumption, h.symm⟩
  · cases h
def mkL {α : Type} (z : α) (n : Int) : Option (List α) := if 0 ≤ n ∧ n ≤ lim then some (List.replicate n.toNat z) else none
theorem mkL_some {α : Type} {z : α} {n : Int} {xs : List α} (h : mkL z n = some xs) : 0 ≤ n ∧ n ≤ lim ∧ xs = List.replicate n.toNat z := by
  unfold mkL at h
  split at h
  · rename_i h1; injection h with h; exact ⟨h1.1, h1.2, h.symm⟩
  · cases h
def setI {α : Type} (xs : List α) (i : Int) (x : α) : Option (List α) := if 0 ≤ i ∧ i < xs.length then some (xs.set i.toNat x) else none
theorem setI_some {α : Type} {xs ys : List α} {i : Int} {x : α} (h : setI xs i x = some ys) : 0 ≤ i ∧ i < xs.length ∧ ys = xs.set i.toNat x := by
  unfold setI at h
  split at h
  · rename_i h1; injection h with h; exact ⟨h1.1, h1.2, h.symm⟩
  · cases h
def subL {α : Type} (xs : List α) (lo hi : Int) : Option (List α) := if 0 ≤ lo ∧ lo ≤ hi ∧ hi ≤ xs.length then some ((xs.take hi.toNat).drop lo.toNat) else none
theorem subL_some {α : Type} {xs ys : List α} {lo hi : Int} (h : subL xs lo hi = some ys) : 0 ≤ lo ∧ lo ≤ hi ∧ hi ≤ xs.length ∧ ys = (xs.take hi.toNat).drop lo.toNat := by
  unfold subL at h
  split at h
  · rename_i h1; injection h with h; exact ⟨h1.1, h1.2.1, h1.2.2, h.symm⟩
  · cases h
def catS (a b : Str) : Option Str := if a.length + b.length ≤ 4611686018427387904 then some (a ++ b) else none
theorem catS_some {a b c : Str} (h : catS a b = some c) : a.length + b.length ≤ 4611686018427387904 ∧ c = a ++ b := by
  unfold catS at h
  split at h
  · injection h with h; exact ⟨by assumption, h.symm⟩
  · cases h
def chk {α : Type} (p : Prop) [Decidable p] (x : Option α) : Option α := if p then x else none
theorem chk_some {α : Type} {p : Prop} [Decidable p] {x : Option α} {r : α} (h : chk p x = some r) : p ∧ x = some r := by
  unfold chk at h
  split at h
  · exact ⟨by assumption, h⟩
  · cases h
theorem bnd {α β : Type} {x : Option α} {f : α → Option β} {r : β} (h : x.bind f = some r) : ∃ y, x = some y ∧ f y = some r := by
  cases x with
  | none => cases h
  | some y => exact ⟨y, rfl, h⟩
theorem bifT {α : Type} {b : Bool} {x y : Option α} {r : α} (hb : b = true) (h : (bif b then x else y) = some r) : x = some r := by subst hb; exact h
theorem bifF {α : Type} {b : Bool} {x y : Option α} {r : α} (hb : b = false) (h : (bif b then x else y) = some r) : y = some r := by subst hb; exact h
/-- A round's outcome: again, out of the loop, or out of the function. -/
inductive Stp (S B R : Type) where
  | next (s : S)
  | brk (b : B)
  | ret (r : R)
inductive Out (B R : Type) where
  | brk (b : B)
  | ret (r : R)
/-- A loop, at most k rounds. -/
def iter {S B R : Type} (body : S → Option (Stp S B R)) : Nat → S → Option (Out B R)
  | 0, _ => none
  | k + 1, s => (body s).bind fun
    | .next s' => iter body k s'
    | .brk b => some (.brk b)
    | .ret r => some (.ret r)
/-- What comes of a loop's outcome. -/
def Out.go {B R : Type} (f : B → Option R) : Out B R → Option R
  | .brk b => f b
  | .ret r => some r

/-! ### strings, numbers -/
section
variable {P : Program} {n : Nat} {Q : Exit → Env → World → Prop} {env : Env} {w : World} {ops : Array Oper} {rest : List Oper} {α : Type}
theorem SL.slen {x : Operand} {t : TypeId} {ty : TypeId} {pos : String} {after : Array Edge} {d : Nat} {s : Str} (hx : ev env x = some (str s)) (hu : P.underlying t = some .string) (hn : d < n)
    (k : EL P n ops Q rest ((d, vi (s.length : Int)) :: env) w) : EL P n ops Q (⟨some d, .call { callee := .builtin .len, args := #[x], argTypes := #[t] }, ty, pos, after, none⟩ :: rest) env w :=
  EL.slen hx hu hn k
theorem SL.scat {x y : Operand} {t t2 : TypeId} {a b c : Str} {d : Nat} {ty : TypeId} {pos : String} {after : Array Edge} (hx : ev env x = some (str a)) (hy : ev env y = some (str b)) (hc : catS a b = some c) (hn : d < n)
    (k : EL P n ops Q rest ((d, str c) :: env) w) : EL P n ops Q (⟨some d, .binOp .add t x y t2, ty, pos, after, none⟩ :: rest) env w := by
  obtain ⟨hl, rfl⟩ := catS_some hc
  refine EL.cat hx hy ?_ hn ?_
  · show a.toArray.size + b.toArray.size ≤ _
    simp; omega
  · have : ((⟨a.toArray⟩ : ByteArray) ++ (⟨b.toArray⟩ : ByteArray)) = ⟨(a ++ b).toArray⟩ := by
      apply ByteArray.ext
      rw [ByteArray.data_append]
      simp
    rw [this]; exact k
theorem SL.seq {x y : Operand} {t t2 : TypeId} {a b : Str} {d : Nat} {ty : TypeId} {pos : String} {after : Array Edge} (hx : ev env x = some (str a)) (hy : ev env y = some (str b)) (hn : d < n)
    (k : EL P n ops Q rest ((d, vt (decide (a = b))) :: env) w) : EL P n ops Q (⟨some d, .binOp .eql t x y t2, ty, pos, after, none⟩ :: rest) env w := by
  refine EL.q (v := vt (decide (a = b))) ?_ rfl rfl hn k
  simp only [qval, hx, hy, qbin, binStr, str_inj]
theorem SL.sne {x y : Operand} {t t2 : TypeId} {a b : Str} {d : Nat} {ty : TypeId} {pos : String} {after : Array Edge} (hx : ev env x = some (str a)) (hy : ev env y = some (str b)) (hn : d < n)
    (k : EL P n ops Q rest ((d, vt (!decide (a = b))) :: env) w) : EL P n ops Q (⟨some d, .binOp .neq t x y t2, ty, pos, after, none⟩ :: rest) env w := by
  refine EL.q (v := vt (!decide (a = b))) ?_ rfl rfl hn k
  simp only [qval, hx, hy, qbin, binStr, str_inj]
/-- Whether a string is less. -/
def sLt (a b : Str) : Bool := Op.bytesLess a b
theorem SL.slt {x y : Operand} {t t2 : TypeId} {a b : Str} {d : Nat} {ty : TypeId} {pos : String} {after : Array Edge} (hx : ev env x = some (str a)) (hy : ev env y = some (str b)) (hn : d < n)
    (k : EL P n ops Q rest ((d, vt (sLt a b)) :: env) w) : EL P n ops Q (⟨some d, .binOp .lss t x y t2, ty, pos, after, none⟩ :: rest) env w := by
  refine EL.val (fun ρ hρ => ?_) rfl rfl hn k
  have h1 := hρ x _ hx
  have h2 := hρ y _ hy
  simp [execOp, eqGuard, h1, h2, binOp, Op.stringOp, sLt, bytes_list]
theorem SL.sidx {t : TypeId} {x ix : Operand} {ty : TypeId} {pos : String} {after : Array Edge} {d : Nat} {s : Str} {i : Int} {k0 : IntKind} {c : UInt8} (hx : ev env x = some (str s)) (hi : ev env ix = some (.int k0 i)) (hat : atI s i = some c) (hu : P.underlying t = some .string) (hn : d < n)
    (k : EL P n ops Q rest ((d, vb c) :: env) w) : EL P n ops Q (⟨some d, .index t x ix, ty, pos, after, none⟩ :: rest) env w := by
  obtain ⟨h0, h1, h2⟩ := atI_some hat
  refine EL.val (fun ρ hρ => ?_) rfl rfl hn k
  have h3 := hρ x _ hx
  have h4 := hρ ix _ hi
  have h5 : (⟨s.toArray⟩ : ByteArray)[i.toNat]? = some c := by
    have hl : i.toNat < s.length := by omega
    have : i.toNat < (⟨s.toArray⟩ : ByteArray).size := by show i.toNat < s.toArray.size; simpa using hl
    rw [getElem?_pos (⟨s.toArray⟩ : ByteArray) i.toNat this]
    show some (s.toArray[i.toNat]) = _
    rw [← h2]; simp [hl]
  simp [execOp, Instr.index, h3, h4, asIntOf, run_underlying hu, h0, h5]
theorem str_extract (s : Str) (lo hi : Nat) : (⟨s.toArray⟩ : ByteArray).extract lo hi = ⟨((s.take hi).drop lo).toArray⟩ := by
  apply ByteArray.ext
  rw [ByteArray.data_extract]
  simp [List.drop_take]
theorem SL.ssub {t : TypeId} {x : Operand} {ol oh : Option Operand} {ty : TypeId} {pos : String} {after : Array Edge} {d : Nat} {s r : Str} {lo hi : Int} (hx : ev env x = some (str s)) (hl : (match ol with | none => lo = 0 | some o => ∃ k0, ev env o = some (.int k0 lo))) (hh : (match oh with | none => hi = (s.length : Int) | some o => ∃ k0, ev env o = some (.int k0 hi))) (hs : subL s lo hi = some r) (hu : P.underlying t = some .string) (hn : d < n)
    (k : EL P n ops Q rest ((d, str r) :: env) w) : EL P n ops Q (⟨some d, .slice t x ol oh none, ty, pos, after, none⟩ :: rest) env w := by
  obtain ⟨h0, h1, h2, rfl⟩ := subL_some hs
  refine EL.val (fun ρ hρ => ?_) rfl rfl hn k
  have h3 := hρ x _ hx
  have hsz : (⟨s.toArray⟩ : ByteArray).size = s.length := by show s.toArray.size = _; simp
  have e1 : (Instr.sliceBounds false s.length s.length (ol.map ρ) (oh.map ρ) none).run P w = .ok (lo.toNat, hi.toNat, s.length) w := by
    have hlo : ∀ (y : Nat) (code : BoundsCode), hi = (y : Int) → (match ol.map ρ with | some v => Instr.sliceBound v y code | none => pure 0).run P w = .ok lo.toNat w := by
      intro y code hy
      cases ol with
      | none => simp only at hl; subst hl; simp
      | some o =>
        obtain ⟨k0, hl⟩ := hl
        have := hρ o _ hl
        have h5 : 0 ≤ lo ∧ lo ≤ (y : Int) := by omega
        simp [this, Instr.sliceBound, asIntOf, h5]
    cases oh with
    | none =>
      simp only at hh
      subst hh
      have := hlo s.length .sliceB rfl
      simp only [Instr.sliceBounds, Option.map_none] at this ⊢
      cases ol with
      | none => simp at this ⊢; exact this
      | some o => simp at this ⊢; simp [this]
    | some o =>
      obtain ⟨k0, hh⟩ := hh
      have h4 := hρ o _ hh
      have h5 : 0 ≤ hi ∧ hi ≤ (s.length : Int) := by omega
      have := hlo hi.toNat .sliceB (by omega)
      cases ol with
      | none => simp at this; simp [Instr.sliceBounds, h4, Instr.sliceBound, asIntOf, h5, this]
      | some o2 =>
        obtain ⟨k1, hl⟩ := hl
        have h6 := hρ o2 _ hl
        have h7 : 0 ≤ lo ∧ lo ≤ (hi.toNat : Int) := by omega
        simp [Instr.sliceBounds, h4, h6, Instr.sliceBound, asIntOf, h5, h7]
        intro h8; omega
  have e2 := str_extract s lo.toNat hi.toNat
  have e3 : (Instr.sliceAt t (str s) (ol.map ρ) (oh.map ρ) none).run P w = .ok (str ((s.take hi.toNat).drop lo.toNat)) w := by
    simp [Instr.sliceAt, Instr.slice, run_underlying hu, hsz]
    rw [e1]
    simp [e2]
  simp [execOp, h3]
  rw [e3]
  rfl
end
end Go.Proofs.Ytcolndejambcmaa.Ew
