/- The steps of the walk, third part: conversions, division, text. -/
import Derived.Test.YtcolndejambcmaaOp2
namespace Go.Proofs.Ytcolndejambcmaa.Ew
open Go.RowKit Go.Proofs.YtcolndejambcmaaW.PrintWords Go.Proofs.YtcolndejambcmaaW.PrintLast
set_option linter.unusedVariables false
set_option linter.unusedSimpArgs false
section
variable {P : Program} {n : Nat} {Q : Exit → Env → World → Prop} {env : Env} {w : World} {ops : Array Oper} {rest : List Oper} {α : Type}
/-- Between kinds of whole numbers. -/
theorem EL.conv {s t : TypeId} {x : Operand} {ks kt : IntKind} {a : Int} {d : Nat} {ty : TypeId} {pos : String} {after : Array Edge} (hx : ev env x = some (.int ks a)) (hs : P.underlying s = some (.int ks)) (ht : P.underlying t = some (.int kt)) (hn : d < n)
    (k : EL P n ops Q rest ((d, .int kt (kt.wrap a)) :: env) w) : EL P n ops Q (⟨some d, .convert s t x, ty, pos, after, none⟩ :: rest) env w := by
  refine EL.val (fun ρ hρ => ?_) rfl rfl hn k
  have h1 := hρ x _ hx
  simp [execOp, convert, run_underlying hs, run_underlying ht, h1, Conv.intToInt]
theorem EL.rem {x y : Operand} {t t2 : TypeId} {k0 : IntKind} {a b : Int} {d : Nat} {ty : TypeId} {pos : String} {after : Array Edge} (hx : ev env x = some (.int k0 a)) (hy : ev env y = some (.int k0 b)) (hb : b ≠ 0) (hn : d < n)
    (k : EL P n ops Q rest ((d, .int k0 (a.tmod b)) :: env) w) : EL P n ops Q (⟨some d, .binOp .rem t x y t2, ty, pos, after, none⟩ :: rest) env w := by
  refine EL.val (fun ρ hρ => ?_) rfl rfl hn k
  have h1 := hρ x _ hx
  have h2 := hρ y _ hy
  simp [execOp, eqGuard, h1, h2, binOp, Op.intDiv, hb]
theorem EL.quo {x y : Operand} {t t2 : TypeId} {k0 : IntKind} {a b : Int} {d : Nat} {ty : TypeId} {pos : String} {after : Array Edge} (hx : ev env x = some (.int k0 a)) (hy : ev env y = some (.int k0 b)) (hb : b ≠ 0) (hn : d < n)
    (k : EL P n ops Q rest ((d, .int k0 (k0.wrap (a.tdiv b))) :: env) w) : EL P n ops Q (⟨some d, .binOp .quo t x y t2, ty, pos, after, none⟩ :: rest) env w := by
  refine EL.val (fun ρ hρ => ?_) rfl rfl hn k
  have h1 := hρ x _ hx
  have h2 := hρ y _ hy
  simp [execOp, eqGuard, h1, h2, binOp, Op.intDiv, hb]
theorem EL.cat {x y : Operand} {t t2 : TypeId} {a b : ByteArray} {d : Nat} {ty : TypeId} {pos : String} {after : Array Edge} (hx : ev env x = some (.string a)) (hy : ev env y = some (.string b)) (hl : a.size + b.size ≤ 9223372036854775807) (hn : d < n)
    (k : EL P n ops Q rest ((d, .string (a ++ b)) :: env) w) : EL P n ops Q (⟨some d, .binOp .add t x y t2, ty, pos, after, none⟩ :: rest) env w := by
  refine EL.val (fun ρ hρ => ?_) rfl rfl hn k
  have h1 := hρ x _ hx
  have h2 := hρ y _ hy
  have h3 : ¬ (IntKind.i64.max < (a.size : Int) + (b.size : Int)) := by
    have : IntKind.i64.max = 9223372036854775807 := by decide
    rw [this]; omega
  simp [execOp, eqGuard, h1, h2, binOp, Op.stringOp, h3]
  omega
theorem EL.b2s {s t e : TypeId} {x : Operand} {g off m cap : Nat} {xs : List Int} {d : Nat} {ty : TypeId} {pos : String} {after : Array Edge} (hx : ev env x = some (.slice (some ⟨g, off, none⟩) m cap)) (hs : P.underlying s = some (.slice e)) (he : P.underlying e = some (.int .u8)) (ht : P.underlying t = some .string) (hl : xs.length = m)
    (hc : ∀ i, i < m → w.cell? ((⟨g, off, none⟩ : Addr).add i) = some (.int .u8 (xs.getD i 0))) (hn : d < n)
    (k : EL P n ops Q rest ((d, .string (strOfNums xs)) :: env) w) : EL P n ops Q (⟨some d, .convert s t x, ty, pos, after, none⟩ :: rest) env w := by
  refine EL.val (fun ρ hρ => ?_) rfl rfl hn k
  have h1 := hρ x _ hx
  have h2 := run_convert_bytes_arg (P := P) w s e hs he g off m cap xs hl (fun i hi => by
    have := hc i hi
    have ha : (⟨g, off, none⟩ : Addr).add i = ⟨g, off + i, none⟩ := by unfold Addr.add; split <;> simp_all
    first | rwa [ha] at this | exact this) t ht
  simp [execOp, h1, h2]
theorem run_eq_snil {t e : TypeId} (hu : P.underlying t = some (.slice e)) (A : Option Addr) (l c l2 c2 : Nat) (w : World) : (Op.equal t (.slice A l c) (.slice none l2 c2)).run P w = .ok A.isNone w := by
  have h : Op.equal t (.slice A l c) (.slice none l2 c2) = Op.equalIn (9999 + 1) t (.slice A l c) (.slice none l2 c2) := rfl
  rw [h]
  unfold Op.equalIn
  cases A <;> simp [run_underlying hu]
theorem run_eq_bool {t : TypeId} (hu : P.underlying t = some .bool) (a b : Bool) (w : World) : (Op.equal t (.bool a) (.bool b)).run P w = .ok (a == b) w := by
  have h : Op.equal t (.bool a) (.bool b) = Op.equalIn (9999 + 1) t (.bool a) (.bool b) := rfl
  rw [h]
  unfold Op.equalIn
  simp [run_underlying hu]
/-- 's == nil'. -/
theorem EL.snil {x : Operand} {t t2 e : TypeId} {A : Option Addr} {l c l2 c2 : Nat} {y : Operand} {d : Nat} {ty : TypeId} {pos : String} {after : Array Edge} (hx : ev env x = some (.slice A l c)) (hy : ev env y = some (.slice none l2 c2)) (hu : P.underlying t = some (.slice e)) (hn : d < n)
    (k : EL P n ops Q rest ((d, .bool A.isNone) :: env) w) : EL P n ops Q (⟨some d, .binOp .eql t x y t2, ty, pos, after, none⟩ :: rest) env w := by
  refine EL.val (fun ρ hρ => ?_) rfl rfl hn k
  have h1 := hρ x _ hx
  have h2 := hρ y _ hy
  simp [execOp, eqGuard, h1, h2, binOp, run_eq_snil hu]
theorem EL.beq {x y : Operand} {t t2 : TypeId} {a b : Bool} {d : Nat} {ty : TypeId} {pos : String} {after : Array Edge} (hx : ev env x = some (.bool a)) (hy : ev env y = some (.bool b)) (hu : P.underlying t = some .bool) (hn : d < n)
    (k : EL P n ops Q rest ((d, .bool (a == b)) :: env) w) : EL P n ops Q (⟨some d, .binOp .eql t x y t2, ty, pos, after, none⟩ :: rest) env w := by
  refine EL.val (fun ρ hρ => ?_) rfl rfl hn k
  have h1 := hρ x _ hx
  have h2 := hρ y _ hy
  simp [execOp, eqGuard, h1, h2, binOp, run_eq_bool hu]
theorem EL.bne {x y : Operand} {t t2 : TypeId} {a b : Bool} {d : Nat} {ty : TypeId} {pos : String} {after : Array Edge} (hx : ev env x = some (.bool a)) (hy : ev env y = some (.bool b)) (hu : P.underlying t = some .bool) (hn : d < n)
    (k : EL P n ops Q rest ((d, .bool (!(a == b))) :: env) w) : EL P n ops Q (⟨some d, .binOp .neq t x y t2, ty, pos, after, none⟩ :: rest) env w := by
  refine EL.val (fun ρ hρ => ?_) rfl rfl hn k
  have h1 := hρ x _ hx
  have h2 := hρ y _ hy
  simp [execOp, eqGuard, h1, h2, binOp, run_eq_bool hu]
end
end Go.Proofs.Ytcolndejambcmaa.Ew
