/- The steps of the walk, fourth part: guarded operations ('&&', '||'), and ways that meet again. -/
import Derived.Test.YtcolndejambcmaaOp3
namespace Go.Proofs.Ytcolndejambcmaa.Ew
open Go.RowKit Go.Proofs.YtcolndejambcmaaW.PrintWords Go.Proofs.YtcolndejambcmaaW.PrintLast
set_option linter.unusedVariables false
set_option linter.unusedSimpArgs false
section
variable {P : Program} {n : Nat} {Q : Exit → Env → World → Prop} {env : Env} {w : World} {ops : Array Oper} {rest : List Oper} {α : Type}
theorem Has.again {e : Env} {a : Act} (h : Has n e a) {t : Nat} {v : Value} (hv : lk e t = some v) : Has n ((t, v) :: e) a := by
  refine ⟨h.size, h.nod, fun s u hl => ?_⟩
  rw [lk_cons] at hl
  by_cases hk : t = s
  · subst hk
    rw [if_pos rfl] at hl
    injection hl with hl
    subst hl
    exact h.get _ _ hv
  · rw [if_neg hk] at hl
    exact h.get _ _ hl
/-- A Bool in a slot: both ways. -/
theorem EL.split {l : List Oper} {t : Nat} {b : Bool} (ht : lk env t = some (.bool b)) (h1 : b = true → EL P n ops Q l ((t, .bool true) :: env) w) (h2 : b = false → EL P n ops Q l ((t, .bool false) :: env) w) : EL P n ops Q l env w := by
  intro a ha
  cases b with
  | true => exact h1 rfl a (ha.again ht)
  | false => exact h2 rfl a (ha.again ht)
theorem EL.pickT {c x y : Operand} {v : Value} {d : Nat} {ty : TypeId} {pos : String} {after : Array Edge} (hc : ev env c = some (.bool true)) (hx : ev env x = some v) (hn : d < n) (k : EL P n ops Q rest ((d, v) :: env) w) : EL P n ops Q (⟨some d, .pick c x y, ty, pos, after, none⟩ :: rest) env w := by
  refine EL.val (fun ρ hρ => ?_) rfl rfl hn k
  simp [execOp, hρ c _ hc, hρ x _ hx, asBool]
theorem EL.pickF {c x y : Operand} {v : Value} {d : Nat} {ty : TypeId} {pos : String} {after : Array Edge} (hc : ev env c = some (.bool false)) (hy : ev env y = some v) (hn : d < n) (k : EL P n ops Q rest ((d, v) :: env) w) : EL P n ops Q (⟨some d, .pick c x y, ty, pos, after, none⟩ :: rest) env w := by
  refine EL.val (fun ρ hρ => ?_) rfl rfl hn k
  simp [execOp, hρ c _ hc, hρ y _ hy, asBool]
/-- A guard that is met. -/
theorem EL.ungate {dst : Option Tmp} {op : Op} {ty : TypeId} {pos : String} {after : Array Edge} {j t : Nat} {want : Bool} (ht : (ops[j]?).bind (·.dst) = some t) (hv : lk env t = some (.bool want)) (htn : t < n)
    (h : EL P n ops Q (⟨dst, op, ty, pos, after, none⟩ :: rest) env w) : EL P n ops Q (⟨dst, op, ty, pos, after, some (j, want)⟩ :: rest) env w := by
  intro a ha
  have h0 := h a ha
  have h1 : a.tmps.getD t undef = .bool want := ha.get t _ hv
  have hlt : t < a.tmps.size := by rw [ha.size]; exact htn
  have hy : yielded ops a.tmps j = some want := by
    unfold yielded
    rw [ht]
    simp [hlt] at h1 ⊢
    rw [h1]
  have hw : Region.wanted (⟨dst, op, ty, pos, after, some (j, want)⟩ : Oper) (yielded ops a.tmps) = true := by
    unfold Region.wanted
    simp [hy]
  have hw0 : Region.wanted (⟨dst, op, ty, pos, after, none⟩ : Oper) (yielded ops a.tmps) = true := rfl
  unfold wpList at h0 ⊢
  rw [if_pos hw0] at h0
  rw [if_pos hw]
  exact h0
/-- A guard that is not met: the operation is passed over. -/
theorem EL.pass {d : Nat} {op : Op} {ty : TypeId} {pos : String} {after : Array Edge} {j t : Nat} {b want : Bool} (ht : (ops[j]?).bind (·.dst) = some t) (hv : lk env t = some (.bool b)) (hb : b ≠ want) (htn : t < n) (hn : d < n)
    (h : EL P n ops Q rest ((d, undef) :: env) w) : EL P n ops Q (⟨some d, op, ty, pos, after, some (j, want)⟩ :: rest) env w := EL.off rfl ht hv hb htn rfl hn h
/-- A guard whose own operation was passed over. -/
theorem EL.pass0 {d : Nat} {op : Op} {ty : TypeId} {pos : String} {after : Array Edge} {j t : Nat} {want : Bool} (ht : (ops[j]?).bind (·.dst) = some t) (hv : lk env t = some undef) (htn : t < n) (hn : d < n)
    (h : EL P n ops Q rest ((d, undef) :: env) w) : EL P n ops Q (⟨some d, op, ty, pos, after, some (j, want)⟩ :: rest) env w := by
  intro a ha
  have h1 : a.tmps.getD t undef = undef := ha.get t _ hv
  have hlt : t < a.tmps.size := by rw [ha.size]; exact htn
  have hy : yielded ops a.tmps j = none := by
    unfold yielded
    rw [ht]
    simp [hlt] at h1 ⊢
    rw [h1]
    rfl
  refine wpList_step fun K hK => ?_
  have : Region.wanted (⟨some d, op, ty, pos, after, some (j, want)⟩ : Oper) (yielded ops a.tmps) = false := by
    unfold Region.wanted
    simp [hy]
  rw [this]
  exact hK _ _ (h _ (ha.put hn _))
theorem EW.condT {c : Operand} {x y : Code} (hc : ev env c = some (.bool true)) (h : EW P n x Q env w) : EW P n (.cond c x y) Q env w := EW.cond hc (fun _ => h) (fun h => by cases h)
theorem EW.condF {c : Operand} {x y : Code} (hc : ev env c = some (.bool false)) (h : EW P n y Q env w) : EW P n (.cond c x y) Q env w := EW.cond hc (fun h => by cases h) (fun _ => h)
/-- Ways that meet: what holds between x and y. -/
theorem EW.seqM {x y : Code} (M : Env → World → Prop) (h : EW P n x (thenE M Q) env w) (k : ∀ e w, M e w → EW P n y Q e w) : EW P n (.seq x y) Q env w := by
  refine EW.seq (fun a ha => wp_mono (h a ha) ?_)
  intro e a' w' hq
  cases e with
  | normal => obtain ⟨e1, h1, h2⟩ := hq; exact ⟨e1, h1, k _ _ h2⟩
  | exit id => exact hq
  | goto l => exact hq
  | ret => exact hq
  | panic c => exact hq
  | outgrown => exact hq
/-- Two structs compared. -/
theorem EL.aeq {x y : Operand} {t t2 : TypeId} {xs ys : Array Value} {r : Bool} {d : Nat} {ty : TypeId} {pos : String} {after : Array Edge} (hx : ev env x = some (.agg xs)) (hy : ev env y = some (.agg ys)) (hm : P.eqGuardType P.depth t = false) (hr : ∀ w, (Op.equalIn 10000 t (.agg xs) (.agg ys)).run P w = .ok r w) (hn : d < n)
    (k : EL P n ops Q rest ((d, .bool r) :: env) w) : EL P n ops Q (⟨some d, .binOp .eql t x y t2, ty, pos, after, none⟩ :: rest) env w := by
  refine EL.val (fun ρ hρ => ?_) rfl rfl hn k
  have h1 := hρ x _ hx
  have h2 := hρ y _ hy
  simp [execOp, h1, h2, run_eqGuard_agg w _ t x y xs ys hm, run_eql_struct, hr]
theorem EL.ane {x y : Operand} {t t2 : TypeId} {xs ys : Array Value} {r : Bool} {d : Nat} {ty : TypeId} {pos : String} {after : Array Edge} (hx : ev env x = some (.agg xs)) (hy : ev env y = some (.agg ys)) (hm : P.eqGuardType P.depth t = false) (hr : ∀ w, (Op.equalIn 10000 t (.agg xs) (.agg ys)).run P w = .ok r w) (hn : d < n)
    (k : EL P n ops Q rest ((d, .bool (!r)) :: env) w) : EL P n ops Q (⟨some d, .binOp .neq t x y t2, ty, pos, after, none⟩ :: rest) env w := by
  refine EL.val (fun ρ hρ => ?_) rfl rfl hn k
  have h1 := hρ x _ hx
  have h2 := hρ y _ hy
  simp [execOp, h1, h2, run_eqGuard_agg w _ t x y xs ys hm, run_neq_struct, hr]
theorem CellsAt.take {A : Addr} : ∀ (k : Nat) {cs : List Value} {i : Nat}, CellsAt w A i cs → CellsAt w A i (cs.take k)
  | 0, _, _, _ => trivial
  | _ + 1, [], _, _ => trivial
  | k + 1, _ :: _, _, h => ⟨h.1, CellsAt.take k h.2⟩
end
end Go.Proofs.Ytcolndejambcmaa.Ew
