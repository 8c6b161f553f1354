/- The law FnExactExpire holds for every input: it returns true, and each argument reads behind the call as it read before. -/
import Derived.Test.YtcolndejambcmaaRows
import Derived.Test.YtcolndejambcmaaOpn
import Derived.Test.YtcolndejambcmaaY
import Derived.Test.YtcolndejambcmaaPExp
import Derived.Test.YtcolndejambcmaaG4
import Derived.WalkKit
import Derived.ProofKit
import Derived.OpenShut
import Derived.ShutString
import Derived.ChangeOld
import Derived.Below
import Derived.SizedLaws
namespace Go.Proofs.Ytcolndejambcmaa.fnExactExpire
open Go.ChangeShapes Go.WideShapes Go.ChangeAt Go.RowKit Go.Proofs.Ytcolndejambcmaa.Ew Go.Proofs.YtcolndejambcmaaW.PrintWords Go.Proofs.YtcolndejambcmaaW.PrintLast
set_option linter.unusedVariables false
theorem own : ownKnob Try.prog.godebug = none := by kernel_rfl
theorem laidOut : laidOutB Try.prog = true := by kernel_rfl
set_option maxRecDepth 100000 in
set_option maxHeartbeats 4000000 in
theorem lifted (os : Os) (started : os.Started) (H : Type) (enc : TypeId × Value → H) :
    ReturnsInHanded {} Try.checked os 4 .any (Rows.fnExactExpireSpec.pre6 enc Try.prog Try.f4 Rows.fnExactExpireRow.domain false) (Rows.fnExactExpireSpec.post enc Try.prog Try.f4 false true false false) := by
  refine returnsInHanded_of_change_sized (C := Try.checked) own started (by kernel_rfl) Try.func4
    (ChangeSpec.witness6 (enc := enc) (C := Try.checked) false ⟨#[], #[.agg #[.int .i64 0, .slice none 0 0], .int .i64 0], []⟩ 8 (by kernel_rfl) (by kernel_rfl) (by kernel_rfl) (by kernel_rfl)) ?_
  intro W base args ds gs before hval0 hW hcnd hsz0 _
  have hval : ∀ (j : Nat) t v, Try.f4.params[j]? = some t → args[j]? = some v → Value.okWide Try.prog W .any base t v := hval0
  have hW' := hW
  obtain ⟨p, q, hA0, hV, rfl, hfz, hnd⟩ := hW
  have hA : DataW.TrodAll enc Try.prog W 0 (fun _ => true) true Try.f4.params.toList args.toList ds p := hA0
  rw [Try.params4] at hA hval
  obtain ⟨v0, vs0, d0, ds0, p0, q0, hargs, rfl, rfl, h0, r0⟩ := trodAll_cons hA
  obtain ⟨v1, vs1, d1, ds1, p1, q1, rfl, rfl, rfl, h1, r1⟩ := trodAll_cons r0
  obtain ⟨rfl, rfl, rfl⟩ := trodAll_nil r1
  obtain rfl : args = #[v0, v1] := by cases args; simp_all
  obtain ⟨rfl, rfl⟩ := trodVars_none hV
  have k0 := h0
  have lt0 := trod_places k0
  obtain ⟨a0, cs0, rfl, hk0, o0⟩ := arg_struct (opn_Cac Try.underlying24 rfl (by kernel_rfl) (opn_int Try.underlying3 (by kernel_rfl)) (opn_slice Try.underlying22 (by kernel_rfl) (by kernel_rfl) (opn_Ent Try.underlying63 rfl (by kernel_rfl) (opn_Que Try.underlying26 rfl (by kernel_rfl) (opn_str Try.underlying9 (by kernel_rfl)) (opn_int Try.underlying3 (by kernel_rfl))) (opn_int Try.underlying3 (by kernel_rfl)) (opn_slice Try.underlying61 (by kernel_rfl) (by kernel_rfl) (opn_Rec Try.underlying75 rfl (by kernel_rfl) (opn_str Try.underlying9 (by kernel_rfl)) (opn_int Try.underlying3 (by kernel_rfl)) (opn_int Try.underlying3 (by kernel_rfl)) (opn_int Try.underlying3 (by kernel_rfl)) (opn_str Try.underlying9 (by kernel_rfl)) (opn_str Try.underlying9 (by kernel_rfl)))) (opn_int Try.underlying3 (by kernel_rfl)) (opn_int Try.underlying3 (by kernel_rfl))))) Try.underlying24 (hval 0 24 v0 rfl rfl) h0
  obtain ⟨u0_0, hc0, hr0_0⟩ := Cac_K hk0
  have he0 := congrArg List.toArray hc0
  rw [Array.toArray_toList] at he0
  subst he0
  have k1 := h1
  have lt1 := trod_places k1
  obtain ⟨a1, rfl, o1⟩ := arg_int Try.underlying3 (hval 1 3 v1 rfl rfl) h1
  clear hA0 hval0 hsz0
  obtain ⟨k, hf⟩ := plainExpire o0 o1
  refine (laws_FnExactExpire_ok hf hr0_0 (St.begin W)).mono fun e W' he => ?_
  obtain ⟨v, M, rfl, ⟨rfl, rfl⟩, hSt⟩ := he
  have bel : Below W.heap.size W W' := Fr.to_below hSt.fr
  exact ⟨_, rfl, _, _, _, [], _, [], hW', trodAll_mk1 (shut_bool Try.underlying4 _), (trodAll_cons_mk (Below.trod laidOut (by kernel_rfl) (of_decide_eq_true (by kernel_rfl)) k0 bel lt0) (trodAll_cons_mk (Below.trod laidOut (by kernel_rfl) (of_decide_eq_true (by kernel_rfl)) k1 bel lt1) trodAll_mk0)), rfl, bel.frame _, fun h => by cases h⟩
theorem over : Rows.fnExactExpireRow.holds Try.pinned (OpenSpec.ofChange Rows.fnExactExpireSpec) :=
  OpenClaim.holds_of_wide 4 Try.f4 rfl rfl rfl rfl rfl rfl rfl ⟨rfl, rfl, rfl, rfl, rfl⟩ rfl rfl rfl rfl rfl (by kernel_rfl) Try.func4 (by kernel_rfl)
    (of_decide_eq_true (by kernel_rfl)) (by unfold Func.isWrapper; first | (rw [if_pos (by decide +kernel)]; kernel_rfl) | (rw [if_neg (by decide +kernel)]; exact ⟨rfl, rfl⟩))
    (fun os started H enc _ => lifted os started H enc)
theorem proved : Rows.FnExactExpireSaid := over
#print axioms proved
end Go.Proofs.Ytcolndejambcmaa.fnExactExpire
namespace Go.Proofs.Ytcolndejambcmaa
/-- The row, under a short name, for the claim. -/
theorem fnExactExpire_holds : Rows.FnExactExpireSaid := fnExactExpire.proved
end Go.Proofs.Ytcolndejambcmaa
