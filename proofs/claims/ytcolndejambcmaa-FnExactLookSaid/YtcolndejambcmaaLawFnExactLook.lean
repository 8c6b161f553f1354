/- The law FnExactLook holds for every input: it returns true, and each argument reads behind the call as it read before. -/
import Derived.Test.YtcolndejambcmaaRows
import Derived.Test.YtcolndejambcmaaOpn
import Derived.Test.YtcolndejambcmaaY
import Derived.Test.YtcolndejambcmaaPLook
import Derived.Test.YtcolndejambcmaaG4
import Derived.WalkKit
import Derived.ProofKit
import Derived.OpenShut
import Derived.ShutString
import Derived.ChangeOld
import Derived.Below
import Derived.SizedLaws
namespace Go.Proofs.Ytcolndejambcmaa.fnExactLook
open Go.ChangeShapes Go.WideShapes Go.ChangeAt Go.RowKit Go.Proofs.Ytcolndejambcmaa.Ew Go.Proofs.YtcolndejambcmaaW.PrintWords Go.Proofs.YtcolndejambcmaaW.PrintLast
set_option linter.unusedVariables false
theorem own : ownKnob Try.prog.godebug = none := by kernel_rfl
theorem laidOut : laidOutB Try.prog = true := by kernel_rfl
set_option maxRecDepth 100000 in
set_option maxHeartbeats 4000000 in
theorem lifted (os : Os) (started : os.Started) (H : Type) (enc : TypeId × Value → H) :
    ReturnsInHanded {} Try.checked os 3 .any (Rows.fnExactLookSpec.pre6 enc Try.prog Try.f3 Rows.fnExactLookRow.domain false) (Rows.fnExactLookSpec.post enc Try.prog Try.f3 false true false false) := by
  refine returnsInHanded_of_change_sized (C := Try.checked) own started (by kernel_rfl) Try.func3
    (ChangeSpec.witness6 (enc := enc) (C := Try.checked) false ⟨#[], #[.agg #[.int .i64 0, .slice none 0 0], .int .i64 0, .agg #[.string ByteArray.empty, .int .i64 0], .int .i64 0], []⟩ 8 (by kernel_rfl) (by kernel_rfl) (by kernel_rfl) (by kernel_rfl)) ?_
  intro W base args ds gs before hval0 hW hcnd hsz0 _
  have hval : ∀ (j : Nat) t v, Try.f3.params[j]? = some t → args[j]? = some v → Value.okWide Try.prog W .any base t v := hval0
  have hW' := hW
  obtain ⟨p, q, hA0, hV, rfl, hfz, hnd⟩ := hW
  have hA : DataW.TrodAll enc Try.prog W 0 (fun _ => true) true Try.f3.params.toList args.toList ds p := hA0
  rw [Try.params3] at hA hval
  obtain ⟨v0, vs0, d0, ds0, p0, q0, hargs, rfl, rfl, h0, r0⟩ := trodAll_cons hA
  obtain ⟨v1, vs1, d1, ds1, p1, q1, rfl, rfl, rfl, h1, r1⟩ := trodAll_cons r0
  obtain ⟨v2, vs2, d2, ds2, p2, q2, rfl, rfl, rfl, h2, r2⟩ := trodAll_cons r1
  obtain ⟨v3, vs3, d3, ds3, p3, q3, rfl, rfl, rfl, h3, r3⟩ := trodAll_cons r2
  obtain ⟨rfl, rfl, rfl⟩ := trodAll_nil r3
  obtain rfl : args = #[v0, v1, v2, v3] := by cases args; simp_all
  obtain ⟨rfl, rfl⟩ := trodVars_none hV
  have k0 := h0
  have lt0 := trod_places k0
  obtain ⟨a0, cs0, rfl, hk0, o0⟩ := arg_struct (opn_Cac Try.underlying24 rfl (by kernel_rfl) (opn_int Try.underlying3 (by kernel_rfl)) (opn_slice Try.underlying22 (by kernel_rfl) (by kernel_rfl) (opn_Ent Try.underlying63 rfl (by kernel_rfl) (opn_Que Try.underlying26 rfl (by kernel_rfl) (opn_str Try.underlying9 (by kernel_rfl)) (opn_int Try.underlying3 (by kernel_rfl))) (opn_int Try.underlying3 (by kernel_rfl)) (opn_slice Try.underlying61 (by kernel_rfl) (by kernel_rfl) (opn_Rec Try.underlying75 rfl (by kernel_rfl) (opn_str Try.underlying9 (by kernel_rfl)) (opn_int Try.underlying3 (by kernel_rfl)) (opn_int Try.underlying3 (by kernel_rfl)) (opn_int Try.underlying3 (by kernel_rfl)) (opn_str Try.underlying9 (by kernel_rfl)) (opn_str Try.underlying9 (by kernel_rfl)))) (opn_int Try.underlying3 (by kernel_rfl)) (opn_int Try.underlying3 (by kernel_rfl))))) Try.underlying24 (hval 0 24 v0 rfl rfl) h0
  obtain ⟨u0_0, hc0, hr0_0⟩ := Cac_K hk0
  have he0 := congrArg List.toArray hc0
  rw [Array.toArray_toList] at he0
  subst he0
  have k1 := h1
  have lt1 := trod_places k1
  obtain ⟨a1, rfl, o1⟩ := arg_int Try.underlying3 (hval 1 3 v1 rfl rfl) h1
  have k2 := h2
  have lt2 := trod_places k2
  obtain ⟨a2, cs2, rfl, hk2, o2⟩ := arg_struct (opn_Que Try.underlying26 rfl (by kernel_rfl) (opn_str Try.underlying9 (by kernel_rfl)) (opn_int Try.underlying3 (by kernel_rfl))) Try.underlying26 (hval 2 26 v2 rfl rfl) h2
  have hc2 := Que_K hk2
  have he2 := congrArg List.toArray hc2
  rw [Array.toArray_toList] at he2
  subst he2
  have k3 := h3
  have lt3 := trod_places k3
  obtain ⟨a3, rfl, o3⟩ := arg_int Try.underlying3 (hval 3 3 v3 rfl rfl) h3
  clear hA0 hval0 hsz0
  obtain ⟨k, hf⟩ := plainLook o0 o1 o2 o3
  refine (laws_FnExactLook_ok hf hr0_0 (St.begin W)).mono fun e W' he => ?_
  obtain ⟨v, M, rfl, ⟨rfl, rfl⟩, hSt⟩ := he
  have bel : Below W.heap.size W W' := Fr.to_below hSt.fr
  exact ⟨_, rfl, _, _, _, [], _, [], hW', trodAll_mk1 (shut_bool Try.underlying4 _), (trodAll_cons_mk (Below.trod laidOut (by kernel_rfl) (of_decide_eq_true (by kernel_rfl)) k0 bel lt0) (trodAll_cons_mk (Below.trod laidOut (by kernel_rfl) (of_decide_eq_true (by kernel_rfl)) k1 bel lt1) (trodAll_cons_mk (Below.trod laidOut (by kernel_rfl) (of_decide_eq_true (by kernel_rfl)) k2 bel lt2) (trodAll_cons_mk (Below.trod laidOut (by kernel_rfl) (of_decide_eq_true (by kernel_rfl)) k3 bel lt3) trodAll_mk0)))), rfl, bel.frame _, fun h => by cases h⟩
theorem over : Rows.fnExactLookRow.holds Try.pinned (OpenSpec.ofChange Rows.fnExactLookSpec) :=
  OpenClaim.holds_of_wide 3 Try.f3 rfl rfl rfl rfl rfl rfl rfl ⟨rfl, rfl, rfl, rfl, rfl⟩ rfl rfl rfl rfl rfl (by kernel_rfl) Try.func3 (by kernel_rfl)
    (of_decide_eq_true (by kernel_rfl)) (by unfold Func.isWrapper; first | (rw [if_pos (by decide +kernel)]; kernel_rfl) | (rw [if_neg (by decide +kernel)]; exact ⟨rfl, rfl⟩))
    (fun os started H enc _ => lifted os started H enc)
theorem proved : Rows.FnExactLookSaid := over
#print axioms proved
end Go.Proofs.Ytcolndejambcmaa.fnExactLook
namespace Go.Proofs.Ytcolndejambcmaa
/-- The row, under a short name, for the claim. -/
theorem fnExactLook_holds : Rows.FnExactLookSaid := fnExactLook.proved
end Go.Proofs.Ytcolndejambcmaa
