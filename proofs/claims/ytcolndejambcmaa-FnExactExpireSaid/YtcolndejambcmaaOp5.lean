/- The steps of the walk, fifth part: structs built. -/
import Derived.Test.YtcolndejambcmaaOp4
namespace Go.Proofs.Ytcolndejambcmaa.Ew
open Go.RowKit Go.Proofs.YtcolndejambcmaaW.PrintWords Go.Proofs.YtcolndejambcmaaW.PrintLast
set_option linter.unusedVariables false
set_option linter.unusedSimpArgs false
section
variable {P : Program} {n : Nat} {Q : Exit → Env → World → Prop} {env : Env} {w : World} {ops : Array Oper} {rest : List Oper} {α : Type}
theorem run_places : ∀ {fs : List Field} {ps : List (Nat × Nat)}, fs.map (fun f => (P.info? f.type).map fun i => (f.offset, i.size)) = ps.map some → ∀ w : World, (fs.mapM fun f => (Prod.mk f.offset <$> sizeOf f.type : Sem (Nat × Nat))).run P w = .ok ps w
  | [], ps, h, w => by
    have : ps = [] := by simpa using h.symm
    subst this
    simp
  | f :: fs, [], h, w => by simp at h
  | f :: fs, p :: ps, h, w => by
    rw [List.map_cons, List.map_cons] at h
    injection h with h1 h2
    have ih := run_places h2 w
    have h3 : (P.info? f.type).map (·.size) = some p.2 ∧ f.offset = p.1 := by
      cases hi : P.info? f.type with
      | none => rw [hi] at h1; simp at h1
      | some i => rw [hi] at h1; simp at h1; subst h1; simp
    rw [List.mapM_cons]
    simp [run_sizeOf h3.1, h3.2, ih]
/-- A struct built. -/
theorem EL.bld {t : TypeId} {fs : Array Field} {parts : Array (Nat × Operand)} {d : Nat} {ty : TypeId} {pos : String} {after : Array Edge} {z : Value} {s b : Nat} (vs : List (Nat × Value)) (hp : parts.toList.map (fun p => (p.1, ev env p.2)) = vs.map fun p => (p.1, some p.2)) (hu : P.underlying t = some (.struct fs))
    (hinfo : (P.info? t).map (fun i => (i.zero, i.size, i.bytes)) = some (some z, s, b)) (ps : List (Nat × Nat)) (hs0 : (P.fieldsOf t).toList.map (fun f => (P.info? f.type).map fun i => (f.offset, i.size)) = ps.map some) {cs : Array Value} (hf : Instr.fill (ps.toArray[·]?) z.cells vs = some cs) (hn : d < n)
    (h : EL P n ops Q rest ((d, .agg cs) :: env) w) : EL P n ops Q (⟨some d, .build t parts, ty, pos, after, none⟩ :: rest) env w := by
  have hs : fs.toList.map (fun f => (P.info? f.type).map fun i => (f.offset, i.size)) = ps.map some := by
    have e : P.fieldsOf t = fs := by unfold Program.fieldsOf; rw [hu]
    rw [e] at hs0
    exact hs0
  refine EL.val (fun ρ hρ => ?_) rfl rfl hn h
  have h1 : (parts.map fun (p : Nat × Operand) => (p.1, ρ p.2)).toList = vs := by
    rw [Array.toList_map]
    clear hf
    generalize parts.toList = l at hp
    induction l generalizing vs with
    | nil => cases vs with
      | nil => rfl
      | cons _ _ => simp at hp
    | cons p l ih => cases vs with
      | nil => simp at hp
      | cons q vs =>
        rw [List.map_cons, List.map_cons] at hp
        injection hp with h1 h2
        injection h1 with h3 h4
        rw [List.map_cons, ih _ h2, hρ _ _ h4, h3]
  have h2 : (fs.mapM fun f => (Prod.mk f.offset <$> sizeOf f.type : Sem (Nat × Nat))).run P w = .ok ps.toArray w := by
    rw [Array.mapM_eq_mapM_toList]
    simp [run_places hs w]
  have h4 : (zeroValue t).run P w = .ok z w := by
    cases hi : P.info? t with
    | none => rw [hi] at hinfo; simp at hinfo
    | some i => rw [hi] at hinfo; simp at hinfo; simp [zeroValue, typeInfo, hi, hinfo.1]
  simp only [Array.toList_map] at h1
  have h5 : Instr.fill (fun x => ps[x]?) z.cells vs = some cs := by simpa using hf
  simp [execOp, Instr.build, run_underlying hu, h2, h4, h1, h5]
end
end Go.Proofs.Ytcolndejambcmaa.Ew
