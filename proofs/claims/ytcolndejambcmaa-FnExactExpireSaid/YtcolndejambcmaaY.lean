/- Facts of the types (printed by gen2.py). -/
import Derived.Test.YtcolndejambcmaaD
namespace Go.Proofs.Ytcolndejambcmaa.Ew
open Go.RowKit Go.Proofs.YtcolndejambcmaaW.PrintWords Go.Proofs.YtcolndejambcmaaW.PrintLast
set_option linter.unusedVariables false
set_option linter.unusedSimpArgs false
theorem z3 : (Try.prog.info? 3).map (·.size) = some 1 := by kernel_rfl
theorem i3 : (Try.prog.info? 3).map (fun i => (i.zero, i.size, i.bytes)) = some (some (.int .i64 0), 1, 8) := by kernel_rfl
theorem z4 : (Try.prog.info? 4).map (·.size) = some 1 := by kernel_rfl
theorem i4 : (Try.prog.info? 4).map (fun i => (i.zero, i.size, i.bytes)) = some (some (.bool false), 1, 1) := by kernel_rfl
theorem z5 : (Try.prog.info? 5).map (·.size) = some 1 := by kernel_rfl
theorem i5 : (Try.prog.info? 5).map (fun i => (i.zero, i.size, i.bytes)) = some (some (.int .u8 0), 1, 1) := by kernel_rfl
theorem z9 : (Try.prog.info? 9).map (·.size) = some 1 := by kernel_rfl
theorem i9 : (Try.prog.info? 9).map (fun i => (i.zero, i.size, i.bytes)) = some (some (.string ⟨#[]⟩), 1, 16) := by kernel_rfl
theorem z22 : (Try.prog.info? 22).map (·.size) = some 1 := by kernel_rfl
theorem i22 : (Try.prog.info? 22).map (fun i => (i.zero, i.size, i.bytes)) = some (some (.slice none 0 0), 1, 24) := by kernel_rfl
theorem z24 : (Try.prog.info? 24).map (·.size) = some 2 := by kernel_rfl
theorem i24 : (Try.prog.info? 24).map (fun i => (i.zero, i.size, i.bytes)) = some (some (.agg #[.int .i64 0, .slice none 0 0]), 2, 32) := by kernel_rfl
theorem z26 : (Try.prog.info? 26).map (·.size) = some 2 := by kernel_rfl
theorem i26 : (Try.prog.info? 26).map (fun i => (i.zero, i.size, i.bytes)) = some (some (.agg #[.string ⟨#[]⟩, .int .i64 0]), 2, 24) := by kernel_rfl
theorem z29 : (Try.prog.info? 29).map (·.size) = some 2 := by kernel_rfl
theorem i29 : (Try.prog.info? 29).map (fun i => (i.zero, i.size, i.bytes)) = some (some (.agg #[.string ⟨#[]⟩, .int .i64 0]), 2, 24) := by kernel_rfl
theorem z30 : (Try.prog.info? 30).map (·.size) = some 1 := by kernel_rfl
theorem i30 : (Try.prog.info? 30).map (fun i => (i.zero, i.size, i.bytes)) = some (some (.slice none 0 0), 1, 24) := by kernel_rfl
theorem z32 : (Try.prog.info? 32).map (·.size) = some 6 := by kernel_rfl
theorem i32 : (Try.prog.info? 32).map (fun i => (i.zero, i.size, i.bytes)) = some (some (.agg #[.string ⟨#[]⟩, .int .i64 0, .int .i64 0, .slice none 0 0, .int .i64 0, .int .i64 0]), 6, 72) := by kernel_rfl
theorem z35 : (Try.prog.info? 35).map (·.size) = some 1 := by kernel_rfl
theorem i35 : (Try.prog.info? 35).map (fun i => (i.zero, i.size, i.bytes)) = some (some (.slice none 0 0), 1, 24) := by kernel_rfl
theorem z37 : (Try.prog.info? 37).map (·.size) = some 2 := by kernel_rfl
theorem i37 : (Try.prog.info? 37).map (fun i => (i.zero, i.size, i.bytes)) = some (some (.agg #[.int .i64 0, .slice none 0 0]), 2, 32) := by kernel_rfl
theorem z61 : (Try.prog.info? 61).map (·.size) = some 1 := by kernel_rfl
theorem i61 : (Try.prog.info? 61).map (fun i => (i.zero, i.size, i.bytes)) = some (some (.slice none 0 0), 1, 24) := by kernel_rfl
theorem z63 : (Try.prog.info? 63).map (·.size) = some 6 := by kernel_rfl
theorem i63 : (Try.prog.info? 63).map (fun i => (i.zero, i.size, i.bytes)) = some (some (.agg #[.string ⟨#[]⟩, .int .i64 0, .int .i64 0, .slice none 0 0, .int .i64 0, .int .i64 0]), 6, 72) := by kernel_rfl
theorem z66 : (Try.prog.info? 66).map (·.size) = some 6 := by kernel_rfl
theorem i66 : (Try.prog.info? 66).map (fun i => (i.zero, i.size, i.bytes)) = some (some (.agg #[.string ⟨#[]⟩, .int .i64 0, .int .i64 0, .int .i64 0, .string ⟨#[]⟩, .string ⟨#[]⟩]), 6, 72) := by kernel_rfl
theorem z73 : (Try.prog.info? 73).map (·.size) = some 1 := by kernel_rfl
theorem i73 : (Try.prog.info? 73).map (fun i => (i.zero, i.size, i.bytes)) = some (some (.slice none 0 0), 1, 24) := by kernel_rfl
theorem z75 : (Try.prog.info? 75).map (·.size) = some 6 := by kernel_rfl
theorem i75 : (Try.prog.info? 75).map (fun i => (i.zero, i.size, i.bytes)) = some (some (.agg #[.string ⟨#[]⟩, .int .i64 0, .int .i64 0, .int .i64 0, .string ⟨#[]⟩, .string ⟨#[]⟩]), 6, 72) := by kernel_rfl
def p32 : List (Nat × Nat) := [(0, 2), (2, 1), (3, 1), (4, 1), (5, 1)]
theorem q32 : (Try.prog.fieldsOf 32).toList.map (fun f => (Try.prog.info? f.type).map fun i => (f.offset, i.size)) = p32.map some := by kernel_rfl
def p37 : List (Nat × Nat) := [(0, 1), (1, 1)]
theorem q37 : (Try.prog.fieldsOf 37).toList.map (fun f => (Try.prog.info? f.type).map fun i => (f.offset, i.size)) = p37.map some := by kernel_rfl
theorem Que_eq29 (a b : Que) (w : World) : (Op.equalIn 10000 29 (.agg #[str a.name, vi a.ty]) (.agg #[str b.name, vi b.ty])).run Try.prog w = .ok (decide (a = b)) w := by
  obtain ⟨a0, a1⟩ := a
  obtain ⟨b0, b1⟩ := b
  have h0 : Try.prog.underlying 29 = some (.struct (Try.prog.fieldsOf 29)) := by unfold Program.fieldsOf; rw [Try.underlying29]
  rw [run_equalIn_struct w 9999 _ _ _ h0 (by kernel_rfl)]
  simp only [Program.fieldsOf, Try.underlying29]
  have hs := run_underlying (P := Try.prog) Try.underlying9
  have es := fun (a b : ByteArray) => run_equalIn_string (P := Try.prog) w 9998 _ a b Try.underlying9
  have hi := run_underlying (P := Try.prog) Try.underlying3
  have ei := fun (a b : Int) => run_equalIn_int (P := Try.prog) w 9998 _ .i64 _ a b Try.underlying3
  simp [Op.eqFields, part, isAgg, str_toList, hs, es, hi, ei]
  by_cases h0 : a0 = b0
  all_goals by_cases h1 : a1 = b1
  all_goals simp [*]
end Go.Proofs.Ytcolndejambcmaa.Ew
