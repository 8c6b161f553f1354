/- The steps of a walk over the state, fifth part: make, literals, conversions, calls, parts opened and shut. -/
import Derived.Test.YtcolndejambcmaaR4
namespace Go.Proofs.Ytcolndejambcmaa.Ew
open Go.RowKit Go.Proofs.YtcolndejambcmaaW.PrintWords Go.Proofs.YtcolndejambcmaaW.PrintLast
set_option linter.unusedVariables false
set_option linter.unusedSimpArgs false
section
variable {P : Program} {n : Nat} {Q : Exit → Env → World → Prop} {env : Env} {w : World} {ops : Array Oper} {rest : List Oper} {b w0 : World} {s0 : Nat → Prop} {L : List Atom} {α : Type} {d : K2 α} {v : Value} {xs : List α} {e : TypeId}
theorem nest_rep {w : World} {z0 : α} {cs : List Value} (h : d.M w (fun _ => False) z0 cs) : ∀ (m : Nat) (s : Nat → Prop), Nest d w s (List.replicate m z0) (List.replicate m cs)
  | 0, _ => trivial
  | m + 1, s => ⟨fun _ => False, fun _ => False, fun _ h => h.elim, fun _ h => h.elim, h, nest_rep h m _⟩
theorem SL.mk (hS : St b w0 s0 L w) (d : K2 α) {t e : TypeId} {x y : Operand} {D : Nat} {ty : TypeId} {pos : String} {after : Array Edge} {m : Int} {xs : List α} (z0 : α) (hx : ev env x = some (vi m)) (hy : ev env y = some (vi m)) (hm : mkL z0 m = some xs)
    (ht : P.underlying t = some (.slice e)) {z : Value} {bytes : Nat} (hinfo : (P.info? e).map (fun i => (i.zero, i.size, i.bytes)) = some (some z, d.sz, bytes)) (hz : z.cells.size = d.sz) (hs0 : 0 < d.sz) (hb0 : 0 < bytes) (hby : bytes ≤ 32768) (h1 : z.cells.toList.all Value.oneCell' = true)
    (hzero : ∀ w s, d.M w s z0 z.cells.toList) (hn : D < n)
    (k : ∀ (v : Sv) w, St b w0 s0 (app L [.row d e (sl v) xs]) w → EL P n ops Q rest ((D, sl v) :: env) w) : EL P n ops Q (⟨some D, .makeSlice t x y, ty, pos, after, none⟩ :: rest) env w := by
  obtain ⟨h0, hl, rfl⟩ := mkL_some hm
  refine EL.mk (kRaw d.sz) (w0 := w) 0 hx hy ht hinfo hz hs0 hb0 z.cells.toList (ok := fun _ => True) (okp := fun _ => False) ⟨rfl, by simpa using hz, List.all_eq_true.1 h1⟩ (fun _ h => h.elim) trivial h0 ?_ (Below.refl _ _) (Nat.zero_le _) hn (fun v1 w1 hr hB hg hown => ?_)
  rotate_left
  · suffices hfin : St b w0 s0 (app L [.row d e v1 (List.replicate m.toNat z0)]) w1 by
      obtain ⟨u, rfl⟩ := hfin.sv _ (nth_app_last _ _)
      exact k u w1 hfin
    refine hS.one ((Fr.grown hg).sub (fun k hk => by cases hk)) ?_
    obtain ⟨g, hg1, hg2⟩ := hown
    refine ⟨_, hr, fun k hk => ?_, nest_rep (hzero _ _) _ _⟩
    have hlt : k < w1.heap.size := by obtain ⟨_, inner, ho', _⟩ := hr; exact own_lt ho' k hk
    rw [hg1] at hk; injection hk with hk
    exact ⟨hlt, by omega⟩
  · have : m.toNat * bytes ≤ lim * 32768 := Nat.mul_le_mul (by omega) hby
    unfold lim at this
    omega
/-! literals -/
theorem fill_at (cs : List Value) : ∀ (off j : Nat) (acc : Array Value), off + j + cs.length ≤ acc.size → (cs.zipIdx j).foldl (fun acc (p : Value × Nat) => acc.setIfInBounds (off + p.2) p.1) acc = (acc.toList.take (off + j) ++ cs ++ acc.toList.drop (off + j + cs.length)).toArray := by
  induction cs with
  | nil => intro off j acc h; simp
  | cons c cs ih =>
    intro off j acc h
    simp only [List.zipIdx_cons, List.foldl_cons]
    rw [ih off (j + 1) _ (by simp at h ⊢; omega)]
    congr 1
    have e1 : (acc.setIfInBounds (off + j) c).toList = acc.toList.set (off + j) c := by simp
    rw [e1]
    have hlt : off + j < acc.toList.length := by simp at h ⊢; omega
    have h2 : (acc.toList.set (off + j) c).take (off + (j + 1)) = acc.toList.take (off + j) ++ [c] := by
      rw [show off + (j + 1) = (off + j) + 1 by omega, List.take_add_one]
      simp only [List.length_set, List.getElem?_set, if_true]
      rw [if_pos hlt]
      rw [List.take_set_of_le (by omega)]
      simp
    have h3 : (acc.toList.set (off + j) c).drop (off + (j + 1) + cs.length) = acc.toList.drop (off + j + (c :: cs).length) := by
      rw [List.drop_set_of_lt (by omega)]
      simp; congr 1; omega
    rw [h2, h3]
    simp
theorem fill_row {sz : Nat} : ∀ (vs : List Value) (i0 : Nat) (acc : Array Value), (∀ v ∈ vs, v.cells.size = sz) → acc.size = (i0 + vs.length) * sz →
    Instr.fill (fun i => some (i * sz, sz)) acc ((vs.zipIdx i0).map fun p => (p.2, p.1)) = some (acc.toList.take (i0 * sz) ++ (vs.map fun v => v.cells.toList).flatten).toArray
  | [], i0, acc, _, h => by
    simp [Instr.fill]
    simp at h
    rw [List.take_of_length_le (by simp [h])]
  | v :: vs, i0, acc, hv, h => by
    have hvs := hv v (by simp)
    simp only [List.zipIdx_cons, List.map_cons, Instr.fill]
    have hb : i0 * sz + sz ≤ acc.size := by
      rw [h]
      have : (i0 + 1) * sz ≤ (i0 + (v :: vs).length) * sz := Nat.mul_le_mul_right _ (by simp)
      rw [Nat.add_mul] at this
      omega
    have hcond : ¬ (v.cells.size ≠ sz ∨ i0 * sz + v.cells.size > acc.size) := by rw [hvs]; omega
    simp only [hvs]
    rw [if_neg (by simp; omega)]
    have e0 : (v.cells.zipIdx.foldl (fun cs (x : Value × Nat) => cs.setIfInBounds (i0 * sz + x.2) x.1) acc) = (acc.toList.take (i0 * sz) ++ v.cells.toList ++ acc.toList.drop (i0 * sz + sz)).toArray := by
      have := fill_at v.cells.toList (i0 * sz) 0 acc (by simp [hvs]; omega)
      rw [← Array.foldl_toList, Array.toList_zipIdx]
      simpa [hvs] using this
    rw [e0, fill_row vs (i0 + 1) _ (fun u hu => hv u (by simp [hu])) (by simp [hvs, h]; rw [Nat.add_mul, Nat.add_mul, Nat.add_mul, Nat.add_mul]; simp; omega)]
    congr 1
    have e2 : (i0 + 1) * sz = i0 * sz + sz := by rw [Nat.add_mul]; omega
    have hlen : (acc.toList.take (i0 * sz) ++ v.cells.toList).length = i0 * sz + sz := by simp [hvs]; omega
    simp only [e2]
    rw [List.take_append_of_le_length (by omega), List.take_of_length_le (by omega)]
    simp
/-- '[]T{..}', the elements owning nothing. -/
theorem SL.lit (hS : St b w0 s0 L w) (d : K2 α) {t e : TypeId} {parts : Array (Nat × Operand)} {m D : Nat} {ty : TypeId} {pos : String} {after : Array Edge} (xs : List α) (vs : List Value) (hp : parts.toList.map (fun p => (p.1, ev env p.2)) = (vs.zipIdx 0).map fun p => (p.2, some p.1)) (hm : vs.length = m) (hsz : vs.all (fun v => v.cells.size == d.sz && v.cells.toList.all Value.oneCell') = true)
    (ht : P.underlying t = some (.slice e)) {z : Value} {bytes : Nat} (hinfo : (P.info? e).map (fun i => (i.zero, i.size, i.bytes)) = some (some z, d.sz, bytes)) (hs0 : 0 < d.sz) (hz : z.cells.size = d.sz) (hlim : m * d.sz ≤ 16777216) (hM : ∀ w s, Nest d w s xs (vs.map fun v => v.cells.toList)) (hn : D < n)
    (k : ∀ (v : Sv) w, St b w0 s0 (app L [.row d e (sl v) xs]) w → EL P n ops Q rest ((D, sl v) :: env) w) : EL P n ops Q (⟨some D, .buildSlice t m parts, ty, pos, after, none⟩ :: rest) env w := by
  subst hm
  have hsz1 : ∀ v ∈ vs, v.cells.size = d.sz := fun v hv => by have := List.all_eq_true.1 hsz v hv; simp at this; exact this.1
  have hsz2 : ∀ v ∈ vs, ∀ u ∈ v.cells.toList, u.oneCell' = true := fun v hv u hu => by
    have := List.all_eq_true.1 hsz v hv
    simp at this
    obtain ⟨i, hi, rfl⟩ := Array.mem_iff_getElem.1 (by simpa using hu : u ∈ v.cells)
    exact this.2 i hi
  have hfl : (vs.map fun v => v.cells.toList).flatten.length = vs.length * d.sz := by
    clear hp hsz hM hlim hsz2
    induction vs with
    | nil => simp
    | cons v r ih =>
      rw [List.map_cons, List.flatten_cons, List.length_append, ih (fun u hu => hsz1 u (by simp [hu])), List.length_cons, Nat.add_mul]
      have := hsz1 v (by simp)
      simp [this]; omega
  have hraw : Raw d.sz e (w.alloc (.cells ((vs.map fun v => v.cells.toList).flatten).toArray e)) (.slice (some ⟨w.heap.size, 0, none⟩) vs.length vs.length) (vs.map fun v => v.cells.toList) := by
    have h := World.ownsRow_lit (base := 0) (e := e) (size := d.sz) w ((vs.map fun v => v.cells.toList).flatten).toArray vs.length (Nat.zero_le _) ?_ (by simpa using hfl)
    · refine ⟨fun _ _ => trivial, (vs.map fun v => v.cells.toList).flatten, by show World.ownsRow _ 0 e d.sz _ _ _; rw [List.length_map]; exact h, by show _ = _ * d.sz; rw [List.length_map]; exact hfl, fun j p hj => ?_⟩
      have key : ∀ (l : List Value) (j : Nat) (p : List Value), (∀ v ∈ l, v.cells.size = d.sz) → (l.map fun v => v.cells.toList)[j]? = some p → (((l.map fun v => v.cells.toList).flatten.drop (j * d.sz)).take d.sz) = p := by
        intro l
        induction l with
        | nil => intro j p _ h; simp at h
        | cons v r ih =>
          intro j p hl h
          have hv := hl v (by simp)
          cases j with
          | zero =>
            simp at h
            subst h
            rw [List.map_cons, List.flatten_cons, Nat.zero_mul, List.drop_zero, List.take_append_of_le_length (by simp [hv]), List.take_of_length_le (by simp [hv])]
          | succ j =>
            rw [List.map_cons, List.flatten_cons, Nat.add_mul, Nat.one_mul, Nat.add_comm, ← List.drop_drop, List.drop_left' (by simp [hv])]
            exact ih j p (fun u hu => hl u (by simp [hu])) (by simpa using h)
      have hk := key vs j p hsz1 hj
      rw [List.getElem?_map] at hj
      cases hv : vs[j]? with
      | none => rw [hv] at hj; simp at hj
      | some u =>
        rw [hv] at hj
        simp at hj
        have hu := List.mem_of_getElem? hv
        refine ⟨?_, by rw [← hj]; simpa using hsz1 u hu, by rw [← hj]; exact hsz2 u hu⟩
        exact hk.symm ▸ rfl
    · have : vs.length ≤ vs.length * d.sz := Nat.le_mul_of_pos_right _ hs0
      unfold maxLen; omega
  refine EL.val (v := .slice (some ⟨w.heap.size, 0, none⟩) vs.length vs.length) (w' := w.alloc (.cells ((vs.map fun v => v.cells.toList).flatten).toArray e)) (fun ρ hρ => ?_) rfl rfl hn (k (some ⟨w.heap.size, 0, none⟩, vs.length, vs.length) _ (hS.one (Fr.below (below_alloc (Below.refl _ _) _)) ?_))
  · have hps : (parts.map fun (p : Nat × Operand) => (p.1, ρ p.2)).toList = (vs.zipIdx 0).map fun p => (p.2, p.1) := by
      rw [Array.toList_map]
      have key : ∀ (l : List (Nat × Operand)) (r : List (Value × Nat)), l.map (fun p => (p.1, ev env p.2)) = r.map (fun p => (p.2, some p.1)) → l.map (fun p => (p.1, ρ p.2)) = r.map (fun p => (p.2, p.1)) := by
        intro l
        induction l with
        | nil => intro r h; cases r with | nil => rfl | cons _ _ => simp at h
        | cons p l ih =>
          intro r h
          cases r with
          | nil => simp at h
          | cons q r =>
            simp only [List.map_cons, List.cons.injEq, Prod.mk.injEq] at h ⊢
            exact ⟨⟨h.1.1, hρ _ _ h.1.2⟩, ih r h.2⟩
      exact key _ _ hp
    have hcond : ¬ (16777216 < vs.length * d.sz) := by omega
    have hfill : Instr.fill (fun i => some (i * d.sz, d.sz)) ((Array.range (vs.length * d.sz)).map (fun i => z.cells[i % z.cells.size]!)) ((vs.zipIdx 0).map fun p => (p.2, p.1)) = some ((vs.map fun v => v.cells.toList).flatten).toArray := by
      have := fill_row vs 0 ((Array.range (vs.length * d.sz)).map (fun i => z.cells[i % z.cells.size]!)) hsz1 (by simp)
      simpa using this
    by_cases h0 : vs.length * d.sz = 0
    · have hv0 : vs = [] := by
        rcases Nat.mul_eq_zero.1 h0 with h | h
        · exact List.eq_nil_of_length_eq_zero h
        · omega
      subst hv0
      simp at hps
      simp [execOp, Instr.buildSlice, run_underlying ht, run_size3 hinfo, newRow, hps, Instr.fill]
      have h00 : (Array.range 0) = #[] := rfl
      rw [h00]; simp
    · have h0' : ¬ (vs = [] ∨ d.sz = 0) := by
        rintro (h | h)
        · subst h; simp at h0
        · omega
      simp [execOp, Instr.buildSlice, run_underlying ht, run_size3 hinfo, run_zero hinfo, hcond, h0, h0', newRow]
      rw [Array.toList_map] at hps
      rw [hps, hfill]
      rfl
  · refine ⟨_, hraw, fun k hk => ?_, hM _ _⟩
    simp [Value.ownBlock] at hk
    subst hk
    simp
end
end Go.Proofs.Ytcolndejambcmaa.Ew
