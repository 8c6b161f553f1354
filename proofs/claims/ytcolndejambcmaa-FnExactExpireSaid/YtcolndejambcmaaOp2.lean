/- The steps of the walk, second part: what makes memory or writes it. -/
import Derived.Test.YtcolndejambcmaaOp
namespace Go.Proofs.Ytcolndejambcmaa.Ew
open Go.RowKit Go.Proofs.YtcolndejambcmaaW.PrintWords Go.Proofs.YtcolndejambcmaaW.PrintLast
set_option linter.unusedVariables false
set_option linter.unusedSimpArgs false

theorem fill_all (cs zs : Array Value) (h : zs.size = cs.size) : cs.zipIdx.foldl (fun acc (p : Value × Nat) => acc.setIfInBounds (0 + p.2) p.1) zs = cs := by
  have key : ∀ (l : List Value) (i : Nat) (acc : List Value), acc.length = i + l.length → ((l.zipIdx i).foldl (fun acc (p : Value × Nat) => acc.setIfInBounds (0 + p.2) p.1) acc.toArray) = (acc.take i ++ l).toArray := by
    intro l
    induction l with
    | nil => intro i acc ha; simp at ha; simp [← ha]
    | cons x l ih =>
      intro i acc ha
      simp only [List.zipIdx_cons, List.foldl_cons]
      have hi : i < acc.length := by simp at ha; omega
      have h1 : (acc.toArray.setIfInBounds (0 + i) x) = (acc.set i x).toArray := by simp
      rw [h1, ih (i + 1) (acc.set i x) (by simp at ha ⊢; omega)]
      congr 1
      have h2 : (acc.set i x).take (i + 1) = acc.take i ++ [x] := by
        rw [List.take_add_one]
        simp [List.take_set, hi]
        exact List.set_eq_of_length_le (by simp; omega)
      rw [h2]
      simp
  have := key cs.toList 0 zs.toList (by simpa using h)
  rw [← Array.foldl_toList]
  simpa [Array.toList_zipIdx] using this

/-- What a store of some cells from j on makes of a block's cells. -/
def splice : Array Value → Nat → List Value → Array Value
  | cs, _, [] => cs
  | cs, j, v :: r => splice (cs.setIfInBounds j v) (j + 1) r
theorem setCells_splice {g : Nat} {e : TypeId} : ∀ (vs : List Value) (o : Nat) (w : World) (cur : Array Value), w.heap[g]? = some (.cells cur e (0, 0)) → o + vs.length ≤ cur.size → (w.setCells g o vs).heap[g]? = some (.cells (splice cur o vs) e (0, 0))
  | [], o, w, cur, h, _ => h
  | v :: r, o, w, cur, h, hf => by
    have h1 := blk_set h o v
    exact setCells_splice r (o + 1) _ _ h1 (by simp at hf ⊢; omega)
section
variable {P : Program} {n : Nat} {Q : Exit → Env → World → Prop} {env : Env} {w : World} {ops : Array Oper} {rest : List Oper} {α : Type}
theorem run_zero {t : TypeId} {z : Value} {s b : Nat} (h : (P.info? t).map (fun i => (i.zero, i.size, i.bytes)) = some (some z, s, b)) (w : World) : (zeroValue t).run P w = .ok z w := by
  obtain ⟨i0, hi, hz⟩ := Option.map_eq_some_iff.1 h
  simp only [Prod.mk.injEq] at hz
  simp [zeroValue, typeInfo, hi, hz.1]
theorem run_size3 {t : TypeId} {z : Value} {s b : Nat} (h : (P.info? t).map (fun i => (i.zero, i.size, i.bytes)) = some (some z, s, b)) (w : World) : (sizeOf t).run P w = .ok s w := by
  obtain ⟨i0, hi, hz⟩ := Option.map_eq_some_iff.1 h
  simp only [Prod.mk.injEq] at hz
  simp [sizeOf, typeInfo, hi, hz.2.1]
/-- '[]T{}'. -/
theorem EL.lit0 {t e : TypeId} {d : Nat} {ty : TypeId} {pos : String} {after : Array Edge} (ht : P.underlying t = some (.slice e)) {s : Nat} (hs : (P.info? e).map (·.size) = some s) (hn : d < n)
    (h : EL P n ops Q rest ((d, .slice (some ⟨w.heap.size, 0, none⟩) 0 0) :: env) (w.alloc (.cells #[] e))) : EL P n ops Q (⟨some d, .buildSlice t 0 #[], ty, pos, after, none⟩ :: rest) env w := by
  refine EL.val (fun ρ hρ => ?_) rfl rfl hn h
  simp [execOp, Instr.buildSlice, run_underlying ht, run_sizeOf hs, Instr.fill, newRow]
  have : (Array.range 0) = #[] := rfl
  rw [this]; simp
/-- '[]T{x}'. -/
theorem EL.lit1 {t e : TypeId} {x : Operand} {xv : Value} {d : Nat} {ty : TypeId} {pos : String} {after : Array Edge} (hx : ev env x = some xv) (ht : P.underlying t = some (.slice e)) {z : Value} {s b : Nat} (hinfo : (P.info? e).map (fun i => (i.zero, i.size, i.bytes)) = some (some z, s, b)) (hz : z.cells.size = s) (hs0 : 0 < s) (hs1 : s ≤ 16777216) (hxs : xv.cells.size = s) (hn : d < n)
    (h : EL P n ops Q rest ((d, .slice (some ⟨w.heap.size, 0, none⟩) 1 1) :: env) (w.alloc (.cells xv.cells e))) : EL P n ops Q (⟨some d, .buildSlice t 1 #[(0, x)], ty, pos, after, none⟩ :: rest) env w := by
  refine EL.val (fun ρ hρ => ?_) rfl rfl hn h
  have h1 := hρ x _ hx
  have h0 : ¬ s = 0 := by omega
  have h2 : ¬ (16777216 < s) := by omega
  have hf : Instr.fill (fun i => some (i * s, s)) ((Array.range s).map (fun i => z.cells[i % z.cells.size]!)) [(0, xv)] = some xv.cells := by
    unfold Instr.fill
    simp only [Nat.zero_mul, hxs]
    rw [if_neg (by simp)]
    unfold Instr.fill
    rw [fill_all _ _ (by simp [hxs])]
  simp [execOp, Instr.buildSlice, run_underlying ht, run_size3 hinfo, run_zero hinfo, h1, h0, h2, newRow]
  rw [hf]
  rfl
theorem EL.lit1A {t e : TypeId} {x : Operand} {xv : Value} {d : Nat} {ty : TypeId} {pos : String} {after : Array Edge} (hx : ev env x = some xv) (ht : P.underlying t = some (.slice e)) {z : Value} {s b : Nat} (hinfo : (P.info? e).map (fun i => (i.zero, i.size, i.bytes)) = some (some z, s, b)) (hz : z.cells.size = s) (hs0 : 0 < s) (hs1 : s ≤ 16777216) (hxs : xv.cells.size = s) (hn : d < n)
    (h : ∀ g w1, w.heap.size ≤ g → w1.heap[g]? = some (.cells xv.cells e (0, 0)) → Below w.heap.size w w1 → EL P n ops Q rest ((d, .slice (some ⟨g, 0, none⟩) 1 1) :: env) w1) : EL P n ops Q (⟨some d, .buildSlice t 1 #[(0, x)], ty, pos, after, none⟩ :: rest) env w :=
  EL.lit1 hx ht hinfo hz hs0 hs1 hxs hn (h _ _ (Nat.le_refl _) (blk_new w _) (below_alloc (Below.refl _ _) _))
theorem EL.app1 (d : Kd α) {w0 W : World} (base : Nat) {s x : Operand} {t e : TypeId} {D : Nat} {ty : TypeId} {pos : String} {after : Array Edge} {z : Value} {bytes : Nat}
    (ht : P.underlying t = some (.slice e)) (hinfo : (P.info? e).map (fun i => (i.zero, i.size, i.bytes)) = some (some z, d.sz, bytes)) (hz : z.cells.size = d.sz) (hs0 : 0 < d.sz) (hb0 : 0 < bytes)
    {v : Value} {xs : List α} {p : α} {cs : List Value} (ok okp : Nat → Prop) (hs : ev env s = some v) (hx : ev env x = some (.slice (some ⟨W.heap.size, 0, none⟩) 1 1)) (hp : d.M W base okp p cs) (hokp : ∀ k, okp k → ok k ∧ some k ≠ v.ownBlock) (hfresh : ∀ k, W.heap.size ≤ k → ok k)
    (HO : d.R e W base ok v xs) (HB : Below base w0 W) (hbase : base ≤ W.heap.size) (hl : (xs.length + 1) * bytes ≤ 140737488355328) {ar : Array Value} (har : ar = cs.toArray) (hn : D < n)
    (h : ∀ v1 w1, d.R e w1 base ok v1 (xs ++ [p]) → Below base w0 w1 → W.grownBy w1 v.ownBlock → (v1.ownBlock = v.ownBlock ∨ ∃ b, v1.ownBlock = some b ∧ W.heap.size ≤ b) → EL P n ops Q rest ((D, v1) :: env) w1) :
    EL P n ops Q (⟨some D, .call { callee := .builtin .append, args := #[s, x], argTypes := #[t, t] }, ty, pos, after, none⟩ :: rest) env (W.alloc (.cells ar e)) := by
  subst har
  intro a ha
  exact Kd.R_append d base rfl s x t e z bytes rfl ht hinfo hz hs0 hb0 v xs p cs ok okp (ha.agree s _ hs) (ha.agree x _ hx) hp hokp hfresh HO HB hbase hl (fun v1 w1 h1 h2 h3 h4 => h v1 w1 h1 h2 h3 h4 _ (ha.put hn v1))
theorem EL.apps (d : Kd α) {Rr : α → List Value → Prop} {w0 W : World} (base : Nat) {s x : Operand} {t e : TypeId} {D : Nat} {ty : TypeId} {pos : String} {after : Array Edge} {z : Value} {bytes : Nat}
    (ht : P.underlying t = some (.slice e)) (hinfo : (P.info? e).map (fun i => (i.zero, i.size, i.bytes)) = some (some z, d.sz, bytes)) (hz : z.cells.size = d.sz) (hs0 : 0 < d.sz) (hb0 : 0 < bytes)
    {v : Value} {xs ys : List α} {A : Option Addr} {m c : Nat} (ok okp : Nat → Prop) (hs : ev env s = some v) (hx : ev env x = some (.slice A m c))
    (HO : d.R e W base ok v xs) (HR : ReadsRow Rr d.sz W A m ys) (hKM : ∀ x cs, Rr x cs → d.M W base okp x cs) (hokp : ∀ k, okp k → ok k ∧ some k ≠ v.ownBlock) (hfresh : ∀ k, W.heap.size ≤ k → ok k)
    (HB : Below base w0 W) (hbase : base ≤ W.heap.size) (hl : (xs.length + m) * bytes ≤ 140737488355328) (hn : D < n)
    (h : ∀ v1 w1, d.R e w1 base ok v1 (xs ++ ys) → Below base w0 w1 → W.grownBy w1 v.ownBlock → (v1.ownBlock = v.ownBlock ∨ ∃ b, v1.ownBlock = some b ∧ W.heap.size ≤ b) → EL P n ops Q rest ((D, v1) :: env) w1) :
    EL P n ops Q (⟨some D, .call { callee := .builtin .append, args := #[s, x], argTypes := #[t, t] }, ty, pos, after, none⟩ :: rest) env W := by
  intro a ha
  exact Kd.R_append_rows d base rfl s x t e z bytes rfl ht hinfo hz hs0 hb0 v xs ys A m c ok okp (ha.agree s _ hs) (ha.agree x _ hx) HO HR hKM hokp hfresh HB hbase hl (fun v1 w1 h1 h2 h3 h4 => h v1 w1 h1 h2 h3 h4 _ (ha.put hn v1))
theorem EL.mk (d : Kd α) {w0 W : World} (base : Nat) {t e : TypeId} {x y : Operand} {D : Nat} {ty : TypeId} {pos : String} {after : Array Edge} {m : Int} (hx : ev env x = some (.int .i64 m)) (hy : ev env y = some (.int .i64 m))
    (ht : P.underlying t = some (.slice e)) {z : Value} {bytes : Nat} (hinfo : (P.info? e).map (fun i => (i.zero, i.size, i.bytes)) = some (some z, d.sz, bytes)) (hz : z.cells.size = d.sz) (hs0 : 0 < d.sz) (hb0 : 0 < bytes)
    (z0 : α) {ok okp : Nat → Prop} (hzero : d.M W base okp z0 z.cells.toList) (hok : ∀ k, okp k → ok k) (hfresh : ok W.heap.size) (h0 : 0 ≤ m) (hl : m.toNat * bytes ≤ 281474976710656) (HB : Below base w0 W) (hbase : base ≤ W.heap.size) (hn : D < n)
    (h : ∀ v1 w1, d.R e w1 base ok v1 (List.replicate m.toNat z0) → Below base w0 w1 → W.grownBy w1 none → (∃ b, v1.ownBlock = some b ∧ W.heap.size ≤ b) → EL P n ops Q rest ((D, v1) :: env) w1) : EL P n ops Q (⟨some D, .makeSlice t x y, ty, pos, after, none⟩ :: rest) env W := by
  intro a ha
  exact Kd.R_make d base e rfl rfl t x y rfl m (ha.agree x _ hx) (ha.agree y _ hy) ht z bytes hinfo hz hs0 hb0 z0 hzero hok hfresh h0 hl HB hbase (fun v1 w1 h1 h2 h3 h4 => h v1 w1 h1 h2 h3 h4 _ (ha.put hn v1))
theorem EL.sto (d : Kd α) {w0 W : World} (base : Nat) {t : TypeId} {p x : Operand} {ty : TypeId} {pos : String} {after : Array Edge} (e : TypeId) {g m cap o' : Nat} (i : Int) (j : Nat) (xs : List α) (x' : α) (u : Value) (seg c : List Value) (ok okp : Nat → Prop)
    (haddr : ev env p = some (.pointer (some ⟨g, o', none⟩))) (hoff : o' = i.toNat * d.sz + j) (hx : ev env x = some u) (hu : u.cells.toList = seg) (ht : (P.info? t).map (·.size) = some seg.length) (h1 : ∀ q ∈ seg, q.oneCell' = true)
    (HO : d.R e W base ok (.slice (some ⟨g, 0, none⟩) m cap) xs) (h0 : 0 ≤ i) (hi : i < m) (hcl : c.length = d.sz) (hcc : ∀ j u, c[j]? = some u → W.cell? ⟨g, i.toNat * d.sz + j, none⟩ = some u)
    (hj : j + seg.length ≤ d.sz) (hM : d.M W base okp x' (c.take j ++ seg ++ c.drop (j + seg.length))) (hokp : ∀ k, okp k → ok k ∧ k ≠ g) (HB : Below base w0 W)
    (h : ∀ w1, d.R e w1 base ok (.slice (some ⟨g, 0, none⟩) m cap) (xs.set i.toNat x') → Below base w0 w1 → W.grownBy w1 (some g) → EL P n ops Q rest env w1) : EL P n ops Q (⟨none, .store t p x, ty, pos, after, none⟩ :: rest) env W := by
  intro a ha
  exact Kd.R_store d base rfl rfl t p x rfl e i j xs x' u seg c ok okp (ha.agree p _ haddr) hoff (ha.agree x _ hx) hu ht h1 HO h0 hi hcl hcc hj hM hokp HB (fun w1 h1 h2 h3 => h w1 h1 h2 h3 a ha)
/-- A variable is put into memory. -/
theorem EL.box {t : TypeId} {x : Operand} {xv : Value} {d : Nat} {ty : TypeId} {pos : String} {after : Array Edge} (hx : ev env x = some xv) (hn : d < n)
    (h : EL P n ops Q rest ((d, .pointer (some ⟨w.heap.size, 0, none⟩)) :: env) (w.alloc (.cells xv.cells t))) : EL P n ops Q (⟨some d, .box t x, ty, pos, after, none⟩ :: rest) env w := by
  refine EL.val (fun ρ hρ => ?_) rfl rfl hn h
  have h1 := hρ x _ hx
  simp [execOp, Instr.box, newVar, newRow, h1]
theorem EL.alloc {t : TypeId} {z : Value} {s b : Nat} {d : Nat} {ty : TypeId} {pos : String} {after : Array Edge} (hinfo : (P.info? t).map (fun i => (i.zero, i.size, i.bytes)) = some (some z, s, b)) (hn : d < n)
    (h : EL P n ops Q rest ((d, .pointer (some ⟨w.heap.size, 0, none⟩)) :: env) (w.alloc (.cells z.cells t))) : EL P n ops Q (⟨some d, .alloc t, ty, pos, after, none⟩ :: rest) env w := by
  refine EL.val (fun ρ hρ => ?_) rfl rfl hn h
  simp [execOp, Instr.alloc, newVar, newRow, run_zero hinfo]
/-- The same, the new block and the world behind it as letters. -/
theorem EL.boxA {t : TypeId} {x : Operand} {xv : Value} {d : Nat} {ty : TypeId} {pos : String} {after : Array Edge} (hx : ev env x = some xv) (hn : d < n)
    (h : ∀ g w1, w.heap.size ≤ g → w1.heap[g]? = some (.cells xv.cells t (0, 0)) → Below w.heap.size w w1 → EL P n ops Q rest ((d, .pointer (some ⟨g, 0, none⟩)) :: env) w1) : EL P n ops Q (⟨some d, .box t x, ty, pos, after, none⟩ :: rest) env w :=
  EL.box hx hn (h _ _ (Nat.le_refl _) (blk_new w _) (below_alloc (Below.refl _ _) _))
theorem EL.allocA {t : TypeId} {z : Value} {s b : Nat} {d : Nat} {ty : TypeId} {pos : String} {after : Array Edge} (hinfo : (P.info? t).map (fun i => (i.zero, i.size, i.bytes)) = some (some z, s, b)) (hn : d < n)
    (h : ∀ g w1, w.heap.size ≤ g → w1.heap[g]? = some (.cells z.cells t (0, 0)) → Below w.heap.size w w1 → EL P n ops Q rest ((d, .pointer (some ⟨g, 0, none⟩)) :: env) w1) : EL P n ops Q (⟨some d, .alloc t, ty, pos, after, none⟩ :: rest) env w :=
  EL.alloc hinfo hn (h _ _ (Nat.le_refl _) (blk_new w _) (below_alloc (Below.refl _ _) _))
def CellsAt (w : World) (A : Addr) : Nat → List Value → Prop
  | _, [] => True
  | i, v :: r => w.cell? (A.add i) = some v ∧ CellsAt w A (i + 1) r
theorem blk_at {w : World} {g : Nat} {t : TypeId} {cs : Array Value} (h : w.heap[g]? = some (.cells cs t (0, 0))) : CellsAt w ⟨g, 0, none⟩ 0 cs.toList := by
  have key : ∀ (l : List Value) (i : Nat), (∀ j u, l[j]? = some u → cs[i + j]? = some u) → CellsAt w ⟨g, 0, none⟩ i l := by
    intro l
    induction l with
    | nil => intro i _; trivial
    | cons v r ih =>
      intro i hl
      refine ⟨?_, ih (i + 1) (fun j u hj => ?_)⟩
      · rw [add_plain, blk_cell h]
        exact hl 0 v rfl
      · have := hl (j + 1) u (by simpa using hj)
        have e : i + (j + 1) = i + 1 + j := by omega
        rwa [e] at this
  exact key cs.toList 0 (fun j u hj => by simpa using hj)
theorem run_loadCells {A : Addr} : ∀ (l : List Value) (i : Nat) (acc : Array Value), CellsAt w A i l → (loadCellsFrom A i l.length acc).run P w = .ok (acc ++ l.toArray) w
  | [], i, acc, _ => by simp [loadCellsFrom]
  | v :: r, i, acc, h => by
    have := run_loadCells r (i + 1) (acc.push v) h.2
    simp [loadCellsFrom, h.1, this]
/-- A struct is read out of memory. -/
theorem EL.lds {t : TypeId} {x : Operand} {fs : Array Field} {d : Nat} {ty : TypeId} {pos : String} {after : Array Edge} {A : Addr} (cs : List Value) (hx : ev env x = some (.pointer (some A))) (hu : P.underlying t = some (.struct fs)) (hc : CellsAt w A 0 cs) (hs : (P.info? t).map (·.size) = some cs.length) (hn : d < n)
    (k : EL P n ops Q rest ((d, .agg cs.toArray) :: env) w) : EL P n ops Q (⟨some d, .load t x, ty, pos, after, none⟩ :: rest) env w := by
  refine EL.val (fun ρ hρ => ?_) rfl rfl hn k
  have h3 := hρ x _ hx
  have h4 := run_loadCells (P := P) cs 0 #[] hc
  simp [execOp, Instr.loadAt, h3, Instr.sureAddr, loadVar, isAgg, run_underlying hu, run_sizeOf hs, loadCells, h4]
/-- A store into a variable in memory: its block, its neighbours, the world as letters. -/
theorem EL.stb {w0 : World} {B : Nat} {t T : TypeId} {p x : Operand} {ty : TypeId} {pos : String} {after : Array Edge} {g j : Nat} {cs cs' : Array Value} {A : Addr} {u : Value} (hp : ev env p = some (.pointer (some A))) (hA : A = ⟨g, j, none⟩) (hx : ev env x = some u) (seg : List Value) (hu : u.cells.toList = seg) (ht : (P.info? t).map (·.size) = some seg.length)
    (h1 : ∀ q ∈ seg, q.oneCell' = true) (hb : w.heap[g]? = some (.cells cs T (0, 0))) (hfit : j + seg.length ≤ cs.size) (hcs : splice cs j seg = cs') (HB : Below B w0 w) (hg : B ≤ g)
    (h : ∀ w1, w1.heap[g]? = some (.cells cs' T (0, 0)) → Below B w0 w1 → (∀ k, k ≠ g → w1.heap[k]? = w.heap[k]?) → EL P n ops Q rest env w1) : EL P n ops Q (⟨none, .store t p x, ty, pos, after, none⟩ :: rest) env w := by
  subst hA
  have hs := setCells_same g seg j w
  refine EL.unit (w' := w.setCells g j seg) (fun ρ hρ => ?_) rfl rfl (h _ ?_ ?_ (fun k hk => setCells_far seg j k hk))
  · have h2 := hρ p _ hp
    have h3 := hρ x _ hx
    have h4 := run_store_run (P := P) t u seg hb hu ht hfit h1
    simp [execOp, h2, h3, h4]
  · rw [← hcs]; exact setCells_splice seg j w cs hb hfit
  · exact ⟨hs.1.trans HB.os, hs.2.1.trans HB.tape, hs.2.2.1.trans HB.output, by rw [hs.2.2.2]; exact HB.size, fun k hk => (setCells_far seg j k (by omega)).trans (HB.block k hk)⟩
theorem runs_lds {t : TypeId} {x : Operand} {fs : Array Field} {d : Option Tmp} {ty : TypeId} {pos : String} {after : Array Edge} {A : Addr} (cs : List Value) (hx : ev env x = some (.pointer (some A))) (hu : P.underlying t = some (.struct fs)) (w' : World) (hc : CellsAt w' A 0 cs) (hs : (P.info? t).map (·.size) = some cs.length) : Runs P env ⟨d, .load t x, ty, pos, after, none⟩ w' (.agg cs.toArray) w' := by
  intro ρ hρ
  have h3 := hρ x _ hx
  have h4 := run_loadCells (P := P) cs 0 #[] hc
  simp [execOp, Instr.loadAt, h3, Instr.sureAddr, loadVar, isAgg, run_underlying hu, run_sizeOf hs, loadCells, h4]
end
end Go.Proofs.Ytcolndejambcmaa.Ew
