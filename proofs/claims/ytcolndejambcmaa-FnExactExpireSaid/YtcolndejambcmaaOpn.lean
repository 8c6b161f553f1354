/- The law's arguments: what can be read of them, as kinds of values. -/
import Derived.Test.YtcolndejambcmaaR9
import Derived.Test.YtcolndejambcmaaPA
import Derived.Deep.Slices
import Derived.WalkKit
import Derived.ProofKit
import Derived.OpenShut
import Derived.ShutString
import Derived.ChangeOld
import Derived.Below
import Derived.Carry
import Derived.SizedLaws
namespace Go.Proofs.Ytcolndejambcmaa.Ew
open Go.RowKit Go.Proofs.YtcolndejambcmaaW.PrintWords Go.Proofs.YtcolndejambcmaaW.PrintLast
open Go.ChangeShapes Go.WideShapes Go.ChangeAt
set_option linter.unusedVariables false
set_option linter.unusedSimpArgs false
variable {H : Type} {enc : TypeId × Value → H} {P : Program} {w : World} {α β : Type}
theorem wf_i64 {n : Int} (h : (Lit.int .i64 n).wf = true) : okI n := by
  simp [Lit.wf, IntKind.min, IntKind.max, IntKind.bits, IntKind.signed] at h
  exact h
theorem wf_u8 {n : Int} (h : (Lit.int .u8 n).wf = true) : 0 ≤ n ∧ n ≤ 255 := by
  simp [Lit.wf, IntKind.min, IntKind.max, IntKind.bits, IntKind.signed] at h
  exact h
/-- Whatever reads as a value of type t is a value of kind d. -/
def Opn (enc : TypeId × Value → H) (P : Program) (w : World) (d : K2 α) (ok : α → Prop) (t : TypeId) : Prop :=
  ∀ (fuel : Nat) (cs : List Value) (x : DataW H × List MemPlace), DataW.trod enc P w 0 (fun _ => true) true fuel t cs = some x → ∃ a, d.K w a cs ∧ ok a ∧ cs.length = P.cellsOf t
theorem opn_int {t : TypeId} (ht : P.underlying t = some (.int .i64)) (hc : P.cellsOf t = 1) : Opn enc P w kInt okI t := by
  intro fuel cs x h
  obtain ⟨n, rfl, _, hw⟩ := DataW.trod_int ht h
  refine ⟨n, rfl, ?_, hc.symm⟩
  exact wf_i64 hw
theorem opn_u8 {t : TypeId} (ht : P.underlying t = some (.int .u8)) (hc : P.cellsOf t = 1) : Opn enc P w kU8 (fun _ => True) t := by
  intro fuel cs x h
  obtain ⟨n, rfl, _, hw⟩ := DataW.trod_int ht h
  have hw := wf_u8 hw
  refine ⟨UInt8.ofNat n.toNat, ?_, trivial, hc.symm⟩
  show [Value.int .u8 n] = [vb _]
  have : ((UInt8.ofNat n.toNat).toNat : Int) = n := by simp; omega
  rw [vb, this]
theorem opn_bool {t : TypeId} (ht : P.underlying t = some .bool) (hc : P.cellsOf t = 1) : Opn enc P w kBool (fun _ => True) t := by
  intro fuel cs x h
  obtain ⟨n, rfl, _⟩ := DataW.trod_bool ht h
  exact ⟨n, rfl, trivial, hc.symm⟩
theorem opn_str {t : TypeId} (ht : P.underlying t = some .string) (hc : P.cellsOf t = 1) : Opn enc P w kStr okS t := by
  intro fuel cs x h
  obtain ⟨s, rfl, _, hs⟩ := DataW.trod_string ht h
  refine ⟨s.data.toList, ?_, ?_, hc.symm⟩
  · show [Value.string s] = [str s.data.toList]
    simp [str]
  · unfold okS
    have h1 : s.size = s.data.toList.length := rfl
    have h2 : maxLen = 9223372036854775807 := rfl
    rw [← h1, ← h2]; exact hs
theorem list_of {p : Nat → α → Prop} : ∀ {n : Nat}, (∀ i, i < n → ∃ x, p i x) → ∃ xs : List α, xs.length = n ∧ ∀ i x, xs[i]? = some x → p i x
  | 0, _ => ⟨[], rfl, fun i x h => by simp at h⟩
  | n + 1, h => by
    obtain ⟨xs, h1, h2⟩ := list_of (n := n) (fun i hi => h i (by omega))
    obtain ⟨x, hx⟩ := h n (by omega)
    refine ⟨xs ++ [x], by simp [h1], fun i y hy => ?_⟩
    rw [List.getElem?_append] at hy
    split at hy
    · exact h2 i y hy
    · have : i = n := by
        have := (List.getElem?_eq_some_iff.1 hy).1
        simp at this; omega
      subst this
      simp [h1] at hy
      subst hy; exact hx
theorem opn_slice {d : K2 α} {ok : α → Prop} {t e : TypeId} (ht : P.underlying t = some (.slice e)) (hc : P.cellsOf t = 1) (hs : P.cellsOf e = d.sz) (h : Opn enc P w d ok e) : Opn enc P w (K2.slice e d) (okL ok) t := by
  intro fuel cs x hx
  rcases Deep.open_slice ht hx with ⟨rfl, _⟩ | ⟨a, len, cap, m, n, D, Pl, rfl, _, hl, hm, hmm, _, hel⟩
  · exact ⟨[], ⟨_, rfl, K2.C.nil d w⟩, ⟨by simp, fun x h => by simp at h⟩, hc.symm⟩
  · have hm2 : m = cap := by rw [hmm]; rfl
    subst hm2
    obtain ⟨xs, h1, h2⟩ := list_of (p := fun i (x : α) => ok x ∧ ∃ cs, d.K w x cs ∧ CellsAt w (a.add (i * d.sz)) 0 cs) (n := len) (fun i hi => by
      obtain ⟨cs', h3, h4⟩ := hel i (by omega)
      obtain ⟨x, h5, h6, h7⟩ := h n cs' _ h4
      obtain ⟨_, h8, h9⟩ := World.cells?_some h3
      refine ⟨x, h6, cs', h5, CellsAt.mk (fun j u hj => ?_)⟩
      have hj2 := (List.getElem?_eq_some_iff.1 hj).1
      have := h9 j (by omega)
      rw [hs] at this
      rw [Nat.zero_add, this]
      exact hj)
    have hml : m ≤ 9223372036854775807 := hm
    refine ⟨xs, ⟨_, rfl, some a, m, by rw [h1], by omega, by omega, fun i x hx => ?_⟩, ⟨by omega, fun x hx => ?_⟩, hc.symm⟩
    · obtain ⟨_, cs, h5, h6⟩ := h2 i x hx
      exact ⟨a, cs, rfl, h5, h6⟩
    · obtain ⟨i, hi⟩ := List.mem_iff_getElem?.1 hx
      exact (h2 i x hi).1
/-- Fields, from a place on. -/
def OpnF (enc : TypeId × Value → H) (P : Program) (w : World) (d : K2 α) (ok : α → Prop) (fs : List (TypeId × Nat)) : Prop :=
  ∀ (fuel : Nat) (cs : List Value), (∀ f ∈ fs, ∃ y, DataW.trod enc P w 0 (fun _ => true) true fuel f.1 ((cs.drop f.2).take (P.cellsOf f.1)) = some y) →
    ∃ a cs', d.K w a cs' ∧ ok a ∧ cs' = fs.flatMap (fun f => (cs.drop f.2).take (P.cellsOf f.1))
theorem opnF_one {d : K2 α} {ok : α → Prop} {t : TypeId} {o : Nat} (h : Opn enc P w d ok t) : OpnF enc P w d ok [(t, o)] := by
  intro fuel cs hf
  obtain ⟨y, hy⟩ := hf (t, o) (by simp)
  obtain ⟨a, h1, h2, h3⟩ := h _ _ _ hy
  exact ⟨a, _, h1, h2, by simp⟩
theorem opnF_cons {d : K2 α} {ok : α → Prop} {e : K2 β} {ok2 : β → Prop} {t : TypeId} {o : Nat} {fs : List (TypeId × Nat)} (h : Opn enc P w d ok t) (k : OpnF enc P w e ok2 fs) : OpnF enc P w (K2.pair d e) (fun x => ok x.1 ∧ ok2 x.2) ((t, o) :: fs) := by
  intro fuel cs hf
  obtain ⟨y, hy⟩ := hf (t, o) (by simp)
  obtain ⟨a, h1, h2, h3⟩ := h _ _ _ hy
  obtain ⟨b, cs', k1, k2, k3⟩ := k fuel cs (fun f hf' => hf f (List.mem_cons_of_mem _ hf'))
  exact ⟨(a, b), _, ⟨_, _, rfl, h1, k1⟩, ⟨h2, k2⟩, by rw [k3]; simp⟩
/-- The fields' cells, laid one behind the other, are the struct's. -/
def fieldsFit (P : Program) (n : Nat) : Nat → List (TypeId × Nat) → Bool
  | o, [] => o == n
  | o, f :: fs => f.2 == o && fieldsFit P n (o + P.cellsOf f.1) fs
theorem fieldsFit_cells {cs : List Value} : ∀ {fs : List (TypeId × Nat)} {o : Nat}, fieldsFit P cs.length o fs = true → fs.flatMap (fun f => (cs.drop f.2).take (P.cellsOf f.1)) = cs.drop o
  | [], o, h => by simp [fieldsFit] at h; simp [h]
  | f :: fs, o, h => by
    simp only [fieldsFit, Bool.and_eq_true, beq_iff_eq] at h
    obtain ⟨h1, h2⟩ := h
    rw [List.flatMap_cons, fieldsFit_cells h2, h1]
    rw [← List.drop_drop, List.take_append_drop]
theorem opn_struct {d : K2 β} {ok : β → Prop} {ok2 : α → Prop} {t : TypeId} {fs : Array Field} {f : α → β} {fl : List (TypeId × Nat)} (g : β → α) (ht : P.underlying t = some (.struct fs)) (hfs : fs.toList.map (fun f => (f.type, f.offset)) = fl)
    (hfit : fieldsFit P (P.cellsOf t) 0 fl = true) (h : OpnF enc P w d ok fl) (hfg : ∀ y, f (g y) = y) (hok : ∀ y, ok y → ok2 (g y)) : Opn enc P w (K2.iso d f) ok2 t := by
  subst hfs
  intro fuel cs x hx
  obtain ⟨xs, n, _, _, hl, hxl, hf⟩ := DataW.trod_struct ht hx
  obtain ⟨a, cs', h1, h2, h3⟩ := h n cs (fun q hq => by
    obtain ⟨fl, hfl, rfl⟩ := List.mem_map.1 hq
    obtain ⟨i, hi⟩ := List.mem_iff_getElem?.1 hfl
    have hi2 : fs[i]? = some fl := by simpa using hi
    have hlt : i < xs.length := by
      have := (Array.getElem?_eq_some_iff.1 hi2).1
      omega
    exact ⟨xs[i], by rw [hf i fl hi2]; simp [hlt]⟩)
  rw [← hl] at hfit
  rw [fieldsFit_cells hfit] at h3
  simp at h3
  subst h3
  refine ⟨g a, ?_, hok a h2, hl⟩
  show d.K w (f (g a)) cs'
  rw [hfg]; exact h1
/-! ### arguments -/
theorem okWide_struct {t : TypeId} {fs : Array Field} {r : Reach} {base : Nat} {v : Value} (ht : P.underlying t = some (.struct fs)) (h : Value.okWide P w r base t v) : ∃ cs, v = .agg cs := by
  unfold Value.okWide at h
  rw [ht] at h
  obtain ⟨cs, h, _⟩ := h
  exact ⟨cs, h⟩
theorem arg_struct {d : K2 α} {ok : α → Prop} {t : TypeId} {fs : Array Field} {base : Nat} {v : Value} {dt : DataW H} {ps : List MemPlace} (h : Opn enc P w d ok t) (ht : P.underlying t = some (.struct fs)) (hv : Value.okWide P w .any base t v)
    (hd : DataW.Trod enc P w 0 (fun _ => true) true t v dt ps) : ∃ a cs, v = .agg cs ∧ d.K w a cs.toList ∧ ok a := by
  obtain ⟨cs, rfl⟩ := okWide_struct ht hv
  obtain ⟨fuel, hf⟩ := hd
  obtain ⟨a, h1, h2, _⟩ := h _ _ _ hf
  exact ⟨a, cs, rfl, h1, h2⟩
theorem arg_slice {d : K2 α} {ok : α → Prop} {t e : TypeId} {base : Nat} {v : Value} {dt : DataW H} {ps : List MemPlace} (h : Opn enc P w (K2.slice e d) (okL ok) t) (ht : P.underlying t = some (.slice e)) (hv : Value.okWide P w .any base t v)
    (hd : DataW.Trod enc P w 0 (fun _ => true) true t v dt ps) : ∃ (a : List α) (u : Sv), v = sl u ∧ d.C w (sl u) a ∧ okL ok a := by
  obtain ⟨A, len, cap, rfl⟩ := okWide_slice ht hv
  obtain ⟨fuel, hf⟩ := hd
  obtain ⟨a, ⟨u, h1, h3⟩, h2, _⟩ := h _ _ _ hf
  have h1 : [Value.slice A len cap] = [u] := h1
  injection h1 with h1 _
  subst h1
  exact ⟨a, (A, len, cap), rfl, h3, h2⟩
theorem arg_int {t : TypeId} {base : Nat} {v : Value} {dt : DataW H} {ps : List MemPlace} (ht : P.underlying t = some (.int .i64)) (hv : Value.okWide P w .any base t v)
    (hd : DataW.Trod enc P w 0 (fun _ => true) true t v dt ps) : ∃ x : Int, v = vi x ∧ okI x := by
  obtain ⟨n, rfl⟩ := okWide_int ht hv
  obtain ⟨fuel, hf⟩ := hd
  obtain ⟨m, h1, _, hw⟩ := DataW.trod_int ht hf
  have h1 : [Value.int .i64 n] = [.int .i64 m] := h1
  injection h1 with h1 _
  injection h1 with _ h1
  subst h1
  refine ⟨n, rfl, ?_⟩
  exact wf_i64 hw
theorem arg_str {t : TypeId} {base : Nat} {v : Value} {dt : DataW H} {ps : List MemPlace} (ht : P.underlying t = some .string) (hv : Value.okWide P w .any base t v)
    (hd : DataW.Trod enc P w 0 (fun _ => true) true t v dt ps) : ∃ x : Str, v = str x ∧ okS x := by
  obtain ⟨n, rfl⟩ := okWide_string ht hv
  obtain ⟨fuel, hf⟩ := hd
  obtain ⟨s, h1, _, hs⟩ := DataW.trod_string ht hf
  have h1 : [Value.string n] = [.string s] := h1
  injection h1 with h1 _
  injection h1 with h1
  subst h1
  refine ⟨n.data.toList, by simp [str], ?_⟩
  unfold okS
  have h1 : n.size = n.data.toList.length := rfl
  have h2 : maxLen = 9223372036854775807 := rfl
  rw [← h1, ← h2]; exact hs
theorem arg_bool {t : TypeId} {base : Nat} {v : Value} (ht : P.underlying t = some .bool) (hv : Value.okWide P w .any base t v) : ∃ x : Bool, v = vt x := by
  obtain ⟨b, rfl⟩ := okWide_bool ht hv
  exact ⟨b, rfl⟩
theorem trod_places {t : TypeId} {v : Value} {dt : DataW H} {ps : List MemPlace} (hd : DataW.Trod enc P w 0 (fun _ => true) true t v dt ps) : ∀ x ∈ ps, x.block < w.heap.size := by
  obtain ⟨m, hm⟩ := hd
  exact DataW.trod_lt m _ _ _ hm
/-! ### the program's structs -/
theorem opn_Rec {t : TypeId} {fs : Array Field} {t0 t1 t2 t3 t4 t5 : TypeId} {o0 o1 o2 o3 o4 o5 : Nat} (ht : P.underlying t = some (.struct fs)) (hfs : fs.toList.map (fun f => (f.type, f.offset)) = [(t0, o0), (t1, o1), (t2, o2), (t3, o3), (t4, o4), (t5, o5)])
    (hfit : fieldsFit P (P.cellsOf t) 0 [(t0, o0), (t1, o1), (t2, o2), (t3, o3), (t4, o4), (t5, o5)] = true)
    (h0 : Opn enc P w kStr okS t0) (h1 : Opn enc P w kInt okI t1) (h2 : Opn enc P w kInt okI t2) (h3 : Opn enc P w kInt okI t3) (h4 : Opn enc P w kStr okS t4) (h5 : Opn enc P w kStr okS t5) : Opn enc P w kRec Rec.ok t :=
  opn_struct (fun y => { name := y.1, ty := y.2.1, ttl := y.2.2.1, num := y.2.2.2.1, host := y.2.2.2.2.1, text := y.2.2.2.2.2 }) ht hfs hfit
    (opnF_cons h0 (opnF_cons h1 (opnF_cons h2 (opnF_cons h3 (opnF_cons h4 (opnF_one h5)))))) (fun _ => rfl) (fun y h => ⟨h.1, h.2.1, h.2.2.1, h.2.2.2.1, h.2.2.2.2.1, h.2.2.2.2.2⟩)
theorem opn_Que {t : TypeId} {fs : Array Field} {t0 t1 : TypeId} {o0 o1 : Nat} (ht : P.underlying t = some (.struct fs)) (hfs : fs.toList.map (fun f => (f.type, f.offset)) = [(t0, o0), (t1, o1)])
    (hfit : fieldsFit P (P.cellsOf t) 0 [(t0, o0), (t1, o1)] = true) (h0 : Opn enc P w kStr okS t0) (h1 : Opn enc P w kInt okI t1) : Opn enc P w kQue Que.ok t :=
  opn_struct (fun y => { name := y.1, ty := y.2 }) ht hfs hfit (opnF_cons h0 (opnF_one h1)) (fun _ => rfl) (fun y h => ⟨h.1, h.2⟩)
/-! ### lists inside -/
theorem opn_Ent {t e : TypeId} {fs : Array Field} {t0 t1 t2 t3 t4 : TypeId} {o0 o1 o2 o3 o4 : Nat} (ht : P.underlying t = some (.struct fs)) (hfs : fs.toList.map (fun f => (f.type, f.offset)) = [(t0, o0), (t1, o1), (t2, o2), (t3, o3), (t4, o4)])
    (hfit : fieldsFit P (P.cellsOf t) 0 [(t0, o0), (t1, o1), (t2, o2), (t3, o3), (t4, o4)] = true) (h0 : Opn enc P w kQue Que.ok t0) (h1 : Opn enc P w kInt okI t1) (h2 : Opn enc P w (K2.slice e kRec) (okL Rec.ok) t2) (h3 : Opn enc P w kInt okI t3) (h4 : Opn enc P w kInt okI t4) : Opn enc P w (kEnt e) Ent.ok t :=
  opn_struct (fun y => { q := y.1, kind := y.2.1, l := y.2.2.1, rank := y.2.2.2.1, till := y.2.2.2.2 }) ht hfs hfit (opnF_cons h0 (opnF_cons h1 (opnF_cons h2 (opnF_cons h3 (opnF_one h4))))) (fun _ => rfl) (fun y h => ⟨h.1, h.2.1, h.2.2.1, h.2.2.2.1, h.2.2.2.2⟩)
def kCac (e1 e2 : TypeId) : K2 Cac := K2.iso (K2.pair kInt (K2.slice e1 (kEnt e2))) (fun x => (x.cap, x.l))
theorem Cac_K {e1 e2 : TypeId} {x : Cac} {cs : List Value} (h : (kCac e1 e2).K w x cs) : ∃ v : Sv, cs = [vi x.cap, sl v] ∧ (kEnt e2).C w (sl v) x.l := by
  obtain ⟨_, _, rfl, rfl, v, rfl, hv⟩ := h
  have hv' := hv
  obtain ⟨A, c, rfl, _⟩ := hv'
  exact ⟨(A, _, c), rfl, hv⟩
theorem opn_Cac {t e1 e2 : TypeId} {fs : Array Field} {t0 t1 : TypeId} {o0 o1 : Nat} (ht : P.underlying t = some (.struct fs)) (hfs : fs.toList.map (fun f => (f.type, f.offset)) = [(t0, o0), (t1, o1)])
    (hfit : fieldsFit P (P.cellsOf t) 0 [(t0, o0), (t1, o1)] = true) (h0 : Opn enc P w kInt okI t0) (h1 : Opn enc P w (K2.slice e1 (kEnt e2)) (okL Ent.ok) t1) : Opn enc P w (kCac e1 e2) Cac.ok t :=
  opn_struct (fun y => { cap := y.1, l := y.2 }) ht hfs hfit (opnF_cons h0 (opnF_one h1)) (fun _ => rfl) (fun y h => ⟨h.1, h.2⟩)
end Go.Proofs.Ytcolndejambcmaa.Ew
