/- Kinds of values (how a value reads out of memory, and what it owns), rows of them: the memory's side of a pure function's values. -/
import Derived.Test.YtcolndejambcmaaOp5
namespace Go.Proofs.Ytcolndejambcmaa.Ew
open Go.RowKit Go.Proofs.YtcolndejambcmaaW.PrintWords Go.Proofs.YtcolndejambcmaaW.PrintLast
set_option linter.unusedVariables false
set_option linter.unusedSimpArgs false
open Classical in
/-- The world, but only its blocks of s. -/
noncomputable def only (s : Nat → Prop) (w : World) : World := { w with heap := w.heap.mapIdx fun k o => if s k then o else .cells #[] 0 (0, 0) }
theorem only_cell (s : Nat → Prop) (w : World) (p : Addr) (v : Value) (h : (only s w).cell? p = some v) : s p.block ∧ w.cell? p = some v := by
  unfold World.cell? only at h
  simp only [Array.getElem?_mapIdx] at h
  cases hb : w.heap[p.block]? with
  | none => rw [hb] at h; simp at h
  | some o =>
    rw [hb] at h
    simp only [Option.map_some] at h
    by_cases hs : s p.block
    · rw [if_pos hs] at h
      refine ⟨hs, ?_⟩
      unfold World.cell?
      rw [hb]; exact h
    · rw [if_neg hs] at h
      simp at h
theorem only_cell_mk {s : Nat → Prop} {w : World} {p : Addr} {v : Value} (hs : s p.block) (h : w.cell? p = some v) : (only s w).cell? p = some v := by
  unfold World.cell? only
  simp only [Array.getElem?_mapIdx]
  unfold World.cell? at h
  cases hb : w.heap[p.block]? with
  | none => rw [hb] at h; simp at h
  | some o => rw [hb] at h; simp only [Option.map_some, if_pos hs]; exact h
/-- Each cell of b is w's. -/
def Agr (b w : World) : Prop := ∀ p v, b.cell? p = some v → w.cell? p = some v
theorem Agr.rfl' (w : World) : Agr w w := fun _ _ h => h
theorem Agr.trans {a b c : World} (h : Agr a b) (k : Agr b c) : Agr a c := fun p v hp => k p v (h p v hp)
theorem agr_only (s : Nat → Prop) (w : World) : Agr (only s w) w := fun p v h => (only_cell s w p v h).2
theorem agr_only_sub {s t : Nat → Prop} {w : World} (h : ∀ k, s k → t k) : Agr (only s w) (only t w) := fun p v hp => by
  have := only_cell s w p v hp
  exact only_cell_mk (h _ this.1) this.2
theorem CellsAt.agr {b w : World} {A : Addr} (h : Agr b w) : ∀ {cs : List Value} {i : Nat}, CellsAt b A i cs → CellsAt w A i cs
  | [], _, _ => trivial
  | _ :: _, _, hc => ⟨h _ _ hc.1, CellsAt.agr h hc.2⟩
theorem add_add (A : Addr) (i j : Nat) : (A.add i).add j = A.add (i + j) := by
  unfold Addr.add
  by_cases hj : j = 0
  · subst hj; simp
  · by_cases hi : i = 0
    · subst hi; simp
    · have : ¬ i + j = 0 := by omega
      simp [hi, hj, this, Nat.add_assoc]
theorem add_block (A : Addr) (n : Nat) : (A.add n).block = A.block := by unfold Addr.add; split <;> rfl
theorem CellsAt.get {w : World} {A : Addr} : ∀ {cs : List Value} {i j : Nat} {u : Value}, CellsAt w A i cs → cs[j]? = some u → w.cell? (A.add (i + j)) = some u
  | [], _, _, _, _, h => by simp at h
  | _ :: _, i, 0, u, h, hu => by simp at hu; subst hu; exact h.1
  | _ :: r, i, j + 1, u, h, hu => by
    have := CellsAt.get (i := i + 1) h.2 (j := j) (u := u) (by simpa using hu)
    rwa [show i + 1 + j = i + (j + 1) by omega] at this
theorem CellsAt.mk {w : World} {A : Addr} : ∀ {cs : List Value} {i : Nat}, (∀ j u, cs[j]? = some u → w.cell? (A.add (i + j)) = some u) → CellsAt w A i cs
  | [], _, _ => trivial
  | v :: r, i, h => ⟨by simpa using h 0 v (by simp), CellsAt.mk (fun j u hu => by have := h (j + 1) u (by simpa using hu); rwa [show i + (j + 1) = i + 1 + j by omega] at this)⟩
/-- A part of a row of cells. -/
theorem CellsAt.sub {w : World} {A : Addr} {cs : List Value} (h : CellsAt w A 0 cs) (j n : Nat) : CellsAt w (A.add j) 0 ((cs.drop j).take n) := by
  refine CellsAt.mk (fun i u hu => ?_)
  rw [add_add]
  have : cs[j + i]? = some u := by
    rw [List.getElem?_take] at hu
    split at hu
    · rw [List.getElem?_drop] at hu; exact hu
    · cases hu
  have := h.get this
  simpa using this

/-- A kind: how many cells; how a value reads; how it owns what it reaches (s: blocks that hold all of that). -/
structure K2 (α : Type) where
  sz : Nat
  K : World → α → List Value → Prop
  M : World → (Nat → Prop) → α → List Value → Prop
  K_len : ∀ {w x cs}, K w x cs → cs.length = sz
  K_agr : ∀ {b w : World} {x cs}, Agr b w → K b x cs → K w x cs
  M_one : ∀ {w s x cs}, M w s x cs → ∀ u ∈ cs, u.oneCell' = true
  M_loc : ∀ {w w1 : World} {s x cs}, (∀ k, s k → w1.heap[k]? = w.heap[k]?) → M w s x cs → M w1 s x cs
  M_sub : ∀ {w s s' x cs}, (∀ k, s k → s' k) → M w s x cs → M w s' x cs
  M_lt : ∀ {w : World} {s x cs}, M w s x cs → M w (fun k => s k ∧ k < w.heap.size) x cs
  M_K : ∀ {w s x cs}, M w s x cs → K (only s w) x cs
namespace K2
variable {α β : Type}
/-- One cell that says all. -/
def cell (f : α → Value) (h1 : ∀ x, (f x).oneCell' = true) : K2 α where
  sz := 1
  K := fun _ x cs => cs = [f x]
  M := fun _ _ x cs => cs = [f x]
  K_len := fun h => by rw [h]; rfl
  K_agr := fun _ h => h
  M_one := fun h u hu => by rw [h] at hu; simp at hu; rw [hu]; exact h1 _
  M_loc := fun _ h => h
  M_sub := fun _ h => h
  M_lt := fun h => h
  M_K := fun h => h
def pair (a : K2 α) (b : K2 β) : K2 (α × β) where
  sz := a.sz + b.sz
  K := fun w x cs => ∃ c1 c2, cs = c1 ++ c2 ∧ a.K w x.1 c1 ∧ b.K w x.2 c2
  M := fun w s x cs => ∃ c1 c2 s1 s2, cs = c1 ++ c2 ∧ (∀ k, s1 k → s k ∧ ¬ s2 k) ∧ (∀ k, s2 k → s k) ∧ a.M w s1 x.1 c1 ∧ b.M w s2 x.2 c2
  K_len := fun ⟨c1, c2, h, h1, h2⟩ => by rw [h, List.length_append, a.K_len h1, b.K_len h2]
  K_agr := fun hb ⟨c1, c2, h, h1, h2⟩ => ⟨c1, c2, h, a.K_agr hb h1, b.K_agr hb h2⟩
  M_one := fun ⟨c1, c2, s1, s2, h, _, _, h1, h2⟩ u hu => by
    rw [h] at hu
    rcases List.mem_append.1 hu with hu | hu
    · exact a.M_one h1 u hu
    · exact b.M_one h2 u hu
  M_loc := fun hl ⟨c1, c2, s1, s2, h, hs1, hs2, h1, h2⟩ => ⟨c1, c2, s1, s2, h, hs1, hs2, a.M_loc (fun k hk => hl k (hs1 k hk).1) h1, b.M_loc (fun k hk => hl k (hs2 k hk)) h2⟩
  M_sub := fun hl ⟨c1, c2, s1, s2, h, hs1, hs2, h1, h2⟩ => ⟨c1, c2, s1, s2, h, fun k hk => ⟨hl k (hs1 k hk).1, (hs1 k hk).2⟩, fun k hk => hl k (hs2 k hk), h1, h2⟩
  M_lt := fun ⟨c1, c2, s1, s2, h, hs1, hs2, h1, h2⟩ => ⟨c1, c2, _, _, h, fun k hk => ⟨⟨(hs1 k hk.1).1, hk.2⟩, fun h3 => (hs1 k hk.1).2 h3.1⟩, fun k hk => ⟨hs2 k hk.1, hk.2⟩, a.M_lt h1, b.M_lt h2⟩
  M_K := fun ⟨c1, c2, s1, s2, h, hs1, hs2, h1, h2⟩ => ⟨c1, c2, h, a.K_agr (agr_only_sub fun k hk => (hs1 k hk).1) (a.M_K h1), b.K_agr (agr_only_sub fun k hk => hs2 k hk) (b.M_K h2)⟩
def iso (a : K2 β) (f : α → β) : K2 α where
  sz := a.sz
  K := fun w x cs => a.K w (f x) cs
  M := fun w s x cs => a.M w s (f x) cs
  K_len := a.K_len
  K_agr := a.K_agr
  M_one := a.M_one
  M_loc := a.M_loc
  M_sub := a.M_sub
  M_lt := a.M_lt
  M_K := a.M_K
/-- What is read of a row. -/
def C (d : K2 α) (b : World) (v : Value) (xs : List α) : Prop :=
  ∃ A c, v = .slice A xs.length c ∧ xs.length ≤ c ∧ xs.length ≤ 9223372036854775807 ∧ ∀ i x, xs[i]? = some x → ∃ ad cs, A = some ad ∧ d.K b x cs ∧ CellsAt b (ad.add (i * d.sz)) 0 cs
theorem C.agr {d : K2 α} {b w : World} {v : Value} {xs : List α} (hb : Agr b w) (h : d.C b v xs) : d.C w v xs := by
  obtain ⟨A, c, h1, h2, h3, h4⟩ := h
  refine ⟨A, c, h1, h2, h3, fun i x hx => ?_⟩
  obtain ⟨ad, cs, h5, h6, h7⟩ := h4 i x hx
  exact ⟨ad, cs, h5, d.K_agr hb h6, h7.agr hb⟩
theorem C.nil (d : K2 α) (b : World) : d.C b (.slice none 0 0) [] := ⟨none, 0, rfl, Nat.le_refl _, by simp, fun i x h => by simp at h⟩
theorem C.empty (d : K2 α) (b : World) (A : Option Addr) (c : Nat) : d.C b (.slice A 0 c) [] := ⟨A, c, rfl, Nat.zero_le _, by simp, fun i x h => by simp at h⟩
end K2
/-- Cells as a row's raw elements. -/
def kRaw (n : Nat) : Kd (List Value) where
  sz := n
  E := []
  K := fun _ x cs => cs = x ∧ x.length = n ∧ ∀ u ∈ x, u.oneCell' = true
  M := fun _ _ _ x cs => cs = x ∧ x.length = n ∧ ∀ u ∈ x, u.oneCell' = true
  K_len := fun ⟨h, h1, _⟩ => by rw [h, h1]
  K_one := fun ⟨h, _, h2⟩ u hu => h2 u (h ▸ hu)
  K_below := fun _ h => h
  K_of_M := fun h => h
  M_mono := fun _ h => h
  M_bound := fun h => h
  M_move := fun _ h => h
  M_lower := fun _ h => h
/-- A row's raw cells, the row being the call's own. -/
def Raw (n : Nat) (e : TypeId) (w : World) (v : Value) (css : List (List Value)) : Prop := (kRaw n).R e w 0 (fun _ => True) v css
theorem Raw.loc {n : Nat} {e : TypeId} {w w1 : World} {v : Value} {css : List (List Value)} (h : Raw n e w v css) (hl : ∀ k, v.ownBlock = some k → w1.heap[k]? = w.heap[k]?) : Raw n e w1 v css := by
  obtain ⟨h0, inner, ho, hr⟩ := h
  exact ⟨h0, inner, own_move ho hl, hr⟩
theorem Raw.elt {n : Nat} {e : TypeId} {w : World} {v : Value} {css : List (List Value)} (h : Raw n e w v css) : ∀ cs ∈ css, cs.length = n ∧ ∀ u ∈ cs, u.oneCell' = true := by
  obtain ⟨_, inner, _, hr⟩ := h
  intro cs hcs
  obtain ⟨j, hj, rfl⟩ := List.mem_iff_getElem.1 hcs
  exact (hr.2 j _ (List.getElem?_eq_getElem hj)).2
theorem Raw.nil (n : Nat) (e : TypeId) (w : World) : Raw n e w (.slice none 0 0) [] := Kd.R_nil _ _ _ _ _
theorem Raw.form {n : Nat} {e : TypeId} {w : World} {v : Value} {css : List (List Value)} (h : Raw n e w v css) (hp : 0 < css.length) : ∃ g cap, v = .slice (some ⟨g, 0, none⟩) css.length cap ∧ g < w.heap.size := by
  obtain ⟨g, cap, h1, _, h2, _⟩ := Kd.R_form h hp
  exact ⟨g, cap, h1, h2⟩
theorem Raw.slice {n : Nat} {e : TypeId} {w : World} {v : Value} {css : List (List Value)} (h : Raw n e w v css) : ∃ A c, v = .slice A css.length c ∧ css.length ≤ c ∧ css.length ≤ 9223372036854775807 := by
  obtain ⟨A, c, h1, h2, h3⟩ := Kd.R_reads h
  exact ⟨A, c, h1, h2, h3.2.1⟩
/-- A raw element lies where it should. -/
theorem Raw.at {n : Nat} {e : TypeId} {w : World} {v : Value} {css : List (List Value)} (h : Raw n e w v css) (i : Nat) (cs : List Value) (hi : css[i]? = some cs) : ∃ ad c, v = .slice (some ad) css.length c ∧ ad.block < w.heap.size ∧ v.ownBlock = some ad.block ∧ (∃ g, ad = ⟨g, 0, none⟩) ∧ CellsAt w (ad.add (i * n)) 0 cs := by
  have hlt : i < css.length := (List.getElem?_eq_some_iff.1 hi).1
  obtain ⟨g, cap, h1, h2⟩ := h.form (by omega)
  obtain ⟨A, c, h3, h4, h5⟩ := Kd.R_reads h
  rw [h1] at h3
  injection h3 with h3 h6 h7
  subst h3
  obtain ⟨ad, h8, h9⟩ := h5.2.2 (by omega)
  injection h8 with h8
  subst h8
  obtain ⟨c', hc1, hc2, hc3⟩ := h9 i cs hi
  have hc2 : c' = cs := hc2.1
  subst hc2
  refine ⟨⟨g, 0, none⟩, cap, h1, h2, by rw [h1]; rfl, ⟨g, rfl⟩, CellsAt.mk (fun j u hj => ?_)⟩
  rw [add_add]
  have := hc3 j u hj
  rwa [show i * n + (0 + j) = i * (kRaw n).sz + j by show _ = i * n + j; omega]
/-- What a row's elements own, each apart from the others. -/
def Nest {α : Type} (d : K2 α) (w : World) : (Nat → Prop) → List α → List (List Value) → Prop
  | _, [], [] => True
  | s, x :: xs, cs :: css => ∃ s1 s2, (∀ k, s1 k → s k ∧ ¬ s2 k) ∧ (∀ k, s2 k → s k) ∧ d.M w s1 x cs ∧ Nest d w s2 xs css
  | _, _, _ => False
namespace Nest
variable {α : Type} {d : K2 α} {w w1 : World}
theorem len : ∀ {s : Nat → Prop} {xs : List α} {css : List (List Value)}, Nest d w s xs css → xs.length = css.length
  | _, [], [], _ => rfl
  | _, _ :: _, _ :: _, ⟨_, _, _, _, _, h⟩ => by simp [len h]
theorem loc : ∀ {s : Nat → Prop} {xs : List α} {css : List (List Value)}, (∀ k, s k → w1.heap[k]? = w.heap[k]?) → Nest d w s xs css → Nest d w1 s xs css
  | _, [], [], _, _ => trivial
  | _, _ :: _, _ :: _, hl, ⟨s1, s2, h1, h2, h3, h4⟩ => ⟨s1, s2, h1, h2, d.M_loc (fun k hk => hl k (h1 k hk).1) h3, loc (fun k hk => hl k (h2 k hk)) h4⟩
theorem sub : ∀ {s s' : Nat → Prop} {xs : List α} {css : List (List Value)}, (∀ k, s k → s' k) → Nest d w s xs css → Nest d w s' xs css
  | _, _, [], [], _, _ => trivial
  | _, _, _ :: _, _ :: _, hl, ⟨s1, s2, h1, h2, h3, h4⟩ => ⟨s1, s2, fun k hk => ⟨hl k (h1 k hk).1, (h1 k hk).2⟩, fun k hk => hl k (h2 k hk), h3, h4⟩
theorem lt : ∀ {s : Nat → Prop} {xs : List α} {css : List (List Value)}, Nest d w s xs css → Nest d w (fun k => s k ∧ k < w.heap.size) xs css
  | _, [], [], _ => trivial
  | _, _ :: _, _ :: _, ⟨s1, s2, h1, h2, h3, h4⟩ => ⟨_, _, fun k hk => ⟨⟨(h1 k hk.1).1, hk.2⟩, fun h => (h1 k hk.1).2 h.1⟩, fun k hk => ⟨h2 k hk.1, hk.2⟩, d.M_lt h3, lt h4⟩
theorem snoc : ∀ {s s1 s2 : Nat → Prop} {xs : List α} {css : List (List Value)} {x : α} {cs : List Value}, (∀ k, s1 k → s k ∧ ¬ s2 k) → (∀ k, s2 k → s k) → Nest d w s1 xs css → d.M w s2 x cs → Nest d w s (xs ++ [x]) (css ++ [cs])
  | s, s1, s2, [], [], x, cs, h1, h2, _, hx => ⟨s2, fun _ => False, fun k hk => ⟨h2 k hk, fun h => h⟩, fun k hk => hk.elim, hx, trivial⟩
  | s, s1, s2, _ :: _, _ :: _, x, cs, h1, h2, ⟨t1, t2, g1, g2, g3, g4⟩, hx => ⟨t1, fun k => t2 k ∨ s2 k, fun k hk => ⟨(h1 k (g1 k hk).1).1, fun h => h.elim (g1 k hk).2 (h1 k (g1 k hk).1).2⟩, fun k hk => hk.elim (fun h => (h1 k (g2 k h)).1) (h2 k), g3, snoc (s1 := t2) (s2 := s2) (fun k hk => ⟨Or.inl hk, (h1 k (g2 k hk)).2⟩) (fun k hk => Or.inr hk) g4 hx⟩
theorem app : ∀ {s s1 s2 : Nat → Prop} {xs ys : List α} {css dss : List (List Value)}, (∀ k, s1 k → s k ∧ ¬ s2 k) → (∀ k, s2 k → s k) → Nest d w s1 xs css → Nest d w s2 ys dss → Nest d w s (xs ++ ys) (css ++ dss)
  | s, s1, s2, [], ys, [], dss, h1, h2, _, hy => hy.sub h2
  | s, s1, s2, _ :: _, ys, _ :: _, dss, h1, h2, ⟨t1, t2, g1, g2, g3, g4⟩, hy => ⟨t1, fun k => t2 k ∨ s2 k, fun k hk => ⟨(h1 k (g1 k hk).1).1, fun h => h.elim (g1 k hk).2 (h1 k (g1 k hk).1).2⟩, fun k hk => hk.elim (fun h => (h1 k (g2 k h)).1) (h2 k), g3, app (s1 := t2) (s2 := s2) (fun k hk => ⟨Or.inl hk, (h1 k (g2 k hk)).2⟩) (fun k hk => Or.inr hk) g4 hy⟩
/-- One element, and what is left around it. -/
theorem focus : ∀ {s : Nat → Prop} {xs : List α} {css : List (List Value)} {i : Nat} {x : α} {cs : List Value}, Nest d w s xs css → xs[i]? = some x → css[i]? = some cs → ∃ s1 : Nat → Prop, (∀ k, s1 k → s k) ∧ d.M w s1 x cs ∧
    ∀ (w' : World) (x' : α) (cs' : List Value) (t : Nat → Prop), (∀ k, s k → ¬ s1 k → w'.heap[k]? = w.heap[k]?) → (∀ k, t k → ¬ (s k ∧ ¬ s1 k)) → d.M w' t x' cs' → Nest d w' (fun k => (s k ∧ ¬ s1 k) ∨ t k) (xs.set i x') (css.set i cs')
  | _, [], [], i, x, cs, _, hx, _ => by simp at hx
  | s, y :: ys, c :: css, 0, x, cs, ⟨s1, s2, h1, h2, h3, h4⟩, hx, hc => by
    simp at hx hc
    subst hx; subst hc
    refine ⟨s1, fun k hk => (h1 k hk).1, h3, fun w' x' cs' t hl ht hm => ⟨t, s2, fun k hk => ⟨Or.inr hk, fun h => ht k hk ⟨h2 k h, fun h' => (h1 k h').2 h⟩⟩, fun k hk => Or.inl ⟨h2 k hk, fun h' => (h1 k h').2 hk⟩, hm, h4.loc (fun k hk => hl k (h2 k hk) (fun h' => (h1 k h').2 hk))⟩⟩
  | s, y :: ys, c :: css, i + 1, x, cs, ⟨s1, s2, h1, h2, h3, h4⟩, hx, hc => by
    obtain ⟨t1, g1, g2, g3⟩ := focus (i := i) h4 (by simpa using hx) (by simpa using hc)
    refine ⟨t1, fun k hk => h2 k (g1 k hk), g2, fun w' x' cs' t hl ht hm => ?_⟩
    have hs1t : ∀ k, s1 k → ¬ t1 k := fun k hk h => (h1 k hk).2 (g1 k h)
    refine ⟨s1, fun k => (s2 k ∧ ¬ t1 k) ∨ t k, fun k hk => ⟨Or.inl ⟨(h1 k hk).1, hs1t k hk⟩, fun h => h.elim (fun h => (h1 k hk).2 h.1) (fun h => ht k h ⟨(h1 k hk).1, hs1t k hk⟩)⟩, fun k hk => hk.elim (fun h => Or.inl ⟨h2 k h.1, h.2⟩) Or.inr, d.M_loc (fun k hk => hl k (h1 k hk).1 (hs1t k hk)) h3, g3 w' x' cs' t (fun k hk hn => hl k (h2 k hk) hn) (fun k hk h => ht k hk ⟨h2 k h.1, h.2⟩) hm⟩
theorem get {s : Nat → Prop} {xs : List α} {css : List (List Value)} {i : Nat} {x : α} (h : Nest d w s xs css) (hx : xs[i]? = some x) : ∃ cs, css[i]? = some cs := by
  have h1 := h.len
  have h2 := (List.getElem?_eq_some_iff.1 hx).1
  exact ⟨css[i]'(by omega), List.getElem?_eq_getElem _⟩
end Nest
/-- A row of the call's own. -/
def Row {α : Type} (d : K2 α) (e : TypeId) (w : World) (s : Nat → Prop) (v : Value) (xs : List α) : Prop :=
  ∃ css, Raw d.sz e w v css ∧ (∀ k, v.ownBlock = some k → s k) ∧ Nest d w (fun k => s k ∧ some k ≠ v.ownBlock) xs css
namespace Row
variable {α : Type} {d : K2 α} {e : TypeId} {w w1 : World} {s s' : Nat → Prop} {v : Value} {xs : List α}
theorem nil (d : K2 α) (e : TypeId) (w : World) (s : Nat → Prop) : Row d e w s (.slice none 0 0) [] := ⟨[], Raw.nil _ _ _, fun k h => by simp [Value.ownBlock] at h, trivial⟩
theorem loc (hl : ∀ k, s k → w1.heap[k]? = w.heap[k]?) (h : Row d e w s v xs) : Row d e w1 s v xs := by
  obtain ⟨css, h1, h2, h3⟩ := h
  exact ⟨css, h1.loc (fun k hk => hl k (h2 k hk)), h2, h3.loc (fun k hk => hl k hk.1)⟩
theorem sub (hl : ∀ k, s k → s' k) (h : Row d e w s v xs) : Row d e w s' v xs := by
  obtain ⟨css, h1, h2, h3⟩ := h
  exact ⟨css, h1, fun k hk => hl k (h2 k hk), h3.sub (fun k hk => ⟨hl k hk.1, hk.2⟩)⟩
theorem lt (h : Row d e w s v xs) : Row d e w (fun k => s k ∧ k < w.heap.size) v xs := by
  obtain ⟨css, h1, h2, h3⟩ := h
  exact ⟨css, h1, fun k hk => ⟨h2 k hk, by obtain ⟨_, inner, ho, _⟩ := h1; exact own_lt ho k hk⟩, h3.lt.sub (fun k hk => ⟨⟨hk.1.1, hk.2⟩, hk.1.2⟩)⟩
theorem slice (h : Row d e w s v xs) : ∃ A c, v = .slice A xs.length c := by
  obtain ⟨css, h1, h2, h3⟩ := h
  obtain ⟨A, c, h4, _⟩ := h1.slice
  exact ⟨A, c, by rw [h4, h3.len]⟩
theorem rd (h : Row d e w s v xs) : d.C (only s w) v xs := by
  obtain ⟨css, h1, h2, h3⟩ := h
  obtain ⟨A, c, h4, h5, h6⟩ := h1.slice
  have hl := h3.len
  refine ⟨A, c, by rw [h4, hl], by omega, by omega, fun i x hx => ?_⟩
  obtain ⟨cs, hc⟩ := h3.get hx
  obtain ⟨ad, c', g1, g2, g3, g4, g5⟩ := h1.at i cs hc
  obtain ⟨s1, f1, f2, _⟩ := h3.focus hx hc
  rw [h4] at g1
  injection g1 with g1 _ _
  refine ⟨ad, cs, g1, d.K_agr (agr_only_sub fun k hk => (f1 k hk).1) (d.M_K f2), CellsAt.mk fun j u hj => only_cell_mk ?_ (g5.get hj)⟩
  rw [add_block, add_block]
  exact h2 _ g3
end Row
namespace K2
variable {α : Type}
/-- A slice's cell. -/
def slice (e : TypeId) (d : K2 α) : K2 (List α) where
  sz := 1
  K := fun b xs cs => ∃ v, cs = [v] ∧ d.C b v xs
  M := fun w s xs cs => ∃ v, cs = [v] ∧ Row d e w s v xs
  K_len := fun ⟨_, h, _⟩ => by rw [h]; rfl
  K_agr := fun hb ⟨v, h, hc⟩ => ⟨v, h, hc.agr hb⟩
  M_one := fun ⟨v, h, hr⟩ u hu => by
    rw [h] at hu; simp at hu; rw [hu]
    obtain ⟨A, c, h2⟩ := hr.slice
    rw [h2]; rfl
  M_loc := fun hl ⟨v, h, hr⟩ => ⟨v, h, hr.loc hl⟩
  M_sub := fun hl ⟨v, h, hr⟩ => ⟨v, h, hr.sub hl⟩
  M_lt := fun ⟨v, h, hr⟩ => ⟨v, h, hr.lt⟩
  M_K := fun ⟨v, h, hr⟩ => ⟨v, h, hr.rd⟩
end K2
end Go.Proofs.Ytcolndejambcmaa.Ew
