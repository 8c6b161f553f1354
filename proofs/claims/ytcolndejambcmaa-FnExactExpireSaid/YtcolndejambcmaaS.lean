/- The state of a walk: what is read (at a base world b), what is owned (a list of parts of memory, each apart from the others), what has stayed since the call began. -/
import Derived.Test.YtcolndejambcmaaK
namespace Go.Proofs.Ytcolndejambcmaa.Ew
open Go.RowKit Go.Proofs.YtcolndejambcmaaW.PrintWords Go.Proofs.YtcolndejambcmaaW.PrintLast
set_option linter.unusedVariables false
set_option linter.unusedSimpArgs false
/-- From w to w' nothing but the blocks of s has turned (and new ones). -/
structure Fr (s : Nat → Prop) (w w' : World) : Prop where
  os : w'.os = w.os
  tape : w'.tape = w.tape
  output : w'.output = w.output
  size : w.heap.size ≤ w'.heap.size
  block : ∀ k, k < w.heap.size → ¬ s k → w'.heap[k]? = w.heap[k]?
theorem Fr.refl (s : Nat → Prop) (w : World) : Fr s w w := ⟨rfl, rfl, rfl, Nat.le_refl _, fun _ _ _ => rfl⟩
theorem Fr.below {s : Nat → Prop} {w w' : World} (h : Below w.heap.size w w') : Fr s w w' := ⟨h.os, h.tape, h.output, h.size, fun k hk _ => h.block k hk⟩
theorem Fr.grown {w w' : World} {row : Option Nat} (h : w.grownBy w' row) : Fr (fun k => some k = row) w w' := ⟨h.os, h.tape, h.output, h.size, fun k hk hn => h.block k hk hn⟩
theorem Fr.to_below {w w' : World} (h : Fr (fun _ => False) w w') : Below w.heap.size w w' := ⟨h.os, h.tape, h.output, h.size, fun k hk => h.block k hk (fun h => h)⟩
theorem Fr.sub {s t : Nat → Prop} {w w' : World} (hs : ∀ k, s k → t k) (h : Fr s w w') : Fr t w w' := ⟨h.os, h.tape, h.output, h.size, fun k hk hn => h.block k hk (fun hk => hn (hs k hk))⟩
/-- A step that turns of what was there at w only blocks of s, where s lies in s0 or is younger than w0. -/
theorem Fr.then {s0 s : Nat → Prop} {w0 w w' : World} (h : Fr s0 w0 w) (k : Fr s w w') (hs : ∀ j, s j → s0 j ∨ w0.heap.size ≤ j) : Fr s0 w0 w' :=
  ⟨k.os.trans h.os, k.tape.trans h.tape, k.output.trans h.output, Nat.le_trans h.size k.size, fun j hj hn => (k.block j (Nat.lt_of_lt_of_le hj h.size) (fun hk => (hs j hk).elim hn (by omega))).trans (h.block j hj hn)⟩
theorem Fr.cell {s : Nat → Prop} {w w' : World} (h : Fr s w w') {p : Addr} {v : Value} (hp : w.cell? p = some v) (hn : ¬ s p.block) : w'.cell? p = some v :=
  (World.cell?_of_block (h.block p.block (World.block_lt_of_cell? w p hp) hn)).trans hp
inductive Atom : Type 1 where
  | emp
  | blk (g : Nat) (t : TypeId) (cs : Array Value)
  | row {α : Type} (d : K2 α) (e : TypeId) (v : Value) (xs : List α)
  | val {α : Type} (d : K2 α) (cs : List Value) (x : α)
  | ro {α : Type} (d : K2 α) (v : Value) (xs : List α)
  | hol {α : Type} (d : K2 α) (e : TypeId) (v : Value) (xs : List α) (i : Nat) (cs : List Value)
/-- A row but for what its element i (cells cs) owns. -/
def Hol {α : Type} (d : K2 α) (e : TypeId) (w : World) (s : Nat → Prop) (v : Value) (xs : List α) (i : Nat) (cs : List Value) : Prop :=
  ∃ css, Raw d.sz e w v css ∧ (∀ k, v.ownBlock = some k → s k) ∧ css[i]? = some cs ∧ xs.length = css.length ∧
    ∀ (w' : World) (x' : α) (t : Nat → Prop), (∀ k, s k → w'.heap[k]? = w.heap[k]?) → (∀ k, t k → ¬ s k) → d.M w' t x' cs → Nest d w' (fun k => (s k ∧ some k ≠ v.ownBlock) ∨ t k) (xs.set i x') css
def Atom.holds : Atom → World → (Nat → Prop) → Prop
  | .emp, _, _ => True
  | .blk g t cs, w, s => s g ∧ w.heap[g]? = some (.cells cs t (0, 0))
  | .row d e v xs, w, s => Row d e w s v xs
  | .val d cs x, w, s => d.M w s x cs
  | .ro d v xs, w, s => d.C (only s w) v xs
  | .hol d e v xs i cs, w, s => Hol d e w s v xs i cs
/-- What of a part can be read at a world. -/
def Atom.rd : Atom → World → Prop
  | .blk g _ cs, w => CellsAt w ⟨g, 0, none⟩ 0 cs.toList
  | .row d _ v xs, w => d.C w v xs
  | .val d cs x, w => d.K w x cs
  | .ro d v xs, w => d.C w v xs
  | _, _ => True
theorem only_same {s : Nat → Prop} {w w1 : World} (hl : ∀ k, s k → w1.heap[k]? = w.heap[k]?) : Agr (only s w) (only s w1) := fun p v hp => by
  have := only_cell s w p v hp
  exact only_cell_mk this.1 ((World.cell?_of_block (hl _ this.1)).trans this.2)
theorem Hol.loc {α : Type} {d : K2 α} {e : TypeId} {w w1 : World} {s : Nat → Prop} {v : Value} {xs : List α} {i : Nat} {cs : List Value} (hl : ∀ k, s k → w1.heap[k]? = w.heap[k]?) (h : Hol d e w s v xs i cs) : Hol d e w1 s v xs i cs := by
  obtain ⟨css, h1, h2, h3, h4, h5⟩ := h
  exact ⟨css, h1.loc (fun k hk => hl k (h2 k hk)), h2, h3, h4, fun w' x' t hw ht hm => h5 w' x' t (fun k hk => (hw k hk).trans (hl k hk)) ht hm⟩
theorem Atom.loc {a : Atom} {w w1 : World} {s : Nat → Prop} (hl : ∀ k, s k → w1.heap[k]? = w.heap[k]?) (h : a.holds w s) : a.holds w1 s := by
  cases a with
  | emp => trivial
  | blk g t cs => exact ⟨h.1, (hl g h.1).trans h.2⟩
  | row d e v xs => exact Row.loc hl h
  | val d cs x => exact d.M_loc hl h
  | ro d v xs => exact K2.C.agr (only_same hl) h
  | hol d e v xs i cs => exact Hol.loc hl h
theorem Atom.holds_rd {a : Atom} {w : World} {s : Nat → Prop} (h : a.holds w s) : a.rd (only s w) := by
  cases a with
  | emp => trivial
  | blk g t cs =>
    refine CellsAt.mk (fun j u hu => only_cell_mk ?_ ?_)
    · rw [add_block]; exact h.1
    · exact (blk_at h.2).get hu
  | row d e v xs => exact Row.rd h
  | val d cs x => exact d.M_K h
  | ro d v xs => exact h
  | hol d e v xs i cs => trivial
theorem Atom.rd_agr {a : Atom} {b w : World} (hb : Agr b w) (h : a.rd b) : a.rd w := by
  cases a with
  | emp => trivial
  | blk g t cs => exact CellsAt.agr hb h
  | row d e v xs => exact K2.C.agr hb h
  | val d cs x => exact d.K_agr hb h
  | ro d v xs => exact K2.C.agr hb h
  | hol d e v xs i cs => trivial
def nth : List Atom → Nat → Option Atom
  | [], _ => none
  | a :: _, 0 => some a
  | _ :: r, i + 1 => nth r i
def upd : List Atom → Nat → Atom → List Atom
  | [], _, _ => []
  | _ :: r, 0, b => b :: r
  | a :: r, i + 1, b => a :: upd r i b
def app : List Atom → List Atom → List Atom
  | [], L => L
  | a :: r, L => a :: app r L
theorem nth_upd : ∀ (L : List Atom) (i j : Nat) (a : Atom), nth (upd L i a) j = if j = i then (nth L i).map (fun _ => a) else nth L j
  | [], i, j, a => by simp [upd, nth]
  | b :: r, 0, 0, a => by simp [upd, nth]
  | b :: r, 0, j + 1, a => by simp [upd, nth]
  | b :: r, i + 1, 0, a => by simp [upd, nth]
  | b :: r, i + 1, j + 1, a => by simp [upd, nth, nth_upd r i j a]
theorem nth_app : ∀ (L M : List Atom) (j : Nat), nth (app L M) j = if j < L.length then nth L j else nth M (j - L.length)
  | [], M, j => by simp [app]
  | b :: r, M, 0 => by simp [app, nth]
  | b :: r, M, j + 1 => by simp [app, nth, nth_app r M j]
theorem nth_lt : ∀ {L : List Atom} {i : Nat} {a : Atom}, nth L i = some a → i < L.length
  | [], i, a, h => by simp [nth] at h
  | b :: r, 0, a, h => by simp
  | b :: r, i + 1, a, h => by have := nth_lt (L := r) (i := i) h; simp; omega
def putL : List Atom → List Nat → List Atom → List Atom
  | L, [], M => app L M
  | L, i :: is, [] => putL (upd L i .emp) is []
  | L, i :: is, a :: M => putL (upd L i a) is M
/-- The state. -/
structure St (b w0 : World) (s0 : Nat → Prop) (L : List Atom) (w : World) : Prop where
  agr : Agr b w
  off : ∀ p v, b.cell? p = some v → p.block < w0.heap.size ∧ ¬ s0 p.block
  fr : Fr s0 w0 w
  ex : ∃ f : Nat → Nat → Prop, (∀ i k, f i k → k < w.heap.size ∧ (s0 k ∨ w0.heap.size ≤ k)) ∧ (∀ i j k, f i k → f j k → i = j) ∧ ∀ i a, nth L i = some a → a.holds w (f i)
section
variable {b w0 w w' : World} {s0 : Nat → Prop} {L : List Atom}
theorem St.start (b : World) (hb : ∀ p v, b.cell? p = some v → p.block < b.heap.size) : St b b (fun _ => False) [] b :=
  ⟨Agr.rfl' _, fun p v h => ⟨hb p v h, fun h => h⟩, Fr.refl _ _, fun _ _ => False, fun _ _ h => h.elim, fun _ _ _ h => h.elim, fun i a h => by simp [nth] at h⟩
theorem St.begin (w : World) : St w w (fun _ => False) [] w := St.start w (fun p v h => World.block_lt_of_cell? w p h)
theorem St.rd (h : St b w0 s0 L w) {i : Nat} {a : Atom} (hi : nth L i = some a) : a.rd w := by
  obtain ⟨f, _, _, h3⟩ := h.ex
  exact Atom.rd_agr (agr_only _ _) (Atom.holds_rd (h3 i a hi))
/-- Any step: the parts' new footprints. -/
theorem St.step (h : St b w0 s0 L w) {s : Nat → Prop} (hs : ∀ k, s k → s0 k ∨ w0.heap.size ≤ k) (hf : Fr s w w') {L' : List Atom}
    (ex : ∃ f : Nat → Nat → Prop, (∀ i k, f i k → k < w'.heap.size ∧ (s0 k ∨ w0.heap.size ≤ k)) ∧ (∀ i j k, f i k → f j k → i = j) ∧ ∀ i a, nth L' i = some a → a.holds w' (f i)) : St b w0 s0 L' w' :=
  ⟨fun p v hp => hf.cell (h.agr p v hp) (fun hk => by
      have h1 := h.off p v hp
      rcases hs _ hk with h2 | h2
      · exact h1.2 h2
      · omega), h.off, h.fr.then hf hs, ex⟩
theorem St.drew (h : St b w0 s0 L w) : St b w0 s0 L w.drew := by
  refine h.step (w' := w.drew) (s := fun _ => False) (fun _ h => h.elim) ⟨rfl, rfl, rfl, Nat.le_refl _, fun _ _ _ => rfl⟩ ?_
  obtain ⟨f, h1, h2, h3⟩ := h.ex
  exact ⟨f, h1, h2, fun i a hi => Atom.loc (w := w) (w1 := w.drew) (fun _ _ => rfl) (h3 i a hi)⟩
/-- A part, with its blocks; and what it may turn to. -/
theorem St.turnf (h : St b w0 s0 L w) {i : Nat} {a : Atom} (hi : nth L i = some a) : ∃ s : Nat → Prop, (∀ k, s k → k < w.heap.size) ∧ a.holds w s ∧
    ∀ (w' : World) (a' : Atom) (s' : Nat → Prop), Fr s w w' → (∀ k, s' k → k < w'.heap.size ∧ (s k ∨ w.heap.size ≤ k)) → a'.holds w' s' → St b w0 s0 (upd L i a') w' := by
  obtain ⟨f, h1, h2, h3⟩ := h.ex
  refine ⟨f i, fun k hk => (h1 i k hk).1, h3 i a hi, fun w' a' s' hf hs' ha' => ?_⟩
  have hle := h.fr.size
  have hle2 := hf.size
  refine h.step (s := f i) (fun k hk => (h1 i k hk).2) hf ⟨fun j => if j = i then s' else f j, ?_, ?_, ?_⟩
  · intro j k hk
    by_cases hj : j = i
    · simp only [hj, if_true] at hk
      have := hs' k hk
      exact ⟨this.1, this.2.elim (fun hk => (h1 i k hk).2) (fun hk => Or.inr (by omega))⟩
    · simp only [hj, if_false] at hk
      have := h1 j k hk
      exact ⟨by omega, this.2⟩
  · intro j l k hj hl
    by_cases ej : j = i <;> by_cases el : l = i
    · omega
    · simp only [ej, el, if_true, if_false] at hj hl
      rcases (hs' k hj).2 with hk | hk
      · exact absurd (h2 _ _ _ hk hl) (fun e => el e.symm)
      · have := (h1 l k hl).1; omega
    · simp only [ej, el, if_true, if_false] at hj hl
      rcases (hs' k hl).2 with hk | hk
      · exact absurd (h2 _ _ _ hk hj) (fun e => ej e.symm)
      · have := (h1 j k hj).1; omega
    · simp only [ej, el, if_false] at hj hl
      exact h2 j l k hj hl
  · intro j c hc
    rw [nth_upd] at hc
    by_cases hj : j = i
    · rw [if_pos hj] at hc
      rw [hi] at hc
      simp at hc
      subst hc
      simp only [hj, if_true]
      exact ha'
    · rw [if_neg hj] at hc
      simp only [hj, if_false]
      exact Atom.loc (fun k hk => hf.block k (h1 j k hk).1 (fun hk' => hj (h2 _ _ _ hk hk'))) (h3 j c hc)
/-- A part turns: only its own blocks, and new ones. -/
theorem St.turn (h : St b w0 s0 L w) {i : Nat} {a a' : Atom} (hi : nth L i = some a) (hw : ∀ s, (∀ k, s k → k < w.heap.size) → a.holds w s → Fr s w w' ∧ ∃ s', (∀ k, s' k → k < w'.heap.size ∧ (s k ∨ w.heap.size ≤ k)) ∧ a'.holds w' s') : St b w0 s0 (upd L i a') w' := by
  obtain ⟨s, hs, ha, hk⟩ := h.turnf hi
  obtain ⟨hf, s', hs', ha'⟩ := hw s hs ha
  exact hk w' a' s' hf hs' ha'
/-- Two parts become one. -/
theorem St.turn2f (h : St b w0 s0 L w) {i j : Nat} {a c : Atom} (hi : nth L i = some a) (hj : nth L j = some c) (hij : i ≠ j) : ∃ s t : Nat → Prop, (∀ k, s k → k < w.heap.size) ∧ (∀ k, t k → k < w.heap.size) ∧ (∀ k, s k → ¬ t k) ∧ a.holds w s ∧ c.holds w t ∧
    ∀ (w' : World) (a' : Atom) (s' : Nat → Prop), Fr (fun k => s k ∨ t k) w w' → (∀ k, s' k → k < w'.heap.size ∧ ((s k ∨ t k) ∨ w.heap.size ≤ k)) → a'.holds w' s' → St b w0 s0 (upd (upd L j .emp) i a') w' := by
  obtain ⟨f, h1, h2, h3⟩ := h.ex
  refine ⟨f i, f j, fun k hk => (h1 _ k hk).1, fun k hk => (h1 _ k hk).1, fun k hk hk' => hij (h2 _ _ _ hk hk'), h3 i a hi, h3 j c hj, fun w' a' s' hf hs' ha' => ?_⟩
  have hle := h.fr.size
  have hle2 := hf.size
  have hold : ∀ l k, l ≠ i → l ≠ j → f l k → ¬ s' k := fun l k n1 n2 hl hk => by
    rcases (hs' k hk).2 with (hk | hk) | hk
    · exact n1 (h2 _ _ _ hl hk)
    · exact n2 (h2 _ _ _ hl hk)
    · have := (h1 _ _ hl).1; omega
  refine h.step (s := fun k => f i k ∨ f j k) (fun k hk => hk.elim (fun hk => (h1 i k hk).2) (fun hk => (h1 j k hk).2)) hf ⟨fun l k => (l = i ∧ s' k) ∨ (l ≠ i ∧ l ≠ j ∧ f l k), ?_, ?_, ?_⟩
  · rintro l k (⟨rfl, hk⟩ | ⟨_, _, hk⟩)
    · have := hs' k hk
      exact ⟨this.1, this.2.elim (fun hk => hk.elim (fun hk => (h1 l k hk).2) (fun hk => (h1 j k hk).2)) (fun hk => Or.inr (by omega))⟩
    · have := h1 l k hk
      exact ⟨by omega, this.2⟩
  · rintro l m k (⟨rfl, hl⟩ | ⟨n1, n2, hl⟩) (⟨rfl, hm⟩ | ⟨n3, n4, hm⟩)
    · rfl
    · exact (hold _ _ n3 n4 hm hl).elim
    · exact (hold _ _ n1 n2 hl hm).elim
    · exact h2 _ _ _ hl hm
  · intro l x hx
    rw [nth_upd, nth_upd] at hx
    by_cases e1 : l = i
    · subst e1
      rw [if_pos rfl, if_neg hij, hi] at hx
      simp at hx
      subst hx
      show a'.holds w' (fun k => (l = l ∧ s' k) ∨ (l ≠ l ∧ l ≠ j ∧ f l k))
      have e : (fun k => (l = l ∧ s' k) ∨ (l ≠ l ∧ l ≠ j ∧ f l k)) = s' := by funext k; simp
      rw [e]; exact ha'
    · rw [if_neg e1, nth_upd] at hx
      by_cases e2 : l = j
      · rw [if_pos e2, hj] at hx
        simp at hx
        subst hx
        trivial
      · rw [if_neg e2] at hx
        have e : (fun k => (l = i ∧ s' k) ∨ (l ≠ i ∧ l ≠ j ∧ f l k)) = f l := by funext k; simp [e1, e2]
        show x.holds w' (fun k => (l = i ∧ s' k) ∨ (l ≠ i ∧ l ≠ j ∧ f l k))
        rw [e]
        exact Atom.loc (fun k hk => hf.block k (h1 _ _ hk).1 (fun hk' => hk'.elim (fun hk' => e1 (h2 _ _ _ hk hk')) (fun hk' => e2 (h2 _ _ _ hk hk')))) (h3 _ _ hx)
/-- A part comes apart in two. -/
theorem St.apart (h : St b w0 s0 L w) {i : Nat} {a a1 a2 : Atom} (hi : nth L i = some a) (hw : ∀ s, a.holds w s → ∃ s1 s2, (∀ k, s1 k → s k ∧ ¬ s2 k) ∧ (∀ k, s2 k → s k) ∧ a1.holds w s1 ∧ a2.holds w s2) : St b w0 s0 (app (upd L i a1) [a2]) w := by
  obtain ⟨f, h1, h2, h3⟩ := h.ex
  obtain ⟨s1, s2, g1, g2, g3, g4⟩ := hw _ (h3 i a hi)
  have hlt := nth_lt hi
  have hlen : ∀ (L : List Atom) (i : Nat), (upd L i a1).length = L.length := by
    intro L; induction L with
    | nil => intro i; rfl
    | cons a r ih => intro i; cases i <;> simp [upd, ih]
  refine h.step (s := fun _ => False) (fun _ h => h.elim) (Fr.refl _ _) ⟨fun l k => (l = i ∧ s1 k) ∨ (l = L.length ∧ s2 k) ∨ (l ≠ i ∧ l < L.length ∧ f l k), ?_, ?_, ?_⟩
  · rintro l k (⟨rfl, hk⟩ | ⟨rfl, hk⟩ | ⟨_, _, hk⟩)
    · exact h1 _ _ (g1 k hk).1
    · exact h1 _ _ (g2 k hk)
    · exact h1 _ _ hk
  · rintro l m k (⟨rfl, hl⟩ | ⟨rfl, hl⟩ | ⟨n1, n2, hl⟩) (⟨rfl, hm⟩ | ⟨rfl, hm⟩ | ⟨n3, n4, hm⟩)
    · rfl
    · exact ((g1 k hl).2 hm).elim
    · exact h2 _ _ _ (g1 k hl).1 hm
    · exact ((g1 k hm).2 hl).elim
    · rfl
    · exact absurd (h2 _ _ _ (g2 k hl) hm).symm n3
    · exact h2 _ _ _ hl (g1 k hm).1
    · exact absurd (h2 _ _ _ hl (g2 k hm)) n1
    · exact h2 _ _ _ hl hm
  · intro l x hx
    rw [nth_app, hlen] at hx
    by_cases hl : l < L.length
    · rw [if_pos hl, nth_upd] at hx
      by_cases e1 : l = i
      · subst e1
        rw [if_pos rfl, hi] at hx
        simp at hx
        subst hx
        have e : (fun k => (l = l ∧ s1 k) ∨ (l = L.length ∧ s2 k) ∨ (l ≠ l ∧ l < L.length ∧ f l k)) = s1 := by
          funext k
          have : ¬ l = L.length := by omega
          simp [this]
        show a1.holds w (fun k => (l = l ∧ s1 k) ∨ (l = L.length ∧ s2 k) ∨ (l ≠ l ∧ l < L.length ∧ f l k))
        rw [e]; exact g3
      · rw [if_neg e1] at hx
        have e : (fun k => (l = i ∧ s1 k) ∨ (l = L.length ∧ s2 k) ∨ (l ≠ i ∧ l < L.length ∧ f l k)) = f l := by
          funext k
          have : ¬ l = L.length := by omega
          simp [e1, this, hl]
        show x.holds w (fun k => (l = i ∧ s1 k) ∨ (l = L.length ∧ s2 k) ∨ (l ≠ i ∧ l < L.length ∧ f l k))
        rw [e]; exact h3 _ _ hx
    · rw [if_neg hl] at hx
      obtain ⟨m, hm⟩ : ∃ m, l - L.length = m := ⟨_, rfl⟩
      rw [hm] at hx
      cases m with
      | zero =>
        simp [nth] at hx
        subst hx
        have hl2 : l = L.length := by omega
        subst hl2
        have e : (fun k => (L.length = i ∧ s1 k) ∨ (L.length = L.length ∧ s2 k) ∨ (L.length ≠ i ∧ L.length < L.length ∧ f L.length k)) = s2 := by
          funext k
          have : ¬ L.length = i := by omega
          simp [this]
        show a2.holds w (fun k => (L.length = i ∧ s1 k) ∨ (L.length = L.length ∧ s2 k) ∨ (L.length ≠ i ∧ L.length < L.length ∧ f L.length k))
        rw [e]; exact g4
      | succ m => simp [nth] at hx
/-- New parts, in new blocks. -/
theorem St.more (h : St b w0 s0 L w) (M : List Atom) (hf : Fr (fun _ => False) w w') (hM : ∃ f : Nat → Nat → Prop, (∀ i k, f i k → k < w'.heap.size ∧ w.heap.size ≤ k) ∧ (∀ i j k, f i k → f j k → i = j) ∧ ∀ i a, nth M i = some a → a.holds w' (f i)) : St b w0 s0 (app L M) w' := by
  obtain ⟨f, h1, h2, h3⟩ := h.ex
  obtain ⟨g, g1, g2, g3⟩ := hM
  have hle := h.fr.size
  have hle2 := hf.size
  refine h.step (s := fun _ => False) (fun _ h => h.elim) hf ⟨fun j => if j < L.length then f j else g (j - L.length), ?_, ?_, ?_⟩
  · intro j k hk
    by_cases hj : j < L.length
    · simp only [hj, if_true] at hk
      have := h1 j k hk
      exact ⟨by omega, this.2⟩
    · simp only [hj, if_false] at hk
      have := g1 _ k hk
      exact ⟨this.1, Or.inr (by omega)⟩
  · intro j l k hj hl
    by_cases ej : j < L.length <;> by_cases el : l < L.length <;> simp only [ej, el, if_true, if_false] at hj hl
    · exact h2 _ _ _ hj hl
    · have := h1 _ _ hj; have := g1 _ _ hl; omega
    · have := g1 _ _ hj; have := h1 _ _ hl; omega
    · have := g2 _ _ _ hj hl; omega
  · intro j c hc
    rw [nth_app] at hc
    by_cases hj : j < L.length
    · rw [if_pos hj] at hc
      simp only [hj, if_true]
      exact Atom.loc (fun k hk => hf.block k (h1 j k hk).1 (fun h => h)) (h3 j c hc)
    · rw [if_neg hj] at hc
      simp only [hj, if_false]
      exact g3 _ _ hc
theorem St.one (h : St b w0 s0 L w) {a : Atom} (hf : Fr (fun _ => False) w w') (ha : a.holds w' (fun k => k < w'.heap.size ∧ w.heap.size ≤ k)) : St b w0 s0 (app L [a]) w' := by
  refine h.more [a] hf ⟨fun i k => i = 0 ∧ k < w'.heap.size ∧ w.heap.size ≤ k, fun i k hk => hk.2, fun i j k hi hj => by omega, ?_⟩
  intro i c hc
  match i, hc with
  | 0, hc =>
    simp [nth] at hc
    subst hc
    simpa using ha
  | i + 1, hc => simp [nth] at hc
/-- Parts are left away, or put in another order. -/
def pick : List Atom → List Nat → List (Option Atom)
  | _, [] => []
  | L, i :: is => nth L i :: pick L is
theorem pick_nth : ∀ {L L' : List Atom} {is : List Nat}, pick L is = L'.map some → ∀ j a, nth L' j = some a → ∃ i, is[j]? = some i ∧ nth L i = some a
  | L, [], _, h, j, a, hj => by simp [nth] at hj
  | L, _ :: _, [], h, j, a, hj => by simp [pick] at h
  | L, c :: L', i :: is, h, 0, a, hj => by simp [pick] at h; simp [nth] at hj; exact ⟨i, by simp, by rw [← hj]; exact h.1⟩
  | L, c :: L', i :: is, h, j + 1, a, hj => by
    simp [pick] at h
    obtain ⟨i', h1, h2⟩ := pick_nth (L := L) (L' := L') (is := is) h.2 j a (by simpa [nth] using hj)
    exact ⟨i', by simpa using h1, h2⟩
theorem nodup_get {is : List Nat} (hn : is.Nodup) {j l i : Nat} (hj : is[j]? = some i) (hl : is[l]? = some i) : j = l := by
  obtain ⟨h1, h2⟩ := List.getElem?_eq_some_iff.1 hj
  obtain ⟨h3, h4⟩ := List.getElem?_eq_some_iff.1 hl
  have hp := List.pairwise_iff_getElem.1 hn
  rcases Nat.lt_trichotomy j l with h | h | h
  · exact absurd (h2.trans h4.symm) (hp j l h1 h3 h)
  · exact h
  · exact absurd (h4.trans h2.symm) (hp l j h3 h1 h)
theorem St.sel (h : St b w0 s0 L w) (is : List Nat) {L' : List Atom} (hp : pick L is = L'.map some) (hn : is.Nodup) : St b w0 s0 L' w := by
  obtain ⟨f, h1, h2, h3⟩ := h.ex
  refine h.step (s := fun _ => False) (fun _ h => h.elim) (Fr.refl _ _) ⟨fun j k => ∃ i, is[j]? = some i ∧ f i k, ?_, ?_, ?_⟩
  · rintro j k ⟨i, _, hk⟩; exact h1 i k hk
  · rintro j l k ⟨i, hi, hk⟩ ⟨m, hm, hk'⟩
    have := h2 _ _ _ hk hk'
    subst this
    exact nodup_get hn hi hm
  · intro j a hj
    obtain ⟨i, hi, ha⟩ := pick_nth hp j a hj
    have e : (fun k => ∃ i, is[j]? = some i ∧ f i k) = f i := by
      funext k
      apply propext
      constructor
      · rintro ⟨m, hm, hk⟩; rw [hi] at hm; injection hm with hm; subst hm; exact hk
      · intro hk; exact ⟨i, hi, hk⟩
    show a.holds w (fun k => ∃ i, is[j]? = some i ∧ f i k)
    rw [e]
    exact h3 i a ha
theorem put_ex {w' : World} : ∀ (is : List Nat) (L M : List Atom) (f g : Nat → Nat → Prop), is.Nodup → (∀ i j k, i ∉ is → j ∉ is → f i k → f j k → i = j) → (∀ i j k, g i k → g j k → i = j) → (∀ i j k, i ∉ is → f i k → g j k → False) →
    (∀ i a, i ∉ is → nth L i = some a → a.holds w' (f i)) → (∀ i a, nth M i = some a → a.holds w' (g i)) →
    ∃ F : Nat → Nat → Prop, (∀ i k, F i k → (∃ j, j ∉ is ∧ f j k) ∨ ∃ j, g j k) ∧ (∀ i j k, F i k → F j k → i = j) ∧ ∀ i a, nth (putL L is M) i = some a → a.holds w' (F i)
  | [], L, M, f, g, _, hf, hg, hfg, h1, h2 => by
    refine ⟨fun j k => if j < L.length then f j k else g (j - L.length) k, ?_, ?_, ?_⟩
    · intro j k hk
      by_cases hj : j < L.length
      · simp only [hj, if_true] at hk; exact Or.inl ⟨j, by simp, hk⟩
      · simp only [hj, if_false] at hk; exact Or.inr ⟨_, hk⟩
    · intro j l k hj hl
      by_cases ej : j < L.length <;> by_cases el : l < L.length <;> simp only [ej, el, if_true, if_false] at hj hl
      · exact hf _ _ _ (by simp) (by simp) hj hl
      · exact (hfg _ _ _ (by simp) hj hl).elim
      · exact (hfg _ _ _ (by simp) hl hj).elim
      · have := hg _ _ _ hj hl; omega
    · intro j c hc
      rw [putL, nth_app] at hc
      by_cases hj : j < L.length
      · rw [if_pos hj] at hc; simp only [hj, if_true]; exact h1 j c (by simp) hc
      · rw [if_neg hj] at hc; simp only [hj, if_false]; exact h2 _ c hc
  | i :: is, L, [], f, g, hn, hf, hg, hfg, h1, h2 => by
    obtain ⟨hi, hn⟩ := List.nodup_cons.1 hn
    obtain ⟨F, F1, F2, F3⟩ := put_ex (w' := w') is (upd L i .emp) [] (fun j k => j ≠ i ∧ f j k) g hn
      (fun j l k hj hl h3 h4 => hf j l k (by simp [h3.1, hj]) (by simp [h4.1, hl]) h3.2 h4.2)
      hg (fun j l k hj h3 h4 => hfg j l k (by simp [h3.1, hj]) h3.2 h4)
      (fun j a hj ha => by
        rw [nth_upd] at ha
        by_cases ej : j = i
        · rw [if_pos ej] at ha
          cases hx : nth L i with
          | none => rw [hx] at ha; simp at ha
          | some x => rw [hx] at ha; simp at ha; subst ha; trivial
        · rw [if_neg ej] at ha
          have := h1 j a (by simp [ej, hj]) ha
          have e : (fun k => j ≠ i ∧ f j k) = f j := by funext k; simp [ej]
          show a.holds w' (fun k => j ≠ i ∧ f j k)
          rw [e]; exact this) h2
    refine ⟨F, fun j k hk => ?_, F2, F3⟩
    rcases F1 j k hk with ⟨l, h3, h4, h5⟩ | h3
    · exact Or.inl ⟨l, by simp [h4, h3], h5⟩
    · exact Or.inr h3
  | i :: is, L, a :: M, f, g, hn, hf, hg, hfg, h1, h2 => by
    obtain ⟨hi, hn⟩ := List.nodup_cons.1 hn
    obtain ⟨F, F1, F2, F3⟩ := put_ex (w' := w') is (upd L i a) M (fun j k => if j = i then g 0 k else f j k) (fun j => g (j + 1)) hn
      (fun j l k hj hl h3 h4 => by
        by_cases ej : j = i <;> by_cases el : l = i <;> simp only [ej, el, if_true, if_false] at h3 h4
        · omega
        · exact (hfg l 0 k (by simp [el, hl]) h4 h3).elim
        · exact (hfg j 0 k (by simp [ej, hj]) h3 h4).elim
        · exact hf j l k (by simp [ej, hj]) (by simp [el, hl]) h3 h4)
      (fun j l k h3 h4 => by have := hg _ _ _ h3 h4; omega) (fun j l k hj h3 h4 => by
        by_cases ej : j = i
        · simp only [ej, if_true] at h3; have := hg _ _ _ h3 h4; omega
        · simp only [ej, if_false] at h3; exact hfg j _ k (by simp [ej, hj]) h3 h4)
      (fun j c hj hc => by
        rw [nth_upd] at hc
        by_cases ej : j = i
        · rw [if_pos ej] at hc
          cases hx : nth L i with
          | none => rw [hx] at hc; simp at hc
          | some x => rw [hx] at hc; simp at hc; subst hc; simp only [ej, if_true]; exact h2 0 _ rfl
        · rw [if_neg ej] at hc
          have := h1 j c (by simp [ej, hj]) hc
          simp only [ej, if_false]; exact this) (fun j c hc => h2 (j + 1) c hc)
    refine ⟨F, fun j k hk => ?_, F2, F3⟩
    rcases F1 j k hk with ⟨l, h3, h5⟩ | ⟨l, h3⟩
    · by_cases el : l = i
      · simp only [el, if_true] at h5; exact Or.inr ⟨0, h5⟩
      · simp only [el, if_false] at h5; exact Or.inl ⟨l, by simp [el, h3], h5⟩
    · exact Or.inr ⟨l + 1, h3⟩
/-- A call: the parts at is are handed over, all else can be read. -/
theorem St.call (h : St b w0 s0 L w) (is : List Nat) (hn : is.Nodup) {L0 : List Atom} (hp : pick L is = L0.map some) {P : Program} {f : FuncId} {args : Array Value} {Φ : Value → List Atom → Prop}
    (hc : ∀ b' s, Agr b b' → Agr b' w → (∀ j a, j ∉ is → nth L j = some a → a.rd b') → St b' w s L0 w → Calls P f args w fun e w' => ∃ v M, e = .returned v ∧ Φ v M ∧ St b' w s M w') :
    Calls P f args w fun e w' => ∃ v M, e = .returned v ∧ Φ v M ∧ St b w0 s0 (putL L is M) w' := by
  obtain ⟨fp, h1, h2, h3⟩ := h.ex
  have hsz := h.fr.size
  have hs0 : ∀ k, (∃ i, i ∈ is ∧ fp i k) → k < w.heap.size ∧ (s0 k ∨ w0.heap.size ≤ k) := fun k ⟨i, _, hk⟩ => h1 i k hk
  have hoff : ∀ p v, b.cell? p = some v → ¬ ∃ i, i ∈ is ∧ fp i p.block := fun p v hp hk => by
    have h5 := h.off p v hp
    rcases (hs0 _ hk).2 with h4 | h4
    · exact h5.2 h4
    · omega
  refine (hc (only (fun k => k < w.heap.size ∧ ¬ ∃ i, i ∈ is ∧ fp i k) w) (fun k => ∃ i, i ∈ is ∧ fp i k) ?_ (agr_only _ _) ?_ ?_).mono ?_
  · intro p v hp
    exact only_cell_mk ⟨World.block_lt_of_cell? w p (h.agr p v hp), hoff p v hp⟩ (h.agr p v hp)
  · intro j a hj ha
    refine Atom.rd_agr (agr_only_sub fun k hk => ?_) (Atom.holds_rd (h3 j a ha))
    exact ⟨(h1 j k hk).1, fun ⟨i, hi, hk'⟩ => hj (h2 _ _ _ hk hk' ▸ hi)⟩
  · refine ⟨agr_only _ _, fun p v hp => (only_cell _ _ _ _ hp).1, Fr.refl _ _, fun j k => ∃ i, is[j]? = some i ∧ fp i k, ?_, ?_, ?_⟩
    · rintro j k ⟨i, hi, hk⟩
      exact ⟨(h1 i k hk).1, Or.inl ⟨i, List.mem_of_getElem? hi, hk⟩⟩
    · rintro j l k ⟨i, hi, hk⟩ ⟨m, hm, hk'⟩
      have := h2 _ _ _ hk hk'
      subst this
      exact nodup_get hn hi hm
    · intro j a hj
      obtain ⟨i, hi, ha⟩ := pick_nth hp j a hj
      have e : (fun k => ∃ i, is[j]? = some i ∧ fp i k) = fp i := by
        funext k
        apply propext
        constructor
        · rintro ⟨m, hm, hk⟩; rw [hi] at hm; injection hm with hm; subst hm; exact hk
        · intro hk; exact ⟨i, hi, hk⟩
      show a.holds w (fun k => ∃ i, is[j]? = some i ∧ fp i k)
      rw [e]
      exact h3 i a ha
  · rintro e w' ⟨v, M, he, hΦ, hS⟩
    refine ⟨v, M, he, hΦ, ?_⟩
    obtain ⟨g, g1, g2, g3⟩ := hS.ex
    have hsz2 := hS.fr.size
    obtain ⟨F, F1, F2, F3⟩ := put_ex (w' := w') is L M (fun j k => j ∉ is ∧ fp j k) g hn (fun i j k _ _ hi hj => h2 _ _ _ hi.2 hj.2) g2 (fun i j k hi hf hg => by
        rcases (g1 j k hg).2 with ⟨m, hm, hk⟩ | hk
        · exact hi ((h2 _ _ _ hf.2 hk) ▸ hm)
        · have := (h1 i k hf.2).1; omega)
      (fun i a hi ha => by
        have e : (fun k => i ∉ is ∧ fp i k) = fp i := by funext k; simp [hi]
        show a.holds w' (fun k => i ∉ is ∧ fp i k)
        rw [e]
        exact Atom.loc (fun k hk => hS.fr.block k (h1 i k hk).1 (fun ⟨m, hm, hk'⟩ => hi ((h2 _ _ _ hk hk') ▸ hm))) (h3 i a ha)) g3
    refine h.step (s := fun k => ∃ i, i ∈ is ∧ fp i k) (fun k hk => (hs0 k hk).2) hS.fr ⟨F, fun i k hk => ?_, F2, F3⟩
    rcases F1 i k hk with ⟨j, _, _, hk⟩ | ⟨j, hk⟩
    · have := h1 j k hk; exact ⟨by omega, this.2⟩
    · have := g1 j k hk
      refine ⟨this.1, this.2.elim (fun h => (hs0 k h).2) (fun h => Or.inr (by omega))⟩
end
end Go.Proofs.Ytcolndejambcmaa.Ew
