/- Plain law, first part: what a computation gives with enough rounds; numbers; lists walked by loops. -/
import Derived.Test.YtcolndejambcmaaT
namespace Go.Proofs.Ytcolndejambcmaa.Ew
open Go.RowKit Go.Proofs.YtcolndejambcmaaW.PrintWords Go.Proofs.YtcolndejambcmaaW.PrintLast
set_option linter.unusedVariables false
set_option linter.unusedSimpArgs false
/-! ### numbers -/
def okI (x : Int) : Prop := -9223372036854775808 ≤ x ∧ x ≤ 9223372036854775807
theorem w64_id {x : Int} (h : -9223372036854775808 ≤ x) (h' : x ≤ 9223372036854775807) : w64 x = x := by
  simp [w64, IntKind.wrap, IntKind.bits, IntKind.signed]
  omega
theorem w64_ok (x : Int) : okI (w64 x) := by
  simp [okI, w64, IntKind.wrap, IntKind.bits, IntKind.signed]
  omega
theorem w64_mod (x : Int) : ∃ q, w64 x = x + 18446744073709551616 * q := by
  simp [w64, IntKind.wrap, IntKind.bits, IntKind.signed]
  refine ⟨-((x + 9223372036854775808) / 18446744073709551616), ?_⟩
  omega
/-! ### enough rounds -/
def Ev {α : Type} (f : Nat → Option α) (P : α → Prop) : Prop := ∃ K r, P r ∧ ∀ k, K ≤ k → f k = some r
section
variable {α β : Type} {f : Nat → Option α} {P Q : α → Prop}
theorem Ev.pure {r : α} (h : P r) : Ev (fun _ => some r) P := ⟨0, r, h, fun _ _ => rfl⟩
theorem Ev.mono (h : Ev f P) (hpq : ∀ x, P x → Q x) : Ev f Q := by
  obtain ⟨K, r, h1, h2⟩ := h
  exact ⟨K, r, hpq r h1, h2⟩
theorem Ev.bind {g : Nat → α → Option β} {R : β → Prop} (h : Ev f P) (k : ∀ x, P x → Ev (fun n => g n x) R) : Ev (fun n => (f n).bind (g n)) R := by
  obtain ⟨K, r, h1, h2⟩ := h
  obtain ⟨K', r', h3, h4⟩ := k r h1
  refine ⟨max K K', r', h3, fun n hn => ?_⟩
  show (f n).bind (g n) = _
  rw [h2 n (by omega)]
  exact h4 n (by omega)
theorem Ev.const {x : Option α} {r : α} (h : x = some r) (hp : P r) : Ev (fun _ => x) P := ⟨0, r, hp, fun _ _ => h⟩
theorem Ev.cond {c : Bool} {g : Nat → Option α} (h1 : c = true → Ev f P) (h2 : c = false → Ev g P) : Ev (fun n => bif c then f n else g n) P := by
  cases c with
  | true => exact h1 rfl
  | false => exact h2 rfl
theorem Ev.ite {c : Prop} [Decidable c] {g : Nat → Option α} (h1 : c → Ev f P) (h2 : ¬ c → Ev g P) : Ev (fun n => bif decide c then f n else g n) P :=
  Ev.cond (fun h => h1 (of_decide_eq_true h)) (fun h => h2 (of_decide_eq_false h))
theorem Ev.nit {c : Prop} [Decidable c] {g : Nat → Option α} (h1 : ¬ c → Ev f P) (h2 : c → Ev g P) : Ev (fun n => bif !decide c then f n else g n) P :=
  Ev.cond (fun h => h1 (by simpa using h)) (fun h => h2 (by simpa using h))
/-- Two computations with the same rounds. -/
theorem Ev.eq {r : α} (h : Ev f (fun x => x = r)) : ∃ K, ∀ k, K ≤ k → f k = some r := by
  obtain ⟨K, _, rfl, h2⟩ := h
  exact ⟨K, h2⟩
theorem Ev.of {r : α} {K : Nat} (hp : P r) (h : ∀ k, K ≤ k → f k = some r) : Ev f P := ⟨K, r, hp, h⟩
theorem Ev.at {K : Nat} (h : Ev (fun k => f (k + K)) P) : Ev f P := by
  obtain ⟨K', r, h1, h2⟩ := h
  refine ⟨K' + K, r, h1, fun k hk => ?_⟩
  have : f (k - K + K) = _ := h2 (k - K) (by omega)
  rwa [show k - K + K = k by omega] at this
theorem Ev.cast {g : Nat → Option α} (h : Ev f P) (hg : ∀ k, g k = f k) : Ev g P := by
  have : g = f := funext hg
  rwa [this]
/-- A loop: an invariant, and a number that falls. -/
theorem Ev.loop {S B R : Type} {body : Nat → S → Option (Stp S B R)} {F : Out B R → Prop} (I : S → Prop) (μ : S → Nat)
    (h : ∀ s, I s → Ev (fun k => body k s) fun o => match o with | .next s' => I s' ∧ μ s' < μ s | .brk b => F (.brk b) | .ret r => F (.ret r)) {s : S} (hs : I s) :
    Ev (fun k => iter (body k) k s) F := by
  suffices ∀ n s, μ s < n → I s → ∃ K r, F r ∧ ∀ k j, K ≤ k → K ≤ j → iter (body k) j s = some r by
    obtain ⟨K, r, h1, h2⟩ := this (μ s + 1) s (by omega) hs
    exact ⟨K, r, h1, fun k hk => h2 k k hk hk⟩
  intro n
  induction n with
  | zero => intro s hs; omega
  | succ n ih =>
    intro s hs hI
    obtain ⟨K, o, h1, h2⟩ := h s hI
    cases o with
    | next s' =>
      obtain ⟨hi, hm⟩ := h1
      obtain ⟨K', r, h3, h4⟩ := ih s' (by omega) hi
      refine ⟨max K K' + 1, r, h3, fun k j hk hj => ?_⟩
      obtain ⟨j, rfl⟩ : ∃ i, j = i + 1 := ⟨j - 1, by omega⟩
      have e : body k s = _ := h2 k (by omega)
      simp only [iter, e, Option.bind]
      exact h4 k j (by omega) (by omega)
    | brk b =>
      refine ⟨K + 1, _, h1, fun k j hk hj => ?_⟩
      obtain ⟨j, rfl⟩ : ∃ i, j = i + 1 := ⟨j - 1, by omega⟩
      have e : body k s = _ := h2 k (by omega)
      simp only [iter, e, Option.bind]
    | ret b =>
      refine ⟨K + 1, _, h1, fun k j hk hj => ?_⟩
      obtain ⟨j, rfl⟩ : ∃ i, j = i + 1 := ⟨j - 1, by omega⟩
      have e : body k s = _ := h2 k (by omega)
      simp only [iter, e, Option.bind]
/-- A loop, and what comes of it. -/
theorem Ev.go {S B R : Type} {body : Nat → S → Option (Stp S B R)} {g : Nat → B → Option R} {T : R → Prop} (I : S → Prop) (μ : S → Nat) (F : B → Prop)
    (h : ∀ s, I s → Ev (fun k => body k s) fun o => match o with | .next s' => I s' ∧ μ s' < μ s | .brk b => F b | .ret r => T r)
    (hg : ∀ b, F b → Ev (fun k => g k b) T) {s : S} (hs : I s) : Ev (fun k => (iter (body k) k s).bind (Out.go (g k))) T := by
  have := Ev.loop (F := fun o => match o with | .brk b => F b | .ret r => T r) I μ (fun s hs => (h s hs).mono (fun o => by cases o <;> exact fun h => h)) hs
  refine this.bind (fun o ho => ?_)
  cases o with
  | brk b => exact hg b ho
  | ret r => exact Ev.pure ho
end
/-! ### lists -/
theorem atI_nat {α : Type} {xs : List α} {i : Nat} {x : α} (h : xs[i]? = some x) : atI xs (i : Int) = some x := by simp [atI, h]
theorem atI_lt {α : Type} {xs : List α} {i : Nat} (h : i < xs.length) : atI xs (i : Int) = some xs[i] := by simp [atI, h]
theorem atI_set {α : Type} {xs : List α} {i : Int} {x y : α} (h : atI xs i = some x) : atI (xs.set i.toNat y) i = some y := by
  obtain ⟨h1, h2, h3⟩ := atI_some h
  have : i.toNat < xs.length := by omega
  simp [atI, h1, this]
theorem apL_ok {α : Type} {xs ys : List α} (h : xs.length + ys.length ≤ lim) : apL xs ys = some (xs ++ ys) := by simp [apL, h]
theorem mkL_ok {α : Type} {z : α} {n : Nat} (h : n ≤ lim) : mkL z (n : Int) = some (List.replicate n z) := by
  have : (n : Int) ≤ (lim : Int) := by omega
  simp [mkL, this]
theorem catS_ok {a b : Str} (h : a.length + b.length ≤ 4611686018427387904) : catS a b = some (a ++ b) := by simp [catS, h]
def sumBy {α : Type} (S : α → Nat) : List α → Nat
  | [] => 0
  | x :: xs => S x + sumBy S xs
theorem sumBy_mem {α : Type} {S : α → Nat} : ∀ {xs : List α} {x : α}, x ∈ xs → S x ≤ sumBy S xs
  | _ :: xs, x, h => by
    rcases List.mem_cons.1 h with rfl | h
    · simp [sumBy]
    · have := sumBy_mem (S := S) h; simp [sumBy]; omega
theorem sumBy_app {α : Type} (S : α → Nat) (xs ys : List α) : sumBy S (xs ++ ys) = sumBy S xs + sumBy S ys := by
  induction xs with
  | nil => simp [sumBy]
  | cons x xs ih => simp [sumBy, ih]; omega
/-- How much a list says: a place an element, and what each says. -/
def szL {α : Type} (S : α → Nat) (xs : List α) : Nat := xs.length + sumBy S xs
theorem drop_cons {α : Type} {xs : List α} {i : Nat} {x : α} (h : xs[i]? = some x) : xs.drop i = x :: xs.drop (i + 1) := by
  obtain ⟨h1, h2⟩ := List.getElem?_eq_some_iff.1 h
  rw [List.drop_eq_getElem_cons h1, h2]
/-- What is left of a budget. -/
def less (l : Int) (n : Nat) : Int := if l < n then -1 else l - n
theorem less_less {l : Int} {n m : Nat} (h : 0 ≤ less l n) : less (less l n) m = less l (n + m) := by
  unfold less at *
  split at h
  · omega
  · rename_i h1
    rw [if_neg h1]
    split <;> split <;> omega
theorem less_neg {l : Int} {n m : Nat} (h : less l n < 0) : less l (n + m) = -1 := by
  unfold less at *
  split at h
  · rw [if_pos]; omega
  · omega
theorem less_range {l : Int} {n : Nat} (h0 : 0 ≤ l) (h1 : l ≤ 4611686018427387904) : less l n = -1 ∨ (0 ≤ less l n ∧ less l n ≤ 4611686018427387904 ∧ less l n = l - n) := by
  unfold less; split <;> omega
theorem less_w {l : Int} {n : Nat} (h0 : 0 ≤ l) (h1 : l ≤ 4611686018427387904) (hn : n ≤ 9223372036854775807) : w64 (l - (n : Int)) = l - n := w64_id (by omega) (by omega)
/-- The budget's loop over a list. -/
theorem ev_szS {α : Type} {xs : List α} {S : α → Nat} {f : Nat → α → Int → Option Int} {body : Nat → (Int × Int) → Option (Stp (Int × Int) Int Int)} {g : Nat → Option Int} {l : Int}
    (hf : ∀ x ∈ xs, ∀ l, 0 ≤ l → l ≤ 4611686018427387904 → Ev (fun k => f k x l) (fun r => r = less l (S x)))
    (hb : ∀ k a i, body k (a, i) = (bif (decide (i < (xs.length : Int))) then (Option.bind (atI xs i) (fun x7 => (Option.bind (f k x7 a) (fun x8 => (bif (decide (x8 < 0)) then (some (.ret (-1))) else (some (.next (x8, (w64 (i + 1)))))))))) else (some (.brk a))))
    (hg : ∀ k, g k = (bif (decide ((w64 (l - (xs.length : Int))) < 0)) then (some (-1)) else (Option.bind (iter (body k) k ((w64 (l - (xs.length : Int))), 0)) (Out.go (fun x6 => (some x6))))))
    (hn : xs.length ≤ 9223372036854775807) (h0 : 0 ≤ l) (h1 : l ≤ 4611686018427387904) : Ev g (fun r => r = less l (szL S xs)) := by
  refine Ev.cast ?_ hg
  rw [less_w h0 h1 hn]
  refine Ev.ite (fun h => Ev.pure ?_) (fun h => ?_)
  · have : less l xs.length < 0 := by unfold less; split <;> omega
    exact (less_neg this).symm
  · have e : less l xs.length = l - xs.length := by unfold less; split <;> omega
    refine Ev.go (I := fun s : Int × Int => ∃ j : Nat, s.2 = j ∧ j ≤ xs.length ∧ 0 ≤ s.1 ∧ s.1 ≤ 4611686018427387904 ∧ less s.1 (sumBy S (xs.drop j)) = less l (szL S xs)) (μ := fun s => ((xs.length : Int) - s.2).toNat) (F := fun b => b = less l (szL S xs)) ?_ (fun b hb => Ev.pure hb) ⟨0, rfl, by omega, by show 0 ≤ l - (xs.length : Int); omega, by show l - (xs.length : Int) ≤ _; omega, ?_⟩
    · rintro ⟨a, i⟩ ⟨j, hj, hl, ha0, ha1, he⟩
      simp only at hj ha0 ha1 he
      subst hj
      refine Ev.cast ?_ (fun k => hb k a j)
      refine Ev.ite (fun h2 => ?_) (fun h2 => Ev.pure ?_)
      · have hlt : j < xs.length := by omega
        have hx := List.getElem?_eq_getElem hlt
        refine Ev.bind (Ev.const (P := fun x => x = xs[j]) (atI_nat hx) rfl) ?_
        rintro _ rfl
        refine Ev.bind (hf _ (List.getElem_mem hlt) a ha0 ha1) ?_
        rintro _ rfl
        rw [drop_cons hx] at he
        simp only [sumBy] at he
        refine Ev.ite (fun h3 => Ev.pure ?_) (fun h3 => Ev.pure ?_)
        · show -1 = _
          rw [← he, less_neg h3]
        · refine ⟨⟨j + 1, ?_, by omega, ?_, ?_, ?_⟩, ?_⟩
          · show w64 ((j : Int) + 1) = _
            rw [w64_id (by omega) (by omega)]; omega
          · show 0 ≤ less a _; omega
          · have := less_range (n := S xs[j]) ha0 ha1
            show less a _ ≤ _; omega
          · show less (less a _) _ = _
            rw [less_less (by omega)]; exact he
          · show ((xs.length : Int) - w64 ((j : Int) + 1)).toNat < ((xs.length : Int) - (j : Int)).toNat
            rw [w64_id (by omega) (by omega)]; omega
      · show a = _
        have : j = xs.length := by omega
        subst this
        rw [← he]
        simp [sumBy, less]; omega
    · show less (l - (xs.length : Int)) (sumBy S (xs.drop 0)) = _
      rw [← e, less_less (by omega)]
      simp [szL]
/-- A copy, an element at a time. -/
theorem ev_toS {α : Type} {xs : List α} {z : α} {f : Nat → α → Option α} {body : Nat → (List α × Int) → Option (Stp (List α × Int) (List α) (List α))} {g : Nat → Option (List α)}
    (hf : ∀ x ∈ xs, Ev (fun k => f k x) (fun r => r = x))
    (hb : ∀ k a i, body k (a, i) = (bif (decide (i < (xs.length : Int))) then (Option.bind (atI xs i) (fun x9 => (Option.bind (f k x9) (fun x10 => (Option.bind (atI a i) (fun x11 => (some (.next ((a.set (i).toNat x10), (w64 (i + 1))))))))))) else (some (.brk a))))
    (hg : ∀ k, g k = (Option.bind (mkL z (xs.length : Int)) (fun x1 => (Option.bind (iter (body k) k (x1, 0)) (Out.go (fun x8 => (some x8)))))))
    (hn : xs.length ≤ lim) : Ev g (fun r => r = xs) := by
  refine Ev.cast ?_ hg
  refine Ev.bind (Ev.const (mkL_ok hn) rfl) ?_
  rintro _ rfl
  have hl9 : lim = 4294967296 := rfl
  refine Ev.go (I := fun s : List α × Int => ∃ j : Nat, s.2 = j ∧ j ≤ xs.length ∧ s.1.length = xs.length ∧ s.1.take j = xs.take j) (μ := fun s => ((xs.length : Int) - s.2).toNat) (F := fun b => b = xs) ?_ (fun b hb => Ev.pure hb) ⟨0, rfl, by omega, by simp, by simp⟩
  rintro ⟨a, i⟩ ⟨j, hj, hl, ha, he⟩
  simp only at hj ha he
  subst hj
  refine Ev.cast ?_ (fun k => hb k a j)
  refine Ev.ite (fun h2 => ?_) (fun h2 => Ev.pure ?_)
  · have hlt : j < xs.length := by omega
    have hx := List.getElem?_eq_getElem hlt
    refine Ev.bind (Ev.const (P := fun x => x = xs[j]) (atI_nat hx) rfl) ?_
    rintro _ rfl
    refine Ev.bind (hf _ (List.getElem_mem hlt)) ?_
    rintro _ rfl
    refine Ev.bind (Ev.const (P := fun x => x = a[j]'(by omega)) (atI_nat (List.getElem?_eq_getElem (by omega))) rfl) ?_
    rintro _ rfl
    refine Ev.pure ⟨⟨j + 1, ?_, by omega, ?_, ?_⟩, ?_⟩
    · show w64 ((j : Int) + 1) = _
      rw [w64_id (by omega) (by omega)]; omega
    · simpa using ha
    · show (a.set (j : Int).toNat xs[j]).take (j + 1) = xs.take (j + 1)
      apply List.ext_getElem?
      intro i
      have he2 := congrArg (fun l => l[i]?) he
      simp only [List.getElem?_take] at he2
      simp only [List.getElem?_take, List.getElem?_set]
      by_cases hij : i = j
      · subst hij; simp [hlt, ha]
      · by_cases hil : i < j
        · simp [hil, show i < j + 1 by omega] at he2 ⊢
          rw [if_neg (by omega)]; exact he2
        · simp [show ¬ i < j + 1 by omega]
    · show ((xs.length : Int) - w64 ((j : Int) + 1)).toNat < ((xs.length : Int) - (j : Int)).toNat
      rw [w64_id (by omega) (by omega)]; omega
  · show a = xs
    have : j = xs.length := by omega
    subst this
    rw [List.take_length] at he
    rw [← he, ← ha, List.take_length]
/-- Two lists compared, an element at a time. -/
theorem ev_eqS {α : Type} [DecidableEq α] {xs ys : List α} {f : Nat → α → α → Option Bool} {body : Nat → Int → Option (Stp Int Unit Bool)} {g : Nat → Option Bool}
    (hf : ∀ x ∈ xs, ∀ y ∈ ys, Ev (fun k => f k x y) (fun r => r = decide (x = y)))
    (hb : ∀ k i, body k i = (bif (decide (i < (xs.length : Int))) then (Option.bind (atI xs i) (fun x5 => (Option.bind (atI ys i) (fun x6 => (Option.bind (f k x5 x6) (fun x7 => (bif (!x7) then (some (.ret false)) else (some (.next (w64 (i + 1))))))))))) else (some (.brk ()))))
    (hg : ∀ k, g k = (bif (!decide ((xs.length : Int) = (ys.length : Int))) then (some false) else (Option.bind (iter (body k) k 0) (Out.go (fun _ => (some true))))))
    (hn : xs.length ≤ 4611686018427387904) : Ev g (fun r => r = decide (xs = ys)) := by
  refine Ev.cast ?_ hg
  refine Ev.nit (fun h => Ev.pure ?_) (fun h => ?_)
  · symm; apply decide_eq_false; rintro rfl; exact h rfl
  have hle : xs.length = ys.length := by omega
  refine Ev.go (I := fun s : Int => ∃ j : Nat, s = j ∧ j ≤ xs.length ∧ xs.take j = ys.take j) (μ := fun s => ((xs.length : Int) - s).toNat) (F := fun b => xs = ys) ?_ (fun b hb => Ev.pure (r := true) (decide_eq_true hb).symm) ⟨0, rfl, by omega, by simp⟩
  rintro i ⟨j, hj, hl, he⟩
  subst hj
  refine Ev.cast ?_ (fun k => hb k j)
  refine Ev.ite (fun h2 => ?_) (fun h2 => Ev.pure ?_)
  · have hlt : j < xs.length := by omega
    have hlt' : j < ys.length := by omega
    refine Ev.bind (Ev.const (P := fun x => x = xs[j]) (atI_nat (List.getElem?_eq_getElem hlt)) rfl) ?_
    rintro _ rfl
    refine Ev.bind (Ev.const (P := fun x => x = ys[j]) (atI_nat (List.getElem?_eq_getElem hlt')) rfl) ?_
    rintro _ rfl
    refine Ev.bind (hf _ (List.getElem_mem hlt) _ (List.getElem_mem hlt')) ?_
    rintro _ rfl
    refine Ev.nit (fun h3 => Ev.pure ?_) (fun h3 => Ev.pure ?_)
    · show false = _
      symm; apply decide_eq_false
      rintro rfl
      exact h3 rfl
    · refine ⟨⟨j + 1, ?_, by omega, ?_⟩, ?_⟩
      · rw [w64_id (by omega) (by omega)]; omega
      · rw [List.take_add_one, List.take_add_one, he]
        simp [hlt, hlt', h3]
      · rw [w64_id (by omega) (by omega)]; omega
  · have : j = xs.length := by omega
    subst this
    rw [List.take_length, hle, List.take_length] at he
    exact he
/-! ### marks -/
/-- A list's elements marked in turn, from n on. -/
def mkS {α : Type} (m : Int → α → α) (c : α → Nat) : Int → List α → List α
  | _, [] => []
  | n, x :: xs => m n x :: mkS m c (n + c x) xs
theorem mkS_len {α : Type} (m : Int → α → α) (c : α → Nat) : ∀ (n : Int) (xs : List α), (mkS m c n xs).length = xs.length
  | _, [] => rfl
  | n, x :: xs => by simp [mkS, mkS_len m c]
theorem mkS_get {α : Type} (m : Int → α → α) (c : α → Nat) : ∀ (n : Int) (xs : List α) (i : Nat) (x : α), xs[i]? = some x → (mkS m c n xs)[i]? = some (m (n + sumBy c (xs.take i)) x)
  | _, [], i, x, h => by simp at h
  | n, y :: ys, 0, x, h => by simp at h; subst h; simp [mkS, sumBy]
  | n, y :: ys, i + 1, x, h => by
    have := mkS_get m c (n + c y) ys i x (by simpa using h)
    simp only [mkS, List.getElem?_cons_succ, List.take_succ_cons, sumBy, this]
    congr 2
    omega
theorem sumBy_take {α : Type} {c : α → Nat} {xs : List α} {i : Nat} {x : α} (h : xs[i]? = some x) : sumBy c (xs.take (i + 1)) = sumBy c (xs.take i) + c x := by
  rw [List.take_add_one, h, sumBy_app]
  simp [sumBy]
theorem sumBy_take_le {α : Type} {c : α → Nat} {xs : List α} {i : Nat} : sumBy c (xs.take i) ≤ sumBy c xs := by
  have := sumBy_app c (xs.take i) (xs.drop i)
  rw [List.take_append_drop] at this
  omega
/-- The marks' loop. -/
theorem ev_markS {α : Type} {xs : List α} {m : Int → α → α} {c : α → Nat} {body : Nat → (List α × Int × Int) → Option (Stp (List α × Int × Int) (List α × Int) (Int × List α))} {g : Nat → Option (Int × List α)} {n : Int}
    (hb : ∀ (a : List α) (j : Nat) (x : α) (p : Int), xs[j]? = some x → atI a (j : Int) = some x → 0 ≤ p → p + c x ≤ 4611686018427387904 → Ev (fun k => body k (a, p, (j : Int))) (fun o => o = .next (a.set j (m p x), p + c x, w64 ((j : Int) + 1))))
    (he : ∀ k a p (i : Int), ¬ i < (a.length : Int) → body k (a, p, i) = some (.brk (a, p)))
    (hg : ∀ k, g k = (Option.bind (iter (body k) k (xs, n, 0)) (Out.go (fun (x15, x16) => (some (x16, x15))))))
    (hn : xs.length ≤ 4611686018427387904) (h0 : 0 ≤ n) (h1 : n + sumBy c xs ≤ 4611686018427387904) : Ev g (fun r => r = (n + sumBy c xs, mkS m c n xs)) := by
  refine Ev.cast ?_ hg
  refine Ev.go (I := fun s : List α × Int × Int => ∃ j : Nat, s.2.2 = j ∧ j ≤ xs.length ∧ s.2.1 = n + sumBy c (xs.take j) ∧ s.1 = (mkS m c n xs).take j ++ xs.drop j) (μ := fun s => ((xs.length : Int) - s.2.2).toNat) (F := fun b => b = (mkS m c n xs, n + sumBy c xs)) ?_ (fun b hb => by subst hb; exact Ev.pure rfl) ⟨0, rfl, by omega, by simp [sumBy], by simp⟩
  rintro ⟨a, p, i⟩ ⟨j, hj, hl, hp, ha⟩
  simp only at hj hp ha
  subst hj
  have hal : a.length = xs.length := by rw [ha, List.length_append, List.length_take, List.length_drop, mkS_len]; omega
  by_cases hlt : j < xs.length
  · have hx := List.getElem?_eq_getElem hlt
    have hax : a[j]? = some xs[j] := by
      rw [ha, List.getElem?_append_right (by simp [mkS_len]; omega)]
      simp [mkS_len, Nat.min_eq_left hl, hlt]
    have hs := sumBy_take (c := c) hx
    have hs2 := sumBy_take_le (c := c) (xs := xs) (i := j + 1)
    refine (hb a j _ p hx (atI_nat hax) (by omega) (by omega)).mono ?_
    rintro _ rfl
    refine ⟨⟨j + 1, ?_, by omega, ?_, ?_⟩, ?_⟩
    · show w64 ((j : Int) + 1) = _
      rw [w64_id (by omega) (by omega)]; omega
    · show p + c xs[j] = _
      omega
    · show a.set j (m p xs[j]) = _
      have hm := mkS_get m c n xs j _ hx
      rw [ha, List.set_append_right _ _ (by simp [mkS_len]; omega), List.take_add_one, hm, ← hp]
      simp [mkS_len, Nat.min_eq_left hl]
      rw [drop_cons hx]; rfl
    · show ((xs.length : Int) - w64 ((j : Int) + 1)).toNat < ((xs.length : Int) - (j : Int)).toNat
      rw [w64_id (by omega) (by omega)]; omega
  · have : j = xs.length := by omega
    subst this
    refine Ev.cast (Ev.pure (r := .brk (a, p)) ?_) (fun k => he k a p _ (by omega))
    show (a, p) = _
    rw [ha, hp]
    simp [List.take_of_length_le (Nat.le_of_eq (mkS_len m c n xs))]
/-- The marks' test. -/
theorem ev_heldS {α : Type} {xs : List α} {m : Int → α → α} {c : α → Nat} {body : Nat → (Int × Int) → Option (Stp (Int × Int) Int Int)} {g : Nat → Option Int} {n : Int}
    (hb : ∀ (j : Nat) (x : α) (p : Int), xs[j]? = some x → atI (mkS m c n xs) (j : Int) = some (m p x) → 0 ≤ p → p + c x ≤ 4611686018427387904 → Ev (fun k => body k (p, (j : Int))) (fun o => o = .next (p + c x, w64 ((j : Int) + 1))))
    (he : ∀ k p (i : Int), ¬ i < ((mkS m c n xs).length : Int) → body k (p, i) = some (.brk p))
    (hg : ∀ k, g k = (Option.bind (iter (body k) k (n, 0)) (Out.go (fun x13 => (some x13)))))
    (hn : xs.length ≤ 4611686018427387904) (h0 : 0 ≤ n) (h1 : n + sumBy c xs ≤ 4611686018427387904) : Ev g (fun r => r = n + sumBy c xs) := by
  refine Ev.cast ?_ hg
  refine Ev.go (I := fun s : Int × Int => ∃ j : Nat, s.2 = j ∧ j ≤ xs.length ∧ s.1 = n + sumBy c (xs.take j)) (μ := fun s => ((xs.length : Int) - s.2).toNat) (F := fun b => b = n + sumBy c xs) ?_ (fun b hb => by subst hb; exact Ev.pure rfl) ⟨0, rfl, by omega, by simp [sumBy]⟩
  rintro ⟨p, i⟩ ⟨j, hj, hl, hp⟩
  simp only at hj hp
  subst hj
  by_cases hlt : j < xs.length
  · have hx := List.getElem?_eq_getElem hlt
    have hs := sumBy_take (c := c) hx
    have hs2 := sumBy_take_le (c := c) (xs := xs) (i := j + 1)
    have hm := mkS_get m c n xs j _ hx
    rw [← hp] at hm
    refine (hb j _ p hx (atI_nat hm) (by omega) (by omega)).mono ?_
    rintro _ rfl
    refine ⟨⟨j + 1, ?_, by omega, ?_⟩, ?_⟩
    · show w64 ((j : Int) + 1) = _
      rw [w64_id (by omega) (by omega)]; omega
    · show p + c xs[j] = _
      omega
    · show ((xs.length : Int) - w64 ((j : Int) + 1)).toNat < ((xs.length : Int) - (j : Int)).toNat
      rw [w64_id (by omega) (by omega)]; omega
  · have : j = xs.length := by omega
    subst this
    refine Ev.cast (Ev.pure (r := .brk p) ?_) (fun k => he k p _ (by rw [mkS_len]; omega))
    show p = _
    rw [hp, List.take_length]
theorem Ev.chk {α : Type} {p : Prop} [Decidable p] {f : Nat → Option α} {P : α → Prop} (h : p) (hf : Ev f P) : Ev (fun k => Ew.chk p (f k)) P := Ev.cast hf (fun k => by unfold Ew.chk; rw [if_pos h])
/-! ### loops over a list -/
theorem w64_nat {j : Nat} (h : j ≤ 4611686018427388000) : w64 ((j : Int) + 1) = ((j + 1 : Nat) : Int) := by rw [w64_id (by omega) (by omega)]; omega
theorem Ev.forL {α σ R B : Type} {xs : List α} {body : Nat → (σ × Int) → Option (Stp (σ × Int) B R)} {g : Nat → B → Option R} {T : R → Prop} (I : Nat → σ → Prop) (F : B → Prop)
    (hb : ∀ (j : Nat) (x : α) (a : σ), xs[j]? = some x → j < xs.length → I j a → Ev (fun k => body k (a, (j : Int))) (fun o => match o with | .next s => s.2 = ((j + 1 : Nat) : Int) ∧ I (j + 1) s.1 | .brk b => F b | .ret r => T r))
    (he : ∀ a, I xs.length a → Ev (fun k => body k (a, (xs.length : Int))) (fun o => match o with | .next s => False | .brk b => F b | .ret r => T r))
    (hg : ∀ b, F b → Ev (fun k => g k b) T) {a0 : σ} (h0 : I 0 a0) : Ev (fun k => (iter (body k) k (a0, 0)).bind (Out.go (g k))) T := by
  refine Ev.go (I := fun s : σ × Int => ∃ j : Nat, s.2 = j ∧ j ≤ xs.length ∧ I j s.1) (μ := fun s => ((xs.length : Int) - s.2).toNat) (F := F) ?_ hg ⟨0, rfl, by omega, h0⟩
  rintro ⟨a, i⟩ ⟨j, hj, hl, hi⟩
  simp only at hj hi
  subst hj
  rcases Nat.lt_or_ge j xs.length with hlt | hge
  · refine (hb j _ a (List.getElem?_eq_getElem hlt) hlt hi).mono (fun o ho => ?_)
    cases o with
    | next s => exact ⟨⟨j + 1, ho.1, by omega, ho.2⟩, by have := ho.1; show ((xs.length : Int) - s.2).toNat < ((xs.length : Int) - (j : Int)).toNat; omega⟩
    | brk b => exact ho
    | ret r => exact ho
  · have : j = xs.length := by omega
    subst this
    refine (he a hi).mono (fun o ho => ?_)
    cases o with
    | next s => exact ho.elim
    | brk b => exact ho
    | ret r => exact ho
theorem Ev.forI {α R B : Type} {xs : List α} {body : Nat → Int → Option (Stp Int B R)} {g : Nat → B → Option R} {T : R → Prop} (I : Nat → Prop) (F : B → Prop)
    (hb : ∀ (j : Nat) (x : α), xs[j]? = some x → j < xs.length → I j → Ev (fun k => body k (j : Int)) (fun o => match o with | .next s => s = ((j + 1 : Nat) : Int) ∧ I (j + 1) | .brk b => F b | .ret r => T r))
    (he : I xs.length → Ev (fun k => body k (xs.length : Int)) (fun o => match o with | .next s => False | .brk b => F b | .ret r => T r))
    (hg : ∀ b, F b → Ev (fun k => g k b) T) (h0 : I 0) : Ev (fun k => (iter (body k) k 0).bind (Out.go (g k))) T := by
  refine Ev.go (I := fun s : Int => ∃ j : Nat, s = j ∧ j ≤ xs.length ∧ I j) (μ := fun s => ((xs.length : Int) - s).toNat) (F := F) ?_ hg ⟨0, rfl, by omega, h0⟩
  rintro i ⟨j, hj, hl, hi⟩
  subst hj
  rcases Nat.lt_or_ge j xs.length with hlt | hge
  · refine (hb j _ (List.getElem?_eq_getElem hlt) hlt hi).mono (fun o ho => ?_)
    cases o with
    | next s => exact ⟨⟨j + 1, ho.1, by omega, ho.2⟩, by have := ho.1; show ((xs.length : Int) - s).toNat < ((xs.length : Int) - (j : Int)).toNat; omega⟩
    | brk b => exact ho
    | ret r => exact ho
  · have : j = xs.length := by omega
    subst this
    refine (he hi).mono (fun o ho => ?_)
    cases o with
    | next s => exact ho.elim
    | brk b => exact ho
    | ret r => exact ho
theorem Ev.lt {α : Type} {j n : Nat} {f g : Nat → Option α} {P : α → Prop} (h : j < n) (hf : Ev f P) : Ev (fun k => bif decide ((j : Int) < (n : Int)) then f k else g k) P := Ev.ite (fun _ => hf) (fun h2 => by omega)
theorem Ev.nl {α : Type} {n : Nat} {f g : Nat → Option α} {P : α → Prop} (hg : Ev g P) : Ev (fun k => bif decide ((n : Int) < (n : Int)) then f k else g k) P := Ev.ite (fun h => by omega) (fun _ => hg)
theorem take_snoc {α : Type} {xs : List α} {j : Nat} {x : α} (h : xs[j]? = some x) : xs.take (j + 1) = xs.take j ++ [x] := by rw [List.take_add_one, h]; rfl
end Go.Proofs.Ytcolndejambcmaa.Ew
