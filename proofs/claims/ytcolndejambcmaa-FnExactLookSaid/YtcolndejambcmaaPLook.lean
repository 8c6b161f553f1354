/- Plain law: Look. -/
import Derived.Test.YtcolndejambcmaaPB
namespace Go.Proofs.Ytcolndejambcmaa.Ew
open Go.RowKit Go.Proofs.YtcolndejambcmaaW.PrintWords Go.Proofs.YtcolndejambcmaaW.PrintLast
set_option linter.unusedVariables false
set_option linter.unusedSimpArgs false
theorem ev_l7Copy {xs : List Rec} (h : xs.length ≤ lim) : Ev (fun _ => spec_l7Copy xs) (fun r => r = xs) := by
  refine Ev.bind (Ev.const (apL_ok (xs := []) (by simpa using h)) rfl) ?_
  rintro _ rfl
  exact Ev.pure rfl
def ttls (t : Int) (xs : List Rec) : List Rec := xs.map (fun x => { x with ttl := t })
/-- A loop that turns each element of a list. -/
theorem ev_turn {α : Type} {xs : List α} {f : α → α} {body : Nat → (List α × Int) → Option (Stp (List α × Int) (List α) (List α))} {g : Nat → List α → Option (List α)}
    (hb : ∀ k (a : List α) (j : Nat) (x : α), xs[j]? = some x → atI a (j : Int) = some x → a.length = xs.length → body k (a, (j : Int)) = some (.next (a.set j (f x), w64 ((j : Int) + 1))))
    (he : ∀ k a (i : Int), a.length = xs.length → ¬ i < (xs.length : Int) → body k (a, i) = some (.brk a))
    (hn : xs.length ≤ 4611686018427387904) : Ev (fun k => (iter (body k) k (xs, 0)).bind (Out.go (fun x6 => (some x6)))) (fun r => r = xs.map f) := by
  refine Ev.go (g := fun _ x6 => some x6) (I := fun s : List α × Int => ∃ j : Nat, s.2 = j ∧ j ≤ xs.length ∧ s.1 = (xs.take j).map f ++ xs.drop j) (μ := fun s => ((xs.length : Int) - s.2).toNat) (F := fun b => b = xs.map f) ?_ (fun b hb => Ev.pure hb) ⟨0, rfl, by omega, by simp⟩
  rintro ⟨a, i⟩ ⟨j, hj, hl, ha⟩
  simp only at hj ha
  subst hj
  have hal : a.length = xs.length := by rw [ha, List.length_append, List.length_map, List.length_take, List.length_drop]; omega
  by_cases hlt : j < xs.length
  · obtain ⟨x, hx⟩ : ∃ x, xs[j]? = some x := ⟨_, List.getElem?_eq_getElem hlt⟩
    have hax : a[j]? = some x := by
      rw [ha, List.getElem?_append_right (by simp; omega)]
      simp [Nat.min_eq_left hl, hx]
    refine Ev.cast (Ev.pure (r := .next (a.set j (f x), w64 ((j : Int) + 1))) ?_) (fun k => hb k a j _ hx (atI_nat hax) hal)
    refine ⟨⟨j + 1, ?_, by omega, ?_⟩, ?_⟩
    · show w64 ((j : Int) + 1) = _
      rw [w64_id (by omega) (by omega)]; omega
    · show a.set j (f x) = _
      rw [ha, List.set_append_right _ _ (by simp; omega), List.take_add_one, hx, drop_cons hx, List.map_append]
      simp [Nat.min_eq_left hl]
    · show ((xs.length : Int) - w64 ((j : Int) + 1)).toNat < ((xs.length : Int) - (j : Int)).toNat
      rw [w64_id (by omega) (by omega)]; omega
  · have : j = xs.length := by omega
    subst this
    refine Ev.cast (Ev.pure (r := .brk a) ?_) (fun k => he k a _ hal (by omega))
    show a = _
    rw [ha]; simp
theorem ev_specWithTtl {xs : List Rec} {t : Int} (h : xs.length ≤ 1048576) : Ev (fun k => spec_WithTtl k xs t) (fun r => r = ttls t xs) := by
  refine Ev.bind (ev_l7Copy (by rw [lim_eq]; omega)) ?_
  rintro _ rfl
  refine ev_turn (body := fun _ => spec_WithTtl_b1 t) (g := fun _ x => some x) ?_ ?_ (by omega)
  · intro k a j x hx hat hl
    have hlt := (atI_some hat).2.1
    simp only [spec_WithTtl_b1, decide_eq_true hlt, cond_true, hat, Option.bind_some, Int.toNat_natCast]
  · intro k a i hl h
    rw [← hl] at h
    rw [spec_WithTtl_b1, decide_eq_false h]; rfl
theorem ev_implWithTtl {xs : List Rec} {t : Int} (h : xs.length ≤ 1048576) : Ev (fun k => impl_WithTtl k xs t) (fun r => r = ttls t xs) := by
  refine Ev.bind (Ev.const (apL_ok (xs := []) (by rw [lim_eq]; simp; omega)) rfl) ?_
  rintro _ rfl
  simp only [List.nil_append]
  refine ev_turn (body := fun _ => impl_WithTtl_b1 t xs) (g := fun _ x => some x) ?_ ?_ (by omega)
  · intro k a j x hx hat hl
    have hlt := (atI_some hat).2.1
    rw [hl] at hlt
    simp only [impl_WithTtl_b1, decide_eq_true hlt, cond_true, hat, Option.bind_some, Int.toNat_natCast]
  · intro k a i hl h
    rw [impl_WithTtl_b1, decide_eq_false h]; rfl
/-- What Look answers. -/
def lookHit (now : Int) (q : Que) (rank : Int) (e : Ent) : Prop := e.q = q ∧ now < e.till ∧ rank ≤ e.rank
instance (now : Int) (q : Que) (rank : Int) (e : Ent) : Decidable (lookHit now q rank e) := by unfold lookHit; exact inferInstance
def lookTtl (now till : Int) : Int := if w64 (till - now) < 0 then 100000 else if 100000 < w64 (till - now) then 100000 else w64 (till - now)
def look (now : Int) (q : Que) (rank : Int) : List Ent → Ent × Bool
  | [] => ({ q := { name := [], ty := 0 }, kind := 0, l := [], rank := 0, till := 0 }, false)
  | e :: l => if lookHit now q rank e then ({ e with l := ttls (lookTtl now e.till) e.l }, true) else look now q rank l
theorem w64_diff {a b : Int} (ha : okI a) (hb : okI b) (h : b < a) : w64 (a - b) = a - b ∨ (w64 (a - b) = a - b - 18446744073709551616 ∧ w64 (a - b) < 0 ∧ 9223372036854775807 < a - b) := by
  unfold okI at ha hb
  by_cases h1 : a - b ≤ 9223372036854775807
  · exact Or.inl (w64_id (by omega) h1)
  · right
    have e : w64 (a - b) = a - b - 18446744073709551616 := by
      simp [w64, IntKind.wrap, IntKind.bits, IntKind.signed]
      omega
    exact ⟨e, by omega, by omega⟩
theorem specTtl {now till : Int} (hn : okI now) (ht : okI till) (h : now < till) :
    Ev (fun _ => (Option.bind (bif (decide (0 < now)) then (bif (decide ((w64 (till - now)) < 100000)) then (some true) else (bif (decide (now ≤ 0)) then (some (decide (till < (w64 (100000 + now))))) else (some false))) else (bif (decide (now ≤ 0)) then (some (decide (till < (w64 (100000 + now))))) else (some false))) (fun x20 => (bif x20 then (some (w64 (till - now))) else (some 100000))))) (fun r => r = lookTtl now till) := by
  have hd := w64_diff ht hn h
  have e : okI now := hn
  have e2 : okI till := ht
  unfold okI at e e2
  refine Ev.const (r := lookTtl now till) ?_ rfl
  unfold lookTtl
  by_cases h0 : 0 < now
  · have hle : ¬ now ≤ 0 := by omega
    have hw : w64 (till - now) = till - now := w64_id (by omega) (by omega)
    simp only [h0, hle, decide_true, decide_false, cond_true, cond_false, hw]
    by_cases h1 : till - now < 100000
    · have a1 : ¬ till - now < 0 := by omega
      have a2 : ¬ 100000 < till - now := by omega
      simp [h1, a1, a2]
    · have a1 : ¬ till - now < 0 := by omega
      by_cases a2 : 100000 < till - now
      · simp [h1, a1, a2]
      · have : till - now = 100000 := by omega
        simp [this]
  · have hle : now ≤ 0 := by omega
    have hw : w64 (100000 + now) = 100000 + now := w64_id (by omega) (by omega)
    simp only [h0, hle, decide_true, decide_false, cond_true, cond_false, hw]
    by_cases h1 : till < 100000 + now
    · have hw2 : w64 (till - now) = till - now := w64_id (by omega) (by omega)
      have a1 : ¬ till - now < 0 := by omega
      have a2 : ¬ 100000 < till - now := by omega
      simp [h1, hw2, a1, a2]
    · simp [h1]
      rcases hd with hd | ⟨hd, h2, h3⟩
      · have a1 : ¬ till - now < 0 := by omega
        simp [hd, a1]
        intro h4
        omega
      · intro h4; omega
theorem ev_specLook {c : Cac} {now : Int} {q : Que} {rank : Int} (h : c.ok) (hb : c.bd) (hn : okI now) : Ev (fun k => spec_Look k c now q rank) (fun r => r = look now q rank c.l) := by
  have hlen := hb.1
  unfold spec_Look
  refine Ev.go (I := fun s : Int => ∃ j : Nat, s = j ∧ j ≤ c.l.length ∧ look now q rank (c.l.drop j) = look now q rank c.l) (μ := fun s => ((c.l.length : Int) - s).toNat) (F := fun _ => look now q rank [] = look now q rank c.l) ?_ (fun b hb => Ev.pure (P := fun r => r = look now q rank c.l) (r := look now q rank []) hb) ⟨0, rfl, by omega, by simp⟩
  rintro i ⟨j, rfl, hl, he⟩
  refine Ev.ite (fun h2 => ?_) (fun h2 => Ev.pure ?_)
  · have hlt : j < c.l.length := by omega
    have hx := List.getElem?_eq_getElem hlt
    generalize c.l[j] = e at hx
    have hmem := List.mem_of_getElem? hx
    have hek := h.l.2 e hmem
    have heb : e.l.length ≤ 1048576 := hb.2 e hmem
    rw [drop_cons hx] at he
    simp only [look] at he
    refine Ev.bind (ev_at (atI_nat hx)) ?_; rintro _ rfl
    refine Ev.bind (P := fun r => r = decide (lookHit now q rank e)) ?_ ?_
    · unfold lookHit
      refine Ev.ite (fun h3 => ?_) (fun h3 => Ev.pure (by simp [h3]))
      refine Ev.bind (Ev.pure (r := decide (now < e.till)) rfl) ?_
      rintro _ rfl
      exact Ev.ite (fun h4 => Ev.pure (by simp [h3, h4])) (fun h4 => Ev.pure (by simp [h4]))
    · rintro _ rfl
      refine Ev.ite (fun h3 => ?_) (fun h3 => Ev.pure ?_)
      · rw [if_pos h3] at he
        refine Ev.bind (P := fun r => r = e) ?_ ?_
        · refine Ev.bind (ev_l7Copy (by rw [lim_eq]; omega)) ?_
          rintro _ rfl
          exact Ev.pure rfl
        · rintro x18 hx18
          subst hx18
          obtain ⟨K, hK⟩ := (specTtl hn hek.till h3.2.1).eq
          have hK := hK K (Nat.le_refl _)
          obtain ⟨x20, g1, g2⟩ := bnd hK
          refine Ev.bind (Ev.const g1 (P := fun r => x20 = r) rfl) ?_
          rintro _ rfl
          refine Ev.bind (Ev.const g2 rfl) ?_
          rintro _ rfl
          refine Ev.bind (ev_specWithTtl heb) ?_
          rintro _ rfl
          exact Ev.pure he
      · rw [if_neg h3] at he
        refine ⟨⟨j + 1, ?_, by omega, he⟩, ?_⟩
        · rw [w64_id (by omega) (by omega)]; omega
        · rw [w64_id (by omega) (by omega)]; omega
  · have : j = c.l.length := by omega
    subst this
    rwa [List.drop_length] at he
theorem ev_implLook {c : Cac} {now : Int} {q : Que} {rank : Int} (h : c.ok) (hb : c.bd) (hn : okI now) : Ev (fun k => impl_Look k c now q rank) (fun r => r = look now q rank c.l) := by
  have hlen := hb.1
  unfold impl_Look
  refine Ev.go (I := fun s : Int => ∃ j : Nat, s = j ∧ j ≤ c.l.length ∧ look now q rank (c.l.drop j) = look now q rank c.l) (μ := fun s => ((c.l.length : Int) - s).toNat) (F := fun _ => look now q rank [] = look now q rank c.l) ?_ (fun b hb => Ev.pure (P := fun r => r = look now q rank c.l) (r := look now q rank []) hb) ⟨0, rfl, by omega, by simp⟩
  rintro i ⟨j, rfl, hl, he⟩
  refine Ev.ite (fun h2 => ?_) (fun h2 => Ev.pure ?_)
  · have hlt : j < c.l.length := by omega
    have hx := List.getElem?_eq_getElem hlt
    generalize c.l[j] = e at hx
    have hmem := List.mem_of_getElem? hx
    have hek := h.l.2 e hmem
    have heb : e.l.length ≤ 1048576 := hb.2 e hmem
    rw [drop_cons hx] at he
    simp only [look] at he
    refine Ev.bind (ev_at (atI_nat hx)) ?_; rintro _ rfl
    refine Ev.bind (P := fun r => r = !decide (lookHit now q rank e)) ?_ ?_
    · unfold lookHit
      refine Ev.nit (fun h3 => Ev.pure (by simp [h3])) (fun h3 => ?_)
      refine Ev.ite (fun h4 => Ev.pure ?_) (fun h4 => Ev.pure ?_)
      · have : ¬ rank ≤ e.rank := by omega
        simp [this]
      · have : rank ≤ e.rank := by omega
        by_cases h5 : now < e.till
        · have : ¬ e.till ≤ now := by omega
          simp [this, h3, *]
        · have : e.till ≤ now := by omega
          simp [this, h3, *]
    · rintro _ rfl
      refine Ev.nit (fun h3 => Ev.pure ?_) (fun h3 => ?_)
      · rw [if_neg h3] at he
        refine ⟨⟨j + 1, ?_, by omega, he⟩, ?_⟩
        · rw [w64_id (by omega) (by omega)]; omega
        · rw [w64_id (by omega) (by omega)]; omega
      · rw [if_pos h3] at he
        refine Ev.bind (P := fun r => r = (decide (w64 (e.till - now) < 0) || decide (100000 < w64 (e.till - now)))) ?_ ?_
        · exact Ev.ite (fun h4 => Ev.pure (by simp [h4])) (fun h4 => Ev.pure (by simp [h4]))
        · rintro _ rfl
          refine Ev.bind (P := fun r => r = lookTtl now e.till) ?_ ?_
          · unfold lookTtl
            by_cases h4 : w64 (e.till - now) < 0
            · simp [h4]; exact Ev.pure rfl
            · by_cases h5 : 100000 < w64 (e.till - now)
              · simp [h4, h5]; exact Ev.pure rfl
              · simp [h4, h5]; exact Ev.pure rfl
          · rintro _ rfl
            refine Ev.bind (ev_implWithTtl heb) ?_
            rintro _ rfl
            exact Ev.pure he
  · have : j = c.l.length := by omega
    subst this
    rwa [List.drop_length] at he
theorem look_bd {now : Int} {q : Que} {rank : Int} : ∀ {l : List Ent}, (∀ e ∈ l, e.bd) → (look now q rank l).1.bd
  | [], _ => by simp [look, Ent.bd]
  | e :: l, h => by
    unfold look
    split
    · have := h e (List.mem_cons_self ..)
      simpa [Ent.bd, ttls] using this
    · exact look_bd (fun e he => h e (List.mem_cons_of_mem _ he))
theorem sumBy_le {α : Type} {c d : α → Nat} : ∀ {xs : List α}, (∀ x ∈ xs, c x ≤ d x) → sumBy c xs ≤ sumBy d xs
  | [], _ => by simp [sumBy]
  | x :: xs, h => by
    have h1 := h x (List.mem_cons_self ..)
    have h2 := sumBy_le (xs := xs) (fun y hy => h y (List.mem_cons_of_mem _ hy))
    simp only [sumBy]; omega
theorem sumBy_bound {α : Type} {c : α → Nat} {m : Nat} : ∀ {xs : List α}, (∀ x ∈ xs, c x ≤ m) → sumBy c xs ≤ m * xs.length
  | [], _ => by simp [sumBy]
  | x :: xs, h => by
    have h1 := h x (List.mem_cons_self ..)
    have h2 := sumBy_bound (xs := xs) (fun y hy => h y (List.mem_cons_of_mem _ hy))
    simp only [sumBy, List.length_cons, Nat.mul_succ]; omega
theorem Ent.ct_bd {e : Ent} (h : e.bd) : e.ct ≤ 6291461 := by
  unfold Ent.bd at h
  have : sumBy Rec.ct e.l = 6 * e.l.length := sumBy_const (fun _ => rfl) _
  unfold Ent.ct; omega
theorem Cac.ct_bd {c : Cac} (h : c.bd) : sumBy Ent.ct c.l ≤ 6291461 * 1048576 := by
  have := sumBy_bound (c := Ent.ct) (m := 6291461) (xs := c.l) (fun e he => Ent.ct_bd (h.2 e he))
  have h1 := h.1
  exact Nat.le_trans this (Nat.mul_le_mul_left _ h1)
theorem plainLook {c : Cac} {now : Int} {q : Que} {rank : Int} (hc : c.ok) (hn : okI now) (hq : q.ok) (_ : okI rank) : ∃ k, laws_FnExactLook k c now q rank = some true := by
  suffices Ev (fun k => laws_FnExactLook k c now q rank) (fun r => r = true) by
    obtain ⟨K, h⟩ := this.eq
    exact ⟨K, h K (Nat.le_refl _)⟩
  unfold laws_FnExactLook
  refine Ev.bind (ev_szCache hc (by omega) (by omega)) ?_; rintro _ rfl
  refine Ev.ite (fun _ => Ev.pure rfl) (fun h1 => ?_)
  refine Ev.bind (ev_szQuest hq (by omega) (by have := less_range (l := 1048576) (n := c.sz) (by omega) (by omega); omega)) ?_; rintro _ rfl
  refine Ev.ite (fun _ => Ev.pure rfl) (fun h2 => ?_)
  have hb : c.bd := Cac.bd_sz (n := 1048576) (by unfold less at h1; split at h1 <;> omega) (by omega)
  have hlb : (look now q rank c.l).1.bd := look_bd hb.2
  have hct := Cac.ct_bd hb
  have hct2 : sumBy Rec.ct (look now q rank c.l).1.l = 6 * (look now q rank c.l).1.l.length := sumBy_const (fun _ => rfl) _
  have hlb2 : (look now q rank c.l).1.l.length ≤ 1048576 := hlb
  obtain ⟨K1, e1⟩ := (ev_toCache hb).eq
  obtain ⟨K2, e2⟩ := (ev_specLook (q := q) (rank := rank) hc hb hn).eq
  obtain ⟨K3, e3⟩ := (ev_implLook (q := q) (rank := rank) hc hb hn).eq
  obtain ⟨K4, e4⟩ := (ev_eqEntry (y := (look now q rank c.l).1) hlb).eq
  obtain ⟨K5, e5⟩ := (ev_eqCache (y := c) hb).eq
  obtain ⟨K6, e6⟩ := (ev_markCache (n := 1) hb (by omega) (by omega)).eq
  obtain ⟨K7, e7⟩ := (ev_markEntry (n := 1) hlb (by omega) (by omega)).eq
  generalize hr : look now q rank c.l = r at *
  obtain ⟨⟨⟨n1, n2⟩, n3, n4, n5, n6⟩, n7⟩ := r
  obtain ⟨K8, e8⟩ := (ev_heldEntry (n := 1) hlb (by omega) (by simp only at *; omega) (y := { q := { name := n1, ty := n2 }, kind := n3, l := mkS Rec.mk' Rec.ct 1 n4, rank := n5, till := n6 }) rfl).eq
  refine Ev.of (K := K1 + K2 + K3 + K4 + K5 + K6 + K7 + K8) rfl (fun k hk => ?_)
  have e1 := e1 k (by omega)
  have e2 := e2 k (by omega)
  have e3 := e3 k (by omega)
  have e4 := e4 k (by omega)
  have e5 := e5 k (by omega)
  have e6 := e6 k (by omega)
  have e7 := e7 k (by omega)
  have e8 := e8 k (by omega)
  have hneg : ¬ (1 + (sumBy Ent.ct c.l : Int) < 0) := by omega
  have hneg2 : ¬ (1 + (sumBy Rec.ct n4 : Int) < 0) := by omega
  simp only [e1, e2, e3, e4, e5, e6, e7, e8, laws_toQuest, Option.bind_some, decide_true, Bool.not_true, cond_false, cond_true, beq_self_eq_true, hneg, hneg2, decide_false]
end Go.Proofs.Ytcolndejambcmaa.Ew
