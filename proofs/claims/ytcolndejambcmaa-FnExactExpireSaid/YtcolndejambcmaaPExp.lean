/- Plain law: Expire. -/
import Derived.Test.YtcolndejambcmaaPC
namespace Go.Proofs.Ytcolndejambcmaa.Ew
open Go.RowKit Go.Proofs.YtcolndejambcmaaW.PrintWords Go.Proofs.YtcolndejambcmaaW.PrintLast
set_option linter.unusedVariables false
set_option linter.unusedSimpArgs false
theorem ev_l15Entry {e : Ent} (h : e.bd) : Ev (fun _ => spec_l15Entry e) (fun r => r = e) := by
  unfold Ent.bd at h
  refine Ev.bind (P := fun r => r = e.l) ?_ ?_
  · refine Ev.bind (Ev.const (apL_ok (xs := []) (by rw [lim_eq]; simp; omega)) rfl) ?_
    rintro _ rfl
    exact Ev.pure rfl
  · rintro _ rfl
    exact Ev.pure rfl
theorem ev_copyEntry {e : Ent} (h : e.bd) : Ev (fun _ => impl_copyEntry e) (fun r => r = e) := by
  unfold Ent.bd at h
  refine Ev.bind (Ev.const (r := e.l) (P := fun r => r = e.l) (apL_ok (xs := []) (by rw [lim_eq]; simp; omega)) rfl) ?_
  rintro _ rfl
  exact Ev.pure rfl
theorem ev_copyCache {c : Cac} (hb : c.bd) : Ev (fun k => impl_copyCache k c) (fun r => r = c) := by
  have hlen := hb.1
  unfold impl_copyCache
  refine Ev.forL (xs := c.l) (I := fun j a => a = c.l.take j) (F := fun b => b = c.l) (body := fun _ => impl_copyCache_b1 c) ?_ ?_ (fun b hb => by subst hb; exact Ev.pure rfl) (by simp)
  · rintro j x _ hx hlt rfl
    have hxb := hb.2 x (List.mem_of_getElem? hx)
    refine Ev.lt hlt ?_
    refine Ev.bind (ev_at (atI_nat hx)) ?_; rintro _ rfl
    refine Ev.bind (P := fun r => r = c.l.take j ++ [x]) ?_ ?_
    · refine Ev.bind (ev_copyEntry hxb) ?_; rintro _ rfl
      refine Ev.bind (Ev.const (apL_ok (by rw [lim_eq]; simp; omega)) rfl) ?_; rintro _ rfl
      exact Ev.pure rfl
    · rintro _ rfl
      exact Ev.pure ⟨w64_nat (by omega), (take_snoc hx).symm⟩
  · rintro _ rfl
    exact Ev.nl (Ev.pure (by simp))
def lives (now : Int) (e : Ent) : Bool := decide (now < e.till)
theorem ev_specExpire {c : Cac} {now : Int} (hb : c.bd) : Ev (fun k => spec_Expire k c now) (fun r => r = { c with l := c.l.filter (lives now) }) := by
  have hlen := hb.1
  unfold spec_Expire
  refine Ev.forL (xs := c.l) (I := fun j a => a = (c.l.take j).filter (lives now)) (F := fun b => b = c.l.filter (lives now)) (body := fun _ => spec_Expire_b1 c now) ?_ ?_ (fun b hb => by subst hb; exact Ev.pure rfl) (by simp)
  · rintro j x _ hx hlt rfl
    have hxb := hb.2 x (List.mem_of_getElem? hx)
    refine Ev.lt hlt ?_
    refine Ev.bind (ev_at (atI_nat hx)) ?_; rintro _ rfl
    refine Ev.bind (Ev.pure (r := lives now x) (P := fun r => r = lives now x) rfl) ?_; rintro _ rfl
    refine Ev.cond (fun h => ?_) (fun h => Ev.pure ⟨w64_nat (by omega), ?_⟩)
    · refine Ev.bind (ev_at (atI_nat hx)) ?_; rintro _ rfl
      refine Ev.bind (ev_l15Entry hxb) ?_; rintro _ rfl
      have hfl : ((c.l.take j).filter (lives now)).length ≤ j := Nat.le_trans (List.length_filter_le _ _) (by simp; omega)
      refine Ev.bind (Ev.const (apL_ok (by rw [lim_eq]; simp; omega)) rfl) ?_; rintro _ rfl
      refine Ev.pure ⟨w64_nat (by omega), ?_⟩
      rw [take_snoc hx, List.filter_append]
      simp [h]
    · rw [take_snoc hx, List.filter_append]
      simp [h]
  · rintro _ rfl
    exact Ev.nl (Ev.pure (by simp))
theorem ev_IndexEntry {xs : List Ent} {f : Ent → Bool} {p : Ent → Option Bool} (hp : ∀ x, p x = some (f x)) (hn : xs.length ≤ 1048576) : Ev (fun k => slices_IndexFunc_Entry k xs p) (fun i => (i = -1 ∧ ∀ x ∈ xs, f x = false) ∨ ∃ (j : Nat) (x : Ent), i = j ∧ j < xs.length ∧ xs[j]? = some x ∧ f x = true ∧ ∀ y ∈ xs.take j, f y = false) := by
  unfold slices_IndexFunc_Entry
  refine Ev.forI (xs := xs) (I := fun j => ∀ x ∈ xs.take j, f x = false) (F := fun _ => ∀ x ∈ xs, f x = false) (body := fun _ => slices_IndexFunc_Entry_b1 xs p) ?_ ?_ (fun b hb => Ev.pure (Or.inl ⟨rfl, hb⟩)) (by simp)
  · intro j x hx hlt hI
    refine Ev.lt hlt ?_
    refine Ev.bind (ev_at (atI_nat hx)) ?_; rintro _ rfl
    refine Ev.bind (Ev.const (hp x) rfl) ?_; rintro _ rfl
    refine Ev.cond (fun h => Ev.pure ?_) (fun h => Ev.pure ⟨w64_nat (by omega), ?_⟩)
    · exact Or.inr ⟨j, x, rfl, hlt, hx, h, hI⟩
    · rw [take_snoc hx]
      intro y hy
      rcases List.mem_append.1 hy with hy | hy
      · exact hI y hy
      · simp at hy; subst hy; exact h
  · intro hI
    rw [List.take_length] at hI
    exact Ev.nl (Ev.pure hI)
theorem filter_none {α : Type} {f : α → Bool} {xs : List α} (h : ∀ x ∈ xs, f x = false) : xs.filter (fun x => !f x) = xs := List.filter_eq_self.2 (fun x hx => by simp [h x hx])
theorem ev_DeleteEntry {xs : List Ent} {f : Ent → Bool} {p : Ent → Option Bool} (hp : ∀ x, p x = some (f x)) (hn : xs.length ≤ 1048576) : Ev (fun k => slices_DeleteFunc_Entry k xs p) (fun r => r = xs.filter (fun x => !f x)) := by
  refine Ev.bind (ev_IndexEntry hp hn) ?_
  rintro i (⟨rfl, h⟩ | ⟨j, x, rfl, hlt, hx, hfx, h⟩)
  · exact Ev.pure (filter_none h).symm
  · refine Ev.ite (fun h => by omega) (fun _ => ?_)
    refine Ev.chk (by omega) ?_
    have e1 : w64 ((j : Int) + 1) = ((j + 1 : Nat) : Int) := w64_nat (by omega)
    simp only [e1, Int.toNat_natCast]
    refine Ev.go (g := fun _ x => some x) (I := fun s : List Ent × Int => ∃ q : Nat, s.2 = q ∧ q ≤ xs.length ∧ s.1 = (xs.take q).filter (fun x => !f x)) (μ := fun s => ((xs.length : Int) - s.2).toNat) (F := fun b => b = xs.filter (fun x => !f x)) ?_ (fun b hb => Ev.pure hb) ⟨j + 1, rfl, by omega, ?_⟩
    · rintro ⟨a, i⟩ ⟨q, hq, hl, ha⟩
      simp only at hq ha
      subst hq; subst ha
      refine Ev.ite (fun h2 => ?_) (fun h2 => Ev.pure ?_)
      · obtain ⟨y, hy⟩ : ∃ y, xs[q]? = some y := ⟨xs[q]'(by omega), List.getElem?_eq_getElem _⟩
        refine Ev.bind (ev_at (atI_nat hy)) ?_; rintro _ rfl
        refine Ev.bind (Ev.const (hp y) rfl) ?_; rintro _ rfl
        refine Ev.pure ⟨⟨q + 1, w64_nat (by omega), by omega, ?_⟩, ?_⟩
        · rw [take_snoc hy, List.filter_append]
          cases hfy : f y <;> simp [hfy]
        · show ((xs.length : Int) - w64 ((q : Int) + 1)).toNat < ((xs.length : Int) - (q : Int)).toNat
          rw [w64_nat (by omega)]; omega
      · show (xs.take q).filter (fun x => !f x) = _
        rw [List.take_of_length_le (by omega)]
    · show xs.take j = _
      rw [take_snoc hx, List.filter_append, filter_none h]
      simp [hfx]
theorem ev_implExpire {c : Cac} {now : Int} (hb : c.bd) : Ev (fun k => impl_Expire k c now) (fun r => r = { c with l := c.l.filter (lives now) }) := by
  refine Ev.bind (ev_copyCache hb) ?_; rintro _ rfl
  refine Ev.bind (ev_DeleteEntry (f := fun x => decide (x.till ≤ now)) (fun x => rfl) hb.1) ?_; rintro _ rfl
  refine Ev.pure ?_
  congr 1
  apply List.filter_congr
  intro x _
  unfold lives
  by_cases h : now < x.till
  · have : ¬ x.till ≤ now := by omega
    simp [h]
  · have : x.till ≤ now := by omega
    simp [h, this]
theorem filter_bd {c : Cac} {p : Ent → Bool} (hb : c.bd) : ({ c with l := c.l.filter p } : Cac).bd :=
  ⟨Nat.le_trans (List.length_filter_le _ _) hb.1, fun e he => hb.2 e (List.mem_filter.1 he).1⟩
theorem plainExpire {c : Cac} {now : Int} (hc : c.ok) (_ : okI now) : ∃ k, laws_FnExactExpire k c now = some true := by
  suffices Ev (fun k => laws_FnExactExpire k c now) (fun r => r = true) by
    obtain ⟨K, h⟩ := this.eq
    exact ⟨K, h K (Nat.le_refl _)⟩
  unfold laws_FnExactExpire
  refine Ev.bind (ev_szCache hc (by omega) (by omega)) ?_; rintro _ rfl
  refine Ev.ite (fun _ => Ev.pure rfl) (fun h1 => ?_)
  have hb : c.bd := Cac.bd_sz (n := 1048576) (by unfold less at h1; split at h1 <;> omega) (by omega)
  have hfb := filter_bd (p := lives now) hb
  have hct := Cac.ct_bd hb
  have hct2 := Cac.ct_bd hfb
  generalize hr : ({ c with l := c.l.filter (lives now) } : Cac) = r at *
  obtain ⟨K1, e1⟩ := (ev_toCache hb).eq
  obtain ⟨K2, e2⟩ := (ev_specExpire (now := now) hb).eq
  obtain ⟨K3, e3⟩ := (ev_implExpire (now := now) hb).eq
  rw [hr] at e2 e3
  obtain ⟨K4, e4⟩ := (ev_eqCache (y := r) hfb).eq
  obtain ⟨K5, e5⟩ := (ev_eqCache (y := c) hb).eq
  obtain ⟨K6, e6⟩ := (ev_markCache (n := 1) hb (by omega) (by omega)).eq
  obtain ⟨K7, e7⟩ := (ev_markCache (n := 1) hfb (by omega) (by omega)).eq
  obtain ⟨K8, e8⟩ := (ev_heldCache (n := 1) hfb (by omega) (by omega) (y := { cap := r.cap, l := mkS Ent.mk' Ent.ct 1 r.l }) rfl).eq
  refine Ev.of (K := K1 + K2 + K3 + K4 + K5 + K6 + K7 + K8) rfl (fun k hk => ?_)
  have e1 := e1 k (by omega)
  have e2 := e2 k (by omega)
  have e3 := e3 k (by omega)
  have e4 := e4 k (by omega)
  have e5 := e5 k (by omega)
  have e6 := e6 k (by omega)
  have e7 := e7 k (by omega)
  have e8 := e8 k (by omega)
  have hneg : ¬ (1 + (sumBy Ent.ct c.l : Int) < 0) := by omega
  have hneg2 : ¬ (1 + (sumBy Ent.ct r.l : Int) < 0) := by omega
  simp only [e1, e2, e3, e4, e5, e6, e7, e8, Option.bind_some, decide_true, Bool.not_true, cond_false, cond_true, beq_self_eq_true, hneg, hneg2, decide_false]
end Go.Proofs.Ytcolndejambcmaa.Ew
