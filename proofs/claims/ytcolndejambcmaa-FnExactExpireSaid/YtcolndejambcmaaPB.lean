/- Plain law: entries and caches measured, copied, compared, marked. -/
import Derived.Test.YtcolndejambcmaaPA
namespace Go.Proofs.Ytcolndejambcmaa.Ew
open Go.RowKit Go.Proofs.YtcolndejambcmaaW.PrintWords Go.Proofs.YtcolndejambcmaaW.PrintLast
set_option linter.unusedVariables false
set_option linter.unusedSimpArgs false
def Ent.sz (x : Ent) : Nat := x.q.sz + (szL Rec.sz x.l + 0)
def Cac.sz (x : Cac) : Nat := szL Ent.sz x.l + 0
theorem Ev.szz {l : Int} (h0 : 0 ≤ l) : Ev (fun _ => some l) (fun r => r = less l 0) := Ev.pure (less_zero h0).symm
theorem ev_szEntry {x : Ent} {l : Int} (hx : x.ok) (h0 : 0 ≤ l) (h1 : l ≤ 4611686018427387904) : Ev (fun k => laws_szEntry k x l) (fun r => r = less l x.sz) :=
  Ev.szb h0 h1 (ev_szQuest hx.q h0 h1) (fun l h0 h1 => Ev.szb h0 h1 (ev_szRecordS hx.l h0 h1) (fun l h0 h1 => Ev.szz h0))
theorem ev_szEntryS {xs : List Ent} {l : Int} (hx : okL Ent.ok xs) (h0 : 0 ≤ l) (h1 : l ≤ 4611686018427387904) : Ev (fun k => laws_szEntryS k xs l) (fun r => r = less l (szL Ent.sz xs)) :=
  ev_szS (f := laws_szEntry) (fun x h l h0 h1 => ev_szEntry (hx.2 x h) h0 h1) (body := fun k => laws_szEntryS_b1 k xs) (fun _ _ _ => rfl) (fun _ => rfl) hx.1 h0 h1
theorem ev_szCache {x : Cac} {l : Int} (hx : x.ok) (h0 : 0 ≤ l) (h1 : l ≤ 4611686018427387904) : Ev (fun k => laws_szCache k x l) (fun r => r = less l x.sz) :=
  Ev.szb h0 h1 (ev_szEntryS hx.l h0 h1) (fun l h0 h1 => Ev.szz h0)
/-! ### bounded: all lists short -/
def Ent.bd (x : Ent) : Prop := x.l.length ≤ 1048576
def Cac.bd (x : Cac) : Prop := x.l.length ≤ 1048576 ∧ ∀ e ∈ x.l, e.bd
theorem Ent.bd_sz {x : Ent} {n : Nat} (h : x.sz ≤ n) (hn : n ≤ 1048576) : x.bd := by
  unfold Ent.sz szL at h; unfold Ent.bd; omega
theorem Cac.bd_sz {x : Cac} {n : Nat} (h : x.sz ≤ n) (hn : n ≤ 1048576) : x.bd := by
  unfold Cac.sz szL at h
  refine ⟨by omega, fun e he => ?_⟩
  have := sumBy_mem (S := Ent.sz) he
  exact Ent.bd_sz (n := n) (by omega) hn
theorem lim_eq : lim = 4294967296 := rfl
theorem ev_toEntry {x : Ent} (h : x.bd) : Ev (fun k => laws_toEntry k x) (fun r => r = x) := by
  unfold Ent.bd at h
  refine Ev.bind (Ev.pure (r := x.q) (P := fun r => r = x.q) rfl) ?_
  rintro _ rfl
  refine Ev.bind (ev_toRecordS (by rw [lim_eq]; omega)) ?_
  rintro _ rfl
  exact Ev.pure rfl
theorem ev_toEntryS {xs : List Ent} (h : xs.length ≤ 1048576) (hb : ∀ e ∈ xs, e.bd) : Ev (fun k => laws_toEntryS k xs) (fun r => r = xs) :=
  ev_toS (f := laws_toEntry) (fun x hx => ev_toEntry (hb x hx)) (body := fun k => laws_toEntryS_b1 k xs) (fun _ _ _ => rfl) (fun _ => rfl) (by rw [lim_eq]; omega)
theorem ev_toCache {x : Cac} (h : x.bd) : Ev (fun k => laws_toCache k x) (fun r => r = x) := by
  refine Ev.bind (ev_toEntryS h.1 h.2) ?_
  rintro _ rfl
  exact Ev.pure rfl
theorem ev_eqEntry {x y : Ent} (h : x.bd) : Ev (fun k => laws_eqEntry k x y) (fun r => r = decide (x = y)) :=
  (Ev.eqb ev_eqQuest (Ev.eqc (Ev.eqb (ev_eqRecordS (by unfold Ent.bd at h; omega)) (Ev.eqc (Ev.eqc Ev.eqn))))).eqi (by cases x; cases y; simp)
theorem ev_eqEntryS {xs ys : List Ent} (h : xs.length ≤ 1048576) (hb : ∀ e ∈ xs, e.bd) : Ev (fun k => laws_eqEntryS k xs ys) (fun r => r = decide (xs = ys)) :=
  ev_eqS (f := laws_eqEntry) (fun x hx _ _ => ev_eqEntry (hb x hx)) (body := fun k => laws_eqEntryS_b1 k xs ys) (fun _ _ => rfl) (fun _ => rfl) (by omega)
theorem ev_eqCache {x y : Cac} (h : x.bd) : Ev (fun k => laws_eqCache k x y) (fun r => r = decide (x = y)) :=
  (Ev.eqc (Ev.eqb (ev_eqEntryS h.1 h.2) Ev.eqn)).eqi (by cases x; cases y; simp)
/-! ### marks -/
theorem sumBy_const {α : Type} {c : α → Nat} {m : Nat} (h : ∀ x, c x = m) (xs : List α) : sumBy c xs = m * xs.length := by
  induction xs with
  | nil => simp [sumBy]
  | cons x xs ih => simp [sumBy, h, ih]; rw [Nat.mul_add]; omega
noncomputable def Ent.mk' (n : Int) (x : Ent) : Ent := { q := { name := mt n, ty := n + 1 }, kind := n + 2, l := mkS Rec.mk' Rec.ct (n + 3) x.l, rank := n + 3 + sumBy Rec.ct x.l, till := n + 3 + sumBy Rec.ct x.l + 1 }
def Ent.ct (x : Ent) : Nat := 5 + sumBy Rec.ct x.l
theorem ev_markEntryS {xs : List Ent} {n : Int} (hn : xs.length ≤ 4611686018427387904) (hb : ∀ e ∈ xs, e.bd) (h0 : 0 ≤ n) (h1 : n + sumBy Ent.ct xs ≤ 4611686018427387904) :
    Ev (fun k => laws_markEntryS k xs n) (fun r => r = (n + sumBy Ent.ct xs, mkS Ent.mk' Ent.ct n xs)) := by
  refine ev_markS (body := laws_markEntryS_b1) ?_ (fun k a p i h => by rw [laws_markEntryS_b1, decide_eq_false h]; rfl) (fun _ => rfl) hn h0 h1
  intro a j x p hx hat hp0 hp1
  have hxb : x.l.length ≤ 1048576 := hb x (List.mem_of_getElem? hx)
  have hp1 : p + ((5 + sumBy Rec.ct x.l : Nat) : Int) ≤ 4611686018427387904 := hp1
  have hlt := (atI_some hat).2.1
  simp only [laws_markEntryS_b1, decide_eq_true hlt, cond_true]
  have e1 := w64_1 hp0 (by omega)
  have e2 := w64_1 (n := p + 1) (by omega) (by omega)
  have e3 := w64_1 (n := p + 1 + 1) (by omega) (by omega)
  have e4 := w64_1 (n := p + 1 + 1 + 1 + sumBy Rec.ct x.l) (by omega) (by omega)
  have e5 := w64_1 (n := p + 1 + 1 + 1 + sumBy Rec.ct x.l + 1) (by omega) (by omega)
  simp only [e1, e2, e3]
  refine Ev.bind (ev_markText hp0 (by omega)) ?_; rintro _ rfl
  refine Ev.bind (ev_at hat) ?_; rintro _ rfl
  refine Ev.bind (ev_at (atI_set hat)) ?_; rintro _ rfl
  simp only [List.set_set]
  refine Ev.bind (ev_at (atI_set hat)) ?_; rintro _ rfl
  refine Ev.bind (ev_at (atI_set hat)) ?_; rintro _ rfl
  refine Ev.bind (ev_markRecordS (xs := x.l) (by omega) (by omega) (by omega)) ?_; rintro _ rfl
  simp only [e4, e5]
  refine Ev.bind (ev_at (atI_set hat)) ?_; rintro _ rfl
  refine Ev.bind (ev_at (atI_set hat)) ?_; rintro _ rfl
  refine Ev.pure ?_
  have g1 : p + 1 + 1 = p + 2 := by omega
  have g2 : p + 2 + 1 = p + 3 := by omega
  simp only [Ent.mk', Ent.ct, g1, g2, Int.toNat_natCast]
  have g3 : p + 3 + (sumBy Rec.ct x.l : Int) + 1 + 1 = p + ((5 + sumBy Rec.ct x.l : Nat) : Int) := by omega
  rw [g3]
theorem ev_markCache {x : Cac} {n : Int} (h : x.bd) (h0 : 0 ≤ n) (h1 : n + sumBy Ent.ct x.l ≤ 4611686018427387904) : Ev (fun k => laws_markCache k x n) (fun r => r = (n + sumBy Ent.ct x.l, { x with l := mkS Ent.mk' Ent.ct n x.l })) := by
  refine Ev.bind (ev_markEntryS (by have := h.1; omega) h.2 h0 h1) ?_
  rintro _ rfl
  exact Ev.pure rfl
theorem ev_markEntry {x : Ent} {n : Int} (h : x.bd) (h0 : 0 ≤ n) (h1 : n + sumBy Rec.ct x.l ≤ 4611686018427387904) : Ev (fun k => laws_markEntry k x n) (fun r => r = (n + sumBy Rec.ct x.l, { x with l := mkS Rec.mk' Rec.ct n x.l })) := by
  refine Ev.bind (ev_markRecordS (by unfold Ent.bd at h; omega) h0 h1) ?_
  rintro _ rfl
  exact Ev.pure rfl
theorem ev_heldEntry {x : Ent} {n : Int} (h : x.bd) (h0 : 0 ≤ n) (h1 : n + sumBy Rec.ct x.l ≤ 4611686018427387904) {y : Ent} (hy : y.l = mkS Rec.mk' Rec.ct n x.l) : Ev (fun k => laws_heldEntry k y n) (fun r => r = n + sumBy Rec.ct x.l) := by
  unfold laws_heldEntry
  rw [hy]
  refine Ev.bind (ev_heldRecordS (by unfold Ent.bd at h; omega) h0 h1) ?_
  rintro _ rfl
  exact Ev.ite (fun h => by omega) (fun _ => Ev.pure rfl)
theorem sumBy_le {α : Type} {c d : α → Nat} : ∀ {xs : List α}, (∀ x ∈ xs, c x ≤ d x) → sumBy c xs ≤ sumBy d xs
  | [], _ => by simp [sumBy]
  | x :: xs, h => by
    have h1 := h x (List.mem_cons_self ..)
    have h2 := sumBy_le (xs := xs) (fun y hy => h y (List.mem_cons_of_mem _ hy))
    simp only [sumBy]; omega
theorem sumBy_bound {α : Type} {c : α → Nat} {m : Nat} : ∀ {xs : List α}, (∀ x ∈ xs, c x ≤ m) → sumBy c xs ≤ m * xs.length
  | [], _ => by simp [sumBy]
  | x :: xs, h => by
    have h1 := h x (List.mem_cons_self ..)
    have h2 := sumBy_bound (xs := xs) (fun y hy => h y (List.mem_cons_of_mem _ hy))
    simp only [sumBy, List.length_cons, Nat.mul_succ]; omega
theorem Ent.ct_bd {e : Ent} (h : e.bd) : e.ct ≤ 6291461 := by
  unfold Ent.bd at h
  have : sumBy Rec.ct e.l = 6 * e.l.length := sumBy_const (fun _ => rfl) _
  unfold Ent.ct; omega
theorem Cac.ct_bd {c : Cac} (h : c.bd) : sumBy Ent.ct c.l ≤ 6291461 * 1048576 := by
  have := sumBy_bound (c := Ent.ct) (m := 6291461) (xs := c.l) (fun e he => Ent.ct_bd (h.2 e he))
  have h1 := h.1
  exact Nat.le_trans this (Nat.mul_le_mul_left _ h1)
end Go.Proofs.Ytcolndejambcmaa.Ew
