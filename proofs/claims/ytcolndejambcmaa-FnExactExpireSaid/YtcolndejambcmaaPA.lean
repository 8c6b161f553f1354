/- Plain law: records and questions measured, copied, compared, marked. -/
import Derived.Test.YtcolndejambcmaaP
import Derived.Test.YtcolndejambcmaaF
namespace Go.Proofs.Ytcolndejambcmaa.Ew
open Go.RowKit Go.Proofs.YtcolndejambcmaaW.PrintWords Go.Proofs.YtcolndejambcmaaW.PrintLast
set_option linter.unusedVariables false
set_option linter.unusedSimpArgs false
/-! ### what a value may be -/
def okS (s : Str) : Prop := s.length ≤ 9223372036854775807
def okL {α : Type} (p : α → Prop) (xs : List α) : Prop := xs.length ≤ 9223372036854775807 ∧ ∀ x ∈ xs, p x
structure Rec.ok (x : Rec) : Prop where
  name : okS x.name
  ty : okI x.ty
  ttl : okI x.ttl
  num : okI x.num
  host : okS x.host
  text : okS x.text
structure Que.ok (x : Que) : Prop where
  name : okS x.name
  ty : okI x.ty
structure Ent.ok (x : Ent) : Prop where
  q : x.q.ok
  kind : okI x.kind
  l : okL Rec.ok x.l
  rank : okI x.rank
  till : okI x.till
structure Cac.ok (x : Cac) : Prop where
  cap : okI x.cap
  l : okL Ent.ok x.l
def Rec.sz (x : Rec) : Nat := x.name.length + (x.host.length + x.text.length)
def Que.sz (x : Que) : Nat := x.name.length
/-! ### budgets -/
theorem less_zero {l : Int} (h : 0 ≤ l) : less l 0 = l := by unfold less; rw [if_neg (by omega)]; simp
theorem sz_neg {l : Int} {n m : Nat} (h : l - (n : Int) < 0) : less l (n + m) = -1 := by unfold less; rw [if_pos (by omega)]
theorem sz_pos {l : Int} {n m : Nat} (h : ¬ l - (n : Int) < 0) : less l (n + m) = less (l - n) m := by unfold less; split <;> split <;> omega
theorem Ev.szb {f : Nat → Option Int} {g : Nat → Int → Option Int} {l : Int} {n m : Nat} (h0 : 0 ≤ l) (h1 : l ≤ 4611686018427387904) (h : Ev f (fun r => r = less l n)) (hk : ∀ l', 0 ≤ l' → l' ≤ 4611686018427387904 → Ev (fun k => g k l') (fun r => r = less l' m)) :
    Ev (fun k => (f k).bind (fun x1 => bif decide (x1 < 0) then some (-1) else g k x1)) (fun r => r = less l (n + m)) := by
  refine h.bind ?_
  rintro _ rfl
  refine Ev.ite (fun h2 => Ev.pure (less_neg h2).symm) (fun h2 => ?_)
  have := less_range (n := n) h0 h1
  refine (hk (less l n) (by omega) (by omega)).mono ?_
  rintro _ rfl
  exact less_less (by omega)
theorem Ev.szd {g : Nat → Int → Option Int} {l : Int} {n m : Nat} (h0 : 0 ≤ l) (h1 : l ≤ 4611686018427387904) (hn : n ≤ 9223372036854775807) (hk : ∀ l', 0 ≤ l' → l' ≤ 4611686018427387904 → Ev (fun k => g k l') (fun r => r = less l' m)) {f : Nat → Option Int}
    (hf : ∀ k, f k = bif decide (w64 (l - (n : Int)) < 0) then some (-1) else g k (w64 (l - (n : Int)))) : Ev f (fun r => r = less l (n + m)) := by
  refine Ev.cast ?_ hf
  rw [less_w h0 h1 hn]
  refine Ev.ite (fun h => Ev.pure (sz_neg h).symm) (fun h => ?_)
  rw [sz_pos h]
  exact hk _ (by omega) (by omega)
theorem ev_szQuest {x : Que} {l : Int} (hx : x.ok) (h0 : 0 ≤ l) (h1 : l ≤ 4611686018427387904) : Ev (fun _ => laws_szQuest x l) (fun r => r = less l x.sz) :=
  Ev.szd (n := x.name.length) (m := 0) (g := fun _ l => some l) h0 h1 hx.name (fun l h0 h1 => Ev.pure (less_zero h0).symm) (fun _ => rfl)
theorem ev_szRecord {x : Rec} {l : Int} (hx : x.ok) (h0 : 0 ≤ l) (h1 : l ≤ 4611686018427387904) : Ev (fun _ => laws_szRecord x l) (fun r => r = less l x.sz) :=
  Ev.szd h0 h1 hx.name (fun l h0 h1 => Ev.szd h0 h1 hx.host (fun l h0 h1 => Ev.szd (m := 0) h0 h1 hx.text (fun l h0 h1 => Ev.pure (less_zero h0).symm) (fun _ => rfl)) (fun _ => rfl)) (fun _ => rfl)
theorem ev_szRecordS {xs : List Rec} {l : Int} (hx : okL Rec.ok xs) (h0 : 0 ≤ l) (h1 : l ≤ 4611686018427387904) : Ev (fun k => laws_szRecordS k xs l) (fun r => r = less l (szL Rec.sz xs)) :=
  ev_szS (f := fun _ => laws_szRecord) (fun x h l h0 h1 => ev_szRecord (hx.2 x h) h0 h1) (body := fun _ => laws_szRecordS_b1 xs) (fun _ _ _ => rfl) (fun _ => rfl) hx.1 h0 h1
/-! ### copies -/
theorem ev_toRecordS {xs : List Rec} (h : xs.length ≤ lim) : Ev (fun k => laws_toRecordS k xs) (fun r => r = xs) :=
  ev_toS (f := fun _ => laws_toRecord) (fun x _ => Ev.pure rfl) (body := fun _ => laws_toRecordS_b1 xs) (fun _ _ _ => rfl) (fun _ => rfl) h
/-! ### comparisons -/
theorem Ev.eqc {p q : Prop} [Decidable p] [Decidable q] {f : Nat → Option Bool} (h : Ev f (fun r => r = decide q)) : Ev (fun k => bif !decide p then some false else f k) (fun r => r = decide (p ∧ q)) := by
  refine Ev.nit (fun hp => Ev.pure ?_) (fun hp => h.mono ?_)
  · simp [hp]
  · rintro _ rfl; simp [hp]
theorem Ev.eqb {p q : Prop} [Decidable p] [Decidable q] {g f : Nat → Option Bool} (hg : Ev g (fun r => r = decide p)) (h : Ev f (fun r => r = decide q)) : Ev (fun k => (g k).bind (fun x1 => bif !x1 then some false else f k)) (fun r => r = decide (p ∧ q)) := by
  refine hg.bind ?_
  rintro _ rfl
  exact Ev.eqc h
theorem Ev.eqn : Ev (fun _ => some true) (fun r => r = decide True) := Ev.pure rfl
theorem Ev.eqi {p q : Prop} [Decidable p] [Decidable q] {f : Nat → Option Bool} (h : Ev f (fun r => r = decide p)) (hpq : p ↔ q) : Ev f (fun r => r = decide q) := h.mono (by rintro _ rfl; simp [hpq])
theorem ev_eqQuest {x y : Que} : Ev (fun _ => laws_eqQuest x y) (fun r => r = decide (x = y)) :=
  (Ev.eqc (Ev.eqc Ev.eqn)).eqi (by cases x; cases y; simp)
theorem ev_eqRecord {x y : Rec} : Ev (fun _ => laws_eqRecord x y) (fun r => r = decide (x = y)) :=
  (Ev.eqc (Ev.eqc (Ev.eqc (Ev.eqc (Ev.eqc (Ev.eqc Ev.eqn)))))).eqi (by cases x; cases y; simp)
theorem ev_eqRecordS {xs ys : List Rec} (h : xs.length ≤ 4611686018427387904) : Ev (fun k => laws_eqRecordS k xs ys) (fun r => r = decide (xs = ys)) :=
  ev_eqS (f := fun _ => laws_eqRecord) (fun _ _ _ _ => ev_eqRecord) (body := fun _ => laws_eqRecordS_b1 xs ys) (fun _ _ => rfl) (fun _ => rfl) h
/-! ### marks -/
theorem ev_markText_ex {n : Int} (h0 : 0 ≤ n) (h1 : n ≤ 4611686018427387903) : ∃ r, Ev (fun k => laws_markText k n) (fun x => x = r) := by
  suffices Ev (fun k => laws_markText k n) (fun _ => True) by
    obtain ⟨K, r, _, h⟩ := this
    exact ⟨r, K, r, rfl, h⟩
  unfold laws_markText
  refine Ev.ite (fun _ => Ev.pure trivial) (fun h2 => ?_)
  refine Ev.go (I := fun s : Int × Str => 0 ≤ s.1 ∧ s.1 + s.2.length ≤ n) (μ := fun s => s.1.toNat) (F := fun b : Str => b.length ≤ n) ?_ ?_ ⟨h0, by simp⟩
  · rintro ⟨x, a⟩ ⟨h3, h4⟩
    simp only at h3 h4
    refine Ev.ite (fun h5 => ?_) (fun h5 => Ev.pure ?_)
    · refine Ev.bind (Ev.const (catS_ok (by simp; omega)) rfl) ?_
      rintro _ rfl
      have e : Int.tdiv x 10 = x / 10 := Int.tdiv_eq_ediv_of_nonneg h3
      refine Ev.pure ⟨⟨?_, ?_⟩, ?_⟩
      · show 0 ≤ w64 (Int.tdiv x 10)
        rw [e, w64_id (by omega) (by omega)]; omega
      · show w64 (Int.tdiv x 10) + ((_ :: a).length : Int) ≤ n
        rw [e, w64_id (by omega) (by omega), List.length_cons]; omega
      · show (w64 (Int.tdiv x 10)).toNat < x.toNat
        rw [e, w64_id (by omega) (by omega)]; omega
    · show (a.length : Int) ≤ n
      omega
  · intro b hb
    exact Ev.bind (Ev.const (catS_ok (by simp; omega)) rfl) (fun x hx => Ev.pure trivial)
open Classical in
/-- A mark's text. -/
noncomputable def mt (n : Int) : Str := if h : ∃ r, Ev (fun k => laws_markText k n) (fun x => x = r) then Classical.choose h else []
theorem ev_markText {n : Int} (h0 : 0 ≤ n) (h1 : n ≤ 4611686018427387903) : Ev (fun k => laws_markText k n) (fun x => x = mt n) := by
  have h := ev_markText_ex h0 h1
  unfold mt
  rw [dif_pos h]
  exact Classical.choose_spec h
noncomputable def Rec.mk' (n : Int) (x : Rec) : Rec := { name := mt n, ty := n + 1, ttl := n + 2, num := n + 3, host := mt (n + 4), text := mt (n + 5) }
def Rec.ct (x : Rec) : Nat := 6
theorem w64_up {n : Int} {m : Nat} (h0 : 0 ≤ n) (h1 : n ≤ 4611686018427387904) (hm : m ≤ 100) : w64 (n + (m : Int)) = n + m := w64_id (by omega) (by omega)
theorem w64_1 {n : Int} (h0 : 0 ≤ n) (h1 : n ≤ 4611686018427388000) : w64 (n + 1) = n + 1 := w64_id (by omega) (by omega)
theorem ev_at {α : Type} {xs : List α} {i : Int} {x : α} (h : atI xs i = some x) : Ev (fun _ => atI xs i) (fun y => x = y) := Ev.const h rfl
theorem ev_markRecordS {xs : List Rec} {n : Int} (hn : xs.length ≤ 4611686018427387904) (h0 : 0 ≤ n) (h1 : n + sumBy Rec.ct xs ≤ 4611686018427387904) :
    Ev (fun k => laws_markRecordS k xs n) (fun r => r = (n + sumBy Rec.ct xs, mkS Rec.mk' Rec.ct n xs)) := by
  refine ev_markS (body := laws_markRecordS_b1) ?_ (fun k a p i h => by simp [laws_markRecordS_b1, h]) (fun _ => rfl) hn h0 h1
  intro a j x p _ hat hp0 hp1
  have hp1 : p + 6 ≤ 4611686018427387904 := hp1
  have hlt := (atI_some hat).2.1
  simp only [laws_markRecordS_b1, decide_eq_true hlt, cond_true]
  have e1 := w64_1 hp0 (by omega)
  have e2 := w64_1 (n := p + 1) (by omega) (by omega)
  have e3 := w64_1 (n := p + 1 + 1) (by omega) (by omega)
  have e4 := w64_1 (n := p + 1 + 1 + 1) (by omega) (by omega)
  have e5 := w64_1 (n := p + 1 + 1 + 1 + 1) (by omega) (by omega)
  have e6 := w64_1 (n := p + 1 + 1 + 1 + 1 + 1) (by omega) (by omega)
  simp only [e1, e2, e3, e4, e5, e6]
  refine Ev.bind (ev_markText hp0 (by omega)) ?_; rintro _ rfl
  refine Ev.bind (ev_at hat) ?_; rintro _ rfl
  refine Ev.bind (ev_at (atI_set hat)) ?_; rintro _ rfl
  simp only [List.set_set]
  refine Ev.bind (ev_at (atI_set hat)) ?_; rintro _ rfl
  refine Ev.bind (ev_at (atI_set hat)) ?_; rintro _ rfl
  refine Ev.bind (ev_markText (by omega) (by omega)) ?_; rintro _ rfl
  refine Ev.bind (ev_at (atI_set hat)) ?_; rintro _ rfl
  refine Ev.bind (ev_markText (by omega) (by omega)) ?_; rintro _ rfl
  refine Ev.bind (ev_at (atI_set hat)) ?_; rintro _ rfl
  refine Ev.pure ?_
  simp only [Rec.mk', Rec.ct]
  simp only [Int.add_assoc, Int.toNat_natCast]
  rfl
theorem ev_heldRecordS {xs : List Rec} {n : Int} (hn : xs.length ≤ 4611686018427387904) (h0 : 0 ≤ n) (h1 : n + sumBy Rec.ct xs ≤ 4611686018427387904) :
    Ev (fun k => laws_heldRecordS k (mkS Rec.mk' Rec.ct n xs) n) (fun r => r = n + sumBy Rec.ct xs) := by
  refine ev_heldS (m := Rec.mk') (c := Rec.ct) (body := fun k => laws_heldRecordS_b1 k (mkS Rec.mk' Rec.ct n xs)) ?_ (fun k p i h => by rw [laws_heldRecordS_b1, decide_eq_false h]; rfl) (fun _ => rfl) hn h0 h1
  intro j x p _ hat hp0 hp1
  have hp1 : p + 6 ≤ 4611686018427387904 := hp1
  have hlt := (atI_some hat).2.1
  simp only [laws_heldRecordS_b1, decide_eq_true hlt, cond_true]
  have e1 := w64_1 hp0 (by omega)
  have e2 := w64_1 (n := p + 1) (by omega) (by omega)
  have e3 := w64_1 (n := p + 1 + 1) (by omega) (by omega)
  have e4 := w64_1 (n := p + 1 + 1 + 1) (by omega) (by omega)
  have e5 := w64_1 (n := p + 1 + 1 + 1 + 1) (by omega) (by omega)
  have e6 := w64_1 (n := p + 1 + 1 + 1 + 1 + 1) (by omega) (by omega)
  simp only [e1, e2, e3, e4, e5, e6, hat, Option.bind_some]
  refine Ev.bind (ev_markText hp0 (by omega)) ?_; rintro _ rfl
  have f1 : (Rec.mk' p x).name = mt p := rfl
  have f2 : (Rec.mk' p x).ty = p + 1 := rfl
  have f3 : (Rec.mk' p x).ttl = p + 1 + 1 := by show p + 2 = _; omega
  have f4 : (Rec.mk' p x).num = p + 1 + 1 + 1 := by show p + 3 = _; omega
  simp only [f1, f2, f3, f4, decide_true, Bool.not_true, cond_false]
  refine Ev.bind (ev_markText (by omega) (by omega)) ?_; rintro _ rfl
  have f5 : (Rec.mk' p x).host = mt (p + 1 + 1 + 1 + 1) := by show mt (p + 4) = _; simp only [Int.add_assoc]; rfl
  have f6 : (Rec.mk' p x).text = mt (p + 1 + 1 + 1 + 1 + 1) := by show mt (p + 5) = _; simp only [Int.add_assoc]; rfl
  simp only [f5, decide_true, Bool.not_true, cond_false]
  refine Ev.bind (ev_markText (by omega) (by omega)) ?_; rintro _ rfl
  simp only [f6, decide_true, Bool.not_true, cond_false]
  refine Ev.pure ?_
  simp only [Int.add_assoc]
  rfl
end Go.Proofs.Ytcolndejambcmaa.Ew
