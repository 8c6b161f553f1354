/- Plain law: entries and caches whose marks are held. -/
import Derived.Test.YtcolndejambcmaaPB
namespace Go.Proofs.Ytcolndejambcmaa.Ew
open Go.RowKit Go.Proofs.YtcolndejambcmaaW.PrintWords Go.Proofs.YtcolndejambcmaaW.PrintLast
set_option linter.unusedVariables false
set_option linter.unusedSimpArgs false
theorem ev_heldEntryS {xs : List Ent} {n : Int} (hn : xs.length ≤ 4611686018427387904) (hb : ∀ e ∈ xs, e.bd) (h0 : 0 ≤ n) (h1 : n + sumBy Ent.ct xs ≤ 4611686018427387904) :
    Ev (fun k => laws_heldEntryS k (mkS Ent.mk' Ent.ct n xs) n) (fun r => r = n + sumBy Ent.ct xs) := by
  refine ev_heldS (m := Ent.mk') (c := Ent.ct) (body := fun k => laws_heldEntryS_b1 k (mkS Ent.mk' Ent.ct n xs)) ?_ (fun k p i h => by rw [laws_heldEntryS_b1, decide_eq_false h]; rfl) (fun _ => rfl) hn h0 h1
  intro j x p hx hat hp0 hp1
  have hxb : x.l.length ≤ 1048576 := hb x (List.mem_of_getElem? hx)
  have hp1 : p + ((5 + sumBy Rec.ct x.l : Nat) : Int) ≤ 4611686018427387904 := hp1
  have hlt := (atI_some hat).2.1
  simp only [laws_heldEntryS_b1, decide_eq_true hlt, cond_true]
  have e1 := w64_1 hp0 (by omega)
  have g1 : p + 1 + 1 = p + 2 := by omega
  have g2 : p + 2 + 1 = p + 3 := by omega
  have e2 := w64_1 (n := p + 1) (by omega) (by omega)
  rw [g1] at e2
  have e3 := w64_1 (n := p + 2) (by omega) (by omega)
  rw [g2] at e3
  have e4 := w64_1 (n := p + 3 + sumBy Rec.ct x.l) (by omega) (by omega)
  have e5 := w64_1 (n := p + 3 + sumBy Rec.ct x.l + 1) (by omega) (by omega)
  simp only [e1, e2, e3, hat, Option.bind_some, g1, g2]
  refine Ev.bind (ev_markText hp0 (by omega)) ?_; rintro _ rfl
  have f1 : (Ent.mk' p x).q.name = mt p := rfl
  have f2 : (Ent.mk' p x).q.ty = p + 1 := rfl
  have f3 : (Ent.mk' p x).kind = p + 2 := rfl
  have f4 : (Ent.mk' p x).l = mkS Rec.mk' Rec.ct (p + 3) x.l := rfl
  have f5 : (Ent.mk' p x).rank = p + 3 + sumBy Rec.ct x.l := rfl
  have f6 : (Ent.mk' p x).till = p + 3 + sumBy Rec.ct x.l + 1 := rfl
  simp only [f1, f2, f3, f4, decide_true, Bool.not_true, cond_false]
  refine Ev.bind (ev_heldRecordS (xs := x.l) (by omega) (by omega) (by omega)) ?_; rintro _ rfl
  refine Ev.ite (fun h => by omega) (fun _ => ?_)
  simp only [e4, e5, f5, f6, decide_true, Bool.not_true, cond_false]
  refine Ev.pure ?_
  have g3 : p + 3 + (sumBy Rec.ct x.l : Int) + 1 + 1 = p + (x.ct : Int) := by show _ = p + ((5 + sumBy Rec.ct x.l : Nat) : Int); omega
  rw [g3]
theorem ev_heldCache {x y : Cac} {n : Int} (h : x.bd) (h0 : 0 ≤ n) (h1 : n + sumBy Ent.ct x.l ≤ 4611686018427387904) (hy : y.l = mkS Ent.mk' Ent.ct n x.l) : Ev (fun k => laws_heldCache k y n) (fun r => r = n + sumBy Ent.ct x.l) := by
  unfold laws_heldCache
  rw [hy]
  refine Ev.bind (ev_heldEntryS (by have := h.1; omega) h.2 h0 h1) ?_
  rintro _ rfl
  exact Ev.ite (fun h => by omega) (fun _ => Ev.pure rfl)
end Go.Proofs.Ytcolndejambcmaa.Ew
