/- The steps of a walk over the state, fourth part: append, make, literals, conversions, calls. -/
import Derived.Test.YtcolndejambcmaaR3
import Derived.Lib.ConvBytes
namespace Go.Proofs.Ytcolndejambcmaa.Ew
open Go.RowKit Go.Proofs.YtcolndejambcmaaW.PrintWords Go.Proofs.YtcolndejambcmaaW.PrintLast
set_option linter.unusedVariables false
set_option linter.unusedSimpArgs false
section
variable {P : Program} {n : Nat} {Q : Exit → Env → World → Prop} {env : Env} {w : World} {ops : Array Oper} {rest : List Oper} {b w0 : World} {s0 : Nat → Prop} {L : List Atom} {α : Type} {d : K2 α} {v : Value} {xs : List α} {e : TypeId}
theorem St.sv {b w0 w : World} {s0 : Nat → Prop} {L : List Atom} {α : Type} {d : K2 α} {e : TypeId} {v : Value} {xs : List α} (h : St b w0 s0 L w) (i : Nat) (hi : nth L i = some (.row d e v xs)) : ∃ u : Sv, v = sl u := by
  obtain ⟨A, c, h1, _⟩ := h.rd hi
  exact ⟨(A, xs.length, c), h1⟩
theorem nth_upd_self {L : List Atom} {i : Nat} {a c : Atom} (h : nth L i = some a) : nth (upd L i c) i = some c := by rw [nth_upd, if_pos rfl, h]; rfl
theorem nth_upd_ne {L : List Atom} {i j : Nat} {c : Atom} (h : i ≠ j) : nth (upd L j c) i = nth L i := by rw [nth_upd, if_neg h]
theorem nth_app_last (L : List Atom) (a : Atom) : nth (app L [a]) L.length = some a := by rw [nth_app, if_neg (Nat.lt_irrefl _), Nat.sub_self]; rfl
theorem raw_app {sz : Nat} {s x : Operand} {t ty : TypeId} {D : Nat} {pos : String} {after : Array Edge} {z : Value} {bytes : Nat} (ht : P.underlying t = some (.slice e)) (hinfo : (P.info? e).map (fun i => (i.zero, i.size, i.bytes)) = some (some z, sz, bytes)) (hz : z.cells.size = sz) (hs0 : 0 < sz) (hb0 : 0 < bytes) (hby : bytes ≤ 32768)
    {css dss : List (List Value)} {A : Option Addr} {m c : Nat} (hs : ev env s = some v) (hx : ev env x = some (.slice A m c)) (hr : Raw sz e w v css) (hd : ReadsRow ((kRaw sz).K w) sz w A m dss) (hl : css.length + dss.length ≤ lim) (hn : D < n)
    (k : ∀ v1 w1, Raw sz e w1 v1 (css ++ dss) → Fr (fun k => some k = v.ownBlock) w w1 → (v1.ownBlock = v.ownBlock ∨ ∃ g, v1.ownBlock = some g ∧ w.heap.size ≤ g) → EL P n ops Q rest ((D, v1) :: env) w1) : EL P n ops Q (⟨some D, .call { callee := .builtin .append, args := #[s, x], argTypes := #[t, t] }, ty, pos, after, none⟩ :: rest) env w := by
  have hm : dss.length = m := hd.1
  refine EL.apps (kRaw sz) (w0 := w) 0 ht hinfo hz hs0 hb0 (fun _ => True) (fun _ => False) hs hx hr hd (fun _ _ h => h) (fun _ h => h.elim) (fun _ _ => trivial) (Below.refl _ _) (Nat.zero_le _) ?_ hn (fun v1 w1 h1 h2 h3 h4 => k v1 w1 h1 (Fr.grown h3) h4)
  have : (css.length + m) * bytes ≤ lim * 32768 := Nat.mul_le_mul (by omega) hby
  unfold lim at this
  omega
/-- 'append(s, x...)', x an own row (a literal): it goes into s. -/
theorem SL.app2 (hS : St b w0 s0 L w) (i j : Nat) {ys zs : List α} {v2 : Value} (hi : nth L i = some (.row d e v xs)) (hj : nth L j = some (.row d e v2 ys)) (hij : i ≠ j) {s x : Operand} {t ty : TypeId} {D : Nat} {pos : String} {after : Array Edge} {z : Value} {bytes : Nat} (hs : ev env s = some v) (hx : ev env x = some v2) (ht : P.underlying t = some (.slice e)) (hinfo : (P.info? e).map (fun i => (i.zero, i.size, i.bytes)) = some (some z, d.sz, bytes)) (hz : z.cells.size = d.sz) (hs0 : 0 < d.sz) (hb0 : 0 < bytes) (hby : bytes ≤ 32768)
    (hap : apL xs ys = some zs) (hn : D < n)
    (k : ∀ (v1 : Sv) w, St b w0 s0 (upd (upd L j .emp) i (.row d e (sl v1) zs)) w → EL P n ops Q rest ((D, sl v1) :: env) w) : EL P n ops Q (⟨some D, .call { callee := .builtin .append, args := #[s, x], argTypes := #[t, t] }, ty, pos, after, none⟩ :: rest) env w := by
  obtain ⟨hl, rfl⟩ := apL_some hap
  obtain ⟨s1, s2, hs1, hs2, hd, ⟨css, hr, ho, hN⟩, ⟨dss, hr2, ho2, hN2⟩, hre⟩ := hS.turn2f hi hj hij
  have g1 := hN.len
  have g2 := hN2.len
  obtain ⟨A, c, hv2, _, hC⟩ := Kd.R_reads hr2
  subst hv2
  refine raw_app ht hinfo hz hs0 hb0 hby hs hx hr hC (by omega) hn (fun v1 w1 h1 hf hown => ?_)
  suffices hfin : St b w0 s0 (upd (upd L j .emp) i (.row d e v1 (xs ++ ys))) w1 by
    obtain ⟨u, rfl⟩ := hfin.sv i (nth_upd_self ((nth_upd_ne hij).trans hi))
    exact k u w1 hfin
  have hsz2 := hf.size
  have hne : ∀ k, some k = v.ownBlock → ¬ s2 k := fun k hk hk' => hd k (ho k hk.symm) hk'
  have hne2 : ∀ k, k < w.heap.size → some k ≠ v.ownBlock → some k ≠ v1.ownBlock := by
    intro k hk hk'
    rcases hown with h | ⟨g, h, hg⟩
    · rw [h]; exact hk'
    · rw [h]; intro e; injection e with e; omega
  refine hre w1 _ (fun k => (s1 k ∨ s2 k) ∨ (w.heap.size ≤ k ∧ k < w1.heap.size)) (hf.sub (fun k (hk : some k = v.ownBlock) => Or.inl (ho k hk.symm))) (fun k hk => ?_) ⟨css ++ dss, h1, fun k hk => ?_, ?_⟩
  · rcases hk with (hk | hk) | hk
    · have := hs1 k hk; exact ⟨by omega, Or.inl (Or.inl hk)⟩
    · have := hs2 k hk; exact ⟨by omega, Or.inl (Or.inr hk)⟩
    · exact ⟨hk.2, Or.inr hk.1⟩
  · have hlt : k < w1.heap.size := by obtain ⟨_, inner, ho', _⟩ := h1; exact own_lt ho' k hk
    rcases hown with h | ⟨g, h, hg⟩
    · exact Or.inl (Or.inl (ho k (by rw [← h]; exact hk)))
    · rw [h] at hk; injection hk with hk
      exact Or.inr ⟨by omega, hlt⟩
  · refine Nest.app (s1 := fun k => s1 k ∧ some k ≠ v.ownBlock) (s2 := s2) (fun k hk => ⟨⟨Or.inl (Or.inl hk.1), hne2 k (hs1 k hk.1) hk.2⟩, hd k hk.1⟩) (fun k hk => ⟨Or.inl (Or.inr hk), hne2 k (hs2 k hk) (fun h => hne k h hk)⟩) ?_ ?_
    · exact hN.loc (fun k hk => hf.block k (hs1 k hk.1) hk.2)
    · exact (hN2.loc (fun k hk => hf.block k (hs2 k hk.1) (fun h => hne k h hk.1))).sub (fun k hk => hk.1)
/-- What is read as raw cells. -/
theorem K2.C.raw {ys : List α} {A : Option Addr} {m c : Nat} (hc : d.C w (.slice A m c) ys) (h1 : ∀ x cs, d.K w x cs → ∀ u ∈ cs, u.oneCell' = true) : ∃ dss, ReadsRow ((kRaw d.sz).K w) d.sz w A m dss ∧ dss.length = ys.length ∧ ∀ (i : Nat) (x : α) (cs : List Value), ys[i]? = some x → dss[i]? = some cs → d.K w x cs := by
  obtain ⟨A', c', h2, h3, h4, h5⟩ := hc
  injection h2 with h2 h6 h7
  subst h2; subst h6
  have hch : ∀ i : Fin ys.length, ∃ cs, ∃ ad, A = some ad ∧ d.K w ys[i] cs ∧ CellsAt w (ad.add (i * d.sz)) 0 cs := fun i => by
    obtain ⟨ad, cs, g1, g2, g3⟩ := h5 i ys[i] (by simp)
    exact ⟨cs, ad, g1, g2, g3⟩
  obtain ⟨F, hF⟩ := Classical.axiomOfChoice hch
  refine ⟨List.ofFn F, ⟨by simp, by omega, fun hpos => ?_⟩, by simp, fun i x cs hx hcs => ?_⟩
  · obtain ⟨ad, g1, _, _⟩ := hF ⟨0, by omega⟩
    refine ⟨ad, g1, fun j p hp => ?_⟩
    obtain ⟨hj, rfl⟩ := List.getElem?_eq_some_iff.1 hp
    have hj' : j < ys.length := by simpa using hj
    obtain ⟨ad', g2, g3, g4⟩ := hF ⟨j, hj'⟩
    rw [g1] at g2
    injection g2 with g2
    subst g2
    simp only [List.getElem_ofFn]
    refine ⟨_, d.K_len g3, ⟨rfl, d.K_len g3, h1 _ _ g3⟩, fun l u hu => ?_⟩
    have := g4.get hu
    rw [add_add] at this
    rwa [Nat.zero_add] at this
  · obtain ⟨hj, rfl⟩ := List.getElem?_eq_some_iff.1 hcs
    have hj' : i < ys.length := by simpa using hj
    obtain ⟨hj2, rfl⟩ := List.getElem?_eq_some_iff.1 hx
    obtain ⟨ad', g2, g3, g4⟩ := hF ⟨i, hj'⟩
    simpa using g3
theorem nest_flat {w : World} (h : ∀ x cs, d.K w x cs → d.M w (fun _ => False) x cs) : ∀ {ys : List α} {dss : List (List Value)} {s : Nat → Prop}, dss.length = ys.length → (∀ (i : Nat) (x : α) (cs : List Value), ys[i]? = some x → dss[i]? = some cs → d.K w x cs) → Nest d w s ys dss
  | [], [], _, _, _ => trivial
  | [], _ :: _, _, hl, _ => by simp at hl
  | _ :: _, [], _, hl, _ => by simp at hl
  | y :: ys, c :: dss, s, hl, hk => ⟨fun _ => False, fun _ => False, fun _ h => h.elim, fun _ h => h.elim, h _ _ (hk 0 y c rfl rfl), nest_flat h (by simpa using hl) (fun i x cs hx hc => hk (i + 1) x cs (by simpa using hx) (by simpa using hc))⟩
/-- A kind without slices: what is read is as good as owned. -/
def K2.flat (d : K2 α) : Prop := ∀ w x cs, d.K w x cs → (∀ u ∈ cs, u.oneCell' = true) ∧ ∀ w1 s, d.M w1 s x cs
/-- 'append(s, x...)', x is read. -/
theorem SL.apr (hS : St b w0 s0 L w) (i : Nat) {ys zs : List α} {v2 : Value} (hi : nth L i = some (.row d e v xs)) (hfl : d.flat) (hc : d.C w v2 ys) {s x : Operand} {t ty : TypeId} {D : Nat} {pos : String} {after : Array Edge} {z : Value} {bytes : Nat} (hs : ev env s = some v) (hx : ev env x = some v2) (ht : P.underlying t = some (.slice e)) (hinfo : (P.info? e).map (fun i => (i.zero, i.size, i.bytes)) = some (some z, d.sz, bytes)) (hz : z.cells.size = d.sz) (hs0 : 0 < d.sz) (hb0 : 0 < bytes) (hby : bytes ≤ 32768)
    (hap : apL xs ys = some zs) (hn : D < n)
    (k : ∀ (v1 : Sv) w, St b w0 s0 (upd L i (.row d e (sl v1) zs)) w → EL P n ops Q rest ((D, sl v1) :: env) w) : EL P n ops Q (⟨some D, .call { callee := .builtin .append, args := #[s, x], argTypes := #[t, t] }, ty, pos, after, none⟩ :: rest) env w := by
  obtain ⟨hl, rfl⟩ := apL_some hap
  have hc' := hc
  obtain ⟨A, c, rfl, _, _, _⟩ := hc'
  obtain ⟨dss, hd, hdl, hdk⟩ := hc.raw (fun x cs hk => (hfl _ _ _ hk).1)
  obtain ⟨s1, hs1, ⟨css, hr, ho, hN⟩, hre⟩ := hS.turnf hi
  have g1 := hN.len
  refine raw_app ht hinfo hz hs0 hb0 hby hs hx hr hd (by omega) hn (fun v1 w1 h1 hf hown => ?_)
  suffices hfin : St b w0 s0 (upd L i (.row d e v1 (xs ++ ys))) w1 by
    obtain ⟨u, rfl⟩ := hfin.sv i (nth_upd_self hi)
    exact k u w1 hfin
  have hsz2 := hf.size
  have hne2 : ∀ k, k < w.heap.size → some k ≠ v.ownBlock → some k ≠ v1.ownBlock := by
    intro k hk hk'
    rcases hown with h | ⟨g, h, hg⟩
    · rw [h]; exact hk'
    · rw [h]; intro e; injection e with e; omega
  refine hre w1 _ (fun k => s1 k ∨ (w.heap.size ≤ k ∧ k < w1.heap.size)) (hf.sub (fun k (hk : some k = v.ownBlock) => ho k hk.symm)) (fun k hk => ?_) ⟨css ++ dss, h1, fun k hk => ?_, ?_⟩
  · rcases hk with hk | hk
    · have := hs1 k hk; exact ⟨by omega, Or.inl hk⟩
    · exact ⟨hk.2, Or.inr hk.1⟩
  · have hlt : k < w1.heap.size := by obtain ⟨_, inner, ho', _⟩ := h1; exact own_lt ho' k hk
    rcases hown with h | ⟨g, h, hg⟩
    · exact Or.inl (ho k (by rw [← h]; exact hk))
    · rw [h] at hk; injection hk with hk
      exact Or.inr ⟨by omega, hlt⟩
  · refine Nest.app (s1 := fun k => s1 k ∧ some k ≠ v.ownBlock) (s2 := fun _ => False) (fun k hk => ⟨⟨Or.inl hk.1, hne2 k (hs1 k hk.1) hk.2⟩, fun h => h⟩) (fun k hk => hk.elim) ?_ ?_
    · exact hN.loc (fun k hk => hf.block k (hs1 k hk.1) hk.2)
    · exact nest_flat (fun x cs hk => (hfl _ _ _ hk).2 _ _) hdl (fun i x cs hx hc => d.K_agr (w := w1) (b := w1) (Agr.rfl' _) ((hfl _ _ _ (hdk i x cs hx hc)).2 w1 (fun _ => False) |> fun h => d.K_agr (agr_only _ _) (d.M_K h)))
end
end Go.Proofs.Ytcolndejambcmaa.Ew
