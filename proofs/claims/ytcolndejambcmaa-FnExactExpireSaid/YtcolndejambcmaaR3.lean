/- The steps of a walk over the state, third part: rows of the call's own. -/
import Derived.Test.YtcolndejambcmaaR2
namespace Go.Proofs.Ytcolndejambcmaa.Ew
open Go.RowKit Go.Proofs.YtcolndejambcmaaW.PrintWords Go.Proofs.YtcolndejambcmaaW.PrintLast
set_option linter.unusedVariables false
set_option linter.unusedSimpArgs false
section
variable {P : Program} {n : Nat} {Q : Exit → Env → World → Prop} {env : Env} {w : World} {ops : Array Oper} {rest : List Oper} {b w0 : World} {s0 : Nat → Prop} {L : List Atom} {α : Type} {d : K2 α} {v : Value} {xs : List α} {e : TypeId}
/-- The raw step of a store into a row's element. -/
theorem raw_store {t : TypeId} {p x : Operand} {ty : TypeId} {pos : String} {after : Array Edge} {css : List (List Value)} {cs : List Value} {i : Int} {j sz : Nat} {u : Value} {seg : List Value} {ad : Addr} (hp : ev env p = some (ptr ad j)) (hx : ev env x = some u) (hu : u.cells.toList = seg) (ht : (P.info? t).map (·.size) = some seg.length) (h1 : seg.all Value.oneCell' = true)
    (hr : Raw sz e w v css) (he : EA v i sz ad) (hc : css[i.toNat]? = some cs) (hj : j + seg.length ≤ sz)
    (k : ∀ w1 g, v.ownBlock = some g → Raw sz e w1 v (css.set i.toNat (cs.take j ++ seg ++ cs.drop (j + seg.length))) → Fr (fun k => k = g) w w1 → EL P n ops Q rest env w1) : EL P n ops Q (⟨none, .store t p x, ty, pos, after, none⟩ :: rest) env w := by
  have hlt : i.toNat < css.length := (List.getElem?_eq_some_iff.1 hc).1
  obtain ⟨g, cap, rfl, hg⟩ := hr.form (by omega)
  obtain ⟨A0, m, c, h2, h3, h4, rfl⟩ := he
  injection h2 with h2 h5 h6
  injection h2 with h2
  subst h2
  obtain ⟨ad, c', h7, _, _, _, h8⟩ := hr.at _ _ hc
  injection h7 with h7 _ _
  injection h7 with h7
  subst h7
  obtain ⟨hcl, hco⟩ := hr.elt cs (List.mem_of_getElem? hc)
  have h1' := List.all_eq_true.1 h1
  refine EL.sto (kRaw sz) (w0 := w) 0 e (g := g) (m := css.length) (cap := cap) (o' := i.toNat * sz + j) i j css (cs.take j ++ seg ++ cs.drop (j + seg.length)) u seg cs (fun _ => True) (fun _ => False) ?_ rfl hx hu ht h1' hr h3 (by omega) hcl (fun j' u' hu' => ?_) hj ⟨rfl, ?_, ?_⟩ (fun _ h => h.elim) (Below.refl _ _) (fun w1 hr1 hb1 hg1 => k w1 g rfl hr1 ⟨hb1.os, hb1.tape, hb1.output, hb1.size, fun k hk hn => hg1.block k hk (fun e => hn (Option.some.inj e))⟩)
  · rw [hp]
    show some (Value.pointer (some ((Addr.add ⟨g, 0, none⟩ (i.toNat * sz)).add j))) = _
    rw [add_add, add_plain]
  · have := h8.get hu'
    rw [add_add, add_plain] at this
    rwa [show i.toNat * sz + (0 + j') = i.toNat * (kRaw sz).sz + j' by show _ = i.toNat * sz + j'; omega] at this
  · simp [hcl]; omega
  · intro q hq
    simp only [List.mem_append] at hq
    rcases hq with (hq | hq) | hq
    · exact hco q (List.mem_of_mem_take hq)
    · exact h1' q hq
    · exact hco q (List.mem_of_mem_drop hq)
/-- A store into an element of an own row (its own memory stays). -/
theorem SL.sto (hS : St b w0 s0 L w) (i : Nat) (hi : nth L i = some (.row d e v xs)) {t : TypeId} {p x : Operand} {ty : TypeId} {pos : String} {after : Array Edge} {ix : Int} {j : Nat} {y : α} (y' : α) {u : Value} {ad : Addr} (hp : ev env p = some (ptr ad j)) (hx : ev env x = some u) (seg : List Value) (hu : u.cells.toList = seg) (ht : (P.info? t).map (·.size) = some seg.length) (h1 : seg.all Value.oneCell' = true)
    (he : EA v ix d.sz ad) (hat : atI xs ix = some y) (hj : j + seg.length ≤ d.sz) (hM : ∀ w s cs, d.M w s y cs → d.M w s y' (cs.take j ++ seg ++ cs.drop (j + seg.length)))
    (k : ∀ w, St b w0 s0 (upd L i (.row d e v (xs.set ix.toNat y'))) w → EL P n ops Q rest env w) : EL P n ops Q (⟨none, .store t p x, ty, pos, after, none⟩ :: rest) env w := by
  obtain ⟨h0, h2, h3⟩ := atI_some hat
  obtain ⟨s, hs, ⟨css, hr, ho, hn⟩, hre⟩ := hS.turnf hi
  obtain ⟨cs, hc⟩ := hn.get h3
  refine raw_store hp hx hu ht h1 hr he hc hj (fun w1 g hg hr1 hf => k w1 (hre w1 _ s (hf.sub (fun k (hk : k = g) => hk ▸ ho g hg)) (fun k hk => ⟨by have := hs k hk; have := hf.size; omega, Or.inl hk⟩) ?_))
  obtain ⟨t1, q1, q2, q3⟩ := hn.focus h3 hc
  refine ⟨_, hr1, ho, ?_⟩
  have hgb : ∀ k, s k ∧ some k ≠ v.ownBlock → w1.heap[k]? = w.heap[k]? := fun k hk => hf.block k (hs k hk.1) (fun e => hk.2 (e ▸ hg.symm))
  have hM1 := hM _ _ _ (d.M_loc (fun k hk => hgb k (q1 k hk)) q2)
  refine (q3 w1 y' _ t1 (fun k hk _ => hgb k hk) (fun k hk h => h.2 hk) hM1).sub (fun k hk => hk.elim (fun h => h.1) (q1 k))
/-- A whole element of an own row is written, with what it owns. -/
theorem SL.stov (hS : St b w0 s0 L w) (i l : Nat) {y' : α} {seg : List Value} (hi : nth L i = some (.row d e v xs)) (hl : nth L l = some (.val d seg y')) (hil : i ≠ l) {t : TypeId} {p x : Operand} {ty : TypeId} {pos : String} {after : Array Edge} {ix : Int} {y : α} {u : Value} {ad : Addr} (hp : ev env p = some (ptr ad 0)) (hx : ev env x = some u) (hu : u.cells.toList = seg) (ht : (P.info? t).map (·.size) = some d.sz)
    (he : EA v ix d.sz ad) (hat : atI xs ix = some y)
    (k : ∀ w, St b w0 s0 (upd (upd L l .emp) i (.row d e v (xs.set ix.toNat y'))) w → EL P n ops Q rest env w) : EL P n ops Q (⟨none, .store t p x, ty, pos, after, none⟩ :: rest) env w := by
  obtain ⟨h0, h2, h3⟩ := atI_some hat
  obtain ⟨s, s2, hs, hs2, hd, ⟨css, hr, ho, hn⟩, hv, hre⟩ := hS.turn2f hi hl hil
  have hv : d.M w s2 y' seg := hv
  obtain ⟨cs, hc⟩ := hn.get h3
  have hsl : seg.length = d.sz := d.K_len (d.M_K hv)
  have h1 : seg.all Value.oneCell' = true := List.all_eq_true.2 (d.M_one hv)
  have hcl := (hr.elt cs (List.mem_of_getElem? hc)).1
  refine raw_store (seg := seg) hp hx hu (by rw [hsl]; exact ht) h1 hr he hc (by omega) (fun w1 g hg hr1 hf => ?_)
  have e1 : cs.take 0 ++ seg ++ cs.drop (0 + seg.length) = seg := by simp; omega
  rw [e1] at hr1
  refine k w1 (hre w1 _ (fun k => s k ∨ s2 k) (hf.sub (fun k (hk : k = g) => Or.inl (hk ▸ ho g hg))) (fun k hk => ⟨by have := hk.elim (hs k) (hs2 k); have := hf.size; omega, Or.inl hk⟩) ?_)
  obtain ⟨t1, q1, q2, q3⟩ := hn.focus h3 hc
  have hgb : ∀ k, s k ∧ some k ≠ v.ownBlock → w1.heap[k]? = w.heap[k]? := fun k hk => hf.block k (hs k hk.1) (fun e => hk.2 (e ▸ hg.symm))
  have hg2 : ∀ k, s2 k → some k ≠ v.ownBlock := fun k hk e => hd k (ho k e.symm) hk
  refine ⟨_, hr1, fun k hk => Or.inl (ho k hk), ?_⟩
  refine (q3 w1 y' seg s2 (fun k hk _ => hgb k hk) (fun k hk h => hd k h.1.1 hk) (d.M_loc (fun k hk => hf.block k (hs2 k hk) (fun e => hg2 k hk (e ▸ hg.symm))) hv)).sub (fun k hk => hk.elim (fun h => ⟨Or.inl h.1.1, h.1.2⟩) (fun h => ⟨Or.inr h, hg2 k h⟩))
end
end Go.Proofs.Ytcolndejambcmaa.Ew
