/- Rows of the call's own taken apart into their raw cells and what these own, and put together again; a row's head; 'clear'. -/
import Derived.Test.YtcolndejambcmaaR9
namespace Go.Proofs.Ytcolndejambcmaa.Ew
open Go.RowKit Go.Proofs.YtcolndejambcmaaW.PrintWords Go.Proofs.YtcolndejambcmaaW.PrintLast
set_option linter.unusedVariables false
set_option linter.unusedSimpArgs false
theorem wid {x : Int} (h : -9223372036854775808 ≤ x) (h' : x ≤ 9223372036854775807) : w64 x = x := by
  simp [w64, IntKind.wrap, IntKind.bits, IntKind.signed]
  omega
theorem atI_get {α : Type} {xs : List α} {i : Nat} (h : i < xs.length) : atI xs (i : Int) = some xs[i] := by simp [atI, h]
/-- Cells as they are. -/
def kRaw2 (n : Nat) : K2 (List Value) where
  sz := n
  K := fun _ x cs => cs = x ∧ x.length = n ∧ ∀ u ∈ x, u.oneCell' = true
  M := fun _ _ x cs => cs = x ∧ x.length = n ∧ ∀ u ∈ x, u.oneCell' = true
  K_len := fun ⟨h, h1, _⟩ => by rw [h, h1]
  K_agr := fun _ h => h
  M_one := fun ⟨h, _, h2⟩ u hu => h2 u (h ▸ hu)
  M_loc := fun _ h => h
  M_sub := fun _ h => h
  M_lt := fun h => h
  M_K := fun h => h
theorem kRaw2_flat (n : Nat) : (kRaw2 n).flat := fun w x cs ⟨h, h1, h2⟩ => ⟨fun u hu => h2 u (h ▸ hu), fun _ _ => ⟨h, h1, h2⟩⟩
/-- What a row's elements own, the cells told. -/
def kAll {α : Type} (d : K2 α) (css : List (List Value)) : K2 (List α) where
  sz := css.flatten.length
  K := fun w xs cs => cs = css.flatten ∧ xs.length = css.length ∧ ∀ (i : Nat) (x : α) (c : List Value), xs[i]? = some x → css[i]? = some c → d.K w x c
  M := fun w s xs cs => cs = css.flatten ∧ (∀ c ∈ css, ∀ u ∈ c, u.oneCell' = true) ∧ Nest d w s xs css
  K_len := fun ⟨h, _⟩ => by rw [h]
  K_agr := fun hb ⟨h, h1, h2⟩ => ⟨h, h1, fun i x c hx hc => d.K_agr hb (h2 i x c hx hc)⟩
  M_one := fun ⟨h, h1, _⟩ u hu => by
    rw [h] at hu
    obtain ⟨c, hc, hu⟩ := List.mem_flatten.1 hu
    exact h1 c hc u hu
  M_loc := fun hl ⟨h, h1, h2⟩ => ⟨h, h1, h2.loc hl⟩
  M_sub := fun hl ⟨h, h1, h2⟩ => ⟨h, h1, h2.sub hl⟩
  M_lt := fun ⟨h, h1, h2⟩ => ⟨h, h1, h2.lt⟩
  M_K := fun ⟨h, h1, h2⟩ => ⟨h, h2.len, fun i x c hx hc => by
    obtain ⟨s1, g1, g2, _⟩ := h2.focus hx hc
    exact d.K_agr (agr_only_sub fun k hk => g1 k hk) (d.M_K g2)⟩
section
variable {α : Type} {d : K2 α} {e : TypeId} {w w1 : World} {s : Nat → Prop} {v : Value} {xs : List α} {n : Nat} {css : List (List Value)}
theorem Raw.row (h : Raw n e w v css) (hs : ∀ k, v.ownBlock = some k → s k) : Row (kRaw2 n) e w s v css := by
  refine ⟨css, h, hs, ?_⟩
  have : ∀ (l : List (List Value)) (t : Nat → Prop), (∀ c ∈ l, c.length = n ∧ ∀ u ∈ c, u.oneCell' = true) → Nest (kRaw2 n) w t l l := by
    intro l
    induction l with
    | nil => intro t _; trivial
    | cons c l ih => intro t h; exact ⟨nob, t, fun _ h => h.elim, fun _ h => h, ⟨rfl, h c (List.mem_cons_self ..)⟩, ih t (fun c hc => h c (List.mem_cons_of_mem _ hc))⟩
  exact this css _ h.elt
theorem Row.raw (h : Row (kRaw2 n) e w s v css) : Raw n e w v css ∧ ∀ k, v.ownBlock = some k → s k := by
  obtain ⟨css2, h1, h2, h3⟩ := h
  have : css = css2 := by
    have : ∀ (l m : List (List Value)) (t : Nat → Prop), Nest (kRaw2 n) w t l m → l = m := by
      intro l
      induction l with
      | nil => intro m t h; cases m with
        | nil => rfl
        | cons c m => exact h.elim
      | cons c l ih => intro m t h; cases m with
        | nil => exact h.elim
        | cons c' m =>
          obtain ⟨_, s2, _, _, h3, h4⟩ := h
          rw [ih m s2 h4]
          have h3 : c' = c := h3.1
          rw [h3]
    exact this _ _ _ h3
  subst this
  exact ⟨h1, h2⟩
variable {b w0 : World} {s0 : Nat → Prop} {L : List Atom}
/-- A row, as raw cells and what they own. -/
theorem St.splitRow (h : St b w0 s0 L w) {i : Nat} (hi : nth L i = some (.row d e v xs)) : ∃ css : List (List Value), css.length = xs.length ∧ St b w0 s0 (app (upd L i (.row (kRaw2 d.sz) e v css)) [.val (kAll d css) css.flatten xs]) w := by
  obtain ⟨f, h1, h2, h3⟩ := h.ex
  obtain ⟨css, hr, ho, hn⟩ : Row d e w (f i) v xs := h3 i _ hi
  refine ⟨css, hn.len.symm, ?_⟩
  refine h.apart (a1 := .row (kRaw2 d.sz) e v css) (a2 := .val (kAll d css) css.flatten xs) hi ?_
  rintro s ⟨css', hr', ho', hn'⟩
  have hc : css' = css := by
    have hl : css'.length = css.length := by rw [← hn'.len, ← hn.len]
    refine List.ext_getElem? fun j => ?_
    rcases Nat.lt_or_ge j css.length with hj | hj
    · have g1 := List.getElem?_eq_getElem hj
      have g2 := List.getElem?_eq_getElem (l := css') (i := j) (by omega)
      obtain ⟨ad, c, q1, _, _, _, q2⟩ := hr.at j _ g1
      obtain ⟨ad', c', q3, _, _, _, q4⟩ := hr'.at j _ g2
      rw [q1] at q3
      injection q3 with q3 _ _
      injection q3 with q3
      subst q3
      rw [g1, g2]
      congr 1
      exact cells_eq q4 q2 (by rw [(hr.elt _ (List.getElem_mem hj)).1, (hr'.elt _ (List.getElem_mem (by omega))).1])
    · rw [List.getElem?_eq_none hj, List.getElem?_eq_none (by omega)]
  subst hc
  refine ⟨fun k => some k = v.ownBlock, fun k => s k ∧ some k ≠ v.ownBlock, fun k hk => ⟨ho' k hk.symm, fun h => h.2 hk⟩, fun k hk => hk.1, hr'.row (fun k hk => hk.symm), rfl, fun c hc => (hr'.elt c hc).2, hn'⟩
theorem zip_sub {α β : Type} : ∀ {xs : List α} {ys : List β} {zs : List α} {us : List β}, (zs.zip us).Sublist (xs.zip ys) → zs.length = us.length → True := fun _ _ => trivial
/-- Some of a row's elements, in their order: what they own. -/
theorem Nest.pick {α : Type} {d : K2 α} {w : World} : ∀ {l m : List (α × List Value)} {s : Nat → Prop}, m.Sublist l → Nest d w s (l.map (·.1)) (l.map (·.2)) → Nest d w s (m.map (·.1)) (m.map (·.2))
  | _, _, s, .slnil, _ => trivial
  | _, _, s, .cons a h, hn => by
    obtain ⟨s1, s2, h1, h2, h3, h4⟩ := hn
    exact (Nest.pick h h4).sub h2
  | _, _, s, .cons_cons a h, hn => by
    obtain ⟨s1, s2, h1, h2, h3, h4⟩ := hn
    exact ⟨s1, s2, h1, h2, h3, Nest.pick h h4⟩
theorem zip_fst {α β : Type} : ∀ {xs : List α} {ys : List β}, xs.length = ys.length → (xs.zip ys).map (·.1) = xs
  | [], [], _ => rfl
  | x :: xs, y :: ys, h => by simp at h; simp [zip_fst h]
theorem zip_snd {α β : Type} : ∀ {xs : List α} {ys : List β}, xs.length = ys.length → (xs.zip ys).map (·.2) = ys
  | [], [], _ => rfl
  | x :: xs, y :: ys, h => by simp at h; simp [zip_snd h]
/-- Raw cells, some of what was owned: a row again. -/
theorem St.joinRow (h : St b w0 s0 L w) {i j : Nat} {cs : List Value} {m : List (α × List Value)} {ys : List α} {dss : List (List Value)} (hi : nth L i = some (.row (kRaw2 d.sz) e v dss)) (hj : nth L j = some (.val (kAll d css) cs xs)) (hij : i ≠ j)
    (hm : m.Sublist (xs.zip css)) (hy : m.map (·.1) = ys) (hd : m.map (·.2) = dss) : St b w0 s0 (upd (upd L j .emp) i (.row d e v ys)) w := by
  obtain ⟨s, t, hs, ht, hst, h1, h2, hre⟩ := h.turn2f hi hj hij
  obtain ⟨hr, ho⟩ := Row.raw (show Row (kRaw2 d.sz) e w s v dss from h1)
  obtain ⟨_, _, hn⟩ : (kAll d css).M w t xs cs := h2
  have hl := hn.len
  refine hre w _ (fun k => s k ∨ t k) (Fr.refl _ _) (fun k hk => ⟨hk.elim (hs k) (ht k), Or.inl hk⟩) ⟨dss, hr, fun k hk => Or.inl (ho k hk), ?_⟩
  have hn2 : Nest d w t ((xs.zip css).map (·.1)) ((xs.zip css).map (·.2)) := by rw [zip_fst hl, zip_snd hl]; exact hn
  have := Nest.pick hm hn2
  rw [hy, hd] at this
  exact this.sub (fun k hk => ⟨Or.inr hk, fun e => hst k (ho k e.symm) hk⟩)
/-- The cells of an element. -/
theorem Raw.flat_of {inner : List Value} : ∀ {css : List (List Value)}, inner.length = css.length * n → (∀ j p, css[j]? = some p → ((inner.drop (j * n)).take n) = p) → inner = css.flatten := by
  intro css
  induction css generalizing inner with
  | nil => intro h _; simp at h; simp [h]
  | cons c css ih =>
    intro h hp
    have h0 := hp 0 c rfl
    rw [Nat.zero_mul, List.drop_zero] at h0
    have h1 := ih (inner := inner.drop n) (by rw [List.length_drop, h, List.length_cons, Nat.succ_mul]; omega) (fun j p hj => by
      have := hp (j + 1) p (by simpa using hj)
      rw [List.drop_drop]
      rwa [show n + j * n = (j + 1) * n by rw [Nat.succ_mul]; omega])
    rw [List.flatten_cons, ← h1, ← h0, List.take_append_drop]
theorem flatten_len : ∀ {css : List (List Value)}, (∀ c ∈ css, c.length = n) → css.flatten.length = css.length * n
  | [], _ => by simp
  | c :: css, h => by
    rw [List.flatten_cons, List.length_append, flatten_len (fun c hc => h c (List.mem_cons_of_mem _ hc)), h c (List.mem_cons_self ..), List.length_cons, Nat.succ_mul]; omega
theorem flatten_at : ∀ {css : List (List Value)} {j : Nat} {p : List Value}, (∀ c ∈ css, c.length = n) → css[j]? = some p → ((css.flatten.drop (j * n)).take n) = p
  | [], j, p, _, h => by simp at h
  | c :: css, 0, p, hl, h => by
    simp at h; subst h
    have := hl c (List.mem_cons_self ..)
    rw [Nat.zero_mul, List.drop_zero, List.flatten_cons, List.take_left' this]
  | c :: css, j + 1, p, hl, h => by
    have h1 := hl c (List.mem_cons_self ..)
    rw [List.flatten_cons, show (j + 1) * n = n + j * n by rw [Nat.succ_mul]; omega, ← List.drop_drop, List.drop_left' h1]
    exact flatten_at (fun c hc => hl c (List.mem_cons_of_mem _ hc)) (by simpa using h)
theorem Raw.owns (h : Raw n e w v css) : w.ownsRow 0 e n v css.length css.flatten := by
  obtain ⟨_, inner, ho, hr⟩ := h
  have : inner = css.flatten := Raw.flat_of hr.1 (fun j p hj => (hr.2 j p hj).1)
  rwa [this] at ho
theorem Raw.of_owns (h : w.ownsRow 0 e n v css.length css.flatten) (hel : ∀ c ∈ css, c.length = n ∧ ∀ u ∈ c, u.oneCell' = true) : Raw n e w v css :=
  ⟨fun _ _ => trivial, _, h, flatten_len (fun c hc => (hel c hc).1), fun j p hj => ⟨flatten_at (fun c hc => (hel c hc).1) hj, hel p (List.mem_of_getElem? hj)⟩⟩
/-- A row's head: the same block. -/
theorem Raw.head {A : Option Addr} {m c k : Nat} (h : Raw n e w (.slice A m c) css) (hk : k ≤ css.length) : Raw n e w (.slice A k c) (css.take k) := by
  have ho := h.owns
  have hel := h.elt
  obtain ⟨h1, h2⟩ := ho
  have hlen : (css.take k).length = k := by simp; omega
  have hfl : (css.take k).flatten = css.flatten.take (k * n) := by
    have e1 : css.flatten = (css.take k).flatten ++ (css.drop k).flatten := by rw [← List.flatten_append, List.take_append_drop]
    rw [e1, List.take_left']
    rw [flatten_len (n := n) (fun c hc => (hel c (List.mem_of_mem_take hc)).1), hlen]
  refine Raw.of_owns ?_ (fun c hc => hel c (List.mem_of_mem_take hc))
  rw [hlen]
  refine ⟨by rw [flatten_len (n := n) (fun c hc => (hel c (List.mem_of_mem_take hc)).1), hlen], ?_⟩
  rcases h2 with ⟨h2, h3⟩ | ⟨g, cap, cur, h2, h3, h4, h5, h6, h7, h8⟩
  · injection h2 with ha hb hc
    subst ha; subst hc
    have : k = 0 := by omega
    exact Or.inl ⟨by rw [this], this⟩
  · injection h2 with ha hb hc
    subst ha; subst hc
    refine Or.inr ⟨g, c, cur, rfl, h3, h4, by omega, h6, h7, ?_⟩
    rw [hfl, ← h8, List.take_take, Nat.min_eq_left (Nat.mul_le_mul_right _ hk)]
theorem St.head (h : St b w0 s0 L w) {i : Nat} {u : Sv} (hi : nth L i = some (.row (kRaw2 n) e (sl u) css)) {k : Nat} (hk : k ≤ css.length) : St b w0 s0 (upd L i (.row (kRaw2 n) e (.slice u.1 k u.2.2) (css.take k))) w := by
  refine h.turn hi (fun s hs hr => ⟨Fr.refl _ _, s, fun k hk => ⟨hs k hk, Or.inl hk⟩, ?_⟩)
  obtain ⟨h1, h2⟩ := Row.raw (show Row (kRaw2 n) e w s (sl u) css from hr)
  refine (h1.head hk).row ?_
  intro k hk
  refine h2 k ?_
  obtain ⟨u1, u2, u3⟩ := u
  cases u1 with
  | none => cases hk
  | some a => exact hk
/-- Elements from one on are written. -/
theorem Raw.fill {g m c lo : Nat} {zs : List (List Value)} (h : Raw n e w (.slice (some ⟨g, 0, none⟩) m c) css) (hlo : lo + zs.length = css.length) (hz : ∀ c ∈ zs, c.length = n ∧ ∀ u ∈ c, u.oneCell' = true) :
    Raw n e (w.setCells g (lo * n) zs.flatten) (.slice (some ⟨g, 0, none⟩) m c) (css.take lo ++ zs) := by
  obtain ⟨h1, h2⟩ := h.owns
  have hel := h.elt
  have hel2 : ∀ c ∈ css.take lo ++ zs, c.length = n ∧ ∀ u ∈ c, u.oneCell' = true := fun c hc => (List.mem_append.1 hc).elim (fun hc => hel c (List.mem_of_mem_take hc)) (hz c)
  have hll : (css.take lo ++ zs).length = css.length := by simp; omega
  refine Raw.of_owns ?_ hel2
  rw [hll]
  refine ⟨by rw [flatten_len (fun c hc => (hel2 c hc).1), hll], ?_⟩
  rcases h2 with ⟨h2, _⟩ | ⟨g', cap, cur, h2, h3, h4, h5, h6, h7, h8⟩
  · injection h2 with ha _ _; cases ha
  injection h2 with ha hb hc
  injection ha with ha
  injection ha with ha
  subst ha; subst hc
  have hzl : zs.flatten.length = zs.length * n := flatten_len (fun c hc => (hz c hc).1)
  have hle : lo * n + zs.length * n = css.length * n := by rw [← Nat.add_mul, hlo]
  have hle2 : css.length * n ≤ c * n := Nat.mul_le_mul_right _ h5
  obtain ⟨cur', g1, g2, g3⟩ := setCells_row zs.flatten (lo * n) w cur h4 (by rw [hzl]; omega)
  refine Or.inr ⟨g, c, cur', by rw [hb], h3, g1, h5, h6, by rw [g2, h7], ?_⟩
  have hp : (css.take lo).flatten = cur.toList.take (lo * n) := by
    have e1 : css.flatten = (css.take lo).flatten ++ (css.drop lo).flatten := by rw [← List.flatten_append, List.take_append_drop]
    have e2 : (css.take lo).flatten.length = lo * n := by rw [flatten_len (n := n) (fun c hc => (hel c (List.mem_of_mem_take hc)).1)]; rw [List.length_take, Nat.min_eq_left (by omega)]
    have : (css.flatten).take (lo * n) = (css.take lo).flatten := by rw [e1, List.take_left' e2]
    rw [← this, ← h8, List.take_take, Nat.min_eq_left (by omega)]
  have hcl : (cur.toList.take (lo * n)).length = lo * n := by rw [List.length_take, Array.length_toList, h7]; omega
  rw [g3, List.flatten_append, hp, List.take_append_of_le_length (by rw [List.length_append, hcl, hzl]; omega), List.take_of_length_le (by rw [List.length_append, hcl, hzl]; omega)]
end
section
variable {P : Program} {n m : Nat} {Q : Exit → Env → World → Prop} {env : Env} {w : World} {ops : Array Oper} {rest : List Oper} {b w0 : World} {s0 : Nat → Prop} {L : List Atom} {e : TypeId} {css : List (List Value)} {v : Value}
theorem zeroCells_rep (z : Array Value) (m : Nat) (hz : 0 < z.size) : (Builtin.zeroCells z m).toList = (List.replicate m z.toList).flatten := by
  apply List.ext_getElem?
  intro i
  have hl : (List.replicate m z.toList).flatten.length = m * z.size := by simp
  have hl2 : (Builtin.zeroCells z m).toList.length = m * z.size := by simp [Builtin.zeroCells]
  rcases Nat.lt_or_ge i (m * z.size) with hi | hi
  · have hq : i / z.size < m := (Nat.div_lt_iff_lt_mul hz).2 hi
    have hmod : i % z.size < z.size := Nat.mod_lt _ hz
    have h1 : (List.replicate m z.toList)[i / z.size]? = some z.toList := by simp [hq]
    have h2 := flatten_at (n := z.size) (css := List.replicate m z.toList) (j := i / z.size) (p := z.toList) (fun c hc => by rw [List.eq_of_mem_replicate hc]; simp) h1
    have h3 : ((List.replicate m z.toList).flatten)[i]? = z.toList[i % z.size]? := by
      have h4 := Nat.div_add_mod i z.size
      have h5 : z.size * (i / z.size) = i / z.size * z.size := Nat.mul_comm _ _
      have h6 : i / z.size * z.size + i % z.size = i := by omega
      have := congrArg (fun l => l[i % z.size]?) h2
      simp only [List.getElem?_take, if_pos hmod, List.getElem?_drop, h6] at this
      exact this
    rw [h3]
    simp [Builtin.zeroCells, hi, hmod]
  · rw [List.getElem?_eq_none (by omega), List.getElem?_eq_none (by omega)]
/-- An operation whose value is dropped. -/
theorem EL.valn {o : Oper} {v : Value} {w' : World} (hr : Runs P env o w v w') (hg : o.guard = none) (hd : o.dst = none) (h : EL P n ops Q rest env w') : EL P n ops Q (o :: rest) env w := by
  intro a ha
  refine wpList_plain hg fun K hK => ?_
  unfold Oper.wp
  rw [hr a.eval ha.agree]
  rw [Oper.upon_value, hd]
  exact hK _ _ (h _ ha)
/-- 'clear' of a row's elements from one on. -/
theorem SL.clr (hS : St b w0 s0 L w) (i : Nat) (hi : nth L i = some (.row (kRaw2 m) e v css)) {x : Operand} {t ty : TypeId} {D : Option Nat} {pos : String} {after : Array Edge} {z : Value} {bytes lo : Nat} {v' : Value} (hx : ev env x = some v') (hV : SubV v m lo css.length v') (ht : P.underlying t = some (.slice e))
    (hinfo : (P.info? e).map (fun i => (i.zero, i.size, i.bytes)) = some (some z, m, bytes)) (hz : z.cells.size = m) (hm : 0 < m) (hone : z.cells.toList.all Value.oneCell' = true) (hD : D = none)
    (k : ∀ w, St b w0 s0 (upd L i (.row (kRaw2 m) e v (css.take lo ++ List.replicate (css.length - lo) z.cells.toList))) w → EL P n ops Q rest env w) : EL P n ops Q (⟨D, .call { callee := .builtin .clear, args := #[x], argTypes := #[t] }, ty, pos, after, none⟩ :: rest) env w := by
  subst hD
  have hzc : z.cells.toList.length = m := by simpa using hz
  obtain ⟨A, m', c, rfl, g1, g2, g3, rfl⟩ := hV
  have hlen : (List.replicate (css.length - lo) z.cells.toList).length = css.length - lo := by simp
  by_cases h0 : css.length - lo = 0
  · have e1 : css.take lo ++ List.replicate (css.length - lo) z.cells.toList = css := by rw [h0, List.replicate_zero, List.append_nil, List.take_of_length_le (by omega)]
    have hS1 := k w (by
      rw [e1]
      exact hS.turn hi (fun s hs hr => ⟨Fr.refl _ _, s, fun k hk => ⟨hs k hk, Or.inl hk⟩, hr⟩))
    refine EL.valn (v := .tuple #[]) (fun ρ hρ => ?_) rfl rfl hS1
    have h6 := hρ x _ hx
    rw [h0] at h6
    cases hA : (if c = lo then A else A.map (·.add (lo * m))) with
    | none =>
      rw [hA] at h6; simp [execOp, resolve, invoke, builtin, h6, Builtin.clear_, run_underlying ht]
    | some a =>
      rw [hA] at h6; simp [execOp, resolve, invoke, builtin, h6, Builtin.clear_, run_underlying ht]
  · obtain ⟨s, hs, hr, hre⟩ := hS.turnf hi
    obtain ⟨hraw, ho⟩ := Row.raw (show Row (kRaw2 m) e w s (.slice A m' c) css from hr)
    obtain ⟨g, cap, hv, hg⟩ := hraw.form (by omega)
    injection hv with hA hm' hc
    subst hA; subst hm'; subst hc
    have hcl : ¬ c = lo := by omega
    have hf := hraw.fill (lo := lo) (zs := List.replicate (css.length - lo) z.cells.toList) (by simp; omega) (fun c hc => by
      rw [List.eq_of_mem_replicate hc]
      exact ⟨hzc, List.all_eq_true.1 hone⟩)
    obtain ⟨_, h2⟩ := hraw.owns
    rcases h2 with ⟨h2, _⟩ | ⟨g', cap', cur, h2, h3, h4, h5, h6, h7, h8⟩
    · injection h2 with ha _ _; cases ha
    injection h2 with ha hb hc
    injection ha with ha
    injection ha with ha
    subst ha; subst hc
    obtain ⟨j1, j2, j3, j4⟩ := setCells_same g (List.replicate (css.length - lo) z.cells.toList).flatten (lo * m) w
    have hfl : (List.replicate (css.length - lo) z.cells.toList).flatten.length = (css.length - lo) * m := by rw [flatten_len (n := m) (fun c hc => by rw [List.eq_of_mem_replicate hc]; exact hzc)]; simp
    have hle : lo * m + (css.length - lo) * m = css.length * m := by rw [← Nat.add_mul]; congr 1; omega
    have hle2 : css.length * m ≤ c * m := Nat.mul_le_mul_right _ h5
    refine EL.valn (v := .tuple #[]) (w' := w.setCells g (lo * m) (List.replicate (css.length - lo) z.cells.toList).flatten) (fun ρ hρ => ?_) rfl rfl
      (k _ (hre _ _ s ⟨j1, j2, j3, by omega, fun k hk hn => setCells_far _ _ k (fun e => hn (e ▸ ho g rfl))⟩ (fun k hk => ⟨by have := hs k hk; omega, Or.inl hk⟩) (hf.row ho)))
    have h6 := hρ x _ hx
    rw [if_neg hcl] at h6
    have h6 : ρ x = .slice (some ⟨g, lo * m, none⟩) (css.length - lo) (c - lo) := by
      rw [h6]
      show Value.slice (some (Addr.add ⟨g, 0, none⟩ (lo * m))) _ _ = _
      rw [add_plain]
      try simp
    have q1 : ∀ j, j < (List.replicate (css.length - lo) z.cells.toList).flatten.length → (w.cell? ⟨g, lo * m + 0 + j, none⟩).isSome = true := fun j hj => by
      rw [hfl] at hj
      have : lo * m + j < cur.size := by omega
      simp [World.cell?, h4, this]
    have q2 : ∀ u ∈ (List.replicate (css.length - lo) z.cells.toList).flatten, u.oneCell' = true := fun u hu => by
      obtain ⟨c', hc', hu⟩ := List.mem_flatten.1 hu
      rw [List.eq_of_mem_replicate hc'] at hu
      exact List.all_eq_true.1 hone u hu
    have hst := run_storeCells_cells (P := P) g (lo * m) (List.replicate (css.length - lo) z.cells.toList).flatten 0 w q1 (fun j hj => by simp [World.frozen?, h4]) q2
    obtain ⟨q, hq⟩ : ∃ q, css.length - lo = q + 1 := ⟨css.length - lo - 1, by omega⟩
    rw [Nat.add_zero] at hst
    rw [hq] at hst h6 ⊢
    have hzr := fun w => run_zero (P := P) hinfo w
    simp [execOp, resolve, invoke, builtin, h6, Builtin.clear_, run_underlying ht, hzr, zeroCells_rep z.cells (q + 1) (by omega)]
    rw [hst]
    try rfl
end
end Go.Proofs.Ytcolndejambcmaa.Ew
