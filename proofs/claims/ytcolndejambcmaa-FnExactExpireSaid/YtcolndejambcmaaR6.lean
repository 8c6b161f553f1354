/- The steps of a walk over the state, sixth part: calls, loops, ways that meet, regions that draw their order, results. -/
import Derived.Test.YtcolndejambcmaaR5
namespace Go.Proofs.Ytcolndejambcmaa.Ew
open Go.RowKit Go.Proofs.YtcolndejambcmaaW.PrintWords Go.Proofs.YtcolndejambcmaaW.PrintLast
set_option linter.unusedVariables false
set_option linter.unusedSimpArgs false
section
variable {P : Program} {n : Nat} {Q : Exit → Env → World → Prop} {env : Env} {w : World} {ops : Array Oper} {rest : List Oper} {b w0 : World} {s0 : Nat → Prop} {L : List Atom} {α : Type} {d : K2 α} {xs : List α} {e : TypeId}
theorem St.c {v : Value} (h : St b w0 s0 L w) (i : Nat) (hi : nth L i = some (.row d e v xs)) : d.C w v xs := h.rd hi
theorem St.a (h : St b w0 s0 L w) (i : Nat) {g : Nat} {t : TypeId} {cs : Array Value} (hi : nth L i = some (.blk g t cs)) : CellsAt w (at0 g) 0 cs.toList := h.rd hi
theorem St.now {v : Value} (h : St b w0 s0 L w) (hc : d.C b v xs) : d.C w v xs := hc.agr h.agr
theorem St.blk (h : St b w0 s0 L w) (i : Nat) {g : Nat} {t : TypeId} {cs : Array Value} (hi : nth L i = some (.blk g t cs)) : w.heap[g]? = some (.cells cs t (0, 0)) := by
  obtain ⟨f, _, _, h3⟩ := h.ex
  exact (h3 i _ hi).2
/-- A call, by the callee's contract (Φ: what it returns and the parts that it leaves). -/
theorem SL.call (hS : St b w0 s0 L w) {f : FuncId} {fn : Func} {as : Array Operand} {ts : Array TypeId} {D : Nat} {ty : TypeId} {pos : String} {after : Array Edge} (args : List Value) (hargs : as.toList.map (ev env) = args.map some) (hf : P.funcs[f]? = some fn) (hname : (fn.name == "runtime.NumGoroutine") = false) (hb : fn.body.isSome = true) (hn : D < n)
    (is : List Nat) (hnd : is.Nodup) {L0 : List Atom} (hp : pick L is = L0.map some) {Φ : Value → List Atom → Prop}
    (hc : ∀ b' s, Agr b b' → Agr b' w → (∀ j a, j ∉ is → nth L j = some a → a.rd b') → St b' w s L0 w → Calls P f args.toArray w fun e w' => ∃ v M, e = .returned v ∧ Φ v M ∧ St b' w s M w')
    (k : ∀ v M w', Φ v M → St b w0 s0 (putL L is M) w' → EL P n ops Q rest ((D, v) :: env) w') : EL P n ops Q (⟨some D, .call { callee := .value (.func f), args := as, argTypes := ts }, ty, pos, after, none⟩ :: rest) env w := by
  refine EL.call rfl args hargs hf hname hb rfl rfl hn ((hS.call is hnd hp hc).mono ?_)
  rintro e w' ⟨v, M, he, hΦ, hS'⟩
  exact ⟨v, he, k v M w' hΦ hS'⟩
/-- A call of a function value. -/
theorem EL.callv {t f : Nat} {fn : Func} {as : Array Operand} {ts : Array TypeId} {D : Nat} {ty : TypeId} {pos : String} {after : Array Edge} (caps : List Value) (args : List Value) (ht : ev env (.tmp t) = some (.func (.func f) #[] caps.toArray)) (hargs : as.toList.map (ev env) = args.map some) (hf : P.funcs[f]? = some fn) (hname : (fn.name == "runtime.NumGoroutine") = false) (hb : fn.body.isSome = true)
    (hn : D < n) (h : Calls P f (args ++ caps).toArray w fun e w' => ∃ v, e = .returned v ∧ EL P n ops Q rest ((D, v) :: env) w') : EL P n ops Q (⟨some D, .call { callee := .value (.tmp t), args := as, argTypes := ts }, ty, pos, after, none⟩ :: rest) env w := by
  intro a ha
  have hev : as.map a.eval = args.toArray := by
    have h2 : ∀ (l : List Operand) (r : List Value), l.map (ev env) = r.map some → l.map a.eval = r := by
      intro l
      induction l with
      | nil => intro r hr; cases r with | nil => rfl | cons _ _ => simp at hr
      | cons x l ih =>
        intro r hr
        cases r with
        | nil => simp at hr
        | cons y r =>
          simp only [List.map_cons, List.cons.injEq] at hr ⊢
          exact ⟨ha.agree x y hr.1, ih r hr.2⟩
    apply Array.toList_inj.1
    simpa using h2 _ _ hargs
  refine wpList_plain rfl fun K hK => ?_
  have he := enters_ hf hname hb (args ++ caps).toArray w
  have h5 := ha.agree _ _ ht
  have hrun : (execOp a.eval ⟨some D, .call { callee := .value (.tmp t), args := as, argTypes := ts }, ty, pos, after, none⟩).run P w = .ok (.enter f (args ++ caps).toArray) w := by
    unfold execOp
    simp [resolve, Deferred.ofValue, invoke, hev, h5]
    simpa using he
  unfold Oper.wp
  rw [hrun, Oper.upon_enter]
  refine h.mono fun e w'' hh => ?_
  obtain ⟨v, rfl, hk⟩ := hh
  exact hK _ _ (hk _ (ha.put hn v))
theorem SL.callv (hS : St b w0 s0 L w) {t f : Nat} {fn : Func} {as : Array Operand} {ts : Array TypeId} {D : Nat} {ty : TypeId} {pos : String} {after : Array Edge} (caps args : List Value) (ht : ev env (.tmp t) = some (.func (.func f) #[] caps.toArray)) (hargs : as.toList.map (ev env) = args.map some) (hf : P.funcs[f]? = some fn) (hname : (fn.name == "runtime.NumGoroutine") = false) (hb : fn.body.isSome = true) (hn : D < n)
    (is : List Nat) (hnd : is.Nodup) {L0 : List Atom} (hp : pick L is = L0.map some) {Φ : Value → List Atom → Prop}
    (hc : ∀ b' s, Agr b b' → Agr b' w → (∀ j a, j ∉ is → nth L j = some a → a.rd b') → St b' w s L0 w → Calls P f (args ++ caps).toArray w fun e w' => ∃ v M, e = .returned v ∧ Φ v M ∧ St b' w s M w')
    (k : ∀ v M w', Φ v M → St b w0 s0 (putL L is M) w' → EL P n ops Q rest ((D, v) :: env) w') : EL P n ops Q (⟨some D, .call { callee := .value (.tmp t), args := as, argTypes := ts }, ty, pos, after, none⟩ :: rest) env w := by
  refine EL.callv caps args ht hargs hf hname hb hn ((hS.call is hnd hp hc).mono ?_)
  rintro e w' ⟨v, M, he, hΦ, hS'⟩
  exact ⟨v, he, k v M w' hΦ hS'⟩
theorem EL.mkf {f : FuncId} {caps : Array Operand} {D : Nat} {ty : TypeId} {pos : String} {after : Array Edge} (vs : List Value) (h : caps.toList.map (ev env) = vs.map some) (hn : D < n)
    (k : EL P n ops Q rest ((D, .func (.func f) #[] vs.toArray) :: env) w) : EL P n ops Q (⟨some D, .makeFunc (.func f) #[] caps, ty, pos, after, none⟩ :: rest) env w := by
  refine EL.val (fun ρ hρ => ?_) rfl rfl hn k
  have h2 : ∀ (l : List Operand) (r : List Value), l.map (ev env) = r.map some → l.map ρ = r := by
    intro l
    induction l with
    | nil => intro r hr; cases r with | nil => rfl | cons _ _ => simp at hr
    | cons x l ih =>
      intro r hr
      cases r with
      | nil => simp at hr
      | cons y r =>
        simp only [List.map_cons, List.cons.injEq] at hr ⊢
        exact ⟨hρ x y hr.1, ih r hr.2⟩
  have h3 : caps.map ρ = vs.toArray := by
    apply Array.toList_inj.1
    simpa using h2 _ _ h
  simp [execOp, Instr.makeFunc, h3]
/-- A function's walk. -/
theorem calls_of {f : FuncId} {fn : Func} {c : Code} {args : List Value} {Φ : Value → List Atom → Prop} {s : Nat → Prop} (hf : P.funcs[f]? = some fn) (hb : fn.body = some c) (hn : fn.ntmps = n) (hl : args.length ≤ n)
    (h : EW P n c (fnPost P fn fun e w' => ∃ v M, e = .returned v ∧ Φ v M ∧ St b w s M w') (envOf 0 args) w) : Calls P f args.toArray w fun e w' => ∃ v M, e = .returned v ∧ Φ v M ∧ St b w s M w' := calls_of_EW hf hb hn hl h
/-- A loop, by its pure twin. -/
theorem EW.loopP {c : Code} {S B R : Type} {body : S → Option (Stp S B R)} {fuel : Nat} {s : S} {o : Out B R} (hx : iter body fuel s = some o) (I : S → Env → World → Prop) (e0 : Env) (hs : Sub e0 env) (h0 : I s e0 w)
    (round : ∀ s e w, I s e w → ∀ st, body s = some st → (∀ b, st = .brk b → o = .brk b) → (∀ r, st = .ret r → o = .ret r) → EW P n c (thenE (fun e1 w1 => ∃ s' e', st = .next s' ∧ Sub e' e1 ∧ I s' e' w1) Q) e w) : EW P n (.loop c) Q env w := by
  refine EW.loop (fun m e w => ∃ s, I s e w ∧ iter body m s = some o) fuel e0 hs ⟨s, h0, hx⟩ ?_
  rintro m e w ⟨s, hI, hm⟩
  cases m with
  | zero => simp [iter] at hm
  | succ m =>
    obtain ⟨st, hb, hm⟩ := bnd hm
    refine fun a ha => wp_mono (round s e w hI st hb ?_ ?_ a ha) ?_
    · rintro b rfl; simpa using hm.symm
    · rintro r rfl; simpa using hm.symm
    · intro x a' w' hq
      cases x with
      | normal =>
        obtain ⟨e1, h1, s', e', rfl, h2, h3⟩ := hq
        exact ⟨e1, h1, m, e', by omega, h2, s', h3, hm⟩
      | exit id => exact hq
      | goto l => exact hq
      | ret => exact hq
      | panic c => exact hq
      | outgrown => exact hq
/-! regions that draw their order -/
/-- Only the normal way out. -/
def onlyN (K : Env → World → Prop) : Exit → Env → World → Prop
  | .normal, e, w => K e w
  | _, _, _ => False
theorem Oper.wp_q {o : Oper} {a : Act} {w : World} {K K' : Act → World → Prop} {Q Q' : Exit → Act → World → Prop} (h : ∀ a w, K a w → K' a w) (hq : ∀ c a w, Q (.panic c) a w → Q' (.panic c) a w) (hl : LetsOut Q → LetsOut Q') (hh : o.wp P a w K Q) : o.wp P a w K' Q' := by
  unfold Oper.wp at *
  generalize (execOp a.eval o).run P w = r at *
  cases r with
  | ok n w' =>
    cases n <;> simp only [Oper.upon] at hh ⊢ <;>
      first
        | exact h _ _ hh
        | exact Calls.mono hh (fun e w'' he => by cases e <;> first | exact h _ _ he | exact hq _ _ _ he | exact hl he)
        | exact Rows.mono hh (fun _ _ he => h _ _ he)
  | halt x w' => cases x <;> simp only [Oper.upon] at hh ⊢ <;> first | exact hh | exact hq _ _ _ hh
theorem EL.to_op {o : Oper} {K : Env → World → Prop} (h : EL P n ops (onlyN K) [o] env w) {a : Act} (ha : Has n env a) {Q' : Exit → Act → World → Prop} {K' : Act → World → Prop} (hK : ∀ e a' w', Has n e a' → K e w' → K' a' w') :
    if Region.wanted o (yielded ops a.tmps) = true then Oper.wp P o a w K' Q' else K' (a.put o.dst undef) w := by
  have h1 := h a ha
  unfold wpList at h1
  have h0 : ∀ a' w', wpList P ops (lift n (onlyN K)) [] a' w' → K' a' w' := fun a' w' hq => by
    obtain ⟨e, h2, h3⟩ := hq
    exact hK e a' w' h2 h3
  split at h1
  · rename_i hw
    rw [if_pos hw]
    rcases h1 with h1 | ⟨_, a', w', h1⟩
    · exact Oper.wp_q h0 (fun c a w h => h.elim) (fun ⟨_, _, h⟩ => h.elim) h1
    · exact h1.elim
  · rename_i hw
    rw [if_neg hw]
    exact h0 _ _ h1
variable {S : World → Prop} {fuel : Nat} {l : Array Bool} {ds : List Nat}
/-- As ED, but behind the operations of ds nothing is shown. -/
def DR (P : Program) (n : Nat) (ops : Array Oper) (Q : Exit → Env → World → Prop) (S : World → Prop) (ds : List Nat) (fuel : Nat) (l : Array Bool) (env : Env) (w : World) : Prop := ∀ a, Has n env a → wpAnyLast P .any ops (lift n Q) S ds fuel l a w
theorem EW.drawn {id m : Nat} (S : World → Prop) (ds : List Nat) (hm : P.follows .mixedOrders = true) (hn : ops.size = m) (hS : S w.drew) (h : DR P n ops Q S ds m (Array.replicate m false) env w.drew) : EW P n (.region id ops true) Q env w := by
  intro a ha
  exact start_ _ hm hn rfl hS (fun _ => h a ha)
theorem DR.sub {env' : Env} (hs : Sub env' env) (h : DR P n ops Q S ds fuel l env' w) : DR P n ops Q S ds fuel l env w := fun a ha => h a (ha.sub hs)
/-- An operation that yields whatever the world is taken first. -/
theorem DR.q (i : Nat) {o : Oper} {D : Nat} {v : Value} (hi : ops[i]? = some o) (h : ∀ w', Runs P env o w' v w') (hg : o.guard = none) (hd : o.dst = some D) (hn : D < n) (hc : anyB .any ops l (l.setIfInBounds i true) i = true)
    (k : DR P n ops Q S ds fuel (l.setIfInBounds i true) ((D, v) :: env) w) : DR P n ops Q S ds (fuel + 1) l env w := by
  intro a ha
  refine pure_ (i := i) (N := some D) (v := v) (a' := _) _ hi hd hc (fun _ _ _ h => h) (Or.inl ⟨by simp [Region.wanted, hg], fun w' => h w' a.eval ha.agree⟩) rfl (k _ (ha.put hn v))
/-- An operation that yields in every world of which S holds is taken first. -/
theorem DR.take (i : Nat) {o : Oper} {D : Nat} {v : Value} (hi : ops[i]? = some o) (h : ∀ w', S w' → Runs P env o w' v w') (hg : o.guard = none) (hd : o.dst = some D) (hn : D < n) (hc : takeB .any ops ds l (l.setIfInBounds i true) i = true) (hS : S w)
    (k : DR P n ops Q S ds fuel (l.setIfInBounds i true) ((D, v) :: env) w) : DR P n ops Q S ds (fuel + 1) l env w := by
  intro a ha
  refine take_ (i := i) (N := some D) (v := v) (a' := _) _ hi hd hc (fun _ _ _ h => h) (Or.inl ⟨by simp [Region.wanted, hg], fun w' hw => h w' hw a.eval ha.agree⟩) hS rfl (k _ (ha.put hn v))
def DRone (P : Program) (n : Nat) (ops : Array Oper) (Q : Exit → Env → World → Prop) (S : World → Prop) (ds : List Nat) (fuel : Nat) (l : Array Bool) (i : Nat) : Env → World → Prop := fun env w => (i ∉ ds → S w) ∧ DR P n ops Q S ds fuel (l.setIfInBounds i true) env w
/-- Every operation that may come up now, each for itself. -/
theorem DR.all (rs : List Nat) (hr : (Region.ready .any ops l == rs) = true) (hne : rs ≠ []) (h : ∀ i ∈ rs, ∃ o, ops[i]? = some o ∧ EL P n ops (onlyN (DRone P n ops Q S ds fuel l i)) [o] env w) : DR P n ops Q S ds (fuel + 1) l env w := by
  intro a ha
  refine wpAnyLast_ready (rs := rs) (by simpa using hr) hne ?_
  intro i hi
  obtain ⟨o, ho, hE⟩ := h i hi
  refine wpOp_step ho (fun K' hK => ?_)
  exact EL.to_op hE ha (fun e a' w' hH hk => hK a' w' ⟨fun hn _ => hk.1 hn, hk.2 a' hH⟩)
theorem DR.one (i : Nat) {o : Oper} (hr : (Region.ready .any ops l == [i]) = true) (ho : ops[i]? = some o) (h : EL P n ops (onlyN (DRone P n ops Q S ds fuel l i)) [o] env w) : DR P n ops Q S ds (fuel + 1) l env w :=
  DR.all [i] hr (by simp) (fun j hj => by simp at hj; subst hj; exact ⟨o, ho, h⟩)
theorem DR.two (i j : Nat) {o o' : Oper} (hr : (Region.ready .any ops l == [i, j]) = true) (ho : ops[i]? = some o) (ho' : ops[j]? = some o') (h : EL P n ops (onlyN (DRone P n ops Q S ds fuel l i)) [o] env w) (h' : EL P n ops (onlyN (DRone P n ops Q S ds fuel l j)) [o'] env w) : DR P n ops Q S ds (fuel + 1) l env w :=
  DR.all [i, j] hr (by simp) (fun k hk => by
    simp at hk
    rcases hk with rfl | rfl
    · exact ⟨o, ho, h⟩
    · exact ⟨o', ho', h'⟩)
theorem DR.three (i j m : Nat) {o o' o2 : Oper} (hr : (Region.ready .any ops l == [i, j, m]) = true) (ho : ops[i]? = some o) (ho' : ops[j]? = some o') (ho2 : ops[m]? = some o2) (h : EL P n ops (onlyN (DRone P n ops Q S ds fuel l i)) [o] env w) (h' : EL P n ops (onlyN (DRone P n ops Q S ds fuel l j)) [o'] env w) (h2 : EL P n ops (onlyN (DRone P n ops Q S ds fuel l m)) [o2] env w) : DR P n ops Q S ds (fuel + 1) l env w :=
  DR.all [i, j, m] hr (by simp) (fun k hk => by
    simp at hk
    rcases hk with rfl | rfl | rfl
    · exact ⟨o, ho, h⟩
    · exact ⟨o', ho', h'⟩
    · exact ⟨o2, ho2, h2⟩)
/-- Behind one of the operations: S holds (or it is one of the last), and so on. -/
theorem EL.then_ {i : Nat} (hS : S w) (h : DR P n ops Q S ds fuel (l.setIfInBounds i true) env w) : EL P n ops (onlyN (DRone P n ops Q S ds fuel l i)) [] env w := EL.nil ⟨fun _ => hS, h⟩
theorem EL.last_ {i : Nat} (hi : i ∈ ds) (h : DR P n ops Q S ds fuel (l.setIfInBounds i true) env w) : EL P n ops (onlyN (DRone P n ops Q S ds fuel l i)) [] env w := EL.nil ⟨fun hn => absurd hi hn, h⟩
theorem DR.v {v : Value} (i : Nat) {o : Oper} {D : Nat} (hi : ops[i]? = some o) (h : qval env o.op = some v) (hg : o.guard = none) (hd : o.dst = some D) (hn : D < n) (hc : anyB .any ops l (l.setIfInBounds i true) i = true)
    (k : DR P n ops Q S ds fuel (l.setIfInBounds i true) ((D, v) :: env) w) : DR P n ops Q S ds (fuel + 1) l env w := DR.q i hi (fun w' => qval_runs h w') hg hd hn hc k
theorem rn_ld {gd : Option (Nat × Bool)} {t : TypeId} {x : Operand} {ty : TypeId} {pos : String} {after : Array Edge} {D : Option Tmp} {A : Addr} {j : Nat} {cs : List Value} {u : Value} {ud : TypeDesc} {w' : World} (hx : ev env x = some (ptr A j)) (hu : P.underlying t = some ud) (h1 : ∀ fs, ud ≠ .struct fs) (h2 : ∀ m e, ud ≠ .array m e)
    (hA : CellsAt w' A 0 cs) (hj : cs[j]? = some u) : Runs P env ⟨D, .load t x, ty, pos, after, gd⟩ w' u w' := by
  have h3 := hA.get hj
  rw [Nat.zero_add] at h3
  exact fun ρ hρ => runs_ld (d := D) (ty := ty) (pos := pos) (after := after) hx hu h1 h2 w' h3 ρ hρ
theorem rn_lds {gd : Option (Nat × Bool)} {t : TypeId} {x : Operand} {fs : Array Field} {D : Option Tmp} {ty : TypeId} {pos : String} {after : Array Edge} {A : Addr} {j m : Nat} {cs : List Value} {w' : World} (seg : List Value) (hx : ev env x = some (ptr A j)) (hu : P.underlying t = some (.struct fs)) (hA : CellsAt w' A 0 cs) (hseg : (cs.drop j).take m = seg) (hs : (P.info? t).map (·.size) = some seg.length) :
    Runs P env ⟨D, .load t x, ty, pos, after, gd⟩ w' (.agg seg.toArray) w' := by
  subst hseg
  exact fun ρ hρ => runs_lds (d := D) (ty := ty) (pos := pos) (after := after) _ hx hu w' (hA.sub j m) hs ρ hρ
theorem rn_fa {gd : Option (Nat × Bool)} {s : TypeId} {x : Operand} {f : Nat} {ty : TypeId} {pos : String} {after : Array Edge} {D : Option Tmp} {A : Addr} {j j' : Nat} {fields : Array Field} {fd : Field} {sz : Nat} (hx : ev env x = some (ptr A j))
    (hu : P.underlying s = some (.struct fields)) (hf : fields[f]? = some fd) (hs : (P.info? fd.type).map (·.size) = some sz) (h0 : sz ≠ 0) (hj : j + fd.offset = j') (w' : World) : Runs P env ⟨D, .fieldAddr s x f, ty, pos, after, gd⟩ w' (ptr A j') w' := by
  subst hj
  intro ρ hρ
  have h1 := hρ x _ hx
  simp [execOp, Instr.fieldAt, h1, run_underlying hu, hf, Instr.sureAddr, fieldPlace, run_sizeOf hs, h0, add_add]
theorem EA.of {v : Value} {i : Int} {y : α} (hc : d.C w v xs) (hat : atI xs i = some y) : ∃ ad, EA v i d.sz ad := by
  obtain ⟨h0, h1, h2⟩ := atI_some hat
  obtain ⟨A, c, rfl, h3, _, h4⟩ := hc
  obtain ⟨ad, cs, rfl, h6, h7⟩ := h4 _ _ h2
  exact ⟨_, ad, _, c, rfl, h0, h1, rfl⟩
theorem rn_ix {gd : Option (Nat × Bool)} {t e ty : TypeId} {x ix : Operand} {pos : String} {after : Array Edge} {D : Option Tmp} {k0 : IntKind} {i : Int} {v : Value} {ad : Addr} {sz : Nat} (hx : ev env x = some v) (hi : ev env ix = some (.int k0 i)) (he : EA v i sz ad)
    (hu : P.underlying t = some (.slice e)) (hs : (P.info? e).map (·.size) = some sz) (w' : World) : Runs P env ⟨D, .indexAddr t x ix, ty, pos, after, gd⟩ w' (ptr ad 0) w' := by
  obtain ⟨A0, m, c, rfl, h0, h1, rfl⟩ := he
  obtain ⟨j, rfl⟩ := Int.eq_ofNat_of_zero_le h0
  have h2 : ptr (A0.add ((j : Int).toNat * sz)) 0 = .pointer (some (A0.add (j * sz))) := by
    show Value.pointer (some ((A0.add _).add 0)) = _
    rw [add_add]; rfl
  rw [h2]
  exact fun ρ hρ => runs_ix (d := D) (ty := ty) (pos := pos) (after := after) hx hi hu hs (by omega) w' ρ hρ
theorem rn_len {gd : Option (Nat × Bool)} {x : Operand} {t e ty : TypeId} {pos : String} {after : Array Edge} {D : Option Tmp} {v : Value} {m : Nat} (hx : ev env x = some v) (hv : ∃ A c, v = .slice A m c) (hu : P.underlying t = some (.slice e)) (w' : World) : Runs P env ⟨D, .call { callee := .builtin .len, args := #[x], argTypes := #[t] }, ty, pos, after, gd⟩ w' (vi (m : Int)) w' := by
  obtain ⟨A, c, rfl⟩ := hv
  intro ρ hρ
  have := hρ x _ hx
  simp [execOp, resolve, invoke, builtin, Builtin.len_, this, run_underlying hu, goInt]
theorem K2.C.sl {v : Value} (hc : d.C w v xs) : ∃ A c, v = .slice A xs.length c := by
  obtain ⟨A, c, h, _⟩ := hc
  exact ⟨A, c, h⟩
theorem DR.done (hr : (Region.ready .any ops l == []) = true) (h : Q .normal env w) : DR P n ops Q S ds fuel l env w := fun a ha => done_ hr ⟨env, ha, h⟩
end
end Go.Proofs.Ytcolndejambcmaa.Ew
