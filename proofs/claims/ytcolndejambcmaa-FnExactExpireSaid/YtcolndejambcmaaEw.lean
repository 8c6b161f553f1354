/- A walk over the machine's code in terms of what the slots hold (a list of slots and values), so that a step costs little: the rules, each shown once from the kit's own rules. -/
import Derived.Test.YtcolndejambcmaaWWords
import Derived.Test.YtcolndejambcmaaWLast
namespace Go.Proofs.Ytcolndejambcmaa.Ew
open Go.RowKit Go.Proofs.YtcolndejambcmaaW.PrintWords Go.Proofs.YtcolndejambcmaaW.PrintLast
set_option linter.unusedVariables false
set_option linter.unusedSimpArgs false

abbrev Env := List (Nat × Value)
def lk : Env → Nat → Option Value
  | [], _ => none
  | (k, v) :: r, t => bif Nat.beq k t then some v else lk r t
theorem lk_cons (k : Nat) (v : Value) (r : Env) (t : Nat) : lk ((k, v) :: r) t = if k = t then some v else lk r t := by
  show (bif Nat.beq k t then some v else lk r t) = _
  by_cases h : k = t
  · subst h; simp
  · have : Nat.beq k t = false := by
      cases hb : Nat.beq k t with
      | false => rfl
      | true => exact absurd (Nat.eq_of_beq_eq_true hb) h
    simp [this, h]
/-- The frame has n slots, no deferred call, and its slots hold what e lists. -/
structure Has (n : Nat) (e : Env) (a : Act) : Prop where
  size : a.tmps.size = n
  nod : a.defers = []
  get : ∀ t v, lk e t = some v → a.tmps.getD t undef = v
def Sub : Env → Env → Prop
  | [], _ => True
  | (t, v) :: r, e => lk e t = some v ∧ Sub r e
theorem Sub.get {e' e : Env} (h : Sub e' e) : ∀ t v, lk e' t = some v → lk e t = some v := by
  induction e' with
  | nil => intro t v h; simp [lk] at h
  | cons p r ih =>
    obtain ⟨k, u⟩ := p
    obtain ⟨h1, h2⟩ := h
    intro t v hl
    rw [lk_cons] at hl
    by_cases hk : k = t
    · subst hk
      rw [if_pos rfl] at hl
      injection hl with hl
      subst hl
      exact h1
    · rw [if_neg hk] at hl
      exact ih h2 t v hl
theorem Has.sub {n : Nat} {e' e : Env} {a : Act} (h : Has n e a) (hs : Sub e' e) : Has n e' a := ⟨h.size, h.nod, fun t v hl => h.get t v (hs.get t v hl)⟩
theorem Has.put {n : Nat} {e : Env} {a : Act} (h : Has n e a) {d : Nat} (hd : d < n) (v : Value) : Has n ((d, v) :: e) (a.put (some d) v) := by
  refine ⟨by simpa [Act.put] using h.size, h.nod, fun t u hl => ?_⟩
  rw [lk_cons] at hl
  by_cases hk : d = t
  · subst hk
    rw [if_pos rfl] at hl
    injection hl with hl
    subst hl
    have : d < a.tmps.size := by rw [h.size]; exact hd
    simp [Act.put, this]
  · rw [if_neg hk] at hl
    have := h.get t u hl
    simpa [Act.put, Array.getElem?_setIfInBounds_ne hk] using this
def ev (e : Env) : Operand → Option Value
  | .tmp t => lk e t
  | .const v => some v
  | .global g => some (.pointer (some ⟨g, 0, none⟩))
  | .func f => some (.func (.func f) #[] #[])
def Agree (e : Env) (ρ : Operand → Value) : Prop := ∀ x u, ev e x = some u → ρ x = u
theorem Has.agree {n : Nat} {e : Env} {a : Act} (h : Has n e a) : Agree e a.eval := by
  intro x u hx
  cases x with
  | tmp t => exact h.get t u hx
  | const v => injection hx
  | global g => injection hx
  | func f => injection hx

section
variable {P : Program} {n : Nat}
/-- What is asked of an end: a panic, or being outgrown, is none. -/
def lift (n : Nat) (Q : Exit → Env → World → Prop) : Exit → Act → World → Prop
  | .panic _, _, _ => False
  | .outgrown, _, _ => False
  | e, a, w => ∃ env, Has n env a ∧ Q e env w
def EW (P : Program) (n : Nat) (c : Code) (Q : Exit → Env → World → Prop) (env : Env) (w : World) : Prop := ∀ a, Has n env a → c.wp P (lift n Q) a w
def thenE (K : Env → World → Prop) (Q : Exit → Env → World → Prop) : Exit → Env → World → Prop
  | .normal, e, w => K e w
  | x, e, w => Q x e w
def inBlockE (id : Nat) (Q : Exit → Env → World → Prop) : Exit → Env → World → Prop
  | .exit id', e, w => if id' = id then Q .normal e w else Q (.exit id') e w
  | x, e, w => Q x e w
variable {Q : Exit → Env → World → Prop} {env : Env} {w : World}
theorem EW.sub {c : Code} {env' : Env} (hs : Sub env' env) (h : EW P n c Q env' w) : EW P n c Q env w := fun a ha => h a (ha.sub hs)
theorem EW.skip (h : Q .normal env w) : EW P n .skip Q env w := fun a ha => wp_skip ⟨env, ha, h⟩
theorem EW.exit {id : Nat} (h : Q (.exit id) env w) : EW P n (.exit id) Q env w := fun a ha => wp_exit ⟨env, ha, h⟩
theorem EW.ret (h : Q .ret env w) : EW P n .ret Q env w := fun a ha => wp_ret ⟨env, ha, h⟩
theorem EW.seq {x y : Code} (h : EW P n x (thenE (EW P n y Q) Q) env w) : EW P n (.seq x y) Q env w := by
  intro a ha
  refine wp_seq (wp_mono (h a ha) ?_)
  intro e a' w' hq
  cases e with
  | normal => obtain ⟨env', h1, h2⟩ := hq; exact h2 a' h1
  | exit id => exact hq
  | goto l => exact hq
  | ret => exact hq
  | panic c => exact hq
  | outgrown => exact hq
theorem EW.block {id : Nat} {c : Code} (h : EW P n c (inBlockE id Q) env w) : EW P n (.block id c) Q env w := by
  intro a ha
  refine wp_block (wp_mono (h a ha) ?_)
  intro e a' w' hq
  cases e with
  | exit id' =>
    obtain ⟨env', h1, h2⟩ := hq
    by_cases hid : id' = id
    · simp only [Exit.inBlock, inBlockE, hid, if_true] at h2 ⊢
      exact ⟨env', h1, h2⟩
    · simp only [Exit.inBlock, inBlockE, hid, if_false] at h2 ⊢
      exact ⟨env', h1, h2⟩
  | normal => exact hq
  | goto l => exact hq
  | ret => exact hq
  | panic c => exact hq
  | outgrown => exact hq
theorem EW.cond {c : Operand} {x y : Code} {b : Bool} (hc : ev env c = some (.bool b)) (ht : b = true → EW P n x Q env w) (hf : b = false → EW P n y Q env w) : EW P n (.cond c x y) Q env w := by
  intro a ha
  exact wp_cond_split (ha.agree c _ hc) (fun h => ht h a ha) (fun h => hf h a ha)
theorem thenE_n {K : Env → World → Prop} {Q : Exit → Env → World → Prop} (h : K env w) : thenE K Q .normal env w := h
theorem thenE_r {K : Env → World → Prop} {Q : Exit → Env → World → Prop} (h : Q .ret env w) : thenE K Q .ret env w := h
theorem thenE_x {K : Env → World → Prop} {Q : Exit → Env → World → Prop} {id : Nat} (h : Q (.exit id) env w) : thenE K Q (.exit id) env w := h
theorem inB_n {id : Nat} {Q : Exit → Env → World → Prop} (h : Q .normal env w) : inBlockE id Q .normal env w := h
theorem inB_r {id : Nat} {Q : Exit → Env → World → Prop} (h : Q .ret env w) : inBlockE id Q .ret env w := h
theorem inB_x {id : Nat} {Q : Exit → Env → World → Prop} (h : Q .normal env w) : inBlockE id Q (.exit id) env w := by
  show (if id = id then Q .normal env w else Q (.exit id) env w)
  rw [if_pos rfl]; exact h
theorem inB_y {id id' : Nat} (hne : id' ≠ id) {Q : Exit → Env → World → Prop} (h : Q (.exit id') env w) : inBlockE id Q (.exit id') env w := by
  show (if id' = id then Q .normal env w else Q (.exit id') env w)
  rw [if_neg hne]; exact h
/-- A loop: an invariant I that bears a number, which each round lowers. -/
theorem EW.loop {c : Code} (I : Nat → Env → World → Prop) (m : Nat) (e0 : Env) (hs : Sub e0 env) (h0 : I m e0 w)
    (round : ∀ m e w, I m e w → EW P n c (thenE (fun e1 w1 => ∃ m' e', m' < m ∧ Sub e' e1 ∧ I m' e' w1) Q) e w) : EW P n (.loop c) Q env w := by
  intro a ha
  refine wp_loop_ghost (fun m a w => ∃ e, Has n e a ∧ I m e w) m ⟨e0, ha.sub hs, h0⟩ ?_
  rintro m a w ⟨e, h1, h2⟩
  refine wp_mono (round m e w h2 a h1) ?_
  intro x a' w' hq
  cases x with
  | normal =>
    obtain ⟨e1, h3, m', e', h4, h5, h6⟩ := hq
    exact ⟨m', h4, e', h3.sub h5, h6⟩
  | exit id => exact hq
  | goto l => exact hq
  | ret => exact hq
  | panic c => exact hq
  | outgrown => exact hq

/-! ### a region that does not draw -/
def EL (P : Program) (n : Nat) (ops : Array Oper) (Q : Exit → Env → World → Prop) (l : List Oper) (env : Env) (w : World) : Prop := ∀ a, Has n env a → wpList P ops (lift n Q) l a w
theorem EW.region {id : Nat} {l : List Oper} (h : EL P n l.toArray Q l env w) : EW P n (.region id l.toArray false) Q env w := fun a ha => wp_region_list (by simpa using h a ha)
variable {ops : Array Oper} {rest : List Oper} {o : Oper}
theorem EL.nil (h : Q .normal env w) : EL P n ops Q [] env w := fun a ha => wpList_nil ⟨env, ha, h⟩
theorem EL.sub {env' : Env} {l : List Oper} (hs : Sub env' env) (h : EL P n ops Q l env' w) : EL P n ops Q l env w := fun a ha => h a (ha.sub hs)
/-- From what the slots hold operation o comes to the value v and the world w'. -/
def Runs (P : Program) (e : Env) (o : Oper) (w : World) (v : Value) (w' : World) : Prop := ∀ ρ, Agree e ρ → (execOp ρ o).run P w = .ok (.value v) w'
theorem EL.val {d : Nat} {v : Value} {w' : World} (hr : Runs P env o w v w') (hg : o.guard = none) (hd : o.dst = some d) (hn : d < n) (h : EL P n ops Q rest ((d, v) :: env) w') : EL P n ops Q (o :: rest) env w := by
  intro a ha
  refine wpList_plain hg fun K hK => ?_
  unfold Oper.wp
  rw [hr a.eval ha.agree]
  rw [Oper.upon_value, hd]
  exact hK _ _ (h _ (ha.put hn v))
/-- An operation without a result. -/
def RunsU (P : Program) (e : Env) (o : Oper) (w : World) (w' : World) : Prop := ∀ ρ, Agree e ρ → (execOp ρ o).run P w = .ok .skip w'
theorem EL.unit {w' : World} (hr : RunsU P env o w w') (hg : o.guard = none) (hd : o.dst = none) (h : EL P n ops Q rest env w') : EL P n ops Q (o :: rest) env w := by
  intro a ha
  refine wpList_plain hg fun K hK => ?_
  unfold Oper.wp
  rw [hr a.eval ha.agree]
  rw [Oper.upon_skip, hd]
  exact hK _ _ (h a ha)
/-- A call of a Go function by its contract. -/
theorem EL.call {f : FuncId} {fn : Func} {as : Array Operand} {ts : Array TypeId} (hop : o.op = .call { callee := .value (.func f), args := as, argTypes := ts }) (args : List Value) (hargs : as.toList.map (ev env) = args.map some) (hf : P.funcs[f]? = some fn) (hname : (fn.name == "runtime.NumGoroutine") = false) (hb : fn.body.isSome = true)
    (hg : o.guard = none) {d : Nat} (hd : o.dst = some d) (hn : d < n) (h : Calls P f args.toArray w fun e w' => ∃ v, e = .returned v ∧ EL P n ops Q rest ((d, v) :: env) w') : EL P n ops Q (o :: rest) env w := by
  intro a ha
  have hev : as.map a.eval = args.toArray := by
    have h2 : ∀ (l : List Operand) (r : List Value), l.map (ev env) = r.map some → l.map a.eval = r := by
      intro l
      induction l with
      | nil => intro r hr; cases r with | nil => rfl | cons _ _ => simp at hr
      | cons x l ih =>
        intro r hr
        cases r with
        | nil => simp at hr
        | cons y r =>
          simp only [List.map_cons, List.cons.injEq] at hr ⊢
          exact ⟨ha.agree x y hr.1, ih r hr.2⟩
    apply Array.toList_inj.1
    simpa using h2 _ _ hargs
  refine goesL_ (some d) hd hg hf hname hb args.toArray hop hev ?_
  refine h.mono ?_
  rintro e w' ⟨v, he, hv⟩
  exact ⟨v, he, hv _ (ha.put hn v)⟩
/-- A guarded operation that is passed over. -/
theorem EL.off {j t d : Nat} {b want : Bool} (hg : o.guard = some (j, want)) (ht : (ops[j]?).bind (·.dst) = some t) (hv : lk env t = some (.bool b)) (hb : b ≠ want) (htn : t < n) (hd : o.dst = some d) (hn : d < n) (h : EL P n ops Q rest ((d, undef) :: env) w) : EL P n ops Q (o :: rest) env w := by
  intro a ha
  have h1 : a.tmps.getD t undef = .bool b := ha.get t _ hv
  have hlt : t < a.tmps.size := by rw [ha.size]; exact htn
  have hy : yielded ops a.tmps j = some b := by
    unfold yielded
    rw [ht]
    simp [hlt] at h1 ⊢
    rw [h1]
  refine wpList_step fun K hK => ?_
  have : Region.wanted o (yielded ops a.tmps) = false := by
    unfold Region.wanted
    rw [hg]
    simp only [hy]
    simpa using hb
  rw [this, hd]
  exact hK _ _ (h _ (ha.put hn _))
theorem EL.on {j t d : Nat} {v : Value} {w' : World} {b want : Bool} (hr : Runs P env o w v w') (hg : o.guard = some (j, want)) (ht : (ops[j]?).bind (·.dst) = some t) (hv : lk env t = some (.bool b)) (hb : b = want) (htn : t < n) (hd : o.dst = some d) (hn : d < n) (h : EL P n ops Q rest ((d, v) :: env) w') : EL P n ops Q (o :: rest) env w := by
  intro a ha
  have h1 : a.tmps.getD t undef = .bool b := ha.get t _ hv
  have hlt : t < a.tmps.size := by rw [ha.size]; exact htn
  have hy : yielded ops a.tmps j = some b := by
    unfold yielded
    rw [ht]
    simp [hlt] at h1 ⊢
    rw [h1]
  refine wpList_step fun K hK => ?_
  have : Region.wanted o (yielded ops a.tmps) = true := by
    unfold Region.wanted
    rw [hg]
    simp only [hy, hb]
    simp
  rw [this]
  unfold Oper.wp
  rw [hr a.eval ha.agree]
  simp only [if_true]
  rw [Oper.upon_value, hd]
  exact hK _ _ (h _ (ha.put hn v))

/-! ### into a function, and its end -/
def resE (fn : Func) (env : Env) : Option Value :=
  match fn.results.toList with
  | [] => some (.tuple #[])
  | [.tmp t] => lk env t
  | [.tmp t, .tmp u] => match lk env t, lk env u with | some x, some y => some (.tuple #[x, y]) | _, _ => none
  | [.tmp t, .tmp u, .tmp s] => match lk env t, lk env u, lk env s with | some x, some y, some z => some (.tuple #[x, y, z]) | _, _, _ => none
  | _ => none
theorem resE_run {fn : Func} {env : Env} {v : Value} (h : resE fn env = some v) {a : Act} (ha : Has n env a) (w : World) : (results fn a.tmps).run P w = .ok v w := by
  obtain ⟨rs, hrs⟩ : ∃ rs, fn.results = rs := ⟨_, rfl⟩
  have hr2 : fn.results = rs.toList.toArray := by rw [hrs]
  unfold resE at h
  rw [hrs] at h
  generalize rs.toList = l at h hr2
  match l, h, hr2 with
  | [], h, hr2 => injection h with h; subst h; simp [results, hr2]
  | [.tmp t], h, hr2 => have := ha.get t _ h; simp [results, hr2] at this ⊢; exact this
  | [.tmp t, .tmp u], h, hr2 =>
    cases h1 : lk env t <;> cases h2 : lk env u <;> simp only [h1, h2] at h <;> try (injection h)
    rename_i x y h
    subst h
    have k1 := ha.get t _ h1
    have k2 := ha.get u _ h2
    simp [results, hr2] at k1 k2 ⊢
    exact ⟨k1, k2⟩
  | [.tmp t, .tmp u, .tmp s], h, hr2 =>
    cases h1 : lk env t <;> cases h2 : lk env u <;> cases h3 : lk env s <;> simp only [h1, h2, h3] at h <;> try (injection h)
    rename_i x y z h
    subst h
    have k1 := ha.get t _ h1
    have k2 := ha.get u _ h2
    have k3 := ha.get s _ h3
    simp [results, hr2] at k1 k2 k3 ⊢
    exact ⟨k1, k2, k3⟩
/-- The function's result, read off the slots (and the memory). -/
def Res (P : Program) (fn : Func) (env : Env) (w : World) (v : Value) : Prop := ∀ (n : Nat) (a : Act), Has n env a → (results fn a.tmps).run P w = .ok v w
theorem res {fn : Func} {env : Env} {w : World} {v : Value} (h : resE fn env = some v) : Res P fn env w v := fun n a ha => resE_run h ha w
inductive ValsE (P : Program) (env : Env) (w : World) : List ResultVar → List Value → Prop where
  | nil : ValsE P env w [] []
  | tmp {u : Tmp} {rs : List ResultVar} {v : Value} {vs : List Value} (hv : lk env u = some v) (h : ValsE P env w rs vs) : ValsE P env w (.tmp u :: rs) (v :: vs)
  | cell {p : Tmp} {ty : TypeId} {rs : List ResultVar} {vs : List Value} {g : Nat} {t : TypeId} {cs : Array Value} {fs : Array Field}
      (hp : lk env p = some (.pointer (some ⟨g, 0, none⟩))) (hg : w.heap[g]? = some (.cells cs t (0, 0)))
      (hu : P.underlying ty = some (.struct fs)) (hi : (P.info? ty).map (·.size) = some cs.size)
      (h : ValsE P env w rs vs) : ValsE P env w (.cell p ty :: rs) (.agg cs :: vs)
theorem ValsE.vals {env : Env} {w : World} {rs : List ResultVar} {vs : List Value} (h : ValsE P env w rs vs) {a : Act} (ha : Has n env a) : Vals P a.tmps w rs vs := by
  induction h with
  | nil => exact .nil
  | tmp hv h ih => rw [← ha.get _ _ hv]; exact .tmp ih
  | cell hp hg hu hi h ih => exact .cell _ _ _ _ _ (ha.get _ _ hp) hg hu rfl hi ih
theorem res1 {fn : Func} {env : Env} {w : World} {r : ResultVar} {v : Value} (h : fn.results = #[r]) (hv : ValsE P env w [r] [v]) : Res P fn env w v := fun n a ha => results_single h (hv.vals ha)
theorem resn {fn : Func} {env : Env} {w : World} {rs : List ResultVar} {vs : List Value} (h : fn.results = rs.toArray) (hl : vs.length ≠ 1) (hv : ValsE P env w rs vs) : Res P fn env w (.tuple vs.toArray) := fun n a ha => results_list h hl (hv.vals ha)
def fnPost (P : Program) (fn : Func) (R : Ending → World → Prop) : Exit → Env → World → Prop
  | .normal, env, w | .ret, env, w => ∃ v, Res P fn env w v ∧ R (.returned v) w
  | _, _, _ => False
def envOf : Nat → List Value → Env
  | _, [] => []
  | i, v :: r => (i, v) :: envOf (i + 1) r
theorem envOf_get : ∀ (l : List Value) (i t : Nat) (v : Value), lk (envOf i l) t = some v → i ≤ t ∧ l[t - i]? = some v
  | [], i, t, v, h => by simp [envOf, lk] at h
  | u :: r, i, t, v, h => by
    rw [envOf, lk_cons] at h
    by_cases hk : i = t
    · subst hk
      rw [if_pos rfl] at h
      simpa using h
    · rw [if_neg hk] at h
      obtain ⟨h1, h2⟩ := envOf_get r (i + 1) t v h
      refine ⟨by omega, ?_⟩
      have : t - i = (t - (i + 1)) + 1 := by omega
      rw [this]
      simpa using h2
theorem calls_of_EW {f : FuncId} {fn : Func} {c : Code} {args : List Value} {R : Ending → World → Prop} (hf : P.funcs[f]? = some fn) (hb : fn.body = some c) (hn : fn.ntmps = n) (hl : args.length ≤ n)
    (h : EW P n c (fnPost P fn R) (envOf 0 args) w) : Calls P f args.toArray w R := by
  refine calls_of_wp hf hb ?_
  have ha : Has n (envOf 0 args) { tmps := args.toArray ++ Array.replicate (fn.ntmps - args.toArray.size) undef, defers := [] } := by
    refine ⟨by simp [hn]; omega, rfl, fun t v hl => ?_⟩
    obtain ⟨_, h2⟩ := envOf_get args 0 t v hl
    simp only [Nat.sub_zero] at h2
    obtain ⟨h3, h4⟩ := List.getElem?_eq_some_iff.1 h2
    subst h4
    simp [h3]
    rw [Array.getElem?_append_left (by simpa using h3)]
    simp [h3]
  refine wp_mono (h _ ha) ?_
  intro e a' w' hq
  cases e with
  | normal => obtain ⟨env', h1, v, h2, h3⟩ := hq; exact ⟨h1.nod, v, h2 _ _ h1, h3⟩
  | ret => obtain ⟨env', h1, v, h2, h3⟩ := hq; exact ⟨h1.nod, v, h2 _ _ h1, h3⟩
  | exit id => obtain ⟨_, _, h2⟩ := hq; exact h2.elim
  | goto l => obtain ⟨_, _, h2⟩ := hq; exact h2.elim
  | panic c => exact hq.elim
  | outgrown => exact hq.elim
end
end Go.Proofs.Ytcolndejambcmaa.Ew
