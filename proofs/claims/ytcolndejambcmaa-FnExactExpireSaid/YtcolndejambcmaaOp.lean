/- The steps of the walk: one rule for each kind of operation. -/
import Derived.Test.YtcolndejambcmaaEw
namespace Go.Proofs.Ytcolndejambcmaa.Ew
open Go.RowKit Go.Proofs.YtcolndejambcmaaW.PrintWords Go.Proofs.YtcolndejambcmaaW.PrintLast
set_option linter.unusedVariables false
set_option linter.unusedSimpArgs false

theorem bytes_list (a : ByteArray) : a.toList = a.data.toList := ByteArray.toList_eq a
theorem toList_eq (a b : ByteArray) : (a.toList == b.toList) = decide (a = b) := by
  by_cases h : a = b
  · subst h; simp
  · have : a.toList ≠ b.toList := by
      intro he
      apply h
      rw [bytes_list, bytes_list] at he
      cases a; cases b
      simp at he
      simp [he]
    simp [h, this]
def binInt (op : BinOp) (k : IntKind) (x y : Int) : Option Value :=
  match op with
  | .add => some (.int k (k.wrap (x + y)))
  | .sub => some (.int k (k.wrap (x - y)))
  | .mul => some (.int k (k.wrap (x * y)))
  | .eql => some (.bool (decide (x = y)))
  | .neq => some (.bool (!decide (x = y)))
  | .lss => some (.bool (decide (x < y)))
  | .leq => some (.bool (decide (x ≤ y)))
  | .gtr => some (.bool (decide (y < x)))
  | .geq => some (.bool (decide (y ≤ x)))
  | _ => none
def binStr (op : BinOp) (x y : ByteArray) : Option Value :=
  match op with
  | .eql => some (.bool (decide (x = y)))
  | .neq => some (.bool (!decide (x = y)))
  | _ => none
def qbin (op : BinOp) : Option Value → Option Value → Option Value
  | some (.int k a), some (.int k' b) => if k = k' then binInt op k a b else none
  | some (.string a), some (.string b) => binStr op a b
  | _, _ => none
def qun (op : UnOp) : Option Value → Option Value
  | some (.bool b) => (match op with | .not => some (.bool (!b)) | _ => none)
  | some (.int k a) => (match op with | .neg => some (.int k (k.wrap (0 - a))) | _ => none)
  | _ => none
def qnil : Option Value → Option Value
  | some (.pointer (some a)) => some (.pointer (some a))
  | _ => none
def qext (i : Nat) : Option Value → Option Value
  | some (.tuple vs) => vs.toList[i]?
  | _ => none
def qlen : Option Value → Option Value
  | some (.slice _ len _) => some (.int .i64 (len : Int))
  | some (.string s) => some (.int .i64 (s.size : Int))
  | _ => none
def qval (e : Env) : Op → Option Value
  | .move x => ev e x
  | .assign x => ev e x
  | .nilCheck x => qnil (ev e x)
  | .extract x i => qext i (ev e x)
  | .unOp op _ x => qun op (ev e x)
  | .binOp op _ x y _ => qbin op (ev e x) (ev e y)
  | _ => none

section
variable {P : Program} {n : Nat} {Q : Exit → Env → World → Prop} {env : Env} {w : World} {ops : Array Oper} {rest : List Oper}
theorem run_binInt {op : BinOp} {k : IntKind} {a b : Int} {v : Value} (h : binInt op k a b = some v) (t : TypeId) (w : World) : (binOp op t (.int k a) (.int k b)).run P w = .ok v w := by
  cases op <;> simp only [binInt] at h <;> cases h <;> simp [binOp, Op.intArith, Op.intCmp, bne] <;> (by_cases hab : a = b <;> simp [hab])
theorem run_binStr {op : BinOp} {a b : ByteArray} {v : Value} (h : binStr op a b = some v) (t : TypeId) (w : World) : (binOp op t (.string a) (.string b)).run P w = .ok v w := by
  cases op <;> simp only [binStr] at h <;> cases h <;> simp [binOp, Op.stringOp, toList_eq]
theorem qval_runs {o : Oper} {v : Value} (h : qval env o.op = some v) (w : World) : Runs P env o w v w := by
  intro ρ hρ
  obtain ⟨dst, op, ty, pos, after, guard⟩ := o
  simp only at h
  cases op <;> simp only [qval] at h <;> try (cases h; done)
  case move x => simp only [execOp]; rw [hρ x v h]; rfl
  case assign x => simp only [execOp]; rw [hρ x v h]; rfl
  case nilCheck x =>
    cases hx : ev env x with
    | none => rw [hx] at h; simp [qnil] at h
    | some u =>
      rw [hx] at h
      simp only [execOp]
      rw [hρ x u hx]
      cases u <;> simp only [qnil] at h <;> try (cases h; done)
      rename_i a
      cases a with
      | none => simp [qnil] at h
      | some a => simp [qnil] at h; subst h; rfl
  case extract x i =>
    cases hx : ev env x with
    | none => rw [hx] at h; simp [qext] at h
    | some u =>
      rw [hx] at h
      simp only [execOp]
      rw [hρ x u hx]
      cases u <;> simp only [qext] at h <;> try (cases h; done)
      rename_i vs
      have h2 : vs[i]? = some v := by simpa using h
      simp [Instr.extract, h2]
  case unOp op t x =>
    cases hx : ev env x with
    | none => rw [hx] at h; simp [qun] at h
    | some u =>
      rw [hx] at h
      simp only [execOp]
      rw [hρ x u hx]
      cases u <;> simp only [qun] at h <;> try (cases h; done)
      all_goals (cases op <;> simp only at h <;> cases h <;> simp [Op.unary, Op.intArith])
  case binOp op t x y t2 =>
    cases hx : ev env x with
    | none => rw [hx] at h; simp [qbin] at h
    | some u =>
      cases hy : ev env y with
      | none => rw [hx, hy] at h; cases u <;> simp [qbin] at h
      | some u2 =>
        rw [hx, hy] at h
        simp only [execOp]
        rw [hρ x u hx, hρ y u2 hy]
        cases u <;> cases u2 <;> simp only [qbin] at h <;> try (cases h; done)
        · rename_i k a k2 b
          by_cases hk : k = k2
          · subst hk
            rw [if_pos rfl] at h
            have := run_binInt (P := P) h t w; simp [eqGuard, this]
          · rw [if_neg hk] at h; cases h
        · have := run_binStr (P := P) h t w; simp [eqGuard, this]
/-- A move, a comparison, an operation on numbers .. -/
theorem EL.q {o : Oper} {d : Nat} {v : Value} (h : qval env o.op = some v) (hg : o.guard = none) (hd : o.dst = some d) (hn : d < n) (k : EL P n ops Q rest ((d, v) :: env) w) : EL P n ops Q (o :: rest) env w := EL.val (qval_runs h w) hg hd hn k
/-- The same, where the operation's value has been reckoned to be another form's. -/
theorem EL.qv {o : Oper} {d : Nat} {v v' : Value} (h : qval env o.op = some v) (hv : v = v') (hg : o.guard = none) (hd : o.dst = some d) (hn : d < n) (k : EL P n ops Q rest ((d, v') :: env) w) : EL P n ops Q (o :: rest) env w := EL.q (hv ▸ h) hg hd hn k
theorem run_underlying {t : TypeId} {u : TypeDesc} (h : P.underlying t = some u) (w : World) : (underlying t).run P w = .ok u w := by simp [underlying, h]
theorem run_sizeOf {t : TypeId} {s : Nat} (h : (P.info? t).map (·.size) = some s) (w : World) : (sizeOf t).run P w = .ok s w := by
  cases hi : P.info? t with
  | none => rw [hi] at h; simp at h
  | some i => rw [hi] at h; simp at h; simp [sizeOf, typeInfo, hi, h]
theorem EL.len {x : Operand} {t : TypeId} {ty : TypeId} {pos : String} {after : Array Edge} {d : Nat} {A : Option Addr} {len cap : Nat} {e : TypeId} (hx : ev env x = some (.slice A len cap)) (hu : P.underlying t = some (.slice e)) (hn : d < n)
    (k : EL P n ops Q rest ((d, .int .i64 (len : Int)) :: env) w) : EL P n ops Q (⟨some d, .call { callee := .builtin .len, args := #[x], argTypes := #[t] }, ty, pos, after, none⟩ :: rest) env w := by
  refine EL.val (fun ρ hρ => ?_) rfl rfl hn k
  have := hρ x _ hx
  simp [execOp, resolve, invoke, builtin, Builtin.len_, this, run_underlying hu, goInt]
theorem EL.slen {x : Operand} {t : TypeId} {ty : TypeId} {pos : String} {after : Array Edge} {d : Nat} {s : ByteArray} (hx : ev env x = some (.string s)) (hu : P.underlying t = some .string) (hn : d < n)
    (k : EL P n ops Q rest ((d, .int .i64 (s.size : Int)) :: env) w) : EL P n ops Q (⟨some d, .call { callee := .builtin .len, args := #[x], argTypes := #[t] }, ty, pos, after, none⟩ :: rest) env w := by
  refine EL.val (fun ρ hρ => ?_) rfl rfl hn k
  have := hρ x _ hx
  simp [execOp, resolve, invoke, builtin, Builtin.len_, this, run_underlying hu, goInt]
/-- The address of a slice's element. -/
theorem EL.ix {t : TypeId} {x ix : Operand} {ty : TypeId} {pos : String} {after : Array Edge} {d : Nat} {A : Addr} {len cap sz : Nat} {k0 : IntKind} {i : Nat} {e : TypeId} (hx : ev env x = some (.slice (some A) len cap)) (hi : ev env ix = some (.int k0 (i : Int)))
    (hu : P.underlying t = some (.slice e)) (hs : (P.info? e).map (·.size) = some sz) (hlt : i < len) (hn : d < n)
    (k : EL P n ops Q rest ((d, .pointer (some (A.add (i * sz)))) :: env) w) : EL P n ops Q (⟨some d, .indexAddr t x ix, ty, pos, after, none⟩ :: rest) env w := by
  refine EL.val (fun ρ hρ => ?_) rfl rfl hn k
  have h1 := hρ x _ hx
  have h2 := hρ ix _ hi
  have h3 : (i : Int) < (len : Int) := by omega
  simp [execOp, Instr.indexAt, h1, h2, asIntOf, run_underlying hu, run_sizeOf hs, h3]
  intro h; omega
/-- The address of a field. -/
theorem EL.fa {s : TypeId} {x : Operand} {f : Nat} {ty : TypeId} {pos : String} {after : Array Edge} {d : Nat} {A : Addr} {fields : Array Field} {fd : Field} {sz : Nat} (hx : ev env x = some (.pointer (some A)))
    (hu : P.underlying s = some (.struct fields)) (hf : fields[f]? = some fd) (hs : (P.info? fd.type).map (·.size) = some sz) (h0 : sz ≠ 0) (hn : d < n)
    (k : EL P n ops Q rest ((d, .pointer (some (A.add fd.offset))) :: env) w) : EL P n ops Q (⟨some d, .fieldAddr s x f, ty, pos, after, none⟩ :: rest) env w := by
  refine EL.val (fun ρ hρ => ?_) rfl rfl hn k
  have h1 := hρ x _ hx
  simp [execOp, Instr.fieldAt, h1, run_underlying hu, hf, Instr.sureAddr, fieldPlace, run_sizeOf hs, h0]
/-- A load of one cell. -/
theorem EL.ld {t : TypeId} {x : Operand} {ty : TypeId} {pos : String} {after : Array Edge} {d : Nat} {A : Addr} {v : Value} {u : TypeDesc} (hx : ev env x = some (.pointer (some A))) (hu : P.underlying t = some u) (h1 : ∀ fs, u ≠ .struct fs) (h2 : ∀ m e, u ≠ .array m e)
    (hc : w.cell? A = some v) (hn : d < n)
    (k : EL P n ops Q rest ((d, v) :: env) w) : EL P n ops Q (⟨some d, .load t x, ty, pos, after, none⟩ :: rest) env w := by
  refine EL.val (fun ρ hρ => ?_) rfl rfl hn k
  have h3 := hρ x _ hx
  have h4 : (isAgg t).run P w = .ok false w := by
    unfold isAgg
    simp [run_underlying hu]
  simp [execOp, Instr.loadAt, h3, Instr.sureAddr, loadVar, h4, hc]
/-! ### a region that draws its order -/
/-- Whatever order comes up from here on; S holds behind each operation. l: what has come up. -/
def ED (P : Program) (n : Nat) (ops : Array Oper) (Q : Exit → Env → World → Prop) (S : World → Prop) (fuel : Nat) (l : Array Bool) (env : Env) (w : World) : Prop := ∀ a, Has n env a → wpAnyLast P .any ops (lift n Q) S [] fuel l a w
theorem EW.draw {id m : Nat} (hm : P.follows .mixedOrders = true) (hn : ops.size = m) (S : World → Prop) (hS : S w.drew) (h : ED P n ops Q S m (Array.replicate m false) env w.drew) : EW P n (.region id ops true) Q env w := by
  intro a ha
  exact start_ _ hm hn rfl hS (fun _ => h a ha)
theorem lift_panic {c : List PanicEntry} {a : Act} {x : Option Tmp} {v : Value} {w : World} : lift n Q (.panic c) (a.put x v) w → lift n Q (.panic c) a w := fun h => h
variable {S : World → Prop} {fuel : Nat} {l : Array Bool}
/-- An operation that yields whatever the world is taken first. -/
theorem ED.q (i : Nat) {o : Oper} {d : Nat} {v : Value} (hi : ops[i]? = some o) (h : qval env o.op = some v) (hg : o.guard = none) (hd : o.dst = some d) (hn : d < n) (hc : anyB .any ops l (l.setIfInBounds i true) i = true)
    (k : ED P n ops Q S fuel (l.setIfInBounds i true) ((d, v) :: env) w) : ED P n ops Q S (fuel + 1) l env w := by
  intro a ha
  refine pure_ (i := i) (N := some d) (v := v) (a' := _) _ hi hd hc (fun _ _ _ h => h) (Or.inl ⟨by simp [Region.wanted, hg], fun w' => qval_runs h w' a.eval ha.agree⟩) rfl (k _ (ha.put hn v))
/-- An operation that yields in every world of which S holds is taken first. -/
theorem ED.take (i : Nat) {o : Oper} {d : Nat} {v : Value} (hi : ops[i]? = some o) (h : ∀ w', S w' → Runs P env o w' v w') (hg : o.guard = none) (hd : o.dst = some d) (hn : d < n) (hc : takeB .any ops [] l (l.setIfInBounds i true) i = true) (hS : S w)
    (k : ED P n ops Q S fuel (l.setIfInBounds i true) ((d, v) :: env) w) : ED P n ops Q S (fuel + 1) l env w := by
  intro a ha
  refine take_ (i := i) (N := some d) (v := v) (a' := _) _ hi hd hc (fun _ _ _ h => h) (Or.inl ⟨by simp [Region.wanted, hg], fun w' hw => h w' hw a.eval ha.agree⟩) hS rfl (k _ (ha.put hn v))
/-- The one operation that may come up next is a call. -/
theorem ED.call (i : Nat) {o : Oper} {f : FuncId} {fn : Func} {as : Array Operand} {ts : Array TypeId} {d : Nat} (hi : ops[i]? = some o) (hop : o.op = .call { callee := .value (.func f), args := as, argTypes := ts }) (args : List Value) (hargs : as.toList.map (ev env) = args.map some) (hf : P.funcs[f]? = some fn) (hname : (fn.name == "runtime.NumGoroutine") = false) (hb : fn.body.isSome = true)
    (hg : o.guard = none) (hd : o.dst = some d) (hn : d < n) (hc : readyB .any ops l (l.setIfInBounds i true) i = true)
    (h : Calls P f args.toArray w fun e w' => ∃ v, e = .returned v ∧ S w' ∧ ED P n ops Q S fuel (l.setIfInBounds i true) ((d, v) :: env) w') : ED P n ops Q S (fuel + 1) l env w := by
  intro a ha
  have hev : as.map a.eval = args.toArray := by
    have h2 : ∀ (l : List Operand) (r : List Value), l.map (ev env) = r.map some → l.map a.eval = r := by
      intro l
      induction l with
      | nil => intro r hr; cases r with | nil => rfl | cons _ _ => simp at hr
      | cons x l ih =>
        intro r hr
        cases r with
        | nil => simp at hr
        | cons y r =>
          simp only [List.map_cons, List.cons.injEq] at hr ⊢
          exact ⟨ha.agree x y hr.1, ih r hr.2⟩
    apply Array.toList_inj.1
    simpa using h2 _ _ hargs
  refine one_ (i := i) (N := some d) _ hi hd hc (by simp) (fun K hK => ?_)
  refine goes_ hf hname hb args.toArray (by simp [Region.wanted, hg]) hd hop hev ?_
  refine h.mono ?_
  rintro e w' ⟨v, he, hS, hv⟩
  exact ⟨v, he, hK _ _ hS (fun _ => hv _ (ha.put hn v))⟩
theorem ED.done {l : Array Bool} (hr : (Region.ready .any ops l == []) = true) (h : Q .normal env w) : ED P n ops Q S fuel l env w := fun a ha => done_ hr ⟨env, ha, h⟩
theorem runs_ix {t : TypeId} {x ix : Operand} {ty : TypeId} {pos : String} {after : Array Edge} {d : Option Tmp} {A : Addr} {len cap sz : Nat} {k0 : IntKind} {i : Nat} {e : TypeId} (hx : ev env x = some (.slice (some A) len cap)) (hi : ev env ix = some (.int k0 (i : Int)))
    (hu : P.underlying t = some (.slice e)) (hs : (P.info? e).map (·.size) = some sz) (hlt : i < len) (w' : World) : Runs P env ⟨d, .indexAddr t x ix, ty, pos, after, none⟩ w' (.pointer (some (A.add (i * sz)))) w' := by
  intro ρ hρ
  have h1 := hρ x _ hx
  have h2 := hρ ix _ hi
  have h3 : (i : Int) < (len : Int) := by omega
  simp [execOp, Instr.indexAt, h1, h2, asIntOf, run_underlying hu, run_sizeOf hs, h3]
  intro h; omega
theorem runs_fa {s : TypeId} {x : Operand} {f : Nat} {ty : TypeId} {pos : String} {after : Array Edge} {d : Option Tmp} {A : Addr} {fields : Array Field} {fd : Field} {sz : Nat} (hx : ev env x = some (.pointer (some A)))
    (hu : P.underlying s = some (.struct fields)) (hf : fields[f]? = some fd) (hs : (P.info? fd.type).map (·.size) = some sz) (h0 : sz ≠ 0) (w' : World) : Runs P env ⟨d, .fieldAddr s x f, ty, pos, after, none⟩ w' (.pointer (some (A.add fd.offset))) w' := by
  intro ρ hρ
  have h1 := hρ x _ hx
  simp [execOp, Instr.fieldAt, h1, run_underlying hu, hf, Instr.sureAddr, fieldPlace, run_sizeOf hs, h0]
theorem runs_ld {t : TypeId} {x : Operand} {ty : TypeId} {pos : String} {after : Array Edge} {d : Option Tmp} {A : Addr} {v : Value} {u : TypeDesc} (hx : ev env x = some (.pointer (some A))) (hu : P.underlying t = some u) (h1 : ∀ fs, u ≠ .struct fs) (h2 : ∀ m e, u ≠ .array m e) (w' : World)
    (hc : w'.cell? A = some v) : Runs P env ⟨d, .load t x, ty, pos, after, none⟩ w' v w' := by
  intro ρ hρ
  have h3 := hρ x _ hx
  have h4 : (isAgg t).run P w' = .ok false w' := by
    unfold isAgg
    simp [run_underlying hu]
  simp [execOp, Instr.loadAt, h3, Instr.sureAddr, loadVar, h4, hc]
end
end Go.Proofs.Ytcolndejambcmaa.Ew
