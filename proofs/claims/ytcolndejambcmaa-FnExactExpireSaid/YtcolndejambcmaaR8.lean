/- Operations that only compute, each by what it yields. -/
import Derived.Test.YtcolndejambcmaaR7
namespace Go.Proofs.Ytcolndejambcmaa.Ew
open Go.RowKit Go.Proofs.YtcolndejambcmaaW.PrintWords Go.Proofs.YtcolndejambcmaaW.PrintLast
set_option linter.unusedVariables false
set_option linter.unusedSimpArgs false
section
variable {P : Program} {n : Nat} {Q : Exit → Env → World → Prop} {env : Env} {ops : Array Oper} {rest : List Oper} {α : Type} {x y : Operand} {t t2 ty : TypeId} {pos : String} {after : Array Edge} {D : Nat} {a c : Int} {O : Option Tmp}
theorem rn_v {o : Oper} {v : Value} (h : qval env o.op = some v) (w : World) : Runs P env o w v w := qval_runs h w
theorem rn_qv {o : Oper} {v v' : Value} (h : qval env o.op = some v) (hv : v = v') (w : World) : Runs P env o w v' w := hv ▸ qval_runs h w
theorem rn_rem {gd : Option (Nat × Bool)} {k0 : IntKind} (hx : ev env x = some (.int k0 a)) (hy : ev env y = some (.int k0 c)) (hb : c ≠ 0) (w : World) : Runs P env ⟨O, .binOp .rem t x y t2, ty, pos, after, gd⟩ w (.int k0 (a.tmod c)) w := by
  intro ρ hρ
  have h1 := hρ x _ hx
  have h2 := hρ y _ hy
  simp [execOp, eqGuard, h1, h2, binOp, Op.intDiv, hb]
theorem rn_quo {gd : Option (Nat × Bool)} {k0 : IntKind} (hx : ev env x = some (.int k0 a)) (hy : ev env y = some (.int k0 c)) (hb : c ≠ 0) (w : World) : Runs P env ⟨O, .binOp .quo t x y t2, ty, pos, after, gd⟩ w (.int k0 (k0.wrap (a.tdiv c))) w := by
  intro ρ hρ
  have h1 := hρ x _ hx
  have h2 := hρ y _ hy
  simp [execOp, eqGuard, h1, h2, binOp, Op.intDiv, hb]
theorem rn_slen {gd : Option (Nat × Bool)} {s : Str} (hx : ev env x = some (str s)) (hu : P.underlying t = some .string) (w : World) : Runs P env ⟨O, .call { callee := .builtin .len, args := #[x], argTypes := #[t] }, ty, pos, after, gd⟩ w (vi (s.length : Int)) w := by
  intro ρ hρ
  have := hρ x _ hx
  have hs : (⟨s.toArray⟩ : ByteArray).size = s.length := by show s.toArray.size = _; simp
  simp [execOp, resolve, invoke, builtin, Builtin.len_, this, run_underlying hu, goInt, hs]
theorem rn_scat {gd : Option (Nat × Bool)} {p q r : Str} (hx : ev env x = some (str p)) (hy : ev env y = some (str q)) (hc : catS p q = some r) (w : World) : Runs P env ⟨O, .binOp .add t x y t2, ty, pos, after, gd⟩ w (str r) w := by
  obtain ⟨hl, rfl⟩ := catS_some hc
  intro ρ hρ
  have h1 := hρ x _ hx
  have h2 := hρ y _ hy
  have e1 : ∀ s : Str, (⟨s.toArray⟩ : ByteArray).size = s.length := fun s => by show s.toArray.size = _; simp
  have h4 : ((⟨p.toArray⟩ : ByteArray) ++ (⟨q.toArray⟩ : ByteArray)) = ⟨(p ++ q).toArray⟩ := by
    apply ByteArray.ext
    rw [ByteArray.data_append]
    simp
  have h3 : ¬ (IntKind.i64.max < ((p.length : Int) + (q.length : Int))) := by
    have : IntKind.i64.max = 9223372036854775807 := by decide
    rw [this]; omega
  simp [execOp, eqGuard, h1, h2, binOp, Op.stringOp, e1, h4, h3]
  omega
theorem rn_seq {gd : Option (Nat × Bool)} {p q : Str} (hx : ev env x = some (str p)) (hy : ev env y = some (str q)) (w : World) : Runs P env ⟨O, .binOp .eql t x y t2, ty, pos, after, gd⟩ w (vt (decide (p = q))) w :=
  qval_runs (by simp only [qval, hx, hy, qbin, binStr, str_inj]) w
theorem rn_sne {gd : Option (Nat × Bool)} {p q : Str} (hx : ev env x = some (str p)) (hy : ev env y = some (str q)) (w : World) : Runs P env ⟨O, .binOp .neq t x y t2, ty, pos, after, gd⟩ w (vt (!decide (p = q))) w :=
  qval_runs (by simp only [qval, hx, hy, qbin, binStr, str_inj]) w
theorem rn_slt {gd : Option (Nat × Bool)} {p q : Str} (hx : ev env x = some (str p)) (hy : ev env y = some (str q)) (w : World) : Runs P env ⟨O, .binOp .lss t x y t2, ty, pos, after, gd⟩ w (vt (sLt p q)) w := by
  intro ρ hρ
  have h1 := hρ x _ hx
  have h2 := hρ y _ hy
  simp [execOp, eqGuard, h1, h2, binOp, Op.stringOp, sLt, bytes_list]
theorem rn_beq {gd : Option (Nat × Bool)} {p q : Bool} (hx : ev env x = some (vt p)) (hy : ev env y = some (vt q)) (hu : P.underlying t = some .bool) (w : World) : Runs P env ⟨O, .binOp .eql t x y t2, ty, pos, after, gd⟩ w (vt (p == q)) w := by
  intro ρ hρ
  have h1 := hρ x _ hx
  have h2 := hρ y _ hy
  simp [execOp, eqGuard, h1, h2, binOp, run_eq_bool hu]
theorem rn_bne {gd : Option (Nat × Bool)} {p q : Bool} (hx : ev env x = some (vt p)) (hy : ev env y = some (vt q)) (hu : P.underlying t = some .bool) (w : World) : Runs P env ⟨O, .binOp .neq t x y t2, ty, pos, after, gd⟩ w (vt (!(p == q))) w := by
  intro ρ hρ
  have h1 := hρ x _ hx
  have h2 := hρ y _ hy
  simp [execOp, eqGuard, h1, h2, binOp, run_eq_bool hu]
theorem rn_aeq {gd : Option (Nat × Bool)} {xs ys : Array Value} {r : Bool} (hx : ev env x = some (.agg xs)) (hy : ev env y = some (.agg ys)) (hm : P.eqGuardType P.depth t = false) (hr : ∀ w, (Op.equalIn 10000 t (.agg xs) (.agg ys)).run P w = .ok r w) (w : World) : Runs P env ⟨O, .binOp .eql t x y t2, ty, pos, after, gd⟩ w (vt r) w := by
  intro ρ hρ
  have h1 := hρ x _ hx
  have h2 := hρ y _ hy
  simp [execOp, h1, h2, run_eqGuard_agg w _ t x y xs ys hm, run_eql_struct, hr]
theorem rn_ane {gd : Option (Nat × Bool)} {xs ys : Array Value} {r : Bool} (hx : ev env x = some (.agg xs)) (hy : ev env y = some (.agg ys)) (hm : P.eqGuardType P.depth t = false) (hr : ∀ w, (Op.equalIn 10000 t (.agg xs) (.agg ys)).run P w = .ok r w) (w : World) : Runs P env ⟨O, .binOp .neq t x y t2, ty, pos, after, gd⟩ w (vt (!r)) w := by
  intro ρ hρ
  have h1 := hρ x _ hx
  have h2 := hρ y _ hy
  simp [execOp, h1, h2, run_eqGuard_agg w _ t x y xs ys hm, run_neq_struct, hr]
theorem rn_pickT {gd : Option (Nat × Bool)} {z : Operand} {v : Value} (hc : ev env z = some (vt true)) (hx : ev env x = some v) (w : World) : Runs P env ⟨O, .pick z x y, ty, pos, after, gd⟩ w v w := by
  intro ρ hρ
  simp [execOp, hρ z _ hc, hρ x _ hx, asBool]
theorem rn_pickF {gd : Option (Nat × Bool)} {z : Operand} {v : Value} (hc : ev env z = some (vt false)) (hy : ev env y = some v) (w : World) : Runs P env ⟨O, .pick z x y, ty, pos, after, gd⟩ w v w := by
  intro ρ hρ
  simp [execOp, hρ z _ hc, hρ y _ hy, asBool]
theorem rn_sidx {gd : Option (Nat × Bool)} {s : Str} {i : Int} {k0 : IntKind} {p : UInt8} (hx : ev env x = some (str s)) (hi : ev env y = some (.int k0 i)) (hat : atI s i = some p) (hu : P.underlying t = some .string) (w : World) : Runs P env ⟨O, .index t x y, ty, pos, after, gd⟩ w (vb p) w := by
  obtain ⟨h0, h1, h2⟩ := atI_some hat
  intro ρ hρ
  have h3 := hρ x _ hx
  have h4 := hρ y _ hi
  have h5 : (⟨s.toArray⟩ : ByteArray)[i.toNat]? = some p := by
    have hl : i.toNat < s.length := by omega
    have : i.toNat < (⟨s.toArray⟩ : ByteArray).size := by show i.toNat < s.toArray.size; simpa using hl
    rw [getElem?_pos (⟨s.toArray⟩ : ByteArray) i.toNat this]
    show some (s.toArray[i.toNat]) = _
    rw [← h2]; simp [hl]
  simp [execOp, Instr.index, h3, h4, asIntOf, run_underlying hu, h0, h5]
/-- A struct built. -/
theorem rn_bld {gd : Option (Nat × Bool)} {fs : Array Field} {parts : Array (Nat × Operand)} {z : Value} {s by_ : Nat} (vs : List (Nat × Value)) (hp : parts.toList.map (fun p => (p.1, ev env p.2)) = vs.map fun p => (p.1, some p.2)) (hu : P.underlying t = some (.struct fs))
    (hinfo : (P.info? t).map (fun i => (i.zero, i.size, i.bytes)) = some (some z, s, by_)) (ps : List (Nat × Nat)) (hs0 : (P.fieldsOf t).toList.map (fun f => (P.info? f.type).map fun i => (f.offset, i.size)) = ps.map some) {cs : Array Value} (hf : Instr.fill (ps.toArray[·]?) z.cells vs = some cs) (w : World) : Runs P env ⟨O, .build t parts, ty, pos, after, gd⟩ w (.agg cs) w := by
  have hs : fs.toList.map (fun f => (P.info? f.type).map fun i => (f.offset, i.size)) = ps.map some := by
    have e : P.fieldsOf t = fs := by unfold Program.fieldsOf; rw [hu]
    rw [e] at hs0
    exact hs0
  intro ρ hρ
  have h1 : (parts.map fun (p : Nat × Operand) => (p.1, ρ p.2)).toList = vs := by
    rw [Array.toList_map]
    clear hf
    generalize parts.toList = l at hp
    induction l generalizing vs with
    | nil => cases vs with
      | nil => rfl
      | cons _ _ => simp at hp
    | cons p l ih => cases vs with
      | nil => simp at hp
      | cons q vs =>
        rw [List.map_cons, List.map_cons] at hp
        injection hp with h1 h2
        injection h1 with h3 h4
        rw [List.map_cons, ih _ h2, hρ _ _ h4, h3]
  have h2 : (fs.mapM fun f => (Prod.mk f.offset <$> sizeOf f.type : Sem (Nat × Nat))).run P w = .ok ps.toArray w := by
    rw [Array.mapM_eq_mapM_toList]
    simp [run_places hs w]
  have h4 : (zeroValue t).run P w = .ok z w := run_zero hinfo w
  simp only [Array.toList_map] at h1
  have h5 : Instr.fill (fun x => ps[x]?) z.cells vs = some cs := by simpa using hf
  simp [execOp, Instr.build, run_underlying hu, h2, h4, h1, h5]
theorem rn_mkf {gd : Option (Nat × Bool)} {f : FuncId} {caps : Array Operand} (vs : List Value) (h : caps.toList.map (ev env) = vs.map some) (w : World) : Runs P env ⟨O, .makeFunc (.func f) #[] caps, ty, pos, after, gd⟩ w (.func (.func f) #[] vs.toArray) w := by
  intro ρ hρ
  have h2 : ∀ (l : List Operand) (r : List Value), l.map (ev env) = r.map some → l.map ρ = r := by
    intro l
    induction l with
    | nil => intro r hr; cases r with | nil => rfl | cons _ _ => simp at hr
    | cons x l ih =>
      intro r hr
      cases r with
      | nil => simp at hr
      | cons y r =>
        simp only [List.map_cons, List.cons.injEq] at hr ⊢
        exact ⟨hρ x y hr.1, ih r hr.2⟩
  have h3 : caps.map ρ = vs.toArray := by
    apply Array.toList_inj.1
    simpa using h2 _ _ h
  simp [execOp, Instr.makeFunc, h3]
end
/-! where an element lies, by its kind -/
section
variable {w : World} {v : Value} {i : Int} {ad : Addr}
theorem Int_at {xs : List Int} {x : Int} (hc : kInt.C w v xs) (he : EA v i 1 ad) (hx : atI xs i = some x) : CellsAt w ad 0 [vi x] := by
  obtain ⟨cs, h1, h2⟩ := K2.C.cells hc he hx
  rwa [Int_K h1] at h2
theorem U8_at {xs : List UInt8} {x : UInt8} (hc : kU8.C w v xs) (he : EA v i 1 ad) (hx : atI xs i = some x) : CellsAt w ad 0 [vb x] := by
  obtain ⟨cs, h1, h2⟩ := K2.C.cells hc he hx
  rwa [U8_K h1] at h2
theorem Str_at {xs : List Str} {x : Str} (hc : kStr.C w v xs) (he : EA v i 1 ad) (hx : atI xs i = some x) : CellsAt w ad 0 [str x] := by
  obtain ⟨cs, h1, h2⟩ := K2.C.cells hc he hx
  rwa [Str_K h1] at h2
theorem Rec_at {xs : List Rec} {x : Rec} (hc : kRec.C w v xs) (he : EA v i 6 ad) (hx : atI xs i = some x) : CellsAt w ad 0 [str x.name, vi x.ty, vi x.ttl, vi x.num, str x.host, str x.text] := by
  obtain ⟨cs, h1, h2⟩ := K2.C.cells hc he hx
  rwa [Rec_K h1] at h2
theorem Que_at {xs : List Que} {x : Que} (hc : kQue.C w v xs) (he : EA v i 2 ad) (hx : atI xs i = some x) : CellsAt w ad 0 [str x.name, vi x.ty] := by
  obtain ⟨cs, h1, h2⟩ := K2.C.cells hc he hx
  rwa [Que_K h1] at h2
theorem Pst_at {xs : List Pst} {x : Pst} (hc : kPst.C w v xs) (he : EA v i 2 ad) (hx : atI xs i = some x) : CellsAt w ad 0 [vi x.addr, str x.apex] := by
  obtain ⟨cs, h1, h2⟩ := K2.C.cells hc he hx
  rwa [Pst_K h1] at h2
theorem Ent_at {e : TypeId} {xs : List Ent} {x : Ent} (hc : (kEnt e).C w v xs) (he : EA v i 6 ad) (hx : atI xs i = some x) : ∃ v1 : Sv, CellsAt w ad 0 [str x.q.name, vi x.q.ty, vi x.kind, sl v1, vi x.rank, vi x.till] ∧ kRec.C w (sl v1) x.l := by
  obtain ⟨cs, h1, h2⟩ := K2.C.cells hc he hx
  obtain ⟨v1, rfl, h3⟩ := Ent_K h1
  exact ⟨v1, h2, h3⟩
theorem Zon_at {e : TypeId} {xs : List Zon} {x : Zon} (hc : (kZon e).C w v xs) (he : EA v i 2 ad) (hx : atI xs i = some x) : ∃ v1 : Sv, CellsAt w ad 0 [str x.apex, sl v1] ∧ kRec.C w (sl v1) x.l := by
  obtain ⟨cs, h1, h2⟩ := K2.C.cells hc he hx
  obtain ⟨v1, rfl, h3⟩ := Zon_K h1
  exact ⟨v1, h2, h3⟩
end
/-- What of the parts that are not handed over a callee may read. -/
theorem rdc {L : List Atom} {is : List Nat} {b' : World} (h : ∀ j a, j ∉ is → nth L j = some a → a.rd b') (j : Nat) (hj : j ∉ is) {α : Type} {d : K2 α} {e : TypeId} {v : Value} {xs : List α} (hn : nth L j = some (.row d e v xs)) : d.C b' v xs := h j _ hj hn
theorem rdb {L : List Atom} {is : List Nat} {b' : World} (h : ∀ j a, j ∉ is → nth L j = some a → a.rd b') (j : Nat) (hj : j ∉ is) {g : Nat} {t : TypeId} {cs : Array Value} (hn : nth L j = some (.blk g t cs)) : CellsAt b' (at0 g) 0 cs.toList := h j _ hj hn
section
variable {P : Program} {n : Nat} {Q : Exit → Env → World → Prop} {env : Env} {w : World}
/-- What holds behind c, wherever it ends normally. -/
theorem EW.cut {c : Code} (M : Env → World → Prop) (h : EW P n c (thenE (fun e w => ∃ e', Sub e' e ∧ M e' w) Q) env w) (k : ∀ e w, M e w → Q .normal e w) : EW P n c Q env w := by
  intro a ha
  refine wp_mono (h a ha) ?_
  intro x a' w' hq
  cases x with
  | normal =>
    obtain ⟨e, h1, e', h2, h3⟩ := hq
    exact ⟨e', h1.sub h2, k _ _ h3⟩
  | exit id => exact hq
  | goto l => exact hq
  | ret => exact hq
  | panic c => exact hq
  | outgrown => exact hq
end
/-- A function value that does as p does (R: what its arguments are). -/
def Clo (P : Program) (fv : Value) (b : World) {α β : Type} (R : World → List Value → α → Prop) (V : β → Value) (p : α → Option β) : Prop :=
  ∃ (f : FuncId) (caps : List Value) (fn : Func), fv = .func (.func f) #[] caps.toArray ∧ P.funcs[f]? = some fn ∧ (fn.name == "runtime.NumGoroutine") = false ∧ fn.body.isSome = true ∧
    ∀ b' w s x args r, p x = some r → Agr b b' → R b' args x → St b' w s [] w → Calls P f (args ++ caps).toArray w fun e w' => ∃ v M, e = .returned v ∧ (v = V r ∧ M = []) ∧ St b' w s M w'
theorem Clo.agr {P : Program} {fv : Value} {b b' : World} {α β : Type} {R : World → List Value → α → Prop} {V : β → Value} {p : α → Option β} (hb : Agr b b') (h : Clo P fv b R V p) : Clo P fv b' R V p := by
  obtain ⟨f, caps, fn, h1, h2, h3, h4, h5⟩ := h
  exact ⟨f, caps, fn, h1, h2, h3, h4, fun b2 w s x args r hp hb2 => h5 b2 w s x args r hp (hb.trans hb2)⟩
theorem app_nil : ∀ L : List Atom, app L [] = L
  | [] => rfl
  | a :: r => by show a :: app r [] = a :: r; rw [app_nil r]
/-- A call of such a value. -/
theorem SL.clo {P : Program} {n : Nat} {Q : Exit → Env → World → Prop} {env : Env} {w : World} {ops : Array Oper} {rest : List Oper} {b w0 : World} {s0 : Nat → Prop} {L : List Atom} (hS : St b w0 s0 L w) {α β : Type} {R : World → List Value → α → Prop} {V : β → Value} {p : α → Option β} {fv : Value} {t D : Nat} {as_ : Array Operand} {ts : Array TypeId} {ty : TypeId} {pos : String} {after : Array Edge} {x : α} {r : β}
    (hf : Clo P fv b R V p) (hp : p x = some r) (args : List Value) (ht : ev env (.tmp t) = some fv) (hargs : as_.toList.map (ev env) = args.map some) (hn : D < n)
    (hR : ∀ b', Agr b b' → Agr b' w → (∀ j a, j ∉ ([] : List Nat) → nth L j = some a → a.rd b') → R b' args x) (k : ∀ w', St b w0 s0 L w' → EL P n ops Q rest ((D, V r) :: env) w') : EL P n ops Q (⟨some D, .call { callee := .value (.tmp t), args := as_, argTypes := ts }, ty, pos, after, none⟩ :: rest) env w := by
  obtain ⟨f, caps, fn, rfl, h2, h3, h4, h5⟩ := hf
  refine SL.callv hS caps args ht hargs h2 h3 h4 hn [] (by simp) (L0 := []) rfl (fun b' s hb hw hrd hS' => h5 b' w s x args r hp hb (hR b' hb hw hrd) hS') ?_
  rintro v M w' ⟨rfl, rfl⟩ hS'
  exact k w' (by rw [show putL L [] [] = L from app_nil L] at hS'; exact hS')
/-- A part of a slice. -/
def SubV (v : Value) (sz lo hi : Nat) (v' : Value) : Prop := ∃ A m c, v = .slice A m c ∧ lo ≤ hi ∧ hi ≤ m ∧ m ≤ c ∧ v' = .slice (if c = lo then A else A.map (·.add (lo * sz))) (hi - lo) (c - lo)
section
variable {P : Program} {n : Nat} {env : Env} {α : Type} {d : K2 α} {v v' : Value} {xs ys : List α} {lo hi : Int}
theorem SubV.of {w : World} (hc : d.C w v xs) (hs : subL xs lo hi = some ys) : ∃ v' : Sv, SubV v d.sz lo.toNat hi.toNat (sl v') := by
  obtain ⟨h0, h1, h2, rfl⟩ := subL_some hs
  obtain ⟨A, c, rfl, h3, _⟩ := hc
  exact ⟨(_, _, _), A, _, c, rfl, by omega, by omega, h3, rfl⟩
theorem K2.C.subv {bb : World} (hc : d.C bb v xs) (hV : SubV v d.sz lo.toNat hi.toNat v') (hs : subL xs lo hi = some ys) : d.C bb v' ys := by
  obtain ⟨h0, h1, h2, rfl⟩ := subL_some hs
  obtain ⟨A, m, c, rfl, g1, g2, g3, rfl⟩ := hV
  exact hc.sub (by omega) (by omega)
theorem rn_sub {gd : Option (Nat × Bool)} {t e ty : TypeId} {x : Operand} {ol oh : Option Operand} {pos : String} {after : Array Edge} {O : Option Tmp} (hx : ev env x = some v) (hV : SubV v d.sz lo.toNat hi.toNat v') (hl : (match ol with | none => lo = 0 | some o => ∃ k0, ev env o = some (.int k0 lo))) (hh : (match oh with | none => hi = (xs.length : Int) | some o => ∃ k0, ev env o = some (.int k0 hi)))
    (hs : subL xs lo hi = some ys) (hu : P.underlying t = some (.slice e)) (hz : (P.info? e).map (·.size) = some d.sz) (hm : ∃ A c, v = .slice A xs.length c) (w : World) : Runs P env ⟨O, .slice t x ol oh none, ty, pos, after, gd⟩ w v' w := by
  obtain ⟨h0, h1, h2, rfl⟩ := subL_some hs
  obtain ⟨A, m, c, rfl, g1, g2, g3, rfl⟩ := hV
  obtain ⟨A', c', hm⟩ := hm
  injection hm with hm1 hm2 hm3
  subst hm1; subst hm2; subst hm3
  intro ρ hρ
  have h6 := hρ x _ hx
  have e1 := run_bounds (P := P) (A := A) (w := w) hρ hl hh h0 h1 h2 g3
  have e3 : (Instr.sliceAt t (.slice A xs.length c) (ol.map ρ) (oh.map ρ) none).run P w = .ok (.slice (if c = lo.toNat then A else A.map (·.add (lo.toNat * d.sz))) (hi.toNat - lo.toNat) (c - lo.toNat)) w := by
    simp [Instr.sliceAt, Instr.slice, run_underlying hu]
    rw [e1]
    simp [run_sizeOf hz]
  simp [execOp, h6]
  rw [e3]
  rfl
theorem rn_ssub {gd : Option (Nat × Bool)} {t ty : TypeId} {x : Operand} {ol oh : Option Operand} {pos : String} {after : Array Edge} {O : Option Tmp} {s r : Str} (hx : ev env x = some (str s)) (hl : (match ol with | none => lo = 0 | some o => ∃ k0, ev env o = some (.int k0 lo))) (hh : (match oh with | none => hi = (s.length : Int) | some o => ∃ k0, ev env o = some (.int k0 hi)))
    (hs : subL s lo hi = some r) (hu : P.underlying t = some .string) (w : World) : Runs P env ⟨O, .slice t x ol oh none, ty, pos, after, gd⟩ w (str r) w := by
  obtain ⟨h0, h1, h2, rfl⟩ := subL_some hs
  intro ρ hρ
  have h3 := hρ x _ hx
  have hsz : (⟨s.toArray⟩ : ByteArray).size = s.length := by show s.toArray.size = _; simp
  have e1 : (Instr.sliceBounds false s.length s.length (ol.map ρ) (oh.map ρ) none).run P w = .ok (lo.toNat, hi.toNat, s.length) w := by
    have := run_bounds (P := P) (A := none) (w := w) hρ hl hh h0 h1 h2 (Nat.le_refl _)
    cases oh with
    | none => cases ol with
      | none => simpa [Instr.sliceBounds] using this
      | some o => simpa [Instr.sliceBounds] using this
    | some o =>
      obtain ⟨k0, hh⟩ := hh
      have h4 := hρ o _ hh
      have h5 : 0 ≤ hi ∧ hi ≤ (s.length : Int) := by omega
      cases ol with
      | none => simp [Instr.sliceBounds, h4, Instr.sliceBound, asIntOf, h5] at this ⊢; exact this
      | some o2 => simp [Instr.sliceBounds, h4, Instr.sliceBound, asIntOf, h5] at this ⊢; exact this
  have e2 := str_extract s lo.toNat hi.toNat
  have e3 : (Instr.sliceAt t (str s) (ol.map ρ) (oh.map ρ) none).run P w = .ok (str ((s.take hi.toNat).drop lo.toNat)) w := by
    simp [Instr.sliceAt, Instr.slice, run_underlying hu, hsz]
    rw [e1]
    simp [e2]
  simp [execOp, h3]
  rw [e3]
  rfl
end
theorem Nest.cons0 {α : Type} {d : K2 α} {w : World} {s : Nat → Prop} {x : α} {cs : List Value} {xs : List α} {css : List (List Value)} (h : d.M w nob x cs) (k : Nest d w nob xs css) : Nest d w s (x :: xs) (cs :: css) := ⟨nob, nob, fun _ h => h.elim, fun _ h => h.elim, h, k⟩
/-- What an element's slice reads as, seen again at another world that w agrees with. -/
theorem cells_eq {w : World} {ad : Addr} {cs cs' : List Value} (h : CellsAt w ad 0 cs) (h' : CellsAt w ad 0 cs') (hl : cs.length = cs'.length) : cs = cs' := by
  refine List.ext_getElem? (fun i => ?_)
  rcases Nat.lt_or_ge i cs.length with hi | hi
  · have h1 := h.get (List.getElem?_eq_getElem hi)
    have h2 := h'.get (List.getElem?_eq_getElem (by omega : i < cs'.length))
    rw [h1] at h2
    rw [List.getElem?_eq_getElem hi, List.getElem?_eq_getElem (by omega : i < cs'.length)]
    exact h2
  · rw [List.getElem?_eq_none (by omega), List.getElem?_eq_none (by omega)]
theorem Ent_nest {b' w : World} {v : Value} {v1 : Sv} {i : Int} {ad : Addr} {e : TypeId} {xs : List Ent} {x : Ent} (hc : (kEnt e).C b' v xs) (he : EA v i 6 ad) (hx : atI xs i = some x) (hA : CellsAt w ad 0 [str x.q.name, vi x.q.ty, vi x.kind, sl v1, vi x.rank, vi x.till]) (hb : Agr b' w) : kRec.C b' (sl v1) x.l := by
  obtain ⟨v2, h1, h2⟩ := Ent_at hc he hx
  have := cells_eq hA (h1.agr hb) rfl
  injection this with _ this
  injection this with _ this
  injection this with _ this
  injection this with this _
  rw [this]; exact h2
theorem Zon_nest {b' w : World} {v : Value} {v1 : Sv} {i : Int} {ad : Addr} {e : TypeId} {xs : List Zon} {x : Zon} (hc : (kZon e).C b' v xs) (he : EA v i 2 ad) (hx : atI xs i = some x) (hA : CellsAt w ad 0 [str x.apex, sl v1]) (hb : Agr b' w) : kRec.C b' (sl v1) x.l := by
  obtain ⟨v2, h1, h2⟩ := Zon_at hc he hx
  have := cells_eq hA (h1.agr hb) rfl
  injection this with _ this
  injection this with this _
  rw [this]; exact h2
/-- '[]T{x}', x with what it owns. -/
theorem SL.litv {P : Program} {n : Nat} {Q : Exit → Env → World → Prop} {env : Env} {w : World} {ops : Array Oper} {rest : List Oper} {b w0 : World} {s0 : Nat → Prop} {L : List Atom} {α : Type} {d : K2 α} (hS : St b w0 s0 L w) (i : Nat) {y : α} {cs : List Value} (hi : nth L i = some (.val d cs y)) {t e : TypeId} {x : Operand} {xv : Value} {D : Nat} {ty : TypeId} {pos : String} {after : Array Edge} (hx : ev env x = some xv) (hcs : xv.cells.toList = cs) (ht : P.underlying t = some (.slice e)) {z : Value} {bytes : Nat} (hinfo : (P.info? e).map (fun i => (i.zero, i.size, i.bytes)) = some (some z, d.sz, bytes)) (hs0 : 0 < d.sz) (hs1 : d.sz ≤ 16777216) (hz : z.cells.size = d.sz) (hn : D < n)
    (k : ∀ (v : Sv) w, St b w0 s0 (upd L i (.row d e (sl v) [y])) w → EL P n ops Q rest ((D, sl v) :: env) w) : EL P n ops Q (⟨some D, .buildSlice t 1 #[(0, x)], ty, pos, after, none⟩ :: rest) env w := by
  obtain ⟨s, hs, hM, hre⟩ := hS.turnf hi
  have hM : d.M w s y cs := hM
  have hl : cs.length = d.sz := d.K_len (d.M_K hM)
  have hxs : xv.cells.size = d.sz := by rw [← hl, ← hcs]; simp
  refine EL.lit1 hx ht hinfo hz hs0 hs1 hxs hn (k (some ⟨w.heap.size, 0, none⟩, 1, 1) _ ?_)
  have hf := Fr.below (s := s) (below_alloc (Below.refl w.heap.size w) (.cells xv.cells e))
  refine hre _ _ (fun k => s k ∨ (w.heap.size ≤ k ∧ k < (w.alloc (.cells xv.cells e)).heap.size)) hf (fun k hk => ?_) ?_
  · rcases hk with hk | hk
    · have := hs k hk; have := hf.size; exact ⟨by omega, Or.inl hk⟩
    · exact ⟨hk.2, Or.inr hk.1⟩
  · have hraw : Raw d.sz e (w.alloc (.cells xv.cells e)) (.slice (some ⟨w.heap.size, 0, none⟩) 1 1) [cs] := by
      have h := World.ownsRow_lit (base := 0) (e := e) (size := d.sz) w xv.cells 1 (Nat.zero_le _) (by decide) (by omega)
      refine ⟨fun _ _ => trivial, cs, by rw [hcs] at h; exact h, by show _ = 1 * d.sz; omega, fun j p hj => ?_⟩
      match j, hj with
      | 0, hj =>
        simp at hj
        subst hj
        refine ⟨?_, hl, d.M_one hM⟩
        show ((cs.drop (0 * d.sz)).take d.sz) = cs
        rw [Nat.zero_mul, List.drop_zero, List.take_of_length_le (by omega)]
      | j + 1, hj => simp at hj
    refine ⟨[cs], hraw, fun k hk => ?_, s, nob, fun k hk => ⟨⟨Or.inl hk, ?_⟩, fun h => h⟩, fun k h => h.elim, d.M_loc (fun k hk => Below.heap_alloc w _ k (hs k hk)) hM, trivial⟩
    · simp [Value.ownBlock] at hk
      subst hk
      exact Or.inr ⟨Nat.le_refl _, by simp⟩
    · intro e
      simp [Value.ownBlock] at e
      have := hs k hk; omega
theorem str_toList (l : Str) : (⟨l.toArray⟩ : ByteArray).toList = l := by rw [ByteArray.toList_eq]
end Go.Proofs.Ytcolndejambcmaa.Ew
