/- The steps of a walk over the state, seventh part: bits, shifts, conversions, text, smaller rules. -/
import Derived.Test.YtcolndejambcmaaT
namespace Go.Proofs.Ytcolndejambcmaa.Ew
open Go.RowKit Go.Proofs.YtcolndejambcmaaW.PrintWords Go.Proofs.YtcolndejambcmaaW.PrintLast
set_option linter.unusedVariables false
set_option linter.unusedSimpArgs false
theorem Rec_flat : kRec.flat := fun w x cs h => by
  rw [Rec_K h]
  exact ⟨List.all_eq_true.1 rfl, fun w1 s => Rec_Mk w1 s x⟩
theorem Que_flat : kQue.flat := fun w x cs h => by
  rw [Que_K h]
  exact ⟨List.all_eq_true.1 rfl, fun w1 s => Que_Mk w1 s x⟩
theorem Pst_flat : kPst.flat := fun w x cs h => by
  rw [Pst_K h]
  exact ⟨List.all_eq_true.1 rfl, fun w1 s => Pst_Mk w1 s x⟩
theorem Int_flat : kInt.flat := fun w x cs h => by
  rw [Int_K h]
  exact ⟨List.all_eq_true.1 rfl, fun w1 s => rfl⟩
theorem U8_flat : kU8.flat := fun w x cs h => by
  rw [U8_K h]
  exact ⟨List.all_eq_true.1 rfl, fun w1 s => rfl⟩
theorem Str_flat : kStr.flat := fun w x cs h => by
  rw [Str_K h]
  exact ⟨List.all_eq_true.1 rfl, fun w1 s => rfl⟩
/-- '&', '|', '^', '&^' on whole numbers. -/
def andI (a b : Int) : Int := IntKind.i64.wrap ((BitVec.ofInt 64 a &&& BitVec.ofInt 64 b).toNat : Int)
def orI (a b : Int) : Int := IntKind.i64.wrap ((BitVec.ofInt 64 a ||| BitVec.ofInt 64 b).toNat : Int)
def xorI (a b : Int) : Int := IntKind.i64.wrap ((BitVec.ofInt 64 a ^^^ BitVec.ofInt 64 b).toNat : Int)
def andNotI (a b : Int) : Int := IntKind.i64.wrap ((BitVec.ofInt 64 a &&& ~~~ BitVec.ofInt 64 b).toNat : Int)
def shlI (a y : Int) : Int := IntKind.i64.wrap (a * 2 ^ (min y.toNat 64))
def shrI (a y : Int) : Int := a.fdiv (2 ^ (min y.toNat 64))
def shlU (a : UInt8) (y : Int) : UInt8 := u8 ((a.toNat : Int) * 2 ^ (min y.toNat 8))
/-- What text a rune is, as far as ASCII goes. -/
def runeS (x : Int) : Option Str := if 0 ≤ x ∧ x < 128 then some [u8 x] else none
section
variable {P : Program} {n : Nat} {Q : Exit → Env → World → Prop} {env : Env} {w : World} {ops : Array Oper} {rest : List Oper} {α : Type} {x y : Operand} {t t2 ty : TypeId} {pos : String} {after : Array Edge} {D : Nat} {a c : Int}
theorem rn_bits {gd : Option (Nat × Bool)} {op : BinOp} {O : Option Tmp} {r : Int} (hx : ev env x = some (vi a)) (hy : ev env y = some (vi c)) (h : (match op with | .and => some (andI a c) | .or => some (orI a c) | .xor => some (xorI a c) | .andNot => some (andNotI a c) | _ => none) = some r) (w : World) : Runs P env ⟨O, .binOp op t x y t2, ty, pos, after, gd⟩ w (vi r) w := by
  intro ρ hρ
  have h1 := hρ x _ hx
  have h2 := hρ y _ hy
  cases op <;> simp only [reduceCtorEq] at h <;> (injection h with h; subst h; simp [execOp, eqGuard, h1, h2, binOp, Op.intBits, andI, orI, xorI, andNotI]; rfl)
theorem SL.bits {op : BinOp} {r : Int} (hx : ev env x = some (vi a)) (hy : ev env y = some (vi c)) (h : (match op with | .and => some (andI a c) | .or => some (orI a c) | .xor => some (xorI a c) | .andNot => some (andNotI a c) | _ => none) = some r) (hn : D < n) (k : EL P n ops Q rest ((D, vi r) :: env) w) : EL P n ops Q (⟨some D, .binOp op t x y t2, ty, pos, after, none⟩ :: rest) env w :=
  EL.val (rn_bits hx hy h w) rfl rfl hn k
theorem u8_bv (c : UInt8) : BitVec.ofInt 8 (c.toNat : Int) = c.toBitVec := by
  apply BitVec.eq_of_toNat_eq
  simp [BitVec.toNat_ofInt]
theorem u8_of_nat (k : Nat) (h : k < 256) : IntKind.u8.wrap (k : Int) = ((UInt8.ofNat k).toNat : Int) := by
  rw [u8_wrap]
  unfold u8
  simp
  omega
theorem rn_andU {gd : Option (Nat × Bool)} {O : Option Tmp} {p q : UInt8} (hx : ev env x = some (vb p)) (hy : ev env y = some (vb q)) (w : World) : Runs P env ⟨O, .binOp .and t x y t2, ty, pos, after, gd⟩ w (vb (p &&& q)) w := by
  intro ρ hρ
  have h1 := hρ x _ hx
  have h2 := hρ y _ hy
  have h3 : IntKind.u8.wrap ((p.toBitVec &&& q.toBitVec).toNat : Int) = ((p &&& q).toNat : Int) := by
    rw [show (p.toBitVec &&& q.toBitVec).toNat = (p &&& q).toNat from rfl]
    rw [u8_wrap, u8_nat]
  simp only [execOp, eqGuard, h1, h2, binOp, Op.intBits]
  have e1 : BitVec.ofInt IntKind.u8.bits (p.toNat : Int) = p.toBitVec := u8_bv p
  have e2 : BitVec.ofInt IntKind.u8.bits (q.toNat : Int) = q.toBitVec := u8_bv q
  rw [e1, e2]
  simp
  exact h3
theorem rn_xorU {gd : Option (Nat × Bool)} {O : Option Tmp} {p q : UInt8} (hx : ev env x = some (vb p)) (hy : ev env y = some (vb q)) (w : World) : Runs P env ⟨O, .binOp .xor t x y t2, ty, pos, after, gd⟩ w (vb (p ^^^ q)) w := by
  intro ρ hρ
  have h1 := hρ x _ hx
  have h2 := hρ y _ hy
  have h3 : IntKind.u8.wrap ((p.toBitVec ^^^ q.toBitVec).toNat : Int) = ((p ^^^ q).toNat : Int) := by
    rw [show (p.toBitVec ^^^ q.toBitVec).toNat = (p ^^^ q).toNat from rfl]
    rw [u8_wrap, u8_nat]
  simp only [execOp, eqGuard, h1, h2, binOp, Op.intBits]
  have e1 : BitVec.ofInt IntKind.u8.bits (p.toNat : Int) = p.toBitVec := u8_bv p
  have e2 : BitVec.ofInt IntKind.u8.bits (q.toNat : Int) = q.toBitVec := u8_bv q
  rw [e1, e2]
  simp
  exact h3
theorem rn_shl {gd : Option (Nat × Bool)} {O : Option Tmp} {k0 : IntKind} (hx : ev env x = some (vi a)) (hy : ev env y = some (.int k0 c)) (h0 : 0 ≤ c) (w : World) : Runs P env ⟨O, .binOp .shl t x y t2, ty, pos, after, gd⟩ w (vi (shlI a c)) w := by
  intro ρ hρ
  have h1 := hρ x _ hx
  have h2 := hρ y _ hy
  have h3 : ¬ c < 0 := by omega
  simp [execOp, eqGuard, h1, h2, binOp, Op.shift, h3, shlI, IntKind.bits]
theorem rn_shr {gd : Option (Nat × Bool)} {O : Option Tmp} {k0 : IntKind} (hx : ev env x = some (vi a)) (hy : ev env y = some (.int k0 c)) (h0 : 0 ≤ c) (w : World) : Runs P env ⟨O, .binOp .shr t x y t2, ty, pos, after, gd⟩ w (vi (shrI a c)) w := by
  intro ρ hρ
  have h1 := hρ x _ hx
  have h2 := hρ y _ hy
  have h3 : ¬ c < 0 := by omega
  simp [execOp, eqGuard, h1, h2, binOp, Op.shift, h3, shrI, IntKind.bits]
theorem rn_shlU {gd : Option (Nat × Bool)} {O : Option Tmp} {k0 : IntKind} {p : UInt8} (hx : ev env x = some (vb p)) (hy : ev env y = some (.int k0 c)) (h0 : 0 ≤ c) (w : World) : Runs P env ⟨O, .binOp .shl t x y t2, ty, pos, after, gd⟩ w (vb (shlU p c)) w := by
  intro ρ hρ
  have h1 := hρ x _ hx
  have h2 := hρ y _ hy
  have h3 : ¬ c < 0 := by omega
  simp [execOp, eqGuard, h1, h2, binOp, Op.shift, h3, shlU, IntKind.bits, u8_wrap]
theorem rn_conv {gd : Option (Nat × Bool)} {O : Option Tmp} {s u : TypeId} {ks kt : IntKind} (hx : ev env x = some (.int ks a)) (hs : P.underlying s = some (.int ks)) (ht : P.underlying u = some (.int kt)) {r : Int} (hr : kt.wrap a = r) (w : World) : Runs P env ⟨O, .convert s u x, ty, pos, after, gd⟩ w (.int kt r) w := by
  intro ρ hρ
  have h1 := hρ x _ hx
  simp [execOp, convert, run_underlying hs, run_underlying ht, h1, Conv.intToInt, hr]
/-- A byte, as a whole number. -/
theorem wide (p : UInt8) : IntKind.i64.wrap (p.toNat : Int) = (p.toNat : Int) := by
  have := p.toNat_lt
  rw [i64_w]
  unfold wrap64
  omega
theorem rn_rune {gd : Option (Nat × Bool)} {O : Option Tmp} {s u : TypeId} {ks : IntKind} {r : Str} (hx : ev env x = some (.int ks a)) (hr : runeS a = some r) (hs : P.underlying s = some (.int ks)) (ht : P.underlying u = some .string) (w : World) : Runs P env ⟨O, .convert s u x, ty, pos, after, gd⟩ w (str r) w := by
  intro ρ hρ
  have h1 := hρ x _ hx
  unfold runeS at hr
  split at hr
  · rename_i h2
    injection hr with hr
    subst hr
    have hv : Utf8.valid a = true := by simp [Utf8.valid]; omega
    have he : Utf8.encode a = ⟨#[u8 a]⟩ := by
      unfold Utf8.encode
      simp only [hv, if_true]
      rw [if_pos (by omega)]
      unfold u8
      have : (a % 256).toNat = a.toNat := by omega
      rw [this]
    simp [execOp, convert, run_underlying hs, run_underlying ht, h1, Conv.intToString, he]
  · cases hr
theorem rn_b2s {gd : Option (Nat × Bool)} {O : Option Tmp} {s u e : TypeId} {v : Value} {xs : List UInt8} (hx : ev env x = some v) {w : World} (hc : kU8.C w v xs) (hs : P.underlying s = some (.slice e)) (he : P.underlying e = some (.int .u8)) (ht : P.underlying u = some .string) : Runs P env ⟨O, .convert s u x, ty, pos, after, gd⟩ w (str xs) w := by
  intro ρ hρ
  have h1 := hρ x _ hx
  obtain ⟨A, c, rfl, h2, h3, h4⟩ := hc
  have hr : ReadsInt w .u8 A xs.length (xs.map fun c => (c.toNat : Int)) := by
    refine ⟨by simp, h3, fun hp => ?_⟩
    obtain ⟨ad, cs, g1, g2, g3⟩ := h4 0 xs[0] (by simp)
    refine ⟨ad, g1, fun j hj => ?_⟩
    obtain ⟨ad', cs', q1, q2, q3⟩ := h4 j xs[j] (by simp [hj])
    rw [g1] at q1
    injection q1 with q1
    subst q1
    rw [U8_K q2] at q3
    have := q3.1
    rw [add_add] at this
    simp [kU8, K2.cell] at this
    simp [this, hj, List.getD]
  have h5 := string_of_reads (P := P) (c := c) hs he ht hr
  have h6 : strOfNums (xs.map fun c => (c.toNat : Int)) = ⟨xs.toArray⟩ := by
    unfold strOfNums
    rw [List.map_map]
    have : (List.map ((fun n : Int => UInt8.ofNat n.toNat) ∘ fun c : UInt8 => (c.toNat : Int)) xs) = xs := by
      conv => rhs; rw [← List.map_id xs]
      apply List.map_congr_left
      intro c _
      simp
    rw [this]
  rw [h6] at h5
  simp [execOp, h1, h5]
theorem rn_min {gd : Option (Nat × Bool)} {O : Option Tmp} {ts : Array TypeId} (hx : ev env x = some (vi a)) (hy : ev env y = some (vi c)) (w : World) : Runs P env ⟨O, .call { callee := .builtin .min, args := #[x, y], argTypes := ts }, ty, pos, after, gd⟩ w (vi (min a c)) w := by
  intro ρ hρ
  have h1 := hρ x _ hx
  have h2 := hρ y _ hy
  have : (if c < a then c else a) = min a c := by rw [Int.min_def]; split <;> split <;> omega
  simp [execOp, resolve, invoke, builtin, Builtin.min_, Builtin.min2, h1, h2, this]
theorem rn_max {gd : Option (Nat × Bool)} {O : Option Tmp} {ts : Array TypeId} (hx : ev env x = some (vi a)) (hy : ev env y = some (vi c)) (w : World) : Runs P env ⟨O, .call { callee := .builtin .max, args := #[x, y], argTypes := ts }, ty, pos, after, gd⟩ w (vi (max a c)) w := by
  intro ρ hρ
  have h1 := hρ x _ hx
  have h2 := hρ y _ hy
  have : (if a < c then c else a) = max a c := by rw [Int.max_def]; split <;> split <;> omega
  simp [execOp, resolve, invoke, builtin, Builtin.max_, Builtin.max2, h1, h2, this]
/-- Any operation that yields, by what it yields. -/
theorem EL.rn {o : Oper} {v : Value} (hr : Runs P env o w v w) (hg : o.guard = none) (hd : o.dst = some D) (hn : D < n) (k : EL P n ops Q rest ((D, v) :: env) w) : EL P n ops Q (o :: rest) env w := EL.val hr hg hd hn k
end
/-- A slice that is nil, as a part. -/
theorem St.nilrow {b w0 w : World} {s0 : Nat → Prop} {L : List Atom} (h : St b w0 s0 L w) {α : Type} (d : K2 α) (e : TypeId) : St b w0 s0 (app L [.row d e (.slice none 0 0) []]) w := h.one (Fr.refl _ _) (Row.nil _ _ _ _)
theorem St.conv {b w0 w : World} {s0 : Nat → Prop} {L : List Atom} (h : St b w0 s0 L w) (i : Nat) {a a' : Atom} (hi : nth L i = some a) (hc : ∀ w s, a.holds w s → a'.holds w s) : St b w0 s0 (upd L i a') w :=
  h.turn hi (fun s hs ha => ⟨Fr.refl _ _, s, fun k hk => ⟨hs k hk, Or.inl hk⟩, hc _ _ ha⟩)
end Go.Proofs.Ytcolndejambcmaa.Ew
