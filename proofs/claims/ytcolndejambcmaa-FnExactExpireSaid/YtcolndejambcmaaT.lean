/- The values' own types (seat-independent names), and their kinds. -/
import Derived.Test.YtcolndejambcmaaProg
import Derived.Test.YtcolndejambcmaaR6
namespace Go.Proofs.Ytcolndejambcmaa.Ew
open Go.RowKit Go.Proofs.YtcolndejambcmaaW.PrintWords Go.Proofs.YtcolndejambcmaaW.PrintLast
set_option linter.unusedVariables false
set_option linter.unusedSimpArgs false
structure Rec where
  name : Str
  ty : Int
  ttl : Int
  num : Int
  host : Str
  text : Str
  deriving DecidableEq
structure Que where
  name : Str
  ty : Int
  deriving DecidableEq
structure Ent where
  q : Que
  kind : Int
  l : List Rec
  rank : Int
  till : Int
  deriving DecidableEq
structure Cac where
  cap : Int
  l : List Ent
  deriving DecidableEq
structure Zon where
  apex : Str
  l : List Rec
  deriving DecidableEq
structure Pst where
  addr : Int
  apex : Str
  deriving DecidableEq
structure Fst where
  zones : List Zon
  posts : List Pst
  deriving DecidableEq
structure Fct where
  code : Int
  links : List Rec
  l : List Rec
  fin : Bool
  deriving DecidableEq
structure Mes where
  id : Int
  reply : Bool
  auth : Bool
  cut : Bool
  want : Bool
  can : Bool
  code : Int
  q : Que
  an : List Rec
  au : List Rec
  ad : List Rec
  deriving DecidableEq
abbrev w64 (x : Int) : Int := IntKind.i64.wrap x
def kInt : K2 Int := K2.cell vi (fun _ => rfl)
def kU8 : K2 UInt8 := K2.cell vb (fun _ => rfl)
def kBool : K2 Bool := K2.cell vt (fun _ => rfl)
def kStr : K2 Str := K2.cell (fun x => str x) (fun _ => rfl)
def kRec : K2 Rec := K2.iso (K2.pair kStr (K2.pair kInt (K2.pair kInt (K2.pair kInt (K2.pair kStr kStr))))) (fun x => (x.name, x.ty, x.ttl, x.num, x.host, x.text))
def kQue : K2 Que := K2.iso (K2.pair kStr kInt) (fun x => (x.name, x.ty))
def kPst : K2 Pst := K2.iso (K2.pair kInt kStr) (fun x => (x.addr, x.apex))
def kEnt (e : TypeId) : K2 Ent := K2.iso (K2.pair kQue (K2.pair kInt (K2.pair (K2.slice e kRec) (K2.pair kInt kInt)))) (fun x => (x.q, x.kind, x.l, x.rank, x.till))
def kZon (e : TypeId) : K2 Zon := K2.iso (K2.pair kStr (K2.slice e kRec)) (fun x => (x.apex, x.l))
section
variable {w : World} {s : Nat → Prop} {cs : List Value}
theorem Int_K {x : Int} (h : kInt.K w x cs) : cs = [vi x] := h
theorem Int_M {x : Int} (h : kInt.M w s x cs) : cs = [vi x] := h
theorem Int_Mk (w : World) (s : Nat → Prop) (x : Int) : kInt.M w s x [vi x] := rfl
theorem U8_K {x : UInt8} (h : kU8.K w x cs) : cs = [vb x] := h
theorem U8_M {x : UInt8} (h : kU8.M w s x cs) : cs = [vb x] := h
theorem U8_Mk (w : World) (s : Nat → Prop) (x : UInt8) : kU8.M w s x [vb x] := rfl
theorem Bool_K {x : Bool} (h : kBool.K w x cs) : cs = [vt x] := h
theorem Str_K {x : Str} (h : kStr.K w x cs) : cs = [str x] := h
theorem Str_M {x : Str} (h : kStr.M w s x cs) : cs = [str x] := h
theorem Str_Mk (w : World) (s : Nat → Prop) (x : Str) : kStr.M w s x [str x] := rfl
theorem Rec_K {x : Rec} (h : kRec.K w x cs) : cs = [str x.name, vi x.ty, vi x.ttl, vi x.num, str x.host, str x.text] := by
  obtain ⟨_, _, rfl, rfl, _, _, rfl, rfl, _, _, rfl, rfl, _, _, rfl, rfl, _, _, rfl, rfl, rfl⟩ := h
  rfl
theorem Rec_M {x : Rec} (h : kRec.M w s x cs) : cs = [str x.name, vi x.ty, vi x.ttl, vi x.num, str x.host, str x.text] := Rec_K (kRec.M_K h)
def nob : Nat → Prop := fun _ => False
theorem pairM {α β : Type} {a : K2 α} {b : K2 β} {x : α × β} {c1 c2 : List Value} (h1 : a.M w nob x.1 c1) (h2 : b.M w s x.2 c2) : (K2.pair a b).M w s x (c1 ++ c2) := ⟨c1, c2, nob, s, rfl, fun _ h => h.elim, fun _ h => h, h1, h2⟩
theorem pairMl {α β : Type} {a : K2 α} {b : K2 β} {x : α × β} {c1 c2 : List Value} (h1 : a.M w s x.1 c1) (h2 : b.M w nob x.2 c2) : (K2.pair a b).M w s x (c1 ++ c2) := ⟨c1, c2, s, nob, rfl, fun _ h => ⟨h, fun h => h⟩, fun _ h => h.elim, h1, h2⟩
theorem Rec_Mk (w : World) (s : Nat → Prop) (x : Rec) : kRec.M w s x [str x.name, vi x.ty, vi x.ttl, vi x.num, str x.host, str x.text] :=
  pairM (a := kStr) (c1 := [_]) rfl (pairM (a := kInt) (c1 := [_]) rfl (pairM (a := kInt) (c1 := [_]) rfl (pairM (a := kInt) (c1 := [_]) rfl (pairM (a := kStr) (b := kStr) (c1 := [_]) (c2 := [_]) rfl rfl))))
theorem Que_K {x : Que} (h : kQue.K w x cs) : cs = [str x.name, vi x.ty] := by
  obtain ⟨_, _, rfl, rfl, rfl⟩ := h
  rfl
theorem Que_M {x : Que} (h : kQue.M w s x cs) : cs = [str x.name, vi x.ty] := Que_K (kQue.M_K h)
theorem Que_Mk (w : World) (s : Nat → Prop) (x : Que) : kQue.M w s x [str x.name, vi x.ty] := pairM (a := kStr) (b := kInt) (c1 := [_]) (c2 := [_]) rfl rfl
theorem Pst_K {x : Pst} (h : kPst.K w x cs) : cs = [vi x.addr, str x.apex] := by
  obtain ⟨_, _, rfl, rfl, rfl⟩ := h
  rfl
theorem Pst_M {x : Pst} (h : kPst.M w s x cs) : cs = [vi x.addr, str x.apex] := Pst_K (kPst.M_K h)
theorem Pst_Mk (w : World) (s : Nat → Prop) (x : Pst) : kPst.M w s x [vi x.addr, str x.apex] := pairM (a := kInt) (b := kStr) (c1 := [_]) (c2 := [_]) rfl rfl
theorem Ent_K {e : TypeId} {x : Ent} (h : (kEnt e).K w x cs) : ∃ v : Sv, cs = [str x.q.name, vi x.q.ty, vi x.kind, sl v, vi x.rank, vi x.till] ∧ kRec.C w (sl v) x.l := by
  obtain ⟨_, _, rfl, ⟨_, _, rfl, rfl, rfl⟩, _, _, rfl, rfl, _, _, rfl, ⟨v, rfl, hv⟩, _, _, rfl, rfl, rfl⟩ := h
  have hv' := hv
  obtain ⟨A, c, rfl, _⟩ := hv'
  exact ⟨(A, _, c), rfl, hv⟩
theorem Ent_M {e : TypeId} {x : Ent} (h : (kEnt e).M w s x cs) : ∃ v : Sv, cs = [str x.q.name, vi x.q.ty, vi x.kind, sl v, vi x.rank, vi x.till] ∧ Row kRec e w s (sl v) x.l := by
  obtain ⟨_, _, s1, s2, rfl, g1, g2, ⟨_, _, _, _, rfl, _, _, rfl, rfl⟩, _, _, s3, s4, rfl, g3, g4, rfl, _, _, s5, s6, rfl, g5, g6, ⟨v, rfl, hv⟩, _, _, _, _, rfl, _, _, rfl, rfl⟩ := h
  obtain ⟨A, c, rfl⟩ := hv.slice
  exact ⟨(A, _, c), rfl, hv.sub (fun k hk => g2 k (g4 k (g5 k hk).1))⟩
theorem Ent_Mk {e : TypeId} {x : Ent} {v : Value} (h : Row kRec e w s v x.l) : (kEnt e).M w s x [str x.q.name, vi x.q.ty, vi x.kind, v, vi x.rank, vi x.till] :=
  pairM (a := kQue) (c1 := [_, _]) (Que_Mk _ _ _) (pairM (a := kInt) (c1 := [_]) rfl (pairMl (a := K2.slice e kRec) (b := K2.pair kInt kInt) (c1 := [_]) (c2 := [_, _]) ⟨v, rfl, h⟩ (pairM (a := kInt) (b := kInt) (c1 := [_]) (c2 := [_]) rfl rfl)))
theorem Zon_K {e : TypeId} {x : Zon} (h : (kZon e).K w x cs) : ∃ v : Sv, cs = [str x.apex, sl v] ∧ kRec.C w (sl v) x.l := by
  obtain ⟨_, _, rfl, rfl, ⟨v, rfl, hv⟩⟩ := h
  have hv' := hv
  obtain ⟨A, c, rfl, _⟩ := hv'
  exact ⟨(A, _, c), rfl, hv⟩
theorem Zon_M {e : TypeId} {x : Zon} (h : (kZon e).M w s x cs) : ∃ v : Sv, cs = [str x.apex, sl v] ∧ Row kRec e w s (sl v) x.l := by
  obtain ⟨_, _, s1, s2, rfl, g1, g2, rfl, ⟨v, rfl, hv⟩⟩ := h
  obtain ⟨A, c, rfl⟩ := hv.slice
  exact ⟨(A, _, c), rfl, hv.sub g2⟩
theorem Zon_Mk {e : TypeId} {x : Zon} {v : Value} (h : Row kRec e w s v x.l) : (kZon e).M w s x [str x.apex, v] :=
  pairM (a := kStr) (b := K2.slice e kRec) (c1 := [_]) (c2 := [_]) rfl ⟨v, rfl, h⟩
end
end Go.Proofs.Ytcolndejambcmaa.Ew
