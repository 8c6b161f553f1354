/- Pure twins of the Go functions: what the program's text computes (printed by gen2.py). -/
import Derived.Test.YtcolndejambcmaaT
namespace Go.Proofs.Ytcolndejambcmaa.Ew
open Go.RowKit Go.Proofs.YtcolndejambcmaaW.PrintWords Go.Proofs.YtcolndejambcmaaW.PrintLast
set_option linter.unusedVariables false
set_option linter.unusedSimpArgs false
def laws_szQuest (a0 : Que) (a1 : Int) : Option Int :=
  (bif (decide ((w64 (a1 - (a0.name.length : Int))) < 0)) then (some (-1)) else (some (w64 (a1 - (a0.name.length : Int)))))
def laws_szRecord (a0 : Rec) (a1 : Int) : Option Int :=
  (bif (decide ((w64 (a1 - (a0.name.length : Int))) < 0)) then (some (-1)) else (bif (decide ((w64 ((w64 (a1 - (a0.name.length : Int))) - (a0.host.length : Int))) < 0)) then (some (-1)) else (bif (decide ((w64 ((w64 ((w64 (a1 - (a0.name.length : Int))) - (a0.host.length : Int))) - (a0.text.length : Int))) < 0)) then (some (-1)) else (some (w64 ((w64 ((w64 (a1 - (a0.name.length : Int))) - (a0.host.length : Int))) - (a0.text.length : Int)))))))
def laws_szRecordS_b1 (a0 : List Rec) : (Int × Int) → Option (Stp (Int × Int) Int Int)
  | (x1, x2) => (bif (decide (x2 < (a0.length : Int))) then (Option.bind (atI a0 x2) (fun x7 => (Option.bind (laws_szRecord x7 x1) (fun x8 => (bif (decide (x8 < 0)) then (some (.ret (-1))) else (some (.next (x8, (w64 (x2 + 1)))))))))) else (some (.brk x1)))
def laws_szRecordS (k : Nat) (a0 : List Rec) (a1 : Int) : Option Int :=
  (bif (decide ((w64 (a1 - (a0.length : Int))) < 0)) then (some (-1)) else (Option.bind (iter (laws_szRecordS_b1 a0) k ((w64 (a1 - (a0.length : Int))), 0)) (Out.go (fun x6 => (some x6)))))
def laws_szEntry (k : Nat) (a0 : Ent) (a1 : Int) : Option Int :=
  (Option.bind (laws_szQuest a0.q a1) (fun x1 => (bif (decide (x1 < 0)) then (some (-1)) else (Option.bind (laws_szRecordS k a0.l x1) (fun x2 => (bif (decide (x2 < 0)) then (some (-1)) else (some x2)))))))
def laws_szEntryS_b1 (k : Nat) (a0 : List Ent) : (Int × Int) → Option (Stp (Int × Int) Int Int)
  | (x1, x2) => (bif (decide (x2 < (a0.length : Int))) then (Option.bind (atI a0 x2) (fun x7 => (Option.bind (laws_szEntry k x7 x1) (fun x8 => (bif (decide (x8 < 0)) then (some (.ret (-1))) else (some (.next (x8, (w64 (x2 + 1)))))))))) else (some (.brk x1)))
def laws_szEntryS (k : Nat) (a0 : List Ent) (a1 : Int) : Option Int :=
  (bif (decide ((w64 (a1 - (a0.length : Int))) < 0)) then (some (-1)) else (Option.bind (iter (laws_szEntryS_b1 k a0) k ((w64 (a1 - (a0.length : Int))), 0)) (Out.go (fun x6 => (some x6)))))
def laws_szCache (k : Nat) (a0 : Cac) (a1 : Int) : Option Int :=
  (Option.bind (laws_szEntryS k a0.l a1) (fun x1 => (bif (decide (x1 < 0)) then (some (-1)) else (some x1))))
def spec_l15Lives (a0 : Ent) (a1 : Int) : Option Bool :=
  (some (decide (a1 < a0.till)))
def spec_l7Copy (a0 : List Rec) : Option (List Rec) :=
  (Option.bind (apL [] a0) (fun x1 => (some x1)))
def spec_l15Entry (a0 : Ent) : Option Ent :=
  (Option.bind (spec_l7Copy a0.l) (fun x1 => (some ({ q := a0.q, kind := a0.kind, l := x1, rank := a0.rank, till := a0.till } : Ent))))
def spec_WithTtl_b1 (a1 : Int) : ((List Rec) × Int) → Option (Stp ((List Rec) × Int) (List Rec) (List Rec))
  | (x2, x3) => (bif (decide (x3 < (x2.length : Int))) then (Option.bind (atI x2 x3) (fun x7 => (some (.next ((x2.set (x3).toNat ({ x7 with ttl := a1 })), (w64 (x3 + 1))))))) else (some (.brk x2)))
def spec_WithTtl (k : Nat) (a0 : List Rec) (a1 : Int) : Option (List Rec) :=
  (Option.bind (spec_l7Copy a0) (fun x1 => (Option.bind (iter (spec_WithTtl_b1 a1) k (x1, 0)) (Out.go (fun x6 => (some x6))))))
def spec_Look_b1 (k : Nat) (a0 : Cac) (a1 : Int) (a2 : Que) (a3 : Int) : Int → Option (Stp Int Unit (Ent × Bool))
  | x1 => (bif (decide (x1 < (a0.l.length : Int))) then (Option.bind (atI a0.l x1) (fun x11 => (Option.bind (bif (decide (x11.q = a2)) then (Option.bind (spec_l15Lives x11 a1) (fun x14 => (bif x14 then (some (decide (a3 ≤ x11.rank))) else (some false)))) else (some false)) (fun x13 => (bif x13 then (Option.bind (spec_l15Entry x11) (fun x18 => (Option.bind (bif (decide (0 < a1)) then (bif (decide ((w64 (x11.till - a1)) < 100000)) then (some true) else (bif (decide (a1 ≤ 0)) then (some (decide (x11.till < (w64 (100000 + a1))))) else (some false))) else (bif (decide (a1 ≤ 0)) then (some (decide (x11.till < (w64 (100000 + a1))))) else (some false))) (fun x20 => (Option.bind (bif x20 then (some (w64 (x11.till - a1))) else (some 100000)) (fun x27 => (Option.bind (spec_WithTtl k x11.l x27) (fun x30 => (some (.ret (({ q := x18.q, kind := x18.kind, l := x30, rank := x18.rank, till := x18.till } : Ent), true))))))))))) else (some (.next (w64 (x1 + 1))))))))) else (some (.brk ())))
def spec_Look (k : Nat) (a0 : Cac) (a1 : Int) (a2 : Que) (a3 : Int) : Option (Ent × Bool) :=
  (Option.bind (iter (spec_Look_b1 k a0 a1 a2 a3) k 0) (Out.go (fun _ => (some (({ q := ({ name := [], ty := 0 } : Que), kind := 0, l := [], rank := 0, till := 0 } : Ent), false)))))
def laws_toQuest (a0 : Que) : Option Que :=
  (some a0)
def laws_toRecord (a0 : Rec) : Option Rec :=
  (some a0)
def laws_toRecordS_b1 (a0 : List Rec) : ((List Rec) × Int) → Option (Stp ((List Rec) × Int) (List Rec) (List Rec))
  | (x2, x3) => (bif (decide (x3 < (a0.length : Int))) then (Option.bind (atI a0 x3) (fun x9 => (Option.bind (laws_toRecord x9) (fun x10 => (Option.bind (atI x2 x3) (fun x11 => (some (.next ((x2.set (x3).toNat x10), (w64 (x3 + 1))))))))))) else (some (.brk x2)))
def laws_toRecordS (k : Nat) (a0 : List Rec) : Option (List Rec) :=
  (Option.bind (mkL ({ name := [], ty := 0, ttl := 0, num := 0, host := [], text := [] } : Rec) (a0.length : Int)) (fun x1 => (Option.bind (iter (laws_toRecordS_b1 a0) k (x1, 0)) (Out.go (fun x8 => (some x8))))))
def laws_toEntry (k : Nat) (a0 : Ent) : Option Ent :=
  (Option.bind (laws_toQuest a0.q) (fun x1 => (Option.bind (laws_toRecordS k a0.l) (fun x2 => (some ({ q := x1, kind := a0.kind, l := x2, rank := a0.rank, till := a0.till } : Ent))))))
def laws_toEntryS_b1 (k : Nat) (a0 : List Ent) : ((List Ent) × Int) → Option (Stp ((List Ent) × Int) (List Ent) (List Ent))
  | (x2, x3) => (bif (decide (x3 < (a0.length : Int))) then (Option.bind (atI a0 x3) (fun x9 => (Option.bind (laws_toEntry k x9) (fun x10 => (Option.bind (atI x2 x3) (fun x11 => (some (.next ((x2.set (x3).toNat x10), (w64 (x3 + 1))))))))))) else (some (.brk x2)))
def laws_toEntryS (k : Nat) (a0 : List Ent) : Option (List Ent) :=
  (Option.bind (mkL ({ q := ({ name := [], ty := 0 } : Que), kind := 0, l := [], rank := 0, till := 0 } : Ent) (a0.length : Int)) (fun x1 => (Option.bind (iter (laws_toEntryS_b1 k a0) k (x1, 0)) (Out.go (fun x8 => (some x8))))))
def laws_toCache (k : Nat) (a0 : Cac) : Option Cac :=
  (Option.bind (laws_toEntryS k a0.l) (fun x1 => (some ({ cap := a0.cap, l := x1 } : Cac))))
def slices_Clone_Record (a0 : List Rec) : Option (List Rec) := apL [] a0
def impl_WithTtl_b1 (a1 : Int) (x1 : List Rec) : ((List Rec) × Int) → Option (Stp ((List Rec) × Int) (List Rec) (List Rec))
  | (x2, x3) => (bif (decide (x3 < (x1.length : Int))) then (Option.bind (atI x2 x3) (fun x7 => (some (.next ((x2.set (x3).toNat ({ x7 with ttl := a1 })), (w64 (x3 + 1))))))) else (some (.brk x2)))
def impl_WithTtl (k : Nat) (a0 : List Rec) (a1 : Int) : Option (List Rec) :=
  (Option.bind (slices_Clone_Record a0) (fun x1 => (Option.bind (iter (impl_WithTtl_b1 a1 x1) k (x1, 0)) (Out.go (fun x6 => (some x6))))))
def impl_Look_b1 (k : Nat) (a0 : Cac) (a1 : Int) (a2 : Que) (a3 : Int) : Int → Option (Stp Int Unit (Ent × Bool))
  | x1 => (bif (decide (x1 < (a0.l.length : Int))) then (Option.bind (atI a0.l x1) (fun x10 => (Option.bind (bif (!decide (x10.q = a2)) then (some true) else (bif (decide (x10.rank < a3)) then (some true) else (some (decide (x10.till ≤ a1))))) (fun x12 => (bif x12 then (some (.next (w64 (x1 + 1)))) else (Option.bind (bif (decide ((w64 (x10.till - a1)) < 0)) then (some true) else (some (decide (100000 < (w64 (x10.till - a1)))))) (fun x18 => (Option.bind (bif x18 then (some 100000) else (some (w64 (x10.till - a1)))) (fun x22 => (Option.bind (impl_WithTtl k x10.l x22) (fun x25 => (some (.ret (({ q := x10.q, kind := x10.kind, l := x25, rank := x10.rank, till := x10.till } : Ent), true)))))))))))))) else (some (.brk ())))
def impl_Look (k : Nat) (a0 : Cac) (a1 : Int) (a2 : Que) (a3 : Int) : Option (Ent × Bool) :=
  (Option.bind (iter (impl_Look_b1 k a0 a1 a2 a3) k 0) (Out.go (fun _ => (some (({ q := ({ name := [], ty := 0 } : Que), kind := 0, l := [], rank := 0, till := 0 } : Ent), false)))))
def laws_eqQuest (a0 : Que) (a1 : Que) : Option Bool :=
  (bif (!decide (a0.name = a1.name)) then (some false) else (bif (!decide (a0.ty = a1.ty)) then (some false) else (some true)))
def laws_eqRecord (a0 : Rec) (a1 : Rec) : Option Bool :=
  (bif (!decide (a0.name = a1.name)) then (some false) else (bif (!decide (a0.ty = a1.ty)) then (some false) else (bif (!decide (a0.ttl = a1.ttl)) then (some false) else (bif (!decide (a0.num = a1.num)) then (some false) else (bif (!decide (a0.host = a1.host)) then (some false) else (bif (!decide (a0.text = a1.text)) then (some false) else (some true)))))))
def laws_eqRecordS_b1 (a0 : List Rec) (a1 : List Rec) : Int → Option (Stp Int Unit Bool)
  | x1 => (bif (decide (x1 < (a0.length : Int))) then (Option.bind (atI a0 x1) (fun x5 => (Option.bind (atI a1 x1) (fun x6 => (Option.bind (laws_eqRecord x5 x6) (fun x7 => (bif (!x7) then (some (.ret false)) else (some (.next (w64 (x1 + 1))))))))))) else (some (.brk ())))
def laws_eqRecordS (k : Nat) (a0 : List Rec) (a1 : List Rec) : Option Bool :=
  (bif (!decide ((a0.length : Int) = (a1.length : Int))) then (some false) else (Option.bind (iter (laws_eqRecordS_b1 a0 a1) k 0) (Out.go (fun _ => (some true)))))
def laws_eqEntry (k : Nat) (a0 : Ent) (a1 : Ent) : Option Bool :=
  (Option.bind (laws_eqQuest a0.q a1.q) (fun x1 => (bif (!x1) then (some false) else (bif (!decide (a0.kind = a1.kind)) then (some false) else (Option.bind (laws_eqRecordS k a0.l a1.l) (fun x2 => (bif (!x2) then (some false) else (bif (!decide (a0.rank = a1.rank)) then (some false) else (bif (!decide (a0.till = a1.till)) then (some false) else (some true))))))))))
def laws_eqEntryS_b1 (k : Nat) (a0 : List Ent) (a1 : List Ent) : Int → Option (Stp Int Unit Bool)
  | x1 => (bif (decide (x1 < (a0.length : Int))) then (Option.bind (atI a0 x1) (fun x5 => (Option.bind (atI a1 x1) (fun x6 => (Option.bind (laws_eqEntry k x5 x6) (fun x7 => (bif (!x7) then (some (.ret false)) else (some (.next (w64 (x1 + 1))))))))))) else (some (.brk ())))
def laws_eqEntryS (k : Nat) (a0 : List Ent) (a1 : List Ent) : Option Bool :=
  (bif (!decide ((a0.length : Int) = (a1.length : Int))) then (some false) else (Option.bind (iter (laws_eqEntryS_b1 k a0 a1) k 0) (Out.go (fun _ => (some true)))))
def laws_eqCache (k : Nat) (a0 : Cac) (a1 : Cac) : Option Bool :=
  (bif (!decide (a0.cap = a1.cap)) then (some false) else (Option.bind (laws_eqEntryS k a0.l a1.l) (fun x1 => (bif (!x1) then (some false) else (some true)))))
def laws_markText_b1 : (Int × Str) → Option (Stp (Int × Str) Str Str)
  | (x1, x2) => (bif (decide (0 < x1)) then (Option.bind (catS [(u8 (w64 (48 + (Int.tmod x1 10))))] x2) (fun x6 => (some (.next ((w64 (Int.tdiv x1 10)), x6))))) else (some (.brk x2)))
def laws_markText (k : Nat) (a0 : Int) : Option Str :=
  (bif (decide (a0 ≤ 0)) then (some [109, 48]) else (Option.bind (iter laws_markText_b1 k (a0, [])) (Out.go (fun x5 => (Option.bind (catS [109] x5) (fun x10 => (some x10)))))))
def laws_markRecordS_b1 (k : Nat) : ((List Rec) × Int × Int) → Option (Stp ((List Rec) × Int × Int) ((List Rec) × Int) (Int × List Rec))
  | (x1, x2, x3) => (bif (decide (x3 < (x1.length : Int))) then (Option.bind (laws_markText k x2) (fun x17 => (Option.bind (atI x1 x3) (fun x18 => (Option.bind (atI (x1.set (x3).toNat ({ x18 with name := x17 })) x3) (fun x19 => (Option.bind (atI ((x1.set (x3).toNat ({ x18 with name := x17 })).set (x3).toNat ({ x19 with ty := (w64 (x2 + 1)) })) x3) (fun x20 => (Option.bind (atI (((x1.set (x3).toNat ({ x18 with name := x17 })).set (x3).toNat ({ x19 with ty := (w64 (x2 + 1)) })).set (x3).toNat ({ x20 with ttl := (w64 ((w64 (x2 + 1)) + 1)) })) x3) (fun x21 => (Option.bind (laws_markText k (w64 ((w64 ((w64 ((w64 (x2 + 1)) + 1)) + 1)) + 1))) (fun x22 => (Option.bind (atI ((((x1.set (x3).toNat ({ x18 with name := x17 })).set (x3).toNat ({ x19 with ty := (w64 (x2 + 1)) })).set (x3).toNat ({ x20 with ttl := (w64 ((w64 (x2 + 1)) + 1)) })).set (x3).toNat ({ x21 with num := (w64 ((w64 ((w64 (x2 + 1)) + 1)) + 1)) })) x3) (fun x23 => (Option.bind (laws_markText k (w64 ((w64 ((w64 ((w64 ((w64 (x2 + 1)) + 1)) + 1)) + 1)) + 1))) (fun x24 => (Option.bind (atI (((((x1.set (x3).toNat ({ x18 with name := x17 })).set (x3).toNat ({ x19 with ty := (w64 (x2 + 1)) })).set (x3).toNat ({ x20 with ttl := (w64 ((w64 (x2 + 1)) + 1)) })).set (x3).toNat ({ x21 with num := (w64 ((w64 ((w64 (x2 + 1)) + 1)) + 1)) })).set (x3).toNat ({ x23 with host := x22 })) x3) (fun x25 => (some (.next (((((((x1.set (x3).toNat ({ x18 with name := x17 })).set (x3).toNat ({ x19 with ty := (w64 (x2 + 1)) })).set (x3).toNat ({ x20 with ttl := (w64 ((w64 (x2 + 1)) + 1)) })).set (x3).toNat ({ x21 with num := (w64 ((w64 ((w64 (x2 + 1)) + 1)) + 1)) })).set (x3).toNat ({ x23 with host := x22 })).set (x3).toNat ({ x25 with text := x24 })), (w64 ((w64 ((w64 ((w64 ((w64 ((w64 (x2 + 1)) + 1)) + 1)) + 1)) + 1)) + 1)), (w64 (x3 + 1))))))))))))))))))))))) else (some (.brk (x1, x2))))
def laws_markRecordS (k : Nat) (a0 : List Rec) (a1 : Int) : Option (Int × List Rec) :=
  (Option.bind (iter (laws_markRecordS_b1 k) k (a0, a1, 0)) (Out.go (fun (x15, x16) => (some (x16, x15)))))
def laws_markEntryS_b1 (k : Nat) : ((List Ent) × Int × Int) → Option (Stp ((List Ent) × Int × Int) ((List Ent) × Int) (Int × List Ent))
  | (x1, x2, x3) => (bif (decide (x3 < (x1.length : Int))) then (Option.bind (laws_markText k x2) (fun x16 => (Option.bind (atI x1 x3) (fun x17 => (Option.bind (atI (x1.set (x3).toNat ({ x17 with q := { x17.q with name := x16 } })) x3) (fun x18 => (Option.bind (atI ((x1.set (x3).toNat ({ x17 with q := { x17.q with name := x16 } })).set (x3).toNat ({ x18 with q := { x18.q with ty := (w64 (x2 + 1)) } })) x3) (fun x19 => (Option.bind (atI (((x1.set (x3).toNat ({ x17 with q := { x17.q with name := x16 } })).set (x3).toNat ({ x18 with q := { x18.q with ty := (w64 (x2 + 1)) } })).set (x3).toNat ({ x19 with kind := (w64 ((w64 (x2 + 1)) + 1)) })) x3) (fun x20 => (Option.bind (laws_markRecordS k x20.l (w64 ((w64 ((w64 (x2 + 1)) + 1)) + 1))) (fun x21 => (Option.bind (atI ((((x1.set (x3).toNat ({ x17 with q := { x17.q with name := x16 } })).set (x3).toNat ({ x18 with q := { x18.q with ty := (w64 (x2 + 1)) } })).set (x3).toNat ({ x19 with kind := (w64 ((w64 (x2 + 1)) + 1)) })).set (x3).toNat { x20 with l := x21.2 }) x3) (fun x22 => (Option.bind (atI (((((x1.set (x3).toNat ({ x17 with q := { x17.q with name := x16 } })).set (x3).toNat ({ x18 with q := { x18.q with ty := (w64 (x2 + 1)) } })).set (x3).toNat ({ x19 with kind := (w64 ((w64 (x2 + 1)) + 1)) })).set (x3).toNat { x20 with l := x21.2 }).set (x3).toNat ({ x22 with rank := x21.1 })) x3) (fun x23 => (some (.next (((((((x1.set (x3).toNat ({ x17 with q := { x17.q with name := x16 } })).set (x3).toNat ({ x18 with q := { x18.q with ty := (w64 (x2 + 1)) } })).set (x3).toNat ({ x19 with kind := (w64 ((w64 (x2 + 1)) + 1)) })).set (x3).toNat { x20 with l := x21.2 }).set (x3).toNat ({ x22 with rank := x21.1 })).set (x3).toNat ({ x23 with till := (w64 (x21.1 + 1)) })), (w64 ((w64 (x21.1 + 1)) + 1)), (w64 (x3 + 1))))))))))))))))))))) else (some (.brk (x1, x2))))
def laws_markEntryS (k : Nat) (a0 : List Ent) (a1 : Int) : Option (Int × List Ent) :=
  (Option.bind (iter (laws_markEntryS_b1 k) k (a0, a1, 0)) (Out.go (fun (x14, x15) => (some (x15, x14)))))
def laws_markCache (k : Nat) (a0 : Cac) (a1 : Int) : Option (Int × Cac) :=
  (Option.bind (laws_markEntryS k a0.l a1) (fun x1 => (some (x1.1, ({ cap := a0.cap, l := x1.2 } : Cac)))))
def laws_markEntry (k : Nat) (a0 : Ent) (a1 : Int) : Option (Int × Ent) :=
  (Option.bind (laws_markRecordS k a0.l a1) (fun x1 => (some (x1.1, ({ q := a0.q, kind := a0.kind, l := x1.2, rank := a0.rank, till := a0.till } : Ent)))))
def laws_heldRecordS_b1 (k : Nat) (a0 : List Rec) : (Int × Int) → Option (Stp (Int × Int) Int Int)
  | (x1, x2) => (bif (decide (x2 < (a0.length : Int))) then (Option.bind (atI a0 x2) (fun x14 => (Option.bind (laws_markText k x1) (fun x15 => (bif (!decide (x14.name = x15)) then (some (.ret (-1))) else (Option.bind (atI a0 x2) (fun x16 => (bif (!decide (x16.ty = (w64 (x1 + 1)))) then (some (.ret (-1))) else (Option.bind (atI a0 x2) (fun x17 => (bif (!decide (x17.ttl = (w64 ((w64 (x1 + 1)) + 1)))) then (some (.ret (-1))) else (Option.bind (atI a0 x2) (fun x18 => (bif (!decide (x18.num = (w64 ((w64 ((w64 (x1 + 1)) + 1)) + 1)))) then (some (.ret (-1))) else (Option.bind (atI a0 x2) (fun x19 => (Option.bind (laws_markText k (w64 ((w64 ((w64 ((w64 (x1 + 1)) + 1)) + 1)) + 1))) (fun x20 => (bif (!decide (x19.host = x20)) then (some (.ret (-1))) else (Option.bind (atI a0 x2) (fun x21 => (Option.bind (laws_markText k (w64 ((w64 ((w64 ((w64 ((w64 (x1 + 1)) + 1)) + 1)) + 1)) + 1))) (fun x22 => (bif (!decide (x21.text = x22)) then (some (.ret (-1))) else (some (.next ((w64 ((w64 ((w64 ((w64 ((w64 ((w64 (x1 + 1)) + 1)) + 1)) + 1)) + 1)) + 1)), (w64 (x2 + 1))))))))))))))))))))))))))))) else (some (.brk x1)))
def laws_heldRecordS (k : Nat) (a0 : List Rec) (a1 : Int) : Option Int :=
  (Option.bind (iter (laws_heldRecordS_b1 k a0) k (a1, 0)) (Out.go (fun x13 => (some x13))))
def laws_heldEntry (k : Nat) (a0 : Ent) (a1 : Int) : Option Int :=
  (Option.bind (laws_heldRecordS k a0.l a1) (fun x1 => (bif (decide (x1 < 0)) then (some (-1)) else (some x1))))
def laws_FnExactLook (k : Nat) (a0 : Cac) (a1 : Int) (a2 : Que) (a3 : Int) : Option Bool :=
  (Option.bind (laws_szCache k a0 1048576) (fun x1 => (bif (decide (x1 < 0)) then (some true) else (Option.bind (laws_szQuest a2 x1) (fun x2 => (bif (decide (x2 < 0)) then (some true) else (Option.bind (Option.bind (laws_toCache k a0) (fun x17 => (Option.bind (laws_toQuest a2) (fun x18 => (Option.bind (spec_Look k x17 a1 x18 a3) (fun x19 => (some (x19.1.q.name, x19.1.q.ty, x19.1.kind, x19.1.l, x19.1.rank, x19.1.till, x19.2)))))))) (fun (x10, x11, x12, x13, x14, x15, x16) => (Option.bind (laws_toCache k a0) (fun x48 => (Option.bind (Option.bind (laws_toQuest a2) (fun x63 => (Option.bind (impl_Look k x48 a1 x63 a3) (fun x64 => (some (x64.1.q.name, x64.1.q.ty, x64.1.kind, x64.1.l, x64.1.rank, x64.1.till, x64.2)))))) (fun (x56, x57, x58, x59, x60, x61, x62) => (Option.bind (Option.bind (laws_eqEntry k ({ q := ({ name := x56, ty := x57 } : Que), kind := x58, l := x59, rank := x60, till := x61 } : Ent) ({ q := ({ name := x10, ty := x11 } : Que), kind := x12, l := x13, rank := x14, till := x15 } : Ent)) (fun x88 => (bif (!x88) then (some true) else (some (!(x62 == x16)))))) (fun x87 => (bif x87 then (some false) else (Option.bind (Option.bind (laws_toCache k a0) (fun x93 => (Option.bind (laws_eqCache k x48 x93) (fun x94 => (some (!x94)))))) (fun x92 => (bif x92 then (some false) else (Option.bind (laws_markCache k x48 1) (fun x96 => (Option.bind (bif (decide (x96.1 < 0)) then (some true) else (Option.bind (laws_eqEntry k ({ q := ({ name := x56, ty := x57 } : Que), kind := x58, l := x59, rank := x60, till := x61 } : Ent) ({ q := ({ name := x10, ty := x11 } : Que), kind := x12, l := x13, rank := x14, till := x15 } : Ent)) (fun x100 => (bif (!x100) then (some true) else (some (!(x62 == x16))))))) (fun x98 => (bif x98 then (some false) else (Option.bind (laws_markEntry k ({ q := ({ name := x56, ty := x57 } : Que), kind := x58, l := x59, rank := x60, till := x61 } : Ent) 1) (fun x103 => (Option.bind (laws_heldEntry k ({ q := ({ name := x56, ty := x57 } : Que), kind := x58, l := x103.2.l, rank := x60, till := x61 } : Ent) 1) (fun x104 => (bif (decide (x104 < 0)) then (some false) else (bif (!decide (x104 = x103.1)) then (some false) else (Option.bind (Option.bind (laws_toCache k a0) (fun x119 => (Option.bind (laws_toQuest a2) (fun x120 => (Option.bind (impl_Look k x119 a1 x120 a3) (fun x121 => (some (x121.1.q.name, x121.1.q.ty, x121.1.kind, x121.1.l, x121.1.rank, x121.1.till, x121.2)))))))) (fun (x112, x113, x114, x115, x116, x117, x118) => (Option.bind (Option.bind (laws_eqEntry k ({ q := ({ name := x112, ty := x113 } : Que), kind := x114, l := x115, rank := x116, till := x117 } : Ent) ({ q := ({ name := x10, ty := x11 } : Que), kind := x12, l := x13, rank := x14, till := x15 } : Ent)) (fun x152 => (bif (!x152) then (some true) else (some (!(x118 == x16)))))) (fun x151 => (bif x151 then (some false) else (Option.bind (laws_heldEntry k ({ q := ({ name := x56, ty := x57 } : Que), kind := x58, l := x103.2.l, rank := x60, till := x61 } : Ent) 1) (fun x155 => (bif (decide (x155 < 0)) then (some false) else (bif (!decide (x155 = x103.1)) then (some false) else (some true)))))))))))))))))))))))))))))))))))))))
def spec_Expire_b1 (a0 : Cac) (a1 : Int) : ((List Ent) × Int) → Option (Stp ((List Ent) × Int) (List Ent) Cac)
  | (x1, x2) => (bif (decide (x2 < (a0.l.length : Int))) then (Option.bind (atI a0.l x2) (fun x10 => (Option.bind (spec_l15Lives x10 a1) (fun x11 => (bif x11 then (Option.bind (atI a0.l x2) (fun x12 => (Option.bind (spec_l15Entry x12) (fun x13 => (Option.bind (apL x1 [x13]) (fun x14 => (some (.next (x14, (w64 (x2 + 1))))))))))) else (some (.next (x1, (w64 (x2 + 1)))))))))) else (some (.brk x1)))
def spec_Expire (k : Nat) (a0 : Cac) (a1 : Int) : Option Cac :=
  (Option.bind (iter (spec_Expire_b1 a0 a1) k ([], 0)) (Out.go (fun x9 => (some ({ cap := a0.cap, l := x9 } : Cac)))))
def impl_copyEntry (a0 : Ent) : Option Ent :=
  (Option.bind (slices_Clone_Record a0.l) (fun x1 => (some ({ q := a0.q, kind := a0.kind, l := x1, rank := a0.rank, till := a0.till } : Ent))))
def impl_copyCache_b1 (a0 : Cac) : ((List Ent) × Int) → Option (Stp ((List Ent) × Int) (List Ent) Cac)
  | (x1, x2) => (bif (decide (x2 < (a0.l.length : Int))) then (Option.bind (atI a0.l x2) (fun x8 => (Option.bind (Option.bind (impl_copyEntry x8) (fun x11 => (Option.bind (apL x1 [x11]) (fun x12 => (some x12))))) (fun x10 => (some (.next (x10, (w64 (x2 + 1))))))))) else (some (.brk x1)))
def impl_copyCache (k : Nat) (a0 : Cac) : Option Cac :=
  (Option.bind (iter (impl_copyCache_b1 a0) k ([], 0)) (Out.go (fun x7 => (some ({ cap := a0.cap, l := x7 } : Cac)))))
def slices_IndexFunc_Entry_b1 (a0 : List Ent) (a1 : Ent → Option Bool) : Int → Option (Stp Int Unit Int)
  | x1 => (bif (decide (x1 < (a0.length : Int))) then (Option.bind (atI a0 x1) (fun x4 => (Option.bind (a1 x4) (fun x5 => (bif x5 then (some (.ret x1)) else (some (.next (w64 (x1 + 1))))))))) else (some (.brk ())))
def slices_IndexFunc_Entry (k : Nat) (a0 : List Ent) (a1 : Ent → Option Bool) : Option Int :=
  (Option.bind (iter (slices_IndexFunc_Entry_b1 a0 a1) k 0) (Out.go (fun _ => (some (-1)))))
def impl_Expire_1 (a0 : Ent) (a1 : Int) : Option Bool :=
  (some (decide (a0.till ≤ a1)))
def laws_heldEntryS_b1 (k : Nat) (a0 : List Ent) : (Int × Int) → Option (Stp (Int × Int) Int Int)
  | (x1, x2) => (bif (decide (x2 < (a0.length : Int))) then (Option.bind (atI a0 x2) (fun x13 => (Option.bind (laws_markText k x1) (fun x14 => (bif (!decide (x13.q.name = x14)) then (some (.ret (-1))) else (Option.bind (atI a0 x2) (fun x15 => (bif (!decide (x15.q.ty = (w64 (x1 + 1)))) then (some (.ret (-1))) else (Option.bind (atI a0 x2) (fun x16 => (bif (!decide (x16.kind = (w64 ((w64 (x1 + 1)) + 1)))) then (some (.ret (-1))) else (Option.bind (atI a0 x2) (fun x17 => (Option.bind (laws_heldRecordS k x17.l (w64 ((w64 ((w64 (x1 + 1)) + 1)) + 1))) (fun x18 => (bif (decide (x18 < 0)) then (some (.ret (-1))) else (Option.bind (atI a0 x2) (fun x19 => (bif (!decide (x19.rank = x18)) then (some (.ret (-1))) else (Option.bind (atI a0 x2) (fun x20 => (bif (!decide (x20.till = (w64 (x18 + 1)))) then (some (.ret (-1))) else (some (.next ((w64 ((w64 (x18 + 1)) + 1)), (w64 (x2 + 1))))))))))))))))))))))))))) else (some (.brk x1)))
def laws_heldEntryS (k : Nat) (a0 : List Ent) (a1 : Int) : Option Int :=
  (Option.bind (iter (laws_heldEntryS_b1 k a0) k (a1, 0)) (Out.go (fun x12 => (some x12))))
def laws_heldCache (k : Nat) (a0 : Cac) (a1 : Int) : Option Int :=
  (Option.bind (laws_heldEntryS k a0.l a1) (fun x1 => (bif (decide (x1 < 0)) then (some (-1)) else (some x1))))
end Go.Proofs.Ytcolndejambcmaa.Ew
