/- The code answers as its pure twin (printed by gen2.py). -/
import Derived.Test.YtcolndejambcmaaF
import Derived.Test.YtcolndejambcmaaY
import Derived.Test.YtcolndejambcmaaG1
import Derived.Test.YtcolndejambcmaaG2
import Derived.Test.YtcolndejambcmaaG3
namespace Go.Proofs.Ytcolndejambcmaa.Ew
open Go.RowKit Go.Proofs.YtcolndejambcmaaW.PrintWords Go.Proofs.YtcolndejambcmaaW.PrintLast
set_option linter.unusedVariables false
set_option linter.unusedSimpArgs false
-- 16 loop.example/g00497/spec.Expire
set_option maxHeartbeats 4000000 in
set_option maxRecDepth 100000 in
theorem spec_Expire_ok {k : Nat} {a0 : Cac} {a1 : Int} {r : Cac} (hf : spec_Expire k a0 a1 = some r) {b w : World} {s : Nat → Prop} {v1 : Sv} (hr1 : (kEnt 66).C b (sl v1) a0.l) (hS : St b w s [] w) : Calls Try.prog 16 ([.agg #[vi a0.cap, sl v1], vi a1] : List Value).toArray w fun e w' => ∃ v M, e = .returned v ∧ (∃ u1 : Sv, v = .agg #[vi r.cap, sl u1] ∧ M = [.row (kEnt 66) 32 (sl u1) r.l]) ∧ St b w s M w' := by
  rw [spec_Expire] at hf
  refine calls_of (n := 39) (args := [_, _]) Try.func16 rfl rfl (Nat.le_of_ble_eq_true rfl) ?_
  refine EW.seq ?_
  refine EW.region ?_
  refine SL.box hS rfl (by decide) (fun g1 w1 hS1 => ?_)
  clear hS
  refine SL.alloc hS1 i37 (by decide) (fun g2 w2 hS2 => ?_)
  clear hS1
  refine EL.nil ?_
  refine thenE_n ?_
  refine EW.seq ?_
  refine EW.region ?_
  refine EL.rn (rn_fa rfl Try.underlying37 rfl z3 (by decide) rfl _) rfl rfl (by decide) ?_
  refine EL.rn (rn_ld rfl Try.underlying3 (by simp) (by simp) (hS2.a 0 rfl) rfl) rfl rfl (by decide) ?_
  refine SL.lit hS2 (kEnt 66) [] [] rfl rfl rfl Try.underlying35 i32 (by decide) rfl (by decide) (fun _ _ => trivial) (by decide) (fun v2 w3 hS3 => ?_)
  clear hS2
  refine EL.rn (rn_bld (cs := #[vi a0.cap, sl v2]) [(0, vi a0.cap), (1, sl v2)] rfl Try.underlying37 i37 p37 q37 rfl _) rfl rfl (by decide) ?_
  refine SL.alloc hS3 i37 (by decide) (fun g3 w4 hS4 => ?_)
  clear hS3
  refine SL.stb hS4 3 rfl rfl rfl [vi a0.cap, sl v2] rfl z37 rfl (Nat.le_of_ble_eq_true rfl) #[vi a0.cap, sl v2] rfl (fun w5 hS5 => ?_)
  clear hS4
  refine EL.nil ?_
  refine thenE_n ?_
  refine EW.seq ?_
  refine EW.seq ?_
  refine EW.region ?_
  refine EL.q rfl rfl rfl (by decide) ?_
  refine EL.nil ?_
  refine thenE_n ?_
  obtain ⟨o1, hx6, hf10⟩ := bnd hf
  clear hf
  refine EW.cut (fun e W => ∃ v10 : Sv, ∃ x9 : List Ent, o1 = .brk x9 ∧ e = [(4, ptr (at0 g2) 0), (5, ptr (at0 g3) 0)] ∧ St b w s [.blk g2 37 #[vi 0, .slice none 0 0], .blk g3 37 #[vi a0.cap, sl v10], .row (kEnt 66) 32 (sl v10) x9] W) ?_ ?_
  · skip
    refine EW.block ?_
    refine EW.loopP hx6 (fun (x : (List Ent) × Int) e W => match x with | (x1, x2) => ∃ v3 : Sv, e = [(1, vi a1), (2, ptr (at0 g1) 0), (4, ptr (at0 g2) 0), (5, ptr (at0 g3) 0), (6, vi x2)] ∧ St b w s [.blk g1 37 #[vi a0.cap, sl v1], .blk g2 37 #[vi 0, .slice none 0 0], .blk g3 37 #[vi a0.cap, sl v3], .row (kEnt 66) 32 (sl v3) x1] W) [(1, vi a1), (2, ptr (at0 g1) 0), (4, ptr (at0 g2) 0), (5, ptr (at0 g3) 0), (6, vi 0)] ⟨rfl, rfl, rfl, rfl, rfl, trivial⟩ ⟨v2, rfl, hS5.sel [0, 1, 3, 2] rfl (by decide)⟩ ?_
    rintro ⟨x1, x2⟩ e w13 ⟨v3, rfl, hS14⟩ st1 hf11 hbr1 hrt1
    rw [spec_Expire_b1] at hf11
    refine EW.seq ?_
    refine EW.seq ?_
    refine EW.region ?_
    refine EL.q rfl rfl rfl (by decide) ?_
    refine EL.rn (rn_fa rfl Try.underlying37 rfl z35 (by decide) rfl _) rfl rfl (by decide) ?_
    refine EL.rn (rn_ld rfl Try.underlying35 (by simp) (by simp) (hS14.a 0 rfl) rfl) rfl rfl (by decide) ?_
    refine EL.rn (rn_len rfl (K2.C.sl (d := (kEnt 66)) (hS14.now hr1)) Try.underlying35 _) rfl rfl (by decide) ?_
    refine EL.q rfl rfl rfl (by decide) ?_
    refine EL.nil ?_
    refine thenE_n ?_
    refine EW.cond rfl (fun hc3 => ?_) (fun hc3 => ?_)
    · skip
      have hf12 := bifT hc3 hf11
      clear hf11
      refine EW.skip ?_
      refine thenE_n ?_
      refine EW.seq ?_
      refine EW.block ?_
      refine EW.seq ?_
      refine EW.region ?_
      refine EL.rn (rn_fa rfl Try.underlying37 rfl z35 (by decide) rfl _) rfl rfl (by decide) ?_
      refine EL.rn (rn_ld rfl Try.underlying35 (by simp) (by simp) (hS14.a 0 rfl) rfl) rfl rfl (by decide) ?_
      refine EL.q rfl rfl rfl (by decide) ?_
      obtain ⟨x10, hx7, hf13⟩ := bnd hf12
      clear hf12
      obtain ⟨ad3, hE3⟩ := EA.of (d := (kEnt 66)) (hS14.now hr1) hx7
      refine EL.rn (rn_ix rfl rfl hE3 Try.underlying35 z32 _) rfl rfl (by decide) ?_
      obtain ⟨v11, hA3, hr4⟩ := Ent_at hr1 hE3 hx7
      refine EL.rn (rn_lds (m := 6) [str x10.q.name, vi x10.q.ty, vi x10.kind, sl v11, vi x10.rank, vi x10.till] rfl Try.underlying32 (hA3.agr hS14.agr) rfl z32) rfl rfl (by decide) ?_
      refine EL.q rfl rfl rfl (by decide) ?_
      obtain ⟨x11, hx8, hf14⟩ := bnd hf13
      clear hf13
      refine SL.call hS14 [_, _] rfl Try.func20 (by kernel_rfl) rfl (by decide) [] (by decide) (L0 := []) rfl (fun b' s hb hw hrd hS => spec_l15Lives_ok hx8 (hr4.agr hb) hS) (fun v M w14 hΦ hS15 => ?_)
      clear hS14
      obtain ⟨rfl, rfl⟩ := hΦ
      refine EL.nil ?_
      refine thenE_n ?_
      refine EW.cond rfl (fun hc4 => ?_) (fun hc4 => ?_)
      · skip
        have hf15 := bifT hc4 hf14
        clear hf14
        refine EW.seq ?_
        refine EW.region ?_
        refine EL.rn (rn_fa rfl Try.underlying37 rfl z35 (by decide) rfl _) rfl rfl (by decide) ?_
        refine EL.rn (rn_ld rfl Try.underlying35 (by simp) (by simp) (hS15.a 0 rfl) rfl) rfl rfl (by decide) ?_
        refine EL.q rfl rfl rfl (by decide) ?_
        obtain ⟨x12, hx9, hf16⟩ := bnd hf15
        clear hf15
        obtain ⟨ad4, hE4⟩ := EA.of (d := (kEnt 66)) (hS15.now hr1) hx9
        refine EL.rn (rn_ix rfl rfl hE4 Try.underlying35 z32 _) rfl rfl (by decide) ?_
        obtain ⟨v12, hA4, hr5⟩ := Ent_at hr1 hE4 hx9
        refine EL.rn (rn_lds (m := 6) [str x12.q.name, vi x12.q.ty, vi x12.kind, sl v12, vi x12.rank, vi x12.till] rfl Try.underlying32 (hA4.agr hS15.agr) rfl z32) rfl rfl (by decide) ?_
        obtain ⟨x13, hx10, hf17⟩ := bnd hf16
        clear hf16
        refine SL.call hS15 [_] rfl Try.func21 (by kernel_rfl) rfl (by decide) [] (by decide) (L0 := []) rfl (fun b' s hb hw hrd hS => spec_l15Entry_ok hx10 (hr5.agr hb) hS) (fun v M w15 hΦ hS16 => ?_)
        clear hS15
        obtain ⟨v13, rfl, rfl⟩ := hΦ
        refine SL.alloc hS16 i32 (by decide) (fun g5 w16 hS17 => ?_)
        clear hS16
        refine SL.stb hS17 5 rfl rfl rfl [str x13.q.name, vi x13.q.ty, vi x13.kind, sl v13, vi x13.rank, vi x13.till] rfl z32 rfl (Nat.le_of_ble_eq_true rfl) #[str x13.q.name, vi x13.q.ty, vi x13.kind, sl v13, vi x13.rank, vi x13.till] rfl (fun w17 hS18 => ?_)
        clear hS17
        refine EL.nil ?_
        refine thenE_n ?_
        refine EW.region ?_
        refine EL.rn (rn_fa rfl Try.underlying37 rfl z35 (by decide) rfl _) rfl rfl (by decide) ?_
        refine EL.rn (rn_ld rfl Try.underlying35 (by simp) (by simp) (hS18.a 2 rfl) rfl) rfl rfl (by decide) ?_
        refine EL.rn (rn_lds (m := 6) [str x13.q.name, vi x13.q.ty, vi x13.kind, sl v13, vi x13.rank, vi x13.till] rfl Try.underlying32 (hS18.a 5 rfl) rfl z32) rfl rfl (by decide) ?_
        have hS19 := hS18.conv 4 rfl (a' := .val (kEnt 66) [str x13.q.name, vi x13.q.ty, vi x13.kind, sl v13, vi x13.rank, vi x13.till] x13) (fun w s h => Ent_Mk (x := x13) h)
        clear hS18
        refine SL.litv hS19 4 rfl rfl rfl Try.underlying35 i32 (by decide) (by decide) rfl (by decide) (fun v14 w18 hS20 => ?_)
        clear hS19
        obtain ⟨x14, hx11, hf18⟩ := bnd hf17
        clear hf17
        refine SL.app2 hS20 3 4 rfl rfl (by decide) rfl rfl Try.underlying35 i32 rfl (by decide) (by decide) (by decide) hx11 (by decide) (fun v15 w19 hS21 => ?_)
        clear hS20
        refine EL.rn (rn_fa rfl Try.underlying37 rfl z35 (by decide) rfl _) rfl rfl (by decide) ?_
        refine SL.stb hS21 2 rfl rfl rfl [sl v15] rfl z35 rfl (Nat.le_of_ble_eq_true rfl) #[vi a0.cap, sl v15] rfl (fun w20 hS22 => ?_)
        clear hS21
        refine EL.nil ?_
        refine inB_n ?_
        refine thenE_n ?_
        refine EW.region ?_
        iterate 3 refine EL.q rfl rfl rfl (by decide) ?_
        refine EL.nil ?_
        obtain rfl := Option.some.inj hf18
        refine thenE_n ?_
        exact ⟨(x14, (w64 (x2 + 1))), [(1, vi a1), (2, ptr (at0 g1) 0), (4, ptr (at0 g2) 0), (5, ptr (at0 g3) 0), (6, vi (w64 (x2 + 1)))], rfl, ⟨rfl, rfl, rfl, rfl, rfl, trivial⟩, v15, rfl, hS22.sel [0, 1, 2, 3] rfl (by decide)⟩
      · skip
        have hf19 := bifF hc4 hf14
        clear hf14
        refine EW.skip ?_
        refine inB_n ?_
        refine thenE_n ?_
        refine EW.region ?_
        iterate 3 refine EL.q rfl rfl rfl (by decide) ?_
        refine EL.nil ?_
        obtain rfl := Option.some.inj hf19
        refine thenE_n ?_
        exact ⟨(x1, (w64 (x2 + 1))), [(1, vi a1), (2, ptr (at0 g1) 0), (4, ptr (at0 g2) 0), (5, ptr (at0 g3) 0), (6, vi (w64 (x2 + 1)))], rfl, ⟨rfl, rfl, rfl, rfl, rfl, trivial⟩, v3, rfl, hS15.sel [0, 1, 2, 3] rfl (by decide)⟩
    · skip
      have hf20 := bifF hc3 hf11
      clear hf11
      refine EW.exit ?_
      repeat (first | refine thenE_x ?_ | refine inB_x ?_ | refine inB_y (by decide) ?_)
      obtain rfl := Option.some.inj hf20
      obtain rfl := hbr1 _ rfl
      refine thenE_n ?_
      exact ⟨[(4, ptr (at0 g2) 0), (5, ptr (at0 g3) 0)], ⟨rfl, rfl, trivial⟩, v3, x1, rfl, rfl, hS14.sel [1, 2, 3] rfl (by decide)⟩
  · skip
    rintro e w21 ⟨v10, x9, rfl, rfl, hS23⟩
    refine thenE_n ?_
    refine EW.seq ?_
    refine EW.region ?_
    refine EL.rn (rn_lds (m := 2) [vi a0.cap, sl v10] rfl Try.underlying37 (hS23.a 1 rfl) rfl z37) rfl rfl (by decide) ?_
    refine SL.stb hS23 0 rfl rfl rfl [vi a0.cap, sl v10] rfl z37 rfl (Nat.le_of_ble_eq_true rfl) #[vi a0.cap, sl v10] rfl (fun w22 hS24 => ?_)
    clear hS23
    refine EL.nil ?_
    refine thenE_n ?_
    refine EW.ret ?_
    repeat (first | refine thenE_r ?_ | refine inB_r ?_)
    obtain rfl := Option.some.inj hf10
    exact ⟨_, res1 rfl (.cell rfl (hS24.blk 0 rfl) Try.underlying37 z37 .nil), _, _, rfl, ⟨v10, rfl, rfl⟩, hS24.sel [2] rfl (by decide)⟩

-- 41 loop.example/g00497/impl.copyEntry
set_option maxHeartbeats 4000000 in
set_option maxRecDepth 100000 in
theorem impl_copyEntry_ok {a0 : Ent} {r : Ent} (hf : impl_copyEntry a0 = some r) {b w : World} {s : Nat → Prop} {v1 : Sv} (hr1 : kRec.C b (sl v1) a0.l) (hS : St b w s [] w) : Calls Try.prog 41 ([.agg #[str a0.q.name, vi a0.q.ty, vi a0.kind, sl v1, vi a0.rank, vi a0.till]] : List Value).toArray w fun e w' => ∃ v M, e = .returned v ∧ (∃ u1 : Sv, v = .agg #[str r.q.name, vi r.q.ty, vi r.kind, sl u1, vi r.rank, vi r.till] ∧ M = [.row kRec 66 (sl u1) r.l]) ∧ St b w s M w' := by
  rw [impl_copyEntry] at hf
  refine calls_of (n := 8) (args := [_]) Try.func41 rfl rfl (Nat.le_of_ble_eq_true rfl) ?_
  refine EW.seq ?_
  refine EW.region ?_
  refine SL.box hS rfl (by decide) (fun g1 w1 hS1 => ?_)
  clear hS
  refine SL.alloc hS1 i32 (by decide) (fun g2 w2 hS2 => ?_)
  clear hS1
  refine EL.nil ?_
  refine thenE_n ?_
  refine EW.seq ?_
  refine EW.region ?_
  refine EL.rn (rn_fa rfl Try.underlying32 rfl z30 (by decide) rfl _) rfl rfl (by decide) ?_
  refine EL.rn (rn_ld rfl Try.underlying30 (by simp) (by simp) (hS2.a 0 rfl) rfl) rfl rfl (by decide) ?_
  obtain ⟨x1, hx1, hf1⟩ := bnd hf
  clear hf
  refine SL.call hS2 [_] rfl Try.func38 (by kernel_rfl) rfl (by decide) [] (by decide) (L0 := []) rfl (fun b' s hb hw hrd hS => slices_Clone_Record_ok hx1 (hr1.agr hb) hS) (fun v M w3 hΦ hS3 => ?_)
  clear hS2
  obtain ⟨v2, rfl, rfl⟩ := hΦ
  refine EL.rn (rn_fa rfl Try.underlying32 rfl z30 (by decide) rfl _) rfl rfl (by decide) ?_
  refine SL.stb hS3 0 rfl rfl rfl [sl v2] rfl z30 rfl (Nat.le_of_ble_eq_true rfl) #[str a0.q.name, vi a0.q.ty, vi a0.kind, sl v2, vi a0.rank, vi a0.till] rfl (fun w4 hS4 => ?_)
  clear hS3
  refine EL.nil ?_
  refine thenE_n ?_
  refine EW.seq ?_
  refine EW.region ?_
  refine EL.rn (rn_lds (m := 6) [str a0.q.name, vi a0.q.ty, vi a0.kind, sl v2, vi a0.rank, vi a0.till] rfl Try.underlying32 (hS4.a 0 rfl) rfl z32) rfl rfl (by decide) ?_
  refine SL.stb hS4 1 rfl rfl rfl [str a0.q.name, vi a0.q.ty, vi a0.kind, sl v2, vi a0.rank, vi a0.till] rfl z32 rfl (Nat.le_of_ble_eq_true rfl) #[str a0.q.name, vi a0.q.ty, vi a0.kind, sl v2, vi a0.rank, vi a0.till] rfl (fun w5 hS5 => ?_)
  clear hS4
  refine EL.nil ?_
  refine thenE_n ?_
  refine EW.ret ?_
  repeat (first | refine thenE_r ?_ | refine inB_r ?_)
  obtain rfl := Option.some.inj hf1
  exact ⟨_, res1 rfl (.cell rfl (hS5.blk 1 rfl) Try.underlying32 z32 .nil), _, _, rfl, ⟨v2, rfl, rfl⟩, hS5.sel [2] rfl (by decide)⟩

-- 31 loop.example/g00497/impl.copyCache
set_option maxHeartbeats 4000000 in
set_option maxRecDepth 100000 in
theorem impl_copyCache_ok {k : Nat} {a0 : Cac} {r : Cac} (hf : impl_copyCache k a0 = some r) {b w : World} {s : Nat → Prop} {v1 : Sv} (hr1 : (kEnt 66).C b (sl v1) a0.l) (hS : St b w s [] w) : Calls Try.prog 31 ([.agg #[vi a0.cap, sl v1]] : List Value).toArray w fun e w' => ∃ v M, e = .returned v ∧ (∃ u1 : Sv, v = .agg #[vi r.cap, sl u1] ∧ M = [.row (kEnt 66) 32 (sl u1) r.l]) ∧ St b w s M w' := by
  rw [impl_copyCache] at hf
  refine calls_of (n := 25) (args := [_]) Try.func31 rfl rfl (Nat.le_of_ble_eq_true rfl) ?_
  refine EW.seq ?_
  refine EW.region ?_
  refine SL.box hS rfl (by decide) (fun g1 w1 hS1 => ?_)
  clear hS
  refine SL.alloc hS1 i37 (by decide) (fun g2 w2 hS2 => ?_)
  clear hS1
  refine EL.nil ?_
  refine thenE_n ?_
  refine EW.seq ?_
  refine EW.region ?_
  refine EL.rn (rn_fa rfl Try.underlying37 rfl z3 (by decide) rfl _) rfl rfl (by decide) ?_
  refine EL.rn (rn_ld rfl Try.underlying3 (by simp) (by simp) (hS2.a 0 rfl) rfl) rfl rfl (by decide) ?_
  refine EL.rn (rn_bld (cs := #[vi a0.cap, .slice none 0 0]) [(0, vi a0.cap)] rfl Try.underlying37 i37 p37 q37 rfl _) rfl rfl (by decide) ?_
  refine SL.alloc hS2 i37 (by decide) (fun g3 w3 hS3 => ?_)
  clear hS2
  refine SL.stb hS3 2 rfl rfl rfl [vi a0.cap, .slice none 0 0] rfl z37 rfl (Nat.le_of_ble_eq_true rfl) #[vi a0.cap, .slice none 0 0] rfl (fun w4 hS4 => ?_)
  clear hS3
  refine EL.nil ?_
  refine thenE_n ?_
  refine EW.seq ?_
  refine EW.seq ?_
  refine EW.region ?_
  refine EL.rn (rn_fa rfl Try.underlying37 rfl z35 (by decide) rfl _) rfl rfl (by decide) ?_
  refine EL.rn (rn_ld rfl Try.underlying35 (by simp) (by simp) (hS4.a 0 rfl) rfl) rfl rfl (by decide) ?_
  refine EL.rn (rn_len rfl (K2.C.sl (d := (kEnt 66)) (hS4.now hr1)) Try.underlying35 _) rfl rfl (by decide) ?_
  refine EL.q rfl rfl rfl (by decide) ?_
  refine EL.nil ?_
  refine thenE_n ?_
  obtain ⟨o1, hx2, hf4⟩ := bnd hf
  clear hf
  refine EW.cut (fun e W => ∃ v7 : Sv, ∃ x7 : List Ent, o1 = .brk x7 ∧ e = [(2, ptr (at0 g2) 0), (3, ptr (at0 g3) 0)] ∧ St b w s [.blk g2 37 #[vi 0, .slice none 0 0], .blk g3 37 #[vi a0.cap, sl v7], .row (kEnt 66) 32 (sl v7) x7] W) ?_ ?_
  · skip
    refine EW.block ?_
    have hS8 := hS4.nilrow (kEnt 66) 32
    refine EW.loopP hx2 (fun (x : (List Ent) × Int) e W => match x with | (x1, x2) => ∃ v2 : Sv, e = [(2, ptr (at0 g2) 0), (3, ptr (at0 g3) 0), (10, sl v1), (11, vi (a0.l.length : Int)), (12, vi x2)] ∧ St b w s [.blk g2 37 #[vi 0, .slice none 0 0], .blk g3 37 #[vi a0.cap, sl v2], .row (kEnt 66) 32 (sl v2) x1] W) [(2, ptr (at0 g2) 0), (3, ptr (at0 g3) 0), (10, sl v1), (11, vi (a0.l.length : Int)), (12, vi 0)] ⟨rfl, rfl, rfl, rfl, rfl, trivial⟩ ⟨(none, 0, 0), rfl, hS8.sel [1, 2, 3] rfl (by decide)⟩ ?_
    rintro ⟨x1, x2⟩ e w8 ⟨v2, rfl, hS9⟩ st1 hf5 hbr1 hrt1
    rw [impl_copyCache_b1] at hf5
    refine EW.seq ?_
    refine EW.region ?_
    refine EL.q rfl rfl rfl (by decide) ?_
    refine EL.nil ?_
    refine thenE_n ?_
    refine EW.seq ?_
    refine EW.cond rfl (fun hc2 => ?_) (fun hc2 => ?_)
    · skip
      have hf6 := bifT hc2 hf5
      clear hf5
      refine EW.skip ?_
      refine thenE_n ?_
      refine EW.seq ?_
      refine EW.block ?_
      refine EW.seq ?_
      refine EW.region ?_
      obtain ⟨x8, hx3, hf7⟩ := bnd hf6
      clear hf6
      obtain ⟨ad2, hE2⟩ := EA.of (d := (kEnt 66)) (hS9.now hr1) hx3
      refine EL.rn (rn_ix rfl rfl hE2 Try.underlying35 z32 _) rfl rfl (by decide) ?_
      obtain ⟨v8, hA2, hr3⟩ := Ent_at hr1 hE2 hx3
      refine EL.rn (rn_lds (m := 6) [str x8.q.name, vi x8.q.ty, vi x8.kind, sl v8, vi x8.rank, vi x8.till] rfl Try.underlying32 (hA2.agr hS9.agr) rfl z32) rfl rfl (by decide) ?_
      refine SL.alloc hS9 i32 (by decide) (fun g5 w9 hS10 => ?_)
      clear hS9
      refine SL.stb hS10 3 rfl rfl rfl [str x8.q.name, vi x8.q.ty, vi x8.kind, sl v8, vi x8.rank, vi x8.till] rfl z32 rfl (Nat.le_of_ble_eq_true rfl) #[str x8.q.name, vi x8.q.ty, vi x8.kind, sl v8, vi x8.rank, vi x8.till] rfl (fun w10 hS11 => ?_)
      clear hS10
      refine EL.nil ?_
      refine thenE_n ?_
      obtain ⟨x10, hx4, hf8⟩ := bnd hf7
      clear hf7
      refine EW.cut (fun e W => ∃ v10 : Sv, e = [(2, ptr (at0 g2) 0), (3, ptr (at0 g3) 0), (10, sl v1), (11, vi (a0.l.length : Int)), (12, vi x2)] ∧ St b w s [.blk g2 37 #[vi 0, .slice none 0 0], .blk g3 37 #[vi a0.cap, sl v10], .row (kEnt 66) 32 (sl v10) x10] W) ?_ ?_
      · skip
        obtain ⟨x11, hx5, hf9⟩ := bnd hx4
        clear hx4
        obtain ⟨x12, hx6, hf10⟩ := bnd hf9
        clear hf9
        have hS18 := hS11.drew
        refine EW.drawn (m := 8) (fun W => CellsAt W (at0 g3) 0 [vi a0.cap, sl v2] ∧ CellsAt W (at0 g5) 0 [str x8.q.name, vi x8.q.ty, vi x8.kind, sl v8, vi x8.rank, vi x8.till] ∧ True) [7] (by kernel_rfl) rfl ⟨(hS18.a 1 rfl), (hS18.a 3 rfl), trivial⟩ ?_
        refine DR.q 0 rfl (fun w' => rn_fa rfl Try.underlying37 rfl z35 (by decide) rfl w') rfl rfl (by decide) (by kernel_rfl) ?_
        refine DR.take 1 rfl (fun w' hw => rn_ld rfl Try.underlying35 (by simp) (by simp) hw.1 rfl) rfl rfl (by decide) (by kernel_rfl) ⟨(hS18.a 1 rfl), (hS18.a 3 rfl), trivial⟩ ?_
        refine DR.take 2 rfl (fun w' hw => rn_lds (m := 6) [str x8.q.name, vi x8.q.ty, vi x8.kind, sl v8, vi x8.rank, vi x8.till] rfl Try.underlying32 hw.2.1 rfl z32) rfl rfl (by decide) (by kernel_rfl) ⟨(hS18.a 1 rfl), (hS18.a 3 rfl), trivial⟩ ?_
        refine DR.one 3 (by kernel_rfl) rfl ?_
        refine SL.call hS18 [_] rfl Try.func41 (by kernel_rfl) rfl (by decide) [] (by decide) (L0 := []) rfl (fun b' s hb hw hrd hS => impl_copyEntry_ok hx5 (hr3.agr hb) hS) (fun v M w17 hΦ hS19 => ?_)
        clear hS18
        obtain ⟨v11, rfl, rfl⟩ := hΦ
        refine EL.then_ ⟨(hS19.a 1 rfl), (hS19.a 3 rfl), trivial⟩ ?_
        refine DR.one 4 (by kernel_rfl) rfl ?_
        have hS20 := hS19.conv 4 rfl (a' := .val (kEnt 66) [str x11.q.name, vi x11.q.ty, vi x11.kind, sl v11, vi x11.rank, vi x11.till] x11) (fun w s h => Ent_Mk (x := x11) h)
        clear hS19
        refine SL.litv hS20 4 rfl rfl rfl Try.underlying35 i32 (by decide) (by decide) rfl (by decide) (fun v12 w18 hS21 => ?_)
        clear hS20
        refine EL.then_ ⟨(hS21.a 1 rfl), (hS21.a 3 rfl), trivial⟩ ?_
        refine DR.one 5 (by kernel_rfl) rfl ?_
        refine SL.app2 hS21 2 4 rfl rfl (by decide) rfl rfl Try.underlying35 i32 rfl (by decide) (by decide) (by decide) hx6 (by decide) (fun v13 w19 hS22 => ?_)
        clear hS21
        refine EL.then_ ⟨(hS22.a 1 rfl), (hS22.a 3 rfl), trivial⟩ ?_
        refine DR.q 6 rfl (fun w' => rn_fa rfl Try.underlying37 rfl z35 (by decide) rfl w') rfl rfl (by decide) (by kernel_rfl) ?_
        refine DR.one 7 (by kernel_rfl) rfl ?_
        refine SL.stb hS22 1 rfl rfl rfl [sl v13] rfl z35 rfl (Nat.le_of_ble_eq_true rfl) #[vi a0.cap, sl v13] rfl (fun w20 hS23 => ?_)
        clear hS22
        refine EL.last_ (by decide) ?_
        refine DR.done (by kernel_rfl) ?_
        cases hf10
        refine thenE_n ?_
        exact ⟨[(2, ptr (at0 g2) 0), (3, ptr (at0 g3) 0), (10, sl v1), (11, vi (a0.l.length : Int)), (12, vi x2)], ⟨rfl, rfl, rfl, rfl, rfl, trivial⟩, v13, rfl, hS23.sel [0, 1, 2] rfl (by decide)⟩
      · skip
        rintro e w21 ⟨v10, rfl, hS24⟩
        refine inB_n ?_
        refine thenE_n ?_
        refine EW.region ?_
        iterate 2 refine EL.q rfl rfl rfl (by decide) ?_
        refine EL.nil ?_
        obtain rfl := Option.some.inj hf8
        refine thenE_n ?_
        exact ⟨(x10, (w64 (x2 + 1))), [(2, ptr (at0 g2) 0), (3, ptr (at0 g3) 0), (10, sl v1), (11, vi (a0.l.length : Int)), (12, vi (w64 (x2 + 1)))], rfl, ⟨rfl, rfl, rfl, rfl, rfl, trivial⟩, v10, rfl, hS24.sel [0, 1, 2] rfl (by decide)⟩
    · skip
      have hf11 := bifF hc2 hf5
      clear hf5
      refine EW.exit ?_
      repeat (first | refine thenE_x ?_ | refine inB_x ?_ | refine inB_y (by decide) ?_)
      obtain rfl := Option.some.inj hf11
      obtain rfl := hbr1 _ rfl
      refine thenE_n ?_
      exact ⟨[(2, ptr (at0 g2) 0), (3, ptr (at0 g3) 0)], ⟨rfl, rfl, trivial⟩, v2, x1, rfl, rfl, hS9.sel [0, 1, 2] rfl (by decide)⟩
  · skip
    rintro e w22 ⟨v7, x7, rfl, rfl, hS25⟩
    refine thenE_n ?_
    refine EW.seq ?_
    refine EW.region ?_
    refine EL.rn (rn_lds (m := 2) [vi a0.cap, sl v7] rfl Try.underlying37 (hS25.a 1 rfl) rfl z37) rfl rfl (by decide) ?_
    refine SL.stb hS25 0 rfl rfl rfl [vi a0.cap, sl v7] rfl z37 rfl (Nat.le_of_ble_eq_true rfl) #[vi a0.cap, sl v7] rfl (fun w23 hS26 => ?_)
    clear hS25
    refine EL.nil ?_
    refine thenE_n ?_
    refine EW.ret ?_
    repeat (first | refine thenE_r ?_ | refine inB_r ?_)
    obtain rfl := Option.some.inj hf4
    exact ⟨_, res1 rfl (.cell rfl (hS26.blk 0 rfl) Try.underlying37 z37 .nil), _, _, rfl, ⟨v7, rfl, rfl⟩, hS26.sel [2] rfl (by decide)⟩

-- 42 slices.IndexFunc[[]loop.example/g00497/impl.Entry,loop.example/g00497/impl.Entry]
set_option maxHeartbeats 4000000 in
set_option maxRecDepth 100000 in
theorem slices_IndexFunc_Entry_ok {k : Nat} {a0 : List Ent} {a1 : Ent → Option Bool} {r : Int} (hf : slices_IndexFunc_Entry k a0 a1 = some r) {b w : World} {s : Nat → Prop} {v1 : Sv} {v_a1 : Value} (hr1 : (kEnt 66).C b (sl v1) a0) (hF_a1 : Clo Try.prog v_a1 b (fun b args (x : Ent) => ∃ u1 : Sv, args = [.agg #[str x.q.name, vi x.q.ty, vi x.kind, sl u1, vi x.rank, vi x.till]] ∧ kRec.C b (sl u1) x.l) (fun r => vt r) a1) (hS : St b w s [] w) : Calls Try.prog 42 ([sl v1, v_a1] : List Value).toArray w fun e w' => ∃ v M, e = .returned v ∧ (v = vi r ∧ M = []) ∧ St b w s M w' := by
  rw [slices_IndexFunc_Entry] at hf
  refine calls_of (n := 19) (args := [_, _]) Try.func42 rfl rfl (Nat.le_of_ble_eq_true rfl) ?_
  refine EW.seq ?_
  refine EW.region ?_
  refine EL.q rfl rfl rfl (by decide) ?_
  refine EL.nil ?_
  refine thenE_n ?_
  refine EW.seq ?_
  refine EW.seq ?_
  refine EW.region ?_
  refine EL.q rfl rfl rfl (by decide) ?_
  refine EL.rn (rn_len rfl (K2.C.sl (d := (kEnt 66)) (hS.now hr1)) Try.underlying35 _) rfl rfl (by decide) ?_
  refine EL.q rfl rfl rfl (by decide) ?_
  refine EL.nil ?_
  refine thenE_n ?_
  obtain ⟨o1, hx3, hf7⟩ := bnd hf
  clear hf
  refine EW.cut (fun e W => o1 = .brk () ∧ e = [] ∧ St b w s [] W) ?_ ?_
  · skip
    refine EW.block ?_
    refine EW.loopP hx3 (fun (x : Int) e W => match x with | x1 => e = [(0, sl v1), (1, v_a1), (7, vi (a0.length : Int)), (8, vi x1)] ∧ St b w s [] W) [(0, sl v1), (1, v_a1), (7, vi (a0.length : Int)), (8, vi 0)] ⟨rfl, rfl, rfl, rfl, trivial⟩ ⟨rfl, hS.sel [] rfl (by decide)⟩ ?_
    rintro x1 e w2 ⟨rfl, hS2⟩ st1 hf8 hbr1 hrt1
    rw [slices_IndexFunc_Entry_b1] at hf8
    refine EW.seq ?_
    refine EW.region ?_
    refine EL.q rfl rfl rfl (by decide) ?_
    refine EL.nil ?_
    refine thenE_n ?_
    refine EW.seq ?_
    refine EW.cond rfl (fun hc3 => ?_) (fun hc3 => ?_)
    · skip
      have hf9 := bifT hc3 hf8
      clear hf8
      refine EW.skip ?_
      refine thenE_n ?_
      refine EW.seq ?_
      refine EW.block ?_
      refine EW.seq ?_
      refine EW.region ?_
      iterate 2 refine EL.q rfl rfl rfl (by decide) ?_
      refine EL.nil ?_
      refine thenE_n ?_
      refine EW.seq ?_
      refine EW.region ?_
      iterate 3 refine EL.q rfl rfl rfl (by decide) ?_
      obtain ⟨x4, hx4, hf10⟩ := bnd hf9
      clear hf9
      obtain ⟨ad2, hE2⟩ := EA.of (d := (kEnt 66)) (hS2.now hr1) hx4
      refine EL.rn (rn_ix rfl rfl hE2 Try.underlying35 z32 _) rfl rfl (by decide) ?_
      obtain ⟨v3, hA2, hr3⟩ := Ent_at hr1 hE2 hx4
      refine EL.rn (rn_lds (m := 6) [str x4.q.name, vi x4.q.ty, vi x4.kind, sl v3, vi x4.rank, vi x4.till] rfl Try.underlying32 (hA2.agr hS2.agr) rfl z32) rfl rfl (by decide) ?_
      obtain ⟨x5, hx5, hf11⟩ := bnd hf10
      clear hf10
      refine SL.clo hS2 hF_a1 hx5 [_] rfl rfl (by decide) (fun b' hb hw hrd => ⟨v3, rfl, (hr3.agr hb)⟩) (fun w3 hS3 => ?_)
      clear hS2
      refine EL.nil ?_
      refine thenE_n ?_
      refine EW.cond rfl (fun hc4 => ?_) (fun hc4 => ?_)
      · skip
        have hf12 := bifT hc4 hf11
        clear hf11
        refine EW.seq ?_
        refine EW.region ?_
        iterate 2 refine EL.q rfl rfl rfl (by decide) ?_
        refine EL.nil ?_
        refine thenE_n ?_
        refine EW.ret ?_
        repeat (first | refine thenE_r ?_ | refine inB_r ?_)
        obtain rfl := Option.some.inj hf12
        obtain rfl := hrt1 _ rfl
        obtain rfl := Option.some.inj hf7
        exact ⟨_, res rfl, _, _, rfl, ⟨rfl, rfl⟩, hS3.sel [] rfl (by decide)⟩
      · skip
        have hf13 := bifF hc4 hf11
        clear hf11
        refine EW.skip ?_
        refine inB_n ?_
        refine thenE_n ?_
        refine EW.region ?_
        iterate 2 refine EL.q rfl rfl rfl (by decide) ?_
        refine EL.nil ?_
        obtain rfl := Option.some.inj hf13
        refine thenE_n ?_
        exact ⟨(w64 (x1 + 1)), [(0, sl v1), (1, v_a1), (7, vi (a0.length : Int)), (8, vi (w64 (x1 + 1)))], rfl, ⟨rfl, rfl, rfl, rfl, trivial⟩, rfl, hS3.sel [] rfl (by decide)⟩
    · skip
      have hf14 := bifF hc3 hf8
      clear hf8
      refine EW.exit ?_
      repeat (first | refine thenE_x ?_ | refine inB_x ?_ | refine inB_y (by decide) ?_)
      obtain rfl := Option.some.inj hf14
      obtain rfl := hbr1 _ rfl
      refine thenE_n ?_
      exact ⟨[], trivial, rfl, rfl, hS2.sel [] rfl (by decide)⟩
  · skip
    rintro e w4 ⟨rfl, rfl, hS4⟩
    refine thenE_n ?_
    refine EW.seq ?_
    refine EW.region ?_
    refine EL.q rfl rfl rfl (by decide) ?_
    refine EL.nil ?_
    refine thenE_n ?_
    refine EW.ret ?_
    repeat (first | refine thenE_r ?_ | refine inB_r ?_)
    obtain rfl := Option.some.inj hf7
    exact ⟨_, res rfl, _, _, rfl, ⟨rfl, rfl⟩, hS4.sel [] rfl (by decide)⟩

-- 32 slices.DeleteFunc[[]loop.example/g00497/impl.Entry,loop.example/g00497/impl.Entry]
set_option maxHeartbeats 4000000 in
set_option maxRecDepth 100000 in
theorem slices_DeleteFunc_Entry_ok {k : Nat} {a0 : List Ent} {a1 : Ent → Option Bool} {r : List Ent} (hf : slices_DeleteFunc_Entry k a0 a1 = some r) {b w : World} {s : Nat → Prop} {v1 : Sv} {v_a1 : Value} (hF_a1 : Clo Try.prog v_a1 b (fun b args (x : Ent) => ∃ u1 : Sv, args = [.agg #[str x.q.name, vi x.q.ty, vi x.kind, sl u1, vi x.rank, vi x.till]] ∧ kRec.C b (sl u1) x.l) (fun r => vt r) a1) (hS : St b w s [.row (kEnt 66) 32 (sl v1) a0] w) : Calls Try.prog 32 ([sl v1, v_a1] : List Value).toArray w fun e w' => ∃ v M, e = .returned v ∧ (∃ u1 : Sv, v = sl u1 ∧ M = [.row (kEnt 66) 32 (sl u1) r]) ∧ St b w s M w' := by
  rw [slices_DeleteFunc_Entry] at hf
  refine calls_of (n := 42) (args := [_, _]) Try.func32 rfl rfl (Nat.le_of_ble_eq_true rfl) ?_
  have hv0 := K2.C.sl (d := (kEnt 66)) (hS.c 0 rfl)
  refine EW.seq ?_
  refine EW.region ?_
  refine EL.q rfl rfl rfl (by decide) ?_
  refine EL.nil ?_
  refine thenE_n ?_
  refine EW.seq ?_
  refine EW.region ?_
  iterate 2 refine EL.q rfl rfl rfl (by decide) ?_
  obtain ⟨x1, hx1, hf1⟩ := bnd hf
  clear hf
  refine SL.call hS [_, _] rfl Try.func42 (by kernel_rfl) rfl (by decide) [] (by decide) (L0 := []) rfl (fun b' s hb hw hrd hS => slices_IndexFunc_Entry_ok hx1 (rdc hrd 0 (by decide) rfl) (hF_a1.agr hb) hS) (fun v M w1 hΦ hS1 => ?_)
  clear hS
  obtain ⟨rfl, rfl⟩ := hΦ
  refine EL.q rfl rfl rfl (by decide) ?_
  refine EL.nil ?_
  refine thenE_n ?_
  refine EW.seq ?_
  refine EW.seq ?_
  refine EW.region ?_
  iterate 2 refine EL.q rfl rfl rfl (by decide) ?_
  refine EL.nil ?_
  refine thenE_n ?_
  refine EW.cond rfl (fun hc => ?_) (fun hc => ?_)
  · have hf2 := bifT hc hf1
    refine EW.seq ?_
    refine EW.region ?_
    iterate 2 refine EL.q rfl rfl rfl (by decide) ?_
    refine EL.nil ?_
    refine thenE_n ?_
    refine EW.ret ?_
    repeat (first | refine thenE_r ?_ | refine inB_r ?_)
    obtain rfl := Option.some.inj hf2
    exact ⟨_, res rfl, _, _, rfl, ⟨v1, rfl, rfl⟩, hS1.sel [0] rfl (by decide)⟩
  · obtain ⟨⟨hx0, hxl, hal⟩, hf2⟩ := chk_some (bifF hc hf1)
    clear hf1
    obtain ⟨o1, hx2, hf3⟩ := bnd hf2
    clear hf2
    refine EW.skip ?_
    refine thenE_n ?_
    refine EW.seq ?_
    refine EW.seq ?_
    refine EW.region ?_
    iterate 3 refine EL.q rfl rfl rfl (by decide) ?_
    refine EL.nil ?_
    refine thenE_n ?_
    obtain ⟨css, hcl, hS2⟩ := hS1.splitRow (i := 0) rfl
    clear hS1
    have hS2 : St b w s [.row (kRaw2 6) 32 (sl v1) css, .val (kAll (kEnt 66) css) css.flatten a0] w1 := hS2
    have hw1 : w64 (x1 + 1) = x1 + 1 := wid (by omega) (by omega)
    refine EW.cut (fun e W => ∃ (ys : List Ent) (rw : List (List Value)) (m : List (Ent × List Value)), o1 = .brk ys ∧ e = [(0, sl v1), (1, v_a1), (5, vi (ys.length : Int))] ∧ m.Sublist (a0.zip css) ∧ m.map (·.1) = ys ∧ rw.take ys.length = m.map (·.2) ∧ rw.length = a0.length ∧ ys.length ≤ a0.length ∧ St b w s [.row (kRaw2 6) 32 (sl v1) rw, .val (kAll (kEnt 66) css) css.flatten a0] W) ?_ ?_
    · refine EW.block ?_
      refine EW.loopP hx2 (fun (x : (List Ent) × Int) e W => match x with | (ys, x2) => e = [(0, sl v1), (1, v_a1), (5, vi (ys.length : Int)), (6, vi x2)] ∧ ∃ (rw : List (List Value)) (m : List (Ent × List Value)), 0 ≤ x2 ∧ x2 ≤ (a0.length : Int) ∧ m.Sublist ((a0.zip css).take x2.toNat) ∧ m.map (·.1) = ys ∧ rw.take ys.length = m.map (·.2) ∧ rw.length = a0.length ∧ (ys.length : Int) < x2 ∧ (∀ q, x2.toNat ≤ q → rw[q]? = css[q]?) ∧ St b w s [.row (kRaw2 6) 32 (sl v1) rw, .val (kAll (kEnt 66) css) css.flatten a0] W) [(0, sl v1), (1, v_a1), (5, vi ((a0.take x1.toNat).length : Int)), (6, vi (w64 (x1 + 1)))] ⟨rfl, rfl, ?_, rfl, trivial⟩ ⟨rfl, css, (a0.zip css).take x1.toNat, ?_⟩ ?_
      · have : ((a0.take x1.toNat).length : Int) = x1 := by rw [List.length_take]; omega
        rw [this]; rfl
      · have hzl : (a0.zip css).length = a0.length := by simp [hcl]
        refine ⟨by omega, by omega, ?_, ?_, ?_, hcl, ?_, fun q _ => rfl, hS2⟩
        · rw [hw1, show (x1 + 1).toNat = x1.toNat + 1 by omega]
          exact List.take_sublist_take_left (by omega)
        · rw [List.map_take, zip_fst (by omega)]
        · rw [List.map_take, zip_snd (by omega), List.length_take, Nat.min_eq_left (by omega)]
        · rw [List.length_take]; omega
      · rintro ⟨ys, x2⟩ e w2 ⟨rfl, rw, m, h20, h2l, hm1, hm2, hm3, hrl, hyl, hrq, hS3⟩ st1 hf4 hbr hrt
        clear hS2
        rw [slices_DeleteFunc_Entry_b1] at hf4
        refine EW.seq ?_
        refine EW.seq ?_
        refine EW.region ?_
        iterate 2 refine EL.q rfl rfl rfl (by decide) ?_
        refine EL.rn (rn_len rfl hv0 Try.underlying35 _) rfl rfl (by decide) ?_
        refine EL.q rfl rfl rfl (by decide) ?_
        refine EL.nil ?_
        refine thenE_n ?_
        refine EW.cond rfl (fun hc2 => ?_) (fun hc2 => ?_)
        · have hf5 := bifT hc2 hf4
          have hlt : x2 < (a0.length : Int) := of_decide_eq_true hc2
          clear hf4
          refine EW.skip ?_
          refine thenE_n ?_
          refine EW.seq ?_
          refine EW.block ?_
          refine EW.seq ?_
          refine EW.region ?_
          iterate 2 refine EL.q rfl rfl rfl (by decide) ?_
          obtain ⟨x3, hx3, hf6⟩ := bnd hf5
          clear hf5
          obtain ⟨_, _, hx3n⟩ := atI_some hx3
          obtain ⟨cs, hcs⟩ : ∃ cs, css[x2.toNat]? = some cs := ⟨css[x2.toNat]'(by omega), List.getElem?_eq_getElem _⟩
          have hrc : atI rw x2 = some cs := by rw [atI, if_pos h20, hrq _ (Nat.le_refl _), hcs]
          obtain ⟨ad, hE⟩ := EA.of (d := kRaw2 6) (hS3.c 0 rfl) hrc
          refine EL.rn (rn_ix rfl rfl hE Try.underlying35 z32 _) rfl rfl (by decide) ?_
          have hK : ((kEnt 66)).K w2 x3 cs := ((hS3.rd (i := 1) rfl : (kAll (kEnt 66) css).K w2 a0 css.flatten)).2.2 _ _ _ hx3n hcs
          obtain ⟨cs', ⟨hce, hclen, hone⟩, hA⟩ := (hS3.c 0 rfl).cells hE hrc
          have hce : cs' = cs := hce
          subst hce
          obtain ⟨v3, hf0, _⟩ := Ent_K hK
          have hsz : (Try.prog.info? 32).map (·.size) = some cs'.length := by rw [hclen]; exact z32
          refine EL.rn (rn_lds (m := cs'.length) cs' rfl Try.underlying32 hA (List.take_length) hsz) rfl rfl (by decide) ?_
          refine SL.alloc hS3 i32 (by decide) (fun g w3 hS4 => ?_)
          clear hS3
          refine SL.stb hS4 2 rfl rfl rfl cs' rfl hsz (List.all_eq_true.2 hone) (Nat.le_of_eq (by rw [hclen]; rfl)) cs'.toArray (by rw [hf0]; rfl) (fun w4 hS5 => ?_)
          clear hS4
          refine EL.nil ?_
          refine thenE_n ?_
          refine EW.seq ?_
          refine EW.region ?_
          refine EL.q rfl rfl rfl (by decide) ?_
          refine EL.rn (rn_lds (m := cs'.length) cs' rfl Try.underlying32 (hS5.a 2 rfl) (List.take_length) hsz) rfl rfl (by decide) ?_
          obtain ⟨x4, hx4, hf7⟩ := bnd hf6
          clear hf6
          refine SL.clo hS5 hF_a1 hx4 [_] rfl rfl (by decide) (fun b' hb hw hrd => ?_) (fun w5 hS6 => ?_)
          · have hK2 : ((kEnt 66)).K b' x3 cs' := ((hrd 1 _ (by decide) rfl : (kAll (kEnt 66) css).K b' a0 css.flatten)).2.2 _ _ _ hx3n hcs
            obtain ⟨v4, hf1, hr4⟩ := Ent_K hK2
            exact ⟨v4, by rw [hf1], hr4⟩
          clear hS5
          refine EL.q rfl rfl rfl (by decide) ?_
          refine EL.nil ?_
          refine thenE_n ?_
          have hst := Option.some.inj hf7
          have hw2 : w64 (x2 + 1) = x2 + 1 := wid (by omega) (by omega)
          have hzx : (a0.zip css)[x2.toNat]? = some (x3, cs') := by rw [List.getElem?_zip_eq_some]; exact ⟨hx3n, hcs⟩
          have htk : (a0.zip css).take (x2 + 1).toNat = (a0.zip css).take x2.toNat ++ [(x3, cs')] := by
            rw [show (x2 + 1).toNat = x2.toNat + 1 by omega, List.take_add_one, hzx]; rfl
          refine EW.cond rfl (fun hc3 => ?_) (fun hc3 => ?_)
          · have hx4f : x4 = false := by simpa using hc3
            subst hx4f
            refine EW.seq ?_
            refine EW.region ?_
            iterate 2 refine EL.q rfl rfl rfl (by decide) ?_
            refine EL.rn (rn_lds (m := cs'.length) cs' rfl Try.underlying32 (hS6.a 2 rfl) (List.take_length) hsz) rfl rfl (by decide) ?_
            obtain ⟨cy, hcy⟩ : ∃ cy, atI rw (ys.length : Int) = some cy := ⟨rw[ys.length]'(by omega), atI_get (by omega)⟩
            obtain ⟨ad2, hE2⟩ := EA.of (d := kRaw2 6) (hS6.c 0 rfl) hcy
            refine EL.rn (rn_ix rfl rfl hE2 Try.underlying35 z32 _) rfl rfl (by decide) ?_
            refine SL.sto hS6 0 rfl cs' rfl rfl cs' rfl hsz (List.all_eq_true.2 hone) hE2 hcy (Nat.le_of_eq (by rw [hclen]; rfl)) (fun w s cs h => ?_) (fun w6 hS7 => ?_)
            · obtain ⟨h1, h2, h3⟩ := h
              subst h1
              refine ⟨?_, hclen, hone⟩
              rw [List.take_zero, List.drop_of_length_le (by rw [h2, hclen]; exact Nat.le_of_eq (Nat.zero_add _).symm)]
              simp
            · clear hS6
              refine EL.nil ?_
              refine thenE_n ?_
              refine EW.region ?_
              iterate 3 refine EL.q rfl rfl rfl (by decide) ?_
              refine EL.nil ?_
              refine inB_n ?_
              refine thenE_n ?_
              refine EW.region ?_
              iterate 3 refine EL.q rfl rfl rfl (by decide) ?_
              refine EL.nil ?_
              refine thenE_n ?_
              refine ⟨(ys ++ [x3], x2 + 1), [(0, sl v1), (1, v_a1), (5, vi ((ys ++ [x3]).length : Int)), (6, vi (x2 + 1))], ?_, ⟨rfl, rfl, ?_, ?_, trivial⟩, rfl, rw.set ys.length cs', m ++ [(x3, cs')], by omega, by omega, ?_, ?_, ?_, by simpa using hrl, ?_, ?_, hS7.sel [0, 1] rfl (by decide)⟩
              · rw [← hst, hw2]; rfl
              · have : w64 ((ys.length : Int) + 1) = ((ys ++ [x3]).length : Int) := by rw [wid (by omega) (by omega)]; simp
                rw [← this]; rfl
              · show some (vi (w64 (x2 + 1))) = some (vi (x2 + 1))
                rw [hw2]
              · rw [htk]; exact hm1.append_right _
              · simp [hm2]
              · have hyr : ys.length < rw.length := by omega
                have e1 : (rw.set ys.length cs').take ys.length = rw.take ys.length := by rw [List.take_set, List.set_eq_of_length_le (by rw [List.length_take]; exact Nat.min_le_left _ _)]
                have e2 : (rw.set ys.length cs')[ys.length]? = some cs' := by rw [List.getElem?_set, if_pos rfl, if_pos hyr]
                rw [List.length_append, List.length_singleton, List.take_add_one, List.map_append, ← hm3, e1, e2]
                rfl
              · simp; omega
              · intro q hq
                rw [List.getElem?_set, if_neg (by omega)]
                exact hrq q (by omega)
          · have hx4t : x4 = true := by simpa using hc3
            subst hx4t
            refine EW.skip ?_
            refine inB_n ?_
            refine thenE_n ?_
            refine EW.region ?_
            iterate 3 refine EL.q rfl rfl rfl (by decide) ?_
            refine EL.nil ?_
            refine thenE_n ?_
            refine ⟨(ys, x2 + 1), [(0, sl v1), (1, v_a1), (5, vi (ys.length : Int)), (6, vi (x2 + 1))], ?_, ⟨rfl, rfl, rfl, ?_, trivial⟩, rfl, rw, m, by omega, by omega, ?_, hm2, hm3, hrl, by omega, fun q hq => hrq q (by omega), hS6.sel [0, 1] rfl (by decide)⟩
            · rw [← hst, hw2]; rfl
            · show some (vi (w64 (x2 + 1))) = some (vi (x2 + 1))
              rw [hw2]
            · rw [htk]; exact hm1.trans (List.sublist_append_left _ _)
        · have hf5 := bifF hc2 hf4
          have hlt : ¬ x2 < (a0.length : Int) := of_decide_eq_false hc2
          clear hf4
          refine EW.exit ?_
          repeat (first | refine thenE_x ?_ | refine inB_x ?_ | refine inB_y (by decide) ?_)
          obtain rfl := Option.some.inj hf5
          obtain rfl := hbr _ rfl
          refine thenE_n ?_
          refine ⟨[(0, sl v1), (1, v_a1), (5, vi (ys.length : Int))], ⟨rfl, rfl, rfl, trivial⟩, ys, rw, m, rfl, rfl, ?_, hm2, hm3, hrl, by omega, hS3.sel [0, 1] rfl (by decide)⟩
          exact hm1.trans (List.take_sublist _ _)
    · rintro e w7 ⟨ys, rw, m, rfl, rfl, hm1, hm2, hm3, hrl, hyl, hS8⟩
      clear hS2
      refine thenE_n ?_
      refine EW.seq ?_
      refine EW.region ?_
      iterate 2 refine EL.q rfl rfl rfl (by decide) ?_
      have hsub : subL rw (ys.length : Int) (rw.length : Int) = some ((rw.take (rw.length : Int).toNat).drop (ys.length : Int).toNat) := by rw [subL, if_pos (by omega)]
      obtain ⟨v', hV⟩ := SubV.of (d := kRaw2 6) (hS8.c 0 rfl) hsub
      refine EL.rn (rn_sub (d := kRaw2 6) (lo := (ys.length : Int)) (hi := (rw.length : Int)) (ol := some (.tmp 37)) (oh := none) rfl hV ⟨_, rfl⟩ rfl hsub Try.underlying35 z32 ((hS8.c 0 rfl).sl) _) rfl rfl (by decide) ?_
      refine SL.clr hS8 0 rfl rfl hV Try.underlying35 i32 rfl (by decide) (by decide) rfl (fun w8 hS9 => ?_)
      clear hS8
      refine EL.nil ?_
      refine thenE_n ?_
      have hS9 : St b w s [.row (kRaw2 6) 32 (sl v1) (rw.take (ys.length : Int).toNat ++ List.replicate (rw.length - (ys.length : Int).toNat) _), .val (kAll (kEnt 66) css) css.flatten a0] w8 := hS9
      have hS10 := hS9.head (i := 0) (k := ys.length) rfl (by simp; omega)
      have hS11 := hS10.joinRow (i := 0) (j := 1) (d := (kEnt 66)) (xs := a0) (m := m) (ys := ys) rfl rfl (by decide) hm1 hm2 (by
        rw [← hm3, List.take_append_of_le_length (by simp; omega), List.take_take, Int.toNat_natCast, Nat.min_self])
      obtain ⟨A, mm, c, hv1, hq1, hq2, hq3, hq4⟩ := hV
      injection hv1 with hA hmm hcc
      refine EW.seq ?_
      refine EW.region ?_
      iterate 2 refine EL.q rfl rfl rfl (by decide) ?_
      have hsub2 : subL (List.replicate rw.length ([] : List Value)) 0 (ys.length : Int) = some (((List.replicate rw.length []).take (ys.length : Int).toNat).drop (0 : Int).toNat) := by rw [subL, if_pos (by simp; omega)]
      have hV2 : SubV (sl v1) 6 (0 : Int).toNat (ys.length : Int).toNat (.slice v1.1 ys.length v1.2.2) := by
        refine ⟨v1.1, v1.2.1, v1.2.2, rfl, by omega, by omega, by omega, ?_⟩
        have : ∀ a : Addr, a.add 0 = a := fun a => rfl
        congr 1
        · show v1.1 = if v1.2.2 = 0 then v1.1 else v1.1.map (·.add (0 * 6))
          simp [this]
      refine EL.rn (rn_sub (d := kRaw2 6) (xs := List.replicate rw.length []) (lo := 0) (hi := (ys.length : Int)) (ol := none) (oh := some (.tmp 40)) rfl hV2 rfl ⟨_, rfl⟩ hsub2 Try.underlying35 z32 (by rw [List.length_replicate, hrl]; exact hv0) _) rfl rfl (by decide) ?_
      refine EL.q rfl rfl rfl (by decide) ?_
      refine EL.nil ?_
      refine thenE_n ?_
      refine EW.ret ?_
      repeat (first | refine thenE_r ?_ | refine inB_r ?_)
      obtain rfl := Option.some.inj hf3
      exact ⟨_, res rfl, _, _, rfl, ⟨(v1.1, ys.length, v1.2.2), rfl, rfl⟩, hS11.sel [0] rfl (by decide)⟩


-- 33 loop.example/g00497/impl.Expire$1
set_option maxHeartbeats 4000000 in
set_option maxRecDepth 100000 in
theorem impl_Expire_1_ok {a0 : Ent} {a1 : Int} {r : Bool} (hf : impl_Expire_1 a0 a1 = some r) {b w : World} {s : Nat → Prop} {v1 : Sv} {g1 : Nat} (hr1 : kRec.C b (sl v1) a0.l) (hrA1 : CellsAt b (at0 g1) 0 [vi a1]) (hS : St b w s [] w) : Calls Try.prog 33 ([.agg #[str a0.q.name, vi a0.q.ty, vi a0.kind, sl v1, vi a0.rank, vi a0.till], ptr (at0 g1) 0] : List Value).toArray w fun e w' => ∃ v M, e = .returned v ∧ (v = vt r ∧ M = []) ∧ St b w s M w' := by
  rw [impl_Expire_1] at hf
  refine calls_of (n := 8) (args := [_, _]) Try.func33 rfl rfl (Nat.le_of_ble_eq_true rfl) ?_
  refine EW.seq ?_
  refine EW.region ?_
  refine SL.box hS rfl (by decide) (fun g2 w1 hS1 => ?_)
  clear hS
  refine EL.q rfl rfl rfl (by decide) ?_
  refine EL.nil ?_
  refine thenE_n ?_
  refine EW.seq ?_
  refine EW.region ?_
  refine EL.rn (rn_fa rfl Try.underlying32 rfl z3 (by decide) rfl _) rfl rfl (by decide) ?_
  refine EL.rn (rn_ld rfl Try.underlying3 (by simp) (by simp) (hS1.a 0 rfl) rfl) rfl rfl (by decide) ?_
  refine EL.rn (rn_ld rfl Try.underlying3 (by simp) (by simp) (hrA1.agr hS1.agr) rfl) rfl rfl (by decide) ?_
  iterate 2 refine EL.q rfl rfl rfl (by decide) ?_
  refine EL.nil ?_
  refine thenE_n ?_
  refine EW.ret ?_
  repeat (first | refine thenE_r ?_ | refine inB_r ?_)
  obtain rfl := Option.some.inj hf
  exact ⟨_, res rfl, _, _, rfl, ⟨rfl, rfl⟩, hS1.sel [] rfl (by decide)⟩

-- 17 loop.example/g00497/impl.Expire
set_option maxHeartbeats 4000000 in
set_option maxRecDepth 100000 in
theorem impl_Expire_ok {k : Nat} {a0 : Cac} {a1 : Int} {r : Cac} (hf : impl_Expire k a0 a1 = some r) {b w : World} {s : Nat → Prop} {v1 : Sv} (hr1 : (kEnt 66).C b (sl v1) a0.l) (hS : St b w s [] w) : Calls Try.prog 17 ([.agg #[vi a0.cap, sl v1], vi a1] : List Value).toArray w fun e w' => ∃ v M, e = .returned v ∧ (∃ u1 : Sv, v = .agg #[vi r.cap, sl u1] ∧ M = [.row (kEnt 66) 32 (sl u1) r.l]) ∧ St b w s M w' := by
  rw [impl_Expire] at hf
  refine calls_of (n := 13) (args := [_, _]) Try.func17 rfl rfl (Nat.le_of_ble_eq_true rfl) ?_
  refine EW.seq ?_
  refine EW.region ?_
  refine SL.box hS rfl (by decide) (fun g1 w1 hS1 => ?_)
  clear hS
  refine SL.box hS1 rfl (by decide) (fun g2 w2 hS2 => ?_)
  clear hS1
  refine SL.alloc hS2 i37 (by decide) (fun g3 w3 hS3 => ?_)
  clear hS2
  refine EL.nil ?_
  refine thenE_n ?_
  refine EW.seq ?_
  refine EW.region ?_
  refine EL.rn (rn_lds (m := 2) [vi a0.cap, sl v1] rfl Try.underlying37 (hS3.a 0 rfl) rfl z37) rfl rfl (by decide) ?_
  obtain ⟨x1, hx1, hf1⟩ := bnd hf
  clear hf
  refine SL.call hS3 [_] rfl Try.func31 (by kernel_rfl) rfl (by decide) [] (by decide) (L0 := []) rfl (fun b' s hb hw hrd hS => impl_copyCache_ok hx1 (hr1.agr hb) hS) (fun v M w4 hΦ hS4 => ?_)
  clear hS3
  obtain ⟨v2, rfl, rfl⟩ := hΦ
  refine SL.stb hS4 0 rfl rfl rfl [vi x1.cap, sl v2] rfl z37 rfl (Nat.le_of_ble_eq_true rfl) #[vi x1.cap, sl v2] rfl (fun w5 hS5 => ?_)
  clear hS4
  refine EL.nil ?_
  refine thenE_n ?_
  refine EW.seq ?_
  refine EW.region ?_
  refine EL.rn (rn_fa rfl Try.underlying37 rfl z35 (by decide) rfl _) rfl rfl (by decide) ?_
  refine EL.rn (rn_ld rfl Try.underlying35 (by simp) (by simp) (hS5.a 0 rfl) rfl) rfl rfl (by decide) ?_
  refine EL.rn (rn_mkf [ptr (at0 g2) 0] rfl _) rfl rfl (by decide) ?_
  obtain ⟨x2, hx2, hf2⟩ := bnd hf1
  clear hf1
  refine SL.call hS5 [_, _] rfl Try.func32 (by kernel_rfl) rfl (by decide) [3] (by decide) (L0 := [.row (kEnt 66) 32 (sl v2) x1.l]) rfl (fun b' s hb hw hrd hS => slices_DeleteFunc_Entry_ok hx2 ⟨33, [ptr (at0 g2) 0], _, rfl, Try.func33, by kernel_rfl, rfl, fun b2 w2 s2 x args r hp hb2 hR hS2 => by obtain ⟨u1, rfl, hu⟩ := hR; exact impl_Expire_1_ok hp hu (CellsAt.agr hb2 (rdb hrd 1 (by decide) rfl)) hS2⟩ hS) (fun v M w6 hΦ hS6 => ?_)
  clear hS5
  obtain ⟨v3, rfl, rfl⟩ := hΦ
  refine EL.rn (rn_fa rfl Try.underlying37 rfl z35 (by decide) rfl _) rfl rfl (by decide) ?_
  refine SL.stb hS6 0 rfl rfl rfl [sl v3] rfl z35 rfl (Nat.le_of_ble_eq_true rfl) #[vi x1.cap, sl v3] rfl (fun w7 hS7 => ?_)
  clear hS6
  refine EL.nil ?_
  refine thenE_n ?_
  refine EW.seq ?_
  refine EW.region ?_
  refine EL.rn (rn_lds (m := 2) [vi x1.cap, sl v3] rfl Try.underlying37 (hS7.a 0 rfl) rfl z37) rfl rfl (by decide) ?_
  refine SL.stb hS7 2 rfl rfl rfl [vi x1.cap, sl v3] rfl z37 rfl (Nat.le_of_ble_eq_true rfl) #[vi x1.cap, sl v3] rfl (fun w8 hS8 => ?_)
  clear hS7
  refine EL.nil ?_
  refine thenE_n ?_
  refine EW.ret ?_
  repeat (first | refine thenE_r ?_ | refine inB_r ?_)
  obtain rfl := Option.some.inj hf2
  exact ⟨_, res1 rfl (.cell rfl (hS8.blk 2 rfl) Try.underlying37 z37 .nil), _, _, rfl, ⟨v3, rfl, rfl⟩, hS8.sel [3] rfl (by decide)⟩

-- 34 loop.example/g00497/laws.heldEntryS
set_option maxHeartbeats 4000000 in
set_option maxRecDepth 100000 in
theorem laws_heldEntryS_ok {k : Nat} {a0 : List Ent} {a1 : Int} {r : Int} (hf : laws_heldEntryS k a0 a1 = some r) {b w : World} {s : Nat → Prop} {v1 : Sv} (hr1 : (kEnt 66).C b (sl v1) a0) (hS : St b w s [] w) : Calls Try.prog 34 ([sl v1, vi a1] : List Value).toArray w fun e w' => ∃ v M, e = .returned v ∧ (v = vi r ∧ M = []) ∧ St b w s M w' := by
  rw [laws_heldEntryS] at hf
  refine calls_of (n := 70) (args := [_, _]) Try.func34 rfl rfl (Nat.le_of_ble_eq_true rfl) ?_
  refine EW.seq ?_
  refine EW.region ?_
  refine EL.q rfl rfl rfl (by decide) ?_
  refine EL.nil ?_
  refine thenE_n ?_
  refine EW.seq ?_
  refine EW.seq ?_
  refine EW.region ?_
  refine EL.q rfl rfl rfl (by decide) ?_
  refine EL.nil ?_
  refine thenE_n ?_
  obtain ⟨o1, hx9, hf23⟩ := bnd hf
  clear hf
  refine EW.cut (fun e W => ∃ x12 : Int, o1 = .brk x12 ∧ e = [(1, vi x12)] ∧ St b w s [] W) ?_ ?_
  · skip
    refine EW.block ?_
    refine EW.loopP hx9 (fun (x : Int × Int) e W => match x with | (x1, x2) => e = [(0, sl v1), (1, vi x1), (5, vi x2)] ∧ St b w s [] W) [(0, sl v1), (1, vi a1), (5, vi 0)] ⟨rfl, rfl, rfl, trivial⟩ ⟨rfl, hS.sel [] rfl (by decide)⟩ ?_
    rintro ⟨x1, x2⟩ e w6 ⟨rfl, hS6⟩ st1 hf24 hbr1 hrt1
    rw [laws_heldEntryS_b1] at hf24
    refine EW.seq ?_
    refine EW.seq ?_
    refine EW.region ?_
    iterate 2 refine EL.q rfl rfl rfl (by decide) ?_
    refine EL.rn (rn_len rfl (K2.C.sl (d := (kEnt 66)) (hS6.now hr1)) Try.underlying35 _) rfl rfl (by decide) ?_
    refine EL.q rfl rfl rfl (by decide) ?_
    refine EL.nil ?_
    refine thenE_n ?_
    refine EW.cond rfl (fun hc8 => ?_) (fun hc8 => ?_)
    · skip
      have hf25 := bifT hc8 hf24
      clear hf24
      refine EW.skip ?_
      refine thenE_n ?_
      refine EW.seq ?_
      refine EW.block ?_
      refine EW.seq ?_
      refine EW.seq ?_
      obtain ⟨x13, hx10, hf26⟩ := bnd hf25
      clear hf25
      obtain ⟨ad7, hE7⟩ := EA.of (d := (kEnt 66)) (hS6.now hr1) hx10
      obtain ⟨v8, hA7, hr8⟩ := Ent_at hr1 hE7 hx10
      obtain ⟨x14, hx11, hf27⟩ := bnd hf26
      clear hf26
      have hS9 := hS6.drew
      refine EW.drawn (m := 9) (fun W => CellsAt W ad7 0 [str x13.q.name, vi x13.q.ty, vi x13.kind, sl v8, vi x13.rank, vi x13.till] ∧ True) [] (by kernel_rfl) rfl ⟨(hA7.agr hS9.agr), trivial⟩ ?_
      refine DR.q 0 rfl (fun w' => rn_v rfl w') rfl rfl (by decide) (by kernel_rfl) ?_
      refine DR.q 1 rfl (fun w' => rn_v rfl w') rfl rfl (by decide) (by kernel_rfl) ?_
      refine DR.q 2 rfl (fun w' => rn_ix rfl rfl hE7 Try.underlying35 z32 w') rfl rfl (by decide) (by kernel_rfl) ?_
      refine DR.q 3 rfl (fun w' => rn_fa rfl Try.underlying32 rfl z29 (by decide) rfl w') rfl rfl (by decide) (by kernel_rfl) ?_
      refine DR.q 4 rfl (fun w' => rn_fa rfl Try.underlying29 rfl z9 (by decide) rfl w') rfl rfl (by decide) (by kernel_rfl) ?_
      refine DR.take 5 rfl (fun w' hw => rn_ld rfl Try.underlying9 (by simp) (by simp) hw.1 rfl) rfl rfl (by decide) (by kernel_rfl) ⟨(hA7.agr hS9.agr), trivial⟩ ?_
      refine DR.q 6 rfl (fun w' => rn_v rfl w') rfl rfl (by decide) (by kernel_rfl) ?_
      refine DR.one 7 (by kernel_rfl) rfl ?_
      refine SL.call hS9 [_] rfl Try.func40 (by kernel_rfl) rfl (by decide) [] (by decide) (L0 := []) rfl (fun b' s hb hw hrd hS => laws_markText_ok hx11 hS) (fun v M w10 hΦ hS10 => ?_)
      clear hS9
      obtain ⟨rfl, rfl⟩ := hΦ
      refine EL.then_ ⟨(hA7.agr hS10.agr), trivial⟩ ?_
      refine DR.q 8 rfl (fun w' => rn_sne (p := x13.q.name) (q := x14) rfl rfl w') rfl rfl (by decide) (by kernel_rfl) ?_
      refine DR.done (by kernel_rfl) ?_
      refine thenE_n ?_
      refine EW.cond rfl (fun hc9 => ?_) (fun hc9 => ?_)
      · skip
        have hf28 := bifT hc9 hf27
        clear hf27
        refine EW.seq ?_
        refine EW.region ?_
        refine EL.q rfl rfl rfl (by decide) ?_
        refine EL.nil ?_
        refine thenE_n ?_
        refine EW.ret ?_
        repeat (first | refine thenE_r ?_ | refine inB_r ?_)
        obtain rfl := Option.some.inj hf28
        obtain rfl := hrt1 _ rfl
        obtain rfl := Option.some.inj hf23
        exact ⟨_, res rfl, _, _, rfl, ⟨rfl, rfl⟩, hS10.sel [] rfl (by decide)⟩
      · skip
        have hf29 := bifF hc9 hf27
        clear hf27
        refine EW.skip ?_
        refine thenE_n ?_
        refine EW.seq ?_
        refine EW.region ?_
        iterate 3 refine EL.q rfl rfl rfl (by decide) ?_
        refine EL.nil ?_
        refine thenE_n ?_
        refine EW.seq ?_
        refine EW.seq ?_
        refine EW.region ?_
        iterate 2 refine EL.q rfl rfl rfl (by decide) ?_
        obtain ⟨x15, hx12, hf30⟩ := bnd hf29
        clear hf29
        obtain ⟨ad8, hE8⟩ := EA.of (d := (kEnt 66)) (hS10.now hr1) hx12
        refine EL.rn (rn_ix rfl rfl hE8 Try.underlying35 z32 _) rfl rfl (by decide) ?_
        refine EL.rn (rn_fa rfl Try.underlying32 rfl z29 (by decide) rfl _) rfl rfl (by decide) ?_
        refine EL.rn (rn_fa rfl Try.underlying29 rfl z3 (by decide) rfl _) rfl rfl (by decide) ?_
        obtain ⟨v9, hA8, hr9⟩ := Ent_at hr1 hE8 hx12
        refine EL.rn (rn_ld rfl Try.underlying3 (by simp) (by simp) (hA8.agr hS10.agr) rfl) rfl rfl (by decide) ?_
        iterate 2 refine EL.q rfl rfl rfl (by decide) ?_
        refine EL.nil ?_
        refine thenE_n ?_
        refine EW.cond rfl (fun hc10 => ?_) (fun hc10 => ?_)
        · skip
          have hf31 := bifT hc10 hf30
          clear hf30
          refine EW.seq ?_
          refine EW.region ?_
          refine EL.q rfl rfl rfl (by decide) ?_
          refine EL.nil ?_
          refine thenE_n ?_
          refine EW.ret ?_
          repeat (first | refine thenE_r ?_ | refine inB_r ?_)
          obtain rfl := Option.some.inj hf31
          obtain rfl := hrt1 _ rfl
          obtain rfl := Option.some.inj hf23
          exact ⟨_, res rfl, _, _, rfl, ⟨rfl, rfl⟩, hS10.sel [] rfl (by decide)⟩
        · skip
          have hf32 := bifF hc10 hf30
          clear hf30
          refine EW.skip ?_
          refine thenE_n ?_
          refine EW.seq ?_
          refine EW.region ?_
          iterate 3 refine EL.q rfl rfl rfl (by decide) ?_
          refine EL.nil ?_
          refine thenE_n ?_
          refine EW.seq ?_
          refine EW.seq ?_
          refine EW.region ?_
          iterate 2 refine EL.q rfl rfl rfl (by decide) ?_
          obtain ⟨x16, hx13, hf33⟩ := bnd hf32
          clear hf32
          obtain ⟨ad9, hE9⟩ := EA.of (d := (kEnt 66)) (hS10.now hr1) hx13
          refine EL.rn (rn_ix rfl rfl hE9 Try.underlying35 z32 _) rfl rfl (by decide) ?_
          refine EL.rn (rn_fa rfl Try.underlying32 rfl z3 (by decide) rfl _) rfl rfl (by decide) ?_
          obtain ⟨v10, hA9, hr10⟩ := Ent_at hr1 hE9 hx13
          refine EL.rn (rn_ld rfl Try.underlying3 (by simp) (by simp) (hA9.agr hS10.agr) rfl) rfl rfl (by decide) ?_
          iterate 2 refine EL.q rfl rfl rfl (by decide) ?_
          refine EL.nil ?_
          refine thenE_n ?_
          refine EW.cond rfl (fun hc11 => ?_) (fun hc11 => ?_)
          · skip
            have hf34 := bifT hc11 hf33
            clear hf33
            refine EW.seq ?_
            refine EW.region ?_
            refine EL.q rfl rfl rfl (by decide) ?_
            refine EL.nil ?_
            refine thenE_n ?_
            refine EW.ret ?_
            repeat (first | refine thenE_r ?_ | refine inB_r ?_)
            obtain rfl := Option.some.inj hf34
            obtain rfl := hrt1 _ rfl
            obtain rfl := Option.some.inj hf23
            exact ⟨_, res rfl, _, _, rfl, ⟨rfl, rfl⟩, hS10.sel [] rfl (by decide)⟩
          · skip
            have hf35 := bifF hc11 hf33
            clear hf33
            refine EW.skip ?_
            refine thenE_n ?_
            refine EW.seq ?_
            refine EW.region ?_
            iterate 3 refine EL.q rfl rfl rfl (by decide) ?_
            refine EL.nil ?_
            refine thenE_n ?_
            refine EW.seq ?_
            refine EW.region ?_
            iterate 2 refine EL.q rfl rfl rfl (by decide) ?_
            obtain ⟨x17, hx14, hf36⟩ := bnd hf35
            clear hf35
            obtain ⟨ad10, hE10⟩ := EA.of (d := (kEnt 66)) (hS10.now hr1) hx14
            refine EL.rn (rn_ix rfl rfl hE10 Try.underlying35 z32 _) rfl rfl (by decide) ?_
            refine EL.rn (rn_fa rfl Try.underlying32 rfl z30 (by decide) rfl _) rfl rfl (by decide) ?_
            obtain ⟨v11, hA10, hr11⟩ := Ent_at hr1 hE10 hx14
            refine EL.rn (rn_ld rfl Try.underlying30 (by simp) (by simp) (hA10.agr hS10.agr) rfl) rfl rfl (by decide) ?_
            refine EL.q rfl rfl rfl (by decide) ?_
            obtain ⟨x18, hx15, hf37⟩ := bnd hf36
            clear hf36
            refine SL.call hS10 [_, _] rfl Try.func30 (by kernel_rfl) rfl (by decide) [] (by decide) (L0 := []) rfl (fun b' s hb hw hrd hS => laws_heldRecordS_ok hx15 (hr11.agr hb) hS) (fun v M w11 hΦ hS11 => ?_)
            clear hS10
            obtain ⟨rfl, rfl⟩ := hΦ
            refine EL.q rfl rfl rfl (by decide) ?_
            refine EL.nil ?_
            refine thenE_n ?_
            refine EW.seq ?_
            refine EW.seq ?_
            refine EW.region ?_
            iterate 2 refine EL.q rfl rfl rfl (by decide) ?_
            refine EL.nil ?_
            refine thenE_n ?_
            refine EW.cond rfl (fun hc12 => ?_) (fun hc12 => ?_)
            · skip
              have hf38 := bifT hc12 hf37
              clear hf37
              refine EW.seq ?_
              refine EW.region ?_
              refine EL.q rfl rfl rfl (by decide) ?_
              refine EL.nil ?_
              refine thenE_n ?_
              refine EW.ret ?_
              repeat (first | refine thenE_r ?_ | refine inB_r ?_)
              obtain rfl := Option.some.inj hf38
              obtain rfl := hrt1 _ rfl
              obtain rfl := Option.some.inj hf23
              exact ⟨_, res rfl, _, _, rfl, ⟨rfl, rfl⟩, hS11.sel [] rfl (by decide)⟩
            · skip
              have hf39 := bifF hc12 hf37
              clear hf37
              refine EW.skip ?_
              refine thenE_n ?_
              refine EW.seq ?_
              refine EW.seq ?_
              refine EW.region ?_
              iterate 2 refine EL.q rfl rfl rfl (by decide) ?_
              obtain ⟨x19, hx16, hf40⟩ := bnd hf39
              clear hf39
              obtain ⟨ad11, hE11⟩ := EA.of (d := (kEnt 66)) (hS11.now hr1) hx16
              refine EL.rn (rn_ix rfl rfl hE11 Try.underlying35 z32 _) rfl rfl (by decide) ?_
              refine EL.rn (rn_fa rfl Try.underlying32 rfl z3 (by decide) rfl _) rfl rfl (by decide) ?_
              obtain ⟨v12, hA11, hr12⟩ := Ent_at hr1 hE11 hx16
              refine EL.rn (rn_ld rfl Try.underlying3 (by simp) (by simp) (hA11.agr hS11.agr) rfl) rfl rfl (by decide) ?_
              iterate 2 refine EL.q rfl rfl rfl (by decide) ?_
              refine EL.nil ?_
              refine thenE_n ?_
              refine EW.cond rfl (fun hc13 => ?_) (fun hc13 => ?_)
              · skip
                have hf41 := bifT hc13 hf40
                clear hf40
                refine EW.seq ?_
                refine EW.region ?_
                refine EL.q rfl rfl rfl (by decide) ?_
                refine EL.nil ?_
                refine thenE_n ?_
                refine EW.ret ?_
                repeat (first | refine thenE_r ?_ | refine inB_r ?_)
                obtain rfl := Option.some.inj hf41
                obtain rfl := hrt1 _ rfl
                obtain rfl := Option.some.inj hf23
                exact ⟨_, res rfl, _, _, rfl, ⟨rfl, rfl⟩, hS11.sel [] rfl (by decide)⟩
              · skip
                have hf42 := bifF hc13 hf40
                clear hf40
                refine EW.skip ?_
                refine thenE_n ?_
                refine EW.seq ?_
                refine EW.region ?_
                iterate 3 refine EL.q rfl rfl rfl (by decide) ?_
                refine EL.nil ?_
                refine thenE_n ?_
                refine EW.seq ?_
                refine EW.seq ?_
                refine EW.region ?_
                iterate 2 refine EL.q rfl rfl rfl (by decide) ?_
                obtain ⟨x20, hx17, hf43⟩ := bnd hf42
                clear hf42
                obtain ⟨ad12, hE12⟩ := EA.of (d := (kEnt 66)) (hS11.now hr1) hx17
                refine EL.rn (rn_ix rfl rfl hE12 Try.underlying35 z32 _) rfl rfl (by decide) ?_
                refine EL.rn (rn_fa rfl Try.underlying32 rfl z3 (by decide) rfl _) rfl rfl (by decide) ?_
                obtain ⟨v13, hA12, hr13⟩ := Ent_at hr1 hE12 hx17
                refine EL.rn (rn_ld rfl Try.underlying3 (by simp) (by simp) (hA12.agr hS11.agr) rfl) rfl rfl (by decide) ?_
                iterate 2 refine EL.q rfl rfl rfl (by decide) ?_
                refine EL.nil ?_
                refine thenE_n ?_
                refine EW.cond rfl (fun hc14 => ?_) (fun hc14 => ?_)
                · skip
                  have hf44 := bifT hc14 hf43
                  clear hf43
                  refine EW.seq ?_
                  refine EW.region ?_
                  refine EL.q rfl rfl rfl (by decide) ?_
                  refine EL.nil ?_
                  refine thenE_n ?_
                  refine EW.ret ?_
                  repeat (first | refine thenE_r ?_ | refine inB_r ?_)
                  obtain rfl := Option.some.inj hf44
                  obtain rfl := hrt1 _ rfl
                  obtain rfl := Option.some.inj hf23
                  exact ⟨_, res rfl, _, _, rfl, ⟨rfl, rfl⟩, hS11.sel [] rfl (by decide)⟩
                · skip
                  have hf45 := bifF hc14 hf43
                  clear hf43
                  refine EW.skip ?_
                  refine thenE_n ?_
                  refine EW.region ?_
                  iterate 3 refine EL.q rfl rfl rfl (by decide) ?_
                  refine EL.nil ?_
                  refine inB_n ?_
                  refine thenE_n ?_
                  refine EW.region ?_
                  iterate 3 refine EL.q rfl rfl rfl (by decide) ?_
                  refine EL.nil ?_
                  obtain rfl := Option.some.inj hf45
                  refine thenE_n ?_
                  exact ⟨((w64 ((w64 (x18 + 1)) + 1)), (w64 (x2 + 1))), [(0, sl v1), (1, vi (w64 ((w64 (x18 + 1)) + 1))), (5, vi (w64 (x2 + 1)))], rfl, ⟨rfl, rfl, rfl, trivial⟩, rfl, hS11.sel [] rfl (by decide)⟩
    · skip
      have hf46 := bifF hc8 hf24
      clear hf24
      refine EW.exit ?_
      repeat (first | refine thenE_x ?_ | refine inB_x ?_ | refine inB_y (by decide) ?_)
      obtain rfl := Option.some.inj hf46
      obtain rfl := hbr1 _ rfl
      refine thenE_n ?_
      exact ⟨[(1, vi x1)], ⟨rfl, trivial⟩, x1, rfl, rfl, hS6.sel [] rfl (by decide)⟩
  · skip
    rintro e w12 ⟨x12, rfl, rfl, hS12⟩
    refine thenE_n ?_
    refine EW.seq ?_
    refine EW.region ?_
    iterate 2 refine EL.q rfl rfl rfl (by decide) ?_
    refine EL.nil ?_
    refine thenE_n ?_
    refine EW.ret ?_
    repeat (first | refine thenE_r ?_ | refine inB_r ?_)
    obtain rfl := Option.some.inj hf23
    exact ⟨_, res rfl, _, _, rfl, ⟨rfl, rfl⟩, hS12.sel [] rfl (by decide)⟩

-- 18 loop.example/g00497/laws.heldCache
set_option maxHeartbeats 4000000 in
set_option maxRecDepth 100000 in
theorem laws_heldCache_ok {k : Nat} {a0 : Cac} {a1 : Int} {r : Int} (hf : laws_heldCache k a0 a1 = some r) {b w : World} {s : Nat → Prop} {v1 : Sv} (hr1 : (kEnt 66).C b (sl v1) a0.l) (hS : St b w s [] w) : Calls Try.prog 18 ([.agg #[vi a0.cap, sl v1], vi a1] : List Value).toArray w fun e w' => ∃ v M, e = .returned v ∧ (v = vi r ∧ M = []) ∧ St b w s M w' := by
  rw [laws_heldCache] at hf
  refine calls_of (n := 12) (args := [_, _]) Try.func18 rfl rfl (Nat.le_of_ble_eq_true rfl) ?_
  refine EW.seq ?_
  refine EW.region ?_
  refine SL.box hS rfl (by decide) (fun g1 w1 hS1 => ?_)
  clear hS
  refine EL.q rfl rfl rfl (by decide) ?_
  refine EL.nil ?_
  refine thenE_n ?_
  refine EW.seq ?_
  refine EW.region ?_
  refine EL.rn (rn_fa rfl Try.underlying37 rfl z35 (by decide) rfl _) rfl rfl (by decide) ?_
  refine EL.rn (rn_ld rfl Try.underlying35 (by simp) (by simp) (hS1.a 0 rfl) rfl) rfl rfl (by decide) ?_
  refine EL.q rfl rfl rfl (by decide) ?_
  obtain ⟨x1, hx1, hf1⟩ := bnd hf
  clear hf
  refine SL.call hS1 [_, _] rfl Try.func34 (by kernel_rfl) rfl (by decide) [] (by decide) (L0 := []) rfl (fun b' s hb hw hrd hS => laws_heldEntryS_ok hx1 (hr1.agr hb) hS) (fun v M w2 hΦ hS2 => ?_)
  clear hS1
  obtain ⟨rfl, rfl⟩ := hΦ
  refine EL.q rfl rfl rfl (by decide) ?_
  refine EL.nil ?_
  refine thenE_n ?_
  refine EW.seq ?_
  refine EW.seq ?_
  refine EW.region ?_
  iterate 2 refine EL.q rfl rfl rfl (by decide) ?_
  refine EL.nil ?_
  refine thenE_n ?_
  refine EW.cond rfl (fun hc1 => ?_) (fun hc1 => ?_)
  · skip
    have hf2 := bifT hc1 hf1
    clear hf1
    refine EW.seq ?_
    refine EW.region ?_
    refine EL.q rfl rfl rfl (by decide) ?_
    refine EL.nil ?_
    refine thenE_n ?_
    refine EW.ret ?_
    repeat (first | refine thenE_r ?_ | refine inB_r ?_)
    obtain rfl := Option.some.inj hf2
    exact ⟨_, res rfl, _, _, rfl, ⟨rfl, rfl⟩, hS2.sel [] rfl (by decide)⟩
  · skip
    have hf3 := bifF hc1 hf1
    clear hf1
    refine EW.skip ?_
    refine thenE_n ?_
    refine EW.seq ?_
    refine EW.region ?_
    iterate 2 refine EL.q rfl rfl rfl (by decide) ?_
    refine EL.nil ?_
    refine thenE_n ?_
    refine EW.ret ?_
    repeat (first | refine thenE_r ?_ | refine inB_r ?_)
    obtain rfl := Option.some.inj hf3
    exact ⟨_, res rfl, _, _, rfl, ⟨rfl, rfl⟩, hS2.sel [] rfl (by decide)⟩

-- 4 loop.example/g00497/laws.FnExactExpire
set_option maxHeartbeats 4000000 in
set_option maxRecDepth 100000 in
theorem laws_FnExactExpire_ok {k : Nat} {a0 : Cac} {a1 : Int} {r : Bool} (hf : laws_FnExactExpire k a0 a1 = some r) {b w : World} {s : Nat → Prop} {v1 : Sv} (hr1 : (kEnt 75).C b (sl v1) a0.l) (hS : St b w s [] w) : Calls Try.prog 4 ([.agg #[vi a0.cap, sl v1], vi a1] : List Value).toArray w fun e w' => ∃ v M, e = .returned v ∧ (v = vt r ∧ M = []) ∧ St b w s M w' := by
  rw [laws_FnExactExpire] at hf
  refine calls_of (n := 74) (args := [_, _]) Try.func4 rfl rfl (Nat.le_of_ble_eq_true rfl) ?_
  refine EW.seq ?_
  refine EW.region ?_
  refine SL.box hS rfl (by decide) (fun g1 w1 hS1 => ?_)
  clear hS
  refine EL.q rfl rfl rfl (by decide) ?_
  refine EL.nil ?_
  refine thenE_n ?_
  refine EW.seq ?_
  refine EW.region ?_
  refine EL.q rfl rfl rfl (by decide) ?_
  refine EL.nil ?_
  refine thenE_n ?_
  refine EW.seq ?_
  refine EW.region ?_
  refine EL.rn (rn_lds (m := 2) [vi a0.cap, sl v1] rfl Try.underlying24 (hS1.a 0 rfl) rfl z24) rfl rfl (by decide) ?_
  refine EL.q rfl rfl rfl (by decide) ?_
  obtain ⟨x1, hx1, hf1⟩ := bnd hf
  clear hf
  refine SL.call hS1 [_, _] rfl Try.func5 (by kernel_rfl) rfl (by decide) [] (by decide) (L0 := []) rfl (fun b' s hb hw hrd hS => laws_szCache_ok hx1 (hr1.agr hb) hS) (fun v M w2 hΦ hS2 => ?_)
  clear hS1
  obtain ⟨rfl, rfl⟩ := hΦ
  refine EL.q rfl rfl rfl (by decide) ?_
  refine EL.nil ?_
  refine thenE_n ?_
  refine EW.seq ?_
  refine EW.seq ?_
  refine EW.region ?_
  iterate 2 refine EL.q rfl rfl rfl (by decide) ?_
  refine EL.nil ?_
  refine thenE_n ?_
  refine EW.cond rfl (fun hc1 => ?_) (fun hc1 => ?_)
  · skip
    have hf2 := bifT hc1 hf1
    clear hf1
    refine EW.seq ?_
    refine EW.region ?_
    refine EL.q rfl rfl rfl (by decide) ?_
    refine EL.nil ?_
    refine thenE_n ?_
    refine EW.ret ?_
    repeat (first | refine thenE_r ?_ | refine inB_r ?_)
    obtain rfl := Option.some.inj hf2
    exact ⟨_, res rfl, _, _, rfl, ⟨rfl, rfl⟩, hS2.sel [] rfl (by decide)⟩
  · skip
    have hf3 := bifF hc1 hf1
    clear hf1
    refine EW.skip ?_
    refine thenE_n ?_
    refine EW.seq ?_
    refine EW.region ?_
    refine EL.rn (rn_lds (m := 2) [vi a0.cap, sl v1] rfl Try.underlying24 (hS2.a 0 rfl) rfl z24) rfl rfl (by decide) ?_
    obtain ⟨x2, hx2, hf4⟩ := bnd hf3
    clear hf3
    refine SL.call hS2 [_] rfl Try.func8 (by kernel_rfl) rfl (by decide) [] (by decide) (L0 := []) rfl (fun b' s hb hw hrd hS => laws_toCache_ok hx2 (hr1.agr hb) hS) (fun v M w3 hΦ hS3 => ?_)
    clear hS2
    obtain ⟨v2, rfl, rfl⟩ := hΦ
    refine EL.q rfl rfl rfl (by decide) ?_
    obtain ⟨x3, hx3, hf5⟩ := bnd hf4
    clear hf4
    refine SL.call hS3 [_, _] rfl Try.func16 (by kernel_rfl) rfl (by decide) [] (by decide) (L0 := []) rfl (fun b' s hb hw hrd hS => spec_Expire_ok hx3 (rdc hrd 1 (by decide) rfl) hS) (fun v M w4 hΦ hS4 => ?_)
    clear hS3
    obtain ⟨v3, rfl, rfl⟩ := hΦ
    refine SL.alloc hS4 i37 (by decide) (fun g2 w5 hS5 => ?_)
    clear hS4
    refine SL.stb hS5 3 rfl rfl rfl [vi x3.cap, sl v3] rfl z37 rfl (Nat.le_of_ble_eq_true rfl) #[vi x3.cap, sl v3] rfl (fun w6 hS6 => ?_)
    clear hS5
    refine EL.nil ?_
    refine thenE_n ?_
    refine EW.seq ?_
    refine EW.region ?_
    refine EL.rn (rn_lds (m := 2) [vi a0.cap, sl v1] rfl Try.underlying24 (hS6.a 0 rfl) rfl z24) rfl rfl (by decide) ?_
    obtain ⟨x4, hx4, hf6⟩ := bnd hf5
    clear hf5
    refine SL.call hS6 [_] rfl Try.func8 (by kernel_rfl) rfl (by decide) [] (by decide) (L0 := []) rfl (fun b' s hb hw hrd hS => laws_toCache_ok hx4 (hr1.agr hb) hS) (fun v M w7 hΦ hS7 => ?_)
    clear hS6
    obtain ⟨v4, rfl, rfl⟩ := hΦ
    refine SL.alloc hS7 i37 (by decide) (fun g3 w8 hS8 => ?_)
    clear hS7
    refine SL.stb hS8 5 rfl rfl rfl [vi x4.cap, sl v4] rfl z37 rfl (Nat.le_of_ble_eq_true rfl) #[vi x4.cap, sl v4] rfl (fun w9 hS9 => ?_)
    clear hS8
    refine EL.nil ?_
    refine thenE_n ?_
    refine EW.seq ?_
    refine EW.region ?_
    refine EL.rn (rn_lds (m := 2) [vi x4.cap, sl v4] rfl Try.underlying37 (hS9.a 5 rfl) rfl z37) rfl rfl (by decide) ?_
    refine EL.q rfl rfl rfl (by decide) ?_
    obtain ⟨x5, hx5, hf7⟩ := bnd hf6
    clear hf6
    refine SL.call hS9 [_, _] rfl Try.func17 (by kernel_rfl) rfl (by decide) [] (by decide) (L0 := []) rfl (fun b' s hb hw hrd hS => impl_Expire_ok hx5 (rdc hrd 4 (by decide) rfl) hS) (fun v M w10 hΦ hS10 => ?_)
    clear hS9
    obtain ⟨v5, rfl, rfl⟩ := hΦ
    refine SL.alloc hS10 i37 (by decide) (fun g4 w11 hS11 => ?_)
    clear hS10
    refine SL.stb hS11 7 rfl rfl rfl [vi x5.cap, sl v5] rfl z37 rfl (Nat.le_of_ble_eq_true rfl) #[vi x5.cap, sl v5] rfl (fun w12 hS12 => ?_)
    clear hS11
    refine EL.nil ?_
    refine thenE_n ?_
    refine EW.seq ?_
    refine EW.seq ?_
    refine EW.region ?_
    refine EL.rn (rn_lds (m := 2) [vi x5.cap, sl v5] rfl Try.underlying37 (hS12.a 7 rfl) rfl z37) rfl rfl (by decide) ?_
    refine EL.rn (rn_lds (m := 2) [vi x3.cap, sl v3] rfl Try.underlying37 (hS12.a 3 rfl) rfl z37) rfl rfl (by decide) ?_
    obtain ⟨x6, hx6, hf8⟩ := bnd hf7
    clear hf7
    refine SL.call hS12 [_, _] rfl Try.func12 (by kernel_rfl) rfl (by decide) [] (by decide) (L0 := []) rfl (fun b' s hb hw hrd hS => laws_eqCache_ok hx6 (rdc hrd 6 (by decide) rfl) (rdc hrd 2 (by decide) rfl) hS) (fun v M w13 hΦ hS13 => ?_)
    clear hS12
    obtain ⟨rfl, rfl⟩ := hΦ
    refine EL.q rfl rfl rfl (by decide) ?_
    refine EL.nil ?_
    refine thenE_n ?_
    refine EW.cond rfl (fun hc2 => ?_) (fun hc2 => ?_)
    · skip
      have hf9 := bifT hc2 hf8
      clear hf8
      refine EW.seq ?_
      refine EW.region ?_
      refine EL.q rfl rfl rfl (by decide) ?_
      refine EL.nil ?_
      refine thenE_n ?_
      refine EW.ret ?_
      repeat (first | refine thenE_r ?_ | refine inB_r ?_)
      obtain rfl := Option.some.inj hf9
      exact ⟨_, res rfl, _, _, rfl, ⟨rfl, rfl⟩, hS13.sel [] rfl (by decide)⟩
    · skip
      have hf10 := bifF hc2 hf8
      clear hf8
      refine EW.skip ?_
      refine thenE_n ?_
      refine EW.seq ?_
      refine EW.seq ?_
      obtain ⟨x8, hx7, hf11⟩ := bnd hf10
      clear hf10
      refine EW.cut (fun e W => e = [(1, vi a1), (2, ptr (at0 g1) 0), (6, ptr (at0 g2) 0), (7, ptr (at0 g3) 0), (8, ptr (at0 g4) 0), (35, vt x8)] ∧ St b w s [.blk g1 24 #[vi a0.cap, sl v1], .blk g2 37 #[vi x3.cap, sl v3], .row (kEnt 66) 32 (sl v3) x3.l, .blk g3 37 #[vi x4.cap, sl v4], .row (kEnt 66) 32 (sl v4) x4.l, .blk g4 37 #[vi x5.cap, sl v5], .row (kEnt 66) 32 (sl v5) x5.l] W) ?_ ?_
      · skip
        obtain ⟨x9, hx8, hf12⟩ := bnd hx7
        clear hx7
        obtain ⟨x10, hx9, hf13⟩ := bnd hf12
        clear hf12
        have hS17 := hS13.drew
        refine EW.drawn (m := 5) (fun W => CellsAt W (at0 g3) 0 [vi x4.cap, sl v4] ∧ CellsAt W (at0 g1) 0 [vi a0.cap, sl v1] ∧ True) [] (by kernel_rfl) rfl ⟨(hS17.a 5 rfl), (hS17.a 0 rfl), trivial⟩ ?_
        refine DR.take 0 rfl (fun w' hw => rn_lds (m := 2) [vi x4.cap, sl v4] rfl Try.underlying37 hw.1 rfl z37) rfl rfl (by decide) (by kernel_rfl) ⟨(hS17.a 5 rfl), (hS17.a 0 rfl), trivial⟩ ?_
        refine DR.take 1 rfl (fun w' hw => rn_lds (m := 2) [vi a0.cap, sl v1] rfl Try.underlying24 hw.2.1 rfl z24) rfl rfl (by decide) (by kernel_rfl) ⟨(hS17.a 5 rfl), (hS17.a 0 rfl), trivial⟩ ?_
        refine DR.one 2 (by kernel_rfl) rfl ?_
        refine SL.call hS17 [_] rfl Try.func8 (by kernel_rfl) rfl (by decide) [] (by decide) (L0 := []) rfl (fun b' s hb hw hrd hS => laws_toCache_ok hx8 (hr1.agr hb) hS) (fun v M w18 hΦ hS18 => ?_)
        clear hS17
        obtain ⟨v6, rfl, rfl⟩ := hΦ
        refine EL.then_ ⟨(hS18.a 5 rfl), (hS18.a 0 rfl), trivial⟩ ?_
        refine DR.one 3 (by kernel_rfl) rfl ?_
        refine SL.call hS18 [_, _] rfl Try.func12 (by kernel_rfl) rfl (by decide) [] (by decide) (L0 := []) rfl (fun b' s hb hw hrd hS => laws_eqCache_ok hx9 (rdc hrd 4 (by decide) rfl) (rdc hrd 8 (by decide) rfl) hS) (fun v M w19 hΦ hS19 => ?_)
        clear hS18
        obtain ⟨rfl, rfl⟩ := hΦ
        refine EL.then_ ⟨(hS19.a 5 rfl), (hS19.a 0 rfl), trivial⟩ ?_
        refine DR.q 4 rfl (fun w' => rn_v rfl w') rfl rfl (by decide) (by kernel_rfl) ?_
        refine DR.done (by kernel_rfl) ?_
        cases hf13
        refine thenE_n ?_
        exact ⟨[(1, vi a1), (2, ptr (at0 g1) 0), (6, ptr (at0 g2) 0), (7, ptr (at0 g3) 0), (8, ptr (at0 g4) 0), (35, vt (!x10))], ⟨rfl, rfl, rfl, rfl, rfl, rfl, trivial⟩, rfl, hS19.sel [0, 3, 2, 5, 4, 7, 6] rfl (by decide)⟩
      · skip
        rintro e w20 ⟨rfl, hS20⟩
        refine thenE_n ?_
        refine EW.cond rfl (fun hc3 => ?_) (fun hc3 => ?_)
        · skip
          have hf14 := bifT hc3 hf11
          clear hf11
          refine EW.seq ?_
          refine EW.region ?_
          refine EL.q rfl rfl rfl (by decide) ?_
          refine EL.nil ?_
          refine thenE_n ?_
          refine EW.ret ?_
          repeat (first | refine thenE_r ?_ | refine inB_r ?_)
          obtain rfl := Option.some.inj hf14
          exact ⟨_, res rfl, _, _, rfl, ⟨rfl, rfl⟩, hS20.sel [] rfl (by decide)⟩
        · skip
          have hf15 := bifF hc3 hf11
          clear hf11
          refine EW.skip ?_
          refine thenE_n ?_
          refine EW.seq ?_
          refine EW.region ?_
          refine EL.q rfl rfl rfl (by decide) ?_
          refine EL.nil ?_
          refine thenE_n ?_
          refine EW.seq ?_
          refine EW.region ?_
          refine EL.rn (rn_lds (m := 2) [vi x4.cap, sl v4] rfl Try.underlying37 (hS20.a 3 rfl) rfl z37) rfl rfl (by decide) ?_
          refine EL.q rfl rfl rfl (by decide) ?_
          obtain ⟨x12, hx10, hf16⟩ := bnd hf15
          clear hf15
          refine SL.call hS20 [_, _] rfl Try.func13 (by kernel_rfl) rfl (by decide) [4] (by decide) (L0 := [.row (kEnt 66) 32 (sl v4) x4.l]) rfl (fun b' s hb hw hrd hS => laws_markCache_ok hx10 hS) (fun v M w21 hΦ hS21 => ?_)
          clear hS20
          obtain ⟨rfl, rfl⟩ := hΦ
          refine EL.q rfl rfl rfl (by decide) ?_
          refine EL.nil ?_
          refine thenE_n ?_
          refine EW.seq ?_
          refine EW.seq ?_
          obtain ⟨x14, hx11, hf17⟩ := bnd hf16
          clear hf16
          refine EW.cut (fun e W => e = [(1, vi a1), (2, ptr (at0 g1) 0), (6, ptr (at0 g2) 0), (8, ptr (at0 g4) 0), (46, vt x14)] ∧ St b w s [.blk g1 24 #[vi a0.cap, sl v1], .blk g2 37 #[vi x3.cap, sl v3], .row (kEnt 66) 32 (sl v3) x3.l, .blk g4 37 #[vi x5.cap, sl v5], .row (kEnt 66) 32 (sl v5) x5.l] W) ?_ ?_
          · skip
            refine EW.region ?_
            iterate 3 refine EL.q rfl rfl rfl (by decide) ?_
            refine EL.split (t := 41) rfl (fun hc4 => ?_) (fun hc4 => ?_)
            · skip
              have hf18 := bifT hc4 hx11
              clear hx11
              refine EL.pass rfl rfl (by decide) (by decide) (by decide) ?_
              refine EL.pass rfl rfl (by decide) (by decide) (by decide) ?_
              refine EL.pass rfl rfl (by decide) (by decide) (by decide) ?_
              refine EL.pass rfl rfl (by decide) (by decide) (by decide) ?_
              refine EL.rn (rn_pickT rfl rfl _) rfl rfl (by decide) ?_
              refine EL.nil ?_
              cases hf18
              refine thenE_n ?_
              exact ⟨[(1, vi a1), (2, ptr (at0 g1) 0), (6, ptr (at0 g2) 0), (8, ptr (at0 g4) 0), (46, vt true)], ⟨rfl, rfl, rfl, rfl, rfl, trivial⟩, rfl, hS21.sel [0, 1, 2, 5, 6] rfl (by decide)⟩
            · skip
              have hf19 := bifF hc4 hx11
              clear hx11
              refine EL.ungate rfl rfl (by decide) ?_
              refine EL.rn (rn_lds (m := 2) [vi x5.cap, sl v5] rfl Try.underlying37 (hS21.a 5 rfl) rfl z37) rfl rfl (by decide) ?_
              refine EL.ungate rfl rfl (by decide) ?_
              refine EL.rn (rn_lds (m := 2) [vi x3.cap, sl v3] rfl Try.underlying37 (hS21.a 1 rfl) rfl z37) rfl rfl (by decide) ?_
              refine EL.ungate rfl rfl (by decide) ?_
              obtain ⟨x16, hx12, hf20⟩ := bnd hf19
              clear hf19
              refine SL.call hS21 [_, _] rfl Try.func12 (by kernel_rfl) rfl (by decide) [] (by decide) (L0 := []) rfl (fun b' s hb hw hrd hS => laws_eqCache_ok hx12 (rdc hrd 6 (by decide) rfl) (rdc hrd 2 (by decide) rfl) hS) (fun v M w22 hΦ hS22 => ?_)
              clear hS21
              obtain ⟨rfl, rfl⟩ := hΦ
              refine EL.ungate rfl rfl (by decide) ?_
              refine EL.q rfl rfl rfl (by decide) ?_
              refine EL.rn (rn_pickF rfl rfl _) rfl rfl (by decide) ?_
              refine EL.nil ?_
              cases hf20
              refine thenE_n ?_
              exact ⟨[(1, vi a1), (2, ptr (at0 g1) 0), (6, ptr (at0 g2) 0), (8, ptr (at0 g4) 0), (46, vt (!x16))], ⟨rfl, rfl, rfl, rfl, rfl, trivial⟩, rfl, hS22.sel [0, 1, 2, 5, 6] rfl (by decide)⟩
          · skip
            rintro e w23 ⟨rfl, hS23⟩
            refine thenE_n ?_
            refine EW.cond rfl (fun hc5 => ?_) (fun hc5 => ?_)
            · skip
              have hf21 := bifT hc5 hf17
              clear hf17
              refine EW.seq ?_
              refine EW.region ?_
              refine EL.q rfl rfl rfl (by decide) ?_
              refine EL.nil ?_
              refine thenE_n ?_
              refine EW.ret ?_
              repeat (first | refine thenE_r ?_ | refine inB_r ?_)
              obtain rfl := Option.some.inj hf21
              exact ⟨_, res rfl, _, _, rfl, ⟨rfl, rfl⟩, hS23.sel [] rfl (by decide)⟩
            · skip
              have hf22 := bifF hc5 hf17
              clear hf17
              refine EW.skip ?_
              refine thenE_n ?_
              refine EW.seq ?_
              refine EW.region ?_
              refine EL.q rfl rfl rfl (by decide) ?_
              refine EL.nil ?_
              refine thenE_n ?_
              refine EW.seq ?_
              refine EW.region ?_
              refine EL.rn (rn_lds (m := 2) [vi x5.cap, sl v5] rfl Try.underlying37 (hS23.a 3 rfl) rfl z37) rfl rfl (by decide) ?_
              refine EL.q rfl rfl rfl (by decide) ?_
              obtain ⟨x18, hx13, hf23⟩ := bnd hf22
              clear hf22
              refine SL.call hS23 [_, _] rfl Try.func13 (by kernel_rfl) rfl (by decide) [4] (by decide) (L0 := [.row (kEnt 66) 32 (sl v5) x5.l]) rfl (fun b' s hb hw hrd hS => laws_markCache_ok hx13 hS) (fun v M w24 hΦ hS24 => ?_)
              clear hS23
              obtain ⟨rfl, rfl⟩ := hΦ
              refine EL.q rfl rfl rfl (by decide) ?_
              refine EL.nil ?_
              refine thenE_n ?_
              refine EW.seq ?_
              refine EW.region ?_
              refine EL.q rfl rfl rfl (by decide) ?_
              refine EL.nil ?_
              refine thenE_n ?_
              refine EW.seq ?_
              refine EW.region ?_
              refine EL.rn (rn_lds (m := 2) [vi x5.cap, sl v5] rfl Try.underlying37 (hS24.a 3 rfl) rfl z37) rfl rfl (by decide) ?_
              refine EL.q rfl rfl rfl (by decide) ?_
              obtain ⟨x19, hx14, hf24⟩ := bnd hf23
              clear hf23
              refine SL.call hS24 [_, _] rfl Try.func18 (by kernel_rfl) rfl (by decide) [] (by decide) (L0 := []) rfl (fun b' s hb hw hrd hS => laws_heldCache_ok hx14 (rdc hrd 4 (by decide) rfl) hS) (fun v M w25 hΦ hS25 => ?_)
              clear hS24
              obtain ⟨rfl, rfl⟩ := hΦ
              refine EL.q rfl rfl rfl (by decide) ?_
              refine EL.nil ?_
              refine thenE_n ?_
              refine EW.seq ?_
              refine EW.seq ?_
              refine EW.region ?_
              iterate 2 refine EL.q rfl rfl rfl (by decide) ?_
              refine EL.nil ?_
              refine thenE_n ?_
              refine EW.cond rfl (fun hc6 => ?_) (fun hc6 => ?_)
              · skip
                have hf25 := bifT hc6 hf24
                clear hf24
                refine EW.seq ?_
                refine EW.region ?_
                refine EL.q rfl rfl rfl (by decide) ?_
                refine EL.nil ?_
                refine thenE_n ?_
                refine EW.ret ?_
                repeat (first | refine thenE_r ?_ | refine inB_r ?_)
                obtain rfl := Option.some.inj hf25
                exact ⟨_, res rfl, _, _, rfl, ⟨rfl, rfl⟩, hS25.sel [] rfl (by decide)⟩
              · skip
                have hf26 := bifF hc6 hf24
                clear hf24
                refine EW.skip ?_
                refine thenE_n ?_
                refine EW.seq ?_
                refine EW.seq ?_
                refine EW.region ?_
                iterate 3 refine EL.q rfl rfl rfl (by decide) ?_
                refine EL.nil ?_
                refine thenE_n ?_
                refine EW.cond rfl (fun hc7 => ?_) (fun hc7 => ?_)
                · skip
                  have hf27 := bifT hc7 hf26
                  clear hf26
                  refine EW.seq ?_
                  refine EW.region ?_
                  refine EL.q rfl rfl rfl (by decide) ?_
                  refine EL.nil ?_
                  refine thenE_n ?_
                  refine EW.ret ?_
                  repeat (first | refine thenE_r ?_ | refine inB_r ?_)
                  obtain rfl := Option.some.inj hf27
                  exact ⟨_, res rfl, _, _, rfl, ⟨rfl, rfl⟩, hS25.sel [] rfl (by decide)⟩
                · skip
                  have hf28 := bifF hc7 hf26
                  clear hf26
                  refine EW.skip ?_
                  refine thenE_n ?_
                  refine EW.seq ?_
                  refine EW.region ?_
                  refine EL.rn (rn_lds (m := 2) [vi a0.cap, sl v1] rfl Try.underlying24 (hS25.a 0 rfl) rfl z24) rfl rfl (by decide) ?_
                  obtain ⟨x20, hx15, hf29⟩ := bnd hf28
                  clear hf28
                  refine SL.call hS25 [_] rfl Try.func8 (by kernel_rfl) rfl (by decide) [] (by decide) (L0 := []) rfl (fun b' s hb hw hrd hS => laws_toCache_ok hx15 (hr1.agr hb) hS) (fun v M w26 hΦ hS26 => ?_)
                  clear hS25
                  obtain ⟨v7, rfl, rfl⟩ := hΦ
                  refine EL.q rfl rfl rfl (by decide) ?_
                  obtain ⟨x21, hx16, hf30⟩ := bnd hf29
                  clear hf29
                  refine SL.call hS26 [_, _] rfl Try.func17 (by kernel_rfl) rfl (by decide) [] (by decide) (L0 := []) rfl (fun b' s hb hw hrd hS => impl_Expire_ok hx16 (rdc hrd 5 (by decide) rfl) hS) (fun v M w27 hΦ hS27 => ?_)
                  clear hS26
                  obtain ⟨v8, rfl, rfl⟩ := hΦ
                  refine SL.alloc hS27 i37 (by decide) (fun g5 w28 hS28 => ?_)
                  clear hS27
                  refine SL.stb hS28 7 rfl rfl rfl [vi x21.cap, sl v8] rfl z37 rfl (Nat.le_of_ble_eq_true rfl) #[vi x21.cap, sl v8] rfl (fun w29 hS29 => ?_)
                  clear hS28
                  refine EL.nil ?_
                  refine thenE_n ?_
                  refine EW.seq ?_
                  refine EW.seq ?_
                  refine EW.region ?_
                  refine EL.rn (rn_lds (m := 2) [vi x21.cap, sl v8] rfl Try.underlying37 (hS29.a 7 rfl) rfl z37) rfl rfl (by decide) ?_
                  refine EL.rn (rn_lds (m := 2) [vi x3.cap, sl v3] rfl Try.underlying37 (hS29.a 1 rfl) rfl z37) rfl rfl (by decide) ?_
                  obtain ⟨x22, hx17, hf31⟩ := bnd hf30
                  clear hf30
                  refine SL.call hS29 [_, _] rfl Try.func12 (by kernel_rfl) rfl (by decide) [] (by decide) (L0 := []) rfl (fun b' s hb hw hrd hS => laws_eqCache_ok hx17 (rdc hrd 6 (by decide) rfl) (rdc hrd 2 (by decide) rfl) hS) (fun v M w30 hΦ hS30 => ?_)
                  clear hS29
                  obtain ⟨rfl, rfl⟩ := hΦ
                  refine EL.q rfl rfl rfl (by decide) ?_
                  refine EL.nil ?_
                  refine thenE_n ?_
                  refine EW.cond rfl (fun hc8 => ?_) (fun hc8 => ?_)
                  · skip
                    have hf32 := bifT hc8 hf31
                    clear hf31
                    refine EW.seq ?_
                    refine EW.region ?_
                    refine EL.q rfl rfl rfl (by decide) ?_
                    refine EL.nil ?_
                    refine thenE_n ?_
                    refine EW.ret ?_
                    repeat (first | refine thenE_r ?_ | refine inB_r ?_)
                    obtain rfl := Option.some.inj hf32
                    exact ⟨_, res rfl, _, _, rfl, ⟨rfl, rfl⟩, hS30.sel [] rfl (by decide)⟩
                  · skip
                    have hf33 := bifF hc8 hf31
                    clear hf31
                    refine EW.skip ?_
                    refine thenE_n ?_
                    refine EW.seq ?_
                    refine EW.region ?_
                    refine EL.q rfl rfl rfl (by decide) ?_
                    refine EL.nil ?_
                    refine thenE_n ?_
                    refine EW.seq ?_
                    refine EW.region ?_
                    refine EL.rn (rn_lds (m := 2) [vi x5.cap, sl v5] rfl Try.underlying37 (hS30.a 3 rfl) rfl z37) rfl rfl (by decide) ?_
                    refine EL.q rfl rfl rfl (by decide) ?_
                    obtain ⟨x23, hx18, hf34⟩ := bnd hf33
                    clear hf33
                    refine SL.call hS30 [_, _] rfl Try.func18 (by kernel_rfl) rfl (by decide) [] (by decide) (L0 := []) rfl (fun b' s hb hw hrd hS => laws_heldCache_ok hx18 (rdc hrd 4 (by decide) rfl) hS) (fun v M w31 hΦ hS31 => ?_)
                    clear hS30
                    obtain ⟨rfl, rfl⟩ := hΦ
                    refine EL.q rfl rfl rfl (by decide) ?_
                    refine EL.nil ?_
                    refine thenE_n ?_
                    refine EW.seq ?_
                    refine EW.seq ?_
                    refine EW.region ?_
                    iterate 2 refine EL.q rfl rfl rfl (by decide) ?_
                    refine EL.nil ?_
                    refine thenE_n ?_
                    refine EW.cond rfl (fun hc9 => ?_) (fun hc9 => ?_)
                    · skip
                      have hf35 := bifT hc9 hf34
                      clear hf34
                      refine EW.seq ?_
                      refine EW.region ?_
                      refine EL.q rfl rfl rfl (by decide) ?_
                      refine EL.nil ?_
                      refine thenE_n ?_
                      refine EW.ret ?_
                      repeat (first | refine thenE_r ?_ | refine inB_r ?_)
                      obtain rfl := Option.some.inj hf35
                      exact ⟨_, res rfl, _, _, rfl, ⟨rfl, rfl⟩, hS31.sel [] rfl (by decide)⟩
                    · skip
                      have hf36 := bifF hc9 hf34
                      clear hf34
                      refine EW.skip ?_
                      refine thenE_n ?_
                      refine EW.seq ?_
                      refine EW.seq ?_
                      refine EW.region ?_
                      iterate 3 refine EL.q rfl rfl rfl (by decide) ?_
                      refine EL.nil ?_
                      refine thenE_n ?_
                      refine EW.cond rfl (fun hc10 => ?_) (fun hc10 => ?_)
                      · skip
                        have hf37 := bifT hc10 hf36
                        clear hf36
                        refine EW.seq ?_
                        refine EW.region ?_
                        refine EL.q rfl rfl rfl (by decide) ?_
                        refine EL.nil ?_
                        refine thenE_n ?_
                        refine EW.ret ?_
                        repeat (first | refine thenE_r ?_ | refine inB_r ?_)
                        obtain rfl := Option.some.inj hf37
                        exact ⟨_, res rfl, _, _, rfl, ⟨rfl, rfl⟩, hS31.sel [] rfl (by decide)⟩
                      · skip
                        have hf38 := bifF hc10 hf36
                        clear hf36
                        refine EW.skip ?_
                        refine thenE_n ?_
                        refine EW.seq ?_
                        refine EW.region ?_
                        refine EL.q rfl rfl rfl (by decide) ?_
                        refine EL.nil ?_
                        refine thenE_n ?_
                        refine EW.ret ?_
                        repeat (first | refine thenE_r ?_ | refine inB_r ?_)
                        obtain rfl := Option.some.inj hf38
                        exact ⟨_, res rfl, _, _, rfl, ⟨rfl, rfl⟩, hS31.sel [] rfl (by decide)⟩
end Go.Proofs.Ytcolndejambcmaa.Ew
