/- The code answers as its pure twin (printed by gen2.py). -/
import Derived.Test.YtcolndejambcmaaF
import Derived.Test.YtcolndejambcmaaY
import Derived.Test.YtcolndejambcmaaG1
import Derived.Test.YtcolndejambcmaaG2
import Derived.Test.YtcolndejambcmaaG3
namespace Go.Proofs.Ytcolndejambcmaa.Ew
open Go.RowKit Go.Proofs.YtcolndejambcmaaW.PrintWords Go.Proofs.YtcolndejambcmaaW.PrintLast
set_option linter.unusedVariables false
set_option linter.unusedSimpArgs false
-- 16 loop.example/g00497/spec.Expire
set_option maxHeartbeats 4000000 in
set_option maxRecDepth 100000 in
theorem spec_Expire_ok {k : Nat} {a0 : Cac} {a1 : Int} {r : Cac} (hf : spec_Expire k a0 a1 = some r) {b w : World} {s : Nat → Prop} {v1 : Sv} (hr1 : (kEnt 66).C b (sl v1) a0.l) (hS : St b w s [] w) : Calls Try.prog 16 ([.agg #[vi a0.cap, sl v1], vi a1] : List Value).toArray w fun e w' => ∃ v M, e = .returned v ∧ (∃ u1 : Sv, v = .agg #[vi r.cap, sl u1] ∧ M = [.row (kEnt 66) 32 (sl u1) r.l]) ∧ St b w s M w' := by
  rw [spec_Expire] at hf
  refine calls_of (n := 39) (args := [_, _]) Try.func16 rfl rfl (Nat.le_of_ble_eq_true rfl) ?_
  refine EW.seq ?_
  refine EW.region ?_
  refine SL.box hS rfl (by decide) (fun g1 w1 hS1 => ?_)
  clear hS
  refine SL.alloc hS1 i37 (by decide) (fun g2 w2 hS2 => ?_)
  clear hS1
  refine EL.nil ?_
  refine thenE_n ?_
  refine EW.seq ?_
  refine EW.region ?_
  refine EL.rn (rn_fa rfl Try.underlying37 rfl z3 (by decide) rfl _) rfl rfl (by decide) ?_
  refine EL.rn (rn_ld rfl Try.underlying3 (by simp) (by simp) (hS2.a 0 rfl) rfl) rfl rfl (by decide) ?_
  refine SL.lit hS2 (kEnt 66) [] [] rfl rfl rfl Try.underlying35 i32 (by decide) rfl (by decide) (fun _ _ => trivial) (by decide) (fun v2 w3 hS3 => ?_)
  clear hS2
  refine EL.rn (rn_bld (cs := #[vi a0.cap, sl v2]) [(0, vi a0.cap), (1, sl v2)] rfl Try.underlying37 i37 p37 q37 rfl _) rfl rfl (by decide) ?_
  refine SL.alloc hS3 i37 (by decide) (fun g3 w4 hS4 => ?_)
  clear hS3
  refine SL.stb hS4 3 rfl rfl rfl [vi a0.cap, sl v2] rfl z37 rfl (Nat.le_of_ble_eq_true rfl) #[vi a0.cap, sl v2] rfl (fun w5 hS5 => ?_)
  clear hS4
  refine EL.nil ?_
  refine thenE_n ?_
  refine EW.seq ?_
  refine EW.seq ?_
  refine EW.region ?_
  refine EL.q rfl rfl rfl (by decide) ?_
  refine EL.nil ?_
  refine thenE_n ?_
  obtain ⟨o1, hx6, hf10⟩ := bnd hf
  clear hf
  refine EW.cut (fun e W => ∃ v10 : Sv, ∃ x9 : List Ent, o1 = .brk x9 ∧ e = [(4, ptr (at0 g2) 0), (5, ptr (at0 g3) 0)] ∧ St b w s [.blk g2 37 #[vi 0, .slice none 0 0], .blk g3 37 #[vi a0.cap, sl v10], .row (kEnt 66) 32 (sl v10) x9] W) ?_ ?_
  · skip
    refine EW.block ?_
    refine EW.loopP hx6 (fun (x : (List Ent) × Int) e W => match x with | (x1, x2) => ∃ v3 : Sv, e = [(1, vi a1), (2, ptr (at0 g1) 0), (4, ptr (at0 g2) 0), (5, ptr (at0 g3) 0), (6, vi x2)] ∧ St b w s [.blk g1 37 #[vi a0.cap, sl v1], .blk g2 37 #[vi 0, .slice none 0 0], .blk g3 37 #[vi a0.cap, sl v3], .row (kEnt 66) 32 (sl v3) x1] W) [(1, vi a1), (2, ptr (at0 g1) 0), (4, ptr (at0 g2) 0), (5, ptr (at0 g3) 0), (6, vi 0)] ⟨rfl, rfl, rfl, rfl, rfl, trivial⟩ ⟨v2, rfl, hS5.sel [0, 1, 3, 2] rfl (by decide)⟩ ?_
    rintro ⟨x1, x2⟩ e w13 ⟨v3, rfl, hS14⟩ st1 hf11 hbr1 hrt1
    rw [spec_Expire_b1] at hf11
    refine EW.seq ?_
    refine EW.seq ?_
    refine EW.region ?_
    refine EL.q rfl rfl rfl (by decide) ?_
    refine EL.rn (rn_fa rfl Try.underlying37 rfl z35 (by decide) rfl _) rfl rfl (by decide) ?_
    refine EL.rn (rn_ld rfl Try.underlying35 (by simp) (by simp) (hS14.a 0 rfl) rfl) rfl rfl (by decide) ?_
    refine EL.rn (rn_len rfl (K2.C.sl (d := (kEnt 66)) (hS14.now hr1)) Try.underlying35 _) rfl rfl (by decide) ?_
    refine EL.q rfl rfl rfl (by decide) ?_
    refine EL.nil ?_
    refine thenE_n ?_
    refine EW.cond rfl (fun hc3 => ?_) (fun hc3 => ?_)
    · skip
      have hf12 := bifT hc3 hf11
      clear hf11
      refine EW.skip ?_
      refine thenE_n ?_
      refine EW.seq ?_
      refine EW.block ?_
      refine EW.seq ?_
      refine EW.region ?_
      refine EL.rn (rn_fa rfl Try.underlying37 rfl z35 (by decide) rfl _) rfl rfl (by decide) ?_
      refine EL.rn (rn_ld rfl Try.underlying35 (by simp) (by simp) (hS14.a 0 rfl) rfl) rfl rfl (by decide) ?_
      refine EL.q rfl rfl rfl (by decide) ?_
      obtain ⟨x10, hx7, hf13⟩ := bnd hf12
      clear hf12
      obtain ⟨ad3, hE3⟩ := EA.of (d := (kEnt 66)) (hS14.now hr1) hx7
      refine EL.rn (rn_ix rfl rfl hE3 Try.underlying35 z32 _) rfl rfl (by decide) ?_
      obtain ⟨v11, hA3, hr4⟩ := Ent_at hr1 hE3 hx7
      refine EL.rn (rn_lds (m := 6) [str x10.q.name, vi x10.q.ty, vi x10.kind, sl v11, vi x10.rank, vi x10.till] rfl Try.underlying32 (hA3.agr hS14.agr) rfl z32) rfl rfl (by decide) ?_
      refine EL.q rfl rfl rfl (by decide) ?_
      obtain ⟨x11, hx8, hf14⟩ := bnd hf13
      clear hf13
      refine SL.call hS14 [_, _] rfl Try.func20 (by kernel_rfl) rfl (by decide) [] (by decide) (L0 := []) rfl (fun b' s hb hw hrd hS => spec_l15Lives_ok hx8 (hr4.agr hb) hS) (fun v M w14 hΦ hS15 => ?_)
      clear hS14
      obtain ⟨rfl, rfl⟩ := hΦ
      refine EL.nil ?_
      refine thenE_n ?_
      refine EW.cond rfl (fun hc4 => ?_) (fun hc4 => ?_)
      · skip
        have hf15 := bifT hc4 hf14
        clear hf14
        refine EW.seq ?_
        refine EW.region ?_
        refine EL.rn (rn_fa rfl Try.underlying37 rfl z35 (by decide) rfl _) rfl rfl (by decide) ?_
        refine EL.rn (rn_ld rfl Try.underlying35 (by simp) (by simp) (hS15.a 0 rfl) rfl) rfl rfl (by decide) ?_
        refine EL.q rfl rfl rfl (by decide) ?_
        obtain ⟨x12, hx9, hf16⟩ := bnd hf15
        clear hf15
        obtain ⟨ad4, hE4⟩ := EA.of (d := (kEnt 66)) (hS15.now hr1) hx9
        refine EL.rn (rn_ix rfl rfl hE4 Try.underlying35 z32 _) rfl rfl (by decide) ?_
        obtain ⟨v12, hA4, hr5⟩ := Ent_at hr1 hE4 hx9
        refine EL.rn (rn_lds (m := 6) [str x12.q.name, vi x12.q.ty, vi x12.kind, sl v12, vi x12.rank, vi x12.till] rfl Try.underlying32 (hA4.agr hS15.agr) rfl z32) rfl rfl (by decide) ?_
        obtain ⟨x13, hx10, hf17⟩ := bnd hf16
        clear hf16
        refine SL.call hS15 [_] rfl Try.func21 (by kernel_rfl) rfl (by decide) [] (by decide) (L0 := []) rfl (fun b' s hb hw hrd hS => spec_l15Entry_ok hx10 (hr5.agr hb) hS) (fun v M w15 hΦ hS16 => ?_)
        clear hS15
        obtain ⟨v13, rfl, rfl⟩ := hΦ
        refine SL.alloc hS16 i32 (by decide) (fun g5 w16 hS17 => ?_)
        clear hS16
        refine SL.stb hS17 5 rfl rfl rfl [str x13.q.name, vi x13.q.ty, vi x13.kind, sl v13, vi x13.rank, vi x13.till] rfl z32 rfl (Nat.le_of_ble_eq_true rfl) #[str x13.q.name, vi x13.q.ty, vi x13.kind, sl v13, vi x13.rank, vi x13.till] rfl (fun w17 hS18 => ?_)
        clear hS17
        refine EL.nil ?_
        refine thenE_n ?_
        refine EW.region ?_
        refine EL.rn (rn_fa rfl Try.underlying37 rfl z35 (by decide) rfl _) rfl rfl (by decide) ?_
        refine EL.rn (rn_ld rfl Try.underlying35 (by simp) (by simp) (hS18.a 2 rfl) rfl) rfl rfl (by decide) ?_
        refine EL.rn (rn_lds (m := 6) [str x13.q.name, vi x13.q.ty, vi x13.kind, sl v13, vi x13.rank, vi x13.till] rfl Try.underlying32 (hS18.a 5 rfl) rfl z32) rfl rfl (by decide) ?_
        have hS19 := hS18.conv 4 rfl (a' := .val (kEnt 66) [str x13.q.name, vi x13.q.ty, vi x13.kind, sl v13, vi x13.rank, vi x13.till] x13) (fun w s h => Ent_Mk (x := x13) h)
        clear hS18
        refine SL.litv hS19 4 rfl rfl rfl Try.underlying35 i32 (by decide) (by decide) rfl (by decide) (fun v14 w18 hS20 => ?_)
        clear hS19
        obtain ⟨x14, hx11, hf18⟩ := bnd hf17
        clear hf17
        refine SL.app2 hS20 3 4 rfl rfl (by decide) rfl rfl Try.underlying35 i32 rfl (by decide) (by decide) (by decide) hx11 (by decide) (fun v15 w19 hS21 => ?_)
        clear hS20
        refine EL.rn (rn_fa rfl Try.underlying37 rfl z35 (by decide) rfl _) rfl rfl (by decide) ?_
        refine SL.stb hS21 2 rfl rfl rfl [sl v15] rfl z35 rfl (Nat.le_of_ble_eq_true rfl) #[vi a0.cap, sl v15] rfl (fun w20 hS22 => ?_)
        clear hS21
        refine EL.nil ?_
        refine inB_n ?_
        refine thenE_n ?_
        refine EW.region ?_
        iterate 3 refine EL.q rfl rfl rfl (by decide) ?_
        refine EL.nil ?_
        obtain rfl := Option.some.inj hf18
        refine thenE_n ?_
        exact ⟨(x14, (w64 (x2 + 1))), [(1, vi a1), (2, ptr (at0 g1) 0), (4, ptr (at0 g2) 0), (5, ptr (at0 g3) 0), (6, vi (w64 (x2 + 1)))], rfl, ⟨rfl, rfl, rfl, rfl, rfl, trivial⟩, v15, rfl, hS22.sel [0, 1, 2, 3] rfl (by decide)⟩
      · skip
        have hf19 := bifF hc4 hf14
        clear hf14
        refine EW.skip ?_
        refine inB_n ?_
        refine thenE_n ?_
        refine EW.region ?_
        iterate 3 refine EL.q rfl rfl rfl (by decide) ?_
        refine EL.nil ?_
        obtain rfl := Option.some.inj hf19
        refine thenE_n ?_
        exact ⟨(x1, (w64 (x2 + 1))), [(1, vi a1), (2, ptr (at0 g1) 0), (4, ptr (at0 g2) 0), (5, ptr (at0 g3) 0), (6, vi (w64 (x2 + 1)))], rfl, ⟨rfl, rfl, rfl, rfl, rfl, trivial⟩, v3, rfl, hS15.sel [0, 1, 2, 3] rfl (by decide)⟩
    · skip
      have hf20 := bifF hc3 hf11
      clear hf11
      refine EW.exit ?_
      repeat (first | refine thenE_x ?_ | refine inB_x ?_ | refine inB_y (by decide) ?_)
      obtain rfl := Option.some.inj hf20
      obtain rfl := hbr1 _ rfl
      refine thenE_n ?_
      exact ⟨[(4, ptr (at0 g2) 0), (5, ptr (at0 g3) 0)], ⟨rfl, rfl, trivial⟩, v3, x1, rfl, rfl, hS14.sel [1, 2, 3] rfl (by decide)⟩
  · skip
    rintro e w21 ⟨v10, x9, rfl, rfl, hS23⟩
    refine thenE_n ?_
    refine EW.seq ?_
    refine EW.region ?_
    refine EL.rn (rn_lds (m := 2) [vi a0.cap, sl v10] rfl Try.underlying37 (hS23.a 1 rfl) rfl z37) rfl rfl (by decide) ?_
    refine SL.stb hS23 0 rfl rfl rfl [vi a0.cap, sl v10] rfl z37 rfl (Nat.le_of_ble_eq_true rfl) #[vi a0.cap, sl v10] rfl (fun w22 hS24 => ?_)
    clear hS23
    refine EL.nil ?_
    refine thenE_n ?_
    refine EW.ret ?_
    repeat (first | refine thenE_r ?_ | refine inB_r ?_)
    obtain rfl := Option.some.inj hf10
    exact ⟨_, res1 rfl (.cell rfl (hS24.blk 0 rfl) Try.underlying37 z37 .nil), _, _, rfl, ⟨v10, rfl, rfl⟩, hS24.sel [2] rfl (by decide)⟩

-- 41 loop.example/g00497/impl.copyEntry
set_option maxHeartbeats 4000000 in
set_option maxRecDepth 100000 in
theorem impl_copyEntry_ok {a0 : Ent} {r : Ent} (hf : impl_copyEntry a0 = some r) {b w : World} {s : Nat → Prop} {v1 : Sv} (hr1 : kRec.C b (sl v1) a0.l) (hS : St b w s [] w) : Calls Try.prog 41 ([.agg #[str a0.q.name, vi a0.q.ty, vi a0.kind, sl v1, vi a0.rank, vi a0.till]] : List Value).toArray w fun e w' => ∃ v M, e = .returned v ∧ (∃ u1 : Sv, v = .agg #[str r.q.name, vi r.q.ty, vi r.kind, sl u1, vi r.rank, vi r.till] ∧ M = [.row kRec 66 (sl u1) r.l]) ∧ St b w s M w' := by
  rw [impl_copyEntry] at hf
  refine calls_of (n := 8) (args := [_]) Try.func41 rfl rfl (Nat.le_of_ble_eq_true rfl) ?_
  refine EW.seq ?_
  refine EW.region ?_
  refine SL.box hS rfl (by decide) (fun g1 w1 hS1 => ?_)
  clear hS
  refine SL.alloc hS1 i32 (by decide) (fun g2 w2 hS2 => ?_)
  clear hS1
  refine EL.nil ?_
  refine thenE_n ?_
  refine EW.seq ?_
  refine EW.region ?_
  refine EL.rn (rn_fa rfl Try.underlying32 rfl z30 (by decide) rfl _) rfl rfl (by decide) ?_
  refine EL.rn (rn_ld rfl Try.underlying30 (by simp) (by simp) (hS2.a 0 rfl) rfl) rfl rfl (by decide) ?_
  obtain ⟨x1, hx1, hf1⟩ := bnd hf
  clear hf
  refine SL.call hS2 [_] rfl Try.func38 (by kernel_rfl) rfl (by decide) [] (by decide) (L0 := []) rfl (fun b' s hb hw hrd hS => slices_Clone_Record_ok hx1 (hr1.agr hb) hS) (fun v M w3 hΦ hS3 => ?_)
  clear hS2
  obtain ⟨v2, rfl, rfl⟩ := hΦ
  refine EL.rn (rn_fa rfl Try.underlying32 rfl z30 (by decide) rfl _) rfl rfl (by decide) ?_
  refine SL.stb hS3 0 rfl rfl rfl [sl v2] rfl z30 rfl (Nat.le_of_ble_eq_true rfl) #[str a0.q.name, vi a0.q.ty, vi a0.kind, sl v2, vi a0.rank, vi a0.till] rfl (fun w4 hS4 => ?_)
  clear hS3
  refine EL.nil ?_
  refine thenE_n ?_
  refine EW.seq ?_
  refine EW.region ?_
  refine EL.rn (rn_lds (m := 6) [str a0.q.name, vi a0.q.ty, vi a0.kind, sl v2, vi a0.rank, vi a0.till] rfl Try.underlying32 (hS4.a 0 rfl) rfl z32) rfl rfl (by decide) ?_
  refine SL.stb hS4 1 rfl rfl rfl [str a0.q.name, vi a0.q.ty, vi a0.kind, sl v2, vi a0.rank, vi a0.till] rfl z32 rfl (Nat.le_of_ble_eq_true rfl) #[str a0.q.name, vi a0.q.ty, vi a0.kind, sl v2, vi a0.rank, vi a0.till] rfl (fun w5 hS5 => ?_)
  clear hS4
  refine EL.nil ?_
  refine thenE_n ?_
  refine EW.ret ?_
  repeat (first | refine thenE_r ?_ | refine inB_r ?_)
  obtain rfl := Option.some.inj hf1
  exact ⟨_, res1 rfl (.cell rfl (hS5.blk 1 rfl) Try.underlying32 z32 .nil), _, _, rfl, ⟨v2, rfl, rfl⟩, hS5.sel [2] rfl (by decide)⟩

-- 31 loop.example/g00497/impl.copyCache
set_option maxHeartbeats 4000000 in
set_option maxRecDepth 100000 in
theorem impl_copyCache_ok {k : Nat} {a0 : Cac} {r : Cac} (hf : impl_copyCache k a0 = some r) {b w : World} {s : Nat → Prop} {v1 : Sv} (hr1 : (kEnt 66).C b (sl v1) a0.l) (hS : St b w s [] w) : Calls Try.prog 31 ([.agg #[vi a0.cap, sl v1]] : List Value).toArray w fun e w' => ∃ v M, e = .returned v ∧ (∃ u1 : Sv, v = .agg #[vi r.cap, sl u1] ∧ M = [.row (kEnt 66) 32 (sl u1) r.l]) ∧ St b w s M w' := by
  rw [impl_copyCache] at hf
  refine calls_of (n := 25) (args := [_]) Try.func31 rfl rfl (Nat.le_of_ble_eq_true rfl) ?_
  refine EW.seq ?_
  refine EW.region ?_
  refine SL.box hS rfl (by decide) (fun g1 w1 hS1 => ?_)
  clear hS
  refine SL.alloc hS1 i37 (by decide) (fun g2 w2 hS2 => ?_)
  clear hS1
  refine EL.nil ?_
  refine thenE_n ?_
  refine EW.seq ?_
  refine EW.region ?_
  refine EL.rn (rn_fa rfl Try.underlying37 rfl z3 (by decide) rfl _) rfl rfl (by decide) ?_
  refine EL.rn (rn_ld rfl Try.underlying3 (by simp) (by simp) (hS2.a 0 rfl) rfl) rfl rfl (by decide) ?_
  refine EL.rn (rn_bld (cs := #[vi a0.cap, .slice none 0 0]) [(0, vi a0.cap)] rfl Try.underlying37 i37 p37 q37 rfl _) rfl rfl (by decide) ?_
  refine SL.alloc hS2 i37 (by decide) (fun g3 w3 hS3 => ?_)
  clear hS2
  refine SL.stb hS3 2 rfl rfl rfl [vi a0.cap, .slice none 0 0] rfl z37 rfl (Nat.le_of_ble_eq_true rfl) #[vi a0.cap, .slice none 0 0] rfl (fun w4 hS4 => ?_)
  clear hS3
  refine EL.nil ?_
  refine thenE_n ?_
  refine EW.seq ?_
  refine EW.seq ?_
  refine EW.region ?_
  refine EL.rn (rn_fa rfl Try.underlying37 rfl z35 (by decide) rfl _) rfl rfl (by decide) ?_
  refine EL.rn (rn_ld rfl Try.underlying35 (by simp) (by simp) (hS4.a 0 rfl) rfl) rfl rfl (by decide) ?_
  refine EL.rn (rn_len rfl (K2.C.sl (d := (kEnt 66)) (hS4.now hr1)) Try.underlying35 _) rfl rfl (by decide) ?_
  refine EL.q rfl rfl rfl (by decide) ?_
  refine EL.nil ?_
  refine thenE_n ?_
  obtain ⟨o1, hx2, hf4⟩ := bnd hf
  clear hf
  refine EW.cut (fun e W => ∃ v7 : Sv, ∃ x7 : List Ent, o1 = .brk x7 ∧ e = [(2, ptr (at0 g2) 0), (3, ptr (at0 g3) 0)] ∧ St b w s [.blk g2 37 #[vi 0, .slice none 0 0], .blk g3 37 #[vi a0.cap, sl v7], .row (kEnt 66) 32 (sl v7) x7] W) ?_ ?_
  · skip
    refine EW.block ?_
    have hS8 := hS4.nilrow (kEnt 66) 32
    refine EW.loopP hx2 (fun (x : (List Ent) × Int) e W => match x with | (x1, x2) => ∃ v2 : Sv, e = [(2, ptr (at0 g2) 0), (3, ptr (at0 g3) 0), (10, sl v1), (11, vi (a0.l.length : Int)), (12, vi x2)] ∧ St b w s [.blk g2 37 #[vi 0, .slice none 0 0], .blk g3 37 #[vi a0.cap, sl v2], .row (kEnt 66) 32 (sl v2) x1] W) [(2, ptr (at0 g2) 0), (3, ptr (at0 g3) 0), (10, sl v1), (11, vi (a0.l.length : Int)), (12, vi 0)] ⟨rfl, rfl, rfl, rfl, rfl, trivial⟩ ⟨(none, 0, 0), rfl, hS8.sel [1, 2, 3] rfl (by decide)⟩ ?_
    rintro ⟨x1, x2⟩ e w8 ⟨v2, rfl, hS9⟩ st1 hf5 hbr1 hrt1
    rw [impl_copyCache_b1] at hf5
    refine EW.seq ?_
    refine EW.region ?_
    refine EL.q rfl rfl rfl (by decide) ?_
    refine EL.nil ?_
    refine thenE_n ?_
    refine EW.seq ?_
    refine EW.cond rfl (fun hc2 => ?_) (fun hc2 => ?_)
    · skip
      have hf6 := bifT hc2 hf5
      clear hf5
      refine EW.skip ?_
      refine thenE_n ?_
      refine EW.seq ?_
      refine EW.block ?_
      refine EW.seq ?_
      refine EW.region ?_
      obtain ⟨x8, hx3, hf7⟩ := bnd hf6
      clear hf6
      obtain ⟨ad2, hE2⟩ := EA.of (d := (kEnt 66)) (hS9.now hr1) hx3
      refine EL.rn (rn_ix rfl rfl hE2 Try.underlying35 z32 _) rfl rfl (by decide) ?_
      obtain ⟨v8, hA2, hr3⟩ := Ent_at hr1 hE2 hx3
      refine EL.rn (rn_lds (m := 6) [str x8.q.name, vi x8.q.ty, vi x8.kind, sl v8, vi x8.rank, vi x8.till] rfl Try.underlying32 (hA2.agr hS9.agr) rfl z32) rfl rfl (by decide) ?_
      refine SL.alloc hS9 i32 (by decide) (fun g5 w9 hS10 => ?_)
      clear hS9
      refine SL.stb hS10 3 rfl rfl rfl [str x8.q.name, vi x8.q.ty, vi x8.kind, sl v8, vi x8.rank, vi x8.till] rfl z32 rfl (Nat.le_of_ble_eq_true rfl) #[str x8.q.name, vi x8.q.ty, vi x8.kind, sl v8, vi x8.rank, vi x8.till] rfl (fun w10 hS11 => ?_)
      clear hS10
      refine EL.nil ?_
      refine thenE_n ?_
      obtain ⟨x10, hx4, hf8⟩ := bnd hf7
      clear hf7
      refine EW.cut (fun e W => ∃ v10 : Sv, e = [(2, ptr (at0 g2) 0), (3, ptr (at0 g3) 0), (10, sl v1), (11, vi (a0.l.length : Int)), (12, vi x2)] ∧ St b w s [.blk g2 37 #[vi 0, .slice none 0 0], .blk g3 37 #[vi a0.cap, sl v10], .row (kEnt 66) 32 (sl v10) x10] W) ?_ ?_
      · skip
        obtain ⟨x11, hx5, hf9⟩ := bnd hx4
        clear hx4
        obtain ⟨x12, hx6, hf10⟩ := bnd hf9
        clear hf9
        have hS18 := hS11.drew
        refine EW.drawn (m := 8) (fun W => CellsAt W (at0 g3) 0 [vi a0.cap, sl v2] ∧ CellsAt W (at0 g5) 0 [str x8.q.name, vi x8.q.ty, vi x8.kind, sl v8, vi x8.rank, vi x8.till] ∧ True) [7] (by kernel_rfl) rfl ⟨(hS18.a 1 rfl), (hS18.a 3 rfl), trivial⟩ ?_
        refine DR.q 0 rfl (fun w' => rn_fa rfl Try.underlying37 rfl z35 (by decide) rfl w') rfl rfl (by decide) (by kernel_rfl) ?_
        refine DR.take 1 rfl (fun w' hw => rn_ld rfl Try.underlying35 (by simp) (by simp) hw.1 rfl) rfl rfl (by decide) (by kernel_rfl) ⟨(hS18.a 1 rfl), (hS18.a 3 rfl), trivial⟩ ?_
        refine DR.take 2 rfl (fun w' hw => rn_lds (m := 6) [str x8.q.name, vi x8.q.ty, vi x8.kind, sl v8, vi x8.rank, vi x8.till] rfl Try.underlying32 hw.2.1 rfl z32) rfl rfl (by decide) (by kernel_rfl) ⟨(hS18.a 1 rfl), (hS18.a 3 rfl), trivial⟩ ?_
        refine DR.one 3 (by kernel_rfl) rfl ?_
        refine SL.call hS18 [_] rfl Try.func41 (by kernel_rfl) rfl (by decide) [] (by decide) (L0 := []) rfl (fun b' s hb hw hrd hS => impl_copyEntry_ok hx5 (hr3.agr hb) hS) (fun v M w17 hΦ hS19 => ?_)
        clear hS18
        obtain ⟨v11, rfl, rfl⟩ := hΦ
        refine EL.then_ ⟨(hS19.a 1 rfl), (hS19.a 3 rfl), trivial⟩ ?_
        refine DR.one 4 (by kernel_rfl) rfl ?_
        have hS20 := hS19.conv 4 rfl (a' := .val (kEnt 66) [str x11.q.name, vi x11.q.ty, vi x11.kind, sl v11, vi x11.rank, vi x11.till] x11) (fun w s h => Ent_Mk (x := x11) h)
        clear hS19
        refine SL.litv hS20 4 rfl rfl rfl Try.underlying35 i32 (by decide) (by decide) rfl (by decide) (fun v12 w18 hS21 => ?_)
        clear hS20
        refine EL.then_ ⟨(hS21.a 1 rfl), (hS21.a 3 rfl), trivial⟩ ?_
        refine DR.one 5 (by kernel_rfl) rfl ?_
        refine SL.app2 hS21 2 4 rfl rfl (by decide) rfl rfl Try.underlying35 i32 rfl (by decide) (by decide) (by decide) hx6 (by decide) (fun v13 w19 hS22 => ?_)
        clear hS21
        refine EL.then_ ⟨(hS22.a 1 rfl), (hS22.a 3 rfl), trivial⟩ ?_
        refine DR.q 6 rfl (fun w' => rn_fa rfl Try.underlying37 rfl z35 (by decide) rfl w') rfl rfl (by decide) (by kernel_rfl) ?_
        refine DR.one 7 (by kernel_rfl) rfl ?_
        refine SL.stb hS22 1 rfl rfl rfl [sl v13] rfl z35 rfl (Nat.le_of_ble_eq_true rfl) #[vi a0.cap, sl v13] rfl (fun w20 hS23 => ?_)
        clear hS22
        refine EL.last_ (by decide) ?_
        refine DR.done (by kernel_rfl) ?_
        cases hf10
        refine thenE_n ?_
        exact ⟨[(2, ptr (at0 g2) 0), (3, ptr (at0 g3) 0), (10, sl v1), (11, vi (a0.l.length : Int)), (12, vi x2)], ⟨rfl, rfl, rfl, rfl, rfl, trivial⟩, v13, rfl, hS23.sel [0, 1, 2] rfl (by decide)⟩
      · skip
        rintro e w21 ⟨v10, rfl, hS24⟩
        refine inB_n ?_
        refine thenE_n ?_
        refine EW.region ?_
        iterate 2 refine EL.q rfl rfl rfl (by decide) ?_
        refine EL.nil ?_
        obtain rfl := Option.some.inj hf8
        refine thenE_n ?_
        exact ⟨(x10, (w64 (x2 + 1))), [(2, ptr (at0 g2) 0), (3, ptr (at0 g3) 0), (10, sl v1), (11, vi (a0.l.length : Int)), (12, vi (w64 (x2 + 1)))], rfl, ⟨rfl, rfl, rfl, rfl, rfl, trivial⟩, v10, rfl, hS24.sel [0, 1, 2] rfl (by decide)⟩
    · skip
      have hf11 := bifF hc2 hf5
      clear hf5
      refine EW.exit ?_
      repeat (first | refine thenE_x ?_ | refine inB_x ?_ | refine inB_y (by decide) ?_)
      obtain rfl := Option.some.inj hf11
      obtain rfl := hbr1 _ rfl
      refine thenE_n ?_
      exact ⟨[(2, ptr (at0 g2) 0), (3, ptr (at0 g3) 0)], ⟨rfl, rfl, trivial⟩, v2, x1, rfl, rfl, hS9.sel [0, 1, 2] rfl (by decide)⟩
  · skip
    rintro e w22 ⟨v7, x7, rfl, rfl, hS25⟩
    refine thenE_n ?_
    refine EW.seq ?_
    refine EW.region ?_
    refine EL.rn (rn_lds (m := 2) [vi a0.cap, sl v7] rfl Try.underlying37 (hS25.a 1 rfl) rfl z37) rfl rfl (by decide) ?_
    refine SL.stb hS25 0 rfl rfl rfl [vi a0.cap, sl v7] rfl z37 rfl (Nat.le_of_ble_eq_true rfl) #[vi a0.cap, sl v7] rfl (fun w23 hS26 => ?_)
    clear hS25
    refine EL.nil ?_
    refine thenE_n ?_
    refine EW.ret ?_
    repeat (first | refine thenE_r ?_ | refine inB_r ?_)
    obtain rfl := Option.some.inj hf4
    exact ⟨_, res1 rfl (.cell rfl (hS26.blk 0 rfl) Try.underlying37 z37 .nil), _, _, rfl, ⟨v7, rfl, rfl⟩, hS26.sel [2] rfl (by decide)⟩

-- 42 slices.IndexFunc[[]loop.example/g00497/impl.Entry,loop.example/g00497/impl.Entry]
set_option maxHeartbeats 4000000 in
set_option maxRecDepth 100000 in
theorem slices_IndexFunc_Entry_ok {k : Nat} {a0 : List Ent} {a1 : Ent → Option Bool} {r : Int} (hf : slices_IndexFunc_Entry k a0 a1 = some r) {b w : World} {s : Nat → Prop} {v1 : Sv} {v_a1 : Value} (hr1 : (kEnt 66).C b (sl v1) a0) (hF_a1 : Clo Try.prog v_a1 b (fun b args (x : Ent) => ∃ u1 : Sv, args = [.agg #[str x.q.name, vi x.q.ty, vi x.kind, sl u1, vi x.rank, vi x.till]] ∧ kRec.C b (sl u1) x.l) (fun r => vt r) a1) (hS : St b w s [] w) : Calls Try.prog 42 ([sl v1, v_a1] : List Value).toArray w fun e w' => ∃ v M, e = .returned v ∧ (v = vi r ∧ M = []) ∧ St b w s M w' := by
  rw [slices_IndexFunc_Entry] at hf
  refine calls_of (n := 19) (args := [_, _]) Try.func42 rfl rfl (Nat.le_of_ble_eq_true rfl) ?_
  refine EW.seq ?_
  refine EW.region ?_
  refine EL.q rfl rfl rfl (by decide) ?_
  refine EL.nil ?_
  refine thenE_n ?_
  refine EW.seq ?_
  refine EW.seq ?_
  refine EW.region ?_
  refine EL.q rfl rfl rfl (by decide) ?_
  refine EL.rn (rn_len rfl (K2.C.sl (d := (kEnt 66)) (hS.now hr1)) Try.underlying35 _) rfl rfl (by decide) ?_
  refine EL.q rfl rfl rfl (by decide) ?_
  refine EL.nil ?_
  refine thenE_n ?_
  obtain ⟨o1, hx3, hf7⟩ := bnd hf
  clear hf
  refine EW.cut (fun e W => o1 = .brk () ∧ e = [] ∧ St b w s [] W) ?_ ?_
  · skip
    refine EW.block ?_
    refine EW.loopP hx3 (fun (x : Int) e W => match x with | x1 => e = [(0, sl v1), (1, v_a1), (7, vi (a0.length : Int)), (8, vi x1)] ∧ St b w s [] W) [(0, sl v1), (1, v_a1), (7, vi (a0.length : Int)), (8, vi 0)] ⟨rfl, rfl, rfl, rfl, trivial⟩ ⟨rfl, hS.sel [] rfl (by decide)⟩ ?_
    rintro x1 e w2 ⟨rfl, hS2⟩ st1 hf8 hbr1 hrt1
    rw [slices_IndexFunc_Entry_b1] at hf8
    refine EW.seq ?_
    refine EW.region ?_
    refine EL.q rfl rfl rfl (by decide) ?_
    refine EL.nil ?_
    refine thenE_n ?_
    refine EW.seq ?_
    refine EW.cond rfl (fun hc3 => ?_) (fun hc3 => ?_)
    · skip
      have hf9 := bifT hc3 hf8
      clear hf8
      refine EW.skip ?_
      refine thenE_n ?_
      refine EW.seq ?_
      refine EW.block ?_
      refine EW.seq ?_
      refine EW.region ?_
      iterate 2 refine EL.q rfl rfl rfl (by decide) ?_
      refine EL.nil ?_
      refine thenE_n ?_
      refine EW.seq ?_
      refine EW.region ?_
      iterate 3 refine EL.q rfl rfl rfl (by decide) ?_
      obtain ⟨x4, hx4, hf10⟩ := bnd hf9
      clear hf9
      obtain ⟨ad2, hE2⟩ := EA.of (d := (kEnt 66)) (hS2.now hr1) hx4
      refine EL.rn (rn_ix rfl rfl hE2 Try.underlying35 z32 _) rfl rfl (by decide) ?_
      obtain ⟨v3, hA2, hr3⟩ := Ent_at hr1 hE2 hx4
      refine EL.rn (rn_lds (m := 6) [str x4.q.name, vi x4.q.ty, vi x4.kind, sl v3, vi x4.rank, vi x4.till] rfl Try.underlying32 (hA2.agr hS2.agr) rfl z32) rfl rfl (by decide) ?_
      obtain ⟨x5, hx5, hf11⟩ := bnd hf10
      clear hf10
      refine SL.clo hS2 hF_a1 hx5 [_] rfl rfl (by decide) (fun b' hb hw hrd => ⟨v3, rfl, (hr3.agr hb)⟩) (fun w3 hS3 => ?_)
      clear hS2
      refine EL.nil ?_
      refine thenE_n ?_
      refine EW.cond rfl (fun hc4 => ?_) (fun hc4 => ?_)
      · skip
        have hf12 := bifT hc4 hf11
        clear hf11
        refine EW.seq ?_
        refine EW.region ?_
        iterate 2 refine EL.q rfl rfl rfl (by decide) ?_
        refine EL.nil ?_
        refine thenE_n ?_
        refine EW.ret ?_
        repeat (first | refine thenE_r ?_ | refine inB_r ?_)
        obtain rfl := Option.some.inj hf12
        obtain rfl := hrt1 _ rfl
        obtain rfl := Option.some.inj hf7
        exact ⟨_, res rfl, _, _, rfl, ⟨rfl, rfl⟩, hS3.sel [] rfl (by decide)⟩
      · skip
        have hf13 := bifF hc4 hf11
        clear hf11
        refine EW.skip ?_
        refine inB_n ?_
        refine thenE_n ?_
        refine EW.region ?_
        iterate 2 refine EL.q rfl rfl rfl (by decide) ?_
        refine EL.nil ?_
        obtain rfl := Option.some.inj hf13
        refine thenE_n ?_
        exact ⟨(w64 (x1 + 1)), [(0, sl v1), (1, v_a1), (7, vi (a0.length : Int)), (8, vi (w64 (x1 + 1)))], rfl, ⟨rfl, rfl, rfl, rfl, trivial⟩, rfl, hS3.sel [] rfl (by decide)⟩
    · skip
      have hf14 := bifF hc3 hf8
      clear hf8
      refine EW.exit ?_
      repeat (first | refine thenE_x ?_ | refine inB_x ?_ | refine inB_y (by decide) ?_)
      obtain rfl := Option.some.inj hf14
      obtain rfl := hbr1 _ rfl
      refine thenE_n ?_
      exact ⟨[], trivial, rfl, rfl, hS2.sel [] rfl (by decide)⟩
  · skip
    rintro e w4 ⟨rfl, rfl, hS4⟩
    refine thenE_n ?_
    refine EW.seq ?_
    refine EW.region ?_
    refine EL.q rfl rfl rfl (by decide) ?_
    refine EL.nil ?_
    refine thenE_n ?_
    refine EW.ret ?_
    repeat (first | refine thenE_r ?_ | refine inB_r ?_)
    obtain rfl := Option.some.inj hf7
    exact ⟨_, res rfl, _, _, rfl, ⟨rfl, rfl⟩, hS4.sel [] rfl (by decide)⟩

-- 33 loop.example/g00497/impl.Expire$1
set_option maxHeartbeats 4000000 in
set_option maxRecDepth 100000 in
theorem impl_Expire_1_ok {a0 : Ent} {a1 : Int} {r : Bool} (hf : impl_Expire_1 a0 a1 = some r) {b w : World} {s : Nat → Prop} {v1 : Sv} {g1 : Nat} (hr1 : kRec.C b (sl v1) a0.l) (hrA1 : CellsAt b (at0 g1) 0 [vi a1]) (hS : St b w s [] w) : Calls Try.prog 33 ([.agg #[str a0.q.name, vi a0.q.ty, vi a0.kind, sl v1, vi a0.rank, vi a0.till], ptr (at0 g1) 0] : List Value).toArray w fun e w' => ∃ v M, e = .returned v ∧ (v = vt r ∧ M = []) ∧ St b w s M w' := by
  rw [impl_Expire_1] at hf
  refine calls_of (n := 8) (args := [_, _]) Try.func33 rfl rfl (Nat.le_of_ble_eq_true rfl) ?_
  refine EW.seq ?_
  refine EW.region ?_
  refine SL.box hS rfl (by decide) (fun g2 w1 hS1 => ?_)
  clear hS
  refine EL.q rfl rfl rfl (by decide) ?_
  refine EL.nil ?_
  refine thenE_n ?_
  refine EW.seq ?_
  refine EW.region ?_
  refine EL.rn (rn_fa rfl Try.underlying32 rfl z3 (by decide) rfl _) rfl rfl (by decide) ?_
  refine EL.rn (rn_ld rfl Try.underlying3 (by simp) (by simp) (hS1.a 0 rfl) rfl) rfl rfl (by decide) ?_
  refine EL.rn (rn_ld rfl Try.underlying3 (by simp) (by simp) (hrA1.agr hS1.agr) rfl) rfl rfl (by decide) ?_
  iterate 2 refine EL.q rfl rfl rfl (by decide) ?_
  refine EL.nil ?_
  refine thenE_n ?_
  refine EW.ret ?_
  repeat (first | refine thenE_r ?_ | refine inB_r ?_)
  obtain rfl := Option.some.inj hf
  exact ⟨_, res rfl, _, _, rfl, ⟨rfl, rfl⟩, hS1.sel [] rfl (by decide)⟩

-- 34 loop.example/g00497/laws.heldEntryS
set_option maxHeartbeats 4000000 in
set_option maxRecDepth 100000 in
theorem laws_heldEntryS_ok {k : Nat} {a0 : List Ent} {a1 : Int} {r : Int} (hf : laws_heldEntryS k a0 a1 = some r) {b w : World} {s : Nat → Prop} {v1 : Sv} (hr1 : (kEnt 66).C b (sl v1) a0) (hS : St b w s [] w) : Calls Try.prog 34 ([sl v1, vi a1] : List Value).toArray w fun e w' => ∃ v M, e = .returned v ∧ (v = vi r ∧ M = []) ∧ St b w s M w' := by
  rw [laws_heldEntryS] at hf
  refine calls_of (n := 70) (args := [_, _]) Try.func34 rfl rfl (Nat.le_of_ble_eq_true rfl) ?_
  refine EW.seq ?_
  refine EW.region ?_
  refine EL.q rfl rfl rfl (by decide) ?_
  refine EL.nil ?_
  refine thenE_n ?_
  refine EW.seq ?_
  refine EW.seq ?_
  refine EW.region ?_
  refine EL.q rfl rfl rfl (by decide) ?_
  refine EL.nil ?_
  refine thenE_n ?_
  obtain ⟨o1, hx9, hf23⟩ := bnd hf
  clear hf
  refine EW.cut (fun e W => ∃ x12 : Int, o1 = .brk x12 ∧ e = [(1, vi x12)] ∧ St b w s [] W) ?_ ?_
  · skip
    refine EW.block ?_
    refine EW.loopP hx9 (fun (x : Int × Int) e W => match x with | (x1, x2) => e = [(0, sl v1), (1, vi x1), (5, vi x2)] ∧ St b w s [] W) [(0, sl v1), (1, vi a1), (5, vi 0)] ⟨rfl, rfl, rfl, trivial⟩ ⟨rfl, hS.sel [] rfl (by decide)⟩ ?_
    rintro ⟨x1, x2⟩ e w6 ⟨rfl, hS6⟩ st1 hf24 hbr1 hrt1
    rw [laws_heldEntryS_b1] at hf24
    refine EW.seq ?_
    refine EW.seq ?_
    refine EW.region ?_
    iterate 2 refine EL.q rfl rfl rfl (by decide) ?_
    refine EL.rn (rn_len rfl (K2.C.sl (d := (kEnt 66)) (hS6.now hr1)) Try.underlying35 _) rfl rfl (by decide) ?_
    refine EL.q rfl rfl rfl (by decide) ?_
    refine EL.nil ?_
    refine thenE_n ?_
    refine EW.cond rfl (fun hc8 => ?_) (fun hc8 => ?_)
    · skip
      have hf25 := bifT hc8 hf24
      clear hf24
      refine EW.skip ?_
      refine thenE_n ?_
      refine EW.seq ?_
      refine EW.block ?_
      refine EW.seq ?_
      refine EW.seq ?_
      obtain ⟨x13, hx10, hf26⟩ := bnd hf25
      clear hf25
      obtain ⟨ad7, hE7⟩ := EA.of (d := (kEnt 66)) (hS6.now hr1) hx10
      obtain ⟨v8, hA7, hr8⟩ := Ent_at hr1 hE7 hx10
      obtain ⟨x14, hx11, hf27⟩ := bnd hf26
      clear hf26
      have hS9 := hS6.drew
      refine EW.drawn (m := 9) (fun W => CellsAt W ad7 0 [str x13.q.name, vi x13.q.ty, vi x13.kind, sl v8, vi x13.rank, vi x13.till] ∧ True) [] (by kernel_rfl) rfl ⟨(hA7.agr hS9.agr), trivial⟩ ?_
      refine DR.q 0 rfl (fun w' => rn_v rfl w') rfl rfl (by decide) (by kernel_rfl) ?_
      refine DR.q 1 rfl (fun w' => rn_v rfl w') rfl rfl (by decide) (by kernel_rfl) ?_
      refine DR.q 2 rfl (fun w' => rn_ix rfl rfl hE7 Try.underlying35 z32 w') rfl rfl (by decide) (by kernel_rfl) ?_
      refine DR.q 3 rfl (fun w' => rn_fa rfl Try.underlying32 rfl z29 (by decide) rfl w') rfl rfl (by decide) (by kernel_rfl) ?_
      refine DR.q 4 rfl (fun w' => rn_fa rfl Try.underlying29 rfl z9 (by decide) rfl w') rfl rfl (by decide) (by kernel_rfl) ?_
      refine DR.take 5 rfl (fun w' hw => rn_ld rfl Try.underlying9 (by simp) (by simp) hw.1 rfl) rfl rfl (by decide) (by kernel_rfl) ⟨(hA7.agr hS9.agr), trivial⟩ ?_
      refine DR.q 6 rfl (fun w' => rn_v rfl w') rfl rfl (by decide) (by kernel_rfl) ?_
      refine DR.one 7 (by kernel_rfl) rfl ?_
      refine SL.call hS9 [_] rfl Try.func40 (by kernel_rfl) rfl (by decide) [] (by decide) (L0 := []) rfl (fun b' s hb hw hrd hS => laws_markText_ok hx11 hS) (fun v M w10 hΦ hS10 => ?_)
      clear hS9
      obtain ⟨rfl, rfl⟩ := hΦ
      refine EL.then_ ⟨(hA7.agr hS10.agr), trivial⟩ ?_
      refine DR.q 8 rfl (fun w' => rn_sne (p := x13.q.name) (q := x14) rfl rfl w') rfl rfl (by decide) (by kernel_rfl) ?_
      refine DR.done (by kernel_rfl) ?_
      refine thenE_n ?_
      refine EW.cond rfl (fun hc9 => ?_) (fun hc9 => ?_)
      · skip
        have hf28 := bifT hc9 hf27
        clear hf27
        refine EW.seq ?_
        refine EW.region ?_
        refine EL.q rfl rfl rfl (by decide) ?_
        refine EL.nil ?_
        refine thenE_n ?_
        refine EW.ret ?_
        repeat (first | refine thenE_r ?_ | refine inB_r ?_)
        obtain rfl := Option.some.inj hf28
        obtain rfl := hrt1 _ rfl
        obtain rfl := Option.some.inj hf23
        exact ⟨_, res rfl, _, _, rfl, ⟨rfl, rfl⟩, hS10.sel [] rfl (by decide)⟩
      · skip
        have hf29 := bifF hc9 hf27
        clear hf27
        refine EW.skip ?_
        refine thenE_n ?_
        refine EW.seq ?_
        refine EW.region ?_
        iterate 3 refine EL.q rfl rfl rfl (by decide) ?_
        refine EL.nil ?_
        refine thenE_n ?_
        refine EW.seq ?_
        refine EW.seq ?_
        refine EW.region ?_
        iterate 2 refine EL.q rfl rfl rfl (by decide) ?_
        obtain ⟨x15, hx12, hf30⟩ := bnd hf29
        clear hf29
        obtain ⟨ad8, hE8⟩ := EA.of (d := (kEnt 66)) (hS10.now hr1) hx12
        refine EL.rn (rn_ix rfl rfl hE8 Try.underlying35 z32 _) rfl rfl (by decide) ?_
        refine EL.rn (rn_fa rfl Try.underlying32 rfl z29 (by decide) rfl _) rfl rfl (by decide) ?_
        refine EL.rn (rn_fa rfl Try.underlying29 rfl z3 (by decide) rfl _) rfl rfl (by decide) ?_
        obtain ⟨v9, hA8, hr9⟩ := Ent_at hr1 hE8 hx12
        refine EL.rn (rn_ld rfl Try.underlying3 (by simp) (by simp) (hA8.agr hS10.agr) rfl) rfl rfl (by decide) ?_
        iterate 2 refine EL.q rfl rfl rfl (by decide) ?_
        refine EL.nil ?_
        refine thenE_n ?_
        refine EW.cond rfl (fun hc10 => ?_) (fun hc10 => ?_)
        · skip
          have hf31 := bifT hc10 hf30
          clear hf30
          refine EW.seq ?_
          refine EW.region ?_
          refine EL.q rfl rfl rfl (by decide) ?_
          refine EL.nil ?_
          refine thenE_n ?_
          refine EW.ret ?_
          repeat (first | refine thenE_r ?_ | refine inB_r ?_)
          obtain rfl := Option.some.inj hf31
          obtain rfl := hrt1 _ rfl
          obtain rfl := Option.some.inj hf23
          exact ⟨_, res rfl, _, _, rfl, ⟨rfl, rfl⟩, hS10.sel [] rfl (by decide)⟩
        · skip
          have hf32 := bifF hc10 hf30
          clear hf30
          refine EW.skip ?_
          refine thenE_n ?_
          refine EW.seq ?_
          refine EW.region ?_
          iterate 3 refine EL.q rfl rfl rfl (by decide) ?_
          refine EL.nil ?_
          refine thenE_n ?_
          refine EW.seq ?_
          refine EW.seq ?_
          refine EW.region ?_
          iterate 2 refine EL.q rfl rfl rfl (by decide) ?_
          obtain ⟨x16, hx13, hf33⟩ := bnd hf32
          clear hf32
          obtain ⟨ad9, hE9⟩ := EA.of (d := (kEnt 66)) (hS10.now hr1) hx13
          refine EL.rn (rn_ix rfl rfl hE9 Try.underlying35 z32 _) rfl rfl (by decide) ?_
          refine EL.rn (rn_fa rfl Try.underlying32 rfl z3 (by decide) rfl _) rfl rfl (by decide) ?_
          obtain ⟨v10, hA9, hr10⟩ := Ent_at hr1 hE9 hx13
          refine EL.rn (rn_ld rfl Try.underlying3 (by simp) (by simp) (hA9.agr hS10.agr) rfl) rfl rfl (by decide) ?_
          iterate 2 refine EL.q rfl rfl rfl (by decide) ?_
          refine EL.nil ?_
          refine thenE_n ?_
          refine EW.cond rfl (fun hc11 => ?_) (fun hc11 => ?_)
          · skip
            have hf34 := bifT hc11 hf33
            clear hf33
            refine EW.seq ?_
            refine EW.region ?_
            refine EL.q rfl rfl rfl (by decide) ?_
            refine EL.nil ?_
            refine thenE_n ?_
            refine EW.ret ?_
            repeat (first | refine thenE_r ?_ | refine inB_r ?_)
            obtain rfl := Option.some.inj hf34
            obtain rfl := hrt1 _ rfl
            obtain rfl := Option.some.inj hf23
            exact ⟨_, res rfl, _, _, rfl, ⟨rfl, rfl⟩, hS10.sel [] rfl (by decide)⟩
          · skip
            have hf35 := bifF hc11 hf33
            clear hf33
            refine EW.skip ?_
            refine thenE_n ?_
            refine EW.seq ?_
            refine EW.region ?_
            iterate 3 refine EL.q rfl rfl rfl (by decide) ?_
            refine EL.nil ?_
            refine thenE_n ?_
            refine EW.seq ?_
            refine EW.region ?_
            iterate 2 refine EL.q rfl rfl rfl (by decide) ?_
            obtain ⟨x17, hx14, hf36⟩ := bnd hf35
            clear hf35
            obtain ⟨ad10, hE10⟩ := EA.of (d := (kEnt 66)) (hS10.now hr1) hx14
            refine EL.rn (rn_ix rfl rfl hE10 Try.underlying35 z32 _) rfl rfl (by decide) ?_
            refine EL.rn (rn_fa rfl Try.underlying32 rfl z30 (by decide) rfl _) rfl rfl (by decide) ?_
            obtain ⟨v11, hA10, hr11⟩ := Ent_at hr1 hE10 hx14
            refine EL.rn (rn_ld rfl Try.underlying30 (by simp) (by simp) (hA10.agr hS10.agr) rfl) rfl rfl (by decide) ?_
            refine EL.q rfl rfl rfl (by decide) ?_
            obtain ⟨x18, hx15, hf37⟩ := bnd hf36
            clear hf36
            refine SL.call hS10 [_, _] rfl Try.func30 (by kernel_rfl) rfl (by decide) [] (by decide) (L0 := []) rfl (fun b' s hb hw hrd hS => laws_heldRecordS_ok hx15 (hr11.agr hb) hS) (fun v M w11 hΦ hS11 => ?_)
            clear hS10
            obtain ⟨rfl, rfl⟩ := hΦ
            refine EL.q rfl rfl rfl (by decide) ?_
            refine EL.nil ?_
            refine thenE_n ?_
            refine EW.seq ?_
            refine EW.seq ?_
            refine EW.region ?_
            iterate 2 refine EL.q rfl rfl rfl (by decide) ?_
            refine EL.nil ?_
            refine thenE_n ?_
            refine EW.cond rfl (fun hc12 => ?_) (fun hc12 => ?_)
            · skip
              have hf38 := bifT hc12 hf37
              clear hf37
              refine EW.seq ?_
              refine EW.region ?_
              refine EL.q rfl rfl rfl (by decide) ?_
              refine EL.nil ?_
              refine thenE_n ?_
              refine EW.ret ?_
              repeat (first | refine thenE_r ?_ | refine inB_r ?_)
              obtain rfl := Option.some.inj hf38
              obtain rfl := hrt1 _ rfl
              obtain rfl := Option.some.inj hf23
              exact ⟨_, res rfl, _, _, rfl, ⟨rfl, rfl⟩, hS11.sel [] rfl (by decide)⟩
            · skip
              have hf39 := bifF hc12 hf37
              clear hf37
              refine EW.skip ?_
              refine thenE_n ?_
              refine EW.seq ?_
              refine EW.seq ?_
              refine EW.region ?_
              iterate 2 refine EL.q rfl rfl rfl (by decide) ?_
              obtain ⟨x19, hx16, hf40⟩ := bnd hf39
              clear hf39
              obtain ⟨ad11, hE11⟩ := EA.of (d := (kEnt 66)) (hS11.now hr1) hx16
              refine EL.rn (rn_ix rfl rfl hE11 Try.underlying35 z32 _) rfl rfl (by decide) ?_
              refine EL.rn (rn_fa rfl Try.underlying32 rfl z3 (by decide) rfl _) rfl rfl (by decide) ?_
              obtain ⟨v12, hA11, hr12⟩ := Ent_at hr1 hE11 hx16
              refine EL.rn (rn_ld rfl Try.underlying3 (by simp) (by simp) (hA11.agr hS11.agr) rfl) rfl rfl (by decide) ?_
              iterate 2 refine EL.q rfl rfl rfl (by decide) ?_
              refine EL.nil ?_
              refine thenE_n ?_
              refine EW.cond rfl (fun hc13 => ?_) (fun hc13 => ?_)
              · skip
                have hf41 := bifT hc13 hf40
                clear hf40
                refine EW.seq ?_
                refine EW.region ?_
                refine EL.q rfl rfl rfl (by decide) ?_
                refine EL.nil ?_
                refine thenE_n ?_
                refine EW.ret ?_
                repeat (first | refine thenE_r ?_ | refine inB_r ?_)
                obtain rfl := Option.some.inj hf41
                obtain rfl := hrt1 _ rfl
                obtain rfl := Option.some.inj hf23
                exact ⟨_, res rfl, _, _, rfl, ⟨rfl, rfl⟩, hS11.sel [] rfl (by decide)⟩
              · skip
                have hf42 := bifF hc13 hf40
                clear hf40
                refine EW.skip ?_
                refine thenE_n ?_
                refine EW.seq ?_
                refine EW.region ?_
                iterate 3 refine EL.q rfl rfl rfl (by decide) ?_
                refine EL.nil ?_
                refine thenE_n ?_
                refine EW.seq ?_
                refine EW.seq ?_
                refine EW.region ?_
                iterate 2 refine EL.q rfl rfl rfl (by decide) ?_
                obtain ⟨x20, hx17, hf43⟩ := bnd hf42
                clear hf42
                obtain ⟨ad12, hE12⟩ := EA.of (d := (kEnt 66)) (hS11.now hr1) hx17
                refine EL.rn (rn_ix rfl rfl hE12 Try.underlying35 z32 _) rfl rfl (by decide) ?_
                refine EL.rn (rn_fa rfl Try.underlying32 rfl z3 (by decide) rfl _) rfl rfl (by decide) ?_
                obtain ⟨v13, hA12, hr13⟩ := Ent_at hr1 hE12 hx17
                refine EL.rn (rn_ld rfl Try.underlying3 (by simp) (by simp) (hA12.agr hS11.agr) rfl) rfl rfl (by decide) ?_
                iterate 2 refine EL.q rfl rfl rfl (by decide) ?_
                refine EL.nil ?_
                refine thenE_n ?_
                refine EW.cond rfl (fun hc14 => ?_) (fun hc14 => ?_)
                · skip
                  have hf44 := bifT hc14 hf43
                  clear hf43
                  refine EW.seq ?_
                  refine EW.region ?_
                  refine EL.q rfl rfl rfl (by decide) ?_
                  refine EL.nil ?_
                  refine thenE_n ?_
                  refine EW.ret ?_
                  repeat (first | refine thenE_r ?_ | refine inB_r ?_)
                  obtain rfl := Option.some.inj hf44
                  obtain rfl := hrt1 _ rfl
                  obtain rfl := Option.some.inj hf23
                  exact ⟨_, res rfl, _, _, rfl, ⟨rfl, rfl⟩, hS11.sel [] rfl (by decide)⟩
                · skip
                  have hf45 := bifF hc14 hf43
                  clear hf43
                  refine EW.skip ?_
                  refine thenE_n ?_
                  refine EW.region ?_
                  iterate 3 refine EL.q rfl rfl rfl (by decide) ?_
                  refine EL.nil ?_
                  refine inB_n ?_
                  refine thenE_n ?_
                  refine EW.region ?_
                  iterate 3 refine EL.q rfl rfl rfl (by decide) ?_
                  refine EL.nil ?_
                  obtain rfl := Option.some.inj hf45
                  refine thenE_n ?_
                  exact ⟨((w64 ((w64 (x18 + 1)) + 1)), (w64 (x2 + 1))), [(0, sl v1), (1, vi (w64 ((w64 (x18 + 1)) + 1))), (5, vi (w64 (x2 + 1)))], rfl, ⟨rfl, rfl, rfl, trivial⟩, rfl, hS11.sel [] rfl (by decide)⟩
    · skip
      have hf46 := bifF hc8 hf24
      clear hf24
      refine EW.exit ?_
      repeat (first | refine thenE_x ?_ | refine inB_x ?_ | refine inB_y (by decide) ?_)
      obtain rfl := Option.some.inj hf46
      obtain rfl := hbr1 _ rfl
      refine thenE_n ?_
      exact ⟨[(1, vi x1)], ⟨rfl, trivial⟩, x1, rfl, rfl, hS6.sel [] rfl (by decide)⟩
  · skip
    rintro e w12 ⟨x12, rfl, rfl, hS12⟩
    refine thenE_n ?_
    refine EW.seq ?_
    refine EW.region ?_
    iterate 2 refine EL.q rfl rfl rfl (by decide) ?_
    refine EL.nil ?_
    refine thenE_n ?_
    refine EW.ret ?_
    repeat (first | refine thenE_r ?_ | refine inB_r ?_)
    obtain rfl := Option.some.inj hf23
    exact ⟨_, res rfl, _, _, rfl, ⟨rfl, rfl⟩, hS12.sel [] rfl (by decide)⟩

-- 18 loop.example/g00497/laws.heldCache
set_option maxHeartbeats 4000000 in
set_option maxRecDepth 100000 in
theorem laws_heldCache_ok {k : Nat} {a0 : Cac} {a1 : Int} {r : Int} (hf : laws_heldCache k a0 a1 = some r) {b w : World} {s : Nat → Prop} {v1 : Sv} (hr1 : (kEnt 66).C b (sl v1) a0.l) (hS : St b w s [] w) : Calls Try.prog 18 ([.agg #[vi a0.cap, sl v1], vi a1] : List Value).toArray w fun e w' => ∃ v M, e = .returned v ∧ (v = vi r ∧ M = []) ∧ St b w s M w' := by
  rw [laws_heldCache] at hf
  refine calls_of (n := 12) (args := [_, _]) Try.func18 rfl rfl (Nat.le_of_ble_eq_true rfl) ?_
  refine EW.seq ?_
  refine EW.region ?_
  refine SL.box hS rfl (by decide) (fun g1 w1 hS1 => ?_)
  clear hS
  refine EL.q rfl rfl rfl (by decide) ?_
  refine EL.nil ?_
  refine thenE_n ?_
  refine EW.seq ?_
  refine EW.region ?_
  refine EL.rn (rn_fa rfl Try.underlying37 rfl z35 (by decide) rfl _) rfl rfl (by decide) ?_
  refine EL.rn (rn_ld rfl Try.underlying35 (by simp) (by simp) (hS1.a 0 rfl) rfl) rfl rfl (by decide) ?_
  refine EL.q rfl rfl rfl (by decide) ?_
  obtain ⟨x1, hx1, hf1⟩ := bnd hf
  clear hf
  refine SL.call hS1 [_, _] rfl Try.func34 (by kernel_rfl) rfl (by decide) [] (by decide) (L0 := []) rfl (fun b' s hb hw hrd hS => laws_heldEntryS_ok hx1 (hr1.agr hb) hS) (fun v M w2 hΦ hS2 => ?_)
  clear hS1
  obtain ⟨rfl, rfl⟩ := hΦ
  refine EL.q rfl rfl rfl (by decide) ?_
  refine EL.nil ?_
  refine thenE_n ?_
  refine EW.seq ?_
  refine EW.seq ?_
  refine EW.region ?_
  iterate 2 refine EL.q rfl rfl rfl (by decide) ?_
  refine EL.nil ?_
  refine thenE_n ?_
  refine EW.cond rfl (fun hc1 => ?_) (fun hc1 => ?_)
  · skip
    have hf2 := bifT hc1 hf1
    clear hf1
    refine EW.seq ?_
    refine EW.region ?_
    refine EL.q rfl rfl rfl (by decide) ?_
    refine EL.nil ?_
    refine thenE_n ?_
    refine EW.ret ?_
    repeat (first | refine thenE_r ?_ | refine inB_r ?_)
    obtain rfl := Option.some.inj hf2
    exact ⟨_, res rfl, _, _, rfl, ⟨rfl, rfl⟩, hS2.sel [] rfl (by decide)⟩
  · skip
    have hf3 := bifF hc1 hf1
    clear hf1
    refine EW.skip ?_
    refine thenE_n ?_
    refine EW.seq ?_
    refine EW.region ?_
    iterate 2 refine EL.q rfl rfl rfl (by decide) ?_
    refine EL.nil ?_
    refine thenE_n ?_
    refine EW.ret ?_
    repeat (first | refine thenE_r ?_ | refine inB_r ?_)
    obtain rfl := Option.some.inj hf3
    exact ⟨_, res rfl, _, _, rfl, ⟨rfl, rfl⟩, hS2.sel [] rfl (by decide)⟩
end Go.Proofs.Ytcolndejambcmaa.Ew
