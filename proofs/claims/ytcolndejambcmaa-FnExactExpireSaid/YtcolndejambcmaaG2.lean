/- The code answers as its pure twin (printed by gen2.py). -/
import Derived.Test.YtcolndejambcmaaF
import Derived.Test.YtcolndejambcmaaY
import Derived.Test.YtcolndejambcmaaG1
namespace Go.Proofs.Ytcolndejambcmaa.Ew
open Go.RowKit Go.Proofs.YtcolndejambcmaaW.PrintWords Go.Proofs.YtcolndejambcmaaW.PrintLast
set_option linter.unusedVariables false
set_option linter.unusedSimpArgs false
-- 24 loop.example/g00497/impl.WithTtl
set_option maxHeartbeats 4000000 in
set_option maxRecDepth 100000 in
theorem impl_WithTtl_ok {k : Nat} {a0 : List Rec} {a1 : Int} {r : List Rec} (hf : impl_WithTtl k a0 a1 = some r) {b w : World} {s : Nat → Prop} {v1 : Sv} (hr1 : kRec.C b (sl v1) a0) (hS : St b w s [] w) : Calls Try.prog 24 ([sl v1, vi a1] : List Value).toArray w fun e w' => ∃ v M, e = .returned v ∧ (∃ u1 : Sv, v = sl u1 ∧ M = [.row kRec 66 (sl u1) r]) ∧ St b w s M w' := by
  rw [impl_WithTtl] at hf
  refine calls_of (n := 21) (args := [_, _]) Try.func24 rfl rfl (Nat.le_of_ble_eq_true rfl) ?_
  refine EW.seq ?_
  refine EW.region ?_
  refine EL.q rfl rfl rfl (by decide) ?_
  refine EL.nil ?_
  refine thenE_n ?_
  refine EW.seq ?_
  refine EW.region ?_
  refine EL.q rfl rfl rfl (by decide) ?_
  obtain ⟨x1, hx1, hf1⟩ := bnd hf
  clear hf
  refine SL.call hS [_] rfl Try.func38 (by kernel_rfl) rfl (by decide) [] (by decide) (L0 := []) rfl (fun b' s hb hw hrd hS => slices_Clone_Record_ok hx1 (hr1.agr hb) hS) (fun v M w1 hΦ hS1 => ?_)
  clear hS
  obtain ⟨v2, rfl, rfl⟩ := hΦ
  refine EL.q rfl rfl rfl (by decide) ?_
  refine EL.nil ?_
  refine thenE_n ?_
  refine EW.seq ?_
  refine EW.seq ?_
  refine EW.region ?_
  refine EL.q rfl rfl rfl (by decide) ?_
  refine EL.rn (rn_len rfl (K2.C.sl (d := kRec) (hS1.c 0 rfl)) Try.underlying30 _) rfl rfl (by decide) ?_
  refine EL.q rfl rfl rfl (by decide) ?_
  refine EL.nil ?_
  refine thenE_n ?_
  obtain ⟨o1, hx3, hf5⟩ := bnd hf1
  clear hf1
  refine EW.cut (fun e W => ∃ x6 : List Rec, o1 = .brk x6 ∧ e = [(5, sl v2)] ∧ St b w s [.row kRec 66 (sl v2) x6] W) ?_ ?_
  · skip
    refine EW.block ?_
    refine EW.loopP hx3 (fun (x : (List Rec) × Int) e W => match x with | (x2, x3) => e = [(1, vi a1), (5, sl v2), (10, vi (x1.length : Int)), (11, vi x3)] ∧ St b w s [.row kRec 66 (sl v2) x2] W) [(1, vi a1), (5, sl v2), (10, vi (x1.length : Int)), (11, vi 0)] ⟨rfl, rfl, rfl, rfl, trivial⟩ ⟨rfl, hS1.sel [0] rfl (by decide)⟩ ?_
    rintro ⟨x2, x3⟩ e w3 ⟨rfl, hS3⟩ st1 hf6 hbr1 hrt1
    rw [impl_WithTtl_b1] at hf6
    refine EW.seq ?_
    refine EW.region ?_
    refine EL.q rfl rfl rfl (by decide) ?_
    refine EL.nil ?_
    refine thenE_n ?_
    refine EW.seq ?_
    refine EW.cond rfl (fun hc2 => ?_) (fun hc2 => ?_)
    · skip
      have hf7 := bifT hc2 hf6
      clear hf6
      refine EW.skip ?_
      refine thenE_n ?_
      refine EW.seq ?_
      refine EW.block ?_
      refine EW.seq ?_
      refine EW.region ?_
      iterate 2 refine EL.q rfl rfl rfl (by decide) ?_
      refine EL.nil ?_
      refine thenE_n ?_
      refine EW.region ?_
      iterate 3 refine EL.q rfl rfl rfl (by decide) ?_
      obtain ⟨x7, hx4, hf8⟩ := bnd hf7
      clear hf7
      obtain ⟨ad2, hE2⟩ := EA.of (d := kRec) (hS3.c 0 rfl) hx4
      refine EL.rn (rn_ix rfl rfl hE2 Try.underlying30 z66 _) rfl rfl (by decide) ?_
      refine EL.rn (rn_fa rfl Try.underlying66 rfl z3 (by decide) rfl _) rfl rfl (by decide) ?_
      refine SL.sto hS3 0 rfl ({ x7 with ttl := a1 }) rfl rfl [vi a1] rfl z3 rfl hE2 hx4 (Nat.le_of_ble_eq_true rfl) (fun w s cs h => by rw [Rec_M h]; exact Rec_Mk _ _ _) (fun w4 hS4 => ?_)
      clear hS3
      refine EL.nil ?_
      refine inB_n ?_
      refine thenE_n ?_
      refine EW.region ?_
      iterate 2 refine EL.q rfl rfl rfl (by decide) ?_
      refine EL.nil ?_
      obtain rfl := Option.some.inj hf8
      refine thenE_n ?_
      exact ⟨((x2.set (x3).toNat ({ x7 with ttl := a1 })), (w64 (x3 + 1))), [(1, vi a1), (5, sl v2), (10, vi (x1.length : Int)), (11, vi (w64 (x3 + 1)))], rfl, ⟨rfl, rfl, rfl, rfl, trivial⟩, rfl, hS4.sel [0] rfl (by decide)⟩
    · skip
      have hf9 := bifF hc2 hf6
      clear hf6
      refine EW.exit ?_
      repeat (first | refine thenE_x ?_ | refine inB_x ?_ | refine inB_y (by decide) ?_)
      obtain rfl := Option.some.inj hf9
      obtain rfl := hbr1 _ rfl
      refine thenE_n ?_
      exact ⟨[(5, sl v2)], ⟨rfl, trivial⟩, x2, rfl, rfl, hS3.sel [0] rfl (by decide)⟩
  · skip
    rintro e w5 ⟨x6, rfl, rfl, hS5⟩
    refine thenE_n ?_
    refine EW.seq ?_
    refine EW.region ?_
    iterate 2 refine EL.q rfl rfl rfl (by decide) ?_
    refine EL.nil ?_
    refine thenE_n ?_
    refine EW.ret ?_
    repeat (first | refine thenE_r ?_ | refine inB_r ?_)
    obtain rfl := Option.some.inj hf5
    exact ⟨_, res rfl, _, _, rfl, ⟨v2, rfl, rfl⟩, hS5.sel [0] rfl (by decide)⟩

-- 10 loop.example/g00497/impl.Look
set_option maxHeartbeats 4000000 in
set_option maxRecDepth 100000 in
theorem impl_Look_ok {k : Nat} {a0 : Cac} {a1 : Int} {a2 : Que} {a3 : Int} {r : Ent × Bool} (hf : impl_Look k a0 a1 a2 a3 = some r) {b w : World} {s : Nat → Prop} {v1 : Sv} (hr1 : (kEnt 66).C b (sl v1) a0.l) (hS : St b w s [] w) : Calls Try.prog 10 ([.agg #[vi a0.cap, sl v1], vi a1, .agg #[str a2.name, vi a2.ty], vi a3] : List Value).toArray w fun e w' => ∃ v M, e = .returned v ∧ (∃ u1 : Sv, v = .tuple #[.agg #[str r.1.q.name, vi r.1.q.ty, vi r.1.kind, sl u1, vi r.1.rank, vi r.1.till], vt r.2] ∧ M = [.row kRec 66 (sl u1) r.1.l]) ∧ St b w s M w' := by
  rw [impl_Look] at hf
  refine calls_of (n := 54) (args := [_, _, _, _]) Try.func10 rfl rfl (Nat.le_of_ble_eq_true rfl) ?_
  refine EW.seq ?_
  refine EW.region ?_
  refine SL.box hS rfl (by decide) (fun g1 w1 hS1 => ?_)
  clear hS
  refine SL.box hS1 rfl (by decide) (fun g2 w2 hS2 => ?_)
  clear hS1
  refine SL.alloc hS2 i32 (by decide) (fun g3 w3 hS3 => ?_)
  clear hS2
  refine EL.q rfl rfl rfl (by decide) ?_
  refine EL.nil ?_
  refine thenE_n ?_
  refine EW.seq ?_
  refine EW.seq ?_
  refine EW.region ?_
  refine EL.rn (rn_fa rfl Try.underlying37 rfl z35 (by decide) rfl _) rfl rfl (by decide) ?_
  refine EL.rn (rn_ld rfl Try.underlying35 (by simp) (by simp) (hS3.a 0 rfl) rfl) rfl rfl (by decide) ?_
  refine EL.rn (rn_len rfl (K2.C.sl (d := (kEnt 66)) (hS3.now hr1)) Try.underlying35 _) rfl rfl (by decide) ?_
  refine EL.q rfl rfl rfl (by decide) ?_
  refine EL.nil ?_
  refine thenE_n ?_
  obtain ⟨o1, hx3, hf7⟩ := bnd hf
  clear hf
  refine EW.cut (fun e W => o1 = .brk () ∧ e = [(8, ptr (at0 g3) 0)] ∧ St b w s [.blk g3 32 #[str [], vi 0, vi 0, .slice none 0 0, vi 0, vi 0]] W) ?_ ?_
  · skip
    refine EW.block ?_
    refine EW.loopP hx3 (fun (x : Int) e W => match x with | x1 => e = [(1, vi a1), (3, vi a3), (6, ptr (at0 g2) 0), (8, ptr (at0 g3) 0), (14, sl v1), (15, vi (a0.l.length : Int)), (16, vi x1)] ∧ St b w s [.blk g2 29 #[str a2.name, vi a2.ty], .blk g3 32 #[str [], vi 0, vi 0, .slice none 0 0, vi 0, vi 0]] W) [(1, vi a1), (3, vi a3), (6, ptr (at0 g2) 0), (8, ptr (at0 g3) 0), (14, sl v1), (15, vi (a0.l.length : Int)), (16, vi 0)] ⟨rfl, rfl, rfl, rfl, rfl, rfl, rfl, trivial⟩ ⟨rfl, hS3.sel [1, 2] rfl (by decide)⟩ ?_
    rintro x1 e w12 ⟨rfl, hS12⟩ st1 hf8 hbr1 hrt1
    rw [impl_Look_b1] at hf8
    refine EW.seq ?_
    refine EW.region ?_
    refine EL.q rfl rfl rfl (by decide) ?_
    refine EL.nil ?_
    refine thenE_n ?_
    refine EW.seq ?_
    refine EW.cond rfl (fun hc3 => ?_) (fun hc3 => ?_)
    · skip
      have hf9 := bifT hc3 hf8
      clear hf8
      refine EW.skip ?_
      refine thenE_n ?_
      refine EW.seq ?_
      refine EW.block ?_
      refine EW.seq ?_
      refine EW.region ?_
      obtain ⟨x10, hx4, hf10⟩ := bnd hf9
      clear hf9
      obtain ⟨ad2, hE2⟩ := EA.of (d := (kEnt 66)) (hS12.now hr1) hx4
      refine EL.rn (rn_ix rfl rfl hE2 Try.underlying35 z32 _) rfl rfl (by decide) ?_
      obtain ⟨v4, hA2, hr3⟩ := Ent_at hr1 hE2 hx4
      refine EL.rn (rn_lds (m := 6) [str x10.q.name, vi x10.q.ty, vi x10.kind, sl v4, vi x10.rank, vi x10.till] rfl Try.underlying32 (hA2.agr hS12.agr) rfl z32) rfl rfl (by decide) ?_
      refine SL.alloc hS12 i32 (by decide) (fun g5 w13 hS13 => ?_)
      clear hS12
      refine SL.stb hS13 2 rfl rfl rfl [str x10.q.name, vi x10.q.ty, vi x10.kind, sl v4, vi x10.rank, vi x10.till] rfl z32 rfl (Nat.le_of_ble_eq_true rfl) #[str x10.q.name, vi x10.q.ty, vi x10.kind, sl v4, vi x10.rank, vi x10.till] rfl (fun w14 hS14 => ?_)
      clear hS13
      refine EL.nil ?_
      refine thenE_n ?_
      refine EW.seq ?_
      refine EW.seq ?_
      obtain ⟨x12, hx5, hf11⟩ := bnd hf10
      clear hf10
      refine EW.cut (fun e W => e = [(1, vi a1), (3, vi a3), (6, ptr (at0 g2) 0), (8, ptr (at0 g3) 0), (11, ptr (at0 g5) 0), (14, sl v1), (15, vi (a0.l.length : Int)), (16, vi x1), (35, vt x12)] ∧ St b w s [.blk g2 29 #[str a2.name, vi a2.ty], .blk g3 32 #[str [], vi 0, vi 0, .slice none 0 0, vi 0, vi 0], .blk g5 32 #[str x10.q.name, vi x10.q.ty, vi x10.kind, sl v4, vi x10.rank, vi x10.till]] W) ?_ ?_
      · skip
        refine EW.region ?_
        refine EL.rn (rn_fa rfl Try.underlying32 rfl z29 (by decide) rfl _) rfl rfl (by decide) ?_
        refine EL.rn (rn_lds (m := 2) [str x10.q.name, vi x10.q.ty] rfl Try.underlying29 (hS14.a 2 rfl) rfl z29) rfl rfl (by decide) ?_
        refine EL.rn (rn_lds (m := 2) [str a2.name, vi a2.ty] rfl Try.underlying29 (hS14.a 0 rfl) rfl z29) rfl rfl (by decide) ?_
        refine EL.rn (rn_ane rfl rfl (by kernel_rfl) (Que_eq29 x10.q a2) _) rfl rfl (by decide) ?_
        refine EL.q rfl rfl rfl (by decide) ?_
        refine EL.split (t := 24) rfl (fun hc4 => ?_) (fun hc4 => ?_)
        · skip
          have hf12 := bifT hc4 hx5
          clear hx5
          refine EL.pass rfl rfl (by decide) (by decide) (by decide) ?_
          refine EL.pass rfl rfl (by decide) (by decide) (by decide) ?_
          refine EL.pass rfl rfl (by decide) (by decide) (by decide) ?_
          refine EL.pass rfl rfl (by decide) (by decide) (by decide) ?_
          refine EL.rn (rn_pickT rfl rfl _) rfl rfl (by decide) ?_
          refine EL.q rfl rfl rfl (by decide) ?_
          refine EL.pass rfl rfl (by decide) (by decide) (by decide) ?_
          refine EL.pass rfl rfl (by decide) (by decide) (by decide) ?_
          refine EL.pass rfl rfl (by decide) (by decide) (by decide) ?_
          refine EL.pass rfl rfl (by decide) (by decide) (by decide) ?_
          refine EL.rn (rn_pickT rfl rfl _) rfl rfl (by decide) ?_
          refine EL.nil ?_
          cases hf12
          refine thenE_n ?_
          exact ⟨[(1, vi a1), (3, vi a3), (6, ptr (at0 g2) 0), (8, ptr (at0 g3) 0), (11, ptr (at0 g5) 0), (14, sl v1), (15, vi (a0.l.length : Int)), (16, vi x1), (35, vt true)], ⟨rfl, rfl, rfl, rfl, rfl, rfl, rfl, rfl, rfl, trivial⟩, rfl, hS14.sel [0, 1, 2] rfl (by decide)⟩
        · skip
          have hf13 := bifF hc4 hx5
          clear hx5
          refine EL.ungate rfl rfl (by decide) ?_
          refine EL.rn (rn_fa rfl Try.underlying32 rfl z3 (by decide) rfl _) rfl rfl (by decide) ?_
          refine EL.ungate rfl rfl (by decide) ?_
          refine EL.rn (rn_ld rfl Try.underlying3 (by simp) (by simp) (hS14.a 2 rfl) rfl) rfl rfl (by decide) ?_
          refine EL.ungate rfl rfl (by decide) ?_
          refine EL.q rfl rfl rfl (by decide) ?_
          refine EL.ungate rfl rfl (by decide) ?_
          refine EL.q rfl rfl rfl (by decide) ?_
          refine EL.rn (rn_pickF rfl rfl _) rfl rfl (by decide) ?_
          refine EL.q rfl rfl rfl (by decide) ?_
          refine EL.split (t := 30) rfl (fun hc5 => ?_) (fun hc5 => ?_)
          · skip
            have hf14 := bifT hc5 hf13
            clear hf13
            refine EL.pass rfl rfl (by decide) (by decide) (by decide) ?_
            refine EL.pass rfl rfl (by decide) (by decide) (by decide) ?_
            refine EL.pass rfl rfl (by decide) (by decide) (by decide) ?_
            refine EL.pass rfl rfl (by decide) (by decide) (by decide) ?_
            refine EL.rn (rn_pickT rfl rfl _) rfl rfl (by decide) ?_
            refine EL.nil ?_
            cases hf14
            refine thenE_n ?_
            exact ⟨[(1, vi a1), (3, vi a3), (6, ptr (at0 g2) 0), (8, ptr (at0 g3) 0), (11, ptr (at0 g5) 0), (14, sl v1), (15, vi (a0.l.length : Int)), (16, vi x1), (35, vt true)], ⟨rfl, rfl, rfl, rfl, rfl, rfl, rfl, rfl, rfl, trivial⟩, rfl, hS14.sel [0, 1, 2] rfl (by decide)⟩
          · skip
            have hf15 := bifF hc5 hf13
            clear hf13
            refine EL.ungate rfl rfl (by decide) ?_
            refine EL.rn (rn_fa rfl Try.underlying32 rfl z3 (by decide) rfl _) rfl rfl (by decide) ?_
            refine EL.ungate rfl rfl (by decide) ?_
            refine EL.rn (rn_ld rfl Try.underlying3 (by simp) (by simp) (hS14.a 2 rfl) rfl) rfl rfl (by decide) ?_
            refine EL.ungate rfl rfl (by decide) ?_
            refine EL.q rfl rfl rfl (by decide) ?_
            refine EL.ungate rfl rfl (by decide) ?_
            refine EL.q rfl rfl rfl (by decide) ?_
            refine EL.rn (rn_pickF rfl rfl _) rfl rfl (by decide) ?_
            refine EL.nil ?_
            cases hf15
            refine thenE_n ?_
            exact ⟨[(1, vi a1), (3, vi a3), (6, ptr (at0 g2) 0), (8, ptr (at0 g3) 0), (11, ptr (at0 g5) 0), (14, sl v1), (15, vi (a0.l.length : Int)), (16, vi x1), (35, vt (decide (x10.till ≤ a1)))], ⟨rfl, rfl, rfl, rfl, rfl, rfl, rfl, rfl, rfl, trivial⟩, rfl, hS14.sel [0, 1, 2] rfl (by decide)⟩
      · skip
        rintro e w15 ⟨rfl, hS15⟩
        refine thenE_n ?_
        refine EW.cond rfl (fun hc6 => ?_) (fun hc6 => ?_)
        · skip
          have hf16 := bifT hc6 hf11
          clear hf11
          refine EW.exit ?_
          repeat (first | refine thenE_x ?_ | refine inB_x ?_ | refine inB_y (by decide) ?_)
          refine thenE_n ?_
          refine EW.region ?_
          iterate 2 refine EL.q rfl rfl rfl (by decide) ?_
          refine EL.nil ?_
          obtain rfl := Option.some.inj hf16
          refine thenE_n ?_
          exact ⟨(w64 (x1 + 1)), [(1, vi a1), (3, vi a3), (6, ptr (at0 g2) 0), (8, ptr (at0 g3) 0), (14, sl v1), (15, vi (a0.l.length : Int)), (16, vi (w64 (x1 + 1)))], rfl, ⟨rfl, rfl, rfl, rfl, rfl, rfl, rfl, trivial⟩, rfl, hS15.sel [0, 1] rfl (by decide)⟩
        · skip
          have hf17 := bifF hc6 hf11
          clear hf11
          refine EW.skip ?_
          refine thenE_n ?_
          refine EW.seq ?_
          refine EW.region ?_
          refine EL.rn (rn_fa rfl Try.underlying32 rfl z3 (by decide) rfl _) rfl rfl (by decide) ?_
          refine EL.rn (rn_ld rfl Try.underlying3 (by simp) (by simp) (hS15.a 2 rfl) rfl) rfl rfl (by decide) ?_
          iterate 3 refine EL.q rfl rfl rfl (by decide) ?_
          refine EL.nil ?_
          refine thenE_n ?_
          refine EW.seq ?_
          refine EW.seq ?_
          obtain ⟨x18, hx6, hf18⟩ := bnd hf17
          clear hf17
          refine EW.cut (fun e W => e = [(8, ptr (at0 g3) 0), (11, ptr (at0 g5) 0), (12, vi (w64 (x10.till - a1))), (45, vt x18)] ∧ St b w s [.blk g3 32 #[str [], vi 0, vi 0, .slice none 0 0, vi 0, vi 0], .blk g5 32 #[str x10.q.name, vi x10.q.ty, vi x10.kind, sl v4, vi x10.rank, vi x10.till]] W) ?_ ?_
          · skip
            refine EW.region ?_
            iterate 3 refine EL.q rfl rfl rfl (by decide) ?_
            refine EL.split (t := 42) rfl (fun hc7 => ?_) (fun hc7 => ?_)
            · skip
              have hf19 := bifT hc7 hx6
              clear hx6
              refine EL.pass rfl rfl (by decide) (by decide) (by decide) ?_
              refine EL.pass rfl rfl (by decide) (by decide) (by decide) ?_
              refine EL.rn (rn_pickT rfl rfl _) rfl rfl (by decide) ?_
              refine EL.nil ?_
              cases hf19
              refine thenE_n ?_
              exact ⟨[(8, ptr (at0 g3) 0), (11, ptr (at0 g5) 0), (12, vi (w64 (x10.till - a1))), (45, vt true)], ⟨rfl, rfl, rfl, rfl, trivial⟩, rfl, hS15.sel [1, 2] rfl (by decide)⟩
            · skip
              have hf20 := bifF hc7 hx6
              clear hx6
              refine EL.ungate rfl rfl (by decide) ?_
              refine EL.q rfl rfl rfl (by decide) ?_
              refine EL.ungate rfl rfl (by decide) ?_
              refine EL.q rfl rfl rfl (by decide) ?_
              refine EL.rn (rn_pickF rfl rfl _) rfl rfl (by decide) ?_
              refine EL.nil ?_
              cases hf20
              refine thenE_n ?_
              exact ⟨[(8, ptr (at0 g3) 0), (11, ptr (at0 g5) 0), (12, vi (w64 (x10.till - a1))), (45, vt (decide (100000 < (w64 (x10.till - a1)))))], ⟨rfl, rfl, rfl, rfl, trivial⟩, rfl, hS15.sel [1, 2] rfl (by decide)⟩
          · skip
            rintro e w16 ⟨rfl, hS16⟩
            refine thenE_n ?_
            obtain ⟨x22, hx7, hf21⟩ := bnd hf18
            clear hf18
            refine EW.cut (fun e W => e = [(8, ptr (at0 g3) 0), (11, ptr (at0 g5) 0), (12, vi x22)] ∧ St b w s [.blk g3 32 #[str [], vi 0, vi 0, .slice none 0 0, vi 0, vi 0], .blk g5 32 #[str x10.q.name, vi x10.q.ty, vi x10.kind, sl v4, vi x10.rank, vi x10.till]] W) ?_ ?_
            · skip
              refine EW.cond rfl (fun hc8 => ?_) (fun hc8 => ?_)
              · skip
                have hf22 := bifT hc8 hx7
                clear hx7
                refine EW.region ?_
                refine EL.q rfl rfl rfl (by decide) ?_
                refine EL.nil ?_
                cases hf22
                refine thenE_n ?_
                exact ⟨[(8, ptr (at0 g3) 0), (11, ptr (at0 g5) 0), (12, vi 100000)], ⟨rfl, rfl, rfl, trivial⟩, rfl, hS16.sel [0, 1] rfl (by decide)⟩
              · skip
                have hf23 := bifF hc8 hx7
                clear hx7
                refine EW.skip ?_
                cases hf23
                refine thenE_n ?_
                exact ⟨[(8, ptr (at0 g3) 0), (11, ptr (at0 g5) 0), (12, vi (w64 (x10.till - a1)))], ⟨rfl, rfl, rfl, trivial⟩, rfl, hS16.sel [0, 1] rfl (by decide)⟩
            · skip
              rintro e w17 ⟨rfl, hS17⟩
              refine thenE_n ?_
              refine EW.seq ?_
              refine EW.region ?_
              refine EL.rn (rn_fa rfl Try.underlying32 rfl z30 (by decide) rfl _) rfl rfl (by decide) ?_
              refine EL.rn (rn_ld rfl Try.underlying30 (by simp) (by simp) (hS17.a 1 rfl) rfl) rfl rfl (by decide) ?_
              refine EL.q rfl rfl rfl (by decide) ?_
              obtain ⟨x25, hx8, hf24⟩ := bnd hf21
              clear hf21
              refine SL.call hS17 [_, _] rfl Try.func24 (by kernel_rfl) rfl (by decide) [] (by decide) (L0 := []) rfl (fun b' s hb hw hrd hS => impl_WithTtl_ok hx8 (hr3.agr hb) hS) (fun v M w18 hΦ hS18 => ?_)
              clear hS17
              obtain ⟨v5, rfl, rfl⟩ := hΦ
              refine EL.rn (rn_fa rfl Try.underlying32 rfl z30 (by decide) rfl _) rfl rfl (by decide) ?_
              refine SL.stb hS18 1 rfl rfl rfl [sl v5] rfl z30 rfl (Nat.le_of_ble_eq_true rfl) #[str x10.q.name, vi x10.q.ty, vi x10.kind, sl v5, vi x10.rank, vi x10.till] rfl (fun w19 hS19 => ?_)
              clear hS18
              refine EL.nil ?_
              refine thenE_n ?_
              refine EW.seq ?_
              refine EW.region ?_
              refine EL.rn (rn_lds (m := 6) [str x10.q.name, vi x10.q.ty, vi x10.kind, sl v5, vi x10.rank, vi x10.till] rfl Try.underlying32 (hS19.a 1 rfl) rfl z32) rfl rfl (by decide) ?_
              refine SL.stb hS19 0 rfl rfl rfl [str x10.q.name, vi x10.q.ty, vi x10.kind, sl v5, vi x10.rank, vi x10.till] rfl z32 rfl (Nat.le_of_ble_eq_true rfl) #[str x10.q.name, vi x10.q.ty, vi x10.kind, sl v5, vi x10.rank, vi x10.till] rfl (fun w20 hS20 => ?_)
              clear hS19
              refine EL.q rfl rfl rfl (by decide) ?_
              refine EL.nil ?_
              refine thenE_n ?_
              refine EW.ret ?_
              repeat (first | refine thenE_r ?_ | refine inB_r ?_)
              obtain rfl := Option.some.inj hf24
              obtain rfl := hrt1 _ rfl
              obtain rfl := Option.some.inj hf7
              exact ⟨_, resn rfl (by simp) (.cell rfl (hS20.blk 0 rfl) Try.underlying32 z32 (.tmp rfl .nil)), _, _, rfl, ⟨v5, rfl, rfl⟩, hS20.sel [2] rfl (by decide)⟩
    · skip
      have hf25 := bifF hc3 hf8
      clear hf8
      refine EW.exit ?_
      repeat (first | refine thenE_x ?_ | refine inB_x ?_ | refine inB_y (by decide) ?_)
      obtain rfl := Option.some.inj hf25
      obtain rfl := hbr1 _ rfl
      refine thenE_n ?_
      exact ⟨[(8, ptr (at0 g3) 0)], ⟨rfl, trivial⟩, rfl, rfl, hS12.sel [1] rfl (by decide)⟩
  · skip
    rintro e w21 ⟨rfl, rfl, hS21⟩
    refine thenE_n ?_
    refine EW.seq ?_
    refine EW.region ?_
    refine EL.rn (rn_bld (cs := #[str [], vi 0, vi 0, .slice none 0 0, vi 0, vi 0]) [] rfl Try.underlying32 i32 p32 q32 rfl _) rfl rfl (by decide) ?_
    refine SL.stb hS21 0 rfl rfl rfl [str [], vi 0, vi 0, .slice none 0 0, vi 0, vi 0] rfl z32 rfl (Nat.le_of_ble_eq_true rfl) #[str [], vi 0, vi 0, .slice none 0 0, vi 0, vi 0] rfl (fun w22 hS22 => ?_)
    clear hS21
    refine EL.q rfl rfl rfl (by decide) ?_
    refine EL.nil ?_
    refine thenE_n ?_
    refine EW.ret ?_
    repeat (first | refine thenE_r ?_ | refine inB_r ?_)
    have hS23 := hS22.nilrow kRec 66
    obtain rfl := Option.some.inj hf7
    exact ⟨_, resn rfl (by simp) (.cell rfl (hS23.blk 0 rfl) Try.underlying32 z32 (.tmp rfl .nil)), _, _, rfl, ⟨(none, 0, 0), rfl, rfl⟩, hS23.sel [1] rfl (by decide)⟩

-- 25 loop.example/g00497/laws.eqQuest
set_option maxHeartbeats 4000000 in
set_option maxRecDepth 100000 in
theorem laws_eqQuest_ok {a0 : Que} {a1 : Que} {r : Bool} (hf : laws_eqQuest a0 a1 = some r) {b w : World} {s : Nat → Prop} (hS : St b w s [] w) : Calls Try.prog 25 ([.agg #[str a0.name, vi a0.ty], .agg #[str a1.name, vi a1.ty]] : List Value).toArray w fun e w' => ∃ v M, e = .returned v ∧ (v = vt r ∧ M = []) ∧ St b w s M w' := by
  rw [laws_eqQuest] at hf
  refine calls_of (n := 15) (args := [_, _]) Try.func25 rfl rfl (Nat.le_of_ble_eq_true rfl) ?_
  refine EW.seq ?_
  refine EW.region ?_
  refine SL.box hS rfl (by decide) (fun g1 w1 hS1 => ?_)
  clear hS
  refine SL.box hS1 rfl (by decide) (fun g2 w2 hS2 => ?_)
  clear hS1
  refine EL.q rfl rfl rfl (by decide) ?_
  refine EL.nil ?_
  refine thenE_n ?_
  refine EW.seq ?_
  refine EW.seq ?_
  refine EW.region ?_
  refine EL.rn (rn_fa rfl Try.underlying29 rfl z9 (by decide) rfl _) rfl rfl (by decide) ?_
  refine EL.rn (rn_ld rfl Try.underlying9 (by simp) (by simp) (hS2.a 0 rfl) rfl) rfl rfl (by decide) ?_
  refine EL.rn (rn_fa rfl Try.underlying29 rfl z9 (by decide) rfl _) rfl rfl (by decide) ?_
  refine EL.rn (rn_ld rfl Try.underlying9 (by simp) (by simp) (hS2.a 1 rfl) rfl) rfl rfl (by decide) ?_
  refine EL.rn (rn_sne (p := a0.name) (q := a1.name) rfl rfl _) rfl rfl (by decide) ?_
  refine EL.nil ?_
  refine thenE_n ?_
  refine EW.cond rfl (fun hc1 => ?_) (fun hc1 => ?_)
  · skip
    have hf1 := bifT hc1 hf
    clear hf
    refine EW.seq ?_
    refine EW.region ?_
    refine EL.q rfl rfl rfl (by decide) ?_
    refine EL.nil ?_
    refine thenE_n ?_
    refine EW.ret ?_
    repeat (first | refine thenE_r ?_ | refine inB_r ?_)
    obtain rfl := Option.some.inj hf1
    exact ⟨_, res rfl, _, _, rfl, ⟨rfl, rfl⟩, hS2.sel [] rfl (by decide)⟩
  · skip
    have hf2 := bifF hc1 hf
    clear hf
    refine EW.skip ?_
    refine thenE_n ?_
    refine EW.seq ?_
    refine EW.seq ?_
    refine EW.region ?_
    refine EL.rn (rn_fa rfl Try.underlying29 rfl z3 (by decide) rfl _) rfl rfl (by decide) ?_
    refine EL.rn (rn_ld rfl Try.underlying3 (by simp) (by simp) (hS2.a 0 rfl) rfl) rfl rfl (by decide) ?_
    refine EL.rn (rn_fa rfl Try.underlying29 rfl z3 (by decide) rfl _) rfl rfl (by decide) ?_
    refine EL.rn (rn_ld rfl Try.underlying3 (by simp) (by simp) (hS2.a 1 rfl) rfl) rfl rfl (by decide) ?_
    refine EL.q rfl rfl rfl (by decide) ?_
    refine EL.nil ?_
    refine thenE_n ?_
    refine EW.cond rfl (fun hc2 => ?_) (fun hc2 => ?_)
    · skip
      have hf3 := bifT hc2 hf2
      clear hf2
      refine EW.seq ?_
      refine EW.region ?_
      refine EL.q rfl rfl rfl (by decide) ?_
      refine EL.nil ?_
      refine thenE_n ?_
      refine EW.ret ?_
      repeat (first | refine thenE_r ?_ | refine inB_r ?_)
      obtain rfl := Option.some.inj hf3
      exact ⟨_, res rfl, _, _, rfl, ⟨rfl, rfl⟩, hS2.sel [] rfl (by decide)⟩
    · skip
      have hf4 := bifF hc2 hf2
      clear hf2
      refine EW.skip ?_
      refine thenE_n ?_
      refine EW.seq ?_
      refine EW.region ?_
      refine EL.q rfl rfl rfl (by decide) ?_
      refine EL.nil ?_
      refine thenE_n ?_
      refine EW.ret ?_
      repeat (first | refine thenE_r ?_ | refine inB_r ?_)
      obtain rfl := Option.some.inj hf4
      exact ⟨_, res rfl, _, _, rfl, ⟨rfl, rfl⟩, hS2.sel [] rfl (by decide)⟩

-- 39 loop.example/g00497/laws.eqRecord
set_option maxHeartbeats 4000000 in
set_option maxRecDepth 100000 in
theorem laws_eqRecord_ok {a0 : Rec} {a1 : Rec} {r : Bool} (hf : laws_eqRecord a0 a1 = some r) {b w : World} {s : Nat → Prop} (hS : St b w s [] w) : Calls Try.prog 39 ([.agg #[str a0.name, vi a0.ty, vi a0.ttl, vi a0.num, str a0.host, str a0.text], .agg #[str a1.name, vi a1.ty, vi a1.ttl, vi a1.num, str a1.host, str a1.text]] : List Value).toArray w fun e w' => ∃ v M, e = .returned v ∧ (v = vt r ∧ M = []) ∧ St b w s M w' := by
  rw [laws_eqRecord] at hf
  refine calls_of (n := 35) (args := [_, _]) Try.func39 rfl rfl (Nat.le_of_ble_eq_true rfl) ?_
  refine EW.seq ?_
  refine EW.region ?_
  refine SL.box hS rfl (by decide) (fun g1 w1 hS1 => ?_)
  clear hS
  refine SL.box hS1 rfl (by decide) (fun g2 w2 hS2 => ?_)
  clear hS1
  refine EL.q rfl rfl rfl (by decide) ?_
  refine EL.nil ?_
  refine thenE_n ?_
  refine EW.seq ?_
  refine EW.seq ?_
  refine EW.region ?_
  refine EL.rn (rn_fa rfl Try.underlying66 rfl z9 (by decide) rfl _) rfl rfl (by decide) ?_
  refine EL.rn (rn_ld rfl Try.underlying9 (by simp) (by simp) (hS2.a 0 rfl) rfl) rfl rfl (by decide) ?_
  refine EL.rn (rn_fa rfl Try.underlying66 rfl z9 (by decide) rfl _) rfl rfl (by decide) ?_
  refine EL.rn (rn_ld rfl Try.underlying9 (by simp) (by simp) (hS2.a 1 rfl) rfl) rfl rfl (by decide) ?_
  refine EL.rn (rn_sne (p := a0.name) (q := a1.name) rfl rfl _) rfl rfl (by decide) ?_
  refine EL.nil ?_
  refine thenE_n ?_
  refine EW.cond rfl (fun hc1 => ?_) (fun hc1 => ?_)
  · skip
    have hf1 := bifT hc1 hf
    clear hf
    refine EW.seq ?_
    refine EW.region ?_
    refine EL.q rfl rfl rfl (by decide) ?_
    refine EL.nil ?_
    refine thenE_n ?_
    refine EW.ret ?_
    repeat (first | refine thenE_r ?_ | refine inB_r ?_)
    obtain rfl := Option.some.inj hf1
    exact ⟨_, res rfl, _, _, rfl, ⟨rfl, rfl⟩, hS2.sel [] rfl (by decide)⟩
  · skip
    have hf2 := bifF hc1 hf
    clear hf
    refine EW.skip ?_
    refine thenE_n ?_
    refine EW.seq ?_
    refine EW.seq ?_
    refine EW.region ?_
    refine EL.rn (rn_fa rfl Try.underlying66 rfl z3 (by decide) rfl _) rfl rfl (by decide) ?_
    refine EL.rn (rn_ld rfl Try.underlying3 (by simp) (by simp) (hS2.a 0 rfl) rfl) rfl rfl (by decide) ?_
    refine EL.rn (rn_fa rfl Try.underlying66 rfl z3 (by decide) rfl _) rfl rfl (by decide) ?_
    refine EL.rn (rn_ld rfl Try.underlying3 (by simp) (by simp) (hS2.a 1 rfl) rfl) rfl rfl (by decide) ?_
    refine EL.q rfl rfl rfl (by decide) ?_
    refine EL.nil ?_
    refine thenE_n ?_
    refine EW.cond rfl (fun hc2 => ?_) (fun hc2 => ?_)
    · skip
      have hf3 := bifT hc2 hf2
      clear hf2
      refine EW.seq ?_
      refine EW.region ?_
      refine EL.q rfl rfl rfl (by decide) ?_
      refine EL.nil ?_
      refine thenE_n ?_
      refine EW.ret ?_
      repeat (first | refine thenE_r ?_ | refine inB_r ?_)
      obtain rfl := Option.some.inj hf3
      exact ⟨_, res rfl, _, _, rfl, ⟨rfl, rfl⟩, hS2.sel [] rfl (by decide)⟩
    · skip
      have hf4 := bifF hc2 hf2
      clear hf2
      refine EW.skip ?_
      refine thenE_n ?_
      refine EW.seq ?_
      refine EW.seq ?_
      refine EW.region ?_
      refine EL.rn (rn_fa rfl Try.underlying66 rfl z3 (by decide) rfl _) rfl rfl (by decide) ?_
      refine EL.rn (rn_ld rfl Try.underlying3 (by simp) (by simp) (hS2.a 0 rfl) rfl) rfl rfl (by decide) ?_
      refine EL.rn (rn_fa rfl Try.underlying66 rfl z3 (by decide) rfl _) rfl rfl (by decide) ?_
      refine EL.rn (rn_ld rfl Try.underlying3 (by simp) (by simp) (hS2.a 1 rfl) rfl) rfl rfl (by decide) ?_
      refine EL.q rfl rfl rfl (by decide) ?_
      refine EL.nil ?_
      refine thenE_n ?_
      refine EW.cond rfl (fun hc3 => ?_) (fun hc3 => ?_)
      · skip
        have hf5 := bifT hc3 hf4
        clear hf4
        refine EW.seq ?_
        refine EW.region ?_
        refine EL.q rfl rfl rfl (by decide) ?_
        refine EL.nil ?_
        refine thenE_n ?_
        refine EW.ret ?_
        repeat (first | refine thenE_r ?_ | refine inB_r ?_)
        obtain rfl := Option.some.inj hf5
        exact ⟨_, res rfl, _, _, rfl, ⟨rfl, rfl⟩, hS2.sel [] rfl (by decide)⟩
      · skip
        have hf6 := bifF hc3 hf4
        clear hf4
        refine EW.skip ?_
        refine thenE_n ?_
        refine EW.seq ?_
        refine EW.seq ?_
        refine EW.region ?_
        refine EL.rn (rn_fa rfl Try.underlying66 rfl z3 (by decide) rfl _) rfl rfl (by decide) ?_
        refine EL.rn (rn_ld rfl Try.underlying3 (by simp) (by simp) (hS2.a 0 rfl) rfl) rfl rfl (by decide) ?_
        refine EL.rn (rn_fa rfl Try.underlying66 rfl z3 (by decide) rfl _) rfl rfl (by decide) ?_
        refine EL.rn (rn_ld rfl Try.underlying3 (by simp) (by simp) (hS2.a 1 rfl) rfl) rfl rfl (by decide) ?_
        refine EL.q rfl rfl rfl (by decide) ?_
        refine EL.nil ?_
        refine thenE_n ?_
        refine EW.cond rfl (fun hc4 => ?_) (fun hc4 => ?_)
        · skip
          have hf7 := bifT hc4 hf6
          clear hf6
          refine EW.seq ?_
          refine EW.region ?_
          refine EL.q rfl rfl rfl (by decide) ?_
          refine EL.nil ?_
          refine thenE_n ?_
          refine EW.ret ?_
          repeat (first | refine thenE_r ?_ | refine inB_r ?_)
          obtain rfl := Option.some.inj hf7
          exact ⟨_, res rfl, _, _, rfl, ⟨rfl, rfl⟩, hS2.sel [] rfl (by decide)⟩
        · skip
          have hf8 := bifF hc4 hf6
          clear hf6
          refine EW.skip ?_
          refine thenE_n ?_
          refine EW.seq ?_
          refine EW.seq ?_
          refine EW.region ?_
          refine EL.rn (rn_fa rfl Try.underlying66 rfl z9 (by decide) rfl _) rfl rfl (by decide) ?_
          refine EL.rn (rn_ld rfl Try.underlying9 (by simp) (by simp) (hS2.a 0 rfl) rfl) rfl rfl (by decide) ?_
          refine EL.rn (rn_fa rfl Try.underlying66 rfl z9 (by decide) rfl _) rfl rfl (by decide) ?_
          refine EL.rn (rn_ld rfl Try.underlying9 (by simp) (by simp) (hS2.a 1 rfl) rfl) rfl rfl (by decide) ?_
          refine EL.rn (rn_sne (p := a0.host) (q := a1.host) rfl rfl _) rfl rfl (by decide) ?_
          refine EL.nil ?_
          refine thenE_n ?_
          refine EW.cond rfl (fun hc5 => ?_) (fun hc5 => ?_)
          · skip
            have hf9 := bifT hc5 hf8
            clear hf8
            refine EW.seq ?_
            refine EW.region ?_
            refine EL.q rfl rfl rfl (by decide) ?_
            refine EL.nil ?_
            refine thenE_n ?_
            refine EW.ret ?_
            repeat (first | refine thenE_r ?_ | refine inB_r ?_)
            obtain rfl := Option.some.inj hf9
            exact ⟨_, res rfl, _, _, rfl, ⟨rfl, rfl⟩, hS2.sel [] rfl (by decide)⟩
          · skip
            have hf10 := bifF hc5 hf8
            clear hf8
            refine EW.skip ?_
            refine thenE_n ?_
            refine EW.seq ?_
            refine EW.seq ?_
            refine EW.region ?_
            refine EL.rn (rn_fa rfl Try.underlying66 rfl z9 (by decide) rfl _) rfl rfl (by decide) ?_
            refine EL.rn (rn_ld rfl Try.underlying9 (by simp) (by simp) (hS2.a 0 rfl) rfl) rfl rfl (by decide) ?_
            refine EL.rn (rn_fa rfl Try.underlying66 rfl z9 (by decide) rfl _) rfl rfl (by decide) ?_
            refine EL.rn (rn_ld rfl Try.underlying9 (by simp) (by simp) (hS2.a 1 rfl) rfl) rfl rfl (by decide) ?_
            refine EL.rn (rn_sne (p := a0.text) (q := a1.text) rfl rfl _) rfl rfl (by decide) ?_
            refine EL.nil ?_
            refine thenE_n ?_
            refine EW.cond rfl (fun hc6 => ?_) (fun hc6 => ?_)
            · skip
              have hf11 := bifT hc6 hf10
              clear hf10
              refine EW.seq ?_
              refine EW.region ?_
              refine EL.q rfl rfl rfl (by decide) ?_
              refine EL.nil ?_
              refine thenE_n ?_
              refine EW.ret ?_
              repeat (first | refine thenE_r ?_ | refine inB_r ?_)
              obtain rfl := Option.some.inj hf11
              exact ⟨_, res rfl, _, _, rfl, ⟨rfl, rfl⟩, hS2.sel [] rfl (by decide)⟩
            · skip
              have hf12 := bifF hc6 hf10
              clear hf10
              refine EW.skip ?_
              refine thenE_n ?_
              refine EW.seq ?_
              refine EW.region ?_
              refine EL.q rfl rfl rfl (by decide) ?_
              refine EL.nil ?_
              refine thenE_n ?_
              refine EW.ret ?_
              repeat (first | refine thenE_r ?_ | refine inB_r ?_)
              obtain rfl := Option.some.inj hf12
              exact ⟨_, res rfl, _, _, rfl, ⟨rfl, rfl⟩, hS2.sel [] rfl (by decide)⟩

-- 26 loop.example/g00497/laws.eqRecordS
set_option maxHeartbeats 4000000 in
set_option maxRecDepth 100000 in
theorem laws_eqRecordS_ok {k : Nat} {a0 : List Rec} {a1 : List Rec} {r : Bool} (hf : laws_eqRecordS k a0 a1 = some r) {b w : World} {s : Nat → Prop} {v1 : Sv} {v2 : Sv} (hr1 : kRec.C b (sl v1) a0) (hr2 : kRec.C b (sl v2) a1) (hS : St b w s [] w) : Calls Try.prog 26 ([sl v1, sl v2] : List Value).toArray w fun e w' => ∃ v M, e = .returned v ∧ (v = vt r ∧ M = []) ∧ St b w s M w' := by
  rw [laws_eqRecordS] at hf
  refine calls_of (n := 27) (args := [_, _]) Try.func26 rfl rfl (Nat.le_of_ble_eq_true rfl) ?_
  refine EW.seq ?_
  refine EW.region ?_
  refine EL.q rfl rfl rfl (by decide) ?_
  refine EL.nil ?_
  refine thenE_n ?_
  refine EW.seq ?_
  refine EW.seq ?_
  refine EW.region ?_
  refine EL.q rfl rfl rfl (by decide) ?_
  refine EL.rn (rn_len rfl (K2.C.sl (d := kRec) (hS.now hr1)) Try.underlying30 _) rfl rfl (by decide) ?_
  refine EL.q rfl rfl rfl (by decide) ?_
  refine EL.rn (rn_len rfl (K2.C.sl (d := kRec) (hS.now hr2)) Try.underlying30 _) rfl rfl (by decide) ?_
  refine EL.q rfl rfl rfl (by decide) ?_
  refine EL.nil ?_
  refine thenE_n ?_
  refine EW.cond rfl (fun hc1 => ?_) (fun hc1 => ?_)
  · skip
    have hf1 := bifT hc1 hf
    clear hf
    refine EW.seq ?_
    refine EW.region ?_
    refine EL.q rfl rfl rfl (by decide) ?_
    refine EL.nil ?_
    refine thenE_n ?_
    refine EW.ret ?_
    repeat (first | refine thenE_r ?_ | refine inB_r ?_)
    obtain rfl := Option.some.inj hf1
    exact ⟨_, res rfl, _, _, rfl, ⟨rfl, rfl⟩, hS.sel [] rfl (by decide)⟩
  · skip
    have hf2 := bifF hc1 hf
    clear hf
    refine EW.skip ?_
    refine thenE_n ?_
    refine EW.seq ?_
    refine EW.seq ?_
    refine EW.region ?_
    refine EL.q rfl rfl rfl (by decide) ?_
    refine EL.nil ?_
    refine thenE_n ?_
    obtain ⟨o1, hx4, hf10⟩ := bnd hf2
    clear hf2
    refine EW.cut (fun e W => o1 = .brk () ∧ e = [] ∧ St b w s [] W) ?_ ?_
    · skip
      refine EW.block ?_
      refine EW.loopP hx4 (fun (x : Int) e W => match x with | x1 => e = [(0, sl v1), (1, sl v2), (5, vi x1)] ∧ St b w s [] W) [(0, sl v1), (1, sl v2), (5, vi 0)] ⟨rfl, rfl, rfl, trivial⟩ ⟨rfl, hS.sel [] rfl (by decide)⟩ ?_
      rintro x1 e w5 ⟨rfl, hS5⟩ st1 hf11 hbr1 hrt1
      rw [laws_eqRecordS_b1] at hf11
      refine EW.seq ?_
      refine EW.seq ?_
      refine EW.region ?_
      iterate 2 refine EL.q rfl rfl rfl (by decide) ?_
      refine EL.rn (rn_len rfl (K2.C.sl (d := kRec) (hS5.now hr1)) Try.underlying30 _) rfl rfl (by decide) ?_
      refine EL.q rfl rfl rfl (by decide) ?_
      refine EL.nil ?_
      refine thenE_n ?_
      refine EW.cond rfl (fun hc4 => ?_) (fun hc4 => ?_)
      · skip
        have hf12 := bifT hc4 hf11
        clear hf11
        refine EW.skip ?_
        refine thenE_n ?_
        refine EW.seq ?_
        refine EW.block ?_
        refine EW.seq ?_
        obtain ⟨x5, hx5, hf13⟩ := bnd hf12
        clear hf12
        obtain ⟨ad3, hE3⟩ := EA.of (d := kRec) (hS5.now hr1) hx5
        obtain ⟨x6, hx6, hf14⟩ := bnd hf13
        clear hf13
        obtain ⟨ad4, hE4⟩ := EA.of (d := kRec) (hS5.now hr2) hx6
        obtain ⟨x7, hx7, hf15⟩ := bnd hf14
        clear hf14
        have hS8 := hS5.drew
        refine EW.drawn (m := 10) (fun W => CellsAt W ad3 0 [str x5.name, vi x5.ty, vi x5.ttl, vi x5.num, str x5.host, str x5.text] ∧ CellsAt W ad4 0 [str x6.name, vi x6.ty, vi x6.ttl, vi x6.num, str x6.host, str x6.text] ∧ True) [] (by kernel_rfl) rfl ⟨(Rec_at (hS8.now hr1) hE3 hx5), (Rec_at (hS8.now hr2) hE4 hx6), trivial⟩ ?_
        refine DR.q 0 rfl (fun w' => rn_v rfl w') rfl rfl (by decide) (by kernel_rfl) ?_
        refine DR.q 1 rfl (fun w' => rn_v rfl w') rfl rfl (by decide) (by kernel_rfl) ?_
        refine DR.q 2 rfl (fun w' => rn_ix rfl rfl hE3 Try.underlying30 z66 w') rfl rfl (by decide) (by kernel_rfl) ?_
        refine DR.take 3 rfl (fun w' hw => rn_lds (m := 6) [str x5.name, vi x5.ty, vi x5.ttl, vi x5.num, str x5.host, str x5.text] rfl Try.underlying66 hw.1 rfl z66) rfl rfl (by decide) (by kernel_rfl) ⟨(Rec_at (hS8.now hr1) hE3 hx5), (Rec_at (hS8.now hr2) hE4 hx6), trivial⟩ ?_
        refine DR.q 4 rfl (fun w' => rn_v rfl w') rfl rfl (by decide) (by kernel_rfl) ?_
        refine DR.q 5 rfl (fun w' => rn_v rfl w') rfl rfl (by decide) (by kernel_rfl) ?_
        refine DR.q 6 rfl (fun w' => rn_ix rfl rfl hE4 Try.underlying30 z66 w') rfl rfl (by decide) (by kernel_rfl) ?_
        refine DR.take 7 rfl (fun w' hw => rn_lds (m := 6) [str x6.name, vi x6.ty, vi x6.ttl, vi x6.num, str x6.host, str x6.text] rfl Try.underlying66 hw.2.1 rfl z66) rfl rfl (by decide) (by kernel_rfl) ⟨(Rec_at (hS8.now hr1) hE3 hx5), (Rec_at (hS8.now hr2) hE4 hx6), trivial⟩ ?_
        refine DR.one 8 (by kernel_rfl) rfl ?_
        refine SL.call hS8 [_, _] rfl Try.func39 (by kernel_rfl) rfl (by decide) [] (by decide) (L0 := []) rfl (fun b' s hb hw hrd hS => laws_eqRecord_ok hx7 hS) (fun v M w9 hΦ hS9 => ?_)
        clear hS8
        obtain ⟨rfl, rfl⟩ := hΦ
        refine EL.then_ ⟨(Rec_at (hS9.now hr1) hE3 hx5), (Rec_at (hS9.now hr2) hE4 hx6), trivial⟩ ?_
        refine DR.q 9 rfl (fun w' => rn_v rfl w') rfl rfl (by decide) (by kernel_rfl) ?_
        refine DR.done (by kernel_rfl) ?_
        refine thenE_n ?_
        refine EW.cond rfl (fun hc5 => ?_) (fun hc5 => ?_)
        · skip
          have hf16 := bifT hc5 hf15
          clear hf15
          refine EW.seq ?_
          refine EW.region ?_
          refine EL.q rfl rfl rfl (by decide) ?_
          refine EL.nil ?_
          refine thenE_n ?_
          refine EW.ret ?_
          repeat (first | refine thenE_r ?_ | refine inB_r ?_)
          obtain rfl := Option.some.inj hf16
          obtain rfl := hrt1 _ rfl
          obtain rfl := Option.some.inj hf10
          exact ⟨_, res rfl, _, _, rfl, ⟨rfl, rfl⟩, hS9.sel [] rfl (by decide)⟩
        · skip
          have hf17 := bifF hc5 hf15
          clear hf15
          refine EW.skip ?_
          refine inB_n ?_
          refine thenE_n ?_
          refine EW.region ?_
          iterate 3 refine EL.q rfl rfl rfl (by decide) ?_
          refine EL.nil ?_
          obtain rfl := Option.some.inj hf17
          refine thenE_n ?_
          exact ⟨(w64 (x1 + 1)), [(0, sl v1), (1, sl v2), (5, vi (w64 (x1 + 1)))], rfl, ⟨rfl, rfl, rfl, trivial⟩, rfl, hS9.sel [] rfl (by decide)⟩
      · skip
        have hf18 := bifF hc4 hf11
        clear hf11
        refine EW.exit ?_
        repeat (first | refine thenE_x ?_ | refine inB_x ?_ | refine inB_y (by decide) ?_)
        obtain rfl := Option.some.inj hf18
        obtain rfl := hbr1 _ rfl
        refine thenE_n ?_
        exact ⟨[], trivial, rfl, rfl, hS5.sel [] rfl (by decide)⟩
    · skip
      rintro e w10 ⟨rfl, rfl, hS10⟩
      refine thenE_n ?_
      refine EW.seq ?_
      refine EW.region ?_
      refine EL.q rfl rfl rfl (by decide) ?_
      refine EL.nil ?_
      refine thenE_n ?_
      refine EW.ret ?_
      repeat (first | refine thenE_r ?_ | refine inB_r ?_)
      obtain rfl := Option.some.inj hf10
      exact ⟨_, res rfl, _, _, rfl, ⟨rfl, rfl⟩, hS10.sel [] rfl (by decide)⟩

-- 11 loop.example/g00497/laws.eqEntry
set_option maxHeartbeats 4000000 in
set_option maxRecDepth 100000 in
theorem laws_eqEntry_ok {k : Nat} {a0 : Ent} {a1 : Ent} {r : Bool} (hf : laws_eqEntry k a0 a1 = some r) {b w : World} {s : Nat → Prop} {v1 : Sv} {v2 : Sv} (hr1 : kRec.C b (sl v1) a0.l) (hr2 : kRec.C b (sl v2) a1.l) (hS : St b w s [] w) : Calls Try.prog 11 ([.agg #[str a0.q.name, vi a0.q.ty, vi a0.kind, sl v1, vi a0.rank, vi a0.till], .agg #[str a1.q.name, vi a1.q.ty, vi a1.kind, sl v2, vi a1.rank, vi a1.till]] : List Value).toArray w fun e w' => ∃ v M, e = .returned v ∧ (v = vt r ∧ M = []) ∧ St b w s M w' := by
  rw [laws_eqEntry] at hf
  refine calls_of (n := 32) (args := [_, _]) Try.func11 rfl rfl (Nat.le_of_ble_eq_true rfl) ?_
  refine EW.seq ?_
  refine EW.region ?_
  refine SL.box hS rfl (by decide) (fun g1 w1 hS1 => ?_)
  clear hS
  refine SL.box hS1 rfl (by decide) (fun g2 w2 hS2 => ?_)
  clear hS1
  refine EL.q rfl rfl rfl (by decide) ?_
  refine EL.nil ?_
  refine thenE_n ?_
  refine EW.seq ?_
  refine EW.seq ?_
  refine EW.region ?_
  refine EL.rn (rn_fa rfl Try.underlying32 rfl z29 (by decide) rfl _) rfl rfl (by decide) ?_
  refine EL.rn (rn_lds (m := 2) [str a0.q.name, vi a0.q.ty] rfl Try.underlying29 (hS2.a 0 rfl) rfl z29) rfl rfl (by decide) ?_
  refine EL.rn (rn_fa rfl Try.underlying32 rfl z29 (by decide) rfl _) rfl rfl (by decide) ?_
  refine EL.rn (rn_lds (m := 2) [str a1.q.name, vi a1.q.ty] rfl Try.underlying29 (hS2.a 1 rfl) rfl z29) rfl rfl (by decide) ?_
  obtain ⟨x1, hx1, hf1⟩ := bnd hf
  clear hf
  refine SL.call hS2 [_, _] rfl Try.func25 (by kernel_rfl) rfl (by decide) [] (by decide) (L0 := []) rfl (fun b' s hb hw hrd hS => laws_eqQuest_ok hx1 hS) (fun v M w3 hΦ hS3 => ?_)
  clear hS2
  obtain ⟨rfl, rfl⟩ := hΦ
  refine EL.q rfl rfl rfl (by decide) ?_
  refine EL.nil ?_
  refine thenE_n ?_
  refine EW.cond rfl (fun hc1 => ?_) (fun hc1 => ?_)
  · skip
    have hf2 := bifT hc1 hf1
    clear hf1
    refine EW.seq ?_
    refine EW.region ?_
    refine EL.q rfl rfl rfl (by decide) ?_
    refine EL.nil ?_
    refine thenE_n ?_
    refine EW.ret ?_
    repeat (first | refine thenE_r ?_ | refine inB_r ?_)
    obtain rfl := Option.some.inj hf2
    exact ⟨_, res rfl, _, _, rfl, ⟨rfl, rfl⟩, hS3.sel [] rfl (by decide)⟩
  · skip
    have hf3 := bifF hc1 hf1
    clear hf1
    refine EW.skip ?_
    refine thenE_n ?_
    refine EW.seq ?_
    refine EW.seq ?_
    refine EW.region ?_
    refine EL.rn (rn_fa rfl Try.underlying32 rfl z3 (by decide) rfl _) rfl rfl (by decide) ?_
    refine EL.rn (rn_ld rfl Try.underlying3 (by simp) (by simp) (hS3.a 0 rfl) rfl) rfl rfl (by decide) ?_
    refine EL.rn (rn_fa rfl Try.underlying32 rfl z3 (by decide) rfl _) rfl rfl (by decide) ?_
    refine EL.rn (rn_ld rfl Try.underlying3 (by simp) (by simp) (hS3.a 1 rfl) rfl) rfl rfl (by decide) ?_
    refine EL.q rfl rfl rfl (by decide) ?_
    refine EL.nil ?_
    refine thenE_n ?_
    refine EW.cond rfl (fun hc2 => ?_) (fun hc2 => ?_)
    · skip
      have hf4 := bifT hc2 hf3
      clear hf3
      refine EW.seq ?_
      refine EW.region ?_
      refine EL.q rfl rfl rfl (by decide) ?_
      refine EL.nil ?_
      refine thenE_n ?_
      refine EW.ret ?_
      repeat (first | refine thenE_r ?_ | refine inB_r ?_)
      obtain rfl := Option.some.inj hf4
      exact ⟨_, res rfl, _, _, rfl, ⟨rfl, rfl⟩, hS3.sel [] rfl (by decide)⟩
    · skip
      have hf5 := bifF hc2 hf3
      clear hf3
      refine EW.skip ?_
      refine thenE_n ?_
      refine EW.seq ?_
      refine EW.seq ?_
      refine EW.region ?_
      refine EL.rn (rn_fa rfl Try.underlying32 rfl z30 (by decide) rfl _) rfl rfl (by decide) ?_
      refine EL.rn (rn_ld rfl Try.underlying30 (by simp) (by simp) (hS3.a 0 rfl) rfl) rfl rfl (by decide) ?_
      refine EL.rn (rn_fa rfl Try.underlying32 rfl z30 (by decide) rfl _) rfl rfl (by decide) ?_
      refine EL.rn (rn_ld rfl Try.underlying30 (by simp) (by simp) (hS3.a 1 rfl) rfl) rfl rfl (by decide) ?_
      obtain ⟨x2, hx2, hf6⟩ := bnd hf5
      clear hf5
      refine SL.call hS3 [_, _] rfl Try.func26 (by kernel_rfl) rfl (by decide) [] (by decide) (L0 := []) rfl (fun b' s hb hw hrd hS => laws_eqRecordS_ok hx2 (hr1.agr hb) (hr2.agr hb) hS) (fun v M w4 hΦ hS4 => ?_)
      clear hS3
      obtain ⟨rfl, rfl⟩ := hΦ
      refine EL.q rfl rfl rfl (by decide) ?_
      refine EL.nil ?_
      refine thenE_n ?_
      refine EW.cond rfl (fun hc3 => ?_) (fun hc3 => ?_)
      · skip
        have hf7 := bifT hc3 hf6
        clear hf6
        refine EW.seq ?_
        refine EW.region ?_
        refine EL.q rfl rfl rfl (by decide) ?_
        refine EL.nil ?_
        refine thenE_n ?_
        refine EW.ret ?_
        repeat (first | refine thenE_r ?_ | refine inB_r ?_)
        obtain rfl := Option.some.inj hf7
        exact ⟨_, res rfl, _, _, rfl, ⟨rfl, rfl⟩, hS4.sel [] rfl (by decide)⟩
      · skip
        have hf8 := bifF hc3 hf6
        clear hf6
        refine EW.skip ?_
        refine thenE_n ?_
        refine EW.seq ?_
        refine EW.seq ?_
        refine EW.region ?_
        refine EL.rn (rn_fa rfl Try.underlying32 rfl z3 (by decide) rfl _) rfl rfl (by decide) ?_
        refine EL.rn (rn_ld rfl Try.underlying3 (by simp) (by simp) (hS4.a 0 rfl) rfl) rfl rfl (by decide) ?_
        refine EL.rn (rn_fa rfl Try.underlying32 rfl z3 (by decide) rfl _) rfl rfl (by decide) ?_
        refine EL.rn (rn_ld rfl Try.underlying3 (by simp) (by simp) (hS4.a 1 rfl) rfl) rfl rfl (by decide) ?_
        refine EL.q rfl rfl rfl (by decide) ?_
        refine EL.nil ?_
        refine thenE_n ?_
        refine EW.cond rfl (fun hc4 => ?_) (fun hc4 => ?_)
        · skip
          have hf9 := bifT hc4 hf8
          clear hf8
          refine EW.seq ?_
          refine EW.region ?_
          refine EL.q rfl rfl rfl (by decide) ?_
          refine EL.nil ?_
          refine thenE_n ?_
          refine EW.ret ?_
          repeat (first | refine thenE_r ?_ | refine inB_r ?_)
          obtain rfl := Option.some.inj hf9
          exact ⟨_, res rfl, _, _, rfl, ⟨rfl, rfl⟩, hS4.sel [] rfl (by decide)⟩
        · skip
          have hf10 := bifF hc4 hf8
          clear hf8
          refine EW.skip ?_
          refine thenE_n ?_
          refine EW.seq ?_
          refine EW.seq ?_
          refine EW.region ?_
          refine EL.rn (rn_fa rfl Try.underlying32 rfl z3 (by decide) rfl _) rfl rfl (by decide) ?_
          refine EL.rn (rn_ld rfl Try.underlying3 (by simp) (by simp) (hS4.a 0 rfl) rfl) rfl rfl (by decide) ?_
          refine EL.rn (rn_fa rfl Try.underlying32 rfl z3 (by decide) rfl _) rfl rfl (by decide) ?_
          refine EL.rn (rn_ld rfl Try.underlying3 (by simp) (by simp) (hS4.a 1 rfl) rfl) rfl rfl (by decide) ?_
          refine EL.q rfl rfl rfl (by decide) ?_
          refine EL.nil ?_
          refine thenE_n ?_
          refine EW.cond rfl (fun hc5 => ?_) (fun hc5 => ?_)
          · skip
            have hf11 := bifT hc5 hf10
            clear hf10
            refine EW.seq ?_
            refine EW.region ?_
            refine EL.q rfl rfl rfl (by decide) ?_
            refine EL.nil ?_
            refine thenE_n ?_
            refine EW.ret ?_
            repeat (first | refine thenE_r ?_ | refine inB_r ?_)
            obtain rfl := Option.some.inj hf11
            exact ⟨_, res rfl, _, _, rfl, ⟨rfl, rfl⟩, hS4.sel [] rfl (by decide)⟩
          · skip
            have hf12 := bifF hc5 hf10
            clear hf10
            refine EW.skip ?_
            refine thenE_n ?_
            refine EW.seq ?_
            refine EW.region ?_
            refine EL.q rfl rfl rfl (by decide) ?_
            refine EL.nil ?_
            refine thenE_n ?_
            refine EW.ret ?_
            repeat (first | refine thenE_r ?_ | refine inB_r ?_)
            obtain rfl := Option.some.inj hf12
            exact ⟨_, res rfl, _, _, rfl, ⟨rfl, rfl⟩, hS4.sel [] rfl (by decide)⟩

-- 27 loop.example/g00497/laws.eqEntryS
set_option maxHeartbeats 4000000 in
set_option maxRecDepth 100000 in
theorem laws_eqEntryS_ok {k : Nat} {a0 : List Ent} {a1 : List Ent} {r : Bool} (hf : laws_eqEntryS k a0 a1 = some r) {b w : World} {s : Nat → Prop} {v1 : Sv} {v2 : Sv} (hr1 : (kEnt 66).C b (sl v1) a0) (hr2 : (kEnt 66).C b (sl v2) a1) (hS : St b w s [] w) : Calls Try.prog 27 ([sl v1, sl v2] : List Value).toArray w fun e w' => ∃ v M, e = .returned v ∧ (v = vt r ∧ M = []) ∧ St b w s M w' := by
  rw [laws_eqEntryS] at hf
  refine calls_of (n := 27) (args := [_, _]) Try.func27 rfl rfl (Nat.le_of_ble_eq_true rfl) ?_
  refine EW.seq ?_
  refine EW.region ?_
  refine EL.q rfl rfl rfl (by decide) ?_
  refine EL.nil ?_
  refine thenE_n ?_
  refine EW.seq ?_
  refine EW.seq ?_
  refine EW.region ?_
  refine EL.q rfl rfl rfl (by decide) ?_
  refine EL.rn (rn_len rfl (K2.C.sl (d := (kEnt 66)) (hS.now hr1)) Try.underlying35 _) rfl rfl (by decide) ?_
  refine EL.q rfl rfl rfl (by decide) ?_
  refine EL.rn (rn_len rfl (K2.C.sl (d := (kEnt 66)) (hS.now hr2)) Try.underlying35 _) rfl rfl (by decide) ?_
  refine EL.q rfl rfl rfl (by decide) ?_
  refine EL.nil ?_
  refine thenE_n ?_
  refine EW.cond rfl (fun hc1 => ?_) (fun hc1 => ?_)
  · skip
    have hf1 := bifT hc1 hf
    clear hf
    refine EW.seq ?_
    refine EW.region ?_
    refine EL.q rfl rfl rfl (by decide) ?_
    refine EL.nil ?_
    refine thenE_n ?_
    refine EW.ret ?_
    repeat (first | refine thenE_r ?_ | refine inB_r ?_)
    obtain rfl := Option.some.inj hf1
    exact ⟨_, res rfl, _, _, rfl, ⟨rfl, rfl⟩, hS.sel [] rfl (by decide)⟩
  · skip
    have hf2 := bifF hc1 hf
    clear hf
    refine EW.skip ?_
    refine thenE_n ?_
    refine EW.seq ?_
    refine EW.seq ?_
    refine EW.region ?_
    refine EL.q rfl rfl rfl (by decide) ?_
    refine EL.nil ?_
    refine thenE_n ?_
    obtain ⟨o1, hx4, hf10⟩ := bnd hf2
    clear hf2
    refine EW.cut (fun e W => o1 = .brk () ∧ e = [] ∧ St b w s [] W) ?_ ?_
    · skip
      refine EW.block ?_
      refine EW.loopP hx4 (fun (x : Int) e W => match x with | x1 => e = [(0, sl v1), (1, sl v2), (5, vi x1)] ∧ St b w s [] W) [(0, sl v1), (1, sl v2), (5, vi 0)] ⟨rfl, rfl, rfl, trivial⟩ ⟨rfl, hS.sel [] rfl (by decide)⟩ ?_
      rintro x1 e w5 ⟨rfl, hS5⟩ st1 hf11 hbr1 hrt1
      rw [laws_eqEntryS_b1] at hf11
      refine EW.seq ?_
      refine EW.seq ?_
      refine EW.region ?_
      iterate 2 refine EL.q rfl rfl rfl (by decide) ?_
      refine EL.rn (rn_len rfl (K2.C.sl (d := (kEnt 66)) (hS5.now hr1)) Try.underlying35 _) rfl rfl (by decide) ?_
      refine EL.q rfl rfl rfl (by decide) ?_
      refine EL.nil ?_
      refine thenE_n ?_
      refine EW.cond rfl (fun hc4 => ?_) (fun hc4 => ?_)
      · skip
        have hf12 := bifT hc4 hf11
        clear hf11
        refine EW.skip ?_
        refine thenE_n ?_
        refine EW.seq ?_
        refine EW.block ?_
        refine EW.seq ?_
        obtain ⟨x5, hx5, hf13⟩ := bnd hf12
        clear hf12
        obtain ⟨ad3, hE3⟩ := EA.of (d := (kEnt 66)) (hS5.now hr1) hx5
        obtain ⟨v5, hA3, hr5⟩ := Ent_at hr1 hE3 hx5
        obtain ⟨x6, hx6, hf14⟩ := bnd hf13
        clear hf13
        obtain ⟨ad4, hE4⟩ := EA.of (d := (kEnt 66)) (hS5.now hr2) hx6
        obtain ⟨v6, hA4, hr6⟩ := Ent_at hr2 hE4 hx6
        obtain ⟨x7, hx7, hf15⟩ := bnd hf14
        clear hf14
        have hS8 := hS5.drew
        refine EW.drawn (m := 10) (fun W => CellsAt W ad3 0 [str x5.q.name, vi x5.q.ty, vi x5.kind, sl v5, vi x5.rank, vi x5.till] ∧ CellsAt W ad4 0 [str x6.q.name, vi x6.q.ty, vi x6.kind, sl v6, vi x6.rank, vi x6.till] ∧ True) [] (by kernel_rfl) rfl ⟨(hA3.agr hS8.agr), (hA4.agr hS8.agr), trivial⟩ ?_
        refine DR.q 0 rfl (fun w' => rn_v rfl w') rfl rfl (by decide) (by kernel_rfl) ?_
        refine DR.q 1 rfl (fun w' => rn_v rfl w') rfl rfl (by decide) (by kernel_rfl) ?_
        refine DR.q 2 rfl (fun w' => rn_ix rfl rfl hE3 Try.underlying35 z32 w') rfl rfl (by decide) (by kernel_rfl) ?_
        refine DR.take 3 rfl (fun w' hw => rn_lds (m := 6) [str x5.q.name, vi x5.q.ty, vi x5.kind, sl v5, vi x5.rank, vi x5.till] rfl Try.underlying32 hw.1 rfl z32) rfl rfl (by decide) (by kernel_rfl) ⟨(hA3.agr hS8.agr), (hA4.agr hS8.agr), trivial⟩ ?_
        refine DR.q 4 rfl (fun w' => rn_v rfl w') rfl rfl (by decide) (by kernel_rfl) ?_
        refine DR.q 5 rfl (fun w' => rn_v rfl w') rfl rfl (by decide) (by kernel_rfl) ?_
        refine DR.q 6 rfl (fun w' => rn_ix rfl rfl hE4 Try.underlying35 z32 w') rfl rfl (by decide) (by kernel_rfl) ?_
        refine DR.take 7 rfl (fun w' hw => rn_lds (m := 6) [str x6.q.name, vi x6.q.ty, vi x6.kind, sl v6, vi x6.rank, vi x6.till] rfl Try.underlying32 hw.2.1 rfl z32) rfl rfl (by decide) (by kernel_rfl) ⟨(hA3.agr hS8.agr), (hA4.agr hS8.agr), trivial⟩ ?_
        refine DR.one 8 (by kernel_rfl) rfl ?_
        refine SL.call hS8 [_, _] rfl Try.func11 (by kernel_rfl) rfl (by decide) [] (by decide) (L0 := []) rfl (fun b' s hb hw hrd hS => laws_eqEntry_ok hx7 (hr5.agr hb) (hr6.agr hb) hS) (fun v M w9 hΦ hS9 => ?_)
        clear hS8
        obtain ⟨rfl, rfl⟩ := hΦ
        refine EL.then_ ⟨(hA3.agr hS9.agr), (hA4.agr hS9.agr), trivial⟩ ?_
        refine DR.q 9 rfl (fun w' => rn_v rfl w') rfl rfl (by decide) (by kernel_rfl) ?_
        refine DR.done (by kernel_rfl) ?_
        refine thenE_n ?_
        refine EW.cond rfl (fun hc5 => ?_) (fun hc5 => ?_)
        · skip
          have hf16 := bifT hc5 hf15
          clear hf15
          refine EW.seq ?_
          refine EW.region ?_
          refine EL.q rfl rfl rfl (by decide) ?_
          refine EL.nil ?_
          refine thenE_n ?_
          refine EW.ret ?_
          repeat (first | refine thenE_r ?_ | refine inB_r ?_)
          obtain rfl := Option.some.inj hf16
          obtain rfl := hrt1 _ rfl
          obtain rfl := Option.some.inj hf10
          exact ⟨_, res rfl, _, _, rfl, ⟨rfl, rfl⟩, hS9.sel [] rfl (by decide)⟩
        · skip
          have hf17 := bifF hc5 hf15
          clear hf15
          refine EW.skip ?_
          refine inB_n ?_
          refine thenE_n ?_
          refine EW.region ?_
          iterate 3 refine EL.q rfl rfl rfl (by decide) ?_
          refine EL.nil ?_
          obtain rfl := Option.some.inj hf17
          refine thenE_n ?_
          exact ⟨(w64 (x1 + 1)), [(0, sl v1), (1, sl v2), (5, vi (w64 (x1 + 1)))], rfl, ⟨rfl, rfl, rfl, trivial⟩, rfl, hS9.sel [] rfl (by decide)⟩
      · skip
        have hf18 := bifF hc4 hf11
        clear hf11
        refine EW.exit ?_
        repeat (first | refine thenE_x ?_ | refine inB_x ?_ | refine inB_y (by decide) ?_)
        obtain rfl := Option.some.inj hf18
        obtain rfl := hbr1 _ rfl
        refine thenE_n ?_
        exact ⟨[], trivial, rfl, rfl, hS5.sel [] rfl (by decide)⟩
    · skip
      rintro e w10 ⟨rfl, rfl, hS10⟩
      refine thenE_n ?_
      refine EW.seq ?_
      refine EW.region ?_
      refine EL.q rfl rfl rfl (by decide) ?_
      refine EL.nil ?_
      refine thenE_n ?_
      refine EW.ret ?_
      repeat (first | refine thenE_r ?_ | refine inB_r ?_)
      obtain rfl := Option.some.inj hf10
      exact ⟨_, res rfl, _, _, rfl, ⟨rfl, rfl⟩, hS10.sel [] rfl (by decide)⟩

-- 12 loop.example/g00497/laws.eqCache
set_option maxHeartbeats 4000000 in
set_option maxRecDepth 100000 in
theorem laws_eqCache_ok {k : Nat} {a0 : Cac} {a1 : Cac} {r : Bool} (hf : laws_eqCache k a0 a1 = some r) {b w : World} {s : Nat → Prop} {v1 : Sv} {v2 : Sv} (hr1 : (kEnt 66).C b (sl v1) a0.l) (hr2 : (kEnt 66).C b (sl v2) a1.l) (hS : St b w s [] w) : Calls Try.prog 12 ([.agg #[vi a0.cap, sl v1], .agg #[vi a1.cap, sl v2]] : List Value).toArray w fun e w' => ∃ v M, e = .returned v ∧ (v = vt r ∧ M = []) ∧ St b w s M w' := by
  rw [laws_eqCache] at hf
  refine calls_of (n := 16) (args := [_, _]) Try.func12 rfl rfl (Nat.le_of_ble_eq_true rfl) ?_
  refine EW.seq ?_
  refine EW.region ?_
  refine SL.box hS rfl (by decide) (fun g1 w1 hS1 => ?_)
  clear hS
  refine SL.box hS1 rfl (by decide) (fun g2 w2 hS2 => ?_)
  clear hS1
  refine EL.q rfl rfl rfl (by decide) ?_
  refine EL.nil ?_
  refine thenE_n ?_
  refine EW.seq ?_
  refine EW.seq ?_
  refine EW.region ?_
  refine EL.rn (rn_fa rfl Try.underlying37 rfl z3 (by decide) rfl _) rfl rfl (by decide) ?_
  refine EL.rn (rn_ld rfl Try.underlying3 (by simp) (by simp) (hS2.a 0 rfl) rfl) rfl rfl (by decide) ?_
  refine EL.rn (rn_fa rfl Try.underlying37 rfl z3 (by decide) rfl _) rfl rfl (by decide) ?_
  refine EL.rn (rn_ld rfl Try.underlying3 (by simp) (by simp) (hS2.a 1 rfl) rfl) rfl rfl (by decide) ?_
  refine EL.q rfl rfl rfl (by decide) ?_
  refine EL.nil ?_
  refine thenE_n ?_
  refine EW.cond rfl (fun hc1 => ?_) (fun hc1 => ?_)
  · skip
    have hf1 := bifT hc1 hf
    clear hf
    refine EW.seq ?_
    refine EW.region ?_
    refine EL.q rfl rfl rfl (by decide) ?_
    refine EL.nil ?_
    refine thenE_n ?_
    refine EW.ret ?_
    repeat (first | refine thenE_r ?_ | refine inB_r ?_)
    obtain rfl := Option.some.inj hf1
    exact ⟨_, res rfl, _, _, rfl, ⟨rfl, rfl⟩, hS2.sel [] rfl (by decide)⟩
  · skip
    have hf2 := bifF hc1 hf
    clear hf
    refine EW.skip ?_
    refine thenE_n ?_
    refine EW.seq ?_
    refine EW.seq ?_
    refine EW.region ?_
    refine EL.rn (rn_fa rfl Try.underlying37 rfl z35 (by decide) rfl _) rfl rfl (by decide) ?_
    refine EL.rn (rn_ld rfl Try.underlying35 (by simp) (by simp) (hS2.a 0 rfl) rfl) rfl rfl (by decide) ?_
    refine EL.rn (rn_fa rfl Try.underlying37 rfl z35 (by decide) rfl _) rfl rfl (by decide) ?_
    refine EL.rn (rn_ld rfl Try.underlying35 (by simp) (by simp) (hS2.a 1 rfl) rfl) rfl rfl (by decide) ?_
    obtain ⟨x1, hx1, hf3⟩ := bnd hf2
    clear hf2
    refine SL.call hS2 [_, _] rfl Try.func27 (by kernel_rfl) rfl (by decide) [] (by decide) (L0 := []) rfl (fun b' s hb hw hrd hS => laws_eqEntryS_ok hx1 (hr1.agr hb) (hr2.agr hb) hS) (fun v M w3 hΦ hS3 => ?_)
    clear hS2
    obtain ⟨rfl, rfl⟩ := hΦ
    refine EL.q rfl rfl rfl (by decide) ?_
    refine EL.nil ?_
    refine thenE_n ?_
    refine EW.cond rfl (fun hc2 => ?_) (fun hc2 => ?_)
    · skip
      have hf4 := bifT hc2 hf3
      clear hf3
      refine EW.seq ?_
      refine EW.region ?_
      refine EL.q rfl rfl rfl (by decide) ?_
      refine EL.nil ?_
      refine thenE_n ?_
      refine EW.ret ?_
      repeat (first | refine thenE_r ?_ | refine inB_r ?_)
      obtain rfl := Option.some.inj hf4
      exact ⟨_, res rfl, _, _, rfl, ⟨rfl, rfl⟩, hS3.sel [] rfl (by decide)⟩
    · skip
      have hf5 := bifF hc2 hf3
      clear hf3
      refine EW.skip ?_
      refine thenE_n ?_
      refine EW.seq ?_
      refine EW.region ?_
      refine EL.q rfl rfl rfl (by decide) ?_
      refine EL.nil ?_
      refine thenE_n ?_
      refine EW.ret ?_
      repeat (first | refine thenE_r ?_ | refine inB_r ?_)
      obtain rfl := Option.some.inj hf5
      exact ⟨_, res rfl, _, _, rfl, ⟨rfl, rfl⟩, hS3.sel [] rfl (by decide)⟩

-- 40 loop.example/g00497/laws.markText
set_option maxHeartbeats 4000000 in
set_option maxRecDepth 100000 in
theorem laws_markText_ok {k : Nat} {a0 : Int} {r : Str} (hf : laws_markText k a0 = some r) {b w : World} {s : Nat → Prop} (hS : St b w s [] w) : Calls Try.prog 40 ([vi a0] : List Value).toArray w fun e w' => ∃ v M, e = .returned v ∧ (v = str r ∧ M = []) ∧ St b w s M w' := by
  rw [laws_markText] at hf
  refine calls_of (n := 20) (args := [_]) Try.func40 rfl rfl (Nat.le_of_ble_eq_true rfl) ?_
  refine EW.seq ?_
  refine EW.region ?_
  refine EL.q rfl rfl rfl (by decide) ?_
  refine EL.nil ?_
  refine thenE_n ?_
  refine EW.seq ?_
  refine EW.seq ?_
  refine EW.region ?_
  iterate 2 refine EL.q rfl rfl rfl (by decide) ?_
  refine EL.nil ?_
  refine thenE_n ?_
  refine EW.cond rfl (fun hc1 => ?_) (fun hc1 => ?_)
  · skip
    have hf1 := bifT hc1 hf
    clear hf
    refine EW.seq ?_
    refine EW.region ?_
    refine EL.q rfl rfl rfl (by decide) ?_
    refine EL.nil ?_
    refine thenE_n ?_
    refine EW.ret ?_
    repeat (first | refine thenE_r ?_ | refine inB_r ?_)
    obtain rfl := Option.some.inj hf1
    exact ⟨_, res rfl, _, _, rfl, ⟨rfl, rfl⟩, hS.sel [] rfl (by decide)⟩
  · skip
    have hf2 := bifF hc1 hf
    clear hf
    refine EW.skip ?_
    refine thenE_n ?_
    refine EW.seq ?_
    refine EW.region ?_
    refine EL.q rfl rfl rfl (by decide) ?_
    refine EL.nil ?_
    refine thenE_n ?_
    refine EW.seq ?_
    obtain ⟨o1, hx2, hf6⟩ := bnd hf2
    clear hf2
    refine EW.cut (fun e W => ∃ x5 : Str, o1 = .brk x5 ∧ e = [(3, str x5)] ∧ St b w s [] W) ?_ ?_
    · skip
      refine EW.block ?_
      refine EW.loopP hx2 (fun (x : Int × Str) e W => match x with | (x1, x2) => e = [(0, vi x1), (3, str x2)] ∧ St b w s [] W) [(0, vi a0), (3, str [])] ⟨rfl, rfl, trivial⟩ ⟨rfl, hS.sel [] rfl (by decide)⟩ ?_
      rintro ⟨x1, x2⟩ e w2 ⟨rfl, hS2⟩ st1 hf7 hbr1 hrt1
      rw [laws_markText_b1] at hf7
      refine EW.seq ?_
      refine EW.seq ?_
      refine EW.region ?_
      iterate 2 refine EL.q rfl rfl rfl (by decide) ?_
      refine EL.nil ?_
      refine thenE_n ?_
      refine EW.cond rfl (fun hc3 => ?_) (fun hc3 => ?_)
      · skip
        have hf8 := bifT hc3 hf7
        clear hf7
        refine EW.skip ?_
        refine thenE_n ?_
        refine EW.block ?_
        refine EW.seq ?_
        refine EW.region ?_
        refine EL.q rfl rfl rfl (by decide) ?_
        refine EL.rn (rn_rem rfl rfl (by decide) _) rfl rfl (by decide) ?_
        refine EL.q rfl rfl rfl (by decide) ?_
        refine EL.rn (rn_conv rfl Try.underlying3 Try.underlying5 (u8_wrap _) _) rfl rfl (by decide) ?_
        refine SL.lit hS2 kU8 [(u8 (w64 (48 + (Int.tmod x1 10))))] [vb (u8 (w64 (48 + (Int.tmod x1 10))))] rfl rfl rfl Try.underlying73 i5 (by decide) rfl (by decide) (fun _ _ => (Nest.cons0 (rfl) trivial)) (by decide) (fun v2 w3 hS3 => ?_)
        clear hS2
        refine EL.rn (rn_b2s rfl (hS3.c 0 rfl) Try.underlying73 Try.underlying5 Try.underlying9) rfl rfl (by decide) ?_
        refine EL.q rfl rfl rfl (by decide) ?_
        obtain ⟨x6, hx3, hf9⟩ := bnd hf8
        clear hf8
        refine EL.rn (rn_scat rfl rfl hx3 _) rfl rfl (by decide) ?_
        refine EL.q rfl rfl rfl (by decide) ?_
        refine EL.nil ?_
        refine thenE_n ?_
        refine EW.region ?_
        refine EL.q rfl rfl rfl (by decide) ?_
        refine EL.rn (rn_quo rfl rfl (by decide) _) rfl rfl (by decide) ?_
        refine EL.q rfl rfl rfl (by decide) ?_
        refine EL.nil ?_
        refine inB_n ?_
        obtain rfl := Option.some.inj hf9
        refine thenE_n ?_
        exact ⟨((w64 (Int.tdiv x1 10)), x6), [(0, vi (w64 (Int.tdiv x1 10))), (3, str x6)], rfl, ⟨rfl, rfl, trivial⟩, rfl, hS3.sel [] rfl (by decide)⟩
      · skip
        have hf10 := bifF hc3 hf7
        clear hf7
        refine EW.exit ?_
        repeat (first | refine thenE_x ?_ | refine inB_x ?_ | refine inB_y (by decide) ?_)
        obtain rfl := Option.some.inj hf10
        obtain rfl := hbr1 _ rfl
        refine thenE_n ?_
        exact ⟨[(3, str x2)], ⟨rfl, trivial⟩, x2, rfl, rfl, hS2.sel [] rfl (by decide)⟩
    · skip
      rintro e w4 ⟨x5, rfl, rfl, hS4⟩
      refine thenE_n ?_
      refine EW.seq ?_
      refine EW.region ?_
      refine EL.q rfl rfl rfl (by decide) ?_
      obtain ⟨x10, hx4, hf11⟩ := bnd hf6
      clear hf6
      refine EL.rn (rn_scat rfl rfl hx4 _) rfl rfl (by decide) ?_
      refine EL.q rfl rfl rfl (by decide) ?_
      refine EL.nil ?_
      refine thenE_n ?_
      refine EW.ret ?_
      repeat (first | refine thenE_r ?_ | refine inB_r ?_)
      obtain rfl := Option.some.inj hf11
      exact ⟨_, res rfl, _, _, rfl, ⟨rfl, rfl⟩, hS4.sel [] rfl (by decide)⟩

-- 29 loop.example/g00497/laws.markRecordS
set_option maxHeartbeats 4000000 in
set_option maxRecDepth 100000 in
theorem laws_markRecordS_ok {k : Nat} {a0 : List Rec} {a1 : Int} {r : Int × List Rec} (hf : laws_markRecordS k a0 a1 = some r) {b w : World} {s : Nat → Prop} {v1 : Sv} (hS : St b w s [.row kRec 66 (sl v1) a0] w) : Calls Try.prog 29 ([sl v1, vi a1] : List Value).toArray w fun e w' => ∃ v M, e = .returned v ∧ (v = vi r.1 ∧ M = [.row kRec 66 (sl v1) r.2]) ∧ St b w s M w' := by
  rw [laws_markRecordS] at hf
  refine calls_of (n := 58) (args := [_, _]) Try.func29 rfl rfl (Nat.le_of_ble_eq_true rfl) ?_
  refine EW.seq ?_
  refine EW.region ?_
  refine EL.q rfl rfl rfl (by decide) ?_
  refine EL.nil ?_
  refine thenE_n ?_
  refine EW.seq ?_
  refine EW.seq ?_
  refine EW.region ?_
  refine EL.q rfl rfl rfl (by decide) ?_
  refine EL.nil ?_
  refine thenE_n ?_
  obtain ⟨o1, hx10, hf12⟩ := bnd hf
  clear hf
  refine EW.cut (fun e W => ∃ x15 : List Rec, ∃ x16 : Int, o1 = .brk (x15, x16) ∧ e = [(1, vi x16)] ∧ St b w s [.row kRec 66 (sl v1) x15] W) ?_ ?_
  · skip
    refine EW.block ?_
    refine EW.loopP hx10 (fun (x : (List Rec) × Int × Int) e W => match x with | (x1, x2, x3) => e = [(0, sl v1), (1, vi x2), (5, vi x3)] ∧ St b w s [.row kRec 66 (sl v1) x1] W) [(0, sl v1), (1, vi a1), (5, vi 0)] ⟨rfl, rfl, rfl, trivial⟩ ⟨rfl, hS.sel [0] rfl (by decide)⟩ ?_
    rintro ⟨x1, x2, x3⟩ e w10 ⟨rfl, hS10⟩ st1 hf13 hbr1 hrt1
    rw [laws_markRecordS_b1] at hf13
    refine EW.seq ?_
    refine EW.seq ?_
    refine EW.region ?_
    iterate 2 refine EL.q rfl rfl rfl (by decide) ?_
    refine EL.rn (rn_len rfl (K2.C.sl (d := kRec) (hS10.c 0 rfl)) Try.underlying30 _) rfl rfl (by decide) ?_
    refine EL.q rfl rfl rfl (by decide) ?_
    refine EL.nil ?_
    refine thenE_n ?_
    refine EW.cond rfl (fun hc2 => ?_) (fun hc2 => ?_)
    · skip
      have hf14 := bifT hc2 hf13
      clear hf13
      refine EW.skip ?_
      refine thenE_n ?_
      refine EW.seq ?_
      refine EW.block ?_
      refine EW.seq ?_
      refine EW.region ?_
      iterate 3 refine EL.q rfl rfl rfl (by decide) ?_
      obtain ⟨x17, hx11, hf15⟩ := bnd hf14
      clear hf14
      refine SL.call hS10 [_] rfl Try.func40 (by kernel_rfl) rfl (by decide) [] (by decide) (L0 := []) rfl (fun b' s hb hw hrd hS => laws_markText_ok hx11 hS) (fun v M w11 hΦ hS11 => ?_)
      clear hS10
      obtain ⟨rfl, rfl⟩ := hΦ
      obtain ⟨x18, hx12, hf16⟩ := bnd hf15
      clear hf15
      obtain ⟨ad7, hE7⟩ := EA.of (d := kRec) (hS11.c 0 rfl) hx12
      refine EL.rn (rn_ix rfl rfl hE7 Try.underlying30 z66 _) rfl rfl (by decide) ?_
      refine EL.rn (rn_fa rfl Try.underlying66 rfl z9 (by decide) rfl _) rfl rfl (by decide) ?_
      refine SL.sto hS11 0 rfl ({ x18 with name := x17 }) rfl rfl [str x17] rfl z9 rfl hE7 hx12 (Nat.le_of_ble_eq_true rfl) (fun w s cs h => by rw [Rec_M h]; exact Rec_Mk _ _ _) (fun w12 hS12 => ?_)
      clear hS11
      refine EL.nil ?_
      refine thenE_n ?_
      refine EW.seq ?_
      refine EW.region ?_
      iterate 3 refine EL.q rfl rfl rfl (by decide) ?_
      refine EL.nil ?_
      refine thenE_n ?_
      refine EW.seq ?_
      refine EW.region ?_
      iterate 3 refine EL.q rfl rfl rfl (by decide) ?_
      obtain ⟨x19, hx13, hf17⟩ := bnd hf16
      clear hf16
      obtain ⟨ad8, hE8⟩ := EA.of (d := kRec) (hS12.c 0 rfl) hx13
      refine EL.rn (rn_ix rfl rfl hE8 Try.underlying30 z66 _) rfl rfl (by decide) ?_
      refine EL.rn (rn_fa rfl Try.underlying66 rfl z3 (by decide) rfl _) rfl rfl (by decide) ?_
      refine SL.sto hS12 0 rfl ({ x19 with ty := (w64 (x2 + 1)) }) rfl rfl [vi (w64 (x2 + 1))] rfl z3 rfl hE8 hx13 (Nat.le_of_ble_eq_true rfl) (fun w s cs h => by rw [Rec_M h]; exact Rec_Mk _ _ _) (fun w13 hS13 => ?_)
      clear hS12
      refine EL.nil ?_
      refine thenE_n ?_
      refine EW.seq ?_
      refine EW.region ?_
      iterate 3 refine EL.q rfl rfl rfl (by decide) ?_
      refine EL.nil ?_
      refine thenE_n ?_
      refine EW.seq ?_
      refine EW.region ?_
      iterate 3 refine EL.q rfl rfl rfl (by decide) ?_
      obtain ⟨x20, hx14, hf18⟩ := bnd hf17
      clear hf17
      obtain ⟨ad9, hE9⟩ := EA.of (d := kRec) (hS13.c 0 rfl) hx14
      refine EL.rn (rn_ix rfl rfl hE9 Try.underlying30 z66 _) rfl rfl (by decide) ?_
      refine EL.rn (rn_fa rfl Try.underlying66 rfl z3 (by decide) rfl _) rfl rfl (by decide) ?_
      refine SL.sto hS13 0 rfl ({ x20 with ttl := (w64 ((w64 (x2 + 1)) + 1)) }) rfl rfl [vi (w64 ((w64 (x2 + 1)) + 1))] rfl z3 rfl hE9 hx14 (Nat.le_of_ble_eq_true rfl) (fun w s cs h => by rw [Rec_M h]; exact Rec_Mk _ _ _) (fun w14 hS14 => ?_)
      clear hS13
      refine EL.nil ?_
      refine thenE_n ?_
      refine EW.seq ?_
      refine EW.region ?_
      iterate 3 refine EL.q rfl rfl rfl (by decide) ?_
      refine EL.nil ?_
      refine thenE_n ?_
      refine EW.seq ?_
      refine EW.region ?_
      iterate 3 refine EL.q rfl rfl rfl (by decide) ?_
      obtain ⟨x21, hx15, hf19⟩ := bnd hf18
      clear hf18
      obtain ⟨ad10, hE10⟩ := EA.of (d := kRec) (hS14.c 0 rfl) hx15
      refine EL.rn (rn_ix rfl rfl hE10 Try.underlying30 z66 _) rfl rfl (by decide) ?_
      refine EL.rn (rn_fa rfl Try.underlying66 rfl z3 (by decide) rfl _) rfl rfl (by decide) ?_
      refine SL.sto hS14 0 rfl ({ x21 with num := (w64 ((w64 ((w64 (x2 + 1)) + 1)) + 1)) }) rfl rfl [vi (w64 ((w64 ((w64 (x2 + 1)) + 1)) + 1))] rfl z3 rfl hE10 hx15 (Nat.le_of_ble_eq_true rfl) (fun w s cs h => by rw [Rec_M h]; exact Rec_Mk _ _ _) (fun w15 hS15 => ?_)
      clear hS14
      refine EL.nil ?_
      refine thenE_n ?_
      refine EW.seq ?_
      refine EW.region ?_
      iterate 3 refine EL.q rfl rfl rfl (by decide) ?_
      refine EL.nil ?_
      refine thenE_n ?_
      refine EW.seq ?_
      refine EW.region ?_
      iterate 3 refine EL.q rfl rfl rfl (by decide) ?_
      obtain ⟨x22, hx16, hf20⟩ := bnd hf19
      clear hf19
      refine SL.call hS15 [_] rfl Try.func40 (by kernel_rfl) rfl (by decide) [] (by decide) (L0 := []) rfl (fun b' s hb hw hrd hS => laws_markText_ok hx16 hS) (fun v M w16 hΦ hS16 => ?_)
      clear hS15
      obtain ⟨rfl, rfl⟩ := hΦ
      obtain ⟨x23, hx17, hf21⟩ := bnd hf20
      clear hf20
      obtain ⟨ad11, hE11⟩ := EA.of (d := kRec) (hS16.c 0 rfl) hx17
      refine EL.rn (rn_ix rfl rfl hE11 Try.underlying30 z66 _) rfl rfl (by decide) ?_
      refine EL.rn (rn_fa rfl Try.underlying66 rfl z9 (by decide) rfl _) rfl rfl (by decide) ?_
      refine SL.sto hS16 0 rfl ({ x23 with host := x22 }) rfl rfl [str x22] rfl z9 rfl hE11 hx17 (Nat.le_of_ble_eq_true rfl) (fun w s cs h => by rw [Rec_M h]; exact Rec_Mk _ _ _) (fun w17 hS17 => ?_)
      clear hS16
      refine EL.nil ?_
      refine thenE_n ?_
      refine EW.seq ?_
      refine EW.region ?_
      iterate 3 refine EL.q rfl rfl rfl (by decide) ?_
      refine EL.nil ?_
      refine thenE_n ?_
      refine EW.seq ?_
      refine EW.region ?_
      iterate 3 refine EL.q rfl rfl rfl (by decide) ?_
      obtain ⟨x24, hx18, hf22⟩ := bnd hf21
      clear hf21
      refine SL.call hS17 [_] rfl Try.func40 (by kernel_rfl) rfl (by decide) [] (by decide) (L0 := []) rfl (fun b' s hb hw hrd hS => laws_markText_ok hx18 hS) (fun v M w18 hΦ hS18 => ?_)
      clear hS17
      obtain ⟨rfl, rfl⟩ := hΦ
      obtain ⟨x25, hx19, hf23⟩ := bnd hf22
      clear hf22
      obtain ⟨ad12, hE12⟩ := EA.of (d := kRec) (hS18.c 0 rfl) hx19
      refine EL.rn (rn_ix rfl rfl hE12 Try.underlying30 z66 _) rfl rfl (by decide) ?_
      refine EL.rn (rn_fa rfl Try.underlying66 rfl z9 (by decide) rfl _) rfl rfl (by decide) ?_
      refine SL.sto hS18 0 rfl ({ x25 with text := x24 }) rfl rfl [str x24] rfl z9 rfl hE12 hx19 (Nat.le_of_ble_eq_true rfl) (fun w s cs h => by rw [Rec_M h]; exact Rec_Mk _ _ _) (fun w19 hS19 => ?_)
      clear hS18
      refine EL.nil ?_
      refine thenE_n ?_
      refine EW.region ?_
      iterate 3 refine EL.q rfl rfl rfl (by decide) ?_
      refine EL.nil ?_
      refine inB_n ?_
      refine thenE_n ?_
      refine EW.region ?_
      iterate 3 refine EL.q rfl rfl rfl (by decide) ?_
      refine EL.nil ?_
      obtain rfl := Option.some.inj hf23
      refine thenE_n ?_
      exact ⟨(((((((x1.set (x3).toNat ({ x18 with name := x17 })).set (x3).toNat ({ x19 with ty := (w64 (x2 + 1)) })).set (x3).toNat ({ x20 with ttl := (w64 ((w64 (x2 + 1)) + 1)) })).set (x3).toNat ({ x21 with num := (w64 ((w64 ((w64 (x2 + 1)) + 1)) + 1)) })).set (x3).toNat ({ x23 with host := x22 })).set (x3).toNat ({ x25 with text := x24 })), (w64 ((w64 ((w64 ((w64 ((w64 ((w64 (x2 + 1)) + 1)) + 1)) + 1)) + 1)) + 1)), (w64 (x3 + 1))), [(0, sl v1), (1, vi (w64 ((w64 ((w64 ((w64 ((w64 ((w64 (x2 + 1)) + 1)) + 1)) + 1)) + 1)) + 1))), (5, vi (w64 (x3 + 1)))], rfl, ⟨rfl, rfl, rfl, trivial⟩, rfl, hS19.sel [0] rfl (by decide)⟩
    · skip
      have hf24 := bifF hc2 hf13
      clear hf13
      refine EW.exit ?_
      repeat (first | refine thenE_x ?_ | refine inB_x ?_ | refine inB_y (by decide) ?_)
      obtain rfl := Option.some.inj hf24
      obtain rfl := hbr1 _ rfl
      refine thenE_n ?_
      exact ⟨[(1, vi x2)], ⟨rfl, trivial⟩, x1, x2, rfl, rfl, hS10.sel [0] rfl (by decide)⟩
  · skip
    rintro e w20 ⟨x15, x16, rfl, rfl, hS20⟩
    refine thenE_n ?_
    refine EW.seq ?_
    refine EW.region ?_
    iterate 2 refine EL.q rfl rfl rfl (by decide) ?_
    refine EL.nil ?_
    refine thenE_n ?_
    refine EW.ret ?_
    repeat (first | refine thenE_r ?_ | refine inB_r ?_)
    obtain rfl := Option.some.inj hf12
    exact ⟨_, res rfl, _, _, rfl, ⟨rfl, rfl⟩, hS20.sel [0] rfl (by decide)⟩

-- 28 loop.example/g00497/laws.markEntryS
set_option maxHeartbeats 4000000 in
set_option maxRecDepth 100000 in
theorem laws_markEntryS_ok {k : Nat} {a0 : List Ent} {a1 : Int} {r : Int × List Ent} (hf : laws_markEntryS k a0 a1 = some r) {b w : World} {s : Nat → Prop} {v1 : Sv} (hS : St b w s [.row (kEnt 66) 32 (sl v1) a0] w) : Calls Try.prog 28 ([sl v1, vi a1] : List Value).toArray w fun e w' => ∃ v M, e = .returned v ∧ (v = vi r.1 ∧ M = [.row (kEnt 66) 32 (sl v1) r.2]) ∧ St b w s M w' := by
  rw [laws_markEntryS] at hf
  refine calls_of (n := 58) (args := [_, _]) Try.func28 rfl rfl (Nat.le_of_ble_eq_true rfl) ?_
  refine EW.seq ?_
  refine EW.region ?_
  refine EL.q rfl rfl rfl (by decide) ?_
  refine EL.nil ?_
  refine thenE_n ?_
  refine EW.seq ?_
  refine EW.seq ?_
  refine EW.region ?_
  refine EL.q rfl rfl rfl (by decide) ?_
  refine EL.nil ?_
  refine thenE_n ?_
  obtain ⟨o1, hx9, hf11⟩ := bnd hf
  clear hf
  refine EW.cut (fun e W => ∃ x14 : List Ent, ∃ x15 : Int, o1 = .brk (x14, x15) ∧ e = [(1, vi x15)] ∧ St b w s [.row (kEnt 66) 32 (sl v1) x14] W) ?_ ?_
  · skip
    refine EW.block ?_
    refine EW.loopP hx9 (fun (x : (List Ent) × Int × Int) e W => match x with | (x1, x2, x3) => e = [(0, sl v1), (1, vi x2), (5, vi x3)] ∧ St b w s [.row (kEnt 66) 32 (sl v1) x1] W) [(0, sl v1), (1, vi a1), (5, vi 0)] ⟨rfl, rfl, rfl, trivial⟩ ⟨rfl, hS.sel [0] rfl (by decide)⟩ ?_
    rintro ⟨x1, x2, x3⟩ e w8 ⟨rfl, hS10⟩ st1 hf12 hbr1 hrt1
    rw [laws_markEntryS_b1] at hf12
    refine EW.seq ?_
    refine EW.seq ?_
    refine EW.region ?_
    iterate 2 refine EL.q rfl rfl rfl (by decide) ?_
    refine EL.rn (rn_len rfl (K2.C.sl (d := (kEnt 66)) (hS10.c 0 rfl)) Try.underlying35 _) rfl rfl (by decide) ?_
    refine EL.q rfl rfl rfl (by decide) ?_
    refine EL.nil ?_
    refine thenE_n ?_
    refine EW.cond rfl (fun hc2 => ?_) (fun hc2 => ?_)
    · skip
      have hf13 := bifT hc2 hf12
      clear hf12
      refine EW.skip ?_
      refine thenE_n ?_
      refine EW.seq ?_
      refine EW.block ?_
      refine EW.seq ?_
      refine EW.region ?_
      iterate 3 refine EL.q rfl rfl rfl (by decide) ?_
      obtain ⟨x16, hx10, hf14⟩ := bnd hf13
      clear hf13
      refine SL.call hS10 [_] rfl Try.func40 (by kernel_rfl) rfl (by decide) [] (by decide) (L0 := []) rfl (fun b' s hb hw hrd hS => laws_markText_ok hx10 hS) (fun v M w9 hΦ hS11 => ?_)
      clear hS10
      obtain ⟨rfl, rfl⟩ := hΦ
      obtain ⟨x17, hx11, hf15⟩ := bnd hf14
      clear hf14
      obtain ⟨ad7, hE7⟩ := EA.of (d := (kEnt 66)) (hS11.c 0 rfl) hx11
      refine EL.rn (rn_ix rfl rfl hE7 Try.underlying35 z32 _) rfl rfl (by decide) ?_
      refine EL.rn (rn_fa rfl Try.underlying32 rfl z29 (by decide) rfl _) rfl rfl (by decide) ?_
      refine EL.rn (rn_fa rfl Try.underlying29 rfl z9 (by decide) rfl _) rfl rfl (by decide) ?_
      refine SL.sto hS11 0 rfl ({ x17 with q := { x17.q with name := x16 } }) rfl rfl [str x16] rfl z9 rfl hE7 hx11 (Nat.le_of_ble_eq_true rfl) (fun w s cs h => by obtain ⟨v, rfl, hr⟩ := Ent_M h; exact Ent_Mk hr) (fun w10 hS12 => ?_)
      clear hS11
      refine EL.nil ?_
      refine thenE_n ?_
      refine EW.seq ?_
      refine EW.region ?_
      iterate 3 refine EL.q rfl rfl rfl (by decide) ?_
      refine EL.nil ?_
      refine thenE_n ?_
      refine EW.seq ?_
      refine EW.region ?_
      iterate 3 refine EL.q rfl rfl rfl (by decide) ?_
      obtain ⟨x18, hx12, hf16⟩ := bnd hf15
      clear hf15
      obtain ⟨ad8, hE8⟩ := EA.of (d := (kEnt 66)) (hS12.c 0 rfl) hx12
      refine EL.rn (rn_ix rfl rfl hE8 Try.underlying35 z32 _) rfl rfl (by decide) ?_
      refine EL.rn (rn_fa rfl Try.underlying32 rfl z29 (by decide) rfl _) rfl rfl (by decide) ?_
      refine EL.rn (rn_fa rfl Try.underlying29 rfl z3 (by decide) rfl _) rfl rfl (by decide) ?_
      refine SL.sto hS12 0 rfl ({ x18 with q := { x18.q with ty := (w64 (x2 + 1)) } }) rfl rfl [vi (w64 (x2 + 1))] rfl z3 rfl hE8 hx12 (Nat.le_of_ble_eq_true rfl) (fun w s cs h => by obtain ⟨v, rfl, hr⟩ := Ent_M h; exact Ent_Mk hr) (fun w11 hS13 => ?_)
      clear hS12
      refine EL.nil ?_
      refine thenE_n ?_
      refine EW.seq ?_
      refine EW.region ?_
      iterate 3 refine EL.q rfl rfl rfl (by decide) ?_
      refine EL.nil ?_
      refine thenE_n ?_
      refine EW.seq ?_
      refine EW.region ?_
      iterate 3 refine EL.q rfl rfl rfl (by decide) ?_
      obtain ⟨x19, hx13, hf17⟩ := bnd hf16
      clear hf16
      obtain ⟨ad9, hE9⟩ := EA.of (d := (kEnt 66)) (hS13.c 0 rfl) hx13
      refine EL.rn (rn_ix rfl rfl hE9 Try.underlying35 z32 _) rfl rfl (by decide) ?_
      refine EL.rn (rn_fa rfl Try.underlying32 rfl z3 (by decide) rfl _) rfl rfl (by decide) ?_
      refine SL.sto hS13 0 rfl ({ x19 with kind := (w64 ((w64 (x2 + 1)) + 1)) }) rfl rfl [vi (w64 ((w64 (x2 + 1)) + 1))] rfl z3 rfl hE9 hx13 (Nat.le_of_ble_eq_true rfl) (fun w s cs h => by obtain ⟨v, rfl, hr⟩ := Ent_M h; exact Ent_Mk hr) (fun w12 hS14 => ?_)
      clear hS13
      refine EL.nil ?_
      refine thenE_n ?_
      refine EW.seq ?_
      refine EW.region ?_
      iterate 3 refine EL.q rfl rfl rfl (by decide) ?_
      refine EL.nil ?_
      refine thenE_n ?_
      refine EW.seq ?_
      refine EW.region ?_
      iterate 2 refine EL.q rfl rfl rfl (by decide) ?_
      obtain ⟨x20, hx14, hf18⟩ := bnd hf17
      clear hf17
      obtain ⟨ad10, hE10⟩ := EA.of (d := (kEnt 66)) (hS14.c 0 rfl) hx14
      refine EL.rn (rn_ix rfl rfl hE10 Try.underlying35 z32 _) rfl rfl (by decide) ?_
      refine EL.rn (rn_fa rfl Try.underlying32 rfl z30 (by decide) rfl _) rfl rfl (by decide) ?_
      obtain ⟨v3, hA2, hr2⟩ := Ent_at (hS14.c 0 rfl) hE10 hx14
      refine EL.rn (rn_ld rfl Try.underlying30 (by simp) (by simp) hA2 rfl) rfl rfl (by decide) ?_
      refine EL.q rfl rfl rfl (by decide) ?_
      obtain ⟨x21, hx15, hf19⟩ := bnd hf18
      clear hf18
      have hS15 := hS14.openEnt 0 rfl hE10 hx14 hA2
      clear hS14
      refine SL.call hS15 [_, _] rfl Try.func29 (by kernel_rfl) rfl (by decide) [1] (by decide) (L0 := [.row kRec 66 (sl v3) x20.l]) rfl (fun b' s hb hw hrd hS => laws_markRecordS_ok hx15 hS) (fun v M w13 hΦ hS16 => ?_)
      clear hS15
      obtain ⟨rfl, rfl⟩ := hΦ
      have hS17 := hS16.shutEnt 0 1 rfl rfl (by decide)
      clear hS16
      refine EL.q rfl rfl rfl (by decide) ?_
      refine EL.nil ?_
      refine thenE_n ?_
      refine EW.seq ?_
      refine EW.region ?_
      iterate 3 refine EL.q rfl rfl rfl (by decide) ?_
      obtain ⟨x22, hx16, hf20⟩ := bnd hf19
      clear hf19
      obtain ⟨ad11, hE11⟩ := EA.of (d := (kEnt 66)) (hS17.c 0 rfl) hx16
      refine EL.rn (rn_ix rfl rfl hE11 Try.underlying35 z32 _) rfl rfl (by decide) ?_
      refine EL.rn (rn_fa rfl Try.underlying32 rfl z3 (by decide) rfl _) rfl rfl (by decide) ?_
      refine SL.sto hS17 0 rfl ({ x22 with rank := x21.1 }) rfl rfl [vi x21.1] rfl z3 rfl hE11 hx16 (Nat.le_of_ble_eq_true rfl) (fun w s cs h => by obtain ⟨v, rfl, hr⟩ := Ent_M h; exact Ent_Mk hr) (fun w14 hS18 => ?_)
      clear hS17
      refine EL.nil ?_
      refine thenE_n ?_
      refine EW.seq ?_
      refine EW.region ?_
      iterate 3 refine EL.q rfl rfl rfl (by decide) ?_
      refine EL.nil ?_
      refine thenE_n ?_
      refine EW.seq ?_
      refine EW.region ?_
      iterate 3 refine EL.q rfl rfl rfl (by decide) ?_
      obtain ⟨x23, hx17, hf21⟩ := bnd hf20
      clear hf20
      obtain ⟨ad12, hE12⟩ := EA.of (d := (kEnt 66)) (hS18.c 0 rfl) hx17
      refine EL.rn (rn_ix rfl rfl hE12 Try.underlying35 z32 _) rfl rfl (by decide) ?_
      refine EL.rn (rn_fa rfl Try.underlying32 rfl z3 (by decide) rfl _) rfl rfl (by decide) ?_
      refine SL.sto hS18 0 rfl ({ x23 with till := (w64 (x21.1 + 1)) }) rfl rfl [vi (w64 (x21.1 + 1))] rfl z3 rfl hE12 hx17 (Nat.le_of_ble_eq_true rfl) (fun w s cs h => by obtain ⟨v, rfl, hr⟩ := Ent_M h; exact Ent_Mk hr) (fun w15 hS19 => ?_)
      clear hS18
      refine EL.nil ?_
      refine thenE_n ?_
      refine EW.region ?_
      iterate 3 refine EL.q rfl rfl rfl (by decide) ?_
      refine EL.nil ?_
      refine inB_n ?_
      refine thenE_n ?_
      refine EW.region ?_
      iterate 3 refine EL.q rfl rfl rfl (by decide) ?_
      refine EL.nil ?_
      obtain rfl := Option.some.inj hf21
      refine thenE_n ?_
      exact ⟨(((((((x1.set (x3).toNat ({ x17 with q := { x17.q with name := x16 } })).set (x3).toNat ({ x18 with q := { x18.q with ty := (w64 (x2 + 1)) } })).set (x3).toNat ({ x19 with kind := (w64 ((w64 (x2 + 1)) + 1)) })).set (x3).toNat { x20 with l := x21.2 }).set (x3).toNat ({ x22 with rank := x21.1 })).set (x3).toNat ({ x23 with till := (w64 (x21.1 + 1)) })), (w64 ((w64 (x21.1 + 1)) + 1)), (w64 (x3 + 1))), [(0, sl v1), (1, vi (w64 ((w64 (x21.1 + 1)) + 1))), (5, vi (w64 (x3 + 1)))], rfl, ⟨rfl, rfl, rfl, trivial⟩, rfl, hS19.sel [0] rfl (by decide)⟩
    · skip
      have hf22 := bifF hc2 hf12
      clear hf12
      refine EW.exit ?_
      repeat (first | refine thenE_x ?_ | refine inB_x ?_ | refine inB_y (by decide) ?_)
      obtain rfl := Option.some.inj hf22
      obtain rfl := hbr1 _ rfl
      refine thenE_n ?_
      exact ⟨[(1, vi x2)], ⟨rfl, trivial⟩, x1, x2, rfl, rfl, hS10.sel [0] rfl (by decide)⟩
  · skip
    rintro e w16 ⟨x14, x15, rfl, rfl, hS20⟩
    refine thenE_n ?_
    refine EW.seq ?_
    refine EW.region ?_
    iterate 2 refine EL.q rfl rfl rfl (by decide) ?_
    refine EL.nil ?_
    refine thenE_n ?_
    refine EW.ret ?_
    repeat (first | refine thenE_r ?_ | refine inB_r ?_)
    obtain rfl := Option.some.inj hf11
    exact ⟨_, res rfl, _, _, rfl, ⟨rfl, rfl⟩, hS20.sel [0] rfl (by decide)⟩

-- 13 loop.example/g00497/laws.markCache
set_option maxHeartbeats 4000000 in
set_option maxRecDepth 100000 in
theorem laws_markCache_ok {k : Nat} {a0 : Cac} {a1 : Int} {r : Int × Cac} (hf : laws_markCache k a0 a1 = some r) {b w : World} {s : Nat → Prop} {v1 : Sv} (hS : St b w s [.row (kEnt 66) 32 (sl v1) a0.l] w) : Calls Try.prog 13 ([.agg #[vi a0.cap, sl v1], vi a1] : List Value).toArray w fun e w' => ∃ v M, e = .returned v ∧ (v = vi r.1 ∧ M = [.row (kEnt 66) 32 (sl v1) r.2.l]) ∧ St b w s M w' := by
  rw [laws_markCache] at hf
  refine calls_of (n := 10) (args := [_, _]) Try.func13 rfl rfl (Nat.le_of_ble_eq_true rfl) ?_
  refine EW.seq ?_
  refine EW.region ?_
  refine SL.box hS rfl (by decide) (fun g1 w1 hS1 => ?_)
  clear hS
  refine EL.q rfl rfl rfl (by decide) ?_
  refine EL.nil ?_
  refine thenE_n ?_
  refine EW.seq ?_
  refine EW.region ?_
  refine EL.rn (rn_fa rfl Try.underlying37 rfl z35 (by decide) rfl _) rfl rfl (by decide) ?_
  refine EL.rn (rn_ld rfl Try.underlying35 (by simp) (by simp) (hS1.a 1 rfl) rfl) rfl rfl (by decide) ?_
  refine EL.q rfl rfl rfl (by decide) ?_
  obtain ⟨x1, hx1, hf1⟩ := bnd hf
  clear hf
  refine SL.call hS1 [_, _] rfl Try.func28 (by kernel_rfl) rfl (by decide) [0] (by decide) (L0 := [.row (kEnt 66) 32 (sl v1) a0.l]) rfl (fun b' s hb hw hrd hS => laws_markEntryS_ok hx1 hS) (fun v M w2 hΦ hS2 => ?_)
  clear hS1
  obtain ⟨rfl, rfl⟩ := hΦ
  refine EL.q rfl rfl rfl (by decide) ?_
  refine EL.nil ?_
  refine thenE_n ?_
  refine EW.seq ?_
  refine EW.region ?_
  iterate 2 refine EL.q rfl rfl rfl (by decide) ?_
  refine EL.nil ?_
  refine thenE_n ?_
  refine EW.ret ?_
  repeat (first | refine thenE_r ?_ | refine inB_r ?_)
  obtain rfl := Option.some.inj hf1
  exact ⟨_, res rfl, _, _, rfl, ⟨rfl, rfl⟩, hS2.sel [0] rfl (by decide)⟩

-- 14 loop.example/g00497/laws.markEntry
set_option maxHeartbeats 4000000 in
set_option maxRecDepth 100000 in
theorem laws_markEntry_ok {k : Nat} {a0 : Ent} {a1 : Int} {r : Int × Ent} (hf : laws_markEntry k a0 a1 = some r) {b w : World} {s : Nat → Prop} {v1 : Sv} (hS : St b w s [.row kRec 66 (sl v1) a0.l] w) : Calls Try.prog 14 ([.agg #[str a0.q.name, vi a0.q.ty, vi a0.kind, sl v1, vi a0.rank, vi a0.till], vi a1] : List Value).toArray w fun e w' => ∃ v M, e = .returned v ∧ (v = vi r.1 ∧ M = [.row kRec 66 (sl v1) r.2.l]) ∧ St b w s M w' := by
  rw [laws_markEntry] at hf
  refine calls_of (n := 10) (args := [_, _]) Try.func14 rfl rfl (Nat.le_of_ble_eq_true rfl) ?_
  refine EW.seq ?_
  refine EW.region ?_
  refine SL.box hS rfl (by decide) (fun g1 w1 hS1 => ?_)
  clear hS
  refine EL.q rfl rfl rfl (by decide) ?_
  refine EL.nil ?_
  refine thenE_n ?_
  refine EW.seq ?_
  refine EW.region ?_
  refine EL.rn (rn_fa rfl Try.underlying32 rfl z30 (by decide) rfl _) rfl rfl (by decide) ?_
  refine EL.rn (rn_ld rfl Try.underlying30 (by simp) (by simp) (hS1.a 1 rfl) rfl) rfl rfl (by decide) ?_
  refine EL.q rfl rfl rfl (by decide) ?_
  obtain ⟨x1, hx1, hf1⟩ := bnd hf
  clear hf
  refine SL.call hS1 [_, _] rfl Try.func29 (by kernel_rfl) rfl (by decide) [0] (by decide) (L0 := [.row kRec 66 (sl v1) a0.l]) rfl (fun b' s hb hw hrd hS => laws_markRecordS_ok hx1 hS) (fun v M w2 hΦ hS2 => ?_)
  clear hS1
  obtain ⟨rfl, rfl⟩ := hΦ
  refine EL.q rfl rfl rfl (by decide) ?_
  refine EL.nil ?_
  refine thenE_n ?_
  refine EW.seq ?_
  refine EW.region ?_
  iterate 2 refine EL.q rfl rfl rfl (by decide) ?_
  refine EL.nil ?_
  refine thenE_n ?_
  refine EW.ret ?_
  repeat (first | refine thenE_r ?_ | refine inB_r ?_)
  obtain rfl := Option.some.inj hf1
  exact ⟨_, res rfl, _, _, rfl, ⟨rfl, rfl⟩, hS2.sel [0] rfl (by decide)⟩
end Go.Proofs.Ytcolndejambcmaa.Ew
