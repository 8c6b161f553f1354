/- The code answers as its pure twin (printed by gen2.py). -/
import Derived.Test.YtcolndejambcmaaF
import Derived.Test.YtcolndejambcmaaY
namespace Go.Proofs.Ytcolndejambcmaa.Ew
open Go.RowKit Go.Proofs.YtcolndejambcmaaW.PrintWords Go.Proofs.YtcolndejambcmaaW.PrintLast
set_option linter.unusedVariables false
set_option linter.unusedSimpArgs false
-- 6 loop.example/g00497/laws.szQuest
set_option maxHeartbeats 4000000 in
set_option maxRecDepth 100000 in
theorem laws_szQuest_ok {a0 : Que} {a1 : Int} {r : Int} (hf : laws_szQuest a0 a1 = some r) {b w : World} {s : Nat → Prop} (hS : St b w s [] w) : Calls Try.prog 6 ([.agg #[str a0.name, vi a0.ty], vi a1] : List Value).toArray w fun e w' => ∃ v M, e = .returned v ∧ (v = vi r ∧ M = []) ∧ St b w s M w' := by
  rw [laws_szQuest] at hf
  refine calls_of (n := 13) (args := [_, _]) Try.func6 rfl rfl (Nat.le_of_ble_eq_true rfl) ?_
  refine EW.seq ?_
  refine EW.region ?_
  refine SL.box hS rfl (by decide) (fun g1 w1 hS1 => ?_)
  clear hS
  refine EL.q rfl rfl rfl (by decide) ?_
  refine EL.nil ?_
  refine thenE_n ?_
  refine EW.seq ?_
  refine EW.region ?_
  refine EL.q rfl rfl rfl (by decide) ?_
  refine EL.rn (rn_fa rfl Try.underlying26 rfl z9 (by decide) rfl _) rfl rfl (by decide) ?_
  refine EL.rn (rn_ld rfl Try.underlying9 (by simp) (by simp) (hS1.a 0 rfl) rfl) rfl rfl (by decide) ?_
  refine EL.rn (rn_slen rfl Try.underlying9 _) rfl rfl (by decide) ?_
  iterate 2 refine EL.q rfl rfl rfl (by decide) ?_
  refine EL.nil ?_
  refine thenE_n ?_
  refine EW.seq ?_
  refine EW.seq ?_
  refine EW.region ?_
  iterate 2 refine EL.q rfl rfl rfl (by decide) ?_
  refine EL.nil ?_
  refine thenE_n ?_
  refine EW.cond rfl (fun hc1 => ?_) (fun hc1 => ?_)
  · skip
    have hf1 := bifT hc1 hf
    clear hf
    refine EW.seq ?_
    refine EW.region ?_
    refine EL.q rfl rfl rfl (by decide) ?_
    refine EL.nil ?_
    refine thenE_n ?_
    refine EW.ret ?_
    repeat (first | refine thenE_r ?_ | refine inB_r ?_)
    obtain rfl := Option.some.inj hf1
    exact ⟨_, res rfl, _, _, rfl, ⟨rfl, rfl⟩, hS1.sel [] rfl (by decide)⟩
  · skip
    have hf2 := bifF hc1 hf
    clear hf
    refine EW.skip ?_
    refine thenE_n ?_
    refine EW.seq ?_
    refine EW.region ?_
    iterate 2 refine EL.q rfl rfl rfl (by decide) ?_
    refine EL.nil ?_
    refine thenE_n ?_
    refine EW.ret ?_
    repeat (first | refine thenE_r ?_ | refine inB_r ?_)
    obtain rfl := Option.some.inj hf2
    exact ⟨_, res rfl, _, _, rfl, ⟨rfl, rfl⟩, hS1.sel [] rfl (by decide)⟩

-- 45 loop.example/g00497/laws.szRecord
set_option maxHeartbeats 4000000 in
set_option maxRecDepth 100000 in
theorem laws_szRecord_ok {a0 : Rec} {a1 : Int} {r : Int} (hf : laws_szRecord a0 a1 = some r) {b w : World} {s : Nat → Prop} (hS : St b w s [] w) : Calls Try.prog 45 ([.agg #[str a0.name, vi a0.ty, vi a0.ttl, vi a0.num, str a0.host, str a0.text], vi a1] : List Value).toArray w fun e w' => ∃ v M, e = .returned v ∧ (v = vi r ∧ M = []) ∧ St b w s M w' := by
  rw [laws_szRecord] at hf
  refine calls_of (n := 27) (args := [_, _]) Try.func45 rfl rfl (Nat.le_of_ble_eq_true rfl) ?_
  refine EW.seq ?_
  refine EW.region ?_
  refine SL.box hS rfl (by decide) (fun g1 w1 hS1 => ?_)
  clear hS
  refine EL.q rfl rfl rfl (by decide) ?_
  refine EL.nil ?_
  refine thenE_n ?_
  refine EW.seq ?_
  refine EW.region ?_
  refine EL.q rfl rfl rfl (by decide) ?_
  refine EL.rn (rn_fa rfl Try.underlying75 rfl z9 (by decide) rfl _) rfl rfl (by decide) ?_
  refine EL.rn (rn_ld rfl Try.underlying9 (by simp) (by simp) (hS1.a 0 rfl) rfl) rfl rfl (by decide) ?_
  refine EL.rn (rn_slen rfl Try.underlying9 _) rfl rfl (by decide) ?_
  iterate 2 refine EL.q rfl rfl rfl (by decide) ?_
  refine EL.nil ?_
  refine thenE_n ?_
  refine EW.seq ?_
  refine EW.seq ?_
  refine EW.region ?_
  iterate 2 refine EL.q rfl rfl rfl (by decide) ?_
  refine EL.nil ?_
  refine thenE_n ?_
  refine EW.cond rfl (fun hc1 => ?_) (fun hc1 => ?_)
  · skip
    have hf1 := bifT hc1 hf
    clear hf
    refine EW.seq ?_
    refine EW.region ?_
    refine EL.q rfl rfl rfl (by decide) ?_
    refine EL.nil ?_
    refine thenE_n ?_
    refine EW.ret ?_
    repeat (first | refine thenE_r ?_ | refine inB_r ?_)
    obtain rfl := Option.some.inj hf1
    exact ⟨_, res rfl, _, _, rfl, ⟨rfl, rfl⟩, hS1.sel [] rfl (by decide)⟩
  · skip
    have hf2 := bifF hc1 hf
    clear hf
    refine EW.skip ?_
    refine thenE_n ?_
    refine EW.seq ?_
    refine EW.region ?_
    refine EL.q rfl rfl rfl (by decide) ?_
    refine EL.rn (rn_fa rfl Try.underlying75 rfl z9 (by decide) rfl _) rfl rfl (by decide) ?_
    refine EL.rn (rn_ld rfl Try.underlying9 (by simp) (by simp) (hS1.a 0 rfl) rfl) rfl rfl (by decide) ?_
    refine EL.rn (rn_slen rfl Try.underlying9 _) rfl rfl (by decide) ?_
    iterate 2 refine EL.q rfl rfl rfl (by decide) ?_
    refine EL.nil ?_
    refine thenE_n ?_
    refine EW.seq ?_
    refine EW.seq ?_
    refine EW.region ?_
    iterate 2 refine EL.q rfl rfl rfl (by decide) ?_
    refine EL.nil ?_
    refine thenE_n ?_
    refine EW.cond rfl (fun hc2 => ?_) (fun hc2 => ?_)
    · skip
      have hf3 := bifT hc2 hf2
      clear hf2
      refine EW.seq ?_
      refine EW.region ?_
      refine EL.q rfl rfl rfl (by decide) ?_
      refine EL.nil ?_
      refine thenE_n ?_
      refine EW.ret ?_
      repeat (first | refine thenE_r ?_ | refine inB_r ?_)
      obtain rfl := Option.some.inj hf3
      exact ⟨_, res rfl, _, _, rfl, ⟨rfl, rfl⟩, hS1.sel [] rfl (by decide)⟩
    · skip
      have hf4 := bifF hc2 hf2
      clear hf2
      refine EW.skip ?_
      refine thenE_n ?_
      refine EW.seq ?_
      refine EW.region ?_
      refine EL.q rfl rfl rfl (by decide) ?_
      refine EL.rn (rn_fa rfl Try.underlying75 rfl z9 (by decide) rfl _) rfl rfl (by decide) ?_
      refine EL.rn (rn_ld rfl Try.underlying9 (by simp) (by simp) (hS1.a 0 rfl) rfl) rfl rfl (by decide) ?_
      refine EL.rn (rn_slen rfl Try.underlying9 _) rfl rfl (by decide) ?_
      iterate 2 refine EL.q rfl rfl rfl (by decide) ?_
      refine EL.nil ?_
      refine thenE_n ?_
      refine EW.seq ?_
      refine EW.seq ?_
      refine EW.region ?_
      iterate 2 refine EL.q rfl rfl rfl (by decide) ?_
      refine EL.nil ?_
      refine thenE_n ?_
      refine EW.cond rfl (fun hc3 => ?_) (fun hc3 => ?_)
      · skip
        have hf5 := bifT hc3 hf4
        clear hf4
        refine EW.seq ?_
        refine EW.region ?_
        refine EL.q rfl rfl rfl (by decide) ?_
        refine EL.nil ?_
        refine thenE_n ?_
        refine EW.ret ?_
        repeat (first | refine thenE_r ?_ | refine inB_r ?_)
        obtain rfl := Option.some.inj hf5
        exact ⟨_, res rfl, _, _, rfl, ⟨rfl, rfl⟩, hS1.sel [] rfl (by decide)⟩
      · skip
        have hf6 := bifF hc3 hf4
        clear hf4
        refine EW.skip ?_
        refine thenE_n ?_
        refine EW.seq ?_
        refine EW.region ?_
        iterate 2 refine EL.q rfl rfl rfl (by decide) ?_
        refine EL.nil ?_
        refine thenE_n ?_
        refine EW.ret ?_
        repeat (first | refine thenE_r ?_ | refine inB_r ?_)
        obtain rfl := Option.some.inj hf6
        exact ⟨_, res rfl, _, _, rfl, ⟨rfl, rfl⟩, hS1.sel [] rfl (by decide)⟩

-- 43 loop.example/g00497/laws.szRecordS
set_option maxHeartbeats 4000000 in
set_option maxRecDepth 100000 in
theorem laws_szRecordS_ok {k : Nat} {a0 : List Rec} {a1 : Int} {r : Int} (hf : laws_szRecordS k a0 a1 = some r) {b w : World} {s : Nat → Prop} {v1 : Sv} (hr1 : kRec.C b (sl v1) a0) (hS : St b w s [] w) : Calls Try.prog 43 ([sl v1, vi a1] : List Value).toArray w fun e w' => ∃ v M, e = .returned v ∧ (v = vi r ∧ M = []) ∧ St b w s M w' := by
  rw [laws_szRecordS] at hf
  refine calls_of (n := 27) (args := [_, _]) Try.func43 rfl rfl (Nat.le_of_ble_eq_true rfl) ?_
  refine EW.seq ?_
  refine EW.region ?_
  refine EL.q rfl rfl rfl (by decide) ?_
  refine EL.nil ?_
  refine thenE_n ?_
  refine EW.seq ?_
  refine EW.region ?_
  iterate 2 refine EL.q rfl rfl rfl (by decide) ?_
  refine EL.rn (rn_len rfl (K2.C.sl (d := kRec) (hS.now hr1)) Try.underlying61 _) rfl rfl (by decide) ?_
  iterate 2 refine EL.q rfl rfl rfl (by decide) ?_
  refine EL.nil ?_
  refine thenE_n ?_
  refine EW.seq ?_
  refine EW.seq ?_
  refine EW.region ?_
  iterate 2 refine EL.q rfl rfl rfl (by decide) ?_
  refine EL.nil ?_
  refine thenE_n ?_
  refine EW.cond rfl (fun hc1 => ?_) (fun hc1 => ?_)
  · skip
    have hf1 := bifT hc1 hf
    clear hf
    refine EW.seq ?_
    refine EW.region ?_
    refine EL.q rfl rfl rfl (by decide) ?_
    refine EL.nil ?_
    refine thenE_n ?_
    refine EW.ret ?_
    repeat (first | refine thenE_r ?_ | refine inB_r ?_)
    obtain rfl := Option.some.inj hf1
    exact ⟨_, res rfl, _, _, rfl, ⟨rfl, rfl⟩, hS.sel [] rfl (by decide)⟩
  · skip
    have hf2 := bifF hc1 hf
    clear hf
    refine EW.skip ?_
    refine thenE_n ?_
    refine EW.seq ?_
    refine EW.seq ?_
    refine EW.region ?_
    refine EL.q rfl rfl rfl (by decide) ?_
    refine EL.nil ?_
    refine thenE_n ?_
    obtain ⟨o1, hx3, hf9⟩ := bnd hf2
    clear hf2
    refine EW.cut (fun e W => ∃ x6 : Int, o1 = .brk x6 ∧ e = [(1, vi x6)] ∧ St b w s [] W) ?_ ?_
    · skip
      refine EW.block ?_
      refine EW.loopP hx3 (fun (x : Int × Int) e W => match x with | (x1, x2) => e = [(0, sl v1), (1, vi x1), (5, vi x2)] ∧ St b w s [] W) [(0, sl v1), (1, vi (w64 (a1 - (a0.length : Int)))), (5, vi 0)] ⟨rfl, rfl, rfl, trivial⟩ ⟨rfl, hS.sel [] rfl (by decide)⟩ ?_
      rintro ⟨x1, x2⟩ e w2 ⟨rfl, hS2⟩ st1 hf10 hbr1 hrt1
      rw [laws_szRecordS_b1] at hf10
      refine EW.seq ?_
      refine EW.seq ?_
      refine EW.region ?_
      iterate 2 refine EL.q rfl rfl rfl (by decide) ?_
      refine EL.rn (rn_len rfl (K2.C.sl (d := kRec) (hS2.now hr1)) Try.underlying61 _) rfl rfl (by decide) ?_
      refine EL.q rfl rfl rfl (by decide) ?_
      refine EL.nil ?_
      refine thenE_n ?_
      refine EW.cond rfl (fun hc4 => ?_) (fun hc4 => ?_)
      · skip
        have hf11 := bifT hc4 hf10
        clear hf10
        refine EW.skip ?_
        refine thenE_n ?_
        refine EW.seq ?_
        refine EW.block ?_
        refine EW.seq ?_
        refine EW.region ?_
        iterate 2 refine EL.q rfl rfl rfl (by decide) ?_
        obtain ⟨x7, hx4, hf12⟩ := bnd hf11
        clear hf11
        obtain ⟨ad2, hE2⟩ := EA.of (d := kRec) (hS2.now hr1) hx4
        refine EL.rn (rn_ix rfl rfl hE2 Try.underlying61 z75 _) rfl rfl (by decide) ?_
        refine EL.rn (rn_lds (m := 6) [str x7.name, vi x7.ty, vi x7.ttl, vi x7.num, str x7.host, str x7.text] rfl Try.underlying75 (Rec_at (hS2.now hr1) hE2 hx4) rfl z75) rfl rfl (by decide) ?_
        refine EL.q rfl rfl rfl (by decide) ?_
        obtain ⟨x8, hx5, hf13⟩ := bnd hf12
        clear hf12
        refine SL.call hS2 [_, _] rfl Try.func45 (by kernel_rfl) rfl (by decide) [] (by decide) (L0 := []) rfl (fun b' s hb hw hrd hS => laws_szRecord_ok hx5 hS) (fun v M w3 hΦ hS3 => ?_)
        clear hS2
        obtain ⟨rfl, rfl⟩ := hΦ
        refine EL.q rfl rfl rfl (by decide) ?_
        refine EL.nil ?_
        refine thenE_n ?_
        refine EW.seq ?_
        refine EW.region ?_
        iterate 2 refine EL.q rfl rfl rfl (by decide) ?_
        refine EL.nil ?_
        refine thenE_n ?_
        refine EW.cond rfl (fun hc5 => ?_) (fun hc5 => ?_)
        · skip
          have hf14 := bifT hc5 hf13
          clear hf13
          refine EW.seq ?_
          refine EW.region ?_
          refine EL.q rfl rfl rfl (by decide) ?_
          refine EL.nil ?_
          refine thenE_n ?_
          refine EW.ret ?_
          repeat (first | refine thenE_r ?_ | refine inB_r ?_)
          obtain rfl := Option.some.inj hf14
          obtain rfl := hrt1 _ rfl
          obtain rfl := Option.some.inj hf9
          exact ⟨_, res rfl, _, _, rfl, ⟨rfl, rfl⟩, hS3.sel [] rfl (by decide)⟩
        · skip
          have hf15 := bifF hc5 hf13
          clear hf13
          refine EW.skip ?_
          refine inB_n ?_
          refine thenE_n ?_
          refine EW.region ?_
          iterate 3 refine EL.q rfl rfl rfl (by decide) ?_
          refine EL.nil ?_
          obtain rfl := Option.some.inj hf15
          refine thenE_n ?_
          exact ⟨(x8, (w64 (x2 + 1))), [(0, sl v1), (1, vi x8), (5, vi (w64 (x2 + 1)))], rfl, ⟨rfl, rfl, rfl, trivial⟩, rfl, hS3.sel [] rfl (by decide)⟩
      · skip
        have hf16 := bifF hc4 hf10
        clear hf10
        refine EW.exit ?_
        repeat (first | refine thenE_x ?_ | refine inB_x ?_ | refine inB_y (by decide) ?_)
        obtain rfl := Option.some.inj hf16
        obtain rfl := hbr1 _ rfl
        refine thenE_n ?_
        exact ⟨[(1, vi x1)], ⟨rfl, trivial⟩, x1, rfl, rfl, hS2.sel [] rfl (by decide)⟩
    · skip
      rintro e w4 ⟨x6, rfl, rfl, hS4⟩
      refine thenE_n ?_
      refine EW.seq ?_
      refine EW.region ?_
      iterate 2 refine EL.q rfl rfl rfl (by decide) ?_
      refine EL.nil ?_
      refine thenE_n ?_
      refine EW.ret ?_
      repeat (first | refine thenE_r ?_ | refine inB_r ?_)
      obtain rfl := Option.some.inj hf9
      exact ⟨_, res rfl, _, _, rfl, ⟨rfl, rfl⟩, hS4.sel [] rfl (by decide)⟩

-- 35 loop.example/g00497/laws.szEntry
set_option maxHeartbeats 4000000 in
set_option maxRecDepth 100000 in
theorem laws_szEntry_ok {k : Nat} {a0 : Ent} {a1 : Int} {r : Int} (hf : laws_szEntry k a0 a1 = some r) {b w : World} {s : Nat → Prop} {v1 : Sv} (hr1 : kRec.C b (sl v1) a0.l) (hS : St b w s [] w) : Calls Try.prog 35 ([.agg #[str a0.q.name, vi a0.q.ty, vi a0.kind, sl v1, vi a0.rank, vi a0.till], vi a1] : List Value).toArray w fun e w' => ∃ v M, e = .returned v ∧ (v = vi r ∧ M = []) ∧ St b w s M w' := by
  rw [laws_szEntry] at hf
  refine calls_of (n := 18) (args := [_, _]) Try.func35 rfl rfl (Nat.le_of_ble_eq_true rfl) ?_
  refine EW.seq ?_
  refine EW.region ?_
  refine SL.box hS rfl (by decide) (fun g1 w1 hS1 => ?_)
  clear hS
  refine EL.q rfl rfl rfl (by decide) ?_
  refine EL.nil ?_
  refine thenE_n ?_
  refine EW.seq ?_
  refine EW.region ?_
  refine EL.rn (rn_fa rfl Try.underlying63 rfl z26 (by decide) rfl _) rfl rfl (by decide) ?_
  refine EL.rn (rn_lds (m := 2) [str a0.q.name, vi a0.q.ty] rfl Try.underlying26 (hS1.a 0 rfl) rfl z26) rfl rfl (by decide) ?_
  refine EL.q rfl rfl rfl (by decide) ?_
  obtain ⟨x1, hx1, hf1⟩ := bnd hf
  clear hf
  refine SL.call hS1 [_, _] rfl Try.func6 (by kernel_rfl) rfl (by decide) [] (by decide) (L0 := []) rfl (fun b' s hb hw hrd hS => laws_szQuest_ok hx1 hS) (fun v M w2 hΦ hS2 => ?_)
  clear hS1
  obtain ⟨rfl, rfl⟩ := hΦ
  refine EL.q rfl rfl rfl (by decide) ?_
  refine EL.nil ?_
  refine thenE_n ?_
  refine EW.seq ?_
  refine EW.seq ?_
  refine EW.region ?_
  iterate 2 refine EL.q rfl rfl rfl (by decide) ?_
  refine EL.nil ?_
  refine thenE_n ?_
  refine EW.cond rfl (fun hc1 => ?_) (fun hc1 => ?_)
  · skip
    have hf2 := bifT hc1 hf1
    clear hf1
    refine EW.seq ?_
    refine EW.region ?_
    refine EL.q rfl rfl rfl (by decide) ?_
    refine EL.nil ?_
    refine thenE_n ?_
    refine EW.ret ?_
    repeat (first | refine thenE_r ?_ | refine inB_r ?_)
    obtain rfl := Option.some.inj hf2
    exact ⟨_, res rfl, _, _, rfl, ⟨rfl, rfl⟩, hS2.sel [] rfl (by decide)⟩
  · skip
    have hf3 := bifF hc1 hf1
    clear hf1
    refine EW.skip ?_
    refine thenE_n ?_
    refine EW.seq ?_
    refine EW.region ?_
    refine EL.rn (rn_fa rfl Try.underlying63 rfl z61 (by decide) rfl _) rfl rfl (by decide) ?_
    refine EL.rn (rn_ld rfl Try.underlying61 (by simp) (by simp) (hS2.a 0 rfl) rfl) rfl rfl (by decide) ?_
    refine EL.q rfl rfl rfl (by decide) ?_
    obtain ⟨x2, hx2, hf4⟩ := bnd hf3
    clear hf3
    refine SL.call hS2 [_, _] rfl Try.func43 (by kernel_rfl) rfl (by decide) [] (by decide) (L0 := []) rfl (fun b' s hb hw hrd hS => laws_szRecordS_ok hx2 (hr1.agr hb) hS) (fun v M w3 hΦ hS3 => ?_)
    clear hS2
    obtain ⟨rfl, rfl⟩ := hΦ
    refine EL.q rfl rfl rfl (by decide) ?_
    refine EL.nil ?_
    refine thenE_n ?_
    refine EW.seq ?_
    refine EW.seq ?_
    refine EW.region ?_
    iterate 2 refine EL.q rfl rfl rfl (by decide) ?_
    refine EL.nil ?_
    refine thenE_n ?_
    refine EW.cond rfl (fun hc2 => ?_) (fun hc2 => ?_)
    · skip
      have hf5 := bifT hc2 hf4
      clear hf4
      refine EW.seq ?_
      refine EW.region ?_
      refine EL.q rfl rfl rfl (by decide) ?_
      refine EL.nil ?_
      refine thenE_n ?_
      refine EW.ret ?_
      repeat (first | refine thenE_r ?_ | refine inB_r ?_)
      obtain rfl := Option.some.inj hf5
      exact ⟨_, res rfl, _, _, rfl, ⟨rfl, rfl⟩, hS3.sel [] rfl (by decide)⟩
    · skip
      have hf6 := bifF hc2 hf4
      clear hf4
      refine EW.skip ?_
      refine thenE_n ?_
      refine EW.seq ?_
      refine EW.region ?_
      iterate 2 refine EL.q rfl rfl rfl (by decide) ?_
      refine EL.nil ?_
      refine thenE_n ?_
      refine EW.ret ?_
      repeat (first | refine thenE_r ?_ | refine inB_r ?_)
      obtain rfl := Option.some.inj hf6
      exact ⟨_, res rfl, _, _, rfl, ⟨rfl, rfl⟩, hS3.sel [] rfl (by decide)⟩

-- 19 loop.example/g00497/laws.szEntryS
set_option maxHeartbeats 4000000 in
set_option maxRecDepth 100000 in
theorem laws_szEntryS_ok {k : Nat} {a0 : List Ent} {a1 : Int} {r : Int} (hf : laws_szEntryS k a0 a1 = some r) {b w : World} {s : Nat → Prop} {v1 : Sv} (hr1 : (kEnt 75).C b (sl v1) a0) (hS : St b w s [] w) : Calls Try.prog 19 ([sl v1, vi a1] : List Value).toArray w fun e w' => ∃ v M, e = .returned v ∧ (v = vi r ∧ M = []) ∧ St b w s M w' := by
  rw [laws_szEntryS] at hf
  refine calls_of (n := 27) (args := [_, _]) Try.func19 rfl rfl (Nat.le_of_ble_eq_true rfl) ?_
  refine EW.seq ?_
  refine EW.region ?_
  refine EL.q rfl rfl rfl (by decide) ?_
  refine EL.nil ?_
  refine thenE_n ?_
  refine EW.seq ?_
  refine EW.region ?_
  iterate 2 refine EL.q rfl rfl rfl (by decide) ?_
  refine EL.rn (rn_len rfl (K2.C.sl (d := (kEnt 75)) (hS.now hr1)) Try.underlying22 _) rfl rfl (by decide) ?_
  iterate 2 refine EL.q rfl rfl rfl (by decide) ?_
  refine EL.nil ?_
  refine thenE_n ?_
  refine EW.seq ?_
  refine EW.seq ?_
  refine EW.region ?_
  iterate 2 refine EL.q rfl rfl rfl (by decide) ?_
  refine EL.nil ?_
  refine thenE_n ?_
  refine EW.cond rfl (fun hc1 => ?_) (fun hc1 => ?_)
  · skip
    have hf1 := bifT hc1 hf
    clear hf
    refine EW.seq ?_
    refine EW.region ?_
    refine EL.q rfl rfl rfl (by decide) ?_
    refine EL.nil ?_
    refine thenE_n ?_
    refine EW.ret ?_
    repeat (first | refine thenE_r ?_ | refine inB_r ?_)
    obtain rfl := Option.some.inj hf1
    exact ⟨_, res rfl, _, _, rfl, ⟨rfl, rfl⟩, hS.sel [] rfl (by decide)⟩
  · skip
    have hf2 := bifF hc1 hf
    clear hf
    refine EW.skip ?_
    refine thenE_n ?_
    refine EW.seq ?_
    refine EW.seq ?_
    refine EW.region ?_
    refine EL.q rfl rfl rfl (by decide) ?_
    refine EL.nil ?_
    refine thenE_n ?_
    obtain ⟨o1, hx3, hf9⟩ := bnd hf2
    clear hf2
    refine EW.cut (fun e W => ∃ x6 : Int, o1 = .brk x6 ∧ e = [(1, vi x6)] ∧ St b w s [] W) ?_ ?_
    · skip
      refine EW.block ?_
      refine EW.loopP hx3 (fun (x : Int × Int) e W => match x with | (x1, x2) => e = [(0, sl v1), (1, vi x1), (5, vi x2)] ∧ St b w s [] W) [(0, sl v1), (1, vi (w64 (a1 - (a0.length : Int)))), (5, vi 0)] ⟨rfl, rfl, rfl, trivial⟩ ⟨rfl, hS.sel [] rfl (by decide)⟩ ?_
      rintro ⟨x1, x2⟩ e w2 ⟨rfl, hS2⟩ st1 hf10 hbr1 hrt1
      rw [laws_szEntryS_b1] at hf10
      refine EW.seq ?_
      refine EW.seq ?_
      refine EW.region ?_
      iterate 2 refine EL.q rfl rfl rfl (by decide) ?_
      refine EL.rn (rn_len rfl (K2.C.sl (d := (kEnt 75)) (hS2.now hr1)) Try.underlying22 _) rfl rfl (by decide) ?_
      refine EL.q rfl rfl rfl (by decide) ?_
      refine EL.nil ?_
      refine thenE_n ?_
      refine EW.cond rfl (fun hc4 => ?_) (fun hc4 => ?_)
      · skip
        have hf11 := bifT hc4 hf10
        clear hf10
        refine EW.skip ?_
        refine thenE_n ?_
        refine EW.seq ?_
        refine EW.block ?_
        refine EW.seq ?_
        refine EW.region ?_
        iterate 2 refine EL.q rfl rfl rfl (by decide) ?_
        obtain ⟨x7, hx4, hf12⟩ := bnd hf11
        clear hf11
        obtain ⟨ad2, hE2⟩ := EA.of (d := (kEnt 75)) (hS2.now hr1) hx4
        refine EL.rn (rn_ix rfl rfl hE2 Try.underlying22 z63 _) rfl rfl (by decide) ?_
        obtain ⟨v3, hA2, hr3⟩ := Ent_at hr1 hE2 hx4
        refine EL.rn (rn_lds (m := 6) [str x7.q.name, vi x7.q.ty, vi x7.kind, sl v3, vi x7.rank, vi x7.till] rfl Try.underlying63 (hA2.agr hS2.agr) rfl z63) rfl rfl (by decide) ?_
        refine EL.q rfl rfl rfl (by decide) ?_
        obtain ⟨x8, hx5, hf13⟩ := bnd hf12
        clear hf12
        refine SL.call hS2 [_, _] rfl Try.func35 (by kernel_rfl) rfl (by decide) [] (by decide) (L0 := []) rfl (fun b' s hb hw hrd hS => laws_szEntry_ok hx5 (hr3.agr hb) hS) (fun v M w3 hΦ hS3 => ?_)
        clear hS2
        obtain ⟨rfl, rfl⟩ := hΦ
        refine EL.q rfl rfl rfl (by decide) ?_
        refine EL.nil ?_
        refine thenE_n ?_
        refine EW.seq ?_
        refine EW.region ?_
        iterate 2 refine EL.q rfl rfl rfl (by decide) ?_
        refine EL.nil ?_
        refine thenE_n ?_
        refine EW.cond rfl (fun hc5 => ?_) (fun hc5 => ?_)
        · skip
          have hf14 := bifT hc5 hf13
          clear hf13
          refine EW.seq ?_
          refine EW.region ?_
          refine EL.q rfl rfl rfl (by decide) ?_
          refine EL.nil ?_
          refine thenE_n ?_
          refine EW.ret ?_
          repeat (first | refine thenE_r ?_ | refine inB_r ?_)
          obtain rfl := Option.some.inj hf14
          obtain rfl := hrt1 _ rfl
          obtain rfl := Option.some.inj hf9
          exact ⟨_, res rfl, _, _, rfl, ⟨rfl, rfl⟩, hS3.sel [] rfl (by decide)⟩
        · skip
          have hf15 := bifF hc5 hf13
          clear hf13
          refine EW.skip ?_
          refine inB_n ?_
          refine thenE_n ?_
          refine EW.region ?_
          iterate 3 refine EL.q rfl rfl rfl (by decide) ?_
          refine EL.nil ?_
          obtain rfl := Option.some.inj hf15
          refine thenE_n ?_
          exact ⟨(x8, (w64 (x2 + 1))), [(0, sl v1), (1, vi x8), (5, vi (w64 (x2 + 1)))], rfl, ⟨rfl, rfl, rfl, trivial⟩, rfl, hS3.sel [] rfl (by decide)⟩
      · skip
        have hf16 := bifF hc4 hf10
        clear hf10
        refine EW.exit ?_
        repeat (first | refine thenE_x ?_ | refine inB_x ?_ | refine inB_y (by decide) ?_)
        obtain rfl := Option.some.inj hf16
        obtain rfl := hbr1 _ rfl
        refine thenE_n ?_
        exact ⟨[(1, vi x1)], ⟨rfl, trivial⟩, x1, rfl, rfl, hS2.sel [] rfl (by decide)⟩
    · skip
      rintro e w4 ⟨x6, rfl, rfl, hS4⟩
      refine thenE_n ?_
      refine EW.seq ?_
      refine EW.region ?_
      iterate 2 refine EL.q rfl rfl rfl (by decide) ?_
      refine EL.nil ?_
      refine thenE_n ?_
      refine EW.ret ?_
      repeat (first | refine thenE_r ?_ | refine inB_r ?_)
      obtain rfl := Option.some.inj hf9
      exact ⟨_, res rfl, _, _, rfl, ⟨rfl, rfl⟩, hS4.sel [] rfl (by decide)⟩

-- 5 loop.example/g00497/laws.szCache
set_option maxHeartbeats 4000000 in
set_option maxRecDepth 100000 in
theorem laws_szCache_ok {k : Nat} {a0 : Cac} {a1 : Int} {r : Int} (hf : laws_szCache k a0 a1 = some r) {b w : World} {s : Nat → Prop} {v1 : Sv} (hr1 : (kEnt 75).C b (sl v1) a0.l) (hS : St b w s [] w) : Calls Try.prog 5 ([.agg #[vi a0.cap, sl v1], vi a1] : List Value).toArray w fun e w' => ∃ v M, e = .returned v ∧ (v = vi r ∧ M = []) ∧ St b w s M w' := by
  rw [laws_szCache] at hf
  refine calls_of (n := 12) (args := [_, _]) Try.func5 rfl rfl (Nat.le_of_ble_eq_true rfl) ?_
  refine EW.seq ?_
  refine EW.region ?_
  refine SL.box hS rfl (by decide) (fun g1 w1 hS1 => ?_)
  clear hS
  refine EL.q rfl rfl rfl (by decide) ?_
  refine EL.nil ?_
  refine thenE_n ?_
  refine EW.seq ?_
  refine EW.region ?_
  refine EL.rn (rn_fa rfl Try.underlying24 rfl z22 (by decide) rfl _) rfl rfl (by decide) ?_
  refine EL.rn (rn_ld rfl Try.underlying22 (by simp) (by simp) (hS1.a 0 rfl) rfl) rfl rfl (by decide) ?_
  refine EL.q rfl rfl rfl (by decide) ?_
  obtain ⟨x1, hx1, hf1⟩ := bnd hf
  clear hf
  refine SL.call hS1 [_, _] rfl Try.func19 (by kernel_rfl) rfl (by decide) [] (by decide) (L0 := []) rfl (fun b' s hb hw hrd hS => laws_szEntryS_ok hx1 (hr1.agr hb) hS) (fun v M w2 hΦ hS2 => ?_)
  clear hS1
  obtain ⟨rfl, rfl⟩ := hΦ
  refine EL.q rfl rfl rfl (by decide) ?_
  refine EL.nil ?_
  refine thenE_n ?_
  refine EW.seq ?_
  refine EW.seq ?_
  refine EW.region ?_
  iterate 2 refine EL.q rfl rfl rfl (by decide) ?_
  refine EL.nil ?_
  refine thenE_n ?_
  refine EW.cond rfl (fun hc1 => ?_) (fun hc1 => ?_)
  · skip
    have hf2 := bifT hc1 hf1
    clear hf1
    refine EW.seq ?_
    refine EW.region ?_
    refine EL.q rfl rfl rfl (by decide) ?_
    refine EL.nil ?_
    refine thenE_n ?_
    refine EW.ret ?_
    repeat (first | refine thenE_r ?_ | refine inB_r ?_)
    obtain rfl := Option.some.inj hf2
    exact ⟨_, res rfl, _, _, rfl, ⟨rfl, rfl⟩, hS2.sel [] rfl (by decide)⟩
  · skip
    have hf3 := bifF hc1 hf1
    clear hf1
    refine EW.skip ?_
    refine thenE_n ?_
    refine EW.seq ?_
    refine EW.region ?_
    iterate 2 refine EL.q rfl rfl rfl (by decide) ?_
    refine EL.nil ?_
    refine thenE_n ?_
    refine EW.ret ?_
    repeat (first | refine thenE_r ?_ | refine inB_r ?_)
    obtain rfl := Option.some.inj hf3
    exact ⟨_, res rfl, _, _, rfl, ⟨rfl, rfl⟩, hS2.sel [] rfl (by decide)⟩

-- 20 loop.example/g00497/spec.l15Lives
set_option maxHeartbeats 4000000 in
set_option maxRecDepth 100000 in
theorem spec_l15Lives_ok {a0 : Ent} {a1 : Int} {r : Bool} (hf : spec_l15Lives a0 a1 = some r) {b w : World} {s : Nat → Prop} {v1 : Sv} (hr1 : kRec.C b (sl v1) a0.l) (hS : St b w s [] w) : Calls Try.prog 20 ([.agg #[str a0.q.name, vi a0.q.ty, vi a0.kind, sl v1, vi a0.rank, vi a0.till], vi a1] : List Value).toArray w fun e w' => ∃ v M, e = .returned v ∧ (v = vt r ∧ M = []) ∧ St b w s M w' := by
  rw [spec_l15Lives] at hf
  refine calls_of (n := 9) (args := [_, _]) Try.func20 rfl rfl (Nat.le_of_ble_eq_true rfl) ?_
  refine EW.seq ?_
  refine EW.region ?_
  refine SL.box hS rfl (by decide) (fun g1 w1 hS1 => ?_)
  clear hS
  refine EL.q rfl rfl rfl (by decide) ?_
  refine EL.nil ?_
  refine thenE_n ?_
  refine EW.seq ?_
  refine EW.region ?_
  refine EL.q rfl rfl rfl (by decide) ?_
  refine EL.rn (rn_fa rfl Try.underlying32 rfl z3 (by decide) rfl _) rfl rfl (by decide) ?_
  refine EL.rn (rn_ld rfl Try.underlying3 (by simp) (by simp) (hS1.a 0 rfl) rfl) rfl rfl (by decide) ?_
  iterate 2 refine EL.q rfl rfl rfl (by decide) ?_
  refine EL.nil ?_
  refine thenE_n ?_
  refine EW.ret ?_
  repeat (first | refine thenE_r ?_ | refine inB_r ?_)
  obtain rfl := Option.some.inj hf
  exact ⟨_, res rfl, _, _, rfl, ⟨rfl, rfl⟩, hS1.sel [] rfl (by decide)⟩

-- 36 loop.example/g00497/spec.l7Copy
set_option maxHeartbeats 4000000 in
set_option maxRecDepth 100000 in
theorem spec_l7Copy_ok {a0 : List Rec} {r : List Rec} (hf : spec_l7Copy a0 = some r) {b w : World} {s : Nat → Prop} {v1 : Sv} (hr1 : kRec.C b (sl v1) a0) (hS : St b w s [] w) : Calls Try.prog 36 ([sl v1] : List Value).toArray w fun e w' => ∃ v M, e = .returned v ∧ (∃ u1 : Sv, v = sl u1 ∧ M = [.row kRec 66 (sl u1) r]) ∧ St b w s M w' := by
  rw [spec_l7Copy] at hf
  refine calls_of (n := 6) (args := [_]) Try.func36 rfl rfl (Nat.le_of_ble_eq_true rfl) ?_
  refine EW.seq ?_
  refine EW.region ?_
  refine EL.q rfl rfl rfl (by decide) ?_
  refine EL.nil ?_
  refine thenE_n ?_
  refine EW.seq ?_
  refine EW.region ?_
  refine SL.lit hS kRec [] [] rfl rfl rfl Try.underlying30 i66 (by decide) rfl (by decide) (fun _ _ => trivial) (by decide) (fun v2 w1 hS1 => ?_)
  clear hS
  refine EL.q rfl rfl rfl (by decide) ?_
  obtain ⟨x1, hx1, hf1⟩ := bnd hf
  clear hf
  refine SL.apr hS1 0 rfl Rec_flat (hS1.now hr1) rfl rfl Try.underlying30 i66 rfl (by decide) (by decide) (by decide) hx1 (by decide) (fun v3 w2 hS2 => ?_)
  clear hS1
  refine EL.q rfl rfl rfl (by decide) ?_
  refine EL.nil ?_
  refine thenE_n ?_
  refine EW.ret ?_
  repeat (first | refine thenE_r ?_ | refine inB_r ?_)
  obtain rfl := Option.some.inj hf1
  exact ⟨_, res rfl, _, _, rfl, ⟨v3, rfl, rfl⟩, hS2.sel [0] rfl (by decide)⟩

-- 21 loop.example/g00497/spec.l15Entry
set_option maxHeartbeats 4000000 in
set_option maxRecDepth 100000 in
theorem spec_l15Entry_ok {a0 : Ent} {r : Ent} (hf : spec_l15Entry a0 = some r) {b w : World} {s : Nat → Prop} {v1 : Sv} (hr1 : kRec.C b (sl v1) a0.l) (hS : St b w s [] w) : Calls Try.prog 21 ([.agg #[str a0.q.name, vi a0.q.ty, vi a0.kind, sl v1, vi a0.rank, vi a0.till]] : List Value).toArray w fun e w' => ∃ v M, e = .returned v ∧ (∃ u1 : Sv, v = .agg #[str r.q.name, vi r.q.ty, vi r.kind, sl u1, vi r.rank, vi r.till] ∧ M = [.row kRec 66 (sl u1) r.l]) ∧ St b w s M w' := by
  rw [spec_l15Entry] at hf
  refine calls_of (n := 8) (args := [_]) Try.func21 rfl rfl (Nat.le_of_ble_eq_true rfl) ?_
  refine EW.seq ?_
  refine EW.region ?_
  refine SL.box hS rfl (by decide) (fun g1 w1 hS1 => ?_)
  clear hS
  refine SL.alloc hS1 i32 (by decide) (fun g2 w2 hS2 => ?_)
  clear hS1
  refine EL.nil ?_
  refine thenE_n ?_
  refine EW.seq ?_
  refine EW.region ?_
  refine EL.rn (rn_fa rfl Try.underlying32 rfl z30 (by decide) rfl _) rfl rfl (by decide) ?_
  refine EL.rn (rn_ld rfl Try.underlying30 (by simp) (by simp) (hS2.a 0 rfl) rfl) rfl rfl (by decide) ?_
  obtain ⟨x1, hx1, hf1⟩ := bnd hf
  clear hf
  refine SL.call hS2 [_] rfl Try.func36 (by kernel_rfl) rfl (by decide) [] (by decide) (L0 := []) rfl (fun b' s hb hw hrd hS => spec_l7Copy_ok hx1 (hr1.agr hb) hS) (fun v M w3 hΦ hS3 => ?_)
  clear hS2
  obtain ⟨v2, rfl, rfl⟩ := hΦ
  refine EL.rn (rn_fa rfl Try.underlying32 rfl z30 (by decide) rfl _) rfl rfl (by decide) ?_
  refine SL.stb hS3 0 rfl rfl rfl [sl v2] rfl z30 rfl (Nat.le_of_ble_eq_true rfl) #[str a0.q.name, vi a0.q.ty, vi a0.kind, sl v2, vi a0.rank, vi a0.till] rfl (fun w4 hS4 => ?_)
  clear hS3
  refine EL.nil ?_
  refine thenE_n ?_
  refine EW.seq ?_
  refine EW.region ?_
  refine EL.rn (rn_lds (m := 6) [str a0.q.name, vi a0.q.ty, vi a0.kind, sl v2, vi a0.rank, vi a0.till] rfl Try.underlying32 (hS4.a 0 rfl) rfl z32) rfl rfl (by decide) ?_
  refine SL.stb hS4 1 rfl rfl rfl [str a0.q.name, vi a0.q.ty, vi a0.kind, sl v2, vi a0.rank, vi a0.till] rfl z32 rfl (Nat.le_of_ble_eq_true rfl) #[str a0.q.name, vi a0.q.ty, vi a0.kind, sl v2, vi a0.rank, vi a0.till] rfl (fun w5 hS5 => ?_)
  clear hS4
  refine EL.nil ?_
  refine thenE_n ?_
  refine EW.ret ?_
  repeat (first | refine thenE_r ?_ | refine inB_r ?_)
  obtain rfl := Option.some.inj hf1
  exact ⟨_, res1 rfl (.cell rfl (hS5.blk 1 rfl) Try.underlying32 z32 .nil), _, _, rfl, ⟨v2, rfl, rfl⟩, hS5.sel [2] rfl (by decide)⟩

-- 22 loop.example/g00497/spec.WithTtl
set_option maxHeartbeats 4000000 in
set_option maxRecDepth 100000 in
theorem spec_WithTtl_ok {k : Nat} {a0 : List Rec} {a1 : Int} {r : List Rec} (hf : spec_WithTtl k a0 a1 = some r) {b w : World} {s : Nat → Prop} {v1 : Sv} (hr1 : kRec.C b (sl v1) a0) (hS : St b w s [] w) : Calls Try.prog 22 ([sl v1, vi a1] : List Value).toArray w fun e w' => ∃ v M, e = .returned v ∧ (∃ u1 : Sv, v = sl u1 ∧ M = [.row kRec 66 (sl u1) r]) ∧ St b w s M w' := by
  rw [spec_WithTtl] at hf
  refine calls_of (n := 21) (args := [_, _]) Try.func22 rfl rfl (Nat.le_of_ble_eq_true rfl) ?_
  refine EW.seq ?_
  refine EW.region ?_
  refine EL.q rfl rfl rfl (by decide) ?_
  refine EL.nil ?_
  refine thenE_n ?_
  refine EW.seq ?_
  refine EW.region ?_
  refine EL.q rfl rfl rfl (by decide) ?_
  obtain ⟨x1, hx1, hf1⟩ := bnd hf
  clear hf
  refine SL.call hS [_] rfl Try.func36 (by kernel_rfl) rfl (by decide) [] (by decide) (L0 := []) rfl (fun b' s hb hw hrd hS => spec_l7Copy_ok hx1 (hr1.agr hb) hS) (fun v M w1 hΦ hS1 => ?_)
  clear hS
  obtain ⟨v2, rfl, rfl⟩ := hΦ
  refine EL.q rfl rfl rfl (by decide) ?_
  refine EL.nil ?_
  refine thenE_n ?_
  refine EW.seq ?_
  refine EW.seq ?_
  refine EW.region ?_
  refine EL.q rfl rfl rfl (by decide) ?_
  refine EL.nil ?_
  refine thenE_n ?_
  obtain ⟨o1, hx3, hf5⟩ := bnd hf1
  clear hf1
  refine EW.cut (fun e W => ∃ x6 : List Rec, o1 = .brk x6 ∧ e = [(5, sl v2)] ∧ St b w s [.row kRec 66 (sl v2) x6] W) ?_ ?_
  · skip
    refine EW.block ?_
    refine EW.loopP hx3 (fun (x : (List Rec) × Int) e W => match x with | (x2, x3) => e = [(1, vi a1), (5, sl v2), (6, vi x3)] ∧ St b w s [.row kRec 66 (sl v2) x2] W) [(1, vi a1), (5, sl v2), (6, vi 0)] ⟨rfl, rfl, rfl, trivial⟩ ⟨rfl, hS1.sel [0] rfl (by decide)⟩ ?_
    rintro ⟨x2, x3⟩ e w3 ⟨rfl, hS3⟩ st1 hf6 hbr1 hrt1
    rw [spec_WithTtl_b1] at hf6
    refine EW.seq ?_
    refine EW.seq ?_
    refine EW.region ?_
    iterate 2 refine EL.q rfl rfl rfl (by decide) ?_
    refine EL.rn (rn_len rfl (K2.C.sl (d := kRec) (hS3.c 0 rfl)) Try.underlying30 _) rfl rfl (by decide) ?_
    refine EL.q rfl rfl rfl (by decide) ?_
    refine EL.nil ?_
    refine thenE_n ?_
    refine EW.cond rfl (fun hc2 => ?_) (fun hc2 => ?_)
    · skip
      have hf7 := bifT hc2 hf6
      clear hf6
      refine EW.skip ?_
      refine thenE_n ?_
      refine EW.seq ?_
      refine EW.block ?_
      refine EW.region ?_
      iterate 3 refine EL.q rfl rfl rfl (by decide) ?_
      obtain ⟨x7, hx4, hf8⟩ := bnd hf7
      clear hf7
      obtain ⟨ad2, hE2⟩ := EA.of (d := kRec) (hS3.c 0 rfl) hx4
      refine EL.rn (rn_ix rfl rfl hE2 Try.underlying30 z66 _) rfl rfl (by decide) ?_
      refine EL.rn (rn_fa rfl Try.underlying66 rfl z3 (by decide) rfl _) rfl rfl (by decide) ?_
      refine SL.sto hS3 0 rfl ({ x7 with ttl := a1 }) rfl rfl [vi a1] rfl z3 rfl hE2 hx4 (Nat.le_of_ble_eq_true rfl) (fun w s cs h => by rw [Rec_M h]; exact Rec_Mk _ _ _) (fun w4 hS4 => ?_)
      clear hS3
      refine EL.nil ?_
      refine inB_n ?_
      refine thenE_n ?_
      refine EW.region ?_
      iterate 3 refine EL.q rfl rfl rfl (by decide) ?_
      refine EL.nil ?_
      obtain rfl := Option.some.inj hf8
      refine thenE_n ?_
      exact ⟨((x2.set (x3).toNat ({ x7 with ttl := a1 })), (w64 (x3 + 1))), [(1, vi a1), (5, sl v2), (6, vi (w64 (x3 + 1)))], rfl, ⟨rfl, rfl, rfl, trivial⟩, rfl, hS4.sel [0] rfl (by decide)⟩
    · skip
      have hf9 := bifF hc2 hf6
      clear hf6
      refine EW.exit ?_
      repeat (first | refine thenE_x ?_ | refine inB_x ?_ | refine inB_y (by decide) ?_)
      obtain rfl := Option.some.inj hf9
      obtain rfl := hbr1 _ rfl
      refine thenE_n ?_
      exact ⟨[(5, sl v2)], ⟨rfl, trivial⟩, x2, rfl, rfl, hS3.sel [0] rfl (by decide)⟩
  · skip
    rintro e w5 ⟨x6, rfl, rfl, hS5⟩
    refine thenE_n ?_
    refine EW.seq ?_
    refine EW.region ?_
    iterate 2 refine EL.q rfl rfl rfl (by decide) ?_
    refine EL.nil ?_
    refine thenE_n ?_
    refine EW.ret ?_
    repeat (first | refine thenE_r ?_ | refine inB_r ?_)
    obtain rfl := Option.some.inj hf5
    exact ⟨_, res rfl, _, _, rfl, ⟨v2, rfl, rfl⟩, hS5.sel [0] rfl (by decide)⟩

-- 7 loop.example/g00497/spec.Look
set_option maxHeartbeats 4000000 in
set_option maxRecDepth 100000 in
theorem spec_Look_ok {k : Nat} {a0 : Cac} {a1 : Int} {a2 : Que} {a3 : Int} {r : Ent × Bool} (hf : spec_Look k a0 a1 a2 a3 = some r) {b w : World} {s : Nat → Prop} {v1 : Sv} (hr1 : (kEnt 66).C b (sl v1) a0.l) (hS : St b w s [] w) : Calls Try.prog 7 ([.agg #[vi a0.cap, sl v1], vi a1, .agg #[str a2.name, vi a2.ty], vi a3] : List Value).toArray w fun e w' => ∃ v M, e = .returned v ∧ (∃ u1 : Sv, v = .tuple #[.agg #[str r.1.q.name, vi r.1.q.ty, vi r.1.kind, sl u1, vi r.1.rank, vi r.1.till], vt r.2] ∧ M = [.row kRec 66 (sl u1) r.1.l]) ∧ St b w s M w' := by
  rw [spec_Look] at hf
  refine calls_of (n := 74) (args := [_, _, _, _]) Try.func7 rfl rfl (Nat.le_of_ble_eq_true rfl) ?_
  refine EW.seq ?_
  refine EW.region ?_
  refine SL.box hS rfl (by decide) (fun g1 w1 hS1 => ?_)
  clear hS
  refine SL.box hS1 rfl (by decide) (fun g2 w2 hS2 => ?_)
  clear hS1
  refine SL.alloc hS2 i32 (by decide) (fun g3 w3 hS3 => ?_)
  clear hS2
  refine EL.q rfl rfl rfl (by decide) ?_
  refine EL.nil ?_
  refine thenE_n ?_
  refine EW.seq ?_
  refine EW.seq ?_
  refine EW.region ?_
  refine EL.q rfl rfl rfl (by decide) ?_
  refine EL.nil ?_
  refine thenE_n ?_
  obtain ⟨o1, hx4, hf8⟩ := bnd hf
  clear hf
  refine EW.cut (fun e W => o1 = .brk () ∧ e = [(8, ptr (at0 g3) 0)] ∧ St b w s [.blk g3 32 #[str [], vi 0, vi 0, .slice none 0 0, vi 0, vi 0]] W) ?_ ?_
  · skip
    refine EW.block ?_
    refine EW.loopP hx4 (fun (x : Int) e W => match x with | x1 => e = [(1, vi a1), (3, vi a3), (4, ptr (at0 g1) 0), (6, ptr (at0 g2) 0), (8, ptr (at0 g3) 0), (10, vi x1)] ∧ St b w s [.blk g1 37 #[vi a0.cap, sl v1], .blk g2 29 #[str a2.name, vi a2.ty], .blk g3 32 #[str [], vi 0, vi 0, .slice none 0 0, vi 0, vi 0]] W) [(1, vi a1), (3, vi a3), (4, ptr (at0 g1) 0), (6, ptr (at0 g2) 0), (8, ptr (at0 g3) 0), (10, vi 0)] ⟨rfl, rfl, rfl, rfl, rfl, rfl, trivial⟩ ⟨rfl, hS3.sel [0, 1, 2] rfl (by decide)⟩ ?_
    rintro x1 e w15 ⟨rfl, hS15⟩ st1 hf9 hbr1 hrt1
    rw [spec_Look_b1] at hf9
    refine EW.seq ?_
    refine EW.seq ?_
    refine EW.region ?_
    refine EL.q rfl rfl rfl (by decide) ?_
    refine EL.rn (rn_fa rfl Try.underlying37 rfl z35 (by decide) rfl _) rfl rfl (by decide) ?_
    refine EL.rn (rn_ld rfl Try.underlying35 (by simp) (by simp) (hS15.a 0 rfl) rfl) rfl rfl (by decide) ?_
    refine EL.rn (rn_len rfl (K2.C.sl (d := (kEnt 66)) (hS15.now hr1)) Try.underlying35 _) rfl rfl (by decide) ?_
    refine EL.q rfl rfl rfl (by decide) ?_
    refine EL.nil ?_
    refine thenE_n ?_
    refine EW.cond rfl (fun hc3 => ?_) (fun hc3 => ?_)
    · skip
      have hf10 := bifT hc3 hf9
      clear hf9
      refine EW.skip ?_
      refine thenE_n ?_
      refine EW.seq ?_
      refine EW.block ?_
      refine EW.seq ?_
      refine EW.region ?_
      refine EL.rn (rn_fa rfl Try.underlying37 rfl z35 (by decide) rfl _) rfl rfl (by decide) ?_
      refine EL.rn (rn_ld rfl Try.underlying35 (by simp) (by simp) (hS15.a 0 rfl) rfl) rfl rfl (by decide) ?_
      refine EL.q rfl rfl rfl (by decide) ?_
      obtain ⟨x11, hx5, hf11⟩ := bnd hf10
      clear hf10
      obtain ⟨ad2, hE2⟩ := EA.of (d := (kEnt 66)) (hS15.now hr1) hx5
      refine EL.rn (rn_ix rfl rfl hE2 Try.underlying35 z32 _) rfl rfl (by decide) ?_
      obtain ⟨v5, hA2, hr3⟩ := Ent_at hr1 hE2 hx5
      refine EL.rn (rn_lds (m := 6) [str x11.q.name, vi x11.q.ty, vi x11.kind, sl v5, vi x11.rank, vi x11.till] rfl Try.underlying32 (hA2.agr hS15.agr) rfl z32) rfl rfl (by decide) ?_
      refine SL.alloc hS15 i32 (by decide) (fun g6 w16 hS16 => ?_)
      clear hS15
      refine SL.stb hS16 3 rfl rfl rfl [str x11.q.name, vi x11.q.ty, vi x11.kind, sl v5, vi x11.rank, vi x11.till] rfl z32 rfl (Nat.le_of_ble_eq_true rfl) #[str x11.q.name, vi x11.q.ty, vi x11.kind, sl v5, vi x11.rank, vi x11.till] rfl (fun w17 hS17 => ?_)
      clear hS16
      refine EL.nil ?_
      refine thenE_n ?_
      refine EW.seq ?_
      obtain ⟨x13, hx6, hf12⟩ := bnd hf11
      clear hf11
      refine EW.cut (fun e W => e = [(1, vi a1), (3, vi a3), (4, ptr (at0 g1) 0), (6, ptr (at0 g2) 0), (8, ptr (at0 g3) 0), (10, vi x1), (11, ptr (at0 g6) 0), (40, vt x13)] ∧ St b w s [.blk g1 37 #[vi a0.cap, sl v1], .blk g2 29 #[str a2.name, vi a2.ty], .blk g3 32 #[str [], vi 0, vi 0, .slice none 0 0, vi 0, vi 0], .blk g6 32 #[str x11.q.name, vi x11.q.ty, vi x11.kind, sl v5, vi x11.rank, vi x11.till]] W) ?_ ?_
      · skip
        refine EW.region ?_
        refine EL.rn (rn_fa rfl Try.underlying32 rfl z29 (by decide) rfl _) rfl rfl (by decide) ?_
        refine EL.rn (rn_lds (m := 2) [str x11.q.name, vi x11.q.ty] rfl Try.underlying29 (hS17.a 3 rfl) rfl z29) rfl rfl (by decide) ?_
        refine EL.rn (rn_lds (m := 2) [str a2.name, vi a2.ty] rfl Try.underlying29 (hS17.a 1 rfl) rfl z29) rfl rfl (by decide) ?_
        refine EL.rn (rn_aeq rfl rfl (by kernel_rfl) (Que_eq29 x11.q a2) _) rfl rfl (by decide) ?_
        refine EL.q rfl rfl rfl (by decide) ?_
        refine EL.split (t := 30) rfl (fun hc4 => ?_) (fun hc4 => ?_)
        · skip
          have hf13 := bifT hc4 hx6
          clear hx6
          refine EL.ungate rfl rfl (by decide) ?_
          refine EL.rn (rn_lds (m := 6) [str x11.q.name, vi x11.q.ty, vi x11.kind, sl v5, vi x11.rank, vi x11.till] rfl Try.underlying32 (hS17.a 3 rfl) rfl z32) rfl rfl (by decide) ?_
          refine EL.ungate rfl rfl (by decide) ?_
          refine EL.q rfl rfl rfl (by decide) ?_
          refine EL.ungate rfl rfl (by decide) ?_
          obtain ⟨x14, hx7, hf14⟩ := bnd hf13
          clear hf13
          refine SL.call hS17 [_, _] rfl Try.func20 (by kernel_rfl) rfl (by decide) [] (by decide) (L0 := []) rfl (fun b' s hb hw hrd hS => spec_l15Lives_ok hx7 (hr3.agr hb) hS) (fun v M w18 hΦ hS18 => ?_)
          clear hS17
          obtain ⟨rfl, rfl⟩ := hΦ
          refine EL.rn (rn_pickT rfl rfl _) rfl rfl (by decide) ?_
          refine EL.q rfl rfl rfl (by decide) ?_
          refine EL.split (t := 35) rfl (fun hc5 => ?_) (fun hc5 => ?_)
          · skip
            have hf15 := bifT hc5 hf14
            clear hf14
            refine EL.ungate rfl rfl (by decide) ?_
            refine EL.rn (rn_fa rfl Try.underlying32 rfl z3 (by decide) rfl _) rfl rfl (by decide) ?_
            refine EL.ungate rfl rfl (by decide) ?_
            refine EL.rn (rn_ld rfl Try.underlying3 (by simp) (by simp) (hS18.a 3 rfl) rfl) rfl rfl (by decide) ?_
            refine EL.ungate rfl rfl (by decide) ?_
            refine EL.q rfl rfl rfl (by decide) ?_
            refine EL.ungate rfl rfl (by decide) ?_
            refine EL.q rfl rfl rfl (by decide) ?_
            refine EL.rn (rn_pickT rfl rfl _) rfl rfl (by decide) ?_
            refine EL.nil ?_
            cases hf15
            refine thenE_n ?_
            exact ⟨[(1, vi a1), (3, vi a3), (4, ptr (at0 g1) 0), (6, ptr (at0 g2) 0), (8, ptr (at0 g3) 0), (10, vi x1), (11, ptr (at0 g6) 0), (40, vt (decide (a3 ≤ x11.rank)))], ⟨rfl, rfl, rfl, rfl, rfl, rfl, rfl, rfl, trivial⟩, rfl, hS18.sel [0, 1, 2, 3] rfl (by decide)⟩
          · skip
            have hf16 := bifF hc5 hf14
            clear hf14
            refine EL.pass rfl rfl (by decide) (by decide) (by decide) ?_
            refine EL.pass rfl rfl (by decide) (by decide) (by decide) ?_
            refine EL.pass rfl rfl (by decide) (by decide) (by decide) ?_
            refine EL.pass rfl rfl (by decide) (by decide) (by decide) ?_
            refine EL.rn (rn_pickF rfl rfl _) rfl rfl (by decide) ?_
            refine EL.nil ?_
            cases hf16
            refine thenE_n ?_
            exact ⟨[(1, vi a1), (3, vi a3), (4, ptr (at0 g1) 0), (6, ptr (at0 g2) 0), (8, ptr (at0 g3) 0), (10, vi x1), (11, ptr (at0 g6) 0), (40, vt false)], ⟨rfl, rfl, rfl, rfl, rfl, rfl, rfl, rfl, trivial⟩, rfl, hS18.sel [0, 1, 2, 3] rfl (by decide)⟩
        · skip
          have hf17 := bifF hc4 hx6
          clear hx6
          refine EL.pass rfl rfl (by decide) (by decide) (by decide) ?_
          refine EL.pass rfl rfl (by decide) (by decide) (by decide) ?_
          refine EL.pass rfl rfl (by decide) (by decide) (by decide) ?_
          refine EL.rn (rn_pickF rfl rfl _) rfl rfl (by decide) ?_
          refine EL.q rfl rfl rfl (by decide) ?_
          refine EL.pass rfl rfl (by decide) (by decide) (by decide) ?_
          refine EL.pass rfl rfl (by decide) (by decide) (by decide) ?_
          refine EL.pass rfl rfl (by decide) (by decide) (by decide) ?_
          refine EL.pass rfl rfl (by decide) (by decide) (by decide) ?_
          refine EL.rn (rn_pickF rfl rfl _) rfl rfl (by decide) ?_
          refine EL.nil ?_
          cases hf17
          refine thenE_n ?_
          exact ⟨[(1, vi a1), (3, vi a3), (4, ptr (at0 g1) 0), (6, ptr (at0 g2) 0), (8, ptr (at0 g3) 0), (10, vi x1), (11, ptr (at0 g6) 0), (40, vt false)], ⟨rfl, rfl, rfl, rfl, rfl, rfl, rfl, rfl, trivial⟩, rfl, hS17.sel [0, 1, 2, 3] rfl (by decide)⟩
      · skip
        rintro e w19 ⟨rfl, hS19⟩
        refine thenE_n ?_
        refine EW.cond rfl (fun hc6 => ?_) (fun hc6 => ?_)
        · skip
          have hf18 := bifT hc6 hf12
          clear hf12
          refine EW.seq ?_
          refine EW.region ?_
          refine EL.rn (rn_lds (m := 6) [str x11.q.name, vi x11.q.ty, vi x11.kind, sl v5, vi x11.rank, vi x11.till] rfl Try.underlying32 (hS19.a 3 rfl) rfl z32) rfl rfl (by decide) ?_
          obtain ⟨x18, hx8, hf19⟩ := bnd hf18
          clear hf18
          refine SL.call hS19 [_] rfl Try.func21 (by kernel_rfl) rfl (by decide) [] (by decide) (L0 := []) rfl (fun b' s hb hw hrd hS => spec_l15Entry_ok hx8 (hr3.agr hb) hS) (fun v M w20 hΦ hS20 => ?_)
          clear hS19
          obtain ⟨v6, rfl, rfl⟩ := hΦ
          refine SL.alloc hS20 i32 (by decide) (fun g7 w21 hS21 => ?_)
          clear hS20
          refine SL.stb hS21 5 rfl rfl rfl [str x18.q.name, vi x18.q.ty, vi x18.kind, sl v6, vi x18.rank, vi x18.till] rfl z32 rfl (Nat.le_of_ble_eq_true rfl) #[str x18.q.name, vi x18.q.ty, vi x18.kind, sl v6, vi x18.rank, vi x18.till] rfl (fun w22 hS22 => ?_)
          clear hS21
          refine EL.nil ?_
          refine thenE_n ?_
          refine EW.seq ?_
          refine EW.region ?_
          refine EL.q rfl rfl rfl (by decide) ?_
          refine EL.nil ?_
          refine thenE_n ?_
          refine EW.seq ?_
          refine EW.seq ?_
          obtain ⟨x20, hx9, hf20⟩ := bnd hf19
          clear hf19
          refine EW.cut (fun e W => e = [(1, vi a1), (8, ptr (at0 g3) 0), (11, ptr (at0 g6) 0), (12, ptr (at0 g7) 0), (13, vi 100000), (62, vt x20)] ∧ St b w s [.blk g3 32 #[str [], vi 0, vi 0, .slice none 0 0, vi 0, vi 0], .blk g6 32 #[str x11.q.name, vi x11.q.ty, vi x11.kind, sl v5, vi x11.rank, vi x11.till], .blk g7 32 #[str x18.q.name, vi x18.q.ty, vi x18.kind, sl v6, vi x18.rank, vi x18.till], .row kRec 66 (sl v6) x18.l] W) ?_ ?_
          · skip
            refine EW.region ?_
            iterate 3 refine EL.q rfl rfl rfl (by decide) ?_
            refine EL.split (t := 45) rfl (fun hc7 => ?_) (fun hc7 => ?_)
            · skip
              have hf21 := bifT hc7 hx9
              clear hx9
              refine EL.ungate rfl rfl (by decide) ?_
              refine EL.rn (rn_fa rfl Try.underlying32 rfl z3 (by decide) rfl _) rfl rfl (by decide) ?_
              refine EL.ungate rfl rfl (by decide) ?_
              refine EL.rn (rn_ld rfl Try.underlying3 (by simp) (by simp) (hS22.a 3 rfl) rfl) rfl rfl (by decide) ?_
              refine EL.ungate rfl rfl (by decide) ?_
              refine EL.q rfl rfl rfl (by decide) ?_
              refine EL.ungate rfl rfl (by decide) ?_
              refine EL.q rfl rfl rfl (by decide) ?_
              refine EL.ungate rfl rfl (by decide) ?_
              refine EL.q rfl rfl rfl (by decide) ?_
              refine EL.rn (rn_pickT rfl rfl _) rfl rfl (by decide) ?_
              refine EL.q rfl rfl rfl (by decide) ?_
              refine EL.split (t := 52) rfl (fun hc8 => ?_) (fun hc8 => ?_)
              · skip
                have hf22 := bifT hc8 hf21
                clear hf21
                refine EL.pass rfl rfl (by decide) (by decide) (by decide) ?_
                refine EL.pass rfl rfl (by decide) (by decide) (by decide) ?_
                refine EL.pass rfl rfl (by decide) (by decide) (by decide) ?_
                refine EL.pass0 rfl rfl (by decide) (by decide) ?_
                refine EL.pass0 rfl rfl (by decide) (by decide) ?_
                refine EL.pass0 rfl rfl (by decide) (by decide) ?_
                refine EL.pass0 rfl rfl (by decide) (by decide) ?_
                refine EL.pass0 rfl rfl (by decide) (by decide) ?_
                refine EL.pass rfl rfl (by decide) (by decide) (by decide) ?_
                refine EL.rn (rn_pickT rfl rfl _) rfl rfl (by decide) ?_
                refine EL.nil ?_
                cases hf22
                refine thenE_n ?_
                exact ⟨[(1, vi a1), (8, ptr (at0 g3) 0), (11, ptr (at0 g6) 0), (12, ptr (at0 g7) 0), (13, vi 100000), (62, vt true)], ⟨rfl, rfl, rfl, rfl, rfl, rfl, trivial⟩, rfl, hS22.sel [2, 3, 5, 4] rfl (by decide)⟩
              · skip
                have hf23 := bifF hc8 hf21
                clear hf21
                refine EL.ungate rfl rfl (by decide) ?_
                refine EL.q rfl rfl rfl (by decide) ?_
                refine EL.ungate rfl rfl (by decide) ?_
                refine EL.q rfl rfl rfl (by decide) ?_
                refine EL.ungate rfl rfl (by decide) ?_
                refine EL.q rfl rfl rfl (by decide) ?_
                refine EL.split (t := 55) rfl (fun hc9 => ?_) (fun hc9 => ?_)
                · skip
                  have hf24 := bifT hc9 hf23
                  clear hf23
                  refine EL.ungate rfl rfl (by decide) ?_
                  refine EL.rn (rn_fa rfl Try.underlying32 rfl z3 (by decide) rfl _) rfl rfl (by decide) ?_
                  refine EL.ungate rfl rfl (by decide) ?_
                  refine EL.rn (rn_ld rfl Try.underlying3 (by simp) (by simp) (hS22.a 3 rfl) rfl) rfl rfl (by decide) ?_
                  refine EL.ungate rfl rfl (by decide) ?_
                  refine EL.q rfl rfl rfl (by decide) ?_
                  refine EL.ungate rfl rfl (by decide) ?_
                  refine EL.q rfl rfl rfl (by decide) ?_
                  refine EL.ungate rfl rfl (by decide) ?_
                  refine EL.q rfl rfl rfl (by decide) ?_
                  refine EL.ungate rfl rfl (by decide) ?_
                  refine EL.rn (rn_pickT rfl rfl _) rfl rfl (by decide) ?_
                  refine EL.rn (rn_pickF rfl rfl _) rfl rfl (by decide) ?_
                  refine EL.nil ?_
                  cases hf24
                  refine thenE_n ?_
                  exact ⟨[(1, vi a1), (8, ptr (at0 g3) 0), (11, ptr (at0 g6) 0), (12, ptr (at0 g7) 0), (13, vi 100000), (62, vt (decide (x11.till < (w64 (100000 + a1)))))], ⟨rfl, rfl, rfl, rfl, rfl, rfl, trivial⟩, rfl, hS22.sel [2, 3, 5, 4] rfl (by decide)⟩
                · skip
                  have hf25 := bifF hc9 hf23
                  clear hf23
                  refine EL.pass rfl rfl (by decide) (by decide) (by decide) ?_
                  refine EL.pass rfl rfl (by decide) (by decide) (by decide) ?_
                  refine EL.pass rfl rfl (by decide) (by decide) (by decide) ?_
                  refine EL.pass rfl rfl (by decide) (by decide) (by decide) ?_
                  refine EL.pass rfl rfl (by decide) (by decide) (by decide) ?_
                  refine EL.ungate rfl rfl (by decide) ?_
                  refine EL.rn (rn_pickF rfl rfl _) rfl rfl (by decide) ?_
                  refine EL.rn (rn_pickF rfl rfl _) rfl rfl (by decide) ?_
                  refine EL.nil ?_
                  cases hf25
                  refine thenE_n ?_
                  exact ⟨[(1, vi a1), (8, ptr (at0 g3) 0), (11, ptr (at0 g6) 0), (12, ptr (at0 g7) 0), (13, vi 100000), (62, vt false)], ⟨rfl, rfl, rfl, rfl, rfl, rfl, trivial⟩, rfl, hS22.sel [2, 3, 5, 4] rfl (by decide)⟩
            · skip
              have hf26 := bifF hc7 hx9
              clear hx9
              refine EL.pass rfl rfl (by decide) (by decide) (by decide) ?_
              refine EL.pass rfl rfl (by decide) (by decide) (by decide) ?_
              refine EL.pass rfl rfl (by decide) (by decide) (by decide) ?_
              refine EL.pass rfl rfl (by decide) (by decide) (by decide) ?_
              refine EL.pass rfl rfl (by decide) (by decide) (by decide) ?_
              refine EL.rn (rn_pickF rfl rfl _) rfl rfl (by decide) ?_
              refine EL.q rfl rfl rfl (by decide) ?_
              refine EL.ungate rfl rfl (by decide) ?_
              refine EL.q rfl rfl rfl (by decide) ?_
              refine EL.ungate rfl rfl (by decide) ?_
              refine EL.q rfl rfl rfl (by decide) ?_
              refine EL.ungate rfl rfl (by decide) ?_
              refine EL.q rfl rfl rfl (by decide) ?_
              refine EL.split (t := 55) rfl (fun hc10 => ?_) (fun hc10 => ?_)
              · skip
                have hf27 := bifT hc10 hf26
                clear hf26
                refine EL.ungate rfl rfl (by decide) ?_
                refine EL.rn (rn_fa rfl Try.underlying32 rfl z3 (by decide) rfl _) rfl rfl (by decide) ?_
                refine EL.ungate rfl rfl (by decide) ?_
                refine EL.rn (rn_ld rfl Try.underlying3 (by simp) (by simp) (hS22.a 3 rfl) rfl) rfl rfl (by decide) ?_
                refine EL.ungate rfl rfl (by decide) ?_
                refine EL.q rfl rfl rfl (by decide) ?_
                refine EL.ungate rfl rfl (by decide) ?_
                refine EL.q rfl rfl rfl (by decide) ?_
                refine EL.ungate rfl rfl (by decide) ?_
                refine EL.q rfl rfl rfl (by decide) ?_
                refine EL.ungate rfl rfl (by decide) ?_
                refine EL.rn (rn_pickT rfl rfl _) rfl rfl (by decide) ?_
                refine EL.rn (rn_pickF rfl rfl _) rfl rfl (by decide) ?_
                refine EL.nil ?_
                cases hf27
                refine thenE_n ?_
                exact ⟨[(1, vi a1), (8, ptr (at0 g3) 0), (11, ptr (at0 g6) 0), (12, ptr (at0 g7) 0), (13, vi 100000), (62, vt (decide (x11.till < (w64 (100000 + a1)))))], ⟨rfl, rfl, rfl, rfl, rfl, rfl, trivial⟩, rfl, hS22.sel [2, 3, 5, 4] rfl (by decide)⟩
              · skip
                have hf28 := bifF hc10 hf26
                clear hf26
                refine EL.pass rfl rfl (by decide) (by decide) (by decide) ?_
                refine EL.pass rfl rfl (by decide) (by decide) (by decide) ?_
                refine EL.pass rfl rfl (by decide) (by decide) (by decide) ?_
                refine EL.pass rfl rfl (by decide) (by decide) (by decide) ?_
                refine EL.pass rfl rfl (by decide) (by decide) (by decide) ?_
                refine EL.ungate rfl rfl (by decide) ?_
                refine EL.rn (rn_pickF rfl rfl _) rfl rfl (by decide) ?_
                refine EL.rn (rn_pickF rfl rfl _) rfl rfl (by decide) ?_
                refine EL.nil ?_
                cases hf28
                refine thenE_n ?_
                exact ⟨[(1, vi a1), (8, ptr (at0 g3) 0), (11, ptr (at0 g6) 0), (12, ptr (at0 g7) 0), (13, vi 100000), (62, vt false)], ⟨rfl, rfl, rfl, rfl, rfl, rfl, trivial⟩, rfl, hS22.sel [2, 3, 5, 4] rfl (by decide)⟩
          · skip
            rintro e w23 ⟨rfl, hS23⟩
            refine thenE_n ?_
            obtain ⟨x27, hx10, hf29⟩ := bnd hf20
            clear hf20
            refine EW.cut (fun e W => e = [(8, ptr (at0 g3) 0), (11, ptr (at0 g6) 0), (12, ptr (at0 g7) 0), (13, vi x27)] ∧ St b w s [.blk g3 32 #[str [], vi 0, vi 0, .slice none 0 0, vi 0, vi 0], .blk g6 32 #[str x11.q.name, vi x11.q.ty, vi x11.kind, sl v5, vi x11.rank, vi x11.till], .blk g7 32 #[str x18.q.name, vi x18.q.ty, vi x18.kind, sl v6, vi x18.rank, vi x18.till], .row kRec 66 (sl v6) x18.l] W) ?_ ?_
            · skip
              refine EW.cond rfl (fun hc11 => ?_) (fun hc11 => ?_)
              · skip
                have hf30 := bifT hc11 hx10
                clear hx10
                refine EW.region ?_
                refine EL.rn (rn_fa rfl Try.underlying32 rfl z3 (by decide) rfl _) rfl rfl (by decide) ?_
                refine EL.rn (rn_ld rfl Try.underlying3 (by simp) (by simp) (hS23.a 1 rfl) rfl) rfl rfl (by decide) ?_
                iterate 3 refine EL.q rfl rfl rfl (by decide) ?_
                refine EL.nil ?_
                cases hf30
                refine thenE_n ?_
                exact ⟨[(8, ptr (at0 g3) 0), (11, ptr (at0 g6) 0), (12, ptr (at0 g7) 0), (13, vi (w64 (x11.till - a1)))], ⟨rfl, rfl, rfl, rfl, trivial⟩, rfl, hS23.sel [0, 1, 2, 3] rfl (by decide)⟩
              · skip
                have hf31 := bifF hc11 hx10
                clear hx10
                refine EW.skip ?_
                cases hf31
                refine thenE_n ?_
                exact ⟨[(8, ptr (at0 g3) 0), (11, ptr (at0 g6) 0), (12, ptr (at0 g7) 0), (13, vi 100000)], ⟨rfl, rfl, rfl, rfl, trivial⟩, rfl, hS23.sel [0, 1, 2, 3] rfl (by decide)⟩
            · skip
              rintro e w24 ⟨rfl, hS24⟩
              refine thenE_n ?_
              refine EW.seq ?_
              refine EW.region ?_
              refine EL.rn (rn_fa rfl Try.underlying32 rfl z30 (by decide) rfl _) rfl rfl (by decide) ?_
              refine EL.rn (rn_ld rfl Try.underlying30 (by simp) (by simp) (hS24.a 1 rfl) rfl) rfl rfl (by decide) ?_
              refine EL.q rfl rfl rfl (by decide) ?_
              obtain ⟨x30, hx11, hf32⟩ := bnd hf29
              clear hf29
              refine SL.call hS24 [_, _] rfl Try.func22 (by kernel_rfl) rfl (by decide) [] (by decide) (L0 := []) rfl (fun b' s hb hw hrd hS => spec_WithTtl_ok hx11 (hr3.agr hb) hS) (fun v M w25 hΦ hS25 => ?_)
              clear hS24
              obtain ⟨v7, rfl, rfl⟩ := hΦ
              refine EL.rn (rn_fa rfl Try.underlying32 rfl z30 (by decide) rfl _) rfl rfl (by decide) ?_
              refine SL.stb hS25 2 rfl rfl rfl [sl v7] rfl z30 rfl (Nat.le_of_ble_eq_true rfl) #[str x18.q.name, vi x18.q.ty, vi x18.kind, sl v7, vi x18.rank, vi x18.till] rfl (fun w26 hS26 => ?_)
              clear hS25
              refine EL.nil ?_
              refine thenE_n ?_
              refine EW.seq ?_
              refine EW.region ?_
              refine EL.rn (rn_lds (m := 6) [str x18.q.name, vi x18.q.ty, vi x18.kind, sl v7, vi x18.rank, vi x18.till] rfl Try.underlying32 (hS26.a 2 rfl) rfl z32) rfl rfl (by decide) ?_
              refine SL.stb hS26 0 rfl rfl rfl [str x18.q.name, vi x18.q.ty, vi x18.kind, sl v7, vi x18.rank, vi x18.till] rfl z32 rfl (Nat.le_of_ble_eq_true rfl) #[str x18.q.name, vi x18.q.ty, vi x18.kind, sl v7, vi x18.rank, vi x18.till] rfl (fun w27 hS27 => ?_)
              clear hS26
              refine EL.q rfl rfl rfl (by decide) ?_
              refine EL.nil ?_
              refine thenE_n ?_
              refine EW.ret ?_
              repeat (first | refine thenE_r ?_ | refine inB_r ?_)
              obtain rfl := Option.some.inj hf32
              obtain rfl := hrt1 _ rfl
              obtain rfl := Option.some.inj hf8
              exact ⟨_, resn rfl (by simp) (.cell rfl (hS27.blk 0 rfl) Try.underlying32 z32 (.tmp rfl .nil)), _, _, rfl, ⟨v7, rfl, rfl⟩, hS27.sel [4] rfl (by decide)⟩
        · skip
          have hf33 := bifF hc6 hf12
          clear hf12
          refine EW.skip ?_
          refine inB_n ?_
          refine thenE_n ?_
          refine EW.region ?_
          iterate 3 refine EL.q rfl rfl rfl (by decide) ?_
          refine EL.nil ?_
          obtain rfl := Option.some.inj hf33
          refine thenE_n ?_
          exact ⟨(w64 (x1 + 1)), [(1, vi a1), (3, vi a3), (4, ptr (at0 g1) 0), (6, ptr (at0 g2) 0), (8, ptr (at0 g3) 0), (10, vi (w64 (x1 + 1)))], rfl, ⟨rfl, rfl, rfl, rfl, rfl, rfl, trivial⟩, rfl, hS19.sel [0, 1, 2] rfl (by decide)⟩
    · skip
      have hf34 := bifF hc3 hf9
      clear hf9
      refine EW.exit ?_
      repeat (first | refine thenE_x ?_ | refine inB_x ?_ | refine inB_y (by decide) ?_)
      obtain rfl := Option.some.inj hf34
      obtain rfl := hbr1 _ rfl
      refine thenE_n ?_
      exact ⟨[(8, ptr (at0 g3) 0)], ⟨rfl, trivial⟩, rfl, rfl, hS15.sel [2] rfl (by decide)⟩
  · skip
    rintro e w28 ⟨rfl, rfl, hS28⟩
    refine thenE_n ?_
    refine EW.seq ?_
    refine EW.region ?_
    refine EL.rn (rn_bld (cs := #[str [], vi 0, vi 0, .slice none 0 0, vi 0, vi 0]) [] rfl Try.underlying32 i32 p32 q32 rfl _) rfl rfl (by decide) ?_
    refine SL.stb hS28 0 rfl rfl rfl [str [], vi 0, vi 0, .slice none 0 0, vi 0, vi 0] rfl z32 rfl (Nat.le_of_ble_eq_true rfl) #[str [], vi 0, vi 0, .slice none 0 0, vi 0, vi 0] rfl (fun w29 hS29 => ?_)
    clear hS28
    refine EL.q rfl rfl rfl (by decide) ?_
    refine EL.nil ?_
    refine thenE_n ?_
    refine EW.ret ?_
    repeat (first | refine thenE_r ?_ | refine inB_r ?_)
    have hS30 := hS29.nilrow kRec 66
    obtain rfl := Option.some.inj hf8
    exact ⟨_, resn rfl (by simp) (.cell rfl (hS30.blk 0 rfl) Try.underlying32 z32 (.tmp rfl .nil)), _, _, rfl, ⟨(none, 0, 0), rfl, rfl⟩, hS30.sel [1] rfl (by decide)⟩

-- 9 loop.example/g00497/laws.toQuest
set_option maxHeartbeats 4000000 in
set_option maxRecDepth 100000 in
theorem laws_toQuest_ok {a0 : Que} {r : Que} (hf : laws_toQuest a0 = some r) {b w : World} {s : Nat → Prop} (hS : St b w s [] w) : Calls Try.prog 9 ([.agg #[str a0.name, vi a0.ty]] : List Value).toArray w fun e w' => ∃ v M, e = .returned v ∧ (v = .agg #[str r.name, vi r.ty] ∧ M = []) ∧ St b w s M w' := by
  rw [laws_toQuest] at hf
  refine calls_of (n := 11) (args := [_]) Try.func9 rfl rfl (Nat.le_of_ble_eq_true rfl) ?_
  refine EW.seq ?_
  refine EW.region ?_
  refine SL.box hS rfl (by decide) (fun g1 w1 hS1 => ?_)
  clear hS
  refine SL.alloc hS1 i29 (by decide) (fun g2 w2 hS2 => ?_)
  clear hS1
  refine EL.nil ?_
  refine thenE_n ?_
  refine EW.seq ?_
  refine EW.region ?_
  refine SL.alloc hS2 i29 (by decide) (fun g3 w3 hS3 => ?_)
  clear hS2
  refine EL.nil ?_
  refine thenE_n ?_
  refine EW.seq ?_
  refine EW.region ?_
  refine EL.rn (rn_fa rfl Try.underlying26 rfl z9 (by decide) rfl _) rfl rfl (by decide) ?_
  refine EL.rn (rn_ld rfl Try.underlying9 (by simp) (by simp) (hS3.a 0 rfl) rfl) rfl rfl (by decide) ?_
  refine EL.rn (rn_fa rfl Try.underlying29 rfl z9 (by decide) rfl _) rfl rfl (by decide) ?_
  refine SL.stb hS3 2 rfl rfl rfl [str a0.name] rfl z9 rfl (Nat.le_of_ble_eq_true rfl) #[str a0.name, vi 0] rfl (fun w4 hS4 => ?_)
  clear hS3
  refine EL.nil ?_
  refine thenE_n ?_
  refine EW.seq ?_
  refine EW.region ?_
  refine EL.rn (rn_fa rfl Try.underlying26 rfl z3 (by decide) rfl _) rfl rfl (by decide) ?_
  refine EL.rn (rn_ld rfl Try.underlying3 (by simp) (by simp) (hS4.a 0 rfl) rfl) rfl rfl (by decide) ?_
  refine EL.rn (rn_fa rfl Try.underlying29 rfl z3 (by decide) rfl _) rfl rfl (by decide) ?_
  refine SL.stb hS4 2 rfl rfl rfl [vi a0.ty] rfl z3 rfl (Nat.le_of_ble_eq_true rfl) #[str a0.name, vi a0.ty] rfl (fun w5 hS5 => ?_)
  clear hS4
  refine EL.nil ?_
  refine thenE_n ?_
  refine EW.seq ?_
  refine EW.region ?_
  refine EL.rn (rn_lds (m := 2) [str a0.name, vi a0.ty] rfl Try.underlying29 (hS5.a 2 rfl) rfl z29) rfl rfl (by decide) ?_
  refine SL.stb hS5 1 rfl rfl rfl [str a0.name, vi a0.ty] rfl z29 rfl (Nat.le_of_ble_eq_true rfl) #[str a0.name, vi a0.ty] rfl (fun w6 hS6 => ?_)
  clear hS5
  refine EL.nil ?_
  refine thenE_n ?_
  refine EW.ret ?_
  repeat (first | refine thenE_r ?_ | refine inB_r ?_)
  obtain rfl := Option.some.inj hf
  exact ⟨_, res1 rfl (.cell rfl (hS6.blk 1 rfl) Try.underlying29 z29 .nil), _, _, rfl, ⟨rfl, rfl⟩, hS6.sel [] rfl (by decide)⟩

-- 46 loop.example/g00497/laws.toRecord
set_option maxHeartbeats 4000000 in
set_option maxRecDepth 100000 in
theorem laws_toRecord_ok {a0 : Rec} {r : Rec} (hf : laws_toRecord a0 = some r) {b w : World} {s : Nat → Prop} (hS : St b w s [] w) : Calls Try.prog 46 ([.agg #[str a0.name, vi a0.ty, vi a0.ttl, vi a0.num, str a0.host, str a0.text]] : List Value).toArray w fun e w' => ∃ v M, e = .returned v ∧ (v = .agg #[str r.name, vi r.ty, vi r.ttl, vi r.num, str r.host, str r.text] ∧ M = []) ∧ St b w s M w' := by
  rw [laws_toRecord] at hf
  refine calls_of (n := 23) (args := [_]) Try.func46 rfl rfl (Nat.le_of_ble_eq_true rfl) ?_
  refine EW.seq ?_
  refine EW.region ?_
  refine SL.box hS rfl (by decide) (fun g1 w1 hS1 => ?_)
  clear hS
  refine SL.alloc hS1 i66 (by decide) (fun g2 w2 hS2 => ?_)
  clear hS1
  refine EL.nil ?_
  refine thenE_n ?_
  refine EW.seq ?_
  refine EW.region ?_
  refine SL.alloc hS2 i66 (by decide) (fun g3 w3 hS3 => ?_)
  clear hS2
  refine EL.nil ?_
  refine thenE_n ?_
  refine EW.seq ?_
  refine EW.region ?_
  refine EL.rn (rn_fa rfl Try.underlying75 rfl z9 (by decide) rfl _) rfl rfl (by decide) ?_
  refine EL.rn (rn_ld rfl Try.underlying9 (by simp) (by simp) (hS3.a 0 rfl) rfl) rfl rfl (by decide) ?_
  refine EL.rn (rn_fa rfl Try.underlying66 rfl z9 (by decide) rfl _) rfl rfl (by decide) ?_
  refine SL.stb hS3 2 rfl rfl rfl [str a0.name] rfl z9 rfl (Nat.le_of_ble_eq_true rfl) #[str a0.name, vi 0, vi 0, vi 0, str [], str []] rfl (fun w4 hS4 => ?_)
  clear hS3
  refine EL.nil ?_
  refine thenE_n ?_
  refine EW.seq ?_
  refine EW.region ?_
  refine EL.rn (rn_fa rfl Try.underlying75 rfl z3 (by decide) rfl _) rfl rfl (by decide) ?_
  refine EL.rn (rn_ld rfl Try.underlying3 (by simp) (by simp) (hS4.a 0 rfl) rfl) rfl rfl (by decide) ?_
  refine EL.rn (rn_fa rfl Try.underlying66 rfl z3 (by decide) rfl _) rfl rfl (by decide) ?_
  refine SL.stb hS4 2 rfl rfl rfl [vi a0.ty] rfl z3 rfl (Nat.le_of_ble_eq_true rfl) #[str a0.name, vi a0.ty, vi 0, vi 0, str [], str []] rfl (fun w5 hS5 => ?_)
  clear hS4
  refine EL.nil ?_
  refine thenE_n ?_
  refine EW.seq ?_
  refine EW.region ?_
  refine EL.rn (rn_fa rfl Try.underlying75 rfl z3 (by decide) rfl _) rfl rfl (by decide) ?_
  refine EL.rn (rn_ld rfl Try.underlying3 (by simp) (by simp) (hS5.a 0 rfl) rfl) rfl rfl (by decide) ?_
  refine EL.rn (rn_fa rfl Try.underlying66 rfl z3 (by decide) rfl _) rfl rfl (by decide) ?_
  refine SL.stb hS5 2 rfl rfl rfl [vi a0.ttl] rfl z3 rfl (Nat.le_of_ble_eq_true rfl) #[str a0.name, vi a0.ty, vi a0.ttl, vi 0, str [], str []] rfl (fun w6 hS6 => ?_)
  clear hS5
  refine EL.nil ?_
  refine thenE_n ?_
  refine EW.seq ?_
  refine EW.region ?_
  refine EL.rn (rn_fa rfl Try.underlying75 rfl z3 (by decide) rfl _) rfl rfl (by decide) ?_
  refine EL.rn (rn_ld rfl Try.underlying3 (by simp) (by simp) (hS6.a 0 rfl) rfl) rfl rfl (by decide) ?_
  refine EL.rn (rn_fa rfl Try.underlying66 rfl z3 (by decide) rfl _) rfl rfl (by decide) ?_
  refine SL.stb hS6 2 rfl rfl rfl [vi a0.num] rfl z3 rfl (Nat.le_of_ble_eq_true rfl) #[str a0.name, vi a0.ty, vi a0.ttl, vi a0.num, str [], str []] rfl (fun w7 hS7 => ?_)
  clear hS6
  refine EL.nil ?_
  refine thenE_n ?_
  refine EW.seq ?_
  refine EW.region ?_
  refine EL.rn (rn_fa rfl Try.underlying75 rfl z9 (by decide) rfl _) rfl rfl (by decide) ?_
  refine EL.rn (rn_ld rfl Try.underlying9 (by simp) (by simp) (hS7.a 0 rfl) rfl) rfl rfl (by decide) ?_
  refine EL.rn (rn_fa rfl Try.underlying66 rfl z9 (by decide) rfl _) rfl rfl (by decide) ?_
  refine SL.stb hS7 2 rfl rfl rfl [str a0.host] rfl z9 rfl (Nat.le_of_ble_eq_true rfl) #[str a0.name, vi a0.ty, vi a0.ttl, vi a0.num, str a0.host, str []] rfl (fun w8 hS8 => ?_)
  clear hS7
  refine EL.nil ?_
  refine thenE_n ?_
  refine EW.seq ?_
  refine EW.region ?_
  refine EL.rn (rn_fa rfl Try.underlying75 rfl z9 (by decide) rfl _) rfl rfl (by decide) ?_
  refine EL.rn (rn_ld rfl Try.underlying9 (by simp) (by simp) (hS8.a 0 rfl) rfl) rfl rfl (by decide) ?_
  refine EL.rn (rn_fa rfl Try.underlying66 rfl z9 (by decide) rfl _) rfl rfl (by decide) ?_
  refine SL.stb hS8 2 rfl rfl rfl [str a0.text] rfl z9 rfl (Nat.le_of_ble_eq_true rfl) #[str a0.name, vi a0.ty, vi a0.ttl, vi a0.num, str a0.host, str a0.text] rfl (fun w9 hS9 => ?_)
  clear hS8
  refine EL.nil ?_
  refine thenE_n ?_
  refine EW.seq ?_
  refine EW.region ?_
  refine EL.rn (rn_lds (m := 6) [str a0.name, vi a0.ty, vi a0.ttl, vi a0.num, str a0.host, str a0.text] rfl Try.underlying66 (hS9.a 2 rfl) rfl z66) rfl rfl (by decide) ?_
  refine SL.stb hS9 1 rfl rfl rfl [str a0.name, vi a0.ty, vi a0.ttl, vi a0.num, str a0.host, str a0.text] rfl z66 rfl (Nat.le_of_ble_eq_true rfl) #[str a0.name, vi a0.ty, vi a0.ttl, vi a0.num, str a0.host, str a0.text] rfl (fun w10 hS10 => ?_)
  clear hS9
  refine EL.nil ?_
  refine thenE_n ?_
  refine EW.ret ?_
  repeat (first | refine thenE_r ?_ | refine inB_r ?_)
  obtain rfl := Option.some.inj hf
  exact ⟨_, res1 rfl (.cell rfl (hS10.blk 1 rfl) Try.underlying66 z66 .nil), _, _, rfl, ⟨rfl, rfl⟩, hS10.sel [] rfl (by decide)⟩

-- 44 loop.example/g00497/laws.toRecordS
set_option maxHeartbeats 4000000 in
set_option maxRecDepth 100000 in
theorem laws_toRecordS_ok {k : Nat} {a0 : List Rec} {r : List Rec} (hf : laws_toRecordS k a0 = some r) {b w : World} {s : Nat → Prop} {v1 : Sv} (hr1 : kRec.C b (sl v1) a0) (hS : St b w s [] w) : Calls Try.prog 44 ([sl v1] : List Value).toArray w fun e w' => ∃ v M, e = .returned v ∧ (∃ u1 : Sv, v = sl u1 ∧ M = [.row kRec 66 (sl u1) r]) ∧ St b w s M w' := by
  rw [laws_toRecordS] at hf
  refine calls_of (n := 23) (args := [_]) Try.func44 rfl rfl (Nat.le_of_ble_eq_true rfl) ?_
  refine EW.seq ?_
  refine EW.region ?_
  refine EL.q rfl rfl rfl (by decide) ?_
  refine EL.nil ?_
  refine thenE_n ?_
  refine EW.seq ?_
  refine EW.region ?_
  refine EL.q rfl rfl rfl (by decide) ?_
  refine EL.rn (rn_len rfl (K2.C.sl (d := kRec) (hS.now hr1)) Try.underlying61 _) rfl rfl (by decide) ?_
  obtain ⟨x1, hx1, hf1⟩ := bnd hf
  clear hf
  refine SL.mk hS kRec ({ name := [], ty := 0, ttl := 0, num := 0, host := [], text := [] } : Rec) rfl rfl hx1 Try.underlying30 i66 rfl (by decide) (by decide) (by decide) rfl (fun w s => Rec_Mk w s _) (by decide) (fun v2 w1 hS1 => ?_)
  clear hS
  refine EL.q rfl rfl rfl (by decide) ?_
  refine EL.nil ?_
  refine thenE_n ?_
  refine EW.seq ?_
  refine EW.seq ?_
  refine EW.region ?_
  refine EL.q rfl rfl rfl (by decide) ?_
  refine EL.nil ?_
  refine thenE_n ?_
  obtain ⟨o1, hx5, hf7⟩ := bnd hf1
  clear hf1
  refine EW.cut (fun e W => ∃ x8 : List Rec, o1 = .brk x8 ∧ e = [(3, sl v2)] ∧ St b w s [.row kRec 66 (sl v2) x8] W) ?_ ?_
  · skip
    refine EW.block ?_
    refine EW.loopP hx5 (fun (x : (List Rec) × Int) e W => match x with | (x2, x3) => e = [(0, sl v1), (3, sl v2), (4, vi x3)] ∧ St b w s [.row kRec 66 (sl v2) x2] W) [(0, sl v1), (3, sl v2), (4, vi 0)] ⟨rfl, rfl, rfl, trivial⟩ ⟨rfl, hS1.sel [0] rfl (by decide)⟩ ?_
    rintro ⟨x2, x3⟩ e w4 ⟨rfl, hS4⟩ st1 hf8 hbr1 hrt1
    rw [laws_toRecordS_b1] at hf8
    refine EW.seq ?_
    refine EW.seq ?_
    refine EW.region ?_
    iterate 2 refine EL.q rfl rfl rfl (by decide) ?_
    refine EL.rn (rn_len rfl (K2.C.sl (d := kRec) (hS4.now hr1)) Try.underlying61 _) rfl rfl (by decide) ?_
    refine EL.q rfl rfl rfl (by decide) ?_
    refine EL.nil ?_
    refine thenE_n ?_
    refine EW.cond rfl (fun hc2 => ?_) (fun hc2 => ?_)
    · skip
      have hf9 := bifT hc2 hf8
      clear hf8
      refine EW.skip ?_
      refine thenE_n ?_
      refine EW.seq ?_
      refine EW.block ?_
      refine EW.region ?_
      iterate 4 refine EL.q rfl rfl rfl (by decide) ?_
      obtain ⟨x9, hx6, hf10⟩ := bnd hf9
      clear hf9
      obtain ⟨ad3, hE3⟩ := EA.of (d := kRec) (hS4.now hr1) hx6
      refine EL.rn (rn_ix rfl rfl hE3 Try.underlying61 z75 _) rfl rfl (by decide) ?_
      refine EL.rn (rn_lds (m := 6) [str x9.name, vi x9.ty, vi x9.ttl, vi x9.num, str x9.host, str x9.text] rfl Try.underlying75 (Rec_at (hS4.now hr1) hE3 hx6) rfl z75) rfl rfl (by decide) ?_
      obtain ⟨x10, hx7, hf11⟩ := bnd hf10
      clear hf10
      refine SL.call hS4 [_] rfl Try.func46 (by kernel_rfl) rfl (by decide) [] (by decide) (L0 := []) rfl (fun b' s hb hw hrd hS => laws_toRecord_ok hx7 hS) (fun v M w5 hΦ hS5 => ?_)
      clear hS4
      obtain ⟨rfl, rfl⟩ := hΦ
      obtain ⟨x11, hx8, hf12⟩ := bnd hf11
      clear hf11
      obtain ⟨ad4, hE4⟩ := EA.of (d := kRec) (hS5.c 0 rfl) hx8
      refine EL.rn (rn_ix rfl rfl hE4 Try.underlying30 z66 _) rfl rfl (by decide) ?_
      refine SL.sto hS5 0 rfl x10 rfl rfl [str x10.name, vi x10.ty, vi x10.ttl, vi x10.num, str x10.host, str x10.text] rfl z66 rfl hE4 hx8 (Nat.le_of_ble_eq_true rfl) (fun w s cs h => by rw [Rec_M h]; exact Rec_Mk _ _ _) (fun w6 hS6 => ?_)
      clear hS5
      refine EL.nil ?_
      refine inB_n ?_
      refine thenE_n ?_
      refine EW.region ?_
      iterate 3 refine EL.q rfl rfl rfl (by decide) ?_
      refine EL.nil ?_
      obtain rfl := Option.some.inj hf12
      refine thenE_n ?_
      exact ⟨((x2.set (x3).toNat x10), (w64 (x3 + 1))), [(0, sl v1), (3, sl v2), (4, vi (w64 (x3 + 1)))], rfl, ⟨rfl, rfl, rfl, trivial⟩, rfl, hS6.sel [0] rfl (by decide)⟩
    · skip
      have hf13 := bifF hc2 hf8
      clear hf8
      refine EW.exit ?_
      repeat (first | refine thenE_x ?_ | refine inB_x ?_ | refine inB_y (by decide) ?_)
      obtain rfl := Option.some.inj hf13
      obtain rfl := hbr1 _ rfl
      refine thenE_n ?_
      exact ⟨[(3, sl v2)], ⟨rfl, trivial⟩, x2, rfl, rfl, hS4.sel [0] rfl (by decide)⟩
  · skip
    rintro e w7 ⟨x8, rfl, rfl, hS7⟩
    refine thenE_n ?_
    refine EW.seq ?_
    refine EW.region ?_
    iterate 2 refine EL.q rfl rfl rfl (by decide) ?_
    refine EL.nil ?_
    refine thenE_n ?_
    refine EW.ret ?_
    repeat (first | refine thenE_r ?_ | refine inB_r ?_)
    obtain rfl := Option.some.inj hf7
    exact ⟨_, res rfl, _, _, rfl, ⟨v2, rfl, rfl⟩, hS7.sel [0] rfl (by decide)⟩

-- 37 loop.example/g00497/laws.toEntry
set_option maxHeartbeats 4000000 in
set_option maxRecDepth 100000 in
theorem laws_toEntry_ok {k : Nat} {a0 : Ent} {r : Ent} (hf : laws_toEntry k a0 = some r) {b w : World} {s : Nat → Prop} {v1 : Sv} (hr1 : kRec.C b (sl v1) a0.l) (hS : St b w s [] w) : Calls Try.prog 37 ([.agg #[str a0.q.name, vi a0.q.ty, vi a0.kind, sl v1, vi a0.rank, vi a0.till]] : List Value).toArray w fun e w' => ∃ v M, e = .returned v ∧ (∃ u1 : Sv, v = .agg #[str r.q.name, vi r.q.ty, vi r.kind, sl u1, vi r.rank, vi r.till] ∧ M = [.row kRec 66 (sl u1) r.l]) ∧ St b w s M w' := by
  rw [laws_toEntry] at hf
  refine calls_of (n := 22) (args := [_]) Try.func37 rfl rfl (Nat.le_of_ble_eq_true rfl) ?_
  refine EW.seq ?_
  refine EW.region ?_
  refine SL.box hS rfl (by decide) (fun g1 w1 hS1 => ?_)
  clear hS
  refine SL.alloc hS1 i32 (by decide) (fun g2 w2 hS2 => ?_)
  clear hS1
  refine EL.nil ?_
  refine thenE_n ?_
  refine EW.seq ?_
  refine EW.region ?_
  refine SL.alloc hS2 i32 (by decide) (fun g3 w3 hS3 => ?_)
  clear hS2
  refine EL.nil ?_
  refine thenE_n ?_
  refine EW.seq ?_
  refine EW.region ?_
  refine EL.rn (rn_fa rfl Try.underlying63 rfl z26 (by decide) rfl _) rfl rfl (by decide) ?_
  refine EL.rn (rn_lds (m := 2) [str a0.q.name, vi a0.q.ty] rfl Try.underlying26 (hS3.a 0 rfl) rfl z26) rfl rfl (by decide) ?_
  obtain ⟨x1, hx1, hf1⟩ := bnd hf
  clear hf
  refine SL.call hS3 [_] rfl Try.func9 (by kernel_rfl) rfl (by decide) [] (by decide) (L0 := []) rfl (fun b' s hb hw hrd hS => laws_toQuest_ok hx1 hS) (fun v M w4 hΦ hS4 => ?_)
  clear hS3
  obtain ⟨rfl, rfl⟩ := hΦ
  refine EL.rn (rn_fa rfl Try.underlying32 rfl z29 (by decide) rfl _) rfl rfl (by decide) ?_
  refine SL.stb hS4 2 rfl rfl rfl [str x1.name, vi x1.ty] rfl z29 rfl (Nat.le_of_ble_eq_true rfl) #[str x1.name, vi x1.ty, vi 0, .slice none 0 0, vi 0, vi 0] rfl (fun w5 hS5 => ?_)
  clear hS4
  refine EL.nil ?_
  refine thenE_n ?_
  refine EW.seq ?_
  refine EW.region ?_
  refine EL.rn (rn_fa rfl Try.underlying63 rfl z3 (by decide) rfl _) rfl rfl (by decide) ?_
  refine EL.rn (rn_ld rfl Try.underlying3 (by simp) (by simp) (hS5.a 0 rfl) rfl) rfl rfl (by decide) ?_
  refine EL.rn (rn_fa rfl Try.underlying32 rfl z3 (by decide) rfl _) rfl rfl (by decide) ?_
  refine SL.stb hS5 2 rfl rfl rfl [vi a0.kind] rfl z3 rfl (Nat.le_of_ble_eq_true rfl) #[str x1.name, vi x1.ty, vi a0.kind, .slice none 0 0, vi 0, vi 0] rfl (fun w6 hS6 => ?_)
  clear hS5
  refine EL.nil ?_
  refine thenE_n ?_
  refine EW.seq ?_
  refine EW.region ?_
  refine EL.rn (rn_fa rfl Try.underlying63 rfl z61 (by decide) rfl _) rfl rfl (by decide) ?_
  refine EL.rn (rn_ld rfl Try.underlying61 (by simp) (by simp) (hS6.a 0 rfl) rfl) rfl rfl (by decide) ?_
  obtain ⟨x2, hx2, hf2⟩ := bnd hf1
  clear hf1
  refine SL.call hS6 [_] rfl Try.func44 (by kernel_rfl) rfl (by decide) [] (by decide) (L0 := []) rfl (fun b' s hb hw hrd hS => laws_toRecordS_ok hx2 (hr1.agr hb) hS) (fun v M w7 hΦ hS7 => ?_)
  clear hS6
  obtain ⟨v2, rfl, rfl⟩ := hΦ
  refine EL.rn (rn_fa rfl Try.underlying32 rfl z30 (by decide) rfl _) rfl rfl (by decide) ?_
  refine SL.stb hS7 2 rfl rfl rfl [sl v2] rfl z30 rfl (Nat.le_of_ble_eq_true rfl) #[str x1.name, vi x1.ty, vi a0.kind, sl v2, vi 0, vi 0] rfl (fun w8 hS8 => ?_)
  clear hS7
  refine EL.nil ?_
  refine thenE_n ?_
  refine EW.seq ?_
  refine EW.region ?_
  refine EL.rn (rn_fa rfl Try.underlying63 rfl z3 (by decide) rfl _) rfl rfl (by decide) ?_
  refine EL.rn (rn_ld rfl Try.underlying3 (by simp) (by simp) (hS8.a 0 rfl) rfl) rfl rfl (by decide) ?_
  refine EL.rn (rn_fa rfl Try.underlying32 rfl z3 (by decide) rfl _) rfl rfl (by decide) ?_
  refine SL.stb hS8 2 rfl rfl rfl [vi a0.rank] rfl z3 rfl (Nat.le_of_ble_eq_true rfl) #[str x1.name, vi x1.ty, vi a0.kind, sl v2, vi a0.rank, vi 0] rfl (fun w9 hS9 => ?_)
  clear hS8
  refine EL.nil ?_
  refine thenE_n ?_
  refine EW.seq ?_
  refine EW.region ?_
  refine EL.rn (rn_fa rfl Try.underlying63 rfl z3 (by decide) rfl _) rfl rfl (by decide) ?_
  refine EL.rn (rn_ld rfl Try.underlying3 (by simp) (by simp) (hS9.a 0 rfl) rfl) rfl rfl (by decide) ?_
  refine EL.rn (rn_fa rfl Try.underlying32 rfl z3 (by decide) rfl _) rfl rfl (by decide) ?_
  refine SL.stb hS9 2 rfl rfl rfl [vi a0.till] rfl z3 rfl (Nat.le_of_ble_eq_true rfl) #[str x1.name, vi x1.ty, vi a0.kind, sl v2, vi a0.rank, vi a0.till] rfl (fun w10 hS10 => ?_)
  clear hS9
  refine EL.nil ?_
  refine thenE_n ?_
  refine EW.seq ?_
  refine EW.region ?_
  refine EL.rn (rn_lds (m := 6) [str x1.name, vi x1.ty, vi a0.kind, sl v2, vi a0.rank, vi a0.till] rfl Try.underlying32 (hS10.a 2 rfl) rfl z32) rfl rfl (by decide) ?_
  refine SL.stb hS10 1 rfl rfl rfl [str x1.name, vi x1.ty, vi a0.kind, sl v2, vi a0.rank, vi a0.till] rfl z32 rfl (Nat.le_of_ble_eq_true rfl) #[str x1.name, vi x1.ty, vi a0.kind, sl v2, vi a0.rank, vi a0.till] rfl (fun w11 hS11 => ?_)
  clear hS10
  refine EL.nil ?_
  refine thenE_n ?_
  refine EW.ret ?_
  repeat (first | refine thenE_r ?_ | refine inB_r ?_)
  obtain rfl := Option.some.inj hf2
  exact ⟨_, res1 rfl (.cell rfl (hS11.blk 1 rfl) Try.underlying32 z32 .nil), _, _, rfl, ⟨v2, rfl, rfl⟩, hS11.sel [3] rfl (by decide)⟩

-- 23 loop.example/g00497/laws.toEntryS
set_option maxHeartbeats 4000000 in
set_option maxRecDepth 100000 in
theorem laws_toEntryS_ok {k : Nat} {a0 : List Ent} {r : List Ent} (hf : laws_toEntryS k a0 = some r) {b w : World} {s : Nat → Prop} {v1 : Sv} (hr1 : (kEnt 75).C b (sl v1) a0) (hS : St b w s [] w) : Calls Try.prog 23 ([sl v1] : List Value).toArray w fun e w' => ∃ v M, e = .returned v ∧ (∃ u1 : Sv, v = sl u1 ∧ M = [.row (kEnt 66) 32 (sl u1) r]) ∧ St b w s M w' := by
  rw [laws_toEntryS] at hf
  refine calls_of (n := 23) (args := [_]) Try.func23 rfl rfl (Nat.le_of_ble_eq_true rfl) ?_
  refine EW.seq ?_
  refine EW.region ?_
  refine EL.q rfl rfl rfl (by decide) ?_
  refine EL.nil ?_
  refine thenE_n ?_
  refine EW.seq ?_
  refine EW.region ?_
  refine EL.q rfl rfl rfl (by decide) ?_
  refine EL.rn (rn_len rfl (K2.C.sl (d := (kEnt 75)) (hS.now hr1)) Try.underlying22 _) rfl rfl (by decide) ?_
  obtain ⟨x1, hx1, hf1⟩ := bnd hf
  clear hf
  refine SL.mk hS (kEnt 66) ({ q := ({ name := [], ty := 0 } : Que), kind := 0, l := [], rank := 0, till := 0 } : Ent) rfl rfl hx1 Try.underlying35 i32 rfl (by decide) (by decide) (by decide) rfl (fun _ _ => Ent_Mk (Row.nil _ _ _ _)) (by decide) (fun v2 w1 hS1 => ?_)
  clear hS
  refine EL.q rfl rfl rfl (by decide) ?_
  refine EL.nil ?_
  refine thenE_n ?_
  refine EW.seq ?_
  refine EW.seq ?_
  refine EW.region ?_
  refine EL.q rfl rfl rfl (by decide) ?_
  refine EL.nil ?_
  refine thenE_n ?_
  obtain ⟨o1, hx5, hf7⟩ := bnd hf1
  clear hf1
  refine EW.cut (fun e W => ∃ x8 : List Ent, o1 = .brk x8 ∧ e = [(3, sl v2)] ∧ St b w s [.row (kEnt 66) 32 (sl v2) x8] W) ?_ ?_
  · skip
    refine EW.block ?_
    refine EW.loopP hx5 (fun (x : (List Ent) × Int) e W => match x with | (x2, x3) => e = [(0, sl v1), (3, sl v2), (4, vi x3)] ∧ St b w s [.row (kEnt 66) 32 (sl v2) x2] W) [(0, sl v1), (3, sl v2), (4, vi 0)] ⟨rfl, rfl, rfl, trivial⟩ ⟨rfl, hS1.sel [0] rfl (by decide)⟩ ?_
    rintro ⟨x2, x3⟩ e w4 ⟨rfl, hS5⟩ st1 hf8 hbr1 hrt1
    rw [laws_toEntryS_b1] at hf8
    refine EW.seq ?_
    refine EW.seq ?_
    refine EW.region ?_
    iterate 2 refine EL.q rfl rfl rfl (by decide) ?_
    refine EL.rn (rn_len rfl (K2.C.sl (d := (kEnt 75)) (hS5.now hr1)) Try.underlying22 _) rfl rfl (by decide) ?_
    refine EL.q rfl rfl rfl (by decide) ?_
    refine EL.nil ?_
    refine thenE_n ?_
    refine EW.cond rfl (fun hc2 => ?_) (fun hc2 => ?_)
    · skip
      have hf9 := bifT hc2 hf8
      clear hf8
      refine EW.skip ?_
      refine thenE_n ?_
      refine EW.seq ?_
      refine EW.block ?_
      refine EW.region ?_
      iterate 4 refine EL.q rfl rfl rfl (by decide) ?_
      obtain ⟨x9, hx6, hf10⟩ := bnd hf9
      clear hf9
      obtain ⟨ad3, hE3⟩ := EA.of (d := (kEnt 75)) (hS5.now hr1) hx6
      refine EL.rn (rn_ix rfl rfl hE3 Try.underlying22 z63 _) rfl rfl (by decide) ?_
      obtain ⟨v5, hA2, hr3⟩ := Ent_at hr1 hE3 hx6
      refine EL.rn (rn_lds (m := 6) [str x9.q.name, vi x9.q.ty, vi x9.kind, sl v5, vi x9.rank, vi x9.till] rfl Try.underlying63 (hA2.agr hS5.agr) rfl z63) rfl rfl (by decide) ?_
      obtain ⟨x10, hx7, hf11⟩ := bnd hf10
      clear hf10
      refine SL.call hS5 [_] rfl Try.func37 (by kernel_rfl) rfl (by decide) [] (by decide) (L0 := []) rfl (fun b' s hb hw hrd hS => laws_toEntry_ok hx7 (hr3.agr hb) hS) (fun v M w5 hΦ hS6 => ?_)
      clear hS5
      obtain ⟨v6, rfl, rfl⟩ := hΦ
      obtain ⟨x11, hx8, hf12⟩ := bnd hf11
      clear hf11
      obtain ⟨ad4, hE4⟩ := EA.of (d := (kEnt 66)) (hS6.c 0 rfl) hx8
      refine EL.rn (rn_ix rfl rfl hE4 Try.underlying35 z32 _) rfl rfl (by decide) ?_
      have hS7 := hS6.conv 1 rfl (a' := .val (kEnt 66) [str x10.q.name, vi x10.q.ty, vi x10.kind, sl v6, vi x10.rank, vi x10.till] x10) (fun w s h => Ent_Mk (x := x10) h)
      clear hS6
      refine SL.stov hS7 0 1 rfl rfl (by decide) rfl rfl rfl z32 hE4 hx8 (fun w6 hS8 => ?_)
      clear hS7
      refine EL.nil ?_
      refine inB_n ?_
      refine thenE_n ?_
      refine EW.region ?_
      iterate 3 refine EL.q rfl rfl rfl (by decide) ?_
      refine EL.nil ?_
      obtain rfl := Option.some.inj hf12
      refine thenE_n ?_
      exact ⟨((x2.set (x3).toNat x10), (w64 (x3 + 1))), [(0, sl v1), (3, sl v2), (4, vi (w64 (x3 + 1)))], rfl, ⟨rfl, rfl, rfl, trivial⟩, rfl, hS8.sel [0] rfl (by decide)⟩
    · skip
      have hf13 := bifF hc2 hf8
      clear hf8
      refine EW.exit ?_
      repeat (first | refine thenE_x ?_ | refine inB_x ?_ | refine inB_y (by decide) ?_)
      obtain rfl := Option.some.inj hf13
      obtain rfl := hbr1 _ rfl
      refine thenE_n ?_
      exact ⟨[(3, sl v2)], ⟨rfl, trivial⟩, x2, rfl, rfl, hS5.sel [0] rfl (by decide)⟩
  · skip
    rintro e w7 ⟨x8, rfl, rfl, hS9⟩
    refine thenE_n ?_
    refine EW.seq ?_
    refine EW.region ?_
    iterate 2 refine EL.q rfl rfl rfl (by decide) ?_
    refine EL.nil ?_
    refine thenE_n ?_
    refine EW.ret ?_
    repeat (first | refine thenE_r ?_ | refine inB_r ?_)
    obtain rfl := Option.some.inj hf7
    exact ⟨_, res rfl, _, _, rfl, ⟨v2, rfl, rfl⟩, hS9.sel [0] rfl (by decide)⟩

-- 8 loop.example/g00497/laws.toCache
set_option maxHeartbeats 4000000 in
set_option maxRecDepth 100000 in
theorem laws_toCache_ok {k : Nat} {a0 : Cac} {r : Cac} (hf : laws_toCache k a0 = some r) {b w : World} {s : Nat → Prop} {v1 : Sv} (hr1 : (kEnt 75).C b (sl v1) a0.l) (hS : St b w s [] w) : Calls Try.prog 8 ([.agg #[vi a0.cap, sl v1]] : List Value).toArray w fun e w' => ∃ v M, e = .returned v ∧ (∃ u1 : Sv, v = .agg #[vi r.cap, sl u1] ∧ M = [.row (kEnt 66) 32 (sl u1) r.l]) ∧ St b w s M w' := by
  rw [laws_toCache] at hf
  refine calls_of (n := 12) (args := [_]) Try.func8 rfl rfl (Nat.le_of_ble_eq_true rfl) ?_
  refine EW.seq ?_
  refine EW.region ?_
  refine SL.box hS rfl (by decide) (fun g1 w1 hS1 => ?_)
  clear hS
  refine SL.alloc hS1 i37 (by decide) (fun g2 w2 hS2 => ?_)
  clear hS1
  refine EL.nil ?_
  refine thenE_n ?_
  refine EW.seq ?_
  refine EW.region ?_
  refine SL.alloc hS2 i37 (by decide) (fun g3 w3 hS3 => ?_)
  clear hS2
  refine EL.nil ?_
  refine thenE_n ?_
  refine EW.seq ?_
  refine EW.region ?_
  refine EL.rn (rn_fa rfl Try.underlying24 rfl z3 (by decide) rfl _) rfl rfl (by decide) ?_
  refine EL.rn (rn_ld rfl Try.underlying3 (by simp) (by simp) (hS3.a 0 rfl) rfl) rfl rfl (by decide) ?_
  refine EL.rn (rn_fa rfl Try.underlying37 rfl z3 (by decide) rfl _) rfl rfl (by decide) ?_
  refine SL.stb hS3 2 rfl rfl rfl [vi a0.cap] rfl z3 rfl (Nat.le_of_ble_eq_true rfl) #[vi a0.cap, .slice none 0 0] rfl (fun w4 hS4 => ?_)
  clear hS3
  refine EL.nil ?_
  refine thenE_n ?_
  refine EW.seq ?_
  refine EW.region ?_
  refine EL.rn (rn_fa rfl Try.underlying24 rfl z22 (by decide) rfl _) rfl rfl (by decide) ?_
  refine EL.rn (rn_ld rfl Try.underlying22 (by simp) (by simp) (hS4.a 0 rfl) rfl) rfl rfl (by decide) ?_
  obtain ⟨x1, hx1, hf1⟩ := bnd hf
  clear hf
  refine SL.call hS4 [_] rfl Try.func23 (by kernel_rfl) rfl (by decide) [] (by decide) (L0 := []) rfl (fun b' s hb hw hrd hS => laws_toEntryS_ok hx1 (hr1.agr hb) hS) (fun v M w5 hΦ hS5 => ?_)
  clear hS4
  obtain ⟨v2, rfl, rfl⟩ := hΦ
  refine EL.rn (rn_fa rfl Try.underlying37 rfl z35 (by decide) rfl _) rfl rfl (by decide) ?_
  refine SL.stb hS5 2 rfl rfl rfl [sl v2] rfl z35 rfl (Nat.le_of_ble_eq_true rfl) #[vi a0.cap, sl v2] rfl (fun w6 hS6 => ?_)
  clear hS5
  refine EL.nil ?_
  refine thenE_n ?_
  refine EW.seq ?_
  refine EW.region ?_
  refine EL.rn (rn_lds (m := 2) [vi a0.cap, sl v2] rfl Try.underlying37 (hS6.a 2 rfl) rfl z37) rfl rfl (by decide) ?_
  refine SL.stb hS6 1 rfl rfl rfl [vi a0.cap, sl v2] rfl z37 rfl (Nat.le_of_ble_eq_true rfl) #[vi a0.cap, sl v2] rfl (fun w7 hS7 => ?_)
  clear hS6
  refine EL.nil ?_
  refine thenE_n ?_
  refine EW.ret ?_
  repeat (first | refine thenE_r ?_ | refine inB_r ?_)
  obtain rfl := Option.some.inj hf1
  exact ⟨_, res1 rfl (.cell rfl (hS7.blk 1 rfl) Try.underlying37 z37 .nil), _, _, rfl, ⟨v2, rfl, rfl⟩, hS7.sel [3] rfl (by decide)⟩

-- 38 slices.Clone[[]loop.example/g00497/impl.Record,loop.example/g00497/impl.Record]
set_option maxHeartbeats 4000000 in
set_option maxRecDepth 100000 in
theorem slices_Clone_Record_ok {a0 : List Rec} {r : List Rec} (hf : slices_Clone_Record a0 = some r) {b w : World} {s : Nat → Prop} {v1 : Sv} (hr1 : kRec.C b (sl v1) a0) (hS : St b w s [] w) : Calls Try.prog 38 ([sl v1] : List Value).toArray w fun e w' => ∃ v M, e = .returned v ∧ (∃ u1 : Sv, v = sl u1 ∧ M = [.row kRec 66 (sl u1) r]) ∧ St b w s M w' := by
  rw [slices_Clone_Record] at hf
  refine calls_of (n := 8) (args := [_]) Try.func38 rfl rfl (Nat.le_of_ble_eq_true rfl) ?_
  refine EW.seq ?_
  refine EW.region ?_
  refine EL.q rfl rfl rfl (by decide) ?_
  refine EL.nil ?_
  refine thenE_n ?_
  refine EW.seq ?_
  refine EW.seq ?_
  refine EW.region ?_
  refine EL.q rfl rfl rfl (by decide) ?_
  refine EL.snil rfl rfl Try.underlying30 (by decide) ?_
  refine EL.nil ?_
  refine thenE_n ?_
  refine EW.cond rfl (fun hc => ?_) (fun hc => ?_)
  · have ha : a0 = [] := by
      cases a0 with
      | nil => rfl
      | cons x r0 =>
        obtain ⟨A, c, h1, _, _, h2⟩ := hr1
        obtain ⟨ad, cs, h3, _⟩ := h2 0 x rfl
        injection h1 with h1 _ _
        rw [h1, h3] at hc
        cases hc
    subst ha
    obtain rfl : r = [] := by simpa [apL] using hf
    refine EW.seq ?_
    refine EW.region ?_
    refine EL.q rfl rfl rfl (by decide) ?_
    refine EL.nil ?_
    refine thenE_n ?_
    refine EW.ret ?_
    repeat (first | refine thenE_r ?_ | refine inB_r ?_)
    have hS1 := hS.nilrow kRec 66
    exact ⟨_, res rfl, _, _, rfl, ⟨(none, 0, 0), rfl, rfl⟩, hS1.sel [0] rfl (by decide)⟩
  · refine EW.skip ?_
    refine thenE_n ?_
    refine EW.seq ?_
    refine EW.region ?_
    refine SL.lit hS kRec [] [] rfl rfl rfl Try.underlying30 i66 (by decide) rfl (by decide) (fun _ _ => trivial) (by decide) (fun v2 w1 hS1 => ?_)
    refine EL.q rfl rfl rfl (by decide) ?_
    refine SL.apr hS1 0 rfl Rec_flat (hS1.now hr1) rfl rfl Try.underlying30 i66 rfl (by decide) (by decide) (by decide) hf (by decide) (fun v3 w2 hS2 => ?_)
    refine EL.q rfl rfl rfl (by decide) ?_
    refine EL.nil ?_
    refine thenE_n ?_
    refine EW.ret ?_
    repeat (first | refine thenE_r ?_ | refine inB_r ?_)
    exact ⟨_, res rfl, _, _, rfl, ⟨v3, rfl, rfl⟩, hS2.sel [0] rfl (by decide)⟩
end Go.Proofs.Ytcolndejambcmaa.Ew
