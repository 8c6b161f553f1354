/- The code answers as its pure twin (printed by gen2.py). -/
import Derived.Test.YtcolndejambcmaaF
import Derived.Test.YtcolndejambcmaaY
import Derived.Test.YtcolndejambcmaaG1
import Derived.Test.YtcolndejambcmaaG2
namespace Go.Proofs.Ytcolndejambcmaa.Ew
open Go.RowKit Go.Proofs.YtcolndejambcmaaW.PrintWords Go.Proofs.YtcolndejambcmaaW.PrintLast
set_option linter.unusedVariables false
set_option linter.unusedSimpArgs false
-- 30 loop.example/g00497/laws.heldRecordS
set_option maxHeartbeats 4000000 in
set_option maxRecDepth 100000 in
theorem laws_heldRecordS_ok {k : Nat} {a0 : List Rec} {a1 : Int} {r : Int} (hf : laws_heldRecordS k a0 a1 = some r) {b w : World} {s : Nat → Prop} {v1 : Sv} (hr1 : kRec.C b (sl v1) a0) (hS : St b w s [] w) : Calls Try.prog 30 ([sl v1, vi a1] : List Value).toArray w fun e w' => ∃ v M, e = .returned v ∧ (v = vi r ∧ M = []) ∧ St b w s M w' := by
  rw [laws_heldRecordS] at hf
  refine calls_of (n := 70) (args := [_, _]) Try.func30 rfl rfl (Nat.le_of_ble_eq_true rfl) ?_
  refine EW.seq ?_
  refine EW.region ?_
  refine EL.q rfl rfl rfl (by decide) ?_
  refine EL.nil ?_
  refine thenE_n ?_
  refine EW.seq ?_
  refine EW.seq ?_
  refine EW.region ?_
  refine EL.q rfl rfl rfl (by decide) ?_
  refine EL.nil ?_
  refine thenE_n ?_
  obtain ⟨o1, hx10, hf24⟩ := bnd hf
  clear hf
  refine EW.cut (fun e W => ∃ x13 : Int, o1 = .brk x13 ∧ e = [(1, vi x13)] ∧ St b w s [] W) ?_ ?_
  · skip
    refine EW.block ?_
    refine EW.loopP hx10 (fun (x : Int × Int) e W => match x with | (x1, x2) => e = [(0, sl v1), (1, vi x1), (5, vi x2)] ∧ St b w s [] W) [(0, sl v1), (1, vi a1), (5, vi 0)] ⟨rfl, rfl, rfl, trivial⟩ ⟨rfl, hS.sel [] rfl (by decide)⟩ ?_
    rintro ⟨x1, x2⟩ e w13 ⟨rfl, hS13⟩ st1 hf25 hbr1 hrt1
    rw [laws_heldRecordS_b1] at hf25
    refine EW.seq ?_
    refine EW.seq ?_
    refine EW.region ?_
    iterate 2 refine EL.q rfl rfl rfl (by decide) ?_
    refine EL.rn (rn_len rfl (K2.C.sl (d := kRec) (hS13.now hr1)) Try.underlying30 _) rfl rfl (by decide) ?_
    refine EL.q rfl rfl rfl (by decide) ?_
    refine EL.nil ?_
    refine thenE_n ?_
    refine EW.cond rfl (fun hc8 => ?_) (fun hc8 => ?_)
    · skip
      have hf26 := bifT hc8 hf25
      clear hf25
      refine EW.skip ?_
      refine thenE_n ?_
      refine EW.seq ?_
      refine EW.block ?_
      refine EW.seq ?_
      refine EW.seq ?_
      obtain ⟨x14, hx11, hf27⟩ := bnd hf26
      clear hf26
      obtain ⟨ad7, hE7⟩ := EA.of (d := kRec) (hS13.now hr1) hx11
      obtain ⟨x15, hx12, hf28⟩ := bnd hf27
      clear hf27
      have hS16 := hS13.drew
      refine EW.drawn (m := 8) (fun W => CellsAt W ad7 0 [str x14.name, vi x14.ty, vi x14.ttl, vi x14.num, str x14.host, str x14.text] ∧ True) [] (by kernel_rfl) rfl ⟨(Rec_at (hS16.now hr1) hE7 hx11), trivial⟩ ?_
      refine DR.q 0 rfl (fun w' => rn_v rfl w') rfl rfl (by decide) (by kernel_rfl) ?_
      refine DR.q 1 rfl (fun w' => rn_v rfl w') rfl rfl (by decide) (by kernel_rfl) ?_
      refine DR.q 2 rfl (fun w' => rn_ix rfl rfl hE7 Try.underlying30 z66 w') rfl rfl (by decide) (by kernel_rfl) ?_
      refine DR.q 3 rfl (fun w' => rn_fa rfl Try.underlying66 rfl z9 (by decide) rfl w') rfl rfl (by decide) (by kernel_rfl) ?_
      refine DR.take 4 rfl (fun w' hw => rn_ld rfl Try.underlying9 (by simp) (by simp) hw.1 rfl) rfl rfl (by decide) (by kernel_rfl) ⟨(Rec_at (hS16.now hr1) hE7 hx11), trivial⟩ ?_
      refine DR.q 5 rfl (fun w' => rn_v rfl w') rfl rfl (by decide) (by kernel_rfl) ?_
      refine DR.one 6 (by kernel_rfl) rfl ?_
      refine SL.call hS16 [_] rfl Try.func40 (by kernel_rfl) rfl (by decide) [] (by decide) (L0 := []) rfl (fun b' s hb hw hrd hS => laws_markText_ok hx12 hS) (fun v M w17 hΦ hS17 => ?_)
      clear hS16
      obtain ⟨rfl, rfl⟩ := hΦ
      refine EL.then_ ⟨(Rec_at (hS17.now hr1) hE7 hx11), trivial⟩ ?_
      refine DR.q 7 rfl (fun w' => rn_sne (p := x14.name) (q := x15) rfl rfl w') rfl rfl (by decide) (by kernel_rfl) ?_
      refine DR.done (by kernel_rfl) ?_
      refine thenE_n ?_
      refine EW.cond rfl (fun hc9 => ?_) (fun hc9 => ?_)
      · skip
        have hf29 := bifT hc9 hf28
        clear hf28
        refine EW.seq ?_
        refine EW.region ?_
        refine EL.q rfl rfl rfl (by decide) ?_
        refine EL.nil ?_
        refine thenE_n ?_
        refine EW.ret ?_
        repeat (first | refine thenE_r ?_ | refine inB_r ?_)
        obtain rfl := Option.some.inj hf29
        obtain rfl := hrt1 _ rfl
        obtain rfl := Option.some.inj hf24
        exact ⟨_, res rfl, _, _, rfl, ⟨rfl, rfl⟩, hS17.sel [] rfl (by decide)⟩
      · skip
        have hf30 := bifF hc9 hf28
        clear hf28
        refine EW.skip ?_
        refine thenE_n ?_
        refine EW.seq ?_
        refine EW.region ?_
        iterate 3 refine EL.q rfl rfl rfl (by decide) ?_
        refine EL.nil ?_
        refine thenE_n ?_
        refine EW.seq ?_
        refine EW.seq ?_
        refine EW.region ?_
        iterate 2 refine EL.q rfl rfl rfl (by decide) ?_
        obtain ⟨x16, hx13, hf31⟩ := bnd hf30
        clear hf30
        obtain ⟨ad8, hE8⟩ := EA.of (d := kRec) (hS17.now hr1) hx13
        refine EL.rn (rn_ix rfl rfl hE8 Try.underlying30 z66 _) rfl rfl (by decide) ?_
        refine EL.rn (rn_fa rfl Try.underlying66 rfl z3 (by decide) rfl _) rfl rfl (by decide) ?_
        refine EL.rn (rn_ld rfl Try.underlying3 (by simp) (by simp) (Rec_at (hS17.now hr1) hE8 hx13) rfl) rfl rfl (by decide) ?_
        iterate 2 refine EL.q rfl rfl rfl (by decide) ?_
        refine EL.nil ?_
        refine thenE_n ?_
        refine EW.cond rfl (fun hc10 => ?_) (fun hc10 => ?_)
        · skip
          have hf32 := bifT hc10 hf31
          clear hf31
          refine EW.seq ?_
          refine EW.region ?_
          refine EL.q rfl rfl rfl (by decide) ?_
          refine EL.nil ?_
          refine thenE_n ?_
          refine EW.ret ?_
          repeat (first | refine thenE_r ?_ | refine inB_r ?_)
          obtain rfl := Option.some.inj hf32
          obtain rfl := hrt1 _ rfl
          obtain rfl := Option.some.inj hf24
          exact ⟨_, res rfl, _, _, rfl, ⟨rfl, rfl⟩, hS17.sel [] rfl (by decide)⟩
        · skip
          have hf33 := bifF hc10 hf31
          clear hf31
          refine EW.skip ?_
          refine thenE_n ?_
          refine EW.seq ?_
          refine EW.region ?_
          iterate 3 refine EL.q rfl rfl rfl (by decide) ?_
          refine EL.nil ?_
          refine thenE_n ?_
          refine EW.seq ?_
          refine EW.seq ?_
          refine EW.region ?_
          iterate 2 refine EL.q rfl rfl rfl (by decide) ?_
          obtain ⟨x17, hx14, hf34⟩ := bnd hf33
          clear hf33
          obtain ⟨ad9, hE9⟩ := EA.of (d := kRec) (hS17.now hr1) hx14
          refine EL.rn (rn_ix rfl rfl hE9 Try.underlying30 z66 _) rfl rfl (by decide) ?_
          refine EL.rn (rn_fa rfl Try.underlying66 rfl z3 (by decide) rfl _) rfl rfl (by decide) ?_
          refine EL.rn (rn_ld rfl Try.underlying3 (by simp) (by simp) (Rec_at (hS17.now hr1) hE9 hx14) rfl) rfl rfl (by decide) ?_
          iterate 2 refine EL.q rfl rfl rfl (by decide) ?_
          refine EL.nil ?_
          refine thenE_n ?_
          refine EW.cond rfl (fun hc11 => ?_) (fun hc11 => ?_)
          · skip
            have hf35 := bifT hc11 hf34
            clear hf34
            refine EW.seq ?_
            refine EW.region ?_
            refine EL.q rfl rfl rfl (by decide) ?_
            refine EL.nil ?_
            refine thenE_n ?_
            refine EW.ret ?_
            repeat (first | refine thenE_r ?_ | refine inB_r ?_)
            obtain rfl := Option.some.inj hf35
            obtain rfl := hrt1 _ rfl
            obtain rfl := Option.some.inj hf24
            exact ⟨_, res rfl, _, _, rfl, ⟨rfl, rfl⟩, hS17.sel [] rfl (by decide)⟩
          · skip
            have hf36 := bifF hc11 hf34
            clear hf34
            refine EW.skip ?_
            refine thenE_n ?_
            refine EW.seq ?_
            refine EW.region ?_
            iterate 3 refine EL.q rfl rfl rfl (by decide) ?_
            refine EL.nil ?_
            refine thenE_n ?_
            refine EW.seq ?_
            refine EW.seq ?_
            refine EW.region ?_
            iterate 2 refine EL.q rfl rfl rfl (by decide) ?_
            obtain ⟨x18, hx15, hf37⟩ := bnd hf36
            clear hf36
            obtain ⟨ad10, hE10⟩ := EA.of (d := kRec) (hS17.now hr1) hx15
            refine EL.rn (rn_ix rfl rfl hE10 Try.underlying30 z66 _) rfl rfl (by decide) ?_
            refine EL.rn (rn_fa rfl Try.underlying66 rfl z3 (by decide) rfl _) rfl rfl (by decide) ?_
            refine EL.rn (rn_ld rfl Try.underlying3 (by simp) (by simp) (Rec_at (hS17.now hr1) hE10 hx15) rfl) rfl rfl (by decide) ?_
            iterate 2 refine EL.q rfl rfl rfl (by decide) ?_
            refine EL.nil ?_
            refine thenE_n ?_
            refine EW.cond rfl (fun hc12 => ?_) (fun hc12 => ?_)
            · skip
              have hf38 := bifT hc12 hf37
              clear hf37
              refine EW.seq ?_
              refine EW.region ?_
              refine EL.q rfl rfl rfl (by decide) ?_
              refine EL.nil ?_
              refine thenE_n ?_
              refine EW.ret ?_
              repeat (first | refine thenE_r ?_ | refine inB_r ?_)
              obtain rfl := Option.some.inj hf38
              obtain rfl := hrt1 _ rfl
              obtain rfl := Option.some.inj hf24
              exact ⟨_, res rfl, _, _, rfl, ⟨rfl, rfl⟩, hS17.sel [] rfl (by decide)⟩
            · skip
              have hf39 := bifF hc12 hf37
              clear hf37
              refine EW.skip ?_
              refine thenE_n ?_
              refine EW.seq ?_
              refine EW.region ?_
              iterate 3 refine EL.q rfl rfl rfl (by decide) ?_
              refine EL.nil ?_
              refine thenE_n ?_
              refine EW.seq ?_
              refine EW.seq ?_
              obtain ⟨x19, hx16, hf40⟩ := bnd hf39
              clear hf39
              obtain ⟨ad11, hE11⟩ := EA.of (d := kRec) (hS17.now hr1) hx16
              obtain ⟨x20, hx17, hf41⟩ := bnd hf40
              clear hf40
              have hS20 := hS17.drew
              refine EW.drawn (m := 8) (fun W => CellsAt W ad11 0 [str x19.name, vi x19.ty, vi x19.ttl, vi x19.num, str x19.host, str x19.text] ∧ True) [] (by kernel_rfl) rfl ⟨(Rec_at (hS20.now hr1) hE11 hx16), trivial⟩ ?_
              refine DR.q 0 rfl (fun w' => rn_v rfl w') rfl rfl (by decide) (by kernel_rfl) ?_
              refine DR.q 1 rfl (fun w' => rn_v rfl w') rfl rfl (by decide) (by kernel_rfl) ?_
              refine DR.q 2 rfl (fun w' => rn_ix rfl rfl hE11 Try.underlying30 z66 w') rfl rfl (by decide) (by kernel_rfl) ?_
              refine DR.q 3 rfl (fun w' => rn_fa rfl Try.underlying66 rfl z9 (by decide) rfl w') rfl rfl (by decide) (by kernel_rfl) ?_
              refine DR.take 4 rfl (fun w' hw => rn_ld rfl Try.underlying9 (by simp) (by simp) hw.1 rfl) rfl rfl (by decide) (by kernel_rfl) ⟨(Rec_at (hS20.now hr1) hE11 hx16), trivial⟩ ?_
              refine DR.q 5 rfl (fun w' => rn_v rfl w') rfl rfl (by decide) (by kernel_rfl) ?_
              refine DR.one 6 (by kernel_rfl) rfl ?_
              refine SL.call hS20 [_] rfl Try.func40 (by kernel_rfl) rfl (by decide) [] (by decide) (L0 := []) rfl (fun b' s hb hw hrd hS => laws_markText_ok hx17 hS) (fun v M w21 hΦ hS21 => ?_)
              clear hS20
              obtain ⟨rfl, rfl⟩ := hΦ
              refine EL.then_ ⟨(Rec_at (hS21.now hr1) hE11 hx16), trivial⟩ ?_
              refine DR.q 7 rfl (fun w' => rn_sne (p := x19.host) (q := x20) rfl rfl w') rfl rfl (by decide) (by kernel_rfl) ?_
              refine DR.done (by kernel_rfl) ?_
              refine thenE_n ?_
              refine EW.cond rfl (fun hc13 => ?_) (fun hc13 => ?_)
              · skip
                have hf42 := bifT hc13 hf41
                clear hf41
                refine EW.seq ?_
                refine EW.region ?_
                refine EL.q rfl rfl rfl (by decide) ?_
                refine EL.nil ?_
                refine thenE_n ?_
                refine EW.ret ?_
                repeat (first | refine thenE_r ?_ | refine inB_r ?_)
                obtain rfl := Option.some.inj hf42
                obtain rfl := hrt1 _ rfl
                obtain rfl := Option.some.inj hf24
                exact ⟨_, res rfl, _, _, rfl, ⟨rfl, rfl⟩, hS21.sel [] rfl (by decide)⟩
              · skip
                have hf43 := bifF hc13 hf41
                clear hf41
                refine EW.skip ?_
                refine thenE_n ?_
                refine EW.seq ?_
                refine EW.region ?_
                iterate 3 refine EL.q rfl rfl rfl (by decide) ?_
                refine EL.nil ?_
                refine thenE_n ?_
                refine EW.seq ?_
                refine EW.seq ?_
                obtain ⟨x21, hx18, hf44⟩ := bnd hf43
                clear hf43
                obtain ⟨ad12, hE12⟩ := EA.of (d := kRec) (hS21.now hr1) hx18
                obtain ⟨x22, hx19, hf45⟩ := bnd hf44
                clear hf44
                have hS24 := hS21.drew
                refine EW.drawn (m := 8) (fun W => CellsAt W ad12 0 [str x21.name, vi x21.ty, vi x21.ttl, vi x21.num, str x21.host, str x21.text] ∧ True) [] (by kernel_rfl) rfl ⟨(Rec_at (hS24.now hr1) hE12 hx18), trivial⟩ ?_
                refine DR.q 0 rfl (fun w' => rn_v rfl w') rfl rfl (by decide) (by kernel_rfl) ?_
                refine DR.q 1 rfl (fun w' => rn_v rfl w') rfl rfl (by decide) (by kernel_rfl) ?_
                refine DR.q 2 rfl (fun w' => rn_ix rfl rfl hE12 Try.underlying30 z66 w') rfl rfl (by decide) (by kernel_rfl) ?_
                refine DR.q 3 rfl (fun w' => rn_fa rfl Try.underlying66 rfl z9 (by decide) rfl w') rfl rfl (by decide) (by kernel_rfl) ?_
                refine DR.take 4 rfl (fun w' hw => rn_ld rfl Try.underlying9 (by simp) (by simp) hw.1 rfl) rfl rfl (by decide) (by kernel_rfl) ⟨(Rec_at (hS24.now hr1) hE12 hx18), trivial⟩ ?_
                refine DR.q 5 rfl (fun w' => rn_v rfl w') rfl rfl (by decide) (by kernel_rfl) ?_
                refine DR.one 6 (by kernel_rfl) rfl ?_
                refine SL.call hS24 [_] rfl Try.func40 (by kernel_rfl) rfl (by decide) [] (by decide) (L0 := []) rfl (fun b' s hb hw hrd hS => laws_markText_ok hx19 hS) (fun v M w25 hΦ hS25 => ?_)
                clear hS24
                obtain ⟨rfl, rfl⟩ := hΦ
                refine EL.then_ ⟨(Rec_at (hS25.now hr1) hE12 hx18), trivial⟩ ?_
                refine DR.q 7 rfl (fun w' => rn_sne (p := x21.text) (q := x22) rfl rfl w') rfl rfl (by decide) (by kernel_rfl) ?_
                refine DR.done (by kernel_rfl) ?_
                refine thenE_n ?_
                refine EW.cond rfl (fun hc14 => ?_) (fun hc14 => ?_)
                · skip
                  have hf46 := bifT hc14 hf45
                  clear hf45
                  refine EW.seq ?_
                  refine EW.region ?_
                  refine EL.q rfl rfl rfl (by decide) ?_
                  refine EL.nil ?_
                  refine thenE_n ?_
                  refine EW.ret ?_
                  repeat (first | refine thenE_r ?_ | refine inB_r ?_)
                  obtain rfl := Option.some.inj hf46
                  obtain rfl := hrt1 _ rfl
                  obtain rfl := Option.some.inj hf24
                  exact ⟨_, res rfl, _, _, rfl, ⟨rfl, rfl⟩, hS25.sel [] rfl (by decide)⟩
                · skip
                  have hf47 := bifF hc14 hf45
                  clear hf45
                  refine EW.skip ?_
                  refine thenE_n ?_
                  refine EW.region ?_
                  iterate 3 refine EL.q rfl rfl rfl (by decide) ?_
                  refine EL.nil ?_
                  refine inB_n ?_
                  refine thenE_n ?_
                  refine EW.region ?_
                  iterate 3 refine EL.q rfl rfl rfl (by decide) ?_
                  refine EL.nil ?_
                  obtain rfl := Option.some.inj hf47
                  refine thenE_n ?_
                  exact ⟨((w64 ((w64 ((w64 ((w64 ((w64 ((w64 (x1 + 1)) + 1)) + 1)) + 1)) + 1)) + 1)), (w64 (x2 + 1))), [(0, sl v1), (1, vi (w64 ((w64 ((w64 ((w64 ((w64 ((w64 (x1 + 1)) + 1)) + 1)) + 1)) + 1)) + 1))), (5, vi (w64 (x2 + 1)))], rfl, ⟨rfl, rfl, rfl, trivial⟩, rfl, hS25.sel [] rfl (by decide)⟩
    · skip
      have hf48 := bifF hc8 hf25
      clear hf25
      refine EW.exit ?_
      repeat (first | refine thenE_x ?_ | refine inB_x ?_ | refine inB_y (by decide) ?_)
      obtain rfl := Option.some.inj hf48
      obtain rfl := hbr1 _ rfl
      refine thenE_n ?_
      exact ⟨[(1, vi x1)], ⟨rfl, trivial⟩, x1, rfl, rfl, hS13.sel [] rfl (by decide)⟩
  · skip
    rintro e w26 ⟨x13, rfl, rfl, hS26⟩
    refine thenE_n ?_
    refine EW.seq ?_
    refine EW.region ?_
    iterate 2 refine EL.q rfl rfl rfl (by decide) ?_
    refine EL.nil ?_
    refine thenE_n ?_
    refine EW.ret ?_
    repeat (first | refine thenE_r ?_ | refine inB_r ?_)
    obtain rfl := Option.some.inj hf24
    exact ⟨_, res rfl, _, _, rfl, ⟨rfl, rfl⟩, hS26.sel [] rfl (by decide)⟩

-- 15 loop.example/g00497/laws.heldEntry
set_option maxHeartbeats 4000000 in
set_option maxRecDepth 100000 in
theorem laws_heldEntry_ok {k : Nat} {a0 : Ent} {a1 : Int} {r : Int} (hf : laws_heldEntry k a0 a1 = some r) {b w : World} {s : Nat → Prop} {v1 : Sv} (hr1 : kRec.C b (sl v1) a0.l) (hS : St b w s [] w) : Calls Try.prog 15 ([.agg #[str a0.q.name, vi a0.q.ty, vi a0.kind, sl v1, vi a0.rank, vi a0.till], vi a1] : List Value).toArray w fun e w' => ∃ v M, e = .returned v ∧ (v = vi r ∧ M = []) ∧ St b w s M w' := by
  rw [laws_heldEntry] at hf
  refine calls_of (n := 12) (args := [_, _]) Try.func15 rfl rfl (Nat.le_of_ble_eq_true rfl) ?_
  refine EW.seq ?_
  refine EW.region ?_
  refine SL.box hS rfl (by decide) (fun g1 w1 hS1 => ?_)
  clear hS
  refine EL.q rfl rfl rfl (by decide) ?_
  refine EL.nil ?_
  refine thenE_n ?_
  refine EW.seq ?_
  refine EW.region ?_
  refine EL.rn (rn_fa rfl Try.underlying32 rfl z30 (by decide) rfl _) rfl rfl (by decide) ?_
  refine EL.rn (rn_ld rfl Try.underlying30 (by simp) (by simp) (hS1.a 0 rfl) rfl) rfl rfl (by decide) ?_
  refine EL.q rfl rfl rfl (by decide) ?_
  obtain ⟨x1, hx1, hf1⟩ := bnd hf
  clear hf
  refine SL.call hS1 [_, _] rfl Try.func30 (by kernel_rfl) rfl (by decide) [] (by decide) (L0 := []) rfl (fun b' s hb hw hrd hS => laws_heldRecordS_ok hx1 (hr1.agr hb) hS) (fun v M w2 hΦ hS2 => ?_)
  clear hS1
  obtain ⟨rfl, rfl⟩ := hΦ
  refine EL.q rfl rfl rfl (by decide) ?_
  refine EL.nil ?_
  refine thenE_n ?_
  refine EW.seq ?_
  refine EW.seq ?_
  refine EW.region ?_
  iterate 2 refine EL.q rfl rfl rfl (by decide) ?_
  refine EL.nil ?_
  refine thenE_n ?_
  refine EW.cond rfl (fun hc1 => ?_) (fun hc1 => ?_)
  · skip
    have hf2 := bifT hc1 hf1
    clear hf1
    refine EW.seq ?_
    refine EW.region ?_
    refine EL.q rfl rfl rfl (by decide) ?_
    refine EL.nil ?_
    refine thenE_n ?_
    refine EW.ret ?_
    repeat (first | refine thenE_r ?_ | refine inB_r ?_)
    obtain rfl := Option.some.inj hf2
    exact ⟨_, res rfl, _, _, rfl, ⟨rfl, rfl⟩, hS2.sel [] rfl (by decide)⟩
  · skip
    have hf3 := bifF hc1 hf1
    clear hf1
    refine EW.skip ?_
    refine thenE_n ?_
    refine EW.seq ?_
    refine EW.region ?_
    iterate 2 refine EL.q rfl rfl rfl (by decide) ?_
    refine EL.nil ?_
    refine thenE_n ?_
    refine EW.ret ?_
    repeat (first | refine thenE_r ?_ | refine inB_r ?_)
    obtain rfl := Option.some.inj hf3
    exact ⟨_, res rfl, _, _, rfl, ⟨rfl, rfl⟩, hS2.sel [] rfl (by decide)⟩

-- 3 loop.example/g00497/laws.FnExactLook
set_option maxHeartbeats 4000000 in
set_option maxRecDepth 100000 in
theorem laws_FnExactLook_ok {k : Nat} {a0 : Cac} {a1 : Int} {a2 : Que} {a3 : Int} {r : Bool} (hf : laws_FnExactLook k a0 a1 a2 a3 = some r) {b w : World} {s : Nat → Prop} {v1 : Sv} (hr1 : (kEnt 75).C b (sl v1) a0.l) (hS : St b w s [] w) : Calls Try.prog 3 ([.agg #[vi a0.cap, sl v1], vi a1, .agg #[str a2.name, vi a2.ty], vi a3] : List Value).toArray w fun e w' => ∃ v M, e = .returned v ∧ (v = vt r ∧ M = []) ∧ St b w s M w' := by
  rw [laws_FnExactLook] at hf
  refine calls_of (n := 119) (args := [_, _, _, _]) Try.func3 rfl rfl (Nat.le_of_ble_eq_true rfl) ?_
  refine EW.seq ?_
  refine EW.region ?_
  refine SL.box hS rfl (by decide) (fun g1 w1 hS1 => ?_)
  clear hS
  refine SL.box hS1 rfl (by decide) (fun g2 w2 hS2 => ?_)
  clear hS1
  refine EL.q rfl rfl rfl (by decide) ?_
  refine EL.nil ?_
  refine thenE_n ?_
  refine EW.seq ?_
  refine EW.region ?_
  refine EL.q rfl rfl rfl (by decide) ?_
  refine EL.nil ?_
  refine thenE_n ?_
  refine EW.seq ?_
  refine EW.region ?_
  refine EL.rn (rn_lds (m := 2) [vi a0.cap, sl v1] rfl Try.underlying24 (hS2.a 0 rfl) rfl z24) rfl rfl (by decide) ?_
  refine EL.q rfl rfl rfl (by decide) ?_
  obtain ⟨x1, hx1, hf1⟩ := bnd hf
  clear hf
  refine SL.call hS2 [_, _] rfl Try.func5 (by kernel_rfl) rfl (by decide) [] (by decide) (L0 := []) rfl (fun b' s hb hw hrd hS => laws_szCache_ok hx1 (hr1.agr hb) hS) (fun v M w3 hΦ hS3 => ?_)
  clear hS2
  obtain ⟨rfl, rfl⟩ := hΦ
  refine EL.q rfl rfl rfl (by decide) ?_
  refine EL.nil ?_
  refine thenE_n ?_
  refine EW.seq ?_
  refine EW.seq ?_
  refine EW.region ?_
  iterate 2 refine EL.q rfl rfl rfl (by decide) ?_
  refine EL.nil ?_
  refine thenE_n ?_
  refine EW.cond rfl (fun hc1 => ?_) (fun hc1 => ?_)
  · skip
    have hf2 := bifT hc1 hf1
    clear hf1
    refine EW.seq ?_
    refine EW.region ?_
    refine EL.q rfl rfl rfl (by decide) ?_
    refine EL.nil ?_
    refine thenE_n ?_
    refine EW.ret ?_
    repeat (first | refine thenE_r ?_ | refine inB_r ?_)
    obtain rfl := Option.some.inj hf2
    exact ⟨_, res rfl, _, _, rfl, ⟨rfl, rfl⟩, hS3.sel [] rfl (by decide)⟩
  · skip
    have hf3 := bifF hc1 hf1
    clear hf1
    refine EW.skip ?_
    refine thenE_n ?_
    refine EW.seq ?_
    refine EW.region ?_
    refine EL.rn (rn_lds (m := 2) [str a2.name, vi a2.ty] rfl Try.underlying26 (hS3.a 1 rfl) rfl z26) rfl rfl (by decide) ?_
    refine EL.q rfl rfl rfl (by decide) ?_
    obtain ⟨x2, hx2, hf4⟩ := bnd hf3
    clear hf3
    refine SL.call hS3 [_, _] rfl Try.func6 (by kernel_rfl) rfl (by decide) [] (by decide) (L0 := []) rfl (fun b' s hb hw hrd hS => laws_szQuest_ok hx2 hS) (fun v M w4 hΦ hS4 => ?_)
    clear hS3
    obtain ⟨rfl, rfl⟩ := hΦ
    refine EL.q rfl rfl rfl (by decide) ?_
    refine EL.nil ?_
    refine thenE_n ?_
    refine EW.seq ?_
    refine EW.seq ?_
    refine EW.region ?_
    iterate 2 refine EL.q rfl rfl rfl (by decide) ?_
    refine EL.nil ?_
    refine thenE_n ?_
    refine EW.cond rfl (fun hc2 => ?_) (fun hc2 => ?_)
    · skip
      have hf5 := bifT hc2 hf4
      clear hf4
      refine EW.seq ?_
      refine EW.region ?_
      refine EL.q rfl rfl rfl (by decide) ?_
      refine EL.nil ?_
      refine thenE_n ?_
      refine EW.ret ?_
      repeat (first | refine thenE_r ?_ | refine inB_r ?_)
      obtain rfl := Option.some.inj hf5
      exact ⟨_, res rfl, _, _, rfl, ⟨rfl, rfl⟩, hS4.sel [] rfl (by decide)⟩
    · skip
      have hf6 := bifF hc2 hf4
      clear hf4
      refine EW.skip ?_
      refine thenE_n ?_
      refine EW.seq ?_
      obtain ⟨⟨x10, x11, x12, x13, x14, x15, x16⟩, hx3, hf7⟩ := bnd hf6
      clear hf6
      refine EW.cut (fun e W => ∃ g4 : Nat, ∃ v3 : Sv, e = [(1, vi a1), (3, vi a3), (4, ptr (at0 g1) 0), (6, ptr (at0 g2) 0), (10, ptr (at0 g4) 0), (11, vt x16)] ∧ St b w s [.blk g1 24 #[vi a0.cap, sl v1], .blk g2 26 #[str a2.name, vi a2.ty], .blk g4 32 #[str x10, vi x11, vi x12, sl v3, vi x14, vi x15], .row kRec 66 (sl v3) x13] W) ?_ ?_
      · skip
        obtain ⟨x17, hx4, hf8⟩ := bnd hx3
        clear hx3
        obtain ⟨x18, hx5, hf9⟩ := bnd hf8
        clear hf8
        obtain ⟨x19, hx6, hf10⟩ := bnd hf9
        clear hf9
        have hS11 := hS4.drew
        refine EW.drawn (m := 13) (fun W => CellsAt W (at0 g1) 0 [vi a0.cap, sl v1] ∧ CellsAt W (at0 g2) 0 [str a2.name, vi a2.ty] ∧ True) [] (by kernel_rfl) rfl ⟨(hS11.a 0 rfl), (hS11.a 1 rfl), trivial⟩ ?_
        refine DR.take 0 rfl (fun w' hw => rn_lds (m := 2) [vi a0.cap, sl v1] rfl Try.underlying24 hw.1 rfl z24) rfl rfl (by decide) (by kernel_rfl) ⟨(hS11.a 0 rfl), (hS11.a 1 rfl), trivial⟩ ?_
        refine DR.q 2 rfl (fun w' => rn_v rfl w') rfl rfl (by decide) (by kernel_rfl) ?_
        refine DR.take 3 rfl (fun w' hw => rn_lds (m := 2) [str a2.name, vi a2.ty] rfl Try.underlying26 hw.2.1 rfl z26) rfl rfl (by decide) (by kernel_rfl) ⟨(hS11.a 0 rfl), (hS11.a 1 rfl), trivial⟩ ?_
        refine DR.q 5 rfl (fun w' => rn_v rfl w') rfl rfl (by decide) (by kernel_rfl) ?_
        refine DR.two 1 10 (by kernel_rfl) rfl rfl ?_ ?_
        · skip
          refine SL.call hS11 [_] rfl Try.func8 (by kernel_rfl) rfl (by decide) [] (by decide) (L0 := []) rfl (fun b' s hb hw hrd hS => laws_toCache_ok hx4 (hr1.agr hb) hS) (fun v M w12 hΦ hS12 => ?_)
          clear hS11
          obtain ⟨v4, rfl, rfl⟩ := hΦ
          refine EL.then_ ⟨(hS12.a 0 rfl), (hS12.a 1 rfl), trivial⟩ ?_
          refine DR.two 4 10 (by kernel_rfl) rfl rfl ?_ ?_
          · skip
            refine SL.call hS12 [_] rfl Try.func9 (by kernel_rfl) rfl (by decide) [] (by decide) (L0 := []) rfl (fun b' s hb hw hrd hS => laws_toQuest_ok hx5 hS) (fun v M w13 hΦ hS13 => ?_)
            clear hS12
            obtain ⟨rfl, rfl⟩ := hΦ
            refine EL.then_ ⟨(hS13.a 0 rfl), (hS13.a 1 rfl), trivial⟩ ?_
            refine DR.two 6 10 (by kernel_rfl) rfl rfl ?_ ?_
            · skip
              refine SL.call hS13 [_, _, _, _] rfl Try.func7 (by kernel_rfl) rfl (by decide) [] (by decide) (L0 := []) rfl (fun b' s hb hw hrd hS => spec_Look_ok hx6 (rdc hrd 2 (by decide) rfl) hS) (fun v M w14 hΦ hS14 => ?_)
              clear hS13
              obtain ⟨v5, rfl, rfl⟩ := hΦ
              refine EL.then_ ⟨(hS14.a 0 rfl), (hS14.a 1 rfl), trivial⟩ ?_
              refine DR.q 7 rfl (fun w' => rn_v rfl w') rfl rfl (by decide) (by kernel_rfl) ?_
              refine DR.q 8 rfl (fun w' => rn_v rfl w') rfl rfl (by decide) (by kernel_rfl) ?_
              refine DR.q 9 rfl (fun w' => rn_v rfl w') rfl rfl (by decide) (by kernel_rfl) ?_
              refine DR.one 10 (by kernel_rfl) rfl ?_
              refine SL.alloc hS14 i32 (by decide) (fun g5 w15 hS15 => ?_)
              clear hS14
              refine EL.then_ ⟨(hS15.a 0 rfl), (hS15.a 1 rfl), trivial⟩ ?_
              refine DR.one 11 (by kernel_rfl) rfl ?_
              refine SL.stb hS15 4 rfl rfl rfl [str x19.1.q.name, vi x19.1.q.ty, vi x19.1.kind, sl v5, vi x19.1.rank, vi x19.1.till] rfl z32 rfl (Nat.le_of_ble_eq_true rfl) #[str x19.1.q.name, vi x19.1.q.ty, vi x19.1.kind, sl v5, vi x19.1.rank, vi x19.1.till] rfl (fun w16 hS16 => ?_)
              clear hS15
              refine EL.then_ ⟨(hS16.a 0 rfl), (hS16.a 1 rfl), trivial⟩ ?_
              refine DR.q 12 rfl (fun w' => rn_v rfl w') rfl rfl (by decide) (by kernel_rfl) ?_
              refine DR.done (by kernel_rfl) ?_
              cases hf10
              refine thenE_n ?_
              exact ⟨[(1, vi a1), (3, vi a3), (4, ptr (at0 g1) 0), (6, ptr (at0 g2) 0), (10, ptr (at0 g5) 0), (11, vt x19.2)], ⟨rfl, rfl, rfl, rfl, rfl, rfl, trivial⟩, g5, v5, rfl, hS16.sel [0, 1, 4, 3] rfl (by decide)⟩
            · skip
              refine SL.alloc hS13 i32 (by decide) (fun g5 w17 hS17 => ?_)
              clear hS13
              refine EL.then_ ⟨(hS17.a 0 rfl), (hS17.a 1 rfl), trivial⟩ ?_
              refine DR.one 6 (by kernel_rfl) rfl ?_
              refine SL.call hS17 [_, _, _, _] rfl Try.func7 (by kernel_rfl) rfl (by decide) [] (by decide) (L0 := []) rfl (fun b' s hb hw hrd hS => spec_Look_ok hx6 (rdc hrd 2 (by decide) rfl) hS) (fun v M w18 hΦ hS18 => ?_)
              clear hS17
              obtain ⟨v5, rfl, rfl⟩ := hΦ
              refine EL.then_ ⟨(hS18.a 0 rfl), (hS18.a 1 rfl), trivial⟩ ?_
              refine DR.q 7 rfl (fun w' => rn_v rfl w') rfl rfl (by decide) (by kernel_rfl) ?_
              refine DR.q 8 rfl (fun w' => rn_v rfl w') rfl rfl (by decide) (by kernel_rfl) ?_
              refine DR.q 9 rfl (fun w' => rn_v rfl w') rfl rfl (by decide) (by kernel_rfl) ?_
              refine DR.one 11 (by kernel_rfl) rfl ?_
              refine SL.stb hS18 3 rfl rfl rfl [str x19.1.q.name, vi x19.1.q.ty, vi x19.1.kind, sl v5, vi x19.1.rank, vi x19.1.till] rfl z32 rfl (Nat.le_of_ble_eq_true rfl) #[str x19.1.q.name, vi x19.1.q.ty, vi x19.1.kind, sl v5, vi x19.1.rank, vi x19.1.till] rfl (fun w19 hS19 => ?_)
              clear hS18
              refine EL.then_ ⟨(hS19.a 0 rfl), (hS19.a 1 rfl), trivial⟩ ?_
              refine DR.q 12 rfl (fun w' => rn_v rfl w') rfl rfl (by decide) (by kernel_rfl) ?_
              refine DR.done (by kernel_rfl) ?_
              cases hf10
              refine thenE_n ?_
              exact ⟨[(1, vi a1), (3, vi a3), (4, ptr (at0 g1) 0), (6, ptr (at0 g2) 0), (10, ptr (at0 g5) 0), (11, vt x19.2)], ⟨rfl, rfl, rfl, rfl, rfl, rfl, trivial⟩, g5, v5, rfl, hS19.sel [0, 1, 3, 4] rfl (by decide)⟩
          · skip
            refine SL.alloc hS12 i32 (by decide) (fun g5 w20 hS20 => ?_)
            clear hS12
            refine EL.then_ ⟨(hS20.a 0 rfl), (hS20.a 1 rfl), trivial⟩ ?_
            refine DR.one 4 (by kernel_rfl) rfl ?_
            refine SL.call hS20 [_] rfl Try.func9 (by kernel_rfl) rfl (by decide) [] (by decide) (L0 := []) rfl (fun b' s hb hw hrd hS => laws_toQuest_ok hx5 hS) (fun v M w21 hΦ hS21 => ?_)
            clear hS20
            obtain ⟨rfl, rfl⟩ := hΦ
            refine EL.then_ ⟨(hS21.a 0 rfl), (hS21.a 1 rfl), trivial⟩ ?_
            refine DR.one 6 (by kernel_rfl) rfl ?_
            refine SL.call hS21 [_, _, _, _] rfl Try.func7 (by kernel_rfl) rfl (by decide) [] (by decide) (L0 := []) rfl (fun b' s hb hw hrd hS => spec_Look_ok hx6 (rdc hrd 2 (by decide) rfl) hS) (fun v M w22 hΦ hS22 => ?_)
            clear hS21
            obtain ⟨v5, rfl, rfl⟩ := hΦ
            refine EL.then_ ⟨(hS22.a 0 rfl), (hS22.a 1 rfl), trivial⟩ ?_
            refine DR.q 7 rfl (fun w' => rn_v rfl w') rfl rfl (by decide) (by kernel_rfl) ?_
            refine DR.q 8 rfl (fun w' => rn_v rfl w') rfl rfl (by decide) (by kernel_rfl) ?_
            refine DR.q 9 rfl (fun w' => rn_v rfl w') rfl rfl (by decide) (by kernel_rfl) ?_
            refine DR.one 11 (by kernel_rfl) rfl ?_
            refine SL.stb hS22 3 rfl rfl rfl [str x19.1.q.name, vi x19.1.q.ty, vi x19.1.kind, sl v5, vi x19.1.rank, vi x19.1.till] rfl z32 rfl (Nat.le_of_ble_eq_true rfl) #[str x19.1.q.name, vi x19.1.q.ty, vi x19.1.kind, sl v5, vi x19.1.rank, vi x19.1.till] rfl (fun w23 hS23 => ?_)
            clear hS22
            refine EL.then_ ⟨(hS23.a 0 rfl), (hS23.a 1 rfl), trivial⟩ ?_
            refine DR.q 12 rfl (fun w' => rn_v rfl w') rfl rfl (by decide) (by kernel_rfl) ?_
            refine DR.done (by kernel_rfl) ?_
            cases hf10
            refine thenE_n ?_
            exact ⟨[(1, vi a1), (3, vi a3), (4, ptr (at0 g1) 0), (6, ptr (at0 g2) 0), (10, ptr (at0 g5) 0), (11, vt x19.2)], ⟨rfl, rfl, rfl, rfl, rfl, rfl, trivial⟩, g5, v5, rfl, hS23.sel [0, 1, 3, 4] rfl (by decide)⟩
        · skip
          refine SL.alloc hS11 i32 (by decide) (fun g5 w24 hS24 => ?_)
          clear hS11
          refine EL.then_ ⟨(hS24.a 0 rfl), (hS24.a 1 rfl), trivial⟩ ?_
          refine DR.one 1 (by kernel_rfl) rfl ?_
          refine SL.call hS24 [_] rfl Try.func8 (by kernel_rfl) rfl (by decide) [] (by decide) (L0 := []) rfl (fun b' s hb hw hrd hS => laws_toCache_ok hx4 (hr1.agr hb) hS) (fun v M w25 hΦ hS25 => ?_)
          clear hS24
          obtain ⟨v4, rfl, rfl⟩ := hΦ
          refine EL.then_ ⟨(hS25.a 0 rfl), (hS25.a 1 rfl), trivial⟩ ?_
          refine DR.one 4 (by kernel_rfl) rfl ?_
          refine SL.call hS25 [_] rfl Try.func9 (by kernel_rfl) rfl (by decide) [] (by decide) (L0 := []) rfl (fun b' s hb hw hrd hS => laws_toQuest_ok hx5 hS) (fun v M w26 hΦ hS26 => ?_)
          clear hS25
          obtain ⟨rfl, rfl⟩ := hΦ
          refine EL.then_ ⟨(hS26.a 0 rfl), (hS26.a 1 rfl), trivial⟩ ?_
          refine DR.one 6 (by kernel_rfl) rfl ?_
          refine SL.call hS26 [_, _, _, _] rfl Try.func7 (by kernel_rfl) rfl (by decide) [] (by decide) (L0 := []) rfl (fun b' s hb hw hrd hS => spec_Look_ok hx6 (rdc hrd 3 (by decide) rfl) hS) (fun v M w27 hΦ hS27 => ?_)
          clear hS26
          obtain ⟨v5, rfl, rfl⟩ := hΦ
          refine EL.then_ ⟨(hS27.a 0 rfl), (hS27.a 1 rfl), trivial⟩ ?_
          refine DR.q 7 rfl (fun w' => rn_v rfl w') rfl rfl (by decide) (by kernel_rfl) ?_
          refine DR.q 8 rfl (fun w' => rn_v rfl w') rfl rfl (by decide) (by kernel_rfl) ?_
          refine DR.q 9 rfl (fun w' => rn_v rfl w') rfl rfl (by decide) (by kernel_rfl) ?_
          refine DR.one 11 (by kernel_rfl) rfl ?_
          refine SL.stb hS27 2 rfl rfl rfl [str x19.1.q.name, vi x19.1.q.ty, vi x19.1.kind, sl v5, vi x19.1.rank, vi x19.1.till] rfl z32 rfl (Nat.le_of_ble_eq_true rfl) #[str x19.1.q.name, vi x19.1.q.ty, vi x19.1.kind, sl v5, vi x19.1.rank, vi x19.1.till] rfl (fun w28 hS28 => ?_)
          clear hS27
          refine EL.then_ ⟨(hS28.a 0 rfl), (hS28.a 1 rfl), trivial⟩ ?_
          refine DR.q 12 rfl (fun w' => rn_v rfl w') rfl rfl (by decide) (by kernel_rfl) ?_
          refine DR.done (by kernel_rfl) ?_
          cases hf10
          refine thenE_n ?_
          exact ⟨[(1, vi a1), (3, vi a3), (4, ptr (at0 g1) 0), (6, ptr (at0 g2) 0), (10, ptr (at0 g5) 0), (11, vt x19.2)], ⟨rfl, rfl, rfl, rfl, rfl, rfl, trivial⟩, g5, v5, rfl, hS28.sel [0, 1, 2, 4] rfl (by decide)⟩
      · skip
        rintro e w29 ⟨g4, v3, rfl, hS29⟩
        refine thenE_n ?_
        refine EW.seq ?_
        refine EW.region ?_
        refine EL.rn (rn_lds (m := 2) [vi a0.cap, sl v1] rfl Try.underlying24 (hS29.a 0 rfl) rfl z24) rfl rfl (by decide) ?_
        obtain ⟨x48, hx7, hf11⟩ := bnd hf7
        clear hf7
        refine SL.call hS29 [_] rfl Try.func8 (by kernel_rfl) rfl (by decide) [] (by decide) (L0 := []) rfl (fun b' s hb hw hrd hS => laws_toCache_ok hx7 (hr1.agr hb) hS) (fun v M w30 hΦ hS30 => ?_)
        clear hS29
        obtain ⟨v10, rfl, rfl⟩ := hΦ
        refine SL.alloc hS30 i37 (by decide) (fun g10 w31 hS31 => ?_)
        clear hS30
        refine SL.stb hS31 5 rfl rfl rfl [vi x48.cap, sl v10] rfl z37 rfl (Nat.le_of_ble_eq_true rfl) #[vi x48.cap, sl v10] rfl (fun w32 hS32 => ?_)
        clear hS31
        refine EL.nil ?_
        refine thenE_n ?_
        refine EW.seq ?_
        obtain ⟨⟨x56, x57, x58, x59, x60, x61, x62⟩, hx8, hf12⟩ := bnd hf11
        clear hf11
        refine EW.cut (fun e W => ∃ g12 : Nat, ∃ v12 : Sv, e = [(1, vi a1), (3, vi a3), (4, ptr (at0 g1) 0), (6, ptr (at0 g2) 0), (10, ptr (at0 g4) 0), (11, vt x16), (12, ptr (at0 g10) 0), (13, ptr (at0 g12) 0), (14, vt x62)] ∧ St b w s [.blk g1 24 #[vi a0.cap, sl v1], .blk g2 26 #[str a2.name, vi a2.ty], .blk g4 32 #[str x10, vi x11, vi x12, sl v3, vi x14, vi x15], .row kRec 66 (sl v3) x13, .blk g10 37 #[vi x48.cap, sl v10], .row (kEnt 66) 32 (sl v10) x48.l, .blk g12 32 #[str x56, vi x57, vi x58, sl v12, vi x60, vi x61], .row kRec 66 (sl v12) x59] W) ?_ ?_
        · skip
          obtain ⟨x63, hx9, hf13⟩ := bnd hx8
          clear hx8
          obtain ⟨x64, hx10, hf14⟩ := bnd hf13
          clear hf13
          have hS38 := hS32.drew
          refine EW.drawn (m := 12) (fun W => CellsAt W (at0 g10) 0 [vi x48.cap, sl v10] ∧ CellsAt W (at0 g2) 0 [str a2.name, vi a2.ty] ∧ True) [] (by kernel_rfl) rfl ⟨(hS38.a 5 rfl), (hS38.a 1 rfl), trivial⟩ ?_
          refine DR.take 0 rfl (fun w' hw => rn_lds (m := 2) [vi x48.cap, sl v10] rfl Try.underlying37 hw.1 rfl z37) rfl rfl (by decide) (by kernel_rfl) ⟨(hS38.a 5 rfl), (hS38.a 1 rfl), trivial⟩ ?_
          refine DR.q 1 rfl (fun w' => rn_v rfl w') rfl rfl (by decide) (by kernel_rfl) ?_
          refine DR.take 2 rfl (fun w' hw => rn_lds (m := 2) [str a2.name, vi a2.ty] rfl Try.underlying26 hw.2.1 rfl z26) rfl rfl (by decide) (by kernel_rfl) ⟨(hS38.a 5 rfl), (hS38.a 1 rfl), trivial⟩ ?_
          refine DR.q 4 rfl (fun w' => rn_v rfl w') rfl rfl (by decide) (by kernel_rfl) ?_
          refine DR.two 3 9 (by kernel_rfl) rfl rfl ?_ ?_
          · skip
            refine SL.call hS38 [_] rfl Try.func9 (by kernel_rfl) rfl (by decide) [] (by decide) (L0 := []) rfl (fun b' s hb hw hrd hS => laws_toQuest_ok hx9 hS) (fun v M w39 hΦ hS39 => ?_)
            clear hS38
            obtain ⟨rfl, rfl⟩ := hΦ
            refine EL.then_ ⟨(hS39.a 5 rfl), (hS39.a 1 rfl), trivial⟩ ?_
            refine DR.two 5 9 (by kernel_rfl) rfl rfl ?_ ?_
            · skip
              refine SL.call hS39 [_, _, _, _] rfl Try.func10 (by kernel_rfl) rfl (by decide) [] (by decide) (L0 := []) rfl (fun b' s hb hw hrd hS => impl_Look_ok hx10 (rdc hrd 4 (by decide) rfl) hS) (fun v M w40 hΦ hS40 => ?_)
              clear hS39
              obtain ⟨v13, rfl, rfl⟩ := hΦ
              refine EL.then_ ⟨(hS40.a 5 rfl), (hS40.a 1 rfl), trivial⟩ ?_
              refine DR.q 6 rfl (fun w' => rn_v rfl w') rfl rfl (by decide) (by kernel_rfl) ?_
              refine DR.q 7 rfl (fun w' => rn_v rfl w') rfl rfl (by decide) (by kernel_rfl) ?_
              refine DR.q 8 rfl (fun w' => rn_v rfl w') rfl rfl (by decide) (by kernel_rfl) ?_
              refine DR.one 9 (by kernel_rfl) rfl ?_
              refine SL.alloc hS40 i32 (by decide) (fun g13 w41 hS41 => ?_)
              clear hS40
              refine EL.then_ ⟨(hS41.a 5 rfl), (hS41.a 1 rfl), trivial⟩ ?_
              refine DR.one 10 (by kernel_rfl) rfl ?_
              refine SL.stb hS41 7 rfl rfl rfl [str x64.1.q.name, vi x64.1.q.ty, vi x64.1.kind, sl v13, vi x64.1.rank, vi x64.1.till] rfl z32 rfl (Nat.le_of_ble_eq_true rfl) #[str x64.1.q.name, vi x64.1.q.ty, vi x64.1.kind, sl v13, vi x64.1.rank, vi x64.1.till] rfl (fun w42 hS42 => ?_)
              clear hS41
              refine EL.then_ ⟨(hS42.a 5 rfl), (hS42.a 1 rfl), trivial⟩ ?_
              refine DR.q 11 rfl (fun w' => rn_v rfl w') rfl rfl (by decide) (by kernel_rfl) ?_
              refine DR.done (by kernel_rfl) ?_
              cases hf14
              refine thenE_n ?_
              exact ⟨[(1, vi a1), (3, vi a3), (4, ptr (at0 g1) 0), (6, ptr (at0 g2) 0), (10, ptr (at0 g4) 0), (11, vt x16), (12, ptr (at0 g10) 0), (13, ptr (at0 g13) 0), (14, vt x64.2)], ⟨rfl, rfl, rfl, rfl, rfl, rfl, rfl, rfl, rfl, trivial⟩, g13, v13, rfl, hS42.sel [0, 1, 2, 3, 5, 4, 7, 6] rfl (by decide)⟩
            · skip
              refine SL.alloc hS39 i32 (by decide) (fun g13 w43 hS43 => ?_)
              clear hS39
              refine EL.then_ ⟨(hS43.a 5 rfl), (hS43.a 1 rfl), trivial⟩ ?_
              refine DR.one 5 (by kernel_rfl) rfl ?_
              refine SL.call hS43 [_, _, _, _] rfl Try.func10 (by kernel_rfl) rfl (by decide) [] (by decide) (L0 := []) rfl (fun b' s hb hw hrd hS => impl_Look_ok hx10 (rdc hrd 4 (by decide) rfl) hS) (fun v M w44 hΦ hS44 => ?_)
              clear hS43
              obtain ⟨v13, rfl, rfl⟩ := hΦ
              refine EL.then_ ⟨(hS44.a 5 rfl), (hS44.a 1 rfl), trivial⟩ ?_
              refine DR.q 6 rfl (fun w' => rn_v rfl w') rfl rfl (by decide) (by kernel_rfl) ?_
              refine DR.q 7 rfl (fun w' => rn_v rfl w') rfl rfl (by decide) (by kernel_rfl) ?_
              refine DR.q 8 rfl (fun w' => rn_v rfl w') rfl rfl (by decide) (by kernel_rfl) ?_
              refine DR.one 10 (by kernel_rfl) rfl ?_
              refine SL.stb hS44 6 rfl rfl rfl [str x64.1.q.name, vi x64.1.q.ty, vi x64.1.kind, sl v13, vi x64.1.rank, vi x64.1.till] rfl z32 rfl (Nat.le_of_ble_eq_true rfl) #[str x64.1.q.name, vi x64.1.q.ty, vi x64.1.kind, sl v13, vi x64.1.rank, vi x64.1.till] rfl (fun w45 hS45 => ?_)
              clear hS44
              refine EL.then_ ⟨(hS45.a 5 rfl), (hS45.a 1 rfl), trivial⟩ ?_
              refine DR.q 11 rfl (fun w' => rn_v rfl w') rfl rfl (by decide) (by kernel_rfl) ?_
              refine DR.done (by kernel_rfl) ?_
              cases hf14
              refine thenE_n ?_
              exact ⟨[(1, vi a1), (3, vi a3), (4, ptr (at0 g1) 0), (6, ptr (at0 g2) 0), (10, ptr (at0 g4) 0), (11, vt x16), (12, ptr (at0 g10) 0), (13, ptr (at0 g13) 0), (14, vt x64.2)], ⟨rfl, rfl, rfl, rfl, rfl, rfl, rfl, rfl, rfl, trivial⟩, g13, v13, rfl, hS45.sel [0, 1, 2, 3, 5, 4, 6, 7] rfl (by decide)⟩
          · skip
            refine SL.alloc hS38 i32 (by decide) (fun g13 w46 hS46 => ?_)
            clear hS38
            refine EL.then_ ⟨(hS46.a 5 rfl), (hS46.a 1 rfl), trivial⟩ ?_
            refine DR.one 3 (by kernel_rfl) rfl ?_
            refine SL.call hS46 [_] rfl Try.func9 (by kernel_rfl) rfl (by decide) [] (by decide) (L0 := []) rfl (fun b' s hb hw hrd hS => laws_toQuest_ok hx9 hS) (fun v M w47 hΦ hS47 => ?_)
            clear hS46
            obtain ⟨rfl, rfl⟩ := hΦ
            refine EL.then_ ⟨(hS47.a 5 rfl), (hS47.a 1 rfl), trivial⟩ ?_
            refine DR.one 5 (by kernel_rfl) rfl ?_
            refine SL.call hS47 [_, _, _, _] rfl Try.func10 (by kernel_rfl) rfl (by decide) [] (by decide) (L0 := []) rfl (fun b' s hb hw hrd hS => impl_Look_ok hx10 (rdc hrd 4 (by decide) rfl) hS) (fun v M w48 hΦ hS48 => ?_)
            clear hS47
            obtain ⟨v13, rfl, rfl⟩ := hΦ
            refine EL.then_ ⟨(hS48.a 5 rfl), (hS48.a 1 rfl), trivial⟩ ?_
            refine DR.q 6 rfl (fun w' => rn_v rfl w') rfl rfl (by decide) (by kernel_rfl) ?_
            refine DR.q 7 rfl (fun w' => rn_v rfl w') rfl rfl (by decide) (by kernel_rfl) ?_
            refine DR.q 8 rfl (fun w' => rn_v rfl w') rfl rfl (by decide) (by kernel_rfl) ?_
            refine DR.one 10 (by kernel_rfl) rfl ?_
            refine SL.stb hS48 6 rfl rfl rfl [str x64.1.q.name, vi x64.1.q.ty, vi x64.1.kind, sl v13, vi x64.1.rank, vi x64.1.till] rfl z32 rfl (Nat.le_of_ble_eq_true rfl) #[str x64.1.q.name, vi x64.1.q.ty, vi x64.1.kind, sl v13, vi x64.1.rank, vi x64.1.till] rfl (fun w49 hS49 => ?_)
            clear hS48
            refine EL.then_ ⟨(hS49.a 5 rfl), (hS49.a 1 rfl), trivial⟩ ?_
            refine DR.q 11 rfl (fun w' => rn_v rfl w') rfl rfl (by decide) (by kernel_rfl) ?_
            refine DR.done (by kernel_rfl) ?_
            cases hf14
            refine thenE_n ?_
            exact ⟨[(1, vi a1), (3, vi a3), (4, ptr (at0 g1) 0), (6, ptr (at0 g2) 0), (10, ptr (at0 g4) 0), (11, vt x16), (12, ptr (at0 g10) 0), (13, ptr (at0 g13) 0), (14, vt x64.2)], ⟨rfl, rfl, rfl, rfl, rfl, rfl, rfl, rfl, rfl, trivial⟩, g13, v13, rfl, hS49.sel [0, 1, 2, 3, 5, 4, 6, 7] rfl (by decide)⟩
        · skip
          rintro e w50 ⟨g12, v12, rfl, hS50⟩
          refine thenE_n ?_
          refine EW.seq ?_
          refine EW.seq ?_
          obtain ⟨x87, hx11, hf15⟩ := bnd hf12
          clear hf12
          refine EW.cut (fun e W => e = [(1, vi a1), (3, vi a3), (4, ptr (at0 g1) 0), (6, ptr (at0 g2) 0), (10, ptr (at0 g4) 0), (11, vt x16), (12, ptr (at0 g10) 0), (13, ptr (at0 g12) 0), (14, vt x62), (59, vt x87)] ∧ St b w s [.blk g1 24 #[vi a0.cap, sl v1], .blk g2 26 #[str a2.name, vi a2.ty], .blk g4 32 #[str x10, vi x11, vi x12, sl v3, vi x14, vi x15], .row kRec 66 (sl v3) x13, .blk g10 37 #[vi x48.cap, sl v10], .row (kEnt 66) 32 (sl v10) x48.l, .blk g12 32 #[str x56, vi x57, vi x58, sl v12, vi x60, vi x61], .row kRec 66 (sl v12) x59] W) ?_ ?_
          · skip
            refine EW.region ?_
            refine EL.rn (rn_lds (m := 6) [str x56, vi x57, vi x58, sl v12, vi x60, vi x61] rfl Try.underlying32 (hS50.a 6 rfl) rfl z32) rfl rfl (by decide) ?_
            refine EL.rn (rn_lds (m := 6) [str x10, vi x11, vi x12, sl v3, vi x14, vi x15] rfl Try.underlying32 (hS50.a 2 rfl) rfl z32) rfl rfl (by decide) ?_
            obtain ⟨x88, hx12, hf16⟩ := bnd hx11
            clear hx11
            refine SL.call hS50 [_, _] rfl Try.func11 (by kernel_rfl) rfl (by decide) [] (by decide) (L0 := []) rfl (fun b' s hb hw hrd hS => laws_eqEntry_ok hx12 (rdc hrd 7 (by decide) rfl) (rdc hrd 3 (by decide) rfl) hS) (fun v M w51 hΦ hS51 => ?_)
            clear hS50
            obtain ⟨rfl, rfl⟩ := hΦ
            iterate 2 refine EL.q rfl rfl rfl (by decide) ?_
            refine EL.split (t := 55) rfl (fun hc3 => ?_) (fun hc3 => ?_)
            · skip
              have hf17 := bifT hc3 hf16
              clear hf16
              refine EL.pass rfl rfl (by decide) (by decide) (by decide) ?_
              refine EL.pass rfl rfl (by decide) (by decide) (by decide) ?_
              refine EL.pass rfl rfl (by decide) (by decide) (by decide) ?_
              refine EL.rn (rn_pickT rfl rfl _) rfl rfl (by decide) ?_
              refine EL.nil ?_
              cases hf17
              refine thenE_n ?_
              exact ⟨[(1, vi a1), (3, vi a3), (4, ptr (at0 g1) 0), (6, ptr (at0 g2) 0), (10, ptr (at0 g4) 0), (11, vt x16), (12, ptr (at0 g10) 0), (13, ptr (at0 g12) 0), (14, vt x62), (59, vt true)], ⟨rfl, rfl, rfl, rfl, rfl, rfl, rfl, rfl, rfl, rfl, trivial⟩, rfl, hS51.sel [0, 1, 2, 3, 4, 5, 6, 7] rfl (by decide)⟩
            · skip
              have hf18 := bifF hc3 hf16
              clear hf16
              refine EL.ungate rfl rfl (by decide) ?_
              refine EL.q rfl rfl rfl (by decide) ?_
              refine EL.ungate rfl rfl (by decide) ?_
              refine EL.q rfl rfl rfl (by decide) ?_
              refine EL.ungate rfl rfl (by decide) ?_
              refine EL.rn (rn_bne rfl rfl Try.underlying4 _) rfl rfl (by decide) ?_
              refine EL.rn (rn_pickF rfl rfl _) rfl rfl (by decide) ?_
              refine EL.nil ?_
              cases hf18
              refine thenE_n ?_
              exact ⟨[(1, vi a1), (3, vi a3), (4, ptr (at0 g1) 0), (6, ptr (at0 g2) 0), (10, ptr (at0 g4) 0), (11, vt x16), (12, ptr (at0 g10) 0), (13, ptr (at0 g12) 0), (14, vt x62), (59, vt (!(x62 == x16)))], ⟨rfl, rfl, rfl, rfl, rfl, rfl, rfl, rfl, rfl, rfl, trivial⟩, rfl, hS51.sel [0, 1, 2, 3, 4, 5, 6, 7] rfl (by decide)⟩
          · skip
            rintro e w52 ⟨rfl, hS52⟩
            refine thenE_n ?_
            refine EW.cond rfl (fun hc4 => ?_) (fun hc4 => ?_)
            · skip
              have hf19 := bifT hc4 hf15
              clear hf15
              refine EW.seq ?_
              refine EW.region ?_
              refine EL.q rfl rfl rfl (by decide) ?_
              refine EL.nil ?_
              refine thenE_n ?_
              refine EW.ret ?_
              repeat (first | refine thenE_r ?_ | refine inB_r ?_)
              obtain rfl := Option.some.inj hf19
              exact ⟨_, res rfl, _, _, rfl, ⟨rfl, rfl⟩, hS52.sel [] rfl (by decide)⟩
            · skip
              have hf20 := bifF hc4 hf15
              clear hf15
              refine EW.skip ?_
              refine thenE_n ?_
              refine EW.seq ?_
              refine EW.seq ?_
              obtain ⟨x92, hx13, hf21⟩ := bnd hf20
              clear hf20
              refine EW.cut (fun e W => e = [(1, vi a1), (3, vi a3), (4, ptr (at0 g1) 0), (6, ptr (at0 g2) 0), (10, ptr (at0 g4) 0), (11, vt x16), (12, ptr (at0 g10) 0), (13, ptr (at0 g12) 0), (14, vt x62), (64, vt x92)] ∧ St b w s [.blk g1 24 #[vi a0.cap, sl v1], .blk g2 26 #[str a2.name, vi a2.ty], .blk g4 32 #[str x10, vi x11, vi x12, sl v3, vi x14, vi x15], .row kRec 66 (sl v3) x13, .blk g10 37 #[vi x48.cap, sl v10], .row (kEnt 66) 32 (sl v10) x48.l, .blk g12 32 #[str x56, vi x57, vi x58, sl v12, vi x60, vi x61], .row kRec 66 (sl v12) x59] W) ?_ ?_
              · skip
                obtain ⟨x93, hx14, hf22⟩ := bnd hx13
                clear hx13
                obtain ⟨x94, hx15, hf23⟩ := bnd hf22
                clear hf22
                have hS56 := hS52.drew
                refine EW.drawn (m := 5) (fun W => CellsAt W (at0 g10) 0 [vi x48.cap, sl v10] ∧ CellsAt W (at0 g1) 0 [vi a0.cap, sl v1] ∧ True) [] (by kernel_rfl) rfl ⟨(hS56.a 4 rfl), (hS56.a 0 rfl), trivial⟩ ?_
                refine DR.take 0 rfl (fun w' hw => rn_lds (m := 2) [vi x48.cap, sl v10] rfl Try.underlying37 hw.1 rfl z37) rfl rfl (by decide) (by kernel_rfl) ⟨(hS56.a 4 rfl), (hS56.a 0 rfl), trivial⟩ ?_
                refine DR.take 1 rfl (fun w' hw => rn_lds (m := 2) [vi a0.cap, sl v1] rfl Try.underlying24 hw.2.1 rfl z24) rfl rfl (by decide) (by kernel_rfl) ⟨(hS56.a 4 rfl), (hS56.a 0 rfl), trivial⟩ ?_
                refine DR.one 2 (by kernel_rfl) rfl ?_
                refine SL.call hS56 [_] rfl Try.func8 (by kernel_rfl) rfl (by decide) [] (by decide) (L0 := []) rfl (fun b' s hb hw hrd hS => laws_toCache_ok hx14 (hr1.agr hb) hS) (fun v M w57 hΦ hS57 => ?_)
                clear hS56
                obtain ⟨v17, rfl, rfl⟩ := hΦ
                refine EL.then_ ⟨(hS57.a 4 rfl), (hS57.a 0 rfl), trivial⟩ ?_
                refine DR.one 3 (by kernel_rfl) rfl ?_
                refine SL.call hS57 [_, _] rfl Try.func12 (by kernel_rfl) rfl (by decide) [] (by decide) (L0 := []) rfl (fun b' s hb hw hrd hS => laws_eqCache_ok hx15 (rdc hrd 5 (by decide) rfl) (rdc hrd 8 (by decide) rfl) hS) (fun v M w58 hΦ hS58 => ?_)
                clear hS57
                obtain ⟨rfl, rfl⟩ := hΦ
                refine EL.then_ ⟨(hS58.a 4 rfl), (hS58.a 0 rfl), trivial⟩ ?_
                refine DR.q 4 rfl (fun w' => rn_v rfl w') rfl rfl (by decide) (by kernel_rfl) ?_
                refine DR.done (by kernel_rfl) ?_
                cases hf23
                refine thenE_n ?_
                exact ⟨[(1, vi a1), (3, vi a3), (4, ptr (at0 g1) 0), (6, ptr (at0 g2) 0), (10, ptr (at0 g4) 0), (11, vt x16), (12, ptr (at0 g10) 0), (13, ptr (at0 g12) 0), (14, vt x62), (64, vt (!x94))], ⟨rfl, rfl, rfl, rfl, rfl, rfl, rfl, rfl, rfl, rfl, trivial⟩, rfl, hS58.sel [0, 1, 2, 3, 4, 5, 6, 7] rfl (by decide)⟩
              · skip
                rintro e w59 ⟨rfl, hS59⟩
                refine thenE_n ?_
                refine EW.cond rfl (fun hc5 => ?_) (fun hc5 => ?_)
                · skip
                  have hf24 := bifT hc5 hf21
                  clear hf21
                  refine EW.seq ?_
                  refine EW.region ?_
                  refine EL.q rfl rfl rfl (by decide) ?_
                  refine EL.nil ?_
                  refine thenE_n ?_
                  refine EW.ret ?_
                  repeat (first | refine thenE_r ?_ | refine inB_r ?_)
                  obtain rfl := Option.some.inj hf24
                  exact ⟨_, res rfl, _, _, rfl, ⟨rfl, rfl⟩, hS59.sel [] rfl (by decide)⟩
                · skip
                  have hf25 := bifF hc5 hf21
                  clear hf21
                  refine EW.skip ?_
                  refine thenE_n ?_
                  refine EW.seq ?_
                  refine EW.region ?_
                  refine EL.q rfl rfl rfl (by decide) ?_
                  refine EL.nil ?_
                  refine thenE_n ?_
                  refine EW.seq ?_
                  refine EW.region ?_
                  refine EL.rn (rn_lds (m := 2) [vi x48.cap, sl v10] rfl Try.underlying37 (hS59.a 4 rfl) rfl z37) rfl rfl (by decide) ?_
                  refine EL.q rfl rfl rfl (by decide) ?_
                  obtain ⟨x96, hx16, hf26⟩ := bnd hf25
                  clear hf25
                  refine SL.call hS59 [_, _] rfl Try.func13 (by kernel_rfl) rfl (by decide) [5] (by decide) (L0 := [.row (kEnt 66) 32 (sl v10) x48.l]) rfl (fun b' s hb hw hrd hS => laws_markCache_ok hx16 hS) (fun v M w60 hΦ hS60 => ?_)
                  clear hS59
                  obtain ⟨rfl, rfl⟩ := hΦ
                  refine EL.q rfl rfl rfl (by decide) ?_
                  refine EL.nil ?_
                  refine thenE_n ?_
                  refine EW.seq ?_
                  refine EW.seq ?_
                  obtain ⟨x98, hx17, hf27⟩ := bnd hf26
                  clear hf26
                  refine EW.cut (fun e W => e = [(1, vi a1), (3, vi a3), (4, ptr (at0 g1) 0), (6, ptr (at0 g2) 0), (10, ptr (at0 g4) 0), (11, vt x16), (13, ptr (at0 g12) 0), (80, vt x98)] ∧ St b w s [.blk g1 24 #[vi a0.cap, sl v1], .blk g2 26 #[str a2.name, vi a2.ty], .blk g4 32 #[str x10, vi x11, vi x12, sl v3, vi x14, vi x15], .row kRec 66 (sl v3) x13, .blk g12 32 #[str x56, vi x57, vi x58, sl v12, vi x60, vi x61], .row kRec 66 (sl v12) x59] W) ?_ ?_
                  · skip
                    refine EW.region ?_
                    iterate 3 refine EL.q rfl rfl rfl (by decide) ?_
                    refine EL.split (t := 70) rfl (fun hc6 => ?_) (fun hc6 => ?_)
                    · skip
                      have hf28 := bifT hc6 hx17
                      clear hx17
                      refine EL.pass rfl rfl (by decide) (by decide) (by decide) ?_
                      refine EL.pass rfl rfl (by decide) (by decide) (by decide) ?_
                      refine EL.pass rfl rfl (by decide) (by decide) (by decide) ?_
                      refine EL.pass rfl rfl (by decide) (by decide) (by decide) ?_
                      refine EL.rn (rn_pickT rfl rfl _) rfl rfl (by decide) ?_
                      refine EL.q rfl rfl rfl (by decide) ?_
                      refine EL.pass rfl rfl (by decide) (by decide) (by decide) ?_
                      refine EL.pass rfl rfl (by decide) (by decide) (by decide) ?_
                      refine EL.pass rfl rfl (by decide) (by decide) (by decide) ?_
                      refine EL.rn (rn_pickT rfl rfl _) rfl rfl (by decide) ?_
                      refine EL.nil ?_
                      cases hf28
                      refine thenE_n ?_
                      exact ⟨[(1, vi a1), (3, vi a3), (4, ptr (at0 g1) 0), (6, ptr (at0 g2) 0), (10, ptr (at0 g4) 0), (11, vt x16), (13, ptr (at0 g12) 0), (80, vt true)], ⟨rfl, rfl, rfl, rfl, rfl, rfl, rfl, rfl, trivial⟩, rfl, hS60.sel [0, 1, 2, 3, 6, 7] rfl (by decide)⟩
                    · skip
                      have hf29 := bifF hc6 hx17
                      clear hx17
                      refine EL.ungate rfl rfl (by decide) ?_
                      refine EL.rn (rn_lds (m := 6) [str x56, vi x57, vi x58, sl v12, vi x60, vi x61] rfl Try.underlying32 (hS60.a 6 rfl) rfl z32) rfl rfl (by decide) ?_
                      refine EL.ungate rfl rfl (by decide) ?_
                      refine EL.rn (rn_lds (m := 6) [str x10, vi x11, vi x12, sl v3, vi x14, vi x15] rfl Try.underlying32 (hS60.a 2 rfl) rfl z32) rfl rfl (by decide) ?_
                      refine EL.ungate rfl rfl (by decide) ?_
                      obtain ⟨x100, hx18, hf30⟩ := bnd hf29
                      clear hf29
                      refine SL.call hS60 [_, _] rfl Try.func11 (by kernel_rfl) rfl (by decide) [] (by decide) (L0 := []) rfl (fun b' s hb hw hrd hS => laws_eqEntry_ok hx18 (rdc hrd 7 (by decide) rfl) (rdc hrd 3 (by decide) rfl) hS) (fun v M w61 hΦ hS61 => ?_)
                      clear hS60
                      obtain ⟨rfl, rfl⟩ := hΦ
                      refine EL.ungate rfl rfl (by decide) ?_
                      refine EL.q rfl rfl rfl (by decide) ?_
                      refine EL.rn (rn_pickF rfl rfl _) rfl rfl (by decide) ?_
                      refine EL.q rfl rfl rfl (by decide) ?_
                      refine EL.split (t := 76) rfl (fun hc7 => ?_) (fun hc7 => ?_)
                      · skip
                        have hf31 := bifT hc7 hf30
                        clear hf30
                        refine EL.pass rfl rfl (by decide) (by decide) (by decide) ?_
                        refine EL.pass rfl rfl (by decide) (by decide) (by decide) ?_
                        refine EL.pass rfl rfl (by decide) (by decide) (by decide) ?_
                        refine EL.rn (rn_pickT rfl rfl _) rfl rfl (by decide) ?_
                        refine EL.nil ?_
                        cases hf31
                        refine thenE_n ?_
                        exact ⟨[(1, vi a1), (3, vi a3), (4, ptr (at0 g1) 0), (6, ptr (at0 g2) 0), (10, ptr (at0 g4) 0), (11, vt x16), (13, ptr (at0 g12) 0), (80, vt true)], ⟨rfl, rfl, rfl, rfl, rfl, rfl, rfl, rfl, trivial⟩, rfl, hS61.sel [0, 1, 2, 3, 6, 7] rfl (by decide)⟩
                      · skip
                        have hf32 := bifF hc7 hf30
                        clear hf30
                        refine EL.ungate rfl rfl (by decide) ?_
                        refine EL.q rfl rfl rfl (by decide) ?_
                        refine EL.ungate rfl rfl (by decide) ?_
                        refine EL.q rfl rfl rfl (by decide) ?_
                        refine EL.ungate rfl rfl (by decide) ?_
                        refine EL.rn (rn_bne rfl rfl Try.underlying4 _) rfl rfl (by decide) ?_
                        refine EL.rn (rn_pickF rfl rfl _) rfl rfl (by decide) ?_
                        refine EL.nil ?_
                        cases hf32
                        refine thenE_n ?_
                        exact ⟨[(1, vi a1), (3, vi a3), (4, ptr (at0 g1) 0), (6, ptr (at0 g2) 0), (10, ptr (at0 g4) 0), (11, vt x16), (13, ptr (at0 g12) 0), (80, vt (!(x62 == x16)))], ⟨rfl, rfl, rfl, rfl, rfl, rfl, rfl, rfl, trivial⟩, rfl, hS61.sel [0, 1, 2, 3, 6, 7] rfl (by decide)⟩
                  · skip
                    rintro e w62 ⟨rfl, hS62⟩
                    refine thenE_n ?_
                    refine EW.cond rfl (fun hc8 => ?_) (fun hc8 => ?_)
                    · skip
                      have hf33 := bifT hc8 hf27
                      clear hf27
                      refine EW.seq ?_
                      refine EW.region ?_
                      refine EL.q rfl rfl rfl (by decide) ?_
                      refine EL.nil ?_
                      refine thenE_n ?_
                      refine EW.ret ?_
                      repeat (first | refine thenE_r ?_ | refine inB_r ?_)
                      obtain rfl := Option.some.inj hf33
                      exact ⟨_, res rfl, _, _, rfl, ⟨rfl, rfl⟩, hS62.sel [] rfl (by decide)⟩
                    · skip
                      have hf34 := bifF hc8 hf27
                      clear hf27
                      refine EW.skip ?_
                      refine thenE_n ?_
                      refine EW.seq ?_
                      refine EW.region ?_
                      refine EL.q rfl rfl rfl (by decide) ?_
                      refine EL.nil ?_
                      refine thenE_n ?_
                      refine EW.seq ?_
                      refine EW.region ?_
                      refine EL.rn (rn_lds (m := 6) [str x56, vi x57, vi x58, sl v12, vi x60, vi x61] rfl Try.underlying32 (hS62.a 4 rfl) rfl z32) rfl rfl (by decide) ?_
                      refine EL.q rfl rfl rfl (by decide) ?_
                      obtain ⟨x103, hx19, hf35⟩ := bnd hf34
                      clear hf34
                      refine SL.call hS62 [_, _] rfl Try.func14 (by kernel_rfl) rfl (by decide) [5] (by decide) (L0 := [.row kRec 66 (sl v12) x59]) rfl (fun b' s hb hw hrd hS => laws_markEntry_ok hx19 hS) (fun v M w63 hΦ hS63 => ?_)
                      clear hS62
                      obtain ⟨rfl, rfl⟩ := hΦ
                      refine EL.q rfl rfl rfl (by decide) ?_
                      refine EL.nil ?_
                      refine thenE_n ?_
                      refine EW.seq ?_
                      refine EW.region ?_
                      refine EL.q rfl rfl rfl (by decide) ?_
                      refine EL.nil ?_
                      refine thenE_n ?_
                      refine EW.seq ?_
                      refine EW.region ?_
                      refine EL.rn (rn_lds (m := 6) [str x56, vi x57, vi x58, sl v12, vi x60, vi x61] rfl Try.underlying32 (hS63.a 4 rfl) rfl z32) rfl rfl (by decide) ?_
                      refine EL.q rfl rfl rfl (by decide) ?_
                      obtain ⟨x104, hx20, hf36⟩ := bnd hf35
                      clear hf35
                      refine SL.call hS63 [_, _] rfl Try.func15 (by kernel_rfl) rfl (by decide) [] (by decide) (L0 := []) rfl (fun b' s hb hw hrd hS => laws_heldEntry_ok hx20 (rdc hrd 5 (by decide) rfl) hS) (fun v M w64 hΦ hS64 => ?_)
                      clear hS63
                      obtain ⟨rfl, rfl⟩ := hΦ
                      refine EL.q rfl rfl rfl (by decide) ?_
                      refine EL.nil ?_
                      refine thenE_n ?_
                      refine EW.seq ?_
                      refine EW.seq ?_
                      refine EW.region ?_
                      iterate 2 refine EL.q rfl rfl rfl (by decide) ?_
                      refine EL.nil ?_
                      refine thenE_n ?_
                      refine EW.cond rfl (fun hc9 => ?_) (fun hc9 => ?_)
                      · skip
                        have hf37 := bifT hc9 hf36
                        clear hf36
                        refine EW.seq ?_
                        refine EW.region ?_
                        refine EL.q rfl rfl rfl (by decide) ?_
                        refine EL.nil ?_
                        refine thenE_n ?_
                        refine EW.ret ?_
                        repeat (first | refine thenE_r ?_ | refine inB_r ?_)
                        obtain rfl := Option.some.inj hf37
                        exact ⟨_, res rfl, _, _, rfl, ⟨rfl, rfl⟩, hS64.sel [] rfl (by decide)⟩
                      · skip
                        have hf38 := bifF hc9 hf36
                        clear hf36
                        refine EW.skip ?_
                        refine thenE_n ?_
                        refine EW.seq ?_
                        refine EW.seq ?_
                        refine EW.region ?_
                        iterate 3 refine EL.q rfl rfl rfl (by decide) ?_
                        refine EL.nil ?_
                        refine thenE_n ?_
                        refine EW.cond rfl (fun hc10 => ?_) (fun hc10 => ?_)
                        · skip
                          have hf39 := bifT hc10 hf38
                          clear hf38
                          refine EW.seq ?_
                          refine EW.region ?_
                          refine EL.q rfl rfl rfl (by decide) ?_
                          refine EL.nil ?_
                          refine thenE_n ?_
                          refine EW.ret ?_
                          repeat (first | refine thenE_r ?_ | refine inB_r ?_)
                          obtain rfl := Option.some.inj hf39
                          exact ⟨_, res rfl, _, _, rfl, ⟨rfl, rfl⟩, hS64.sel [] rfl (by decide)⟩
                        · skip
                          have hf40 := bifF hc10 hf38
                          clear hf38
                          refine EW.skip ?_
                          refine thenE_n ?_
                          refine EW.seq ?_
                          obtain ⟨⟨x112, x113, x114, x115, x116, x117, x118⟩, hx21, hf41⟩ := bnd hf40
                          clear hf40
                          refine EW.cut (fun e W => ∃ g18 : Nat, ∃ v19 : Sv, e = [(10, ptr (at0 g4) 0), (11, vt x16), (13, ptr (at0 g12) 0), (16, vi x103.1), (18, ptr (at0 g18) 0), (19, vt x118)] ∧ St b w s [.blk g4 32 #[str x10, vi x11, vi x12, sl v3, vi x14, vi x15], .row kRec 66 (sl v3) x13, .blk g12 32 #[str x56, vi x57, vi x58, sl v12, vi x60, vi x61], .row kRec 66 (sl v12) x103.2.l, .blk g18 32 #[str x112, vi x113, vi x114, sl v19, vi x116, vi x117], .row kRec 66 (sl v19) x115] W) ?_ ?_
                          · skip
                            obtain ⟨x119, hx22, hf42⟩ := bnd hx21
                            clear hx21
                            obtain ⟨x120, hx23, hf43⟩ := bnd hf42
                            clear hf42
                            obtain ⟨x121, hx24, hf44⟩ := bnd hf43
                            clear hf43
                            have hS71 := hS64.drew
                            refine EW.drawn (m := 13) (fun W => CellsAt W (at0 g1) 0 [vi a0.cap, sl v1] ∧ CellsAt W (at0 g2) 0 [str a2.name, vi a2.ty] ∧ True) [] (by kernel_rfl) rfl ⟨(hS71.a 0 rfl), (hS71.a 1 rfl), trivial⟩ ?_
                            refine DR.take 0 rfl (fun w' hw => rn_lds (m := 2) [vi a0.cap, sl v1] rfl Try.underlying24 hw.1 rfl z24) rfl rfl (by decide) (by kernel_rfl) ⟨(hS71.a 0 rfl), (hS71.a 1 rfl), trivial⟩ ?_
                            refine DR.q 2 rfl (fun w' => rn_v rfl w') rfl rfl (by decide) (by kernel_rfl) ?_
                            refine DR.take 3 rfl (fun w' hw => rn_lds (m := 2) [str a2.name, vi a2.ty] rfl Try.underlying26 hw.2.1 rfl z26) rfl rfl (by decide) (by kernel_rfl) ⟨(hS71.a 0 rfl), (hS71.a 1 rfl), trivial⟩ ?_
                            refine DR.q 5 rfl (fun w' => rn_v rfl w') rfl rfl (by decide) (by kernel_rfl) ?_
                            refine DR.two 1 10 (by kernel_rfl) rfl rfl ?_ ?_
                            · skip
                              refine SL.call hS71 [_] rfl Try.func8 (by kernel_rfl) rfl (by decide) [] (by decide) (L0 := []) rfl (fun b' s hb hw hrd hS => laws_toCache_ok hx22 (hr1.agr hb) hS) (fun v M w72 hΦ hS72 => ?_)
                              clear hS71
                              obtain ⟨v20, rfl, rfl⟩ := hΦ
                              refine EL.then_ ⟨(hS72.a 0 rfl), (hS72.a 1 rfl), trivial⟩ ?_
                              refine DR.two 4 10 (by kernel_rfl) rfl rfl ?_ ?_
                              · skip
                                refine SL.call hS72 [_] rfl Try.func9 (by kernel_rfl) rfl (by decide) [] (by decide) (L0 := []) rfl (fun b' s hb hw hrd hS => laws_toQuest_ok hx23 hS) (fun v M w73 hΦ hS73 => ?_)
                                clear hS72
                                obtain ⟨rfl, rfl⟩ := hΦ
                                refine EL.then_ ⟨(hS73.a 0 rfl), (hS73.a 1 rfl), trivial⟩ ?_
                                refine DR.two 6 10 (by kernel_rfl) rfl rfl ?_ ?_
                                · skip
                                  refine SL.call hS73 [_, _, _, _] rfl Try.func10 (by kernel_rfl) rfl (by decide) [] (by decide) (L0 := []) rfl (fun b' s hb hw hrd hS => impl_Look_ok hx24 (rdc hrd 6 (by decide) rfl) hS) (fun v M w74 hΦ hS74 => ?_)
                                  clear hS73
                                  obtain ⟨v21, rfl, rfl⟩ := hΦ
                                  refine EL.then_ ⟨(hS74.a 0 rfl), (hS74.a 1 rfl), trivial⟩ ?_
                                  refine DR.q 7 rfl (fun w' => rn_v rfl w') rfl rfl (by decide) (by kernel_rfl) ?_
                                  refine DR.q 8 rfl (fun w' => rn_v rfl w') rfl rfl (by decide) (by kernel_rfl) ?_
                                  refine DR.q 9 rfl (fun w' => rn_v rfl w') rfl rfl (by decide) (by kernel_rfl) ?_
                                  refine DR.one 10 (by kernel_rfl) rfl ?_
                                  refine SL.alloc hS74 i32 (by decide) (fun g19 w75 hS75 => ?_)
                                  clear hS74
                                  refine EL.then_ ⟨(hS75.a 0 rfl), (hS75.a 1 rfl), trivial⟩ ?_
                                  refine DR.one 11 (by kernel_rfl) rfl ?_
                                  refine SL.stb hS75 8 rfl rfl rfl [str x121.1.q.name, vi x121.1.q.ty, vi x121.1.kind, sl v21, vi x121.1.rank, vi x121.1.till] rfl z32 rfl (Nat.le_of_ble_eq_true rfl) #[str x121.1.q.name, vi x121.1.q.ty, vi x121.1.kind, sl v21, vi x121.1.rank, vi x121.1.till] rfl (fun w76 hS76 => ?_)
                                  clear hS75
                                  refine EL.then_ ⟨(hS76.a 0 rfl), (hS76.a 1 rfl), trivial⟩ ?_
                                  refine DR.q 12 rfl (fun w' => rn_v rfl w') rfl rfl (by decide) (by kernel_rfl) ?_
                                  refine DR.done (by kernel_rfl) ?_
                                  cases hf44
                                  refine thenE_n ?_
                                  exact ⟨[(10, ptr (at0 g4) 0), (11, vt x16), (13, ptr (at0 g12) 0), (16, vi x103.1), (18, ptr (at0 g19) 0), (19, vt x121.2)], ⟨rfl, rfl, rfl, rfl, rfl, rfl, trivial⟩, g19, v21, rfl, hS76.sel [2, 3, 4, 5, 8, 7] rfl (by decide)⟩
                                · skip
                                  refine SL.alloc hS73 i32 (by decide) (fun g19 w77 hS77 => ?_)
                                  clear hS73
                                  refine EL.then_ ⟨(hS77.a 0 rfl), (hS77.a 1 rfl), trivial⟩ ?_
                                  refine DR.one 6 (by kernel_rfl) rfl ?_
                                  refine SL.call hS77 [_, _, _, _] rfl Try.func10 (by kernel_rfl) rfl (by decide) [] (by decide) (L0 := []) rfl (fun b' s hb hw hrd hS => impl_Look_ok hx24 (rdc hrd 6 (by decide) rfl) hS) (fun v M w78 hΦ hS78 => ?_)
                                  clear hS77
                                  obtain ⟨v21, rfl, rfl⟩ := hΦ
                                  refine EL.then_ ⟨(hS78.a 0 rfl), (hS78.a 1 rfl), trivial⟩ ?_
                                  refine DR.q 7 rfl (fun w' => rn_v rfl w') rfl rfl (by decide) (by kernel_rfl) ?_
                                  refine DR.q 8 rfl (fun w' => rn_v rfl w') rfl rfl (by decide) (by kernel_rfl) ?_
                                  refine DR.q 9 rfl (fun w' => rn_v rfl w') rfl rfl (by decide) (by kernel_rfl) ?_
                                  refine DR.one 11 (by kernel_rfl) rfl ?_
                                  refine SL.stb hS78 7 rfl rfl rfl [str x121.1.q.name, vi x121.1.q.ty, vi x121.1.kind, sl v21, vi x121.1.rank, vi x121.1.till] rfl z32 rfl (Nat.le_of_ble_eq_true rfl) #[str x121.1.q.name, vi x121.1.q.ty, vi x121.1.kind, sl v21, vi x121.1.rank, vi x121.1.till] rfl (fun w79 hS79 => ?_)
                                  clear hS78
                                  refine EL.then_ ⟨(hS79.a 0 rfl), (hS79.a 1 rfl), trivial⟩ ?_
                                  refine DR.q 12 rfl (fun w' => rn_v rfl w') rfl rfl (by decide) (by kernel_rfl) ?_
                                  refine DR.done (by kernel_rfl) ?_
                                  cases hf44
                                  refine thenE_n ?_
                                  exact ⟨[(10, ptr (at0 g4) 0), (11, vt x16), (13, ptr (at0 g12) 0), (16, vi x103.1), (18, ptr (at0 g19) 0), (19, vt x121.2)], ⟨rfl, rfl, rfl, rfl, rfl, rfl, trivial⟩, g19, v21, rfl, hS79.sel [2, 3, 4, 5, 7, 8] rfl (by decide)⟩
                              · skip
                                refine SL.alloc hS72 i32 (by decide) (fun g19 w80 hS80 => ?_)
                                clear hS72
                                refine EL.then_ ⟨(hS80.a 0 rfl), (hS80.a 1 rfl), trivial⟩ ?_
                                refine DR.one 4 (by kernel_rfl) rfl ?_
                                refine SL.call hS80 [_] rfl Try.func9 (by kernel_rfl) rfl (by decide) [] (by decide) (L0 := []) rfl (fun b' s hb hw hrd hS => laws_toQuest_ok hx23 hS) (fun v M w81 hΦ hS81 => ?_)
                                clear hS80
                                obtain ⟨rfl, rfl⟩ := hΦ
                                refine EL.then_ ⟨(hS81.a 0 rfl), (hS81.a 1 rfl), trivial⟩ ?_
                                refine DR.one 6 (by kernel_rfl) rfl ?_
                                refine SL.call hS81 [_, _, _, _] rfl Try.func10 (by kernel_rfl) rfl (by decide) [] (by decide) (L0 := []) rfl (fun b' s hb hw hrd hS => impl_Look_ok hx24 (rdc hrd 6 (by decide) rfl) hS) (fun v M w82 hΦ hS82 => ?_)
                                clear hS81
                                obtain ⟨v21, rfl, rfl⟩ := hΦ
                                refine EL.then_ ⟨(hS82.a 0 rfl), (hS82.a 1 rfl), trivial⟩ ?_
                                refine DR.q 7 rfl (fun w' => rn_v rfl w') rfl rfl (by decide) (by kernel_rfl) ?_
                                refine DR.q 8 rfl (fun w' => rn_v rfl w') rfl rfl (by decide) (by kernel_rfl) ?_
                                refine DR.q 9 rfl (fun w' => rn_v rfl w') rfl rfl (by decide) (by kernel_rfl) ?_
                                refine DR.one 11 (by kernel_rfl) rfl ?_
                                refine SL.stb hS82 7 rfl rfl rfl [str x121.1.q.name, vi x121.1.q.ty, vi x121.1.kind, sl v21, vi x121.1.rank, vi x121.1.till] rfl z32 rfl (Nat.le_of_ble_eq_true rfl) #[str x121.1.q.name, vi x121.1.q.ty, vi x121.1.kind, sl v21, vi x121.1.rank, vi x121.1.till] rfl (fun w83 hS83 => ?_)
                                clear hS82
                                refine EL.then_ ⟨(hS83.a 0 rfl), (hS83.a 1 rfl), trivial⟩ ?_
                                refine DR.q 12 rfl (fun w' => rn_v rfl w') rfl rfl (by decide) (by kernel_rfl) ?_
                                refine DR.done (by kernel_rfl) ?_
                                cases hf44
                                refine thenE_n ?_
                                exact ⟨[(10, ptr (at0 g4) 0), (11, vt x16), (13, ptr (at0 g12) 0), (16, vi x103.1), (18, ptr (at0 g19) 0), (19, vt x121.2)], ⟨rfl, rfl, rfl, rfl, rfl, rfl, trivial⟩, g19, v21, rfl, hS83.sel [2, 3, 4, 5, 7, 8] rfl (by decide)⟩
                            · skip
                              refine SL.alloc hS71 i32 (by decide) (fun g19 w84 hS84 => ?_)
                              clear hS71
                              refine EL.then_ ⟨(hS84.a 0 rfl), (hS84.a 1 rfl), trivial⟩ ?_
                              refine DR.one 1 (by kernel_rfl) rfl ?_
                              refine SL.call hS84 [_] rfl Try.func8 (by kernel_rfl) rfl (by decide) [] (by decide) (L0 := []) rfl (fun b' s hb hw hrd hS => laws_toCache_ok hx22 (hr1.agr hb) hS) (fun v M w85 hΦ hS85 => ?_)
                              clear hS84
                              obtain ⟨v20, rfl, rfl⟩ := hΦ
                              refine EL.then_ ⟨(hS85.a 0 rfl), (hS85.a 1 rfl), trivial⟩ ?_
                              refine DR.one 4 (by kernel_rfl) rfl ?_
                              refine SL.call hS85 [_] rfl Try.func9 (by kernel_rfl) rfl (by decide) [] (by decide) (L0 := []) rfl (fun b' s hb hw hrd hS => laws_toQuest_ok hx23 hS) (fun v M w86 hΦ hS86 => ?_)
                              clear hS85
                              obtain ⟨rfl, rfl⟩ := hΦ
                              refine EL.then_ ⟨(hS86.a 0 rfl), (hS86.a 1 rfl), trivial⟩ ?_
                              refine DR.one 6 (by kernel_rfl) rfl ?_
                              refine SL.call hS86 [_, _, _, _] rfl Try.func10 (by kernel_rfl) rfl (by decide) [] (by decide) (L0 := []) rfl (fun b' s hb hw hrd hS => impl_Look_ok hx24 (rdc hrd 7 (by decide) rfl) hS) (fun v M w87 hΦ hS87 => ?_)
                              clear hS86
                              obtain ⟨v21, rfl, rfl⟩ := hΦ
                              refine EL.then_ ⟨(hS87.a 0 rfl), (hS87.a 1 rfl), trivial⟩ ?_
                              refine DR.q 7 rfl (fun w' => rn_v rfl w') rfl rfl (by decide) (by kernel_rfl) ?_
                              refine DR.q 8 rfl (fun w' => rn_v rfl w') rfl rfl (by decide) (by kernel_rfl) ?_
                              refine DR.q 9 rfl (fun w' => rn_v rfl w') rfl rfl (by decide) (by kernel_rfl) ?_
                              refine DR.one 11 (by kernel_rfl) rfl ?_
                              refine SL.stb hS87 6 rfl rfl rfl [str x121.1.q.name, vi x121.1.q.ty, vi x121.1.kind, sl v21, vi x121.1.rank, vi x121.1.till] rfl z32 rfl (Nat.le_of_ble_eq_true rfl) #[str x121.1.q.name, vi x121.1.q.ty, vi x121.1.kind, sl v21, vi x121.1.rank, vi x121.1.till] rfl (fun w88 hS88 => ?_)
                              clear hS87
                              refine EL.then_ ⟨(hS88.a 0 rfl), (hS88.a 1 rfl), trivial⟩ ?_
                              refine DR.q 12 rfl (fun w' => rn_v rfl w') rfl rfl (by decide) (by kernel_rfl) ?_
                              refine DR.done (by kernel_rfl) ?_
                              cases hf44
                              refine thenE_n ?_
                              exact ⟨[(10, ptr (at0 g4) 0), (11, vt x16), (13, ptr (at0 g12) 0), (16, vi x103.1), (18, ptr (at0 g19) 0), (19, vt x121.2)], ⟨rfl, rfl, rfl, rfl, rfl, rfl, trivial⟩, g19, v21, rfl, hS88.sel [2, 3, 4, 5, 6, 8] rfl (by decide)⟩
                          · skip
                            rintro e w89 ⟨g18, v19, rfl, hS89⟩
                            refine thenE_n ?_
                            refine EW.seq ?_
                            refine EW.seq ?_
                            obtain ⟨x151, hx25, hf45⟩ := bnd hf41
                            clear hf41
                            refine EW.cut (fun e W => e = [(13, ptr (at0 g12) 0), (16, vi x103.1), (110, vt x151)] ∧ St b w s [.blk g12 32 #[str x56, vi x57, vi x58, sl v12, vi x60, vi x61], .row kRec 66 (sl v12) x103.2.l] W) ?_ ?_
                            · skip
                              refine EW.region ?_
                              refine EL.rn (rn_lds (m := 6) [str x112, vi x113, vi x114, sl v19, vi x116, vi x117] rfl Try.underlying32 (hS89.a 4 rfl) rfl z32) rfl rfl (by decide) ?_
                              refine EL.rn (rn_lds (m := 6) [str x10, vi x11, vi x12, sl v3, vi x14, vi x15] rfl Try.underlying32 (hS89.a 0 rfl) rfl z32) rfl rfl (by decide) ?_
                              obtain ⟨x152, hx26, hf46⟩ := bnd hx25
                              clear hx25
                              refine SL.call hS89 [_, _] rfl Try.func11 (by kernel_rfl) rfl (by decide) [] (by decide) (L0 := []) rfl (fun b' s hb hw hrd hS => laws_eqEntry_ok hx26 (rdc hrd 5 (by decide) rfl) (rdc hrd 1 (by decide) rfl) hS) (fun v M w90 hΦ hS90 => ?_)
                              clear hS89
                              obtain ⟨rfl, rfl⟩ := hΦ
                              iterate 2 refine EL.q rfl rfl rfl (by decide) ?_
                              refine EL.split (t := 106) rfl (fun hc11 => ?_) (fun hc11 => ?_)
                              · skip
                                have hf47 := bifT hc11 hf46
                                clear hf46
                                refine EL.pass rfl rfl (by decide) (by decide) (by decide) ?_
                                refine EL.pass rfl rfl (by decide) (by decide) (by decide) ?_
                                refine EL.pass rfl rfl (by decide) (by decide) (by decide) ?_
                                refine EL.rn (rn_pickT rfl rfl _) rfl rfl (by decide) ?_
                                refine EL.nil ?_
                                cases hf47
                                refine thenE_n ?_
                                exact ⟨[(13, ptr (at0 g12) 0), (16, vi x103.1), (110, vt true)], ⟨rfl, rfl, rfl, trivial⟩, rfl, hS90.sel [2, 3] rfl (by decide)⟩
                              · skip
                                have hf48 := bifF hc11 hf46
                                clear hf46
                                refine EL.ungate rfl rfl (by decide) ?_
                                refine EL.q rfl rfl rfl (by decide) ?_
                                refine EL.ungate rfl rfl (by decide) ?_
                                refine EL.q rfl rfl rfl (by decide) ?_
                                refine EL.ungate rfl rfl (by decide) ?_
                                refine EL.rn (rn_bne rfl rfl Try.underlying4 _) rfl rfl (by decide) ?_
                                refine EL.rn (rn_pickF rfl rfl _) rfl rfl (by decide) ?_
                                refine EL.nil ?_
                                cases hf48
                                refine thenE_n ?_
                                exact ⟨[(13, ptr (at0 g12) 0), (16, vi x103.1), (110, vt (!(x118 == x16)))], ⟨rfl, rfl, rfl, trivial⟩, rfl, hS90.sel [2, 3] rfl (by decide)⟩
                            · skip
                              rintro e w91 ⟨rfl, hS91⟩
                              refine thenE_n ?_
                              refine EW.cond rfl (fun hc12 => ?_) (fun hc12 => ?_)
                              · skip
                                have hf49 := bifT hc12 hf45
                                clear hf45
                                refine EW.seq ?_
                                refine EW.region ?_
                                refine EL.q rfl rfl rfl (by decide) ?_
                                refine EL.nil ?_
                                refine thenE_n ?_
                                refine EW.ret ?_
                                repeat (first | refine thenE_r ?_ | refine inB_r ?_)
                                obtain rfl := Option.some.inj hf49
                                exact ⟨_, res rfl, _, _, rfl, ⟨rfl, rfl⟩, hS91.sel [] rfl (by decide)⟩
                              · skip
                                have hf50 := bifF hc12 hf45
                                clear hf45
                                refine EW.skip ?_
                                refine thenE_n ?_
                                refine EW.seq ?_
                                refine EW.region ?_
                                refine EL.q rfl rfl rfl (by decide) ?_
                                refine EL.nil ?_
                                refine thenE_n ?_
                                refine EW.seq ?_
                                refine EW.region ?_
                                refine EL.rn (rn_lds (m := 6) [str x56, vi x57, vi x58, sl v12, vi x60, vi x61] rfl Try.underlying32 (hS91.a 0 rfl) rfl z32) rfl rfl (by decide) ?_
                                refine EL.q rfl rfl rfl (by decide) ?_
                                obtain ⟨x155, hx27, hf51⟩ := bnd hf50
                                clear hf50
                                refine SL.call hS91 [_, _] rfl Try.func15 (by kernel_rfl) rfl (by decide) [] (by decide) (L0 := []) rfl (fun b' s hb hw hrd hS => laws_heldEntry_ok hx27 (rdc hrd 1 (by decide) rfl) hS) (fun v M w92 hΦ hS92 => ?_)
                                clear hS91
                                obtain ⟨rfl, rfl⟩ := hΦ
                                refine EL.q rfl rfl rfl (by decide) ?_
                                refine EL.nil ?_
                                refine thenE_n ?_
                                refine EW.seq ?_
                                refine EW.seq ?_
                                refine EW.region ?_
                                iterate 2 refine EL.q rfl rfl rfl (by decide) ?_
                                refine EL.nil ?_
                                refine thenE_n ?_
                                refine EW.cond rfl (fun hc13 => ?_) (fun hc13 => ?_)
                                · skip
                                  have hf52 := bifT hc13 hf51
                                  clear hf51
                                  refine EW.seq ?_
                                  refine EW.region ?_
                                  refine EL.q rfl rfl rfl (by decide) ?_
                                  refine EL.nil ?_
                                  refine thenE_n ?_
                                  refine EW.ret ?_
                                  repeat (first | refine thenE_r ?_ | refine inB_r ?_)
                                  obtain rfl := Option.some.inj hf52
                                  exact ⟨_, res rfl, _, _, rfl, ⟨rfl, rfl⟩, hS92.sel [] rfl (by decide)⟩
                                · skip
                                  have hf53 := bifF hc13 hf51
                                  clear hf51
                                  refine EW.skip ?_
                                  refine thenE_n ?_
                                  refine EW.seq ?_
                                  refine EW.seq ?_
                                  refine EW.region ?_
                                  iterate 3 refine EL.q rfl rfl rfl (by decide) ?_
                                  refine EL.nil ?_
                                  refine thenE_n ?_
                                  refine EW.cond rfl (fun hc14 => ?_) (fun hc14 => ?_)
                                  · skip
                                    have hf54 := bifT hc14 hf53
                                    clear hf53
                                    refine EW.seq ?_
                                    refine EW.region ?_
                                    refine EL.q rfl rfl rfl (by decide) ?_
                                    refine EL.nil ?_
                                    refine thenE_n ?_
                                    refine EW.ret ?_
                                    repeat (first | refine thenE_r ?_ | refine inB_r ?_)
                                    obtain rfl := Option.some.inj hf54
                                    exact ⟨_, res rfl, _, _, rfl, ⟨rfl, rfl⟩, hS92.sel [] rfl (by decide)⟩
                                  · skip
                                    have hf55 := bifF hc14 hf53
                                    clear hf53
                                    refine EW.skip ?_
                                    refine thenE_n ?_
                                    refine EW.seq ?_
                                    refine EW.region ?_
                                    refine EL.q rfl rfl rfl (by decide) ?_
                                    refine EL.nil ?_
                                    refine thenE_n ?_
                                    refine EW.ret ?_
                                    repeat (first | refine thenE_r ?_ | refine inB_r ?_)
                                    obtain rfl := Option.some.inj hf55
                                    exact ⟨_, res rfl, _, _, rfl, ⟨rfl, rfl⟩, hS92.sel [] rfl (by decide)⟩
end Go.Proofs.Ytcolndejambcmaa.Ew
