/- The lifts: what is shown of a shallow text holds of the call. By a program (gen.py). No condition. -/
import Derived.Test.YthepabefikobpaaShal
namespace Go.Proofs.Ythepabefikobpaa
open Go Go.Sh
namespace L
set_option maxHeartbeats 1000000 in
set_option maxRecDepth 20000 in
theorem law25_HopcroftBlocks {p0 : Dfv} {w : World} {R : Bool → World → Prop} (h : S.law25_HopcroftBlocks p0 w R) : Calls Try.prog 3 [(.agg (Dfv.cs p0).toArray)].toArray w (Ret Value.bool R) := by
  refine calls_of Try.func3 rfl rfl rfl (by kernel_rfl) rfl ?_
  unfold S.law25_HopcroftBlocks at h
  refine Dw.seq (Dw.region ?_)
  refine Dl.n (N.box rfl h rfl rfl fun b1 _ h => ?_)
  refine Dl.q (Y.asg (v := (Value.bool false)) rfl rfl) (Dl.nil (Th.m (Dw.seq (Dw.region ?_))))
  obtain ⟨v2, hcv2, h⟩ := h
  refine Dl.q (Y.ldA rfl Try.isAgg27 Try.sizeOf27 (Dfv_len _) rfl hcv2) ?_
  refine Dl.n (N.call rfl Try.call6 rfl h ?_)
  intro r3 w h
  refine Dl.q (Y.mv (v := (.tuple #[(.agg (Dfv.cs r3.1).toArray), (vI r3.2)])) rfl rfl) (Dl.q (Y.ext rfl rfl rfl) (Dl.q (Y.ext rfl rfl rfl) ?_))
  refine Dl.n (N.new rfl Try.zeroValue27 h (by kernel_rfl) fun b4 _ h => ?_)
  refine Dl.n (N.stA rfl Try.sizeOf27 h rfl rfl (Dfv_len _) (Dfv_one _) fun h => ?_)
  generalize setCells _ _ _ _ = w at h ⊢
  refine Dl.q (Y.asg (v := (vI r3.2)) rfl rfl) (Dl.nil (Th.m (Dw.seq (Dw.seq (Dw.region ?_)))))
  obtain ⟨v5, hcv5, h⟩ := h
  refine Dl.q (Y.ldA rfl Try.isAgg27 Try.sizeOf27 (Dfv_len _) rfl hcv5) ?_
  refine Dl.n (N.call rfl Try.call7 rfl h ?_)
  intro r6 w h
  refine Dl.q (Y.not rfl rfl) (Dl.nil (Th.m ?_))
  refine Dw.cond rfl (fun hb43 => ?_) (fun hb43 => ?_)
  · replace h := M.iteT h hb43
    refine Dw.seq (Dw.region ?_)
    obtain ⟨v7, hcv7, h⟩ := h
    refine Dl.q (Y.ldA rfl Try.isAgg27 Try.sizeOf27 (Dfv_len _) rfl hcv7) ?_
    refine Dl.n (N.call rfl Try.call8 rfl h ?_)
    intro r8 w h
    refine Dl.q (Y.len rfl Try.runUnderlying24 rfl) (Dl.q (Y.eqI rfl rfl rfl) (Dl.q (Y.mv (v := (Value.bool (decide ((r8.len : Int) = 0)))) rfl rfl) ?_))
    refine M.split h (fun hb9 h => ?_) (fun hb9 h => ?_)
    · obtain ⟨v10, hcv10, h⟩ := h
      refine Dl.q (Y.ldA (wantG rfl rfl hb9) Try.isAgg27 Try.sizeOf27 (Dfv_len _) rfl hcv10) ?_
      refine Dl.n (N.call (wantG rfl rfl hb9) Try.call9 rfl h ?_)
      intro r11 w h
      refine Dl.q (Y.eqI (wantG rfl rfl hb9) rfl rfl) (Dl.q (Y.pickT (v := (Value.bool (decide (r11 = (-1))))) rfl rfl hb9 rfl) (Dl.q (Y.mv (v := (Value.bool (decide (r11 = (-1))))) rfl rfl) ?_))
      refine M.split h (fun hb12 h => ?_) (fun hb12 h => ?_)
      · refine Dl.q (Y.mv (v := (vI r3.2)) (wantG rfl rfl hb12) rfl) (Dl.q (Y.eqI (wantG rfl rfl hb12) rfl rfl) (Dl.q (Y.pickT (v := (Value.bool (decide (r3.2 = 6)))) rfl rfl hb12 rfl) (Dl.q (Y.mv (v := (Value.bool (decide (r3.2 = 6)))) rfl rfl) ?_)))
        refine M.split h (fun hb13 h => ?_) (fun hb13 h => ?_)
        · refine Dl.q (Y.fa 258 (wantG rfl rfl hb13) Try.runUnderlying27 rfl Try.sizeOf24 (by decide) rfl rfl) ?_
          obtain ⟨x14, hcx14, h⟩ := h
          refine Dl.q (Y.ld (wantG rfl rfl hb13) Try.isAgg24 rfl hcx14) (Dl.q (Y.len (wantG rfl rfl hb13) Try.runUnderlying24 rfl) (Dl.q (Y.eqI (wantG rfl rfl hb13) rfl rfl) (Dl.q (Y.pickT (v := (Value.bool (decide ((x14.len : Int) = 0)))) rfl rfl hb13 rfl) (Dl.q (Y.mv (v := (Value.bool (decide ((x14.len : Int) = 0)))) rfl rfl) ?_))))
          refine M.split h (fun hb15 h => ?_) (fun hb15 h => ?_)
          · refine Dl.n (N.call (wantG rfl rfl hb15) Try.call10 rfl h ?_)
            intro r16 w h
            refine Dl.q (Y.pickT (v := (Value.bool r16)) rfl rfl hb15 rfl) (Dl.q (Y.asg (v := (Value.bool r16)) rfl rfl) (Dl.nil (Th.m (Dw.ret (Th.r ?_)))))
            exact fin1 rfl ⟨_, rfl, h⟩
          · refine Dl.q (Y.skip (unwantG rfl rfl hb15)) (Dl.q (Y.pickF (v := (Value.bool false)) rfl rfl hb15 rfl) (Dl.q (Y.asg (v := (Value.bool false)) rfl rfl) (Dl.nil (Th.m (Dw.ret (Th.r ?_))))))
            exact fin1 rfl ⟨_, rfl, h⟩
        · refine Dl.q (Y.skip (unwantG rfl rfl hb13)) (Dl.q (Y.skip (unwantG rfl rfl hb13)) (Dl.q (Y.skip (unwantG rfl rfl hb13)) (Dl.q (Y.skip (unwantG rfl rfl hb13)) (Dl.q (Y.pickF (v := (Value.bool false)) rfl rfl hb13 rfl) (Dl.q (Y.mv (v := (Value.bool false)) rfl rfl) (Dl.q (Y.skip (unwantG rfl rfl rfl)) (Dl.q (Y.pickF (v := (Value.bool false)) rfl rfl rfl rfl) (Dl.q (Y.asg (v := (Value.bool false)) rfl rfl) (Dl.nil (Th.m (Dw.ret (Th.r ?_))))))))))))
          exact fin1 rfl ⟨_, rfl, h⟩
      · refine Dl.q (Y.skip (unwantG rfl rfl hb12)) (Dl.q (Y.skip (unwantG rfl rfl hb12)) (Dl.q (Y.pickF (v := (Value.bool false)) rfl rfl hb12 rfl) (Dl.q (Y.mv (v := (Value.bool false)) rfl rfl) (Dl.q (Y.skip (unwantG rfl rfl rfl)) (Dl.q (Y.skip (unwantG rfl rfl rfl)) (Dl.q (Y.skip (unwantG rfl rfl rfl)) (Dl.q (Y.skip (unwantG rfl rfl rfl)) (Dl.q (Y.pickF (v := (Value.bool false)) rfl rfl rfl rfl) (Dl.q (Y.mv (v := (Value.bool false)) rfl rfl) (Dl.q (Y.skip (unwantG rfl rfl rfl)) (Dl.q (Y.pickF (v := (Value.bool false)) rfl rfl rfl rfl) (Dl.q (Y.asg (v := (Value.bool false)) rfl rfl) ?_))))))))))))
        refine Dl.nil (Th.m (Dw.ret (Th.r ?_)))
        exact fin1 rfl ⟨_, rfl, h⟩
    · refine Dl.q (Y.skip (unwantG rfl rfl hb9)) (Dl.q (Y.skip (unwantG rfl rfl hb9)) (Dl.q (Y.skip (unwantG rfl rfl hb9)) (Dl.q (Y.pickF (v := (Value.bool false)) rfl rfl hb9 rfl) (Dl.q (Y.mv (v := (Value.bool false)) rfl rfl) (Dl.q (Y.skip (unwantG rfl rfl rfl)) (Dl.q (Y.skip (unwantG rfl rfl rfl)) (Dl.q (Y.pickF (v := (Value.bool false)) rfl rfl rfl rfl) (Dl.q (Y.mv (v := (Value.bool false)) rfl rfl) (Dl.q (Y.skip (unwantG rfl rfl rfl)) (Dl.q (Y.skip (unwantG rfl rfl rfl)) (Dl.q (Y.skip (unwantG rfl rfl rfl)) (Dl.q (Y.skip (unwantG rfl rfl rfl)) ?_))))))))))))
      refine Dl.q (Y.pickF (v := (Value.bool false)) rfl rfl rfl rfl) (Dl.q (Y.mv (v := (Value.bool false)) rfl rfl) (Dl.q (Y.skip (unwantG rfl rfl rfl)) (Dl.q (Y.pickF (v := (Value.bool false)) rfl rfl rfl rfl) (Dl.q (Y.asg (v := (Value.bool false)) rfl rfl) (Dl.nil (Th.m (Dw.ret (Th.r ?_))))))))
      exact fin1 rfl ⟨_, rfl, h⟩
  · replace h := M.iteF h hb43
    refine Dw.skip (Th.m (Dw.seq (Dw.seq (Dw.region ?_))))
    obtain ⟨v17, hcv17, h⟩ := h
    refine Dl.q (Y.ldA rfl Try.isAgg27 Try.sizeOf27 (Dfv_len _) rfl hcv17) ?_
    refine Dl.n (N.call rfl Try.call11 rfl h ?_)
    intro r18 w h
    refine Dl.q (Y.not rfl rfl) (Dl.nil (Th.m ?_))
    refine Dw.cond rfl (fun hb42 => ?_) (fun hb42 => ?_)
    · replace h := M.iteT h hb42
      refine Dw.seq (Dw.region ?_)
      refine Dl.n (N.call rfl Try.call10 rfl h ?_)
      intro r19 w h
      refine Dl.q (Y.asg (v := (Value.bool r19)) rfl rfl) (Dl.nil (Th.m (Dw.ret (Th.r ?_))))
      exact fin1 rfl ⟨_, rfl, h⟩
    · replace h := M.iteF h hb42
      refine Dw.skip (Th.m (Dw.seq (Dw.region ?_)))
      obtain ⟨v20, hcv20, h⟩ := h
      refine Dl.q (Y.ldA rfl Try.isAgg27 Try.sizeOf27 (Dfv_len _) rfl hcv20) ?_
      refine Dl.n (N.call rfl Try.call12 rfl h ?_)
      intro r21 w h
      refine Dl.q (Y.mv (v := (.tuple #[(.agg (Dfv.cs r21.1).toArray), (vI r21.2)])) rfl rfl) (Dl.q (Y.ext rfl rfl rfl) (Dl.q (Y.ext rfl rfl rfl) ?_))
      refine Dl.n (N.new rfl Try.zeroValue27 h (by kernel_rfl) fun b22 _ h => ?_)
      refine Dl.n (N.stA rfl Try.sizeOf27 h rfl rfl (Dfv_len _) (Dfv_one _) fun h => ?_)
      generalize setCells _ _ _ _ = w at h ⊢
      refine Dl.q (Y.asg (v := (vI r21.2)) rfl rfl) (Dl.nil (Th.m (Dw.seq (Dw.game (by kernel_rfl) ?_))))
      replace h := M.drew_un h
      generalize World.drew _ = w at h ⊢
      obtain ⟨v23, hcv23, h⟩ := h
      refine Gm.quiet 0 rfl (by kernel_rfl) (fun _ hw => Y.ldA rfl Try.isAgg27 Try.sizeOf27 (Dfv_len _) rfl hw) hcv23 ?_
      obtain ⟨v24, hcv24, h⟩ := h
      refine Gm.quiet 2 rfl (by kernel_rfl) (fun _ hw => Y.ldA rfl Try.isAgg27 Try.sizeOf27 (Dfv_len _) rfl hw) hcv24 (Gm.one' 1 rfl (by kernel_rfl) (.keep (by kernel_rfl) (.drop (by kernel_rfl) .nil)) (N.call rfl Try.call8 rfl h ?_))
      intro r25 w h
      obtain ⟨hp26, h⟩ := h
      refine ⟨(pdC hp26 pdN), ?_⟩
      refine Gm.one' 3 rfl (by kernel_rfl) (.drop (by kernel_rfl) .nil) (N.call rfl Try.call14 rfl h ?_)
      intro r27 w h
      refine ⟨pdN, ?_⟩
      refine Gm.one' 4 rfl (by kernel_rfl) .nil (N.call rfl Try.call13 rfl h ?_)
      intro r28 w h
      refine ⟨pdN, ?_⟩
      refine Gm.pure 5 rfl (by kernel_rfl) (fun _ => Y.mv (v := (Value.bool r28)) rfl rfl) ?_
      refine M.split h (fun hb29 h => ?_) (fun hb29 h => ?_)
      · obtain ⟨v30, hcv30, h⟩ := h
        refine Gm.quiet 6 rfl (by kernel_rfl) (fun _ hw => Y.ldA (wantG rfl rfl hb29) Try.isAgg27 Try.sizeOf27 (Dfv_len _) rfl hw) hcv30 ?_
        obtain ⟨v31, hcv31, h⟩ := h
        refine Gm.quiet 8 rfl (by kernel_rfl) (fun _ hw => Y.ldA (wantG rfl rfl hb29) Try.isAgg27 Try.sizeOf27 (Dfv_len _) rfl hw) hcv31 (Gm.one' 7 rfl (by kernel_rfl) (.keep (by kernel_rfl) (.drop (by kernel_rfl) .nil)) (N.call (wantG rfl rfl hb29) Try.call9 rfl h ?_))
        intro r32 w h
        obtain ⟨hp33, h⟩ := h
        refine ⟨(pdC hp33 pdN), ?_⟩
        refine Gm.one' 9 rfl (by kernel_rfl) (.drop (by kernel_rfl) .nil) (N.call (wantG rfl rfl hb29) Try.call15 rfl h ?_)
        intro r34 w h
        refine ⟨pdN, ?_⟩
        refine Gm.pure 10 rfl (by kernel_rfl) (fun _ => Y.eqI (wantG rfl rfl hb29) rfl rfl) (Gm.pure 11 rfl (by kernel_rfl) (fun _ => Y.pickT (v := (Value.bool (decide (r32 = r34)))) rfl rfl hb29 rfl) (Gm.pure 12 rfl (by kernel_rfl) (fun _ => Y.mv (v := (Value.bool (decide (r32 = r34)))) rfl rfl) ?_))
        refine M.split h (fun hb35 h => ?_) (fun hb35 h => ?_)
        · refine Gm.pure 13 rfl (by kernel_rfl) (fun _ => Y.mv (v := (vI r3.2)) (wantG rfl rfl hb35) rfl) (Gm.pure 14 rfl (by kernel_rfl) (fun _ => Y.mv (v := (vI r21.2)) (wantG rfl rfl hb35) rfl) (Gm.pure 15 rfl (by kernel_rfl) (fun _ => Y.eqI (wantG rfl rfl hb35) rfl rfl) (Gm.pure 16 rfl (by kernel_rfl) (fun _ => Y.pickT (v := (Value.bool (decide (r3.2 = r21.2)))) rfl rfl hb35 rfl) (Gm.pure 17 rfl (by kernel_rfl) (fun _ => Y.mv (v := (Value.bool (decide (r3.2 = r21.2)))) rfl rfl) ?_))))
          refine M.split h (fun hb36 h => ?_) (fun hb36 h => ?_)
          · obtain ⟨v37, hcv37, h⟩ := h
            refine Gm.quiet 18 rfl (by kernel_rfl) (fun _ hw => Y.ldA (wantG rfl rfl hb36) Try.isAgg27 Try.sizeOf27 (Dfv_len _) rfl hw) hcv37 ?_
            obtain ⟨v38, hcv38, h⟩ := h
            refine Gm.quiet 19 rfl (by kernel_rfl) (fun _ hw => Y.ldA (wantG rfl rfl hb36) Try.isAgg27 Try.sizeOf27 (Dfv_len _) rfl hw) hcv38 (Gm.one' 20 rfl (by kernel_rfl) (.drop (by kernel_rfl) (.drop (by kernel_rfl) .nil)) (N.call (wantG rfl rfl hb36) Try.call16 rfl h ?_))
            intro r39 w h
            refine ⟨pdN, ?_⟩
            refine Gm.pure 21 rfl (by kernel_rfl) (fun _ => Y.pickT (v := (Value.bool r39)) rfl rfl hb36 rfl) (Gm.pure 22 rfl (by kernel_rfl) (fun _ => Y.mv (v := (Value.bool r39)) rfl rfl) ?_)
            refine M.split h (fun hb40 h => ?_) (fun hb40 h => ?_)
            · refine Gm.one' 23 rfl (by kernel_rfl) .nil (N.call (wantG rfl rfl hb40) Try.call10 rfl h ?_)
              intro r41 w h
              refine ⟨pdN, ?_⟩
              refine Gm.pure 24 rfl (by kernel_rfl) (fun _ => Y.pickT (v := (Value.bool r41)) rfl rfl hb40 rfl) (Gm.pure 25 rfl (by kernel_rfl) (fun _ => Y.asg (v := (Value.bool r41)) rfl rfl) (Gm.end (by kernel_rfl) (Th.m (Dw.ret ?_))))
              exact fin1 rfl ⟨_, rfl, h⟩
            · refine Gm.pure 23 rfl (by kernel_rfl) (fun _ => Y.skip (unwantG rfl rfl hb40)) (Gm.pure 24 rfl (by kernel_rfl) (fun _ => Y.pickF (v := (Value.bool false)) rfl rfl hb40 rfl) (Gm.pure 25 rfl (by kernel_rfl) (fun _ => Y.asg (v := (Value.bool false)) rfl rfl) (Gm.end (by kernel_rfl) (Th.m (Dw.ret ?_)))))
              exact fin1 rfl ⟨_, rfl, h⟩
          · refine Gm.pure 18 rfl (by kernel_rfl) (fun _ => Y.skip (unwantG rfl rfl hb36)) (Gm.pure 19 rfl (by kernel_rfl) (fun _ => Y.skip (unwantG rfl rfl hb36)) (Gm.pure 20 rfl (by kernel_rfl) (fun _ => Y.skip (unwantG rfl rfl hb36)) (Gm.pure 21 rfl (by kernel_rfl) (fun _ => Y.pickF (v := (Value.bool false)) rfl rfl hb36 rfl) (Gm.pure 22 rfl (by kernel_rfl) (fun _ => Y.mv (v := (Value.bool false)) rfl rfl) (Gm.pure 23 rfl (by kernel_rfl) (fun _ => Y.skip (unwantG rfl rfl rfl)) (Gm.pure 24 rfl (by kernel_rfl) (fun _ => Y.pickF (v := (Value.bool false)) rfl rfl rfl rfl) (Gm.pure 25 rfl (by kernel_rfl) (fun _ => Y.asg (v := (Value.bool false)) rfl rfl) (Gm.end (by kernel_rfl) (Th.m (Dw.ret ?_))))))))))
            exact fin1 rfl ⟨_, rfl, h⟩
        · refine Gm.pure 13 rfl (by kernel_rfl) (fun _ => Y.skip (unwantG rfl rfl hb35)) (Gm.pure 14 rfl (by kernel_rfl) (fun _ => Y.skip (unwantG rfl rfl hb35)) (Gm.pure 15 rfl (by kernel_rfl) (fun _ => Y.skip (unwantG rfl rfl hb35)) (Gm.pure 16 rfl (by kernel_rfl) (fun _ => Y.pickF (v := (Value.bool false)) rfl rfl hb35 rfl) (Gm.pure 17 rfl (by kernel_rfl) (fun _ => Y.mv (v := (Value.bool false)) rfl rfl) (Gm.pure 18 rfl (by kernel_rfl) (fun _ => Y.skip (unwantG rfl rfl rfl)) (Gm.pure 19 rfl (by kernel_rfl) (fun _ => Y.skip (unwantG rfl rfl rfl)) (Gm.pure 20 rfl (by kernel_rfl) (fun _ => Y.skip (unwantG rfl rfl rfl)) (Gm.pure 21 rfl (by kernel_rfl) (fun _ => Y.pickF (v := (Value.bool false)) rfl rfl rfl rfl) (Gm.pure 22 rfl (by kernel_rfl) (fun _ => Y.mv (v := (Value.bool false)) rfl rfl) (Gm.pure 23 rfl (by kernel_rfl) (fun _ => Y.skip (unwantG rfl rfl rfl)) (Gm.pure 24 rfl (by kernel_rfl) (fun _ => Y.pickF (v := (Value.bool false)) rfl rfl rfl rfl) (Gm.pure 25 rfl (by kernel_rfl) (fun _ => Y.asg (v := (Value.bool false)) rfl rfl) ?_))))))))))))
          refine Gm.end (by kernel_rfl) (Th.m (Dw.ret ?_))
          exact fin1 rfl ⟨_, rfl, h⟩
      · refine Gm.pure 6 rfl (by kernel_rfl) (fun _ => Y.skip (unwantG rfl rfl hb29)) (Gm.pure 7 rfl (by kernel_rfl) (fun _ => Y.skip (unwantG rfl rfl hb29)) (Gm.pure 8 rfl (by kernel_rfl) (fun _ => Y.skip (unwantG rfl rfl hb29)) (Gm.pure 9 rfl (by kernel_rfl) (fun _ => Y.skip (unwantG rfl rfl hb29)) (Gm.pure 10 rfl (by kernel_rfl) (fun _ => Y.skip (unwantG rfl rfl hb29)) (Gm.pure 11 rfl (by kernel_rfl) (fun _ => Y.pickF (v := (Value.bool false)) rfl rfl hb29 rfl) (Gm.pure 12 rfl (by kernel_rfl) (fun _ => Y.mv (v := (Value.bool false)) rfl rfl) (Gm.pure 13 rfl (by kernel_rfl) (fun _ => Y.skip (unwantG rfl rfl rfl)) (Gm.pure 14 rfl (by kernel_rfl) (fun _ => Y.skip (unwantG rfl rfl rfl)) (Gm.pure 15 rfl (by kernel_rfl) (fun _ => Y.skip (unwantG rfl rfl rfl)) (Gm.pure 16 rfl (by kernel_rfl) (fun _ => Y.pickF (v := (Value.bool false)) rfl rfl rfl rfl) (Gm.pure 17 rfl (by kernel_rfl) (fun _ => Y.mv (v := (Value.bool false)) rfl rfl) (Gm.pure 18 rfl (by kernel_rfl) (fun _ => Y.skip (unwantG rfl rfl rfl)) ?_))))))))))))
        refine Gm.pure 19 rfl (by kernel_rfl) (fun _ => Y.skip (unwantG rfl rfl rfl)) (Gm.pure 20 rfl (by kernel_rfl) (fun _ => Y.skip (unwantG rfl rfl rfl)) (Gm.pure 21 rfl (by kernel_rfl) (fun _ => Y.pickF (v := (Value.bool false)) rfl rfl rfl rfl) (Gm.pure 22 rfl (by kernel_rfl) (fun _ => Y.mv (v := (Value.bool false)) rfl rfl) (Gm.pure 23 rfl (by kernel_rfl) (fun _ => Y.skip (unwantG rfl rfl rfl)) (Gm.pure 24 rfl (by kernel_rfl) (fun _ => Y.pickF (v := (Value.bool false)) rfl rfl rfl rfl) (Gm.pure 25 rfl (by kernel_rfl) (fun _ => Y.asg (v := (Value.bool false)) rfl rfl) (Gm.end (by kernel_rfl) (Th.m (Dw.ret ?_)))))))))
        exact fin1 rfl ⟨_, rfl, h⟩
end L
end Go.Proofs.Ythepabefikobpaa
