/- The lifts: what is shown of a shallow text holds of the call. By a program (gen.py). No condition. -/
import Derived.Test.YthepabefikobpaaShal
namespace Go.Proofs.Ythepabefikobpaa
open Go Go.Sh
namespace L
set_option maxHeartbeats 1000000 in
set_option maxRecDepth 20000 in
theorem law25_HopcroftSmall {p0 : Dfv} {p1 : Sl} {p2 : Sl} {w : World} {R : Bool → World → Prop} (h : S.law25_HopcroftSmall p0 p1 p2 w R) : Calls Try.prog 5 [(.agg (Dfv.cs p0).toArray), (Sl.val p1), (Sl.val p2)].toArray w (Ret Value.bool R) := by
  refine calls_of Try.func5 rfl rfl rfl (by kernel_rfl) rfl ?_
  unfold S.law25_HopcroftSmall at h
  refine Dw.seq (Dw.region ?_)
  refine Dl.n (N.box rfl h rfl rfl fun b1 _ h => ?_)
  refine Dl.q (Y.asg (v := (Value.bool false)) rfl rfl) (Dl.nil (Th.m (Dw.seq ?_)))
  refine Dw.joinM (fun s j r => upd (mask r j 1069547520) 29 (Value.bool s)) h (fun C h => ?_) (fun q6 j w h => ?_)
  · refine Dw.region ?_
    obtain ⟨v3, hcv3, h⟩ := h
    refine Dl.q (Y.ldA rfl Try.isAgg27 Try.sizeOf27 (Dfv_len _) rfl hcv3) ?_
    refine Dl.n (N.call rfl Try.call11 rfl h ?_)
    intro r4 w h
    refine Dl.q (Y.not rfl rfl) (Dl.q (Y.mv (v := (Value.bool (!r4))) rfl rfl) ?_)
    refine M.split h (fun hb5 h => ?_) (fun hb5 h => ?_)
    · refine Dl.q (Y.skip (unwantG rfl rfl hb5)) (Dl.q (Y.skip (unwantG rfl rfl hb5)) (Dl.q (Y.skip (unwantG rfl rfl hb5)) (Dl.q (Y.pickT (v := (Value.bool true)) rfl rfl hb5 rfl) (Dl.nil ?_))))
      exact Th.m ⟨_, h, _, eqUpd rfl (eqMask (by repeat' (first | exact Off.refl _ _ | refine Off.u rfl ?_ | refine Off.m rfl ?_)))⟩
    · refine Dl.q (Y.mv (v := (Sl.val p2)) (wantG rfl rfl hb5) rfl) (Dl.q (Y.len (wantG rfl rfl hb5) Try.runUnderlying38 rfl) (Dl.q (Y.gtr (wantG rfl rfl hb5) rfl rfl) (Dl.q (Y.pickF (v := (Value.bool (decide (60 < (p2.len : Int))))) rfl rfl hb5 rfl) (Dl.nil ?_))))
      exact Th.m ⟨_, h, _, eqUpd rfl (eqMask (by repeat' (first | exact Off.refl _ _ | refine Off.u rfl ?_ | refine Off.m rfl ?_)))⟩
  · refine Dw.cond rfl (fun hb120 => ?_) (fun hb120 => ?_)
    · replace h := M.iteT h hb120
      refine Dw.seq (Dw.region ?_)
      refine Dl.n (N.call rfl Try.call10 rfl h ?_)
      intro r7 w h
      refine Dl.q (Y.asg (v := (Value.bool r7)) rfl rfl) (Dl.nil (Th.m (Dw.ret (Th.r ?_))))
      exact fin1 rfl ⟨_, rfl, h⟩
    · replace h := M.iteF h hb120
      refine Dw.skip (Th.m (Dw.seq (Dw.region ?_)))
      obtain ⟨v8, hcv8, h⟩ := h
      refine Dl.q (Y.ldA rfl Try.isAgg27 Try.sizeOf27 (Dfv_len _) rfl hcv8) ?_
      refine Dl.n (N.call rfl Try.call6 rfl h ?_)
      intro r9 w h
      refine Dl.q (Y.mv (v := (.tuple #[(.agg (Dfv.cs r9.1).toArray), (vI r9.2)])) rfl rfl) (Dl.q (Y.ext rfl rfl rfl) (Dl.q (Y.ext rfl rfl rfl) ?_))
      refine Dl.n (N.new rfl Try.zeroValue27 h (by kernel_rfl) fun b10 _ h => ?_)
      refine Dl.n (N.stA rfl Try.sizeOf27 h rfl rfl (Dfv_len _) (Dfv_one _) fun h => ?_)
      generalize setCells _ _ _ _ = w at h ⊢
      refine Dl.q (Y.asg (v := (vI r9.2)) rfl rfl) (Dl.nil (Th.m (Dw.seq (Dw.region ?_))))
      obtain ⟨v11, hcv11, h⟩ := h
      refine Dl.q (Y.ldA rfl Try.isAgg27 Try.sizeOf27 (Dfv_len _) rfl hcv11) ?_
      refine Dl.n (N.call rfl Try.call6 rfl h ?_)
      intro r12 w h
      refine Dl.q (Y.mv (v := (.tuple #[(.agg (Dfv.cs r12.1).toArray), (vI r12.2)])) rfl rfl) (Dl.q (Y.ext rfl rfl rfl) (Dl.q (Y.ext rfl rfl rfl) ?_))
      refine Dl.n (N.new rfl Try.zeroValue27 h (by kernel_rfl) fun b13 _ h => ?_)
      refine Dl.n (N.stA rfl Try.sizeOf27 h rfl rfl (Dfv_len _) (Dfv_one _) fun h => ?_)
      generalize setCells _ _ _ _ = w at h ⊢
      refine Dl.q (Y.asg (v := (vI r12.2)) rfl rfl) (Dl.nil (Th.m (Dw.seq ?_)))
      refine Dw.joinM (fun s j r => upd (mask r j 75557863723715300163584) 75 (Value.bool s)) h (fun C h => ?_) (fun q34 j w h => ?_)
      · refine Dw.game (by kernel_rfl) ?_
        replace h := M.drew_un h
        generalize World.drew _ = w at h ⊢
        refine Gm.pure 0 rfl (by kernel_rfl) (fun _ => Y.mv (v := (vI r9.2)) rfl rfl) (Gm.pure 1 rfl (by kernel_rfl) (fun _ => Y.neI rfl rfl rfl) (Gm.pure 2 rfl (by kernel_rfl) (fun _ => Y.mv (v := (Value.bool (!decide (r9.2 = 0)))) rfl rfl) ?_))
        refine M.split h (fun hb15 h => ?_) (fun hb15 h => ?_)
        · refine Gm.pure 3 rfl (by kernel_rfl) (fun _ => Y.skip (unwantG rfl rfl hb15)) (Gm.pure 4 rfl (by kernel_rfl) (fun _ => Y.skip (unwantG rfl rfl hb15)) (Gm.pure 5 rfl (by kernel_rfl) (fun _ => Y.pickT (v := (Value.bool true)) rfl rfl hb15 rfl) (Gm.pure 6 rfl (by kernel_rfl) (fun _ => Y.mv (v := (Value.bool true)) rfl rfl) (Gm.pure 7 rfl (by kernel_rfl) (fun _ => Y.skip (unwantG rfl rfl rfl)) (Gm.pure 8 rfl (by kernel_rfl) (fun _ => Y.skip (unwantG rfl rfl rfl)) (Gm.pure 9 rfl (by kernel_rfl) (fun _ => Y.skip (unwantG rfl rfl rfl)) (Gm.pure 10 rfl (by kernel_rfl) (fun _ => Y.pickT (v := (Value.bool true)) rfl rfl rfl rfl) (Gm.pure 11 rfl (by kernel_rfl) (fun _ => Y.mv (v := (Value.bool true)) rfl rfl) (Gm.pure 12 rfl (by kernel_rfl) (fun _ => Y.skip (unwantG rfl rfl rfl)) (Gm.pure 13 rfl (by kernel_rfl) (fun _ => Y.skip (unwantG rfl rfl rfl)) (Gm.pure 14 rfl (by kernel_rfl) (fun _ => Y.skip (unwantG rfl rfl rfl)) (Gm.pure 15 rfl (by kernel_rfl) (fun _ => Y.skip (unwantG rfl rfl rfl)) ?_))))))))))))
          refine Gm.pure 16 rfl (by kernel_rfl) (fun _ => Y.skip (unwantG rfl rfl rfl)) (Gm.pure 17 rfl (by kernel_rfl) (fun _ => Y.skip (unwantG rfl rfl rfl)) (Gm.pure 18 rfl (by kernel_rfl) (fun _ => Y.skip (unwantG rfl rfl rfl)) (Gm.pure 19 rfl (by kernel_rfl) (fun _ => Y.pickT (v := (Value.bool true)) rfl rfl rfl rfl) (Gm.pure 20 rfl (by kernel_rfl) (fun _ => Y.mv (v := (Value.bool true)) rfl rfl) (Gm.pure 21 rfl (by kernel_rfl) (fun _ => Y.skip (unwantG rfl rfl rfl)) (Gm.pure 22 rfl (by kernel_rfl) (fun _ => Y.skip (unwantG rfl rfl rfl)) (Gm.pure 23 rfl (by kernel_rfl) (fun _ => Y.skip (unwantG rfl rfl rfl)) (Gm.pure 24 rfl (by kernel_rfl) (fun _ => Y.skip (unwantG rfl rfl rfl)) (Gm.pure 25 rfl (by kernel_rfl) (fun _ => Y.pickT (v := (Value.bool true)) rfl rfl rfl rfl) (Gm.pure 26 rfl (by kernel_rfl) (fun _ => Y.mv (v := (Value.bool true)) rfl rfl) (Gm.pure 27 rfl (by kernel_rfl) (fun _ => Y.skip (unwantG rfl rfl rfl)) (Gm.pure 28 rfl (by kernel_rfl) (fun _ => Y.skip (unwantG rfl rfl rfl)) ?_))))))))))))
          refine Gm.pure 29 rfl (by kernel_rfl) (fun _ => Y.skip (unwantG rfl rfl rfl)) (Gm.pure 30 rfl (by kernel_rfl) (fun _ => Y.skip (unwantG rfl rfl rfl)) (Gm.pure 31 rfl (by kernel_rfl) (fun _ => Y.skip (unwantG rfl rfl rfl)) (Gm.pure 32 rfl (by kernel_rfl) (fun _ => Y.skip (unwantG rfl rfl rfl)) (Gm.pure 33 rfl (by kernel_rfl) (fun _ => Y.skip (unwantG rfl rfl rfl)) (Gm.pure 34 rfl (by kernel_rfl) (fun _ => Y.pickT (v := (Value.bool true)) rfl rfl rfl rfl) (Gm.end (by kernel_rfl) ?_))))))
          exact Th.m ⟨_, h, _, eqUpd rfl (eqMask (by repeat' (first | exact Off.refl _ _ | refine Off.u rfl ?_ | refine Off.m rfl ?_)))⟩
        · refine Gm.pure 3 rfl (by kernel_rfl) (fun _ => Y.mv (v := (vI r12.2)) (wantG rfl rfl hb15) rfl) (Gm.pure 4 rfl (by kernel_rfl) (fun _ => Y.neI (wantG rfl rfl hb15) rfl rfl) (Gm.pure 5 rfl (by kernel_rfl) (fun _ => Y.pickF (v := (Value.bool (!decide (r12.2 = 0)))) rfl rfl hb15 rfl) (Gm.pure 6 rfl (by kernel_rfl) (fun _ => Y.mv (v := (Value.bool (!decide (r12.2 = 0)))) rfl rfl) ?_)))
          refine M.split h (fun hb16 h => ?_) (fun hb16 h => ?_)
          · refine Gm.pure 7 rfl (by kernel_rfl) (fun _ => Y.skip (unwantG rfl rfl hb16)) (Gm.pure 8 rfl (by kernel_rfl) (fun _ => Y.skip (unwantG rfl rfl hb16)) (Gm.pure 9 rfl (by kernel_rfl) (fun _ => Y.skip (unwantG rfl rfl hb16)) (Gm.pure 10 rfl (by kernel_rfl) (fun _ => Y.pickT (v := (Value.bool true)) rfl rfl hb16 rfl) (Gm.pure 11 rfl (by kernel_rfl) (fun _ => Y.mv (v := (Value.bool true)) rfl rfl) (Gm.pure 12 rfl (by kernel_rfl) (fun _ => Y.skip (unwantG rfl rfl rfl)) (Gm.pure 13 rfl (by kernel_rfl) (fun _ => Y.skip (unwantG rfl rfl rfl)) (Gm.pure 14 rfl (by kernel_rfl) (fun _ => Y.skip (unwantG rfl rfl rfl)) (Gm.pure 15 rfl (by kernel_rfl) (fun _ => Y.skip (unwantG rfl rfl rfl)) (Gm.pure 16 rfl (by kernel_rfl) (fun _ => Y.skip (unwantG rfl rfl rfl)) (Gm.pure 17 rfl (by kernel_rfl) (fun _ => Y.skip (unwantG rfl rfl rfl)) (Gm.pure 18 rfl (by kernel_rfl) (fun _ => Y.skip (unwantG rfl rfl rfl)) (Gm.pure 19 rfl (by kernel_rfl) (fun _ => Y.pickT (v := (Value.bool true)) rfl rfl rfl rfl) ?_))))))))))))
            refine Gm.pure 20 rfl (by kernel_rfl) (fun _ => Y.mv (v := (Value.bool true)) rfl rfl) (Gm.pure 21 rfl (by kernel_rfl) (fun _ => Y.skip (unwantG rfl rfl rfl)) (Gm.pure 22 rfl (by kernel_rfl) (fun _ => Y.skip (unwantG rfl rfl rfl)) (Gm.pure 23 rfl (by kernel_rfl) (fun _ => Y.skip (unwantG rfl rfl rfl)) (Gm.pure 24 rfl (by kernel_rfl) (fun _ => Y.skip (unwantG rfl rfl rfl)) (Gm.pure 25 rfl (by kernel_rfl) (fun _ => Y.pickT (v := (Value.bool true)) rfl rfl rfl rfl) (Gm.pure 26 rfl (by kernel_rfl) (fun _ => Y.mv (v := (Value.bool true)) rfl rfl) (Gm.pure 27 rfl (by kernel_rfl) (fun _ => Y.skip (unwantG rfl rfl rfl)) (Gm.pure 28 rfl (by kernel_rfl) (fun _ => Y.skip (unwantG rfl rfl rfl)) (Gm.pure 29 rfl (by kernel_rfl) (fun _ => Y.skip (unwantG rfl rfl rfl)) (Gm.pure 30 rfl (by kernel_rfl) (fun _ => Y.skip (unwantG rfl rfl rfl)) (Gm.pure 31 rfl (by kernel_rfl) (fun _ => Y.skip (unwantG rfl rfl rfl)) (Gm.pure 32 rfl (by kernel_rfl) (fun _ => Y.skip (unwantG rfl rfl rfl)) ?_))))))))))))
            refine Gm.pure 33 rfl (by kernel_rfl) (fun _ => Y.skip (unwantG rfl rfl rfl)) (Gm.pure 34 rfl (by kernel_rfl) (fun _ => Y.pickT (v := (Value.bool true)) rfl rfl rfl rfl) (Gm.end (by kernel_rfl) ?_))
            exact Th.m ⟨_, h, _, eqUpd rfl (eqMask (by repeat' (first | exact Off.refl _ _ | refine Off.u rfl ?_ | refine Off.m rfl ?_)))⟩
          · obtain ⟨v17, hcv17, h⟩ := h
            refine Gm.quiet 7 rfl (by kernel_rfl) (fun _ hw => Y.ldA (wantG rfl rfl hb16) Try.isAgg27 Try.sizeOf27 (Dfv_len _) rfl hw) hcv17 (Gm.one' 8 rfl (by kernel_rfl) (.drop (by kernel_rfl) .nil) (N.call (wantG rfl rfl hb16) Try.call7 rfl h ?_))
            intro r18 w h
            refine ⟨pdN, ?_⟩
            refine Gm.pure 9 rfl (by kernel_rfl) (fun _ => Y.not (wantG rfl rfl hb16) rfl) (Gm.pure 10 rfl (by kernel_rfl) (fun _ => Y.pickF (v := (Value.bool (!r18))) rfl rfl hb16 rfl) (Gm.pure 11 rfl (by kernel_rfl) (fun _ => Y.mv (v := (Value.bool (!r18))) rfl rfl) ?_))
            refine M.split h (fun hb19 h => ?_) (fun hb19 h => ?_)
            · refine Gm.pure 12 rfl (by kernel_rfl) (fun _ => Y.skip (unwantG rfl rfl hb19)) (Gm.pure 13 rfl (by kernel_rfl) (fun _ => Y.skip (unwantG rfl rfl hb19)) (Gm.pure 14 rfl (by kernel_rfl) (fun _ => Y.skip (unwantG rfl rfl hb19)) (Gm.pure 15 rfl (by kernel_rfl) (fun _ => Y.skip (unwantG rfl rfl hb19)) (Gm.pure 16 rfl (by kernel_rfl) (fun _ => Y.skip (unwantG rfl rfl hb19)) (Gm.pure 17 rfl (by kernel_rfl) (fun _ => Y.skip (unwantG rfl rfl hb19)) (Gm.pure 18 rfl (by kernel_rfl) (fun _ => Y.skip (unwantG rfl rfl hb19)) (Gm.pure 19 rfl (by kernel_rfl) (fun _ => Y.pickT (v := (Value.bool true)) rfl rfl hb19 rfl) (Gm.pure 20 rfl (by kernel_rfl) (fun _ => Y.mv (v := (Value.bool true)) rfl rfl) (Gm.pure 21 rfl (by kernel_rfl) (fun _ => Y.skip (unwantG rfl rfl rfl)) (Gm.pure 22 rfl (by kernel_rfl) (fun _ => Y.skip (unwantG rfl rfl rfl)) (Gm.pure 23 rfl (by kernel_rfl) (fun _ => Y.skip (unwantG rfl rfl rfl)) (Gm.pure 24 rfl (by kernel_rfl) (fun _ => Y.skip (unwantG rfl rfl rfl)) ?_))))))))))))
              refine Gm.pure 25 rfl (by kernel_rfl) (fun _ => Y.pickT (v := (Value.bool true)) rfl rfl rfl rfl) (Gm.pure 26 rfl (by kernel_rfl) (fun _ => Y.mv (v := (Value.bool true)) rfl rfl) (Gm.pure 27 rfl (by kernel_rfl) (fun _ => Y.skip (unwantG rfl rfl rfl)) (Gm.pure 28 rfl (by kernel_rfl) (fun _ => Y.skip (unwantG rfl rfl rfl)) (Gm.pure 29 rfl (by kernel_rfl) (fun _ => Y.skip (unwantG rfl rfl rfl)) (Gm.pure 30 rfl (by kernel_rfl) (fun _ => Y.skip (unwantG rfl rfl rfl)) (Gm.pure 31 rfl (by kernel_rfl) (fun _ => Y.skip (unwantG rfl rfl rfl)) (Gm.pure 32 rfl (by kernel_rfl) (fun _ => Y.skip (unwantG rfl rfl rfl)) (Gm.pure 33 rfl (by kernel_rfl) (fun _ => Y.skip (unwantG rfl rfl rfl)) (Gm.pure 34 rfl (by kernel_rfl) (fun _ => Y.pickT (v := (Value.bool true)) rfl rfl rfl rfl) (Gm.end (by kernel_rfl) ?_))))))))))
              exact Th.m ⟨_, h, _, eqUpd rfl (eqMask (by repeat' (first | exact Off.refl _ _ | refine Off.u rfl ?_ | refine Off.m rfl ?_)))⟩
            · obtain ⟨v20, hcv20, h⟩ := h
              refine Gm.quiet 12 rfl (by kernel_rfl) (fun _ hw => Y.ldA (wantG rfl rfl hb19) Try.isAgg27 Try.sizeOf27 (Dfv_len _) rfl hw) hcv20 (Gm.pure 13 rfl (by kernel_rfl) (fun _ => Y.mv (v := (Sl.val p1)) (wantG rfl rfl hb19) rfl) ?_)
              obtain ⟨v21, hcv21, h⟩ := h
              refine Gm.quiet 15 rfl (by kernel_rfl) (fun _ hw => Y.ldA (wantG rfl rfl hb19) Try.isAgg27 Try.sizeOf27 (Dfv_len _) rfl hw) hcv21 (Gm.pure 16 rfl (by kernel_rfl) (fun _ => Y.mv (v := (Sl.val p1)) (wantG rfl rfl hb19) rfl) (Gm.one' 14 rfl (by kernel_rfl) (.keep (by kernel_rfl) (.drop (by kernel_rfl) .nil)) (N.call (wantG rfl rfl hb19) Try.call18 rfl h ?_)))
              intro r22 w h
              obtain ⟨hp23, h⟩ := h
              refine ⟨(pdC hp23 pdN), ?_⟩
              refine Gm.one' 17 rfl (by kernel_rfl) (.drop (by kernel_rfl) .nil) (N.call (wantG rfl rfl hb19) Try.call18 rfl h ?_)
              intro r24 w h
              refine ⟨pdN, ?_⟩
              refine Gm.pure 18 rfl (by kernel_rfl) (fun _ => Y.neS (wantG rfl rfl hb19) rfl rfl) (Gm.pure 19 rfl (by kernel_rfl) (fun _ => Y.pickF (v := (Value.bool (!(ByteArray.toList r22 == ByteArray.toList r24)))) rfl rfl hb19 rfl) (Gm.pure 20 rfl (by kernel_rfl) (fun _ => Y.mv (v := (Value.bool (!(ByteArray.toList r22 == ByteArray.toList r24)))) rfl rfl) ?_))
              refine M.split h (fun hb25 h => ?_) (fun hb25 h => ?_)
              · refine Gm.pure 21 rfl (by kernel_rfl) (fun _ => Y.skip (unwantG rfl rfl hb25)) (Gm.pure 22 rfl (by kernel_rfl) (fun _ => Y.skip (unwantG rfl rfl hb25)) (Gm.pure 23 rfl (by kernel_rfl) (fun _ => Y.skip (unwantG rfl rfl hb25)) (Gm.pure 24 rfl (by kernel_rfl) (fun _ => Y.skip (unwantG rfl rfl hb25)) (Gm.pure 25 rfl (by kernel_rfl) (fun _ => Y.pickT (v := (Value.bool true)) rfl rfl hb25 rfl) (Gm.pure 26 rfl (by kernel_rfl) (fun _ => Y.mv (v := (Value.bool true)) rfl rfl) (Gm.pure 27 rfl (by kernel_rfl) (fun _ => Y.skip (unwantG rfl rfl rfl)) (Gm.pure 28 rfl (by kernel_rfl) (fun _ => Y.skip (unwantG rfl rfl rfl)) (Gm.pure 29 rfl (by kernel_rfl) (fun _ => Y.skip (unwantG rfl rfl rfl)) (Gm.pure 30 rfl (by kernel_rfl) (fun _ => Y.skip (unwantG rfl rfl rfl)) (Gm.pure 31 rfl (by kernel_rfl) (fun _ => Y.skip (unwantG rfl rfl rfl)) (Gm.pure 32 rfl (by kernel_rfl) (fun _ => Y.skip (unwantG rfl rfl rfl)) (Gm.pure 33 rfl (by kernel_rfl) (fun _ => Y.skip (unwantG rfl rfl rfl)) ?_))))))))))))
                refine Gm.pure 34 rfl (by kernel_rfl) (fun _ => Y.pickT (v := (Value.bool true)) rfl rfl rfl rfl) (Gm.end (by kernel_rfl) ?_)
                exact Th.m ⟨_, h, _, eqUpd rfl (eqMask (by repeat' (first | exact Off.refl _ _ | refine Off.u rfl ?_ | refine Off.m rfl ?_)))⟩
              · obtain ⟨v26, hcv26, h⟩ := h
                refine Gm.quiet 21 rfl (by kernel_rfl) (fun _ hw => Y.ldA (wantG rfl rfl hb25) Try.isAgg27 Try.sizeOf27 (Dfv_len _) rfl hw) hcv26 ?_
                obtain ⟨v27, hcv27, h⟩ := h
                refine Gm.quiet 22 rfl (by kernel_rfl) (fun _ hw => Y.ldA (wantG rfl rfl hb25) Try.isAgg27 Try.sizeOf27 (Dfv_len _) rfl hw) hcv27 (Gm.one' 23 rfl (by kernel_rfl) (.drop (by kernel_rfl) (.drop (by kernel_rfl) .nil)) (N.call (wantG rfl rfl hb25) Try.call19 rfl h ?_))
                intro r28 w h
                refine ⟨pdN, ?_⟩
                refine Gm.pure 24 rfl (by kernel_rfl) (fun _ => Y.not (wantG rfl rfl hb25) rfl) (Gm.pure 25 rfl (by kernel_rfl) (fun _ => Y.pickF (v := (Value.bool (!r28))) rfl rfl hb25 rfl) (Gm.pure 26 rfl (by kernel_rfl) (fun _ => Y.mv (v := (Value.bool (!r28))) rfl rfl) ?_))
                refine M.split h (fun hb29 h => ?_) (fun hb29 h => ?_)
                · refine Gm.pure 27 rfl (by kernel_rfl) (fun _ => Y.skip (unwantG rfl rfl hb29)) (Gm.pure 28 rfl (by kernel_rfl) (fun _ => Y.skip (unwantG rfl rfl hb29)) (Gm.pure 29 rfl (by kernel_rfl) (fun _ => Y.skip (unwantG rfl rfl hb29)) (Gm.pure 30 rfl (by kernel_rfl) (fun _ => Y.skip (unwantG rfl rfl hb29)) (Gm.pure 31 rfl (by kernel_rfl) (fun _ => Y.skip (unwantG rfl rfl hb29)) (Gm.pure 32 rfl (by kernel_rfl) (fun _ => Y.skip (unwantG rfl rfl hb29)) (Gm.pure 33 rfl (by kernel_rfl) (fun _ => Y.skip (unwantG rfl rfl hb29)) (Gm.pure 34 rfl (by kernel_rfl) (fun _ => Y.pickT (v := (Value.bool true)) rfl rfl hb29 rfl) (Gm.end (by kernel_rfl) ?_))))))))
                  exact Th.m ⟨_, h, _, eqUpd rfl (eqMask (by repeat' (first | exact Off.refl _ _ | refine Off.u rfl ?_ | refine Off.m rfl ?_)))⟩
                · refine Gm.pure 27 rfl (by kernel_rfl) (fun _ => Y.fa 258 (wantG rfl rfl hb29) Try.runUnderlying27 rfl Try.sizeOf24 (by decide) rfl rfl) ?_
                  obtain ⟨x30, hcx30, h⟩ := h
                  refine Gm.quiet 28 rfl (by kernel_rfl) (fun _ hw => Y.ld (wantG rfl rfl hb29) Try.isAgg24 rfl hw) hcx30 (Gm.pure 29 rfl (by kernel_rfl) (fun _ => Y.len (wantG rfl rfl hb29) Try.runUnderlying24 rfl) ?_)
                  obtain ⟨v31, hcv31, h⟩ := h
                  refine Gm.quiet 30 rfl (by kernel_rfl) (fun _ hw => Y.ldA (wantG rfl rfl hb29) Try.isAgg27 Try.sizeOf27 (Dfv_len _) rfl hw) hcv31 (Gm.one' 31 rfl (by kernel_rfl) (.drop (by kernel_rfl) (.keep (by kernel_rfl) .nil)) (N.call (wantG rfl rfl hb29) Try.call20 rfl h ?_))
                  intro r32 w h
                  obtain ⟨hp33, h⟩ := h
                  refine ⟨(pdC hp33 pdN), ?_⟩
                  refine Gm.pure 32 rfl (by kernel_rfl) (fun _ => Y.len (wantG rfl rfl hb29) Try.runUnderlying24 rfl) (Gm.pure 33 rfl (by kernel_rfl) (fun _ => Y.gtr (wantG rfl rfl hb29) rfl rfl) (Gm.pure 34 rfl (by kernel_rfl) (fun _ => Y.pickF (v := (Value.bool (decide ((r32.len : Int) < (x30.len : Int))))) rfl rfl hb29 rfl) (Gm.end (by kernel_rfl) ?_)))
                  exact Th.m ⟨_, h, _, eqUpd rfl (eqMask (by repeat' (first | exact Off.refl _ _ | refine Off.u rfl ?_ | refine Off.m rfl ?_)))⟩
      · refine Dw.cond rfl (fun hb119 => ?_) (fun hb119 => ?_)
        · replace h := M.iteT h hb119
          refine Dw.seq (Dw.region (Dl.q (Y.asg (v := (Value.bool false)) rfl rfl) (Dl.nil (Th.m (Dw.ret (Th.r ?_))))))
          exact fin1 rfl ⟨_, rfl, h⟩
        · replace h := M.iteF h hb119
          refine Dw.skip (Th.m (Dw.seq (Dw.region ?_)))
          obtain ⟨v35, hcv35, h⟩ := h
          refine Dl.q (Y.ldA rfl Try.isAgg27 Try.sizeOf27 (Dfv_len _) rfl hcv35) ?_
          refine Dl.n (N.call rfl Try.call17 rfl h ?_)
          intro r36 w h
          refine Dl.q (Y.asg (v := (Sl.val r36)) rfl rfl) (Dl.nil (Th.m (Dw.seq (Dw.seq (Dw.region (Dl.q (Y.asg (v := (vI 0)) rfl rfl) (Dl.nil (Th.m (Dw.block ?_)))))))))
          refine Dw.loopM (fun s j r => upd (mask r j 1237637807830476617605451840) 12 (vI s)) h ⟨_, eqUpd rfl (eqMask (by repeat' (first | exact Off.refl _ _ | refine Off.u rfl ?_ | refine Off.m rfl ?_)))⟩ ?_
          intro I m q37 j w h
          refine Dw.seq (Dw.seq (Dw.region (Dl.q (Y.mv (v := (vI q37)) rfl rfl) (Dl.q (Y.mv (v := (Sl.val r36)) rfl rfl) (Dl.q (Y.len rfl Try.runUnderlying24 rfl) (Dl.q (Y.lss rfl rfl rfl) (Dl.nil (Th.m ?_))))))))
          refine Dw.cond rfl (fun hb118 => ?_) (fun hb118 => ?_)
          · replace h := M.iteT h hb118
            refine Dw.skip (Th.m (Dw.seq (Dw.block (Dw.seq (Dw.region (Dl.q (Y.mv (v := (Sl.val r36)) rfl rfl) (Dl.q (Y.mv (v := (vI q37)) rfl rfl) ?_)))))))
            obtain ⟨a39, a390, ha, hi, he, h⟩ := h
            refine Dl.q (Y.ix rfl Try.runUnderlying24 Try.sizeOf3 rfl rfl ha hi he) ?_
            obtain ⟨x40, hcx40, h⟩ := h
            refine Dl.q (Y.ld rfl Try.isAgg3 rfl hcx40) (Dl.q (Y.mv (v := (vI q37)) rfl rfl) (Dl.q (Y.neI rfl rfl rfl) (Dl.nil (Th.m ?_))))
            refine Dw.cond rfl (fun hb41 => ?_) (fun hb41 => ?_)
            · replace h := M.iteT h hb41
              refine Dw.seq (Dw.region (Dl.q (Y.asg (v := (Value.bool false)) rfl rfl) (Dl.nil (Th.m (Dw.ret (InB.r (Th.r (Th.r (InB.r (Th.r ?_))))))))))
              exact fin1 rfl ⟨_, rfl, h⟩
            · replace h := M.iteF h hb41
              refine Dw.skip (InB.m (Th.m (Dw.region (Dl.q (Y.mv (v := (vI q37)) rfl rfl) (Dl.q (Y.add rfl rfl rfl) (Dl.q (Y.asg (v := (vI (wI (q37 + 1)))) rfl rfl) (Dl.nil ?_)))))))
              exact Th.m ⟨_, h, _, eqUpd rfl (eqMask (by repeat' (first | exact Off.refl _ _ | refine Off.u rfl ?_ | refine Off.m rfl ?_)))⟩
          · replace h := M.iteF h hb118
            refine Dw.exit (Th.e (Th.e (InB.e (Th.m (Dw.seq (Dw.region (Dl.q (Y.fa 258 rfl Try.runUnderlying27 rfl Try.sizeOf24 (by decide) rfl rfl) ?_)))))))
            obtain ⟨x42, hcx42, h⟩ := h
            refine Dl.q (Y.ld rfl Try.isAgg24 rfl hcx42) (Dl.q (Y.len rfl Try.runUnderlying24 rfl) (Dl.q (Y.asg (v := (vI (x42.len : Int))) rfl rfl) (Dl.nil (Th.m (Dw.seq (Dw.region (Dl.q (Y.fa 0 rfl Try.runUnderlying27 rfl Try.sizeOf22 (by decide) rfl rfl) ?_)))))))
            obtain ⟨v43, hcv43, h⟩ := h
            refine Dl.q (Y.ldA rfl Try.isAgg22 Try.sizeOf22 (Ar_len _) rfl hcv43) (Dl.q (Y.fa 256 rfl Try.runUnderlying27 rfl Try.sizeOf3 (by decide) rfl rfl) ?_)
            obtain ⟨x44, hcx44, h⟩ := h
            refine Dl.q (Y.ld rfl Try.isAgg3 rfl hcx44) (Dl.q (Y.fa 259 rfl Try.runUnderlying27 rfl Try.sizeOf25 (by decide) rfl rfl) ?_)
            obtain ⟨x45, hcx45, h⟩ := h
            refine Dl.q (Y.ld rfl Try.isAgg25 rfl hcx45) (Dl.q (Y.bld [(0, (.agg (Ar.cs v43).toArray)), (1, (vI x44)), (4, (Sl.val x45))] rfl rfl (Dfv_b014 _ _ _ _)) ?_)
            refine Dl.n (N.new rfl Try.zeroValue27 h (by kernel_rfl) fun b46 _ h => ?_)
            refine Dl.n (N.stA rfl Try.sizeOf27 h rfl rfl (Dfv_len _) (Dfv_one _) fun h => ?_)
            generalize setCells _ _ _ _ = w at h ⊢
            refine Dl.nil (Th.m (Dw.seq (Dw.seq (Dw.region (Dl.q (Y.asg (v := (vI 0)) rfl rfl) (Dl.nil (Th.m (Dw.block ?_))))))))
            refine Dw.loopM (fun s j r => upd (mask r j 196159429230833773869868418207588975274969206142798888960) 15 (vI s)) h ⟨_, eqUpd rfl (eqMask (by repeat' (first | exact Off.refl _ _ | refine Off.u rfl ?_ | refine Off.m rfl ?_)))⟩ ?_
            intro I m q47 j w h
            refine Dw.seq (Dw.seq (Dw.region (Dl.q (Y.mv (v := (vI q47)) rfl rfl) (Dl.q (Y.mv (v := (vI (x42.len : Int))) rfl rfl) (Dl.q (Y.mv (v := (Sl.val p2)) rfl rfl) (Dl.q (Y.len rfl Try.runUnderlying38 rfl) (Dl.q (Y.add rfl rfl rfl) (Dl.q (Y.lss rfl rfl rfl) (Dl.nil (Th.m ?_))))))))))
            refine Dw.cond rfl (fun hb117 => ?_) (fun hb117 => ?_)
            · replace h := M.iteT h hb117
              refine Dw.skip (Th.m (Dw.seq (Dw.block (Dw.seq (Dw.region (Dl.q (Y.mv (v := (vI q47)) rfl rfl) (Dl.q (Y.asg (v := (vI q47)) rfl rfl) (Dl.nil (Th.m ?_)))))))))
              refine Dw.joinM (fun s j r => upd (mask r j 2657806954462514892354047808519602176) 16 (vI s)) h (fun C h => ?_) (fun q53 j w h => ?_)
              · refine Dw.seq (Dw.region (Dl.q (Y.mv (v := (vI q47)) rfl rfl) (Dl.q (Y.mv (v := (vI (x42.len : Int))) rfl rfl) (Dl.q (Y.geq rfl rfl rfl) (Dl.nil (Th.m ?_))))))
                refine Dw.cond rfl (fun hb52 => ?_) (fun hb52 => ?_)
                · replace h := M.iteT h hb52
                  refine Dw.region (Dl.q (Y.mv (v := (Sl.val p2)) rfl rfl) (Dl.q (Y.mv (v := (vI q47)) rfl rfl) (Dl.q (Y.mv (v := (vI (x42.len : Int))) rfl rfl) (Dl.q (Y.sub rfl rfl rfl) ?_))))
                  obtain ⟨a50, a500, ha, hi, he, h⟩ := h
                  refine Dl.q (Y.ix rfl Try.runUnderlying38 Try.sizeOf5 rfl rfl ha hi he) ?_
                  obtain ⟨x51, hcx51, h⟩ := h
                  refine Dl.q (Y.ld rfl Try.isAgg5 rfl hcx51) (Dl.q (Y.conv rfl Try.runUnderlying5 Try.runUnderlying3 rfl) (Dl.q (Y.mv (v := (vI (x42.len : Int))) rfl rfl) ?_))
                  obtain ⟨ha, h⟩ := h
                  refine Dl.q (Y.rem rfl rfl rfl ha) (Dl.q (Y.asg (v := (vI (Int.tmod (wI x51) (x42.len : Int)))) rfl rfl) (Dl.nil ?_))
                  exact Th.m ⟨_, h, _, eqUpd rfl (eqMask (by repeat' (first | exact Off.refl _ _ | refine Off.u rfl ?_ | refine Off.m rfl ?_)))⟩
                · replace h := M.iteF h hb52
                  refine Dw.skip ?_
                  exact Th.m ⟨_, h, _, eqUpd rfl (eqMask (by repeat' (first | exact Off.refl _ _ | refine Off.u rfl ?_ | refine Off.m rfl ?_)))⟩
              · refine Dw.seq (Dw.region ?_)
                refine Dl.n (N.mkS rfl Try.runUnderlying24 Try.sizeOf3 Try.zeroValue3 h rfl rfl rfl rfl rfl fun b54 _ h => ?_)
                refine Dl.q (Y.asg (v := (Sl.val (⟨some b54, 0, 0⟩ : Sl))) rfl rfl) (Dl.nil (Th.m (Dw.seq (Dw.seq (Dw.region (Dl.q (Y.asg (v := (vI 0)) rfl rfl) (Dl.nil (Th.m (Dw.block ?_)))))))))
                refine Dw.loopM (fun s j r => upd (upd (mask r j 2993155353253683859569163397739456009027108727554048) 17 (Sl.val s.1)) 18 (vI s.2)) h ⟨_, eqUpd rfl (eqUpd rfl (eqMask (by repeat' (first | exact Off.refl _ _ | refine Off.u rfl ?_ | refine Off.m rfl ?_))))⟩ ?_
                intro I m q55 j w h
                refine Dw.seq (Dw.seq (Dw.region (Dl.q (Y.mv (v := (vI q55.2)) rfl rfl) (Dl.q (Y.fa 256 rfl Try.runUnderlying27 rfl Try.sizeOf3 (by decide) rfl rfl) ?_))))
                obtain ⟨x57, hcx57, h⟩ := h
                refine Dl.q (Y.ld rfl Try.isAgg3 rfl hcx57) (Dl.q (Y.lss rfl rfl rfl) (Dl.nil (Th.m ?_)))
                refine Dw.cond rfl (fun hb86 => ?_) (fun hb86 => ?_)
                · replace h := M.iteT h hb86
                  refine Dw.skip (Th.m (Dw.seq (Dw.block (Dw.seq (Dw.region (Dl.q (Y.fa 257 rfl Try.runUnderlying27 rfl Try.sizeOf23 (by decide) rfl rfl) ?_))))))
                  obtain ⟨x58, hcx58, h⟩ := h
                  refine Dl.q (Y.ld rfl Try.isAgg23 rfl hcx58) (Dl.q (Y.mv (v := (vI q53)) rfl rfl) ?_)
                  obtain ⟨a59, a590, ha, hi, he, h⟩ := h
                  refine Dl.q (Y.ix rfl Try.runUnderlying23 Try.sizeOf24 rfl rfl ha hi he) ?_
                  obtain ⟨x60, hcx60, h⟩ := h
                  refine Dl.q (Y.ld rfl Try.isAgg24 rfl hcx60) (Dl.q (Y.mv (v := (vI q55.2)) rfl rfl) ?_)
                  obtain ⟨a61, a610, ha, hi, he, h⟩ := h
                  refine Dl.q (Y.ix rfl Try.runUnderlying24 Try.sizeOf3 rfl rfl ha hi he) ?_
                  obtain ⟨x62, hcx62, h⟩ := h
                  refine Dl.q (Y.ld rfl Try.isAgg3 rfl hcx62) (Dl.q (Y.asg (v := (vI x62)) rfl rfl) (Dl.nil (Th.m ?_)))
                  refine Dw.joinM (fun s j r => upd (mask r j 187072209491243287598311411941060327013426703892480) 19 (vI s)) h (fun C h => ?_) (fun q71 j w h => ?_)
                  · refine Dw.joinM (fun s j r => upd (mask r j 2923003187549519904647123018808666536779202953216) 160 (Value.bool s)) h (fun C h => ?_) (fun q69 j w h => ?_)
                    · refine Dw.region (Dl.q (Y.mv (v := (Sl.val p2)) rfl rfl) (Dl.q (Y.len rfl Try.runUnderlying38 rfl) (Dl.q (Y.gtr rfl rfl rfl) (Dl.q (Y.mv (v := (Value.bool (decide (0 < (p2.len : Int))))) rfl rfl) ?_))))
                      refine M.split h (fun hb65 h => ?_) (fun hb65 h => ?_)
                      · refine Dl.q (Y.mv (v := (vI q47)) (wantG rfl rfl hb65) rfl) (Dl.q (Y.mv (v := (Sl.val p2)) (wantG rfl rfl hb65) rfl) (Dl.q (Y.len (wantG rfl rfl hb65) Try.runUnderlying38 rfl) ?_))
                        obtain ⟨ha, h⟩ := h
                        refine Dl.q (Y.rem (wantG rfl rfl hb65) rfl rfl ha) (Dl.q (Y.mv (v := (vI q55.2)) (wantG rfl rfl hb65) rfl) (Dl.q (Y.eqI (wantG rfl rfl hb65) rfl rfl) (Dl.q (Y.pickT (v := (Value.bool (decide ((Int.tmod q47 (p2.len : Int)) = q55.2)))) rfl rfl hb65 rfl) (Dl.q (Y.mv (v := (Value.bool (decide ((Int.tmod q47 (p2.len : Int)) = q55.2)))) rfl rfl) ?_))))
                        refine M.split h (fun hb66 h => ?_) (fun hb66 h => ?_)
                        · refine Dl.q (Y.mv (v := (Sl.val p2)) (wantG rfl rfl hb66) rfl) (Dl.q (Y.mv (v := (vI q47)) (wantG rfl rfl hb66) rfl) (Dl.q (Y.mv (v := (Sl.val p2)) (wantG rfl rfl hb66) rfl) (Dl.q (Y.len (wantG rfl rfl hb66) Try.runUnderlying38 rfl) ?_)))
                          obtain ⟨ha, h⟩ := h
                          refine Dl.q (Y.rem (wantG rfl rfl hb66) rfl rfl ha) ?_
                          obtain ⟨a67, a670, ha, hi, he, h⟩ := h
                          refine Dl.q (Y.ix (wantG rfl rfl hb66) Try.runUnderlying38 Try.sizeOf5 rfl rfl ha hi he) ?_
                          obtain ⟨x68, hcx68, h⟩ := h
                          refine Dl.q (Y.ld (wantG rfl rfl hb66) Try.isAgg5 rfl hcx68) (Dl.q (Y.conv (wantG rfl rfl hb66) Try.runUnderlying5 Try.runUnderlying3 rfl) (Dl.q (Y.mv (v := (vI (x42.len : Int))) (wantG rfl rfl hb66) rfl) ?_))
                          obtain ⟨ha, h⟩ := h
                          refine Dl.q (Y.rem (wantG rfl rfl hb66) rfl rfl ha) (Dl.q (Y.mv (v := (vI x62)) (wantG rfl rfl hb66) rfl) (Dl.q (Y.eqI (wantG rfl rfl hb66) rfl rfl) (Dl.q (Y.pickT (v := (Value.bool (decide ((Int.tmod (wI x68) (x42.len : Int)) = x62)))) rfl rfl hb66 rfl) (Dl.nil ?_))))
                          exact Th.m ⟨_, h, _, eqUpd rfl (eqMask (by repeat' (first | exact Off.refl _ _ | refine Off.u rfl ?_ | refine Off.m rfl ?_)))⟩
                        · refine Dl.q (Y.skip (unwantG rfl rfl hb66)) (Dl.q (Y.skip (unwantG rfl rfl hb66)) (Dl.q (Y.skip (unwantG rfl rfl hb66)) (Dl.q (Y.skip (unwantG rfl rfl hb66)) (Dl.q (Y.skip (unwantG rfl rfl hb66)) (Dl.q (Y.skip (unwantG rfl rfl hb66)) (Dl.q (Y.skip (unwantG rfl rfl hb66)) (Dl.q (Y.skip (unwantG rfl rfl hb66)) (Dl.q (Y.skip (unwantG rfl rfl hb66)) (Dl.q (Y.skip (unwantG rfl rfl hb66)) (Dl.q (Y.skip (unwantG rfl rfl hb66)) (Dl.q (Y.skip (unwantG rfl rfl hb66)) (Dl.q (Y.pickF (v := (Value.bool false)) rfl rfl hb66 rfl) ?_))))))))))))
                          refine Dl.nil ?_
                          exact Th.m ⟨_, h, _, eqUpd rfl (eqMask (by repeat' (first | exact Off.refl _ _ | refine Off.u rfl ?_ | refine Off.m rfl ?_)))⟩
                      · refine Dl.q (Y.skip (unwantG rfl rfl hb65)) (Dl.q (Y.skip (unwantG rfl rfl hb65)) (Dl.q (Y.skip (unwantG rfl rfl hb65)) (Dl.q (Y.skip (unwantG rfl rfl hb65)) (Dl.q (Y.skip (unwantG rfl rfl hb65)) (Dl.q (Y.skip (unwantG rfl rfl hb65)) (Dl.q (Y.pickF (v := (Value.bool false)) rfl rfl hb65 rfl) (Dl.q (Y.mv (v := (Value.bool false)) rfl rfl) (Dl.q (Y.skip (unwantG rfl rfl rfl)) (Dl.q (Y.skip (unwantG rfl rfl rfl)) (Dl.q (Y.skip (unwantG rfl rfl rfl)) (Dl.q (Y.skip (unwantG rfl rfl rfl)) (Dl.q (Y.skip (unwantG rfl rfl rfl)) ?_))))))))))))
                        refine Dl.q (Y.skip (unwantG rfl rfl rfl)) (Dl.q (Y.skip (unwantG rfl rfl rfl)) (Dl.q (Y.skip (unwantG rfl rfl rfl)) (Dl.q (Y.skip (unwantG rfl rfl rfl)) (Dl.q (Y.skip (unwantG rfl rfl rfl)) (Dl.q (Y.skip (unwantG rfl rfl rfl)) (Dl.q (Y.skip (unwantG rfl rfl rfl)) (Dl.q (Y.pickF (v := (Value.bool false)) rfl rfl rfl rfl) (Dl.nil ?_))))))))
                        exact Th.m ⟨_, h, _, eqUpd rfl (eqMask (by repeat' (first | exact Off.refl _ _ | refine Off.u rfl ?_ | refine Off.m rfl ?_)))⟩
                    · refine Dw.cond rfl (fun hb70 => ?_) (fun hb70 => ?_)
                      · replace h := M.iteT h hb70
                        refine Dw.region (Dl.q (Y.mv (v := (vI (x42.len : Int))) rfl rfl) (Dl.q (Y.mv (v := (vI q47)) rfl rfl) (Dl.q (Y.mv (v := (Sl.val p2)) rfl rfl) (Dl.q (Y.len rfl Try.runUnderlying38 rfl) ?_))))
                        obtain ⟨ha, h⟩ := h
                        refine Dl.q (Y.rem rfl rfl rfl ha) (Dl.q (Y.add rfl rfl rfl) (Dl.q (Y.asg (v := (vI (wI ((x42.len : Int) + (Int.tmod q47 (p2.len : Int)))))) rfl rfl) (Dl.nil ?_)))
                        exact Th.m ⟨_, h, _, eqUpd rfl (eqMask (by repeat' (first | exact Off.refl _ _ | refine Off.u rfl ?_ | refine Off.m rfl ?_)))⟩
                      · replace h := M.iteF h hb70
                        refine Dw.skip ?_
                        exact Th.m ⟨_, h, _, eqUpd rfl (eqMask (by repeat' (first | exact Off.refl _ _ | refine Off.u rfl ?_ | refine Off.m rfl ?_)))⟩
                  · refine Dw.region (Dl.q (Y.mv (v := (Sl.val q55.1)) rfl rfl) (Dl.q (Y.mv (v := (vI q71)) rfl rfl) ?_))
                    refine Dl.n (N.mkS rfl Try.runUnderlying24 Try.sizeOf3 Try.zeroValue3 h rfl rfl rfl rfl rfl fun b72 _ h => ?_)
                    obtain ⟨s73, w, ha, h⟩ := h
                    refine Dl.n (N.blt rfl rfl (fun _ => rfl) ha ?_)
                    refine Dl.q (Y.asg (v := (Sl.val s73)) rfl rfl) (Dl.nil (InB.m (Th.m (Dw.region (Dl.q (Y.mv (v := (vI q55.2)) rfl rfl) (Dl.q (Y.add rfl rfl rfl) (Dl.q (Y.asg (v := (vI (wI (q55.2 + 1)))) rfl rfl) (Dl.nil ?_))))))))
                    exact Th.m ⟨_, h, _, eqUpd rfl (eqUpd rfl (eqMask (by repeat' (first | exact Off.refl _ _ | refine Off.u rfl ?_ | refine Off.m rfl ?_))))⟩
                · replace h := M.iteF h hb86
                  refine Dw.exit (Th.e (Th.e (InB.e (Th.m (Dw.seq (Dw.region (Dl.q (Y.fa 257 rfl Try.runUnderlying27 rfl Try.sizeOf23 (by decide) rfl rfl) ?_)))))))
                  obtain ⟨x74, hcx74, h⟩ := h
                  refine Dl.q (Y.ld rfl Try.isAgg23 rfl hcx74) (Dl.q (Y.mv (v := (Sl.val q55.1)) rfl rfl) ?_)
                  refine Dl.n (N.mkS rfl Try.runUnderlying23 Try.sizeOf24 Try.zeroValue24 h rfl rfl rfl rfl rfl fun b75 _ h => ?_)
                  obtain ⟨s76, w, ha, h⟩ := h
                  refine Dl.n (N.blt rfl rfl (fun _ => rfl) ha ?_)
                  refine Dl.q (Y.fa 257 rfl Try.runUnderlying27 rfl Try.sizeOf23 (by decide) rfl rfl) ?_
                  refine Dl.n (N.st rfl Try.sizeOf23 h rfl rfl rfl rfl rfl fun h => ?_)
                  refine Dl.nil (Th.m (Dw.game (by kernel_rfl) ?_))
                  replace h := M.drew_un h
                  generalize World.drew _ = w at h ⊢
                  refine Gm.pure 0 rfl (by kernel_rfl) (fun _ => Y.fa 258 rfl Try.runUnderlying27 rfl Try.sizeOf24 (by decide) rfl rfl) ?_
                  obtain ⟨x77, hcx77, h⟩ := h
                  refine Gm.quiet 1 rfl (by kernel_rfl) (fun _ hw => Y.ld rfl Try.isAgg24 rfl hw) hcx77 (Gm.pure 2 rfl (by kernel_rfl) (fun _ => Y.fa 258 rfl Try.runUnderlying27 rfl Try.sizeOf24 (by decide) rfl rfl) ?_)
                  obtain ⟨x78, hcx78, h⟩ := h
                  refine Gm.quiet 3 rfl (by kernel_rfl) (fun _ hw => Y.ld rfl Try.isAgg24 rfl hw) hcx78 (Gm.pure 4 rfl (by kernel_rfl) (fun _ => Y.mv (v := (vI q53)) rfl rfl) ?_)
                  obtain ⟨a79, a790, ha, hi, he, h⟩ := h
                  refine Gm.pure 5 rfl (by kernel_rfl) (fun _ => Y.ix rfl Try.runUnderlying24 Try.sizeOf3 rfl rfl ha hi he) ?_
                  obtain ⟨x80, hcx80, h⟩ := h
                  refine Gm.quiet 6 rfl (by kernel_rfl) (fun _ hw => Y.ld rfl Try.isAgg3 rfl hw) hcx80 (Gm.one' 7 rfl (by kernel_rfl) (.drop (by kernel_rfl) (.keep (by kernel_rfl) (.keep (by kernel_rfl) .nil))) (N.mkS rfl Try.runUnderlying24 Try.sizeOf3 Try.zeroValue3 h rfl rfl rfl rfl rfl fun b81 _ h => ?_))
                  obtain ⟨hp82, h⟩ := h
                  obtain ⟨hp83, h⟩ := h
                  refine ⟨(pdC hp82 (pdC hp83 pdN)), ?_⟩
                  generalize World.alloc _ _ = w at h ⊢
                  refine Gm.one' 8 rfl (by kernel_rfl) (.keep (by kernel_rfl) (.drop (by kernel_rfl) .nil)) ?_
                  obtain ⟨s84, w, ha, h⟩ := h
                  refine N.blt rfl rfl (fun _ => rfl) ha ?_
                  obtain ⟨hp85, h⟩ := h
                  refine ⟨(pdC hp85 pdN), ?_⟩
                  refine Gm.pure 9 rfl (by kernel_rfl) (fun _ => Y.fa 258 rfl Try.runUnderlying27 rfl Try.sizeOf24 (by decide) rfl rfl) (Gm.one' 10 rfl (by kernel_rfl) (.drop (by kernel_rfl) .nil) ?_)
                  refine N.st rfl Try.sizeOf24 h rfl rfl rfl rfl rfl fun h => ?_
                  refine ⟨pdN, ?_⟩
                  generalize World.setCell _ _ _ = w at h ⊢
                  refine Gm.end (by kernel_rfl) (InB.m (Th.m (Dw.region (Dl.q (Y.mv (v := (vI q47)) rfl rfl) (Dl.q (Y.add rfl rfl rfl) (Dl.q (Y.asg (v := (vI (wI (q47 + 1)))) rfl rfl) (Dl.nil ?_)))))))
                  exact Th.m ⟨_, h, _, eqUpd rfl (eqMask (by repeat' (first | exact Off.refl _ _ | refine Off.u rfl ?_ | refine Off.m rfl ?_)))⟩
            · replace h := M.iteF h hb117
              refine Dw.exit (Th.e (Th.e (InB.e (Th.m (Dw.seq (Dw.region ?_))))))
              obtain ⟨v87, hcv87, h⟩ := h
              refine Dl.q (Y.ldA rfl Try.isAgg27 Try.sizeOf27 (Dfv_len _) rfl hcv87) ?_
              refine Dl.n (N.call rfl Try.call6 rfl h ?_)
              intro r88 w h
              refine Dl.q (Y.mv (v := (.tuple #[(.agg (Dfv.cs r88.1).toArray), (vI r88.2)])) rfl rfl) (Dl.q (Y.ext rfl rfl rfl) (Dl.q (Y.ext rfl rfl rfl) ?_))
              refine Dl.n (N.new rfl Try.zeroValue27 h (by kernel_rfl) fun b89 _ h => ?_)
              refine Dl.n (N.stA rfl Try.sizeOf27 h rfl rfl (Dfv_len _) (Dfv_one _) fun h => ?_)
              generalize setCells _ _ _ _ = w at h ⊢
              refine Dl.q (Y.asg (v := (vI r88.2)) rfl rfl) (Dl.nil (Th.m (Dw.seq (Dw.game (by kernel_rfl) ?_))))
              replace h := M.drew_un h
              generalize World.drew _ = w at h ⊢
              refine Gm.pure 0 rfl (by kernel_rfl) (fun _ => Y.mv (v := (vI r88.2)) rfl rfl) (Gm.pure 1 rfl (by kernel_rfl) (fun _ => Y.eqI rfl rfl rfl) (Gm.pure 2 rfl (by kernel_rfl) (fun _ => Y.mv (v := (Value.bool (decide (r88.2 = 0)))) rfl rfl) ?_))
              refine M.split h (fun hb90 h => ?_) (fun hb90 h => ?_)
              · refine Gm.pure 3 rfl (by kernel_rfl) (fun _ => Y.fa 258 (wantG rfl rfl hb90) Try.runUnderlying27 rfl Try.sizeOf24 (by decide) rfl rfl) ?_
                obtain ⟨x91, hcx91, h⟩ := h
                refine Gm.quiet 4 rfl (by kernel_rfl) (fun _ hw => Y.ld (wantG rfl rfl hb90) Try.isAgg24 rfl hw) hcx91 (Gm.pure 5 rfl (by kernel_rfl) (fun _ => Y.len (wantG rfl rfl hb90) Try.runUnderlying24 rfl) (Gm.pure 6 rfl (by kernel_rfl) (fun _ => Y.fa 258 (wantG rfl rfl hb90) Try.runUnderlying27 rfl Try.sizeOf24 (by decide) rfl rfl) ?_))
                obtain ⟨x92, hcx92, h⟩ := h
                refine Gm.quiet 7 rfl (by kernel_rfl) (fun _ hw => Y.ld (wantG rfl rfl hb90) Try.isAgg24 rfl hw) hcx92 (Gm.pure 8 rfl (by kernel_rfl) (fun _ => Y.len (wantG rfl rfl hb90) Try.runUnderlying24 rfl) (Gm.pure 9 rfl (by kernel_rfl) (fun _ => Y.eqI (wantG rfl rfl hb90) rfl rfl) (Gm.pure 10 rfl (by kernel_rfl) (fun _ => Y.pickT (v := (Value.bool (decide ((x91.len : Int) = (x92.len : Int))))) rfl rfl hb90 rfl) (Gm.pure 11 rfl (by kernel_rfl) (fun _ => Y.mv (v := (Value.bool (decide ((x91.len : Int) = (x92.len : Int))))) rfl rfl) ?_))))
                refine M.split h (fun hb93 h => ?_) (fun hb93 h => ?_)
                · obtain ⟨v94, hcv94, h⟩ := h
                  refine Gm.quiet 12 rfl (by kernel_rfl) (fun _ hw => Y.ldA (wantG rfl rfl hb93) Try.isAgg27 Try.sizeOf27 (Dfv_len _) rfl hw) hcv94 (Gm.pure 13 rfl (by kernel_rfl) (fun _ => Y.mv (v := (Sl.val p1)) (wantG rfl rfl hb93) rfl) ?_)
                  obtain ⟨v95, hcv95, h⟩ := h
                  refine Gm.quiet 15 rfl (by kernel_rfl) (fun _ hw => Y.ldA (wantG rfl rfl hb93) Try.isAgg27 Try.sizeOf27 (Dfv_len _) rfl hw) hcv95 (Gm.pure 16 rfl (by kernel_rfl) (fun _ => Y.mv (v := (Sl.val p1)) (wantG rfl rfl hb93) rfl) (Gm.one' 14 rfl (by kernel_rfl) (.keep (by kernel_rfl) (.drop (by kernel_rfl) (.keep (by kernel_rfl) (.keep (by kernel_rfl) .nil)))) (N.call (wantG rfl rfl hb93) Try.call18 rfl h ?_)))
                  intro r96 w h
                  obtain ⟨hp97, h⟩ := h
                  obtain ⟨hp98, h⟩ := h
                  obtain ⟨hp99, h⟩ := h
                  refine ⟨(pdC hp97 (pdC hp98 (pdC hp99 pdN))), ?_⟩
                  refine Gm.one' 17 rfl (by kernel_rfl) (.drop (by kernel_rfl) (.keep (by kernel_rfl) (.keep (by kernel_rfl) .nil))) (N.call (wantG rfl rfl hb93) Try.call18 rfl h ?_)
                  intro r100 w h
                  obtain ⟨hp101, h⟩ := h
                  obtain ⟨hp102, h⟩ := h
                  refine ⟨(pdC hp101 (pdC hp102 pdN)), ?_⟩
                  refine Gm.pure 18 rfl (by kernel_rfl) (fun _ => Y.eqS (wantG rfl rfl hb93) rfl rfl) (Gm.pure 19 rfl (by kernel_rfl) (fun _ => Y.pickT (v := (Value.bool (ByteArray.toList r96 == ByteArray.toList r100))) rfl rfl hb93 rfl) (Gm.pure 20 rfl (by kernel_rfl) (fun _ => Y.mv (v := (Value.bool (ByteArray.toList r96 == ByteArray.toList r100))) rfl rfl) ?_))
                  refine M.split h (fun hb103 h => ?_) (fun hb103 h => ?_)
                  · obtain ⟨v104, hcv104, h⟩ := h
                    refine Gm.quiet 21 rfl (by kernel_rfl) (fun _ hw => Y.ldA (wantG rfl rfl hb103) Try.isAgg27 Try.sizeOf27 (Dfv_len _) rfl hw) hcv104 ?_
                    obtain ⟨v105, hcv105, h⟩ := h
                    refine Gm.quiet 22 rfl (by kernel_rfl) (fun _ hw => Y.ldA (wantG rfl rfl hb103) Try.isAgg27 Try.sizeOf27 (Dfv_len _) rfl hw) hcv105 (Gm.one' 23 rfl (by kernel_rfl) (.drop (by kernel_rfl) (.keep (by kernel_rfl) (.keep (by kernel_rfl) (.keep (by kernel_rfl) .nil)))) (N.call (wantG rfl rfl hb103) Try.call8 rfl h ?_))
                    intro r106 w h
                    obtain ⟨hp107, h⟩ := h
                    obtain ⟨hp108, h⟩ := h
                    obtain ⟨hp109, h⟩ := h
                    refine ⟨(pdC hp107 (pdC hp108 (pdC hp109 pdN))), ?_⟩
                    refine Gm.one' 24 rfl (by kernel_rfl) (.drop (by kernel_rfl) (.keep (by kernel_rfl) (.keep (by kernel_rfl) .nil))) (N.call (wantG rfl rfl hb103) Try.call21 rfl h ?_)
                    intro r110 w h
                    obtain ⟨hp111, h⟩ := h
                    obtain ⟨hp112, h⟩ := h
                    refine ⟨(pdC hp111 (pdC hp112 pdN)), ?_⟩
                    refine Gm.pure 25 rfl (by kernel_rfl) (fun _ => Y.pickT (v := (Value.bool r110)) rfl rfl hb103 rfl) (Gm.pure 26 rfl (by kernel_rfl) (fun _ => Y.mv (v := (Value.bool r110)) rfl rfl) ?_)
                    refine M.split h (fun hb113 h => ?_) (fun hb113 h => ?_)
                    · refine Gm.one' 27 rfl (by kernel_rfl) (.keep (by kernel_rfl) (.keep (by kernel_rfl) .nil)) (N.call (wantG rfl rfl hb113) Try.call10 rfl h ?_)
                      intro r114 w h
                      obtain ⟨hp115, h⟩ := h
                      obtain ⟨hp116, h⟩ := h
                      refine ⟨(pdC hp115 (pdC hp116 pdN)), ?_⟩
                      refine Gm.pure 28 rfl (by kernel_rfl) (fun _ => Y.pickT (v := (Value.bool r114)) rfl rfl hb113 rfl) (Gm.pure 29 rfl (by kernel_rfl) (fun _ => Y.asg (v := (Value.bool r114)) rfl rfl) (Gm.end (by kernel_rfl) (Th.m (Dw.ret ?_))))
                      exact fin1 rfl ⟨_, rfl, h⟩
                    · refine Gm.pure 27 rfl (by kernel_rfl) (fun _ => Y.skip (unwantG rfl rfl hb113)) (Gm.pure 28 rfl (by kernel_rfl) (fun _ => Y.pickF (v := (Value.bool false)) rfl rfl hb113 rfl) (Gm.pure 29 rfl (by kernel_rfl) (fun _ => Y.asg (v := (Value.bool false)) rfl rfl) (Gm.end (by kernel_rfl) (Th.m (Dw.ret ?_)))))
                      exact fin1 rfl ⟨_, rfl, h⟩
                  · refine Gm.pure 21 rfl (by kernel_rfl) (fun _ => Y.skip (unwantG rfl rfl hb103)) (Gm.pure 22 rfl (by kernel_rfl) (fun _ => Y.skip (unwantG rfl rfl hb103)) (Gm.pure 23 rfl (by kernel_rfl) (fun _ => Y.skip (unwantG rfl rfl hb103)) (Gm.pure 24 rfl (by kernel_rfl) (fun _ => Y.skip (unwantG rfl rfl hb103)) (Gm.pure 25 rfl (by kernel_rfl) (fun _ => Y.pickF (v := (Value.bool false)) rfl rfl hb103 rfl) (Gm.pure 26 rfl (by kernel_rfl) (fun _ => Y.mv (v := (Value.bool false)) rfl rfl) (Gm.pure 27 rfl (by kernel_rfl) (fun _ => Y.skip (unwantG rfl rfl rfl)) (Gm.pure 28 rfl (by kernel_rfl) (fun _ => Y.pickF (v := (Value.bool false)) rfl rfl rfl rfl) (Gm.pure 29 rfl (by kernel_rfl) (fun _ => Y.asg (v := (Value.bool false)) rfl rfl) (Gm.end (by kernel_rfl) (Th.m (Dw.ret ?_)))))))))))
                    exact fin1 rfl ⟨_, rfl, h⟩
                · refine Gm.pure 12 rfl (by kernel_rfl) (fun _ => Y.skip (unwantG rfl rfl hb93)) (Gm.pure 13 rfl (by kernel_rfl) (fun _ => Y.skip (unwantG rfl rfl hb93)) (Gm.pure 14 rfl (by kernel_rfl) (fun _ => Y.skip (unwantG rfl rfl hb93)) (Gm.pure 15 rfl (by kernel_rfl) (fun _ => Y.skip (unwantG rfl rfl hb93)) (Gm.pure 16 rfl (by kernel_rfl) (fun _ => Y.skip (unwantG rfl rfl hb93)) (Gm.pure 17 rfl (by kernel_rfl) (fun _ => Y.skip (unwantG rfl rfl hb93)) (Gm.pure 18 rfl (by kernel_rfl) (fun _ => Y.skip (unwantG rfl rfl hb93)) (Gm.pure 19 rfl (by kernel_rfl) (fun _ => Y.pickF (v := (Value.bool false)) rfl rfl hb93 rfl) (Gm.pure 20 rfl (by kernel_rfl) (fun _ => Y.mv (v := (Value.bool false)) rfl rfl) (Gm.pure 21 rfl (by kernel_rfl) (fun _ => Y.skip (unwantG rfl rfl rfl)) (Gm.pure 22 rfl (by kernel_rfl) (fun _ => Y.skip (unwantG rfl rfl rfl)) (Gm.pure 23 rfl (by kernel_rfl) (fun _ => Y.skip (unwantG rfl rfl rfl)) (Gm.pure 24 rfl (by kernel_rfl) (fun _ => Y.skip (unwantG rfl rfl rfl)) ?_))))))))))))
                  refine Gm.pure 25 rfl (by kernel_rfl) (fun _ => Y.pickF (v := (Value.bool false)) rfl rfl rfl rfl) (Gm.pure 26 rfl (by kernel_rfl) (fun _ => Y.mv (v := (Value.bool false)) rfl rfl) (Gm.pure 27 rfl (by kernel_rfl) (fun _ => Y.skip (unwantG rfl rfl rfl)) (Gm.pure 28 rfl (by kernel_rfl) (fun _ => Y.pickF (v := (Value.bool false)) rfl rfl rfl rfl) (Gm.pure 29 rfl (by kernel_rfl) (fun _ => Y.asg (v := (Value.bool false)) rfl rfl) (Gm.end (by kernel_rfl) (Th.m (Dw.ret ?_)))))))
                  exact fin1 rfl ⟨_, rfl, h⟩
              · refine Gm.pure 3 rfl (by kernel_rfl) (fun _ => Y.skip (unwantG rfl rfl hb90)) (Gm.pure 4 rfl (by kernel_rfl) (fun _ => Y.skip (unwantG rfl rfl hb90)) (Gm.pure 5 rfl (by kernel_rfl) (fun _ => Y.skip (unwantG rfl rfl hb90)) (Gm.pure 6 rfl (by kernel_rfl) (fun _ => Y.skip (unwantG rfl rfl hb90)) (Gm.pure 7 rfl (by kernel_rfl) (fun _ => Y.skip (unwantG rfl rfl hb90)) (Gm.pure 8 rfl (by kernel_rfl) (fun _ => Y.skip (unwantG rfl rfl hb90)) (Gm.pure 9 rfl (by kernel_rfl) (fun _ => Y.skip (unwantG rfl rfl hb90)) (Gm.pure 10 rfl (by kernel_rfl) (fun _ => Y.pickF (v := (Value.bool false)) rfl rfl hb90 rfl) (Gm.pure 11 rfl (by kernel_rfl) (fun _ => Y.mv (v := (Value.bool false)) rfl rfl) (Gm.pure 12 rfl (by kernel_rfl) (fun _ => Y.skip (unwantG rfl rfl rfl)) (Gm.pure 13 rfl (by kernel_rfl) (fun _ => Y.skip (unwantG rfl rfl rfl)) (Gm.pure 14 rfl (by kernel_rfl) (fun _ => Y.skip (unwantG rfl rfl rfl)) (Gm.pure 15 rfl (by kernel_rfl) (fun _ => Y.skip (unwantG rfl rfl rfl)) ?_))))))))))))
                refine Gm.pure 16 rfl (by kernel_rfl) (fun _ => Y.skip (unwantG rfl rfl rfl)) (Gm.pure 17 rfl (by kernel_rfl) (fun _ => Y.skip (unwantG rfl rfl rfl)) (Gm.pure 18 rfl (by kernel_rfl) (fun _ => Y.skip (unwantG rfl rfl rfl)) (Gm.pure 19 rfl (by kernel_rfl) (fun _ => Y.pickF (v := (Value.bool false)) rfl rfl rfl rfl) (Gm.pure 20 rfl (by kernel_rfl) (fun _ => Y.mv (v := (Value.bool false)) rfl rfl) (Gm.pure 21 rfl (by kernel_rfl) (fun _ => Y.skip (unwantG rfl rfl rfl)) (Gm.pure 22 rfl (by kernel_rfl) (fun _ => Y.skip (unwantG rfl rfl rfl)) (Gm.pure 23 rfl (by kernel_rfl) (fun _ => Y.skip (unwantG rfl rfl rfl)) (Gm.pure 24 rfl (by kernel_rfl) (fun _ => Y.skip (unwantG rfl rfl rfl)) (Gm.pure 25 rfl (by kernel_rfl) (fun _ => Y.pickF (v := (Value.bool false)) rfl rfl rfl rfl) (Gm.pure 26 rfl (by kernel_rfl) (fun _ => Y.mv (v := (Value.bool false)) rfl rfl) (Gm.pure 27 rfl (by kernel_rfl) (fun _ => Y.skip (unwantG rfl rfl rfl)) (Gm.pure 28 rfl (by kernel_rfl) (fun _ => Y.pickF (v := (Value.bool false)) rfl rfl rfl rfl) ?_))))))))))))
                refine Gm.pure 29 rfl (by kernel_rfl) (fun _ => Y.asg (v := (Value.bool false)) rfl rfl) (Gm.end (by kernel_rfl) (Th.m (Dw.ret ?_)))
                exact fin1 rfl ⟨_, rfl, h⟩
end L
end Go.Proofs.Ythepabefikobpaa
