/- The lifts: what is shown of a shallow text holds of the call. By a program (gen.py). No condition. -/
import Derived.Test.YthepabefikobpaaShal
namespace Go.Proofs.Ythepabefikobpaa
open Go Go.Sh
namespace L
set_option maxHeartbeats 1000000 in
set_option maxRecDepth 20000 in
theorem r23_Stable {p0 : Dfv} {p1 : Sl} {w : World} {R : Bool → World → Prop} (h : S.r23_Stable p0 p1 w R) : Calls Try.prog 66 [(.agg (Dfv.cs p0).toArray), (Sl.val p1)].toArray w (Ret Value.bool R) := by
  refine calls_of Try.func66 rfl rfl rfl (by kernel_rfl) rfl ?_
  unfold S.r23_Stable at h
  refine Dw.seq (Dw.region ?_)
  refine Dl.n (N.box rfl h rfl rfl fun b1 _ h => ?_)
  refine Dl.q (Y.asg (v := (Value.bool false)) rfl rfl) (Dl.nil (Th.m (Dw.seq ?_)))
  refine Dw.joinM (fun s j r => upd (mask r j 524032) 18 (Value.bool s)) h (fun C h => ?_) (fun q7 j w h => ?_)
  · refine Dw.region ?_
    obtain ⟨v3, hcv3, h⟩ := h
    refine Dl.q (Y.ldA rfl Try.isAgg27 Try.sizeOf27 (Dfv_len _) rfl hcv3) ?_
    refine Dl.n (N.call rfl Try.call33 rfl h ?_)
    intro r4 w h
    refine Dl.q (Y.not rfl rfl) (Dl.q (Y.mv (v := (Value.bool (!r4))) rfl rfl) ?_)
    refine M.split h (fun hb5 h => ?_) (fun hb5 h => ?_)
    · refine Dl.q (Y.skip (unwantG rfl rfl hb5)) (Dl.q (Y.skip (unwantG rfl rfl hb5)) (Dl.q (Y.skip (unwantG rfl rfl hb5)) (Dl.q (Y.skip (unwantG rfl rfl hb5)) (Dl.q (Y.skip (unwantG rfl rfl hb5)) (Dl.q (Y.skip (unwantG rfl rfl hb5)) (Dl.q (Y.pickT (v := (Value.bool true)) rfl rfl hb5 rfl) (Dl.nil ?_)))))))
      exact Th.m ⟨_, h, _, eqUpd rfl (eqMask (by repeat' (first | exact Off.refl _ _ | refine Off.u rfl ?_ | refine Off.m rfl ?_)))⟩
    · refine Dl.q (Y.mv (v := (Sl.val p1)) (wantG rfl rfl hb5) rfl) (Dl.q (Y.len (wantG rfl rfl hb5) Try.runUnderlying24 rfl) (Dl.q (Y.fa 258 (wantG rfl rfl hb5) Try.runUnderlying27 rfl Try.sizeOf24 (by decide) rfl rfl) ?_))
      obtain ⟨x6, hcx6, h⟩ := h
      refine Dl.q (Y.ld (wantG rfl rfl hb5) Try.isAgg24 rfl hcx6) (Dl.q (Y.len (wantG rfl rfl hb5) Try.runUnderlying24 rfl) (Dl.q (Y.neI (wantG rfl rfl hb5) rfl rfl) (Dl.q (Y.pickF (v := (Value.bool (!decide ((p1.len : Int) = (x6.len : Int))))) rfl rfl hb5 rfl) (Dl.nil ?_))))
      exact Th.m ⟨_, h, _, eqUpd rfl (eqMask (by repeat' (first | exact Off.refl _ _ | refine Off.u rfl ?_ | refine Off.m rfl ?_)))⟩
  · refine Dw.cond rfl (fun hb40 => ?_) (fun hb40 => ?_)
    · replace h := M.iteT h hb40
      refine Dw.seq (Dw.region (Dl.q (Y.asg (v := (Value.bool false)) rfl rfl) (Dl.nil (Th.m (Dw.ret (Th.r ?_))))))
      exact fin1 rfl ⟨_, rfl, h⟩
    · replace h := M.iteF h hb40
      refine Dw.skip (Th.m (Dw.seq (Dw.seq (Dw.region (Dl.q (Y.asg (v := (vI 0)) rfl rfl) (Dl.nil (Th.m (Dw.block ?_))))))))
      refine Dw.loopM (fun s j r => upd (mask r j 2361183241434822082800) 5 (vI s)) h ⟨_, eqUpd rfl (eqMask (by repeat' (first | exact Off.refl _ _ | refine Off.u rfl ?_ | refine Off.m rfl ?_)))⟩ ?_
      intro I m q8 j w h
      refine Dw.seq (Dw.seq (Dw.region (Dl.q (Y.mv (v := (vI q8)) rfl rfl) (Dl.q (Y.mv (v := (Sl.val p1)) rfl rfl) (Dl.q (Y.len rfl Try.runUnderlying24 rfl) (Dl.q (Y.lss rfl rfl rfl) (Dl.nil (Th.m ?_))))))))
      refine Dw.cond rfl (fun hb39 => ?_) (fun hb39 => ?_)
      · replace h := M.iteT h hb39
        refine Dw.skip (Th.m (Dw.seq (Dw.block (Dw.seq (Dw.region (Dl.q (Y.mv (v := (Sl.val p1)) rfl rfl) (Dl.q (Y.mv (v := (Sl.val p1)) rfl rfl) (Dl.q (Y.mv (v := (vI q8)) rfl rfl) ?_))))))))
        obtain ⟨a10, a100, ha, hi, he, h⟩ := h
        refine Dl.q (Y.ix rfl Try.runUnderlying24 Try.sizeOf3 rfl rfl ha hi he) ?_
        obtain ⟨x11, hcx11, h⟩ := h
        refine Dl.q (Y.ld rfl Try.isAgg3 rfl hcx11) ?_
        refine Dl.n (N.call rfl Try.call86 rfl h ?_)
        intro r12 w h
        refine Dl.q (Y.asg (v := (vI r12)) rfl rfl) (Dl.nil (Th.m (Dw.seq (Dw.seq (Dw.game (by kernel_rfl) ?_)))))
        replace h := M.drew_un h
        generalize World.drew _ = w at h ⊢
        refine Gm.pure 0 rfl (by kernel_rfl) (fun _ => Y.fa 258 rfl Try.runUnderlying27 rfl Try.sizeOf24 (by decide) rfl rfl) ?_
        obtain ⟨x13, hcx13, h⟩ := h
        refine Gm.quiet 1 rfl (by kernel_rfl) (fun _ hw => Y.ld rfl Try.isAgg24 rfl hw) hcx13 (Gm.pure 2 rfl (by kernel_rfl) (fun _ => Y.mv (v := (vI q8)) rfl rfl) ?_)
        obtain ⟨a14, a140, ha, hi, he, h⟩ := h
        refine Gm.pure 3 rfl (by kernel_rfl) (fun _ => Y.ix rfl Try.runUnderlying24 Try.sizeOf3 rfl rfl ha hi he) ?_
        obtain ⟨x15, hcx15, h⟩ := h
        refine Gm.quiet 4 rfl (by kernel_rfl) (fun _ hw => Y.ld rfl Try.isAgg3 rfl hw) hcx15 (Gm.pure 5 rfl (by kernel_rfl) (fun _ => Y.fa 258 rfl Try.runUnderlying27 rfl Try.sizeOf24 (by decide) rfl rfl) ?_)
        obtain ⟨x16, hcx16, h⟩ := h
        refine Gm.quiet 6 rfl (by kernel_rfl) (fun _ hw => Y.ld rfl Try.isAgg24 rfl hw) hcx16 (Gm.pure 7 rfl (by kernel_rfl) (fun _ => Y.mv (v := (vI r12)) rfl rfl) ?_)
        obtain ⟨a17, a170, ha, hi, he, h⟩ := h
        refine Gm.pure 8 rfl (by kernel_rfl) (fun _ => Y.ix rfl Try.runUnderlying24 Try.sizeOf3 rfl rfl ha hi he) ?_
        obtain ⟨x18, hcx18, h⟩ := h
        refine Gm.quiet 9 rfl (by kernel_rfl) (fun _ hw => Y.ld rfl Try.isAgg3 rfl hw) hcx18 (Gm.pure 10 rfl (by kernel_rfl) (fun _ => Y.neI rfl rfl rfl) (Gm.end (by kernel_rfl) (Th.m ?_)))
        refine Dw.cond rfl (fun hb38 => ?_) (fun hb38 => ?_)
        · replace h := M.iteT h hb38
          refine Dw.seq (Dw.region (Dl.q (Y.asg (v := (Value.bool false)) rfl rfl) (Dl.nil (Th.m (Dw.ret (Th.r (InB.r (Th.r (Th.r (InB.r (Th.r ?_)))))))))))
          exact fin1 rfl ⟨_, rfl, h⟩
        · replace h := M.iteF h hb38
          refine Dw.skip (Th.m (Dw.seq (Dw.region (Dl.q (Y.asg (v := (vI 0)) rfl rfl) (Dl.nil (Th.m (Dw.block ?_)))))))
          refine Dw.loopM (fun s j r => upd (mask r j 2361183237036776095888) 7 (vI s)) h ⟨_, eqUpd rfl (eqMask (by repeat' (first | exact Off.refl _ _ | refine Off.u rfl ?_ | refine Off.m rfl ?_)))⟩ ?_
          intro I m q19 j w h
          refine Dw.seq (Dw.seq (Dw.region (Dl.q (Y.mv (v := (vI q19)) rfl rfl) (Dl.q (Y.fa 256 rfl Try.runUnderlying27 rfl Try.sizeOf3 (by decide) rfl rfl) ?_))))
          obtain ⟨x21, hcx21, h⟩ := h
          refine Dl.q (Y.ld rfl Try.isAgg3 rfl hcx21) (Dl.q (Y.lss rfl rfl rfl) (Dl.nil (Th.m ?_)))
          refine Dw.cond rfl (fun hb37 => ?_) (fun hb37 => ?_)
          · replace h := M.iteT h hb37
            refine Dw.skip (Th.m (Dw.seq (Dw.block (Dw.seq (Dw.game (by kernel_rfl) ?_)))))
            replace h := M.drew_un h
            generalize World.drew _ = w at h ⊢
            refine Gm.pure 0 rfl (by kernel_rfl) (fun _ => Y.mv (v := (Sl.val p1)) rfl rfl) (Gm.pure 1 rfl (by kernel_rfl) (fun _ => Y.fa 257 rfl Try.runUnderlying27 rfl Try.sizeOf23 (by decide) rfl rfl) ?_)
            obtain ⟨x22, hcx22, h⟩ := h
            refine Gm.quiet 2 rfl (by kernel_rfl) (fun _ hw => Y.ld rfl Try.isAgg23 rfl hw) hcx22 (Gm.pure 3 rfl (by kernel_rfl) (fun _ => Y.mv (v := (vI q8)) rfl rfl) ?_)
            obtain ⟨a23, a230, ha, hi, he, h⟩ := h
            refine Gm.pure 4 rfl (by kernel_rfl) (fun _ => Y.ix rfl Try.runUnderlying23 Try.sizeOf24 rfl rfl ha hi he) ?_
            obtain ⟨x24, hcx24, h⟩ := h
            refine Gm.quiet 5 rfl (by kernel_rfl) (fun _ hw => Y.ld rfl Try.isAgg24 rfl hw) hcx24 (Gm.pure 6 rfl (by kernel_rfl) (fun _ => Y.mv (v := (vI q19)) rfl rfl) ?_)
            obtain ⟨a25, a250, ha, hi, he, h⟩ := h
            refine Gm.pure 7 rfl (by kernel_rfl) (fun _ => Y.ix rfl Try.runUnderlying24 Try.sizeOf3 rfl rfl ha hi he) ?_
            obtain ⟨x26, hcx26, h⟩ := h
            refine Gm.quiet 8 rfl (by kernel_rfl) (fun _ hw => Y.ld rfl Try.isAgg3 rfl hw) hcx26 ?_
            obtain ⟨a27, a270, ha, hi, he, h⟩ := h
            refine Gm.pure 9 rfl (by kernel_rfl) (fun _ => Y.ix rfl Try.runUnderlying24 Try.sizeOf3 rfl rfl ha hi he) ?_
            obtain ⟨x28, hcx28, h⟩ := h
            refine Gm.quiet 10 rfl (by kernel_rfl) (fun _ hw => Y.ld rfl Try.isAgg3 rfl hw) hcx28 (Gm.pure 11 rfl (by kernel_rfl) (fun _ => Y.mv (v := (Sl.val p1)) rfl rfl) (Gm.pure 12 rfl (by kernel_rfl) (fun _ => Y.fa 257 rfl Try.runUnderlying27 rfl Try.sizeOf23 (by decide) rfl rfl) ?_))
            obtain ⟨x29, hcx29, h⟩ := h
            refine Gm.quiet 13 rfl (by kernel_rfl) (fun _ hw => Y.ld rfl Try.isAgg23 rfl hw) hcx29 (Gm.pure 14 rfl (by kernel_rfl) (fun _ => Y.mv (v := (vI r12)) rfl rfl) ?_)
            obtain ⟨a30, a300, ha, hi, he, h⟩ := h
            refine Gm.pure 15 rfl (by kernel_rfl) (fun _ => Y.ix rfl Try.runUnderlying23 Try.sizeOf24 rfl rfl ha hi he) ?_
            obtain ⟨x31, hcx31, h⟩ := h
            refine Gm.quiet 16 rfl (by kernel_rfl) (fun _ hw => Y.ld rfl Try.isAgg24 rfl hw) hcx31 (Gm.pure 17 rfl (by kernel_rfl) (fun _ => Y.mv (v := (vI q19)) rfl rfl) ?_)
            obtain ⟨a32, a320, ha, hi, he, h⟩ := h
            refine Gm.pure 18 rfl (by kernel_rfl) (fun _ => Y.ix rfl Try.runUnderlying24 Try.sizeOf3 rfl rfl ha hi he) ?_
            obtain ⟨x33, hcx33, h⟩ := h
            refine Gm.quiet 19 rfl (by kernel_rfl) (fun _ hw => Y.ld rfl Try.isAgg3 rfl hw) hcx33 ?_
            obtain ⟨a34, a340, ha, hi, he, h⟩ := h
            refine Gm.pure 20 rfl (by kernel_rfl) (fun _ => Y.ix rfl Try.runUnderlying24 Try.sizeOf3 rfl rfl ha hi he) ?_
            obtain ⟨x35, hcx35, h⟩ := h
            refine Gm.quiet 21 rfl (by kernel_rfl) (fun _ hw => Y.ld rfl Try.isAgg3 rfl hw) hcx35 (Gm.pure 22 rfl (by kernel_rfl) (fun _ => Y.neI rfl rfl rfl) (Gm.end (by kernel_rfl) (Th.m ?_)))
            refine Dw.cond rfl (fun hb36 => ?_) (fun hb36 => ?_)
            · replace h := M.iteT h hb36
              refine Dw.seq (Dw.region (Dl.q (Y.asg (v := (Value.bool false)) rfl rfl) (Dl.nil (Th.m (Dw.ret (InB.r (Th.r (Th.r (InB.r (InB.r (Th.r (Th.r ?_))))))))))))
              refine InB.r (Th.r ?_)
              exact fin1 rfl ⟨_, rfl, h⟩
            · replace h := M.iteF h hb36
              refine Dw.skip (InB.m (Th.m (Dw.region (Dl.q (Y.mv (v := (vI q19)) rfl rfl) (Dl.q (Y.add rfl rfl rfl) (Dl.q (Y.asg (v := (vI (wI (q19 + 1)))) rfl rfl) (Dl.nil ?_)))))))
              exact Th.m ⟨_, h, _, eqUpd rfl (eqMask (by repeat' (first | exact Off.refl _ _ | refine Off.u rfl ?_ | refine Off.m rfl ?_)))⟩
          · replace h := M.iteF h hb37
            refine Dw.exit (Th.e (Th.e (InB.e (InB.m (Th.m (Dw.region (Dl.q (Y.mv (v := (vI q8)) rfl rfl) (Dl.q (Y.add rfl rfl rfl) (Dl.q (Y.asg (v := (vI (wI (q8 + 1)))) rfl rfl) (Dl.nil ?_))))))))))
            exact Th.m ⟨_, h, _, eqUpd rfl (eqMask (by repeat' (first | exact Off.refl _ _ | refine Off.u rfl ?_ | refine Off.m rfl ?_)))⟩
      · replace h := M.iteF h hb39
        refine Dw.exit (Th.e (Th.e (InB.e (Th.m (Dw.seq (Dw.region (Dl.q (Y.asg (v := (Value.bool true)) rfl rfl) (Dl.nil (Th.m (Dw.ret ?_))))))))))
        exact fin1 rfl ⟨_, rfl, h⟩
set_option maxHeartbeats 1000000 in
set_option maxRecDepth 20000 in
theorem r23_Norm {p0 : Sl} {w : World} {R : Sl → World → Prop} (h : S.r23_Norm p0 w R) : Calls Try.prog 67 [(Sl.val p0)].toArray w (Ret Sl.val R) := by
  refine calls_of Try.func67 rfl rfl rfl (by kernel_rfl) rfl ?_
  unfold S.r23_Norm at h
  refine Dw.seq (Dw.region (Dl.q (Y.asg (v := (Sl.val Sl.nil)) rfl rfl) (Dl.nil (Th.m (Dw.seq (Dw.region ?_))))))
  refine Dl.n (N.mkS rfl Try.runUnderlying24 Try.sizeOf3 Try.zeroValue3 h rfl rfl rfl rfl rfl fun b1 _ h => ?_)
  refine Dl.q (Y.asg (v := (Sl.val (⟨some b1, 0, 0⟩ : Sl))) rfl rfl) (Dl.nil (Th.m (Dw.seq (Dw.region (Dl.q (Y.asg (v := (vI 0)) rfl rfl) (Dl.nil (Th.m (Dw.seq (Dw.seq (Dw.region (Dl.q (Y.asg (v := (vI 0)) rfl rfl) (Dl.nil ?_))))))))))))
  refine Th.m (Dw.block ?_)
  refine Dw.loopM (fun s j r => upd (upd (upd (mask r j 68719476600) 3 (Sl.val s.1)) 4 (vI s.2.1)) 5 (vI s.2.2)) h ⟨_, eqUpd rfl (eqUpd rfl (eqUpd rfl (eqMask (by repeat' (first | exact Off.refl _ _ | refine Off.u rfl ?_ | refine Off.m rfl ?_)))))⟩ ?_
  intro I m q2 j w h
  refine Dw.seq (Dw.seq (Dw.region (Dl.q (Y.mv (v := (vI q2.2.2)) rfl rfl) (Dl.q (Y.mv (v := (Sl.val p0)) rfl rfl) (Dl.q (Y.len rfl Try.runUnderlying24 rfl) (Dl.q (Y.lss rfl rfl rfl) (Dl.nil (Th.m ?_))))))))
  refine Dw.cond rfl (fun hb14 => ?_) (fun hb14 => ?_)
  · replace h := M.iteT h hb14
    refine Dw.skip (Th.m (Dw.seq (Dw.block (Dw.seq (Dw.region (Dl.q (Y.mv (v := (Sl.val p0)) rfl rfl) (Dl.q (Y.mv (v := (Sl.val p0)) rfl rfl) (Dl.q (Y.mv (v := (vI q2.2.2)) rfl rfl) ?_))))))))
    obtain ⟨a4, a40, ha, hi, he, h⟩ := h
    refine Dl.q (Y.ix rfl Try.runUnderlying24 Try.sizeOf3 rfl rfl ha hi he) ?_
    obtain ⟨x5, hcx5, h⟩ := h
    refine Dl.q (Y.ld rfl Try.isAgg3 rfl hcx5) ?_
    refine Dl.n (N.call rfl Try.call86 rfl h ?_)
    intro r6 w h
    refine Dl.q (Y.asg (v := (vI r6)) rfl rfl) (Dl.nil (Th.m (Dw.seq (Dw.region (Dl.q (Y.mv (v := (vI r6)) rfl rfl) (Dl.q (Y.mv (v := (vI q2.2.2)) rfl rfl) (Dl.q (Y.eqI rfl rfl rfl) (Dl.nil (Th.m ?_)))))))))
    refine Dw.cond rfl (fun hb13 => ?_) (fun hb13 => ?_)
    · replace h := M.iteT h hb13
      refine Dw.seq (Dw.region (Dl.q (Y.mv (v := (Sl.val q2.1)) rfl rfl) (Dl.q (Y.mv (v := (vI q2.2.1)) rfl rfl) ?_)))
      refine Dl.n (N.mkS rfl Try.runUnderlying24 Try.sizeOf3 Try.zeroValue3 h rfl rfl rfl rfl rfl fun b7 _ h => ?_)
      obtain ⟨s8, w, ha, h⟩ := h
      refine Dl.n (N.blt rfl rfl (fun _ => rfl) ha ?_)
      refine Dl.q (Y.asg (v := (Sl.val s8)) rfl rfl) (Dl.nil (Th.m (Dw.region (Dl.q (Y.mv (v := (vI q2.2.1)) rfl rfl) (Dl.q (Y.add rfl rfl rfl) (Dl.q (Y.asg (v := (vI (wI (q2.2.1 + 1)))) rfl rfl) (Dl.nil (InB.m (Th.m (Dw.region (Dl.q (Y.mv (v := (vI q2.2.2)) rfl rfl) (Dl.q (Y.add rfl rfl rfl) ?_))))))))))))
      refine Dl.q (Y.asg (v := (vI (wI (q2.2.2 + 1)))) rfl rfl) (Dl.nil ?_)
      exact Th.m ⟨_, h, _, eqUpd rfl (eqUpd rfl (eqUpd rfl (eqMask (by repeat' (first | exact Off.refl _ _ | refine Off.u rfl ?_ | refine Off.m rfl ?_)))))⟩
    · replace h := M.iteF h hb13
      refine Dw.region (Dl.q (Y.mv (v := (Sl.val q2.1)) rfl rfl) (Dl.q (Y.mv (v := (Sl.val q2.1)) rfl rfl) (Dl.q (Y.mv (v := (vI r6)) rfl rfl) ?_)))
      obtain ⟨a9, a90, ha, hi, he, h⟩ := h
      refine Dl.q (Y.ix rfl Try.runUnderlying24 Try.sizeOf3 rfl rfl ha hi he) ?_
      obtain ⟨x10, hcx10, h⟩ := h
      refine Dl.q (Y.ld rfl Try.isAgg3 rfl hcx10) ?_
      refine Dl.n (N.mkS rfl Try.runUnderlying24 Try.sizeOf3 Try.zeroValue3 h rfl rfl rfl rfl rfl fun b11 _ h => ?_)
      obtain ⟨s12, w, ha, h⟩ := h
      refine Dl.n (N.blt rfl rfl (fun _ => rfl) ha ?_)
      refine Dl.q (Y.asg (v := (Sl.val s12)) rfl rfl) (Dl.nil (InB.m (Th.m (Dw.region (Dl.q (Y.mv (v := (vI q2.2.2)) rfl rfl) (Dl.q (Y.add rfl rfl rfl) (Dl.q (Y.asg (v := (vI (wI (q2.2.2 + 1)))) rfl rfl) (Dl.nil ?_))))))))
      exact Th.m ⟨_, h, _, eqUpd rfl (eqUpd rfl (eqUpd rfl (eqMask (by repeat' (first | exact Off.refl _ _ | refine Off.u rfl ?_ | refine Off.m rfl ?_)))))⟩
  · replace h := M.iteF h hb14
    refine Dw.exit (Th.e (Th.e (InB.e (Th.m (Dw.seq (Dw.region (Dl.q (Y.mv (v := (Sl.val q2.1)) rfl rfl) (Dl.q (Y.asg (v := (Sl.val q2.1)) rfl rfl) (Dl.nil (Th.m (Dw.ret ?_)))))))))))
    exact fin1 rfl ⟨_, rfl, h⟩
set_option maxHeartbeats 1000000 in
set_option maxRecDepth 20000 in
theorem r24_apart {p0 : Dfv} {p1 : Int} {w : World} {R : Sl → World → Prop} (h : S.r24_apart p0 p1 w R) : Calls Try.prog 68 [(.agg (Dfv.cs p0).toArray), (vI p1)].toArray w (Ret Sl.val R) := by
  refine calls_of Try.func68 rfl rfl rfl (by kernel_rfl) rfl ?_
  unfold S.r24_apart at h
  refine Dw.seq (Dw.region ?_)
  refine Dl.n (N.box rfl h rfl rfl fun b1 _ h => ?_)
  refine Dl.q (Y.asg (v := (Sl.val Sl.nil)) rfl rfl) (Dl.nil (Th.m (Dw.seq (Dw.region (Dl.q (Y.fa 258 rfl Try.runUnderlying27 rfl Try.sizeOf24 (by decide) rfl rfl) ?_)))))
  obtain ⟨x2, hcx2, h⟩ := h
  refine Dl.q (Y.ld rfl Try.isAgg24 rfl hcx2) (Dl.q (Y.len rfl Try.runUnderlying24 rfl) (Dl.q (Y.asg (v := (vI (x2.len : Int))) rfl rfl) (Dl.nil (Th.m (Dw.seq (Dw.region ?_))))))
  refine Dl.n (N.mkS rfl Try.runUnderlying80 Try.sizeOf82 Try.zeroValue82 h rfl rfl rfl rfl rfl fun b3 _ h => ?_)
  refine Dl.q (Y.asg (v := (Sl.val (⟨some b3, 0, 0⟩ : Sl))) rfl rfl) (Dl.nil (Th.m (Dw.seq (Dw.seq (Dw.region (Dl.q (Y.asg (v := (vI 0)) rfl rfl) (Dl.nil (Th.m (Dw.block ?_)))))))))
  refine Dw.loopM (fun s j r => upd (upd (mask r j 1125899904746432) 6 (Sl.val s.1)) 7 (vI s.2)) h ⟨_, eqUpd rfl (eqUpd rfl (eqMask (by repeat' (first | exact Off.refl _ _ | refine Off.u rfl ?_ | refine Off.m rfl ?_))))⟩ ?_
  intro I m q4 j w h
  refine Dw.seq (Dw.seq (Dw.region (Dl.q (Y.mv (v := (vI q4.2)) rfl rfl) (Dl.q (Y.mv (v := (vI (x2.len : Int))) rfl rfl) (Dl.q (Y.lss rfl rfl rfl) (Dl.nil (Th.m ?_)))))))
  refine Dw.cond rfl (fun hb81 => ?_) (fun hb81 => ?_)
  · replace h := M.iteT h hb81
    refine Dw.skip (Th.m (Dw.seq (Dw.block (Dw.seq (Dw.region ?_)))))
    refine Dl.n (N.mkS rfl Try.runUnderlying82 Try.sizeOf4 Try.zeroValue4 h rfl rfl rfl rfl rfl fun b6 _ h => ?_)
    refine Dl.q (Y.asg (v := (Sl.val (⟨some b6, 0, 0⟩ : Sl))) rfl rfl) (Dl.nil (Th.m (Dw.seq (Dw.seq (Dw.region (Dl.q (Y.asg (v := (vI 0)) rfl rfl) (Dl.nil (Th.m (Dw.block ?_)))))))))
    refine Dw.loopM (fun s j r => upd (upd (mask r j 70368609960704) 8 (Sl.val s.1)) 9 (vI s.2)) h ⟨_, eqUpd rfl (eqUpd rfl (eqMask (by repeat' (first | exact Off.refl _ _ | refine Off.u rfl ?_ | refine Off.m rfl ?_))))⟩ ?_
    intro I m q7 j w h
    refine Dw.seq (Dw.seq (Dw.region (Dl.q (Y.mv (v := (vI q7.2)) rfl rfl) (Dl.q (Y.mv (v := (vI (x2.len : Int))) rfl rfl) (Dl.q (Y.lss rfl rfl rfl) (Dl.nil (Th.m ?_)))))))
    refine Dw.cond rfl (fun hb27 => ?_) (fun hb27 => ?_)
    · replace h := M.iteT h hb27
      refine Dw.skip (Th.m (Dw.seq (Dw.block (Dw.game (by kernel_rfl) ?_))))
      replace h := M.drew_un h
      generalize World.drew _ = w at h ⊢
      refine Gm.pure 0 rfl (by kernel_rfl) (fun _ => Y.mv (v := (Sl.val q7.1)) rfl rfl) (Gm.pure 1 rfl (by kernel_rfl) (fun _ => Y.fa 258 rfl Try.runUnderlying27 rfl Try.sizeOf24 (by decide) rfl rfl) ?_)
      obtain ⟨x9, hcx9, h⟩ := h
      refine Gm.quiet 2 rfl (by kernel_rfl) (fun _ hw => Y.ld rfl Try.isAgg24 rfl hw) hcx9 (Gm.pure 3 rfl (by kernel_rfl) (fun _ => Y.mv (v := (vI q4.2)) rfl rfl) ?_)
      obtain ⟨a10, a100, ha, hi, he, h⟩ := h
      refine Gm.pure 4 rfl (by kernel_rfl) (fun _ => Y.ix rfl Try.runUnderlying24 Try.sizeOf3 rfl rfl ha hi he) ?_
      obtain ⟨x11, hcx11, h⟩ := h
      refine Gm.quiet 5 rfl (by kernel_rfl) (fun _ hw => Y.ld rfl Try.isAgg3 rfl hw) hcx11 (Gm.pure 6 rfl (by kernel_rfl) (fun _ => Y.fa 258 rfl Try.runUnderlying27 rfl Try.sizeOf24 (by decide) rfl rfl) ?_)
      obtain ⟨x12, hcx12, h⟩ := h
      refine Gm.quiet 7 rfl (by kernel_rfl) (fun _ hw => Y.ld rfl Try.isAgg24 rfl hw) hcx12 (Gm.pure 8 rfl (by kernel_rfl) (fun _ => Y.mv (v := (vI q7.2)) rfl rfl) ?_)
      obtain ⟨a13, a130, ha, hi, he, h⟩ := h
      refine Gm.pure 9 rfl (by kernel_rfl) (fun _ => Y.ix rfl Try.runUnderlying24 Try.sizeOf3 rfl rfl ha hi he) ?_
      obtain ⟨x14, hcx14, h⟩ := h
      refine Gm.quiet 10 rfl (by kernel_rfl) (fun _ hw => Y.ld rfl Try.isAgg3 rfl hw) hcx14 (Gm.pure 11 rfl (by kernel_rfl) (fun _ => Y.neI rfl rfl rfl) (Gm.one' 12 rfl (by kernel_rfl) (.keep (by kernel_rfl) (.keep (by kernel_rfl) (.keep (by kernel_rfl) (.keep (by kernel_rfl) .nil)))) (N.mkS rfl Try.runUnderlying82 Try.sizeOf4 Try.zeroValue4 h rfl rfl rfl rfl rfl fun b15 _ h => ?_)))
      obtain ⟨hp16, h⟩ := h
      obtain ⟨hp17, h⟩ := h
      obtain ⟨hp18, h⟩ := h
      obtain ⟨hp19, h⟩ := h
      refine ⟨(pdC hp16 (pdC hp17 (pdC hp18 (pdC hp19 pdN)))), ?_⟩
      generalize World.alloc _ _ = w at h ⊢
      refine Gm.one' 13 rfl (by kernel_rfl) (.keep (by kernel_rfl) (.keep (by kernel_rfl) (.keep (by kernel_rfl) (.keep (by kernel_rfl) .nil)))) ?_
      obtain ⟨s20, w, ha, h⟩ := h
      refine N.blt rfl rfl (fun _ => rfl) ha ?_
      obtain ⟨hp21, h⟩ := h
      obtain ⟨hp22, h⟩ := h
      obtain ⟨hp23, h⟩ := h
      obtain ⟨hp24, h⟩ := h
      refine ⟨(pdC hp21 (pdC hp22 (pdC hp23 (pdC hp24 pdN)))), ?_⟩
      refine Gm.pure 14 rfl (by kernel_rfl) (fun _ => Y.asg (v := (Sl.val s20)) rfl rfl) (Gm.end (by kernel_rfl) (InB.m (Th.m (Dw.region (Dl.q (Y.mv (v := (vI q7.2)) rfl rfl) (Dl.q (Y.add rfl rfl rfl) (Dl.q (Y.asg (v := (vI (wI (q7.2 + 1)))) rfl rfl) (Dl.nil ?_))))))))
      exact Th.m ⟨_, h, _, eqUpd rfl (eqUpd rfl (eqMask (by repeat' (first | exact Off.refl _ _ | refine Off.u rfl ?_ | refine Off.m rfl ?_))))⟩
    · replace h := M.iteF h hb27
      refine Dw.exit (Th.e (Th.e (InB.e (Th.m (Dw.region (Dl.q (Y.mv (v := (Sl.val q4.1)) rfl rfl) (Dl.q (Y.mv (v := (Sl.val q7.1)) rfl rfl) ?_)))))))
      refine Dl.n (N.mkS rfl Try.runUnderlying80 Try.sizeOf82 Try.zeroValue82 h rfl rfl rfl rfl rfl fun b25 _ h => ?_)
      obtain ⟨s26, w, ha, h⟩ := h
      refine Dl.n (N.blt rfl rfl (fun _ => rfl) ha ?_)
      refine Dl.q (Y.asg (v := (Sl.val s26)) rfl rfl) (Dl.nil (InB.m (Th.m (Dw.region (Dl.q (Y.mv (v := (vI q4.2)) rfl rfl) (Dl.q (Y.add rfl rfl rfl) (Dl.q (Y.asg (v := (vI (wI (q4.2 + 1)))) rfl rfl) (Dl.nil ?_))))))))
      exact Th.m ⟨_, h, _, eqUpd rfl (eqUpd rfl (eqMask (by repeat' (first | exact Off.refl _ _ | refine Off.u rfl ?_ | refine Off.m rfl ?_))))⟩
  · replace h := M.iteF h hb81
    refine Dw.exit (Th.e (Th.e (InB.e (Th.m (Dw.seq (Dw.seq (Dw.region (Dl.q (Y.asg (v := (vI 0)) rfl rfl) (Dl.nil (Th.m (Dw.block ?_)))))))))))
    refine Dw.loopM (fun s j r => upd (mask r j 87112285931760246646623898376632755420176) 10 (vI s)) h ⟨_, eqUpd rfl (eqMask (by repeat' (first | exact Off.refl _ _ | refine Off.u rfl ?_ | refine Off.m rfl ?_)))⟩ ?_
    intro I m q28 j w h
    refine Dw.seq (Dw.seq (Dw.region (Dl.q (Y.mv (v := (vI q28)) rfl rfl) (Dl.q (Y.mv (v := (vI p1)) rfl rfl) (Dl.q (Y.lss rfl rfl rfl) (Dl.nil (Th.m ?_)))))))
    refine Dw.cond rfl (fun hb80 => ?_) (fun hb80 => ?_)
    · replace h := M.iteT h hb80
      refine Dw.skip (Th.m (Dw.seq (Dw.block (Dw.seq (Dw.region (Dl.q (Y.asg (v := (Value.bool false)) rfl rfl) (Dl.nil (Th.m (Dw.seq (Dw.region ?_))))))))))
      refine Dl.n (N.mkS rfl Try.runUnderlying80 Try.sizeOf82 Try.zeroValue82 h rfl rfl rfl rfl rfl fun b30 _ h => ?_)
      refine Dl.q (Y.asg (v := (Sl.val (⟨some b30, 0, 0⟩ : Sl))) rfl rfl) (Dl.nil (Th.m (Dw.seq (Dw.seq (Dw.region (Dl.q (Y.asg (v := (vI 0)) rfl rfl) (Dl.nil (Th.m (Dw.block ?_)))))))))
      refine Dw.loopM (fun s j r => upd (upd (mask r j 1180519563123373387776) 12 (Sl.val s.1)) 13 (vI s.2)) h ⟨_, eqUpd rfl (eqUpd rfl (eqMask (by repeat' (first | exact Off.refl _ _ | refine Off.u rfl ?_ | refine Off.m rfl ?_))))⟩ ?_
      intro I m q31 j w h
      refine Dw.seq (Dw.seq (Dw.region (Dl.q (Y.mv (v := (vI q31.2)) rfl rfl) (Dl.q (Y.mv (v := (vI (x2.len : Int))) rfl rfl) (Dl.q (Y.lss rfl rfl rfl) (Dl.nil (Th.m ?_)))))))
      refine Dw.cond rfl (fun hb79 => ?_) (fun hb79 => ?_)
      · replace h := M.iteT h hb79
        refine Dw.skip (Th.m (Dw.seq (Dw.block (Dw.region (Dl.q (Y.mv (v := (Sl.val q31.1)) rfl rfl) ?_)))))
        refine Dl.n (N.mkS rfl Try.runUnderlying82 Try.sizeOf4 Try.zeroValue4 h rfl rfl rfl rfl rfl fun b33 _ h => ?_)
        refine Dl.q (Y.mv (v := (Sl.val q4.1)) rfl rfl) (Dl.q (Y.mv (v := (vI q31.2)) rfl rfl) ?_)
        obtain ⟨a34, a340, ha, hi, he, h⟩ := h
        refine Dl.q (Y.ix rfl Try.runUnderlying80 Try.sizeOf82 rfl rfl ha hi he) ?_
        obtain ⟨x35, hcx35, h⟩ := h
        refine Dl.q (Y.ld rfl Try.isAgg82 rfl hcx35) ?_
        obtain ⟨s36, w, ha, h⟩ := h
        refine Dl.n (N.blt rfl rfl (fun _ => rfl) ha ?_)
        refine Dl.n (N.mkS rfl Try.runUnderlying80 Try.sizeOf82 Try.zeroValue82 h rfl rfl rfl rfl rfl fun b37 _ h => ?_)
        obtain ⟨s38, w, ha, h⟩ := h
        refine Dl.n (N.blt rfl rfl (fun _ => rfl) ha ?_)
        refine Dl.q (Y.asg (v := (Sl.val s38)) rfl rfl) (Dl.nil (InB.m (Th.m (Dw.region (Dl.q (Y.mv (v := (vI q31.2)) rfl rfl) (Dl.q (Y.add rfl rfl rfl) (Dl.q (Y.asg (v := (vI (wI (q31.2 + 1)))) rfl rfl) (Dl.nil ?_))))))))
        exact Th.m ⟨_, h, _, eqUpd rfl (eqUpd rfl (eqMask (by repeat' (first | exact Off.refl _ _ | refine Off.u rfl ?_ | refine Off.m rfl ?_))))⟩
      · replace h := M.iteF h hb79
        refine Dw.exit (Th.e (Th.e (InB.e (Th.m (Dw.seq (Dw.seq (Dw.region (Dl.q (Y.asg (v := (vI 0)) rfl rfl) (Dl.nil (Th.m (Dw.block ?_)))))))))))
        refine Dw.loopM (fun s j r => upd (upd (mask r j 10889035741470030829647395817099171579904) 11 (Value.bool s.1)) 14 (vI s.2)) h ⟨_, eqUpd rfl (eqUpd rfl (eqMask (by repeat' (first | exact Off.refl _ _ | refine Off.u rfl ?_ | refine Off.m rfl ?_))))⟩ ?_
        intro I m q39 j w h
        refine Dw.seq (Dw.seq (Dw.region (Dl.q (Y.mv (v := (vI q39.2)) rfl rfl) (Dl.q (Y.mv (v := (vI (x2.len : Int))) rfl rfl) (Dl.q (Y.lss rfl rfl rfl) (Dl.nil (Th.m ?_)))))))
        refine Dw.cond rfl (fun hb78 => ?_) (fun hb78 => ?_)
        · replace h := M.iteT h hb78
          refine Dw.skip (Th.m (Dw.seq (Dw.block (Dw.seq (Dw.region (Dl.q (Y.asg (v := (vI 0)) rfl rfl) (Dl.nil (Th.m (Dw.block ?_)))))))))
          refine Dw.loopM (fun s j r => upd (upd (mask r j 10889035741470030793049055574859421157376) 11 (Value.bool s.1)) 15 (vI s.2)) h ⟨_, eqUpd rfl (eqUpd rfl (eqMask (by repeat' (first | exact Off.refl _ _ | refine Off.u rfl ?_ | refine Off.m rfl ?_))))⟩ ?_
          intro I m q41 j w h
          refine Dw.seq (Dw.seq (Dw.region (Dl.q (Y.mv (v := (vI q41.2)) rfl rfl) (Dl.q (Y.mv (v := (vI (x2.len : Int))) rfl rfl) (Dl.q (Y.lss rfl rfl rfl) (Dl.nil (Th.m ?_)))))))
          refine Dw.cond rfl (fun hb76 => ?_) (fun hb76 => ?_)
          · replace h := M.iteT h hb76
            refine Dw.skip (Th.m (Dw.seq (Dw.block (Dw.seq (Dw.region (Dl.q (Y.asg (v := (vI 0)) rfl rfl) (Dl.nil (Th.m (Dw.block ?_)))))))))
            refine Dw.loopM (fun s j r => upd (upd (mask r j 10889035741470029621902167823187408128000) 11 (Value.bool s.1)) 16 (vI s.2)) h ⟨_, eqUpd rfl (eqUpd rfl (eqMask (by repeat' (first | exact Off.refl _ _ | refine Off.u rfl ?_ | refine Off.m rfl ?_))))⟩ ?_
            intro I m q43 j w h
            refine Dw.seq ?_
            refine Dw.joinM (fun s j r => upd (mask r j 19805831702746469769211281408) 93 (Value.bool s)) h (fun C h => ?_) (fun q52 j w h => ?_)
            · refine Dw.region (Dl.q (Y.mv (v := (vI q43.2)) rfl rfl) (Dl.q (Y.fa 256 rfl Try.runUnderlying27 rfl Try.sizeOf3 (by decide) rfl rfl) ?_))
              obtain ⟨x46, hcx46, h⟩ := h
              refine Dl.q (Y.ld rfl Try.isAgg3 rfl hcx46) (Dl.q (Y.lss rfl rfl rfl) (Dl.q (Y.mv (v := (Value.bool (decide (q43.2 < x46)))) rfl rfl) ?_))
              refine M.split h (fun hb47 h => ?_) (fun hb47 h => ?_)
              · refine Dl.q (Y.mv (v := (Sl.val q4.1)) (wantG rfl rfl hb47) rfl) (Dl.q (Y.mv (v := (vI q39.2)) (wantG rfl rfl hb47) rfl) ?_)
                obtain ⟨a48, a480, ha, hi, he, h⟩ := h
                refine Dl.q (Y.ix (wantG rfl rfl hb47) Try.runUnderlying80 Try.sizeOf82 rfl rfl ha hi he) ?_
                obtain ⟨x49, hcx49, h⟩ := h
                refine Dl.q (Y.ld (wantG rfl rfl hb47) Try.isAgg82 rfl hcx49) (Dl.q (Y.mv (v := (vI q41.2)) (wantG rfl rfl hb47) rfl) ?_)
                obtain ⟨a50, a500, ha, hi, he, h⟩ := h
                refine Dl.q (Y.ix (wantG rfl rfl hb47) Try.runUnderlying82 Try.sizeOf4 rfl rfl ha hi he) ?_
                obtain ⟨x51, hcx51, h⟩ := h
                refine Dl.q (Y.ld (wantG rfl rfl hb47) Try.isAgg4 rfl hcx51) (Dl.q (Y.not (wantG rfl rfl hb47) rfl) (Dl.q (Y.pickT (v := (Value.bool (!x51))) rfl rfl hb47 rfl) (Dl.nil ?_)))
                exact Th.m ⟨_, h, _, eqUpd rfl (eqMask (by repeat' (first | exact Off.refl _ _ | refine Off.u rfl ?_ | refine Off.m rfl ?_)))⟩
              · refine Dl.q (Y.skip (unwantG rfl rfl hb47)) (Dl.q (Y.skip (unwantG rfl rfl hb47)) (Dl.q (Y.skip (unwantG rfl rfl hb47)) (Dl.q (Y.skip (unwantG rfl rfl hb47)) (Dl.q (Y.skip (unwantG rfl rfl hb47)) (Dl.q (Y.skip (unwantG rfl rfl hb47)) (Dl.q (Y.skip (unwantG rfl rfl hb47)) (Dl.q (Y.skip (unwantG rfl rfl hb47)) (Dl.q (Y.pickF (v := (Value.bool false)) rfl rfl hb47 rfl) (Dl.nil ?_)))))))))
                exact Th.m ⟨_, h, _, eqUpd rfl (eqMask (by repeat' (first | exact Off.refl _ _ | refine Off.u rfl ?_ | refine Off.m rfl ?_)))⟩
            · refine Dw.cond rfl (fun hb75 => ?_) (fun hb75 => ?_)
              · replace h := M.iteT h hb75
                refine Dw.skip (Th.m (Dw.seq (Dw.block (Dw.seq (Dw.game (by kernel_rfl) ?_)))))
                replace h := M.drew_un h
                generalize World.drew _ = w at h ⊢
                refine Gm.pure 0 rfl (by kernel_rfl) (fun _ => Y.mv (v := (Sl.val q4.1)) rfl rfl) (Gm.pure 1 rfl (by kernel_rfl) (fun _ => Y.mv (v := (vI q39.2)) rfl rfl) ?_)
                obtain ⟨a53, a530, ha, hi, he, h⟩ := h
                refine Gm.pure 2 rfl (by kernel_rfl) (fun _ => Y.ix rfl Try.runUnderlying80 Try.sizeOf82 rfl rfl ha hi he) ?_
                obtain ⟨x54, hcx54, h⟩ := h
                refine Gm.quiet 3 rfl (by kernel_rfl) (fun _ hw => Y.ld rfl Try.isAgg82 rfl hw) hcx54 (Gm.pure 4 rfl (by kernel_rfl) (fun _ => Y.mv (v := (vI q41.2)) rfl rfl) (Gm.pure 5 rfl (by kernel_rfl) (fun _ => Y.mv (v := (Sl.val q31.1)) rfl rfl) (Gm.pure 6 rfl (by kernel_rfl) (fun _ => Y.fa 257 rfl Try.runUnderlying27 rfl Try.sizeOf23 (by decide) rfl rfl) ?_)))
                obtain ⟨x55, hcx55, h⟩ := h
                refine Gm.quiet 7 rfl (by kernel_rfl) (fun _ hw => Y.ld rfl Try.isAgg23 rfl hw) hcx55 (Gm.pure 8 rfl (by kernel_rfl) (fun _ => Y.mv (v := (vI q39.2)) rfl rfl) ?_)
                obtain ⟨a56, a560, ha, hi, he, h⟩ := h
                refine Gm.pure 9 rfl (by kernel_rfl) (fun _ => Y.ix rfl Try.runUnderlying23 Try.sizeOf24 rfl rfl ha hi he) ?_
                obtain ⟨x57, hcx57, h⟩ := h
                refine Gm.quiet 10 rfl (by kernel_rfl) (fun _ hw => Y.ld rfl Try.isAgg24 rfl hw) hcx57 (Gm.pure 11 rfl (by kernel_rfl) (fun _ => Y.mv (v := (vI q43.2)) rfl rfl) ?_)
                obtain ⟨a58, a580, ha, hi, he, h⟩ := h
                refine Gm.pure 12 rfl (by kernel_rfl) (fun _ => Y.ix rfl Try.runUnderlying24 Try.sizeOf3 rfl rfl ha hi he) ?_
                obtain ⟨x59, hcx59, h⟩ := h
                refine Gm.quiet 13 rfl (by kernel_rfl) (fun _ hw => Y.ld rfl Try.isAgg3 rfl hw) hcx59 ?_
                obtain ⟨a60, a600, ha, hi, he, h⟩ := h
                refine Gm.pure 14 rfl (by kernel_rfl) (fun _ => Y.ix rfl Try.runUnderlying80 Try.sizeOf82 rfl rfl ha hi he) ?_
                obtain ⟨x61, hcx61, h⟩ := h
                refine Gm.quiet 15 rfl (by kernel_rfl) (fun _ hw => Y.ld rfl Try.isAgg82 rfl hw) hcx61 (Gm.pure 16 rfl (by kernel_rfl) (fun _ => Y.fa 257 rfl Try.runUnderlying27 rfl Try.sizeOf23 (by decide) rfl rfl) ?_)
                obtain ⟨x62, hcx62, h⟩ := h
                refine Gm.quiet 17 rfl (by kernel_rfl) (fun _ hw => Y.ld rfl Try.isAgg23 rfl hw) hcx62 (Gm.pure 18 rfl (by kernel_rfl) (fun _ => Y.mv (v := (vI q41.2)) rfl rfl) ?_)
                obtain ⟨a63, a630, ha, hi, he, h⟩ := h
                refine Gm.pure 19 rfl (by kernel_rfl) (fun _ => Y.ix rfl Try.runUnderlying23 Try.sizeOf24 rfl rfl ha hi he) ?_
                obtain ⟨x64, hcx64, h⟩ := h
                refine Gm.quiet 20 rfl (by kernel_rfl) (fun _ hw => Y.ld rfl Try.isAgg24 rfl hw) hcx64 (Gm.pure 21 rfl (by kernel_rfl) (fun _ => Y.mv (v := (vI q43.2)) rfl rfl) ?_)
                obtain ⟨a65, a650, ha, hi, he, h⟩ := h
                refine Gm.pure 22 rfl (by kernel_rfl) (fun _ => Y.ix rfl Try.runUnderlying24 Try.sizeOf3 rfl rfl ha hi he) ?_
                obtain ⟨x66, hcx66, h⟩ := h
                refine Gm.quiet 23 rfl (by kernel_rfl) (fun _ hw => Y.ld rfl Try.isAgg3 rfl hw) hcx66 ?_
                obtain ⟨a67, a670, ha, hi, he, h⟩ := h
                refine Gm.pure 24 rfl (by kernel_rfl) (fun _ => Y.ix rfl Try.runUnderlying82 Try.sizeOf4 rfl rfl ha hi he) ?_
                obtain ⟨x68, hcx68, h⟩ := h
                refine Gm.quiet 25 rfl (by kernel_rfl) (fun _ hw => Y.ld rfl Try.isAgg4 rfl hw) hcx68 ?_
                obtain ⟨a69, a690, ha, hi, he, h⟩ := h
                refine Gm.pure 26 rfl (by kernel_rfl) (fun _ => Y.ix rfl Try.runUnderlying82 Try.sizeOf4 rfl rfl ha hi he) (Gm.one' 27 rfl (by kernel_rfl) (.drop (by kernel_rfl) (.drop (by kernel_rfl) (.drop (by kernel_rfl) (.drop (by kernel_rfl) (.drop (by kernel_rfl) (.drop (by kernel_rfl) (.drop (by kernel_rfl) (.drop (by kernel_rfl) (.drop (by kernel_rfl) .nil))))))))) ?_)
                refine N.st rfl Try.sizeOf4 h rfl rfl rfl rfl rfl fun h => ?_
                refine ⟨pdN, ?_⟩
                generalize World.setCell _ _ _ = w at h ⊢
                refine Gm.end (by kernel_rfl) (Th.m (Dw.region (Dl.q (Y.mv (v := (Value.bool q43.1)) rfl rfl) (Dl.q (Y.mv (v := (Value.bool q43.1)) rfl rfl) ?_))))
                refine M.split h (fun hb70 h => ?_) (fun hb70 h => ?_)
                · refine Dl.q (Y.skip (unwantG rfl rfl hb70)) (Dl.q (Y.skip (unwantG rfl rfl hb70)) (Dl.q (Y.skip (unwantG rfl rfl hb70)) (Dl.q (Y.skip (unwantG rfl rfl hb70)) (Dl.q (Y.skip (unwantG rfl rfl hb70)) (Dl.q (Y.skip (unwantG rfl rfl hb70)) (Dl.q (Y.skip (unwantG rfl rfl hb70)) (Dl.q (Y.pickT (v := (Value.bool true)) rfl rfl hb70 rfl) (Dl.q (Y.asg (v := (Value.bool true)) rfl rfl) (Dl.nil (InB.m (Th.m (Dw.region ?_))))))))))))
                  refine Dl.q (Y.mv (v := (vI q43.2)) rfl rfl) (Dl.q (Y.add rfl rfl rfl) (Dl.q (Y.asg (v := (vI (wI (q43.2 + 1)))) rfl rfl) (Dl.nil ?_)))
                  exact Th.m ⟨_, h, _, eqUpd rfl (eqUpd rfl (eqMask (by repeat' (first | exact Off.refl _ _ | refine Off.u rfl ?_ | refine Off.m rfl ?_))))⟩
                · refine Dl.q (Y.mv (v := (Sl.val q4.1)) (wantG rfl rfl hb70) rfl) (Dl.q (Y.mv (v := (vI q39.2)) (wantG rfl rfl hb70) rfl) ?_)
                  obtain ⟨a71, a710, ha, hi, he, h⟩ := h
                  refine Dl.q (Y.ix (wantG rfl rfl hb70) Try.runUnderlying80 Try.sizeOf82 rfl rfl ha hi he) ?_
                  obtain ⟨x72, hcx72, h⟩ := h
                  refine Dl.q (Y.ld (wantG rfl rfl hb70) Try.isAgg82 rfl hcx72) (Dl.q (Y.mv (v := (vI q41.2)) (wantG rfl rfl hb70) rfl) ?_)
                  obtain ⟨a73, a730, ha, hi, he, h⟩ := h
                  refine Dl.q (Y.ix (wantG rfl rfl hb70) Try.runUnderlying82 Try.sizeOf4 rfl rfl ha hi he) ?_
                  obtain ⟨x74, hcx74, h⟩ := h
                  refine Dl.q (Y.ld (wantG rfl rfl hb70) Try.isAgg4 rfl hcx74) (Dl.q (Y.pickF (v := (Value.bool x74)) rfl rfl hb70 rfl) (Dl.q (Y.asg (v := (Value.bool x74)) rfl rfl) (Dl.nil (InB.m (Th.m (Dw.region (Dl.q (Y.mv (v := (vI q43.2)) rfl rfl) (Dl.q (Y.add rfl rfl rfl) (Dl.q (Y.asg (v := (vI (wI (q43.2 + 1)))) rfl rfl) (Dl.nil ?_))))))))))
                  exact Th.m ⟨_, h, _, eqUpd rfl (eqUpd rfl (eqMask (by repeat' (first | exact Off.refl _ _ | refine Off.u rfl ?_ | refine Off.m rfl ?_))))⟩
              · replace h := M.iteF h hb75
                refine Dw.exit (Th.e (Th.e (InB.e (InB.m (Th.m (Dw.region (Dl.q (Y.mv (v := (vI q41.2)) rfl rfl) (Dl.q (Y.add rfl rfl rfl) (Dl.q (Y.asg (v := (vI (wI (q41.2 + 1)))) rfl rfl) (Dl.nil ?_))))))))))
                exact Th.m ⟨_, h, _, eqUpd rfl (eqUpd rfl (eqMask (by repeat' (first | exact Off.refl _ _ | refine Off.u rfl ?_ | refine Off.m rfl ?_))))⟩
          · replace h := M.iteF h hb76
            refine Dw.exit (Th.e (Th.e (InB.e (InB.m (Th.m (Dw.region (Dl.q (Y.mv (v := (vI q39.2)) rfl rfl) (Dl.q (Y.add rfl rfl rfl) (Dl.q (Y.asg (v := (vI (wI (q39.2 + 1)))) rfl rfl) (Dl.nil ?_))))))))))
            exact Th.m ⟨_, h, _, eqUpd rfl (eqUpd rfl (eqMask (by repeat' (first | exact Off.refl _ _ | refine Off.u rfl ?_ | refine Off.m rfl ?_))))⟩
        · replace h := M.iteF h hb78
          refine Dw.exit (Th.e (Th.e (InB.e (Th.m (Dw.seq (Dw.region (Dl.q (Y.mv (v := (Value.bool q39.1)) rfl rfl) (Dl.q (Y.not rfl rfl) (Dl.nil (Th.m ?_))))))))))
          refine Dw.cond rfl (fun hb77 => ?_) (fun hb77 => ?_)
          · replace h := M.iteT h hb77
            refine Dw.seq (Dw.region (Dl.q (Y.mv (v := (Sl.val q4.1)) rfl rfl) (Dl.q (Y.asg (v := (Sl.val q4.1)) rfl rfl) (Dl.nil (Th.m (Dw.ret (InB.r (Th.r (Th.r (InB.r (Th.r ?_)))))))))))
            exact fin1 rfl ⟨_, rfl, h⟩
          · replace h := M.iteF h hb77
            refine Dw.skip (InB.m (Th.m (Dw.region (Dl.q (Y.mv (v := (vI q28)) rfl rfl) (Dl.q (Y.add rfl rfl rfl) (Dl.q (Y.asg (v := (vI (wI (q28 + 1)))) rfl rfl) (Dl.nil ?_)))))))
            exact Th.m ⟨_, h, _, eqUpd rfl (eqMask (by repeat' (first | exact Off.refl _ _ | refine Off.u rfl ?_ | refine Off.m rfl ?_)))⟩
    · replace h := M.iteF h hb80
      refine Dw.exit (Th.e (Th.e (InB.e (Th.m (Dw.seq (Dw.region (Dl.q (Y.mv (v := (Sl.val q4.1)) rfl rfl) (Dl.q (Y.asg (v := (Sl.val q4.1)) rfl rfl) (Dl.nil (Th.m (Dw.ret ?_)))))))))))
      exact fin1 rfl ⟨_, rfl, h⟩
set_option maxHeartbeats 1000000 in
set_option maxRecDepth 20000 in
theorem moore_last {p0 : Dfv} {p1 : Int} {w : World} {R : (Int × Sl) → World → Prop} (h : S.moore_last p0 p1 w R) : Calls Try.prog 69 [(.agg (Dfv.cs p0).toArray), (vI p1)].toArray w (Ret (fun x : (Int × Sl) => .tuple #[(vI x.1), (Sl.val x.2)]) R) := by
  refine calls_of Try.func69 rfl rfl rfl (by kernel_rfl) rfl ?_
  unfold S.moore_last at h
  refine Dw.seq (Dw.region ?_)
  refine Dl.n (N.box rfl h rfl rfl fun b1 _ h => ?_)
  refine Dl.n (N.box rfl h rfl rfl fun b2 _ h => ?_)
  refine Dl.q (Y.asg (v := (vI 0)) rfl rfl) (Dl.q (Y.asg (v := (Sl.val Sl.nil)) rfl rfl) (Dl.nil (Th.m (Dw.seq (Dw.region ?_)))))
  refine Dl.n (N.new rfl Try.zeroValue3 h rfl fun b3 _ h => ?_)
  refine Dl.n (N.st rfl Try.sizeOf3 h rfl rfl rfl rfl rfl fun h => ?_)
  refine Dl.nil (Th.m (Dw.seq (Dw.region ?_)))
  refine Dl.n (N.new rfl Try.zeroValue24 h rfl fun b4 _ h => ?_)
  refine Dl.nil (Th.m (Dw.seq (Dw.seq (Dw.region ?_))))
  obtain ⟨v5, hcv5, h⟩ := h
  refine Dl.q (Y.ldA rfl Try.isAgg27 Try.sizeOf27 (Dfv_len _) rfl hcv5) ?_
  refine Dl.n (N.call rfl Try.call7 rfl h ?_)
  intro r6 w h
  refine Dl.q (Y.not rfl rfl) (Dl.nil (Th.m ?_))
  refine Dw.cond rfl (fun hb16 => ?_) (fun hb16 => ?_)
  · replace h := M.iteT h hb16
    refine Dw.seq (Dw.game (by kernel_rfl) ?_)
    replace h := M.drew_un h
    generalize World.drew _ = w at h ⊢
    obtain ⟨x7, hcx7, h⟩ := h
    refine Gm.quiet 0 rfl (by kernel_rfl) (fun _ hw => Y.ld rfl Try.isAgg3 rfl hw) hcx7 ?_
    obtain ⟨x8, hcx8, h⟩ := h
    refine Gm.quiet 1 rfl (by kernel_rfl) (fun _ hw => Y.ld rfl Try.isAgg24 rfl hw) hcx8 (Gm.pure 2 rfl (by kernel_rfl) (fun _ => Y.asg (v := (vI x7)) rfl rfl) (Gm.pure 3 rfl (by kernel_rfl) (fun _ => Y.asg (v := (Sl.val x8)) rfl rfl) (Gm.end (by kernel_rfl) (Th.m (Dw.ret (Th.r ?_))))))
    exact fin2 rfl rfl ⟨_, rfl, h⟩
  · replace h := M.iteF h hb16
    refine Dw.skip (Th.m (Dw.range (Dw.region ?_)))
    obtain ⟨v9, hcv9, h⟩ := h
    refine Dl.q (Y.ldA rfl Try.isAgg27 Try.sizeOf27 (Dfv_len _) rfl hcv9) ?_
    refine Dl.n (N.call rfl Try.call87 rfl h ?_)
    intro r10 w h
    refine Dl.nil ?_
    refine Th.m (RG.of h rfl rfl rfl (fun _ => rfl) (fun l y11 W C h => ?_) (fun D w3 j hD h => ?_))
    · refine Dw.seq (Dw.region (Dl.q (Y.asg (v := (vI y11.1)) rfl rfl) (Dl.nil (Th.m (Dw.region (Dl.q (Y.asg (v := (Sl.val y11.2)) rfl rfl) (Dl.nil ?_)))))))
      refine Th.m ⟨rfl, fun w hW hs => ?_⟩
      replace h := h w hW hs
      refine Dw.block (Dw.seq (Dw.region (Dl.q (Y.mv (v := (vI y11.1)) rfl rfl) (Dl.q (Y.mv (v := (Sl.val y11.2)) rfl rfl) ?_))))
      refine Dl.n (N.st rfl Try.sizeOf3 h rfl rfl rfl rfl rfl fun h => ?_)
      refine Dl.n (N.st rfl Try.sizeOf24 h rfl rfl rfl rfl rfl fun h => ?_)
      refine Dl.nil (Th.m (Dw.seq (Dw.region (Dl.q (Y.mv (v := (vI y11.1)) rfl rfl) ?_))))
      obtain ⟨x12, hcx12, h⟩ := h
      refine Dl.q (Y.ld rfl Try.isAgg3 rfl hcx12) (Dl.q (Y.geq rfl rfl rfl) (Dl.nil (Th.m ?_)))
      refine Dw.cond rfl (fun hb13 => ?_) (fun hb13 => ?_)
      · replace h := M.iteT h hb13
        refine Dw.exit (InB.x rfl ?_)
        exact ⟨rfl, h⟩
      · replace h := M.iteF h hb13
        refine Dw.skip (InB.m ?_)
        exact h
    · refine Dw.seq (Dw.game (by kernel_rfl) ?_)
      replace h := M.drew_un h
      generalize World.drew _ = w at h ⊢
      obtain ⟨x14, hcx14, h⟩ := h
      refine Gm.quiet 0 rfl (by kernel_rfl) (fun _ hw => Y.ld rfl Try.isAgg3 rfl hw) hcx14 ?_
      obtain ⟨x15, hcx15, h⟩ := h
      refine Gm.quiet 1 rfl (by kernel_rfl) (fun _ hw => Y.ld rfl Try.isAgg24 rfl hw) hcx15 (Gm.pure 2 rfl (by kernel_rfl) (fun _ => Y.asg (v := (vI x14)) rfl rfl) (Gm.pure 3 rfl (by kernel_rfl) (fun _ => Y.asg (v := (Sl.val x15)) rfl rfl) (Gm.end (by kernel_rfl) (Th.m (Dw.ret (Rt.mk hD h fun w h => ?_))))))
      exact fin2 rfl rfl ⟨_, rfl, h⟩
set_option maxHeartbeats 1000000 in
set_option maxRecDepth 20000 in
theorem dfa_Run {p0 : Dfv} {p1 : Sl} {w : World} {R : Int → World → Prop} (h : S.dfa_Run p0 p1 w R) : Calls Try.prog 70 [(.agg (Dfv.cs p0).toArray), (Sl.val p1)].toArray w (Ret vI R) := by
  refine calls_of Try.func70 rfl rfl rfl (by kernel_rfl) rfl ?_
  unfold S.dfa_Run at h
  refine Dw.seq (Dw.region ?_)
  refine Dl.n (N.box rfl h rfl rfl fun b1 _ h => ?_)
  refine Dl.q (Y.asg (v := (vI 0)) rfl rfl) (Dl.nil (Th.m (Dw.seq (Dw.seq (Dw.region ?_)))))
  obtain ⟨v2, hcv2, h⟩ := h
  refine Dl.q (Y.ldA rfl Try.isAgg27 Try.sizeOf27 (Dfv_len _) rfl hcv2) ?_
  refine Dl.n (N.call rfl Try.call7 rfl h ?_)
  intro r3 w h
  refine Dl.q (Y.not rfl rfl) (Dl.nil (Th.m ?_))
  refine Dw.cond rfl (fun hb16 => ?_) (fun hb16 => ?_)
  · replace h := M.iteT h hb16
    refine Dw.seq (Dw.region (Dl.q (Y.asg (v := (vI (-1))) rfl rfl) (Dl.nil (Th.m (Dw.ret (Th.r ?_))))))
    exact fin1 rfl ⟨_, rfl, h⟩
  · replace h := M.iteF h hb16
    refine Dw.skip (Th.m (Dw.seq (Dw.region (Dl.q (Y.asg (v := (vI 0)) rfl rfl) (Dl.nil (Th.m (Dw.seq (Dw.seq (Dw.region (Dl.q (Y.mv (v := (Sl.val p1)) rfl rfl) (Dl.q (Y.len rfl Try.runUnderlying38 rfl) (Dl.q (Y.mv (v := (vI 0)) rfl rfl) ?_))))))))))))
    refine Dl.nil (Th.m (Dw.block ?_))
    refine Dw.loopM (fun s j r => upd (upd (mask r j 536862880) 5 (vI s.1)) 13 (vI s.2)) h ⟨_, eqUpd rfl (eqUpd rfl (eqMask (by repeat' (first | exact Off.refl _ _ | refine Off.u rfl ?_ | refine Off.m rfl ?_))))⟩ ?_
    intro I m q4 j w h
    refine Dw.seq (Dw.region (Dl.q (Y.lss rfl rfl rfl) (Dl.nil (Th.m (Dw.seq ?_)))))
    refine Dw.cond rfl (fun hb15 => ?_) (fun hb15 => ?_)
    · replace h := M.iteT h hb15
      refine Dw.skip (Th.m (Dw.seq (Dw.block (Dw.seq (Dw.region ?_)))))
      obtain ⟨a6, a60, ha, hi, he, h⟩ := h
      refine Dl.q (Y.ix rfl Try.runUnderlying38 Try.sizeOf5 rfl rfl ha hi he) ?_
      obtain ⟨x7, hcx7, h⟩ := h
      refine Dl.q (Y.ld rfl Try.isAgg5 rfl hcx7) (Dl.q (Y.asg (v := (vU8 x7)) rfl rfl) (Dl.nil (Th.m (Dw.game (by kernel_rfl) ?_))))
      replace h := M.drew_un h
      generalize World.drew _ = w at h ⊢
      refine Gm.pure 0 rfl (by kernel_rfl) (fun _ => Y.fa 257 rfl Try.runUnderlying27 rfl Try.sizeOf23 (by decide) rfl rfl) ?_
      obtain ⟨x8, hcx8, h⟩ := h
      refine Gm.quiet 1 rfl (by kernel_rfl) (fun _ hw => Y.ld rfl Try.isAgg23 rfl hw) hcx8 (Gm.pure 2 rfl (by kernel_rfl) (fun _ => Y.mv (v := (vI q4.1)) rfl rfl) ?_)
      obtain ⟨a9, a90, ha, hi, he, h⟩ := h
      refine Gm.pure 3 rfl (by kernel_rfl) (fun _ => Y.ix rfl Try.runUnderlying23 Try.sizeOf24 rfl rfl ha hi he) ?_
      obtain ⟨x10, hcx10, h⟩ := h
      refine Gm.quiet 4 rfl (by kernel_rfl) (fun _ hw => Y.ld rfl Try.isAgg24 rfl hw) hcx10 (Gm.pure 5 rfl (by kernel_rfl) (fun _ => Y.mv (v := (vU8 x7)) rfl rfl) (Gm.pure 6 rfl (by kernel_rfl) (fun _ => Y.fa 0 rfl Try.runUnderlying27 rfl Try.sizeOf22 (by decide) rfl rfl) ?_))
      obtain ⟨a11, hi, he, h⟩ := h
      refine Gm.pure 7 rfl (by kernel_rfl) (fun _ => Y.ixA rfl Try.runUnderlying22 Try.sizeOf5 rfl rfl hi he) ?_
      obtain ⟨x12, hcx12, h⟩ := h
      refine Gm.quiet 8 rfl (by kernel_rfl) (fun _ hw => Y.ld rfl Try.isAgg5 rfl hw) hcx12 ?_
      obtain ⟨a13, a130, ha, hi, he, h⟩ := h
      refine Gm.pure 9 rfl (by kernel_rfl) (fun _ => Y.ix rfl Try.runUnderlying24 Try.sizeOf3 rfl rfl ha hi he) ?_
      obtain ⟨x14, hcx14, h⟩ := h
      refine Gm.quiet 10 rfl (by kernel_rfl) (fun _ hw => Y.ld rfl Try.isAgg3 rfl hw) hcx14 (Gm.pure 11 rfl (by kernel_rfl) (fun _ => Y.asg (v := (vI x14)) rfl rfl) (Gm.end (by kernel_rfl) (InB.m (Th.m (Dw.region (Dl.q (Y.add rfl rfl rfl) (Dl.q (Y.mv (v := (vI (wI (q4.2 + 1)))) rfl rfl) (Dl.nil ?_))))))))
      exact Th.m ⟨_, h, _, eqUpd rfl (eqUpd rfl (eqMask (by repeat' (first | exact Off.refl _ _ | refine Off.u rfl ?_ | refine Off.m rfl ?_))))⟩
    · replace h := M.iteF h hb15
      refine Dw.exit (Th.e (Th.e (InB.e (Th.m (Dw.seq (Dw.region (Dl.q (Y.mv (v := (vI q4.1)) rfl rfl) (Dl.q (Y.asg (v := (vI q4.1)) rfl rfl) (Dl.nil (Th.m (Dw.ret ?_)))))))))))
      exact fin1 rfl ⟨_, rfl, h⟩
set_option maxHeartbeats 1000000 in
set_option maxRecDepth 20000 in
theorem dfa_walk_c1 {p0 : Value} {c0 : Addr} {c1 : Addr} {c2 : Addr} {w : World} {R : Unit → World → Prop} (h : S.dfa_walk_c1 p0 c0 c1 c2 w R) : Calls Try.prog 71 [p0, (vA c0), (vA c1), (vA c2)].toArray w (Ret vUnit R) := by
  refine calls_of Try.func71 rfl rfl rfl (by kernel_rfl) rfl ?_
  unfold S.dfa_walk_c1 at h
  refine Dw.seq (Dw.region ?_)
  obtain ⟨x1, hcx1, h⟩ := h
  refine Dl.q (Y.ld rfl Try.isAgg3 rfl hcx1) ?_
  obtain ⟨s2, w, ha, h⟩ := h
  refine Dl.n (N.of rfl rfl ha ?_)
  refine Dl.q (Y.asg (v := (Sl.val s2)) rfl rfl) (Dl.nil (Th.m (Dw.seq (Dw.region ?_))))
  obtain ⟨x3, hcx3, h⟩ := h
  refine Dl.q (Y.ld rfl Try.isAgg24 rfl hcx3) ?_
  refine Dl.n (N.call rfl Try.call72 rfl h ?_)
  intro r4 w h
  refine Dl.q (Y.asg (v := (Sl.val r4)) rfl rfl) (Dl.nil (Th.m (Dw.seq (Dw.seq (Dw.region ?_)))))
  obtain ⟨x5, hcx5, h⟩ := h
  refine Dl.q (Y.ld rfl Try.isAgg24 rfl hcx5) (Dl.q (Y.len rfl Try.runUnderlying24 rfl) (Dl.q (Y.mv (v := (vI 0)) rfl rfl) (Dl.nil (Th.m (Dw.block ?_)))))
  refine Dw.loopM (fun s j r => upd (mask r j 66846976) 18 (vI s)) h ⟨_, eqUpd rfl (eqMask (by repeat' (first | exact Off.refl _ _ | refine Off.u rfl ?_ | refine Off.m rfl ?_)))⟩ ?_
  intro I m q6 j w h
  refine Dw.seq (Dw.region (Dl.q (Y.lss rfl rfl rfl) (Dl.nil (Th.m (Dw.seq ?_)))))
  refine Dw.cond rfl (fun hb33 => ?_) (fun hb33 => ?_)
  · replace h := M.iteT h hb33
    refine Dw.skip (Th.m (Dw.seq (Dw.block (Dw.seq (Dw.region ?_)))))
    obtain ⟨a8, a80, ha, hi, he, h⟩ := h
    refine Dl.q (Y.ix rfl Try.runUnderlying24 Try.sizeOf3 rfl rfl ha hi he) ?_
    obtain ⟨x9, hcx9, h⟩ := h
    refine Dl.q (Y.ld rfl Try.isAgg3 rfl hcx9) (Dl.q (Y.asg (v := (vI x9)) rfl rfl) (Dl.nil (Th.m (Dw.region (Dl.q (Y.mv (v := (Sl.val s2)) rfl rfl) (Dl.q (Y.mv (v := (vI x9)) rfl rfl) ?_))))))
    obtain ⟨a10, a100, ha, hi, he, h⟩ := h
    refine Dl.q (Y.ix rfl Try.runUnderlying82 Try.sizeOf4 rfl rfl ha hi he) ?_
    refine Dl.n (N.st rfl Try.sizeOf4 h rfl rfl rfl rfl rfl fun h => ?_)
    refine Dl.nil (InB.m (Th.m (Dw.region (Dl.q (Y.add rfl rfl rfl) (Dl.q (Y.mv (v := (vI (wI (q6 + 1)))) rfl rfl) (Dl.nil ?_))))))
    exact Th.m ⟨_, h, _, eqUpd rfl (eqMask (by repeat' (first | exact Off.refl _ _ | refine Off.u rfl ?_ | refine Off.m rfl ?_)))⟩
  · replace h := M.iteF h hb33
    refine Dw.exit (Th.e (Th.e (InB.e (Th.m (Dw.seq (Dw.region (Dl.q (Y.asg (v := (vI 0)) rfl rfl) (Dl.nil (Th.m (Dw.block ?_))))))))))
    refine Dw.loopM (fun s j r => upd (upd (mask r j 4611686018360281664) 6 (Sl.val s.1)) 9 (vI s.2)) h ⟨_, eqUpd rfl (eqUpd rfl (eqMask (by repeat' (first | exact Off.refl _ _ | refine Off.u rfl ?_ | refine Off.m rfl ?_))))⟩ ?_
    intro I m q11 j w h
    refine Dw.seq (Dw.seq (Dw.region (Dl.q (Y.mv (v := (vI q11.2)) rfl rfl) (Dl.q (Y.mv (v := (Sl.val q11.1)) rfl rfl) (Dl.q (Y.len rfl Try.runUnderlying24 rfl) (Dl.q (Y.lss rfl rfl rfl) (Dl.nil (Th.m ?_))))))))
    refine Dw.cond rfl (fun hb32 => ?_) (fun hb32 => ?_)
    · replace h := M.iteT h hb32
      refine Dw.skip (Th.m (Dw.seq (Dw.block (Dw.scope (Dw.seq (Dw.seq (Dw.region (Dl.q (Y.mv (v := p0) rfl rfl) (Dl.q (Y.mv (v := (Sl.val q11.1)) rfl rfl) (Dl.q (Y.mv (v := (vI q11.2)) rfl rfl) ?_))))))))))
      obtain ⟨a13, a130, ha, hi, he, h⟩ := h
      refine Dl.q (Y.ix rfl Try.runUnderlying24 Try.sizeOf3 rfl rfl ha hi he) ?_
      obtain ⟨x14, hcx14, h⟩ := h
      refine Dl.q (Y.ld rfl Try.isAgg3 rfl hcx14) ?_
      refine Dl.n (N.callv rfl rfl rfl h ?_)
      intro r15 w h
      refine Dl.q (Y.not rfl rfl) (Dl.nil (Th.m ?_))
      refine Dw.cond rfl (fun hb31 => ?_) (fun hb31 => ?_)
      · replace h := M.iteT h hb31
        refine Dw.ret (Th.r (Ng.r (InB.r (Th.r (Th.r (InB.r ?_))))))
        exact fin0 ⟨(), rfl, h⟩
      · replace h := M.iteF h hb31
        refine Dw.skip (Th.m (Dw.seq (Dw.label (Th.m (Dw.seq (Dw.game (by kernel_rfl) ?_))))))
        replace h := M.drew_un h
        generalize World.drew _ = w at h ⊢
        obtain ⟨x16, hcx16, h⟩ := h
        refine Gm.quiet 0 rfl (by kernel_rfl) (fun _ hw => Y.ld rfl Try.isAgg66 rfl hw) hcx16 (Gm.pure 1 rfl (by kernel_rfl) (fun _ => Y.mv (v := (Sl.val q11.1)) rfl rfl) (Gm.pure 2 rfl (by kernel_rfl) (fun _ => Y.mv (v := (vI q11.2)) rfl rfl) ?_))
        obtain ⟨a17, a170, ha, hi, he, h⟩ := h
        refine Gm.pure 3 rfl (by kernel_rfl) (fun _ => Y.ix rfl Try.runUnderlying24 Try.sizeOf3 rfl rfl ha hi he) ?_
        obtain ⟨x18, hcx18, h⟩ := h
        refine Gm.quiet 4 rfl (by kernel_rfl) (fun _ hw => Y.ld rfl Try.isAgg3 rfl hw) hcx18 (Gm.pure 7 rfl (by kernel_rfl) (fun _ => Y.mv (v := (vI 0)) rfl rfl) (Gm.one' 5 rfl (by kernel_rfl) (.drop (by kernel_rfl) (.drop (by kernel_rfl) .nil)) (N.callv rfl rfl rfl h ?_)))
        intro r19 w h
        refine ⟨pdN, ?_⟩
        refine Gm.pure 6 rfl (by kernel_rfl) (fun _ => Y.len rfl Try.runUnderlying24 rfl) (Gm.end (by kernel_rfl) (Th.m (Dw.block ?_)))
        refine Dw.loopM (fun s j r => upd (upd (mask r j 4611615649683212352) 6 (Sl.val s.1)) 46 (vI s.2)) h ⟨_, eqUpd rfl (eqUpd rfl (eqMask (by repeat' (first | exact Off.refl _ _ | refine Off.u rfl ?_ | refine Off.m rfl ?_))))⟩ ?_
        intro I m q20 j w h
        refine Dw.seq (Dw.region (Dl.q (Y.lss rfl rfl rfl) (Dl.nil (Th.m (Dw.seq ?_)))))
        refine Dw.cond rfl (fun hb30 => ?_) (fun hb30 => ?_)
        · replace h := M.iteT h hb30
          refine Dw.skip (Th.m (Dw.seq (Dw.block (Dw.seq (Dw.region ?_)))))
          obtain ⟨a22, a220, ha, hi, he, h⟩ := h
          refine Dl.q (Y.ix rfl Try.runUnderlying24 Try.sizeOf3 rfl rfl ha hi he) ?_
          obtain ⟨x23, hcx23, h⟩ := h
          refine Dl.q (Y.ld rfl Try.isAgg3 rfl hcx23) (Dl.q (Y.asg (v := (vI x23)) rfl rfl) (Dl.nil (Th.m (Dw.seq (Dw.seq (Dw.region (Dl.q (Y.mv (v := (Sl.val s2)) rfl rfl) (Dl.q (Y.mv (v := (vI x23)) rfl rfl) ?_))))))))
          obtain ⟨a24, a240, ha, hi, he, h⟩ := h
          refine Dl.q (Y.ix rfl Try.runUnderlying82 Try.sizeOf4 rfl rfl ha hi he) ?_
          obtain ⟨x25, hcx25, h⟩ := h
          refine Dl.q (Y.ld rfl Try.isAgg4 rfl hcx25) (Dl.nil (Th.m ?_))
          refine Dw.cond rfl (fun hb29 => ?_) (fun hb29 => ?_)
          · replace h := M.iteT h hb29
            refine Dw.exit (Th.e (InB.e (Th.m (Dw.region (Dl.q (Y.add rfl rfl rfl) (Dl.q (Y.mv (v := (vI (wI (q20.2 + 1)))) rfl rfl) (Dl.nil ?_)))))))
            exact Th.m ⟨_, h, _, eqUpd rfl (eqUpd rfl (eqMask (by repeat' (first | exact Off.refl _ _ | refine Off.u rfl ?_ | refine Off.m rfl ?_))))⟩
          · replace h := M.iteF h hb29
            refine Dw.skip (Th.m (Dw.seq (Dw.region (Dl.q (Y.mv (v := (Sl.val s2)) rfl rfl) (Dl.q (Y.mv (v := (vI x23)) rfl rfl) ?_)))))
            obtain ⟨a26, a260, ha, hi, he, h⟩ := h
            refine Dl.q (Y.ix rfl Try.runUnderlying82 Try.sizeOf4 rfl rfl ha hi he) ?_
            refine Dl.n (N.st rfl Try.sizeOf4 h rfl rfl rfl rfl rfl fun h => ?_)
            refine Dl.nil (Th.m (Dw.region (Dl.q (Y.mv (v := (Sl.val q20.1)) rfl rfl) (Dl.q (Y.mv (v := (vI x23)) rfl rfl) ?_))))
            refine Dl.n (N.mkS rfl Try.runUnderlying24 Try.sizeOf3 Try.zeroValue3 h rfl rfl rfl rfl rfl fun b27 _ h => ?_)
            obtain ⟨s28, w, ha, h⟩ := h
            refine Dl.n (N.blt rfl rfl (fun _ => rfl) ha ?_)
            refine Dl.q (Y.asg (v := (Sl.val s28)) rfl rfl) (Dl.nil (InB.m (Th.m (Dw.region (Dl.q (Y.add rfl rfl rfl) (Dl.q (Y.mv (v := (vI (wI (q20.2 + 1)))) rfl rfl) (Dl.nil ?_)))))))
            exact Th.m ⟨_, h, _, eqUpd rfl (eqUpd rfl (eqMask (by repeat' (first | exact Off.refl _ _ | refine Off.u rfl ?_ | refine Off.m rfl ?_))))⟩
        · replace h := M.iteF h hb30
          refine Dw.exit (Th.e (Th.e (InB.e (Ng.m (InB.m (Th.m (Dw.region (Dl.q (Y.mv (v := (vI q11.2)) rfl rfl) (Dl.q (Y.add rfl rfl rfl) (Dl.q (Y.asg (v := (vI (wI (q11.2 + 1)))) rfl rfl) (Dl.nil ?_)))))))))))
          exact Th.m ⟨_, h, _, eqUpd rfl (eqUpd rfl (eqMask (by repeat' (first | exact Off.refl _ _ | refine Off.u rfl ?_ | refine Off.m rfl ?_))))⟩
    · replace h := M.iteF h hb32
      refine Dw.exit (Th.e (Th.e (InB.e ?_)))
      exact fin0 ⟨(), rfl, h⟩
set_option maxHeartbeats 1000000 in
set_option maxRecDepth 20000 in
theorem slices_Clone_Lintint {p0 : Sl} {w : World} {R : Sl → World → Prop} (h : S.slices_Clone_Lintint p0 w R) : Calls Try.prog 72 [(Sl.val p0)].toArray w (Ret Sl.val R) := by
  refine calls_of Try.func72 rfl rfl rfl (by kernel_rfl) rfl ?_
  unfold S.slices_Clone_Lintint at h
  refine Dw.seq (Dw.region (Dl.q (Y.asg (v := (Sl.val Sl.nil)) rfl rfl) (Dl.nil (Th.m (Dw.seq (Dw.seq (Dw.region (Dl.q (Y.mv (v := (Sl.val p0)) rfl rfl) (Dl.q (Y.eqN rfl Try.runUnderlying24 rfl rfl) (Dl.nil (Th.m ?_)))))))))))
  refine Dw.cond rfl (fun hb3 => ?_) (fun hb3 => ?_)
  · replace h := M.iteT h hb3
    refine Dw.seq (Dw.region (Dl.q (Y.asg (v := (Sl.val Sl.nil)) rfl rfl) (Dl.nil (Th.m (Dw.ret (Th.r ?_))))))
    exact fin1 rfl ⟨_, rfl, h⟩
  · replace h := M.iteF h hb3
    refine Dw.skip (Th.m (Dw.seq (Dw.region ?_)))
    refine Dl.n (N.mkS rfl Try.runUnderlying24 Try.sizeOf3 Try.zeroValue3 h rfl rfl rfl rfl rfl fun b1 _ h => ?_)
    refine Dl.q (Y.mv (v := (Sl.val p0)) rfl rfl) ?_
    obtain ⟨s2, w, ha, h⟩ := h
    refine Dl.n (N.blt rfl rfl (fun _ => rfl) ha ?_)
    refine Dl.q (Y.asg (v := (Sl.val s2)) rfl rfl) (Dl.nil (Th.m (Dw.ret ?_)))
    exact fin1 rfl ⟨_, rfl, h⟩
set_option maxHeartbeats 1000000 in
set_option maxRecDepth 20000 in
theorem quotient_stable_c1 {p0 : Int} {p1 : Int} {c0 : Addr} {w : World} {R : Bool → World → Prop} (h : S.quotient_stable_c1 p0 p1 c0 w R) : Calls Try.prog 73 [(vI p0), (vI p1), (vA c0)].toArray w (Ret Value.bool R) := by
  refine calls_of Try.func73 rfl rfl rfl (by kernel_rfl) rfl ?_
  unfold S.quotient_stable_c1 at h
  refine Dw.seq (Dw.region (Dl.q (Y.asg (v := (Value.bool false)) rfl rfl) (Dl.nil (Th.m (Dw.seq (Dw.game (by kernel_rfl) ?_))))))
  replace h := M.drew_un h
  generalize World.drew _ = w at h ⊢
  obtain ⟨x1, hcx1, h⟩ := h
  refine Gm.quiet 0 rfl (by kernel_rfl) (fun _ hw => Y.ld rfl Try.isAgg24 rfl hw) hcx1 (Gm.pure 1 rfl (by kernel_rfl) (fun _ => Y.mv (v := (vI p0)) rfl rfl) ?_)
  obtain ⟨a2, a20, ha, hi, he, h⟩ := h
  refine Gm.pure 2 rfl (by kernel_rfl) (fun _ => Y.ix rfl Try.runUnderlying24 Try.sizeOf3 rfl rfl ha hi he) ?_
  obtain ⟨x3, hcx3, h⟩ := h
  refine Gm.quiet 3 rfl (by kernel_rfl) (fun _ hw => Y.ld rfl Try.isAgg3 rfl hw) hcx3 ?_
  obtain ⟨x4, hcx4, h⟩ := h
  refine Gm.quiet 4 rfl (by kernel_rfl) (fun _ hw => Y.ld rfl Try.isAgg24 rfl hw) hcx4 (Gm.pure 5 rfl (by kernel_rfl) (fun _ => Y.mv (v := (vI p1)) rfl rfl) ?_)
  obtain ⟨a5, a50, ha, hi, he, h⟩ := h
  refine Gm.pure 6 rfl (by kernel_rfl) (fun _ => Y.ix rfl Try.runUnderlying24 Try.sizeOf3 rfl rfl ha hi he) ?_
  obtain ⟨x6, hcx6, h⟩ := h
  refine Gm.quiet 7 rfl (by kernel_rfl) (fun _ hw => Y.ld rfl Try.isAgg3 rfl hw) hcx6 (Gm.pure 8 rfl (by kernel_rfl) (fun _ => Y.eqI rfl rfl rfl) (Gm.pure 9 rfl (by kernel_rfl) (fun _ => Y.asg (v := (Value.bool (decide (x3 = x6)))) rfl rfl) (Gm.end (by kernel_rfl) (Th.m (Dw.ret ?_)))))
  exact fin1 rfl ⟨_, rfl, h⟩
set_option maxHeartbeats 1000000 in
set_option maxRecDepth 20000 in
theorem slices_EqualFunc_LintLintintint {p0 : Sl} {p1 : Sl} {p2 : Value} {w : World} {R : Bool → World → Prop} (h : S.slices_EqualFunc_LintLintintint p0 p1 p2 w R) : Calls Try.prog 74 [(Sl.val p0), (Sl.val p1), p2].toArray w (Ret Value.bool R) := by
  refine calls_of Try.func74 rfl rfl rfl (by kernel_rfl) rfl ?_
  unfold S.slices_EqualFunc_LintLintintint at h
  refine Dw.seq (Dw.region (Dl.q (Y.asg (v := (Value.bool false)) rfl rfl) (Dl.nil (Th.m (Dw.seq (Dw.seq (Dw.region (Dl.q (Y.mv (v := (Sl.val p0)) rfl rfl) (Dl.q (Y.len rfl Try.runUnderlying24 rfl) (Dl.q (Y.mv (v := (Sl.val p1)) rfl rfl) (Dl.q (Y.len rfl Try.runUnderlying24 rfl) (Dl.q (Y.neI rfl rfl rfl) ?_))))))))))))
  refine Dl.nil (Th.m ?_)
  refine Dw.cond rfl (fun hb10 => ?_) (fun hb10 => ?_)
  · replace h := M.iteT h hb10
    refine Dw.seq (Dw.region (Dl.q (Y.asg (v := (Value.bool false)) rfl rfl) (Dl.nil (Th.m (Dw.ret (Th.r ?_))))))
    exact fin1 rfl ⟨_, rfl, h⟩
  · replace h := M.iteF h hb10
    refine Dw.skip (Th.m (Dw.seq (Dw.seq (Dw.region (Dl.q (Y.mv (v := (Sl.val p0)) rfl rfl) (Dl.q (Y.len rfl Try.runUnderlying24 rfl) (Dl.q (Y.mv (v := (vI 0)) rfl rfl) (Dl.nil (Th.m (Dw.block ?_))))))))))
    refine Dw.loopM (fun s j r => upd (mask r j 4294837184) 17 (vI s)) h ⟨_, eqUpd rfl (eqMask (by repeat' (first | exact Off.refl _ _ | refine Off.u rfl ?_ | refine Off.m rfl ?_)))⟩ ?_
    intro I m q1 j w h
    refine Dw.seq (Dw.region (Dl.q (Y.lss rfl rfl rfl) (Dl.nil (Th.m (Dw.seq ?_)))))
    refine Dw.cond rfl (fun hb9 => ?_) (fun hb9 => ?_)
    · replace h := M.iteT h hb9
      refine Dw.skip (Th.m (Dw.seq (Dw.block (Dw.seq (Dw.region (Dl.q (Y.mv (v := (vI q1)) rfl rfl) ?_))))))
      obtain ⟨a3, a30, ha, hi, he, h⟩ := h
      refine Dl.q (Y.ix rfl Try.runUnderlying24 Try.sizeOf3 rfl rfl ha hi he) ?_
      obtain ⟨x4, hcx4, h⟩ := h
      refine Dl.q (Y.ld rfl Try.isAgg3 rfl hcx4) (Dl.q (Y.asg (v := (vI q1)) rfl rfl) (Dl.q (Y.asg (v := (vI x4)) rfl rfl) (Dl.nil (Th.m (Dw.seq (Dw.region (Dl.q (Y.mv (v := (Sl.val p1)) rfl rfl) (Dl.q (Y.mv (v := (vI q1)) rfl rfl) ?_))))))))
      obtain ⟨a5, a50, ha, hi, he, h⟩ := h
      refine Dl.q (Y.ix rfl Try.runUnderlying24 Try.sizeOf3 rfl rfl ha hi he) ?_
      obtain ⟨x6, hcx6, h⟩ := h
      refine Dl.q (Y.ld rfl Try.isAgg3 rfl hcx6) (Dl.q (Y.asg (v := (vI x6)) rfl rfl) (Dl.nil (Th.m (Dw.seq (Dw.region (Dl.q (Y.mv (v := p2) rfl rfl) (Dl.q (Y.mv (v := (vI x4)) rfl rfl) (Dl.q (Y.mv (v := (vI x6)) rfl rfl) ?_))))))))
      refine Dl.n (N.callv rfl rfl rfl h ?_)
      intro r7 w h
      refine Dl.q (Y.not rfl rfl) (Dl.nil (Th.m ?_))
      refine Dw.cond rfl (fun hb8 => ?_) (fun hb8 => ?_)
      · replace h := M.iteT h hb8
        refine Dw.seq (Dw.region (Dl.q (Y.asg (v := (Value.bool false)) rfl rfl) (Dl.nil (Th.m (Dw.ret (InB.r (Th.r (Th.r (InB.r (Th.r ?_))))))))))
        exact fin1 rfl ⟨_, rfl, h⟩
      · replace h := M.iteF h hb8
        refine Dw.skip (InB.m (Th.m (Dw.region (Dl.q (Y.add rfl rfl rfl) (Dl.q (Y.mv (v := (vI (wI (q1 + 1)))) rfl rfl) (Dl.nil ?_))))))
        exact Th.m ⟨_, h, _, eqUpd rfl (eqMask (by repeat' (first | exact Off.refl _ _ | refine Off.u rfl ?_ | refine Off.m rfl ?_)))⟩
    · replace h := M.iteF h hb9
      refine Dw.exit (Th.e (Th.e (InB.e (Th.m (Dw.seq (Dw.region (Dl.q (Y.asg (v := (Value.bool true)) rfl rfl) (Dl.nil (Th.m (Dw.ret ?_))))))))))
      exact fin1 rfl ⟨_, rfl, h⟩
set_option maxHeartbeats 1000000 in
set_option maxRecDepth 20000 in
theorem dfa_places {p0 : Int} {p1 : Sl} {w : World} {R : (Sl × Bool) → World → Prop} (h : S.dfa_places p0 p1 w R) : Calls Try.prog 75 [(vI p0), (Sl.val p1)].toArray w (Ret (fun x : (Sl × Bool) => .tuple #[(Sl.val x.1), (Value.bool x.2)]) R) := by
  refine calls_of Try.func75 rfl rfl rfl (by kernel_rfl) rfl ?_
  unfold S.dfa_places at h
  refine Dw.seq (Dw.region (Dl.q (Y.asg (v := (Sl.val Sl.nil)) rfl rfl) (Dl.q (Y.asg (v := (Value.bool false)) rfl rfl) (Dl.nil (Th.m (Dw.seq (Dw.region ?_)))))))
  refine Dl.n (N.mkS rfl Try.runUnderlying24 Try.sizeOf3 Try.zeroValue3 h rfl rfl rfl rfl rfl fun b1 _ h => ?_)
  refine Dl.q (Y.mv (v := (vI p0)) rfl rfl) ?_
  refine Dl.n (N.call rfl Try.call88 rfl h ?_)
  intro r2 w h
  refine Dl.q (Y.asg (v := (Sl.val r2)) rfl rfl) (Dl.nil (Th.m (Dw.seq (Dw.seq (Dw.region (Dl.q (Y.mv (v := (Sl.val p1)) rfl rfl) (Dl.q (Y.len rfl Try.runUnderlying24 rfl) (Dl.q (Y.mv (v := (vI 0)) rfl rfl) (Dl.nil (Th.m (Dw.block ?_)))))))))))
  refine Dw.loopM (fun s j r => upd (mask r j 274877890992) 14 (vI s)) h ⟨_, eqUpd rfl (eqMask (by repeat' (first | exact Off.refl _ _ | refine Off.u rfl ?_ | refine Off.m rfl ?_)))⟩ ?_
  intro I m q3 j w h
  refine Dw.seq (Dw.region (Dl.q (Y.lss rfl rfl rfl) (Dl.nil (Th.m (Dw.seq ?_)))))
  refine Dw.cond rfl (fun hb18 => ?_) (fun hb18 => ?_)
  · replace h := M.iteT h hb18
    refine Dw.skip (Th.m (Dw.seq (Dw.block (Dw.seq (Dw.region (Dl.q (Y.mv (v := (vI q3)) rfl rfl) ?_))))))
    obtain ⟨a5, a50, ha, hi, he, h⟩ := h
    refine Dl.q (Y.ix rfl Try.runUnderlying24 Try.sizeOf3 rfl rfl ha hi he) ?_
    obtain ⟨x6, hcx6, h⟩ := h
    refine Dl.q (Y.ld rfl Try.isAgg3 rfl hcx6) (Dl.q (Y.asg (v := (vI q3)) rfl rfl) (Dl.q (Y.asg (v := (vI x6)) rfl rfl) (Dl.nil (Th.m (Dw.seq ?_)))))
    refine Dw.joinM (fun s j r => upd (mask r j 8589410304) 32 (Value.bool s)) h (fun C h => ?_) (fun q12 j w h => ?_)
    · refine Dw.region (Dl.q (Y.mv (v := (vI x6)) rfl rfl) (Dl.q (Y.lss rfl rfl rfl) (Dl.q (Y.mv (v := (Value.bool (decide (x6 < 0)))) rfl rfl) ?_)))
      refine M.split h (fun hb8 h => ?_) (fun hb8 h => ?_)
      · refine Dl.q (Y.skip (unwantG rfl rfl hb8)) (Dl.q (Y.skip (unwantG rfl rfl hb8)) (Dl.q (Y.skip (unwantG rfl rfl hb8)) (Dl.q (Y.pickT (v := (Value.bool true)) rfl rfl hb8 rfl) (Dl.q (Y.mv (v := (Value.bool true)) rfl rfl) (Dl.q (Y.skip (unwantG rfl rfl rfl)) (Dl.q (Y.skip (unwantG rfl rfl rfl)) (Dl.q (Y.skip (unwantG rfl rfl rfl)) (Dl.q (Y.skip (unwantG rfl rfl rfl)) (Dl.q (Y.skip (unwantG rfl rfl rfl)) (Dl.q (Y.pickT (v := (Value.bool true)) rfl rfl rfl rfl) (Dl.nil ?_)))))))))))
        exact Th.m ⟨_, h, _, eqUpd rfl (eqMask (by repeat' (first | exact Off.refl _ _ | refine Off.u rfl ?_ | refine Off.m rfl ?_)))⟩
      · refine Dl.q (Y.mv (v := (vI x6)) (wantG rfl rfl hb8) rfl) (Dl.q (Y.mv (v := (vI p0)) (wantG rfl rfl hb8) rfl) (Dl.q (Y.geq (wantG rfl rfl hb8) rfl rfl) (Dl.q (Y.pickF (v := (Value.bool (decide (p0 ≤ x6)))) rfl rfl hb8 rfl) (Dl.q (Y.mv (v := (Value.bool (decide (p0 ≤ x6)))) rfl rfl) ?_))))
        refine M.split h (fun hb9 h => ?_) (fun hb9 h => ?_)
        · refine Dl.q (Y.skip (unwantG rfl rfl hb9)) (Dl.q (Y.skip (unwantG rfl rfl hb9)) (Dl.q (Y.skip (unwantG rfl rfl hb9)) (Dl.q (Y.skip (unwantG rfl rfl hb9)) (Dl.q (Y.skip (unwantG rfl rfl hb9)) (Dl.q (Y.pickT (v := (Value.bool true)) rfl rfl hb9 rfl) (Dl.nil ?_))))))
          exact Th.m ⟨_, h, _, eqUpd rfl (eqMask (by repeat' (first | exact Off.refl _ _ | refine Off.u rfl ?_ | refine Off.m rfl ?_)))⟩
        · refine Dl.q (Y.mv (v := (Sl.val r2)) (wantG rfl rfl hb9) rfl) (Dl.q (Y.mv (v := (vI x6)) (wantG rfl rfl hb9) rfl) ?_)
          obtain ⟨a10, a100, ha, hi, he, h⟩ := h
          refine Dl.q (Y.ix (wantG rfl rfl hb9) Try.runUnderlying24 Try.sizeOf3 rfl rfl ha hi he) ?_
          obtain ⟨x11, hcx11, h⟩ := h
          refine Dl.q (Y.ld (wantG rfl rfl hb9) Try.isAgg3 rfl hcx11) (Dl.q (Y.geq (wantG rfl rfl hb9) rfl rfl) (Dl.q (Y.pickF (v := (Value.bool (decide (0 ≤ x11)))) rfl rfl hb9 rfl) (Dl.nil ?_)))
          exact Th.m ⟨_, h, _, eqUpd rfl (eqMask (by repeat' (first | exact Off.refl _ _ | refine Off.u rfl ?_ | refine Off.m rfl ?_)))⟩
    · refine Dw.cond rfl (fun hb14 => ?_) (fun hb14 => ?_)
      · replace h := M.iteT h hb14
        refine Dw.seq (Dw.region (Dl.q (Y.asg (v := (Sl.val Sl.nil)) rfl rfl) (Dl.q (Y.asg (v := (Value.bool false)) rfl rfl) (Dl.nil (Th.m (Dw.ret (Th.r (InB.r (Th.r (Th.r (InB.r (Th.r ?_))))))))))))
        exact fin2 rfl rfl ⟨_, rfl, h⟩
      · replace h := M.iteF h hb14
        refine Dw.skip (Th.m (Dw.region (Dl.q (Y.mv (v := (Sl.val r2)) rfl rfl) (Dl.q (Y.mv (v := (vI x6)) rfl rfl) (Dl.q (Y.mv (v := (vI q3)) rfl rfl) ?_)))))
        obtain ⟨a13, a130, ha, hi, he, h⟩ := h
        refine Dl.q (Y.ix rfl Try.runUnderlying24 Try.sizeOf3 rfl rfl ha hi he) ?_
        refine Dl.n (N.st rfl Try.sizeOf3 h rfl rfl rfl rfl rfl fun h => ?_)
        refine Dl.nil (InB.m (Th.m (Dw.region (Dl.q (Y.add rfl rfl rfl) (Dl.q (Y.mv (v := (vI (wI (q3 + 1)))) rfl rfl) (Dl.nil ?_))))))
        exact Th.m ⟨_, h, _, eqUpd rfl (eqMask (by repeat' (first | exact Off.refl _ _ | refine Off.u rfl ?_ | refine Off.m rfl ?_)))⟩
  · replace h := M.iteF h hb18
    refine Dw.exit (Th.e (Th.e (InB.e (Th.m (Dw.seq (Dw.game (by kernel_rfl) ?_))))))
    replace h := M.drew_un h
    generalize World.drew _ = w at h ⊢
    refine Gm.pure 0 rfl (by kernel_rfl) (fun _ => Y.mv (v := (Sl.val r2)) rfl rfl) (Gm.pure 1 rfl (by kernel_rfl) (fun _ => Y.mv (v := (Sl.val p1)) rfl rfl) (Gm.pure 2 rfl (by kernel_rfl) (fun _ => Y.len rfl Try.runUnderlying24 rfl) (Gm.pure 3 rfl (by kernel_rfl) (fun _ => Y.gtr rfl rfl rfl) (Gm.pure 4 rfl (by kernel_rfl) (fun _ => Y.mv (v := (Value.bool (decide (0 < (p1.len : Int))))) rfl rfl) (Gm.pure 10 rfl (by kernel_rfl) (fun _ => Y.asg (v := (Sl.val r2)) rfl rfl) ?_)))))
    refine M.split h (fun hb15 h => ?_) (fun hb15 h => ?_)
    · refine Gm.pure 5 rfl (by kernel_rfl) (fun _ => Y.mv (v := (Sl.val p1)) (wantG rfl rfl hb15) rfl) ?_
      obtain ⟨a16, a160, ha, hi, he, h⟩ := h
      refine Gm.pure 6 rfl (by kernel_rfl) (fun _ => Y.ix (wantG rfl rfl hb15) Try.runUnderlying24 Try.sizeOf3 rfl rfl ha hi he) ?_
      obtain ⟨x17, hcx17, h⟩ := h
      refine Gm.quiet 7 rfl (by kernel_rfl) (fun _ hw => Y.ld (wantG rfl rfl hb15) Try.isAgg3 rfl hw) hcx17 (Gm.pure 8 rfl (by kernel_rfl) (fun _ => Y.eqI (wantG rfl rfl hb15) rfl rfl) (Gm.pure 9 rfl (by kernel_rfl) (fun _ => Y.pickT (v := (Value.bool (decide (x17 = 0)))) rfl rfl hb15 rfl) (Gm.pure 11 rfl (by kernel_rfl) (fun _ => Y.asg (v := (Value.bool (decide (x17 = 0)))) rfl rfl) (Gm.end (by kernel_rfl) (Th.m (Dw.ret ?_))))))
      exact fin2 rfl rfl ⟨_, rfl, h⟩
    · refine Gm.pure 5 rfl (by kernel_rfl) (fun _ => Y.skip (unwantG rfl rfl hb15)) (Gm.pure 6 rfl (by kernel_rfl) (fun _ => Y.skip (unwantG rfl rfl hb15)) (Gm.pure 7 rfl (by kernel_rfl) (fun _ => Y.skip (unwantG rfl rfl hb15)) (Gm.pure 8 rfl (by kernel_rfl) (fun _ => Y.skip (unwantG rfl rfl hb15)) (Gm.pure 9 rfl (by kernel_rfl) (fun _ => Y.pickF (v := (Value.bool false)) rfl rfl hb15 rfl) (Gm.pure 11 rfl (by kernel_rfl) (fun _ => Y.asg (v := (Value.bool false)) rfl rfl) (Gm.end (by kernel_rfl) (Th.m (Dw.ret ?_))))))))
      exact fin2 rfl rfl ⟨_, rfl, h⟩
set_option maxHeartbeats 1000000 in
set_option maxRecDepth 20000 in
theorem parts_number_uint8 {p0 : Value} {w : World} {R : ((Nat → Int) × Int) → World → Prop} (h : S.parts_number_uint8 p0 w R) : Calls Try.prog 76 [p0].toArray w (Ret (fun x : ((Nat → Int) × Int) => .tuple #[(.agg (Ar.cs x.1).toArray), (vI x.2)]) R) := by
  refine calls_of Try.func76 rfl rfl rfl (by kernel_rfl) rfl ?_
  unfold S.parts_number_uint8 at h
  refine Dw.seq (Dw.region ?_)
  refine Dl.n (N.new rfl Try.zeroValue22 h (by kernel_rfl) fun b1 _ h => ?_)
  refine Dl.q (Y.asg (v := (vI 0)) rfl rfl) (Dl.nil (Th.m (Dw.seq (Dw.region ?_))))
  refine Dl.n (N.new rfl Try.zeroValue22 h (by kernel_rfl) fun b2 _ h => ?_)
  refine Dl.nil (Th.m (Dw.seq (Dw.region ?_)))
  obtain ⟨m3, w, ha, h⟩ := h
  refine Dl.n (N.of rfl rfl ha ?_)
  refine Dl.q (Y.asg (v := (Value.map m3)) rfl rfl) (Dl.nil (Th.m (Dw.seq (Dw.seq (Dw.region (Dl.q (Y.mv (v := (vI 0)) rfl rfl) (Dl.nil (Th.m (Dw.block ?_)))))))))
  refine Dw.loopM (fun s j r => upd (mask r j 34359737280) 11 (vI s)) h ⟨_, eqUpd rfl (eqMask (by repeat' (first | exact Off.refl _ _ | refine Off.u rfl ?_ | refine Off.m rfl ?_)))⟩ ?_
  intro I m q4 j w h
  refine Dw.seq (Dw.region (Dl.q (Y.lss rfl rfl rfl) (Dl.nil (Th.m (Dw.seq ?_)))))
  refine Dw.cond rfl (fun hb16 => ?_) (fun hb16 => ?_)
  · replace h := M.iteT h hb16
    refine Dw.skip (Th.m (Dw.seq (Dw.block (Dw.seq (Dw.region (Dl.q (Y.mv (v := (vI q4)) rfl rfl) (Dl.q (Y.asg (v := (vI q4)) rfl rfl) (Dl.nil (Th.m (Dw.seq (Dw.region (Dl.q (Y.mv (v := p0) rfl rfl) ?_))))))))))))
    refine Dl.q (Y.mv (v := (vI q4)) rfl rfl) ?_
    refine Dl.n (N.callv rfl rfl rfl h ?_)
    intro r6 w h
    refine Dl.q (Y.asg (v := (vU8 r6)) rfl rfl) (Dl.nil (Th.m (Dw.seq (Dw.region (Dl.q (Y.mv (v := (Value.map m3)) rfl rfl) (Dl.q (Y.mv (v := (vU8 r6)) rfl rfl) ?_))))))
    obtain ⟨x7, hcx7, h⟩ := h
    refine Dl.q (Y.run rfl rfl hcx7) (Dl.q (Y.mv (v := (.tuple #[(vU8 x7.1), (Value.bool x7.2)])) rfl rfl) (Dl.q (Y.ext rfl rfl rfl) (Dl.q (Y.ext rfl rfl rfl) (Dl.q (Y.asg (v := (vU8 x7.1)) rfl rfl) (Dl.q (Y.asg (v := (Value.bool x7.2)) rfl rfl) (Dl.nil (Th.m ?_)))))))
    refine Dw.joinM (fun s j r => upd (mask r j 2139095296) 8 (vU8 s)) h (fun C h => ?_) (fun q11 j w h => ?_)
    · refine Dw.seq (Dw.region (Dl.q (Y.mv (v := (Value.bool x7.2)) rfl rfl) (Dl.q (Y.not rfl rfl) (Dl.nil (Th.m ?_)))))
      refine Dw.cond rfl (fun hb10 => ?_) (fun hb10 => ?_)
      · replace h := M.iteT h hb10
        refine Dw.seq (Dw.region (Dl.q (Y.mv (v := (Value.map m3)) rfl rfl) ?_))
        obtain ⟨x9, hcx9, h⟩ := h
        refine Dl.q (Y.blt rfl rfl (fun _ => rfl) hcx9) (Dl.q (Y.conv rfl Try.runUnderlying3 Try.runUnderlying5 rfl) (Dl.q (Y.asg (v := (vU8 (IntKind.wrap .u8 x9))) rfl rfl) (Dl.nil (Th.m (Dw.region (Dl.q (Y.mv (v := (Value.map m3)) rfl rfl) (Dl.q (Y.mv (v := (vU8 r6)) rfl rfl) (Dl.q (Y.mv (v := (vU8 (IntKind.wrap .u8 x9))) rfl rfl) ?_))))))))
        obtain ⟨w, ha, h⟩ := h
        refine Dl.n (N.ofU rfl rfl ha ?_)
        refine Dl.nil ?_
        exact Th.m ⟨_, h, _, eqUpd rfl (eqMask (by repeat' (first | exact Off.refl _ _ | refine Off.u rfl ?_ | refine Off.m rfl ?_)))⟩
      · replace h := M.iteF h hb10
        refine Dw.skip ?_
        exact Th.m ⟨_, h, _, eqUpd rfl (eqMask (by repeat' (first | exact Off.refl _ _ | refine Off.u rfl ?_ | refine Off.m rfl ?_)))⟩
    · refine Dw.region (Dl.q (Y.mv (v := (vI q4)) rfl rfl) (Dl.q (Y.mv (v := (vU8 q11)) rfl rfl) ?_))
      obtain ⟨a12, hi, he, h⟩ := h
      refine Dl.q (Y.ixA rfl Try.runUnderlying22 Try.sizeOf5 rfl rfl hi he) ?_
      refine Dl.n (N.st rfl Try.sizeOf5 h rfl rfl rfl rfl rfl fun h => ?_)
      refine Dl.nil (InB.m (Th.m (Dw.region (Dl.q (Y.add rfl rfl rfl) (Dl.q (Y.mv (v := (vI (wI (q4 + 1)))) rfl rfl) (Dl.nil ?_))))))
      exact Th.m ⟨_, h, _, eqUpd rfl (eqMask (by repeat' (first | exact Off.refl _ _ | refine Off.u rfl ?_ | refine Off.m rfl ?_)))⟩
  · replace h := M.iteF h hb16
    refine Dw.exit (Th.e (Th.e (InB.e (Th.m (Dw.seq (Dw.region ?_))))))
    obtain ⟨v13, hcv13, h⟩ := h
    refine Dl.q (Y.ldA rfl Try.isAgg22 Try.sizeOf22 (Ar_len _) rfl hcv13) (Dl.q (Y.mv (v := (Value.map m3)) rfl rfl) ?_)
    obtain ⟨x14, hcx14, h⟩ := h
    refine Dl.q (Y.blt rfl rfl (fun _ => rfl) hcx14) ?_
    refine Dl.n (N.stA rfl Try.sizeOf22 h rfl rfl (Ar_len _) (Ar_one _) fun h => ?_)
    generalize setCells _ _ _ _ = w at h ⊢
    refine Dl.q (Y.asg (v := (vI x14)) rfl rfl) (Dl.nil (Th.m (Dw.ret ?_)))
    obtain ⟨v15, hc, h⟩ := h
    exact finC2 Try.isAgg22 Try.sizeOf22 (Ar_len _) rfl rfl hc ⟨_, rfl, h⟩
set_option maxHeartbeats 1000000 in
set_option maxRecDepth 20000 in
theorem parts_Norm_c1 {p0 : Int} {c0 : Addr} {w : World} {R : Int → World → Prop} (h : S.parts_Norm_c1 p0 c0 w R) : Calls Try.prog 77 [(vI p0), (vA c0)].toArray w (Ret vU8 R) := by
  refine calls_of Try.func77 rfl rfl rfl (by kernel_rfl) rfl ?_
  unfold S.parts_Norm_c1 at h
  refine Dw.seq (Dw.region (Dl.q (Y.asg (v := (vU8 0)) rfl rfl) (Dl.nil (Th.m (Dw.seq (Dw.region (Dl.q (Y.mv (v := (vI p0)) rfl rfl) ?_)))))))
  obtain ⟨a1, hi, he, h⟩ := h
  refine Dl.q (Y.ixA rfl Try.runUnderlying22 Try.sizeOf5 rfl rfl hi he) ?_
  obtain ⟨x2, hcx2, h⟩ := h
  refine Dl.q (Y.ld rfl Try.isAgg5 rfl hcx2) (Dl.q (Y.asg (v := (vU8 x2)) rfl rfl) (Dl.nil (Th.m (Dw.ret ?_))))
  exact fin1 rfl ⟨_, rfl, h⟩
set_option maxHeartbeats 1000000 in
set_option maxRecDepth 20000 in
theorem spec_run_string {p0 : ByteArray} {w : World} {R : Int → World → Prop} (h : S.spec_run_string p0 w R) : Calls Try.prog 78 [(Value.string p0)].toArray w (Ret vI R) := by
  refine calls_of Try.func78 rfl rfl rfl (by kernel_rfl) rfl ?_
  unfold S.spec_run_string at h
  refine Dw.seq (Dw.region (Dl.q (Y.asg (v := (vI 0)) rfl rfl) (Dl.nil (Th.m (Dw.seq (Dw.region (Dl.q (Y.asg (v := (vI 0)) rfl rfl) (Dl.nil (Th.m (Dw.seq (Dw.block ?_)))))))))))
  refine Dw.loopM (fun s j r => upd (mask r j 4294967288) 3 (vI s)) h ⟨_, eqUpd rfl (eqMask (by repeat' (first | exact Off.refl _ _ | refine Off.u rfl ?_ | refine Off.m rfl ?_)))⟩ ?_
  intro I m q1 j w h
  refine Dw.seq ?_
  refine Dw.joinM (fun s j r => upd (mask r j 1073741808) 29 (Value.bool s)) h (fun C h => ?_) (fun q12 j w h => ?_)
  · refine Dw.region (Dl.q (Y.mv (v := (vI q1)) rfl rfl) (Dl.q (Y.mv (v := (Value.string p0)) rfl rfl) (Dl.q (Y.lenS rfl Try.runUnderlying9 rfl) (Dl.q (Y.lss rfl rfl rfl) (Dl.q (Y.mv (v := (Value.bool (decide (q1 < (p0.size : Int))))) rfl rfl) ?_)))))
    refine M.split h (fun hb4 h => ?_) (fun hb4 h => ?_)
    · refine Dl.q (Y.mv (v := (Value.string p0)) (wantG rfl rfl hb4) rfl) (Dl.q (Y.mv (v := (vI q1)) (wantG rfl rfl hb4) rfl) ?_)
      obtain ⟨x5, hcx5, h⟩ := h
      refine Dl.q (Y.idx (wantG rfl rfl hb4) rfl rfl hcx5) ?_
      refine Dl.n (N.call (wantG rfl rfl hb4) Try.call89 rfl h ?_)
      intro r6 w h
      refine Dl.q (Y.mv (v := (Value.bool r6)) (wantG rfl rfl hb4) rfl) ?_
      refine M.split h (fun hb7 h => ?_) (fun hb7 h => ?_)
      · refine Dl.q (Y.skip (unwantG rfl rfl hb7)) (Dl.q (Y.skip (unwantG rfl rfl hb7)) (Dl.q (Y.skip (unwantG rfl rfl hb7)) (Dl.q (Y.skip (unwantU rfl rfl)) (Dl.q (Y.skip (unwantU rfl rfl)) (Dl.q (Y.skip (unwantU rfl rfl)) (Dl.q (Y.skip (unwantU rfl rfl)) (Dl.q (Y.skip (unwantG rfl rfl hb7)) (Dl.q (Y.skip (unwantG rfl rfl hb7)) (Dl.q (Y.skip (unwantU rfl rfl)) (Dl.q (Y.skip (unwantU rfl rfl)) (Dl.q (Y.skip (unwantU rfl rfl)) (Dl.q (Y.skip (unwantU rfl rfl)) ?_))))))))))))
        refine Dl.q (Y.skip (unwantG rfl rfl hb7)) (Dl.q (Y.pickT (v := (Value.bool true)) (wantG rfl rfl hb4) rfl hb7 rfl) (Dl.q (Y.pickT (v := (Value.bool true)) rfl rfl hb4 rfl) (Dl.nil ?_)))
        exact Th.m ⟨_, h, _, eqUpd rfl (eqMask (by repeat' (first | exact Off.refl _ _ | refine Off.u rfl ?_ | refine Off.m rfl ?_)))⟩
      · refine Dl.q (Y.mv (v := (vI q1)) (wantG rfl rfl hb7) rfl) (Dl.q (Y.gtr (wantG rfl rfl hb7) rfl rfl) (Dl.q (Y.mv (v := (Value.bool (decide (0 < q1)))) (wantG rfl rfl hb7) rfl) ?_))
        refine M.split h (fun hb8 h => ?_) (fun hb8 h => ?_)
        · refine Dl.q (Y.mv (v := (Value.string p0)) (wantG rfl rfl hb8) rfl) (Dl.q (Y.mv (v := (vI q1)) (wantG rfl rfl hb8) rfl) ?_)
          obtain ⟨x9, hcx9, h⟩ := h
          refine Dl.q (Y.idx (wantG rfl rfl hb8) rfl rfl hcx9) (Dl.q (Y.geq (wantG rfl rfl hb8) rfl rfl) (Dl.q (Y.pickT (v := (Value.bool (decide (48 ≤ x9)))) (wantG rfl rfl hb7) rfl hb8 rfl) (Dl.q (Y.mv (v := (Value.bool (decide (48 ≤ x9)))) (wantG rfl rfl hb7) rfl) ?_)))
          refine M.split h (fun hb10 h => ?_) (fun hb10 h => ?_)
          · refine Dl.q (Y.mv (v := (Value.string p0)) (wantG rfl rfl hb10) rfl) (Dl.q (Y.mv (v := (vI q1)) (wantG rfl rfl hb10) rfl) ?_)
            obtain ⟨x11, hcx11, h⟩ := h
            refine Dl.q (Y.idx (wantG rfl rfl hb10) rfl rfl hcx11) (Dl.q (Y.leq (wantG rfl rfl hb10) rfl rfl) (Dl.q (Y.pickT (v := (Value.bool (decide (x11 ≤ 57)))) (wantG rfl rfl hb7) rfl hb10 rfl) (Dl.q (Y.pickF (v := (Value.bool (decide (x11 ≤ 57)))) (wantG rfl rfl hb4) rfl hb7 rfl) (Dl.q (Y.pickT (v := (Value.bool (decide (x11 ≤ 57)))) rfl rfl hb4 rfl) (Dl.nil ?_)))))
            exact Th.m ⟨_, h, _, eqUpd rfl (eqMask (by repeat' (first | exact Off.refl _ _ | refine Off.u rfl ?_ | refine Off.m rfl ?_)))⟩
          · refine Dl.q (Y.skip (unwantG rfl rfl hb10)) (Dl.q (Y.skip (unwantG rfl rfl hb10)) (Dl.q (Y.skip (unwantG rfl rfl hb10)) (Dl.q (Y.skip (unwantG rfl rfl hb10)) (Dl.q (Y.pickF (v := (Value.bool false)) (wantG rfl rfl hb7) rfl hb10 rfl) (Dl.q (Y.pickF (v := (Value.bool false)) (wantG rfl rfl hb4) rfl hb7 rfl) (Dl.q (Y.pickT (v := (Value.bool false)) rfl rfl hb4 rfl) (Dl.nil ?_)))))))
            exact Th.m ⟨_, h, _, eqUpd rfl (eqMask (by repeat' (first | exact Off.refl _ _ | refine Off.u rfl ?_ | refine Off.m rfl ?_)))⟩
        · refine Dl.q (Y.skip (unwantG rfl rfl hb8)) (Dl.q (Y.skip (unwantG rfl rfl hb8)) (Dl.q (Y.skip (unwantG rfl rfl hb8)) (Dl.q (Y.skip (unwantG rfl rfl hb8)) (Dl.q (Y.pickF (v := (Value.bool false)) (wantG rfl rfl hb7) rfl hb8 rfl) (Dl.q (Y.mv (v := (Value.bool false)) (wantG rfl rfl hb7) rfl) (Dl.q (Y.skip (unwantG rfl rfl rfl)) (Dl.q (Y.skip (unwantG rfl rfl rfl)) (Dl.q (Y.skip (unwantG rfl rfl rfl)) (Dl.q (Y.skip (unwantG rfl rfl rfl)) (Dl.q (Y.pickF (v := (Value.bool false)) (wantG rfl rfl hb7) rfl rfl rfl) (Dl.q (Y.pickF (v := (Value.bool false)) (wantG rfl rfl hb4) rfl hb7 rfl) (Dl.q (Y.pickT (v := (Value.bool false)) rfl rfl hb4 rfl) ?_))))))))))))
          refine Dl.nil ?_
          exact Th.m ⟨_, h, _, eqUpd rfl (eqMask (by repeat' (first | exact Off.refl _ _ | refine Off.u rfl ?_ | refine Off.m rfl ?_)))⟩
    · refine Dl.q (Y.skip (unwantG rfl rfl hb4)) (Dl.q (Y.skip (unwantG rfl rfl hb4)) (Dl.q (Y.skip (unwantG rfl rfl hb4)) (Dl.q (Y.skip (unwantG rfl rfl hb4)) (Dl.q (Y.skip (unwantG rfl rfl hb4)) (Dl.q (Y.skip (unwantU rfl rfl)) (Dl.q (Y.skip (unwantU rfl rfl)) (Dl.q (Y.skip (unwantU rfl rfl)) (Dl.q (Y.skip (unwantU rfl rfl)) (Dl.q (Y.skip (unwantU rfl rfl)) (Dl.q (Y.skip (unwantU rfl rfl)) (Dl.q (Y.skip (unwantU rfl rfl)) (Dl.q (Y.skip (unwantU rfl rfl)) ?_))))))))))))
      refine Dl.q (Y.skip (unwantU rfl rfl)) (Dl.q (Y.skip (unwantU rfl rfl)) (Dl.q (Y.skip (unwantU rfl rfl)) (Dl.q (Y.skip (unwantU rfl rfl)) (Dl.q (Y.skip (unwantU rfl rfl)) (Dl.q (Y.skip (unwantU rfl rfl)) (Dl.q (Y.skip (unwantG rfl rfl hb4)) (Dl.q (Y.pickF (v := (Value.bool false)) rfl rfl hb4 rfl) (Dl.nil ?_))))))))
      exact Th.m ⟨_, h, _, eqUpd rfl (eqMask (by repeat' (first | exact Off.refl _ _ | refine Off.u rfl ?_ | refine Off.m rfl ?_)))⟩
  · refine Dw.cond rfl (fun hb13 => ?_) (fun hb13 => ?_)
    · replace h := M.iteT h hb13
      refine Dw.skip (Th.m (Dw.block (Dw.region (Dl.q (Y.mv (v := (vI q1)) rfl rfl) (Dl.q (Y.add rfl rfl rfl) (Dl.q (Y.asg (v := (vI (wI (q1 + 1)))) rfl rfl) (Dl.nil (InB.m ?_))))))))
      exact Th.m ⟨_, h, _, eqUpd rfl (eqMask (by repeat' (first | exact Off.refl _ _ | refine Off.u rfl ?_ | refine Off.m rfl ?_)))⟩
    · replace h := M.iteF h hb13
      refine Dw.exit (Th.e (Th.e (InB.e (Th.m (Dw.seq (Dw.region (Dl.q (Y.mv (v := (vI q1)) rfl rfl) (Dl.q (Y.asg (v := (vI q1)) rfl rfl) (Dl.nil (Th.m (Dw.ret ?_)))))))))))
      exact fin1 rfl ⟨_, rfl, h⟩
set_option maxHeartbeats 1000000 in
set_option maxRecDepth 20000 in
theorem slices_Index_Lstringstring {p0 : Sl} {p1 : ByteArray} {w : World} {R : Int → World → Prop} (h : S.slices_Index_Lstringstring p0 p1 w R) : Calls Try.prog 79 [(Sl.val p0), (Value.string p1)].toArray w (Ret vI R) := by
  refine calls_of Try.func79 rfl rfl rfl (by kernel_rfl) rfl ?_
  unfold S.slices_Index_Lstringstring at h
  refine Dw.seq (Dw.region (Dl.q (Y.asg (v := (vI 0)) rfl rfl) (Dl.nil (Th.m (Dw.seq (Dw.seq (Dw.region (Dl.q (Y.mv (v := (Sl.val p0)) rfl rfl) (Dl.q (Y.len rfl Try.runUnderlying25 rfl) (Dl.q (Y.mv (v := (vI 0)) rfl rfl) (Dl.nil (Th.m ?_))))))))))))
  refine Dw.block ?_
  refine Dw.loopM (fun s j r => upd (mask r j 524080) 8 (vI s)) h ⟨_, eqUpd rfl (eqMask (by repeat' (first | exact Off.refl _ _ | refine Off.u rfl ?_ | refine Off.m rfl ?_)))⟩ ?_
  intro I m q1 j w h
  refine Dw.seq (Dw.region (Dl.q (Y.lss rfl rfl rfl) (Dl.nil (Th.m (Dw.seq ?_)))))
  refine Dw.cond rfl (fun hb6 => ?_) (fun hb6 => ?_)
  · replace h := M.iteT h hb6
    refine Dw.skip (Th.m (Dw.seq (Dw.block (Dw.seq (Dw.region (Dl.q (Y.mv (v := (vI q1)) rfl rfl) (Dl.q (Y.asg (v := (vI q1)) rfl rfl) (Dl.nil (Th.m (Dw.seq (Dw.region (Dl.q (Y.mv (v := (Value.string p1)) rfl rfl) ?_))))))))))))
    refine Dl.q (Y.mv (v := (Sl.val p0)) rfl rfl) (Dl.q (Y.mv (v := (vI q1)) rfl rfl) ?_)
    obtain ⟨a3, a30, ha, hi, he, h⟩ := h
    refine Dl.q (Y.ix rfl Try.runUnderlying25 Try.sizeOf9 rfl rfl ha hi he) ?_
    obtain ⟨x4, hcx4, h⟩ := h
    refine Dl.q (Y.ld rfl Try.isAgg9 rfl hcx4) (Dl.q (Y.eqS rfl rfl rfl) (Dl.nil (Th.m ?_)))
    refine Dw.cond rfl (fun hb5 => ?_) (fun hb5 => ?_)
    · replace h := M.iteT h hb5
      refine Dw.seq (Dw.region (Dl.q (Y.mv (v := (vI q1)) rfl rfl) (Dl.q (Y.asg (v := (vI q1)) rfl rfl) (Dl.nil (Th.m (Dw.ret (InB.r (Th.r (Th.r (InB.r (Th.r ?_)))))))))))
      exact fin1 rfl ⟨_, rfl, h⟩
    · replace h := M.iteF h hb5
      refine Dw.skip (InB.m (Th.m (Dw.region (Dl.q (Y.add rfl rfl rfl) (Dl.q (Y.mv (v := (vI (wI (q1 + 1)))) rfl rfl) (Dl.nil ?_))))))
      exact Th.m ⟨_, h, _, eqUpd rfl (eqMask (by repeat' (first | exact Off.refl _ _ | refine Off.u rfl ?_ | refine Off.m rfl ?_)))⟩
  · replace h := M.iteF h hb6
    refine Dw.exit (Th.e (Th.e (InB.e (Th.m (Dw.seq (Dw.region (Dl.q (Y.asg (v := (vI (-1))) rfl rfl) (Dl.nil (Th.m (Dw.ret ?_))))))))))
    exact fin1 rfl ⟨_, rfl, h⟩
set_option maxHeartbeats 1000000 in
set_option maxRecDepth 20000 in
theorem slices_stableCmpFunc_int {p0 : Sl} {p1 : Int} {p2 : Value} {w : World} {R : Unit → World → Prop} (h : S.slices_stableCmpFunc_int p0 p1 p2 w R) : Calls Try.prog 80 [(Sl.val p0), (vI p1), p2].toArray w (Ret vUnit R) := by
  refine calls_of Try.func80 rfl rfl rfl (by kernel_rfl) rfl ?_
  unfold S.slices_stableCmpFunc_int at h
  refine Dw.seq (Dw.region (Dl.q (Y.asg (v := (vI 20)) rfl rfl) (Dl.nil (Th.m (Dw.seq (Dw.region (Dl.q (Y.mv (v := (vI 20)) rfl rfl) (Dl.q (Y.asg (v := (vI 0)) rfl rfl) (Dl.q (Y.asg (v := (vI 20)) rfl rfl) (Dl.nil (Th.m (Dw.seq ?_))))))))))))
  refine Dw.block ?_
  refine Dw.loopM (fun s j r => upd (upd (mask r j 8386944) 7 (vI s.1)) 8 (vI s.2)) h ⟨_, eqUpd rfl (eqUpd rfl (eqMask (by repeat' (first | exact Off.refl _ _ | refine Off.u rfl ?_ | refine Off.m rfl ?_))))⟩ ?_
  intro I m q1 j w h
  refine Dw.seq (Dw.seq (Dw.region (Dl.q (Y.mv (v := (vI q1.2)) rfl rfl) (Dl.q (Y.mv (v := (vI p1)) rfl rfl) (Dl.q (Y.leq rfl rfl rfl) (Dl.nil (Th.m ?_)))))))
  refine Dw.cond rfl (fun hb14 => ?_) (fun hb14 => ?_)
  · replace h := M.iteT h hb14
    refine Dw.skip (Th.m (Dw.block (Dw.seq (Dw.region (Dl.q (Y.mv (v := (Sl.val p0)) rfl rfl) (Dl.q (Y.mv (v := (vI q1.1)) rfl rfl) (Dl.q (Y.mv (v := (vI q1.2)) rfl rfl) (Dl.q (Y.mv (v := p2) rfl rfl) ?_))))))))
    refine Dl.n (N.call rfl Try.call90 rfl h ?_)
    intro r3 w h
    refine Dl.nil (Th.m (Dw.seq (Dw.region (Dl.q (Y.mv (v := (vI q1.2)) rfl rfl) (Dl.q (Y.asg (v := (vI q1.2)) rfl rfl) (Dl.nil (Th.m (Dw.region (Dl.q (Y.mv (v := (vI q1.2)) rfl rfl) (Dl.q (Y.mv (v := (vI 20)) rfl rfl) (Dl.q (Y.add rfl rfl rfl) (Dl.q (Y.asg (v := (vI (wI (q1.2 + 20)))) rfl rfl) ?_))))))))))))
    refine Dl.nil (InB.m ?_)
    exact Th.m ⟨_, h, _, eqUpd rfl (eqUpd rfl (eqMask (by repeat' (first | exact Off.refl _ _ | refine Off.u rfl ?_ | refine Off.m rfl ?_))))⟩
  · replace h := M.iteF h hb14
    refine Dw.exit (Th.e (Th.e (InB.e (Th.m (Dw.seq (Dw.region (Dl.q (Y.mv (v := (Sl.val p0)) rfl rfl) (Dl.q (Y.mv (v := (vI q1.1)) rfl rfl) (Dl.q (Y.mv (v := (vI p1)) rfl rfl) (Dl.q (Y.mv (v := p2) rfl rfl) ?_))))))))))
    refine Dl.n (N.call rfl Try.call90 rfl h ?_)
    intro r4 w h
    refine Dl.nil (Th.m (Dw.block ?_))
    refine Dw.loopM (fun s j r => upd (mask r j 9223372036586341312) 6 (vI s)) h ⟨_, eqUpd rfl (eqMask (by repeat' (first | exact Off.refl _ _ | refine Off.u rfl ?_ | refine Off.m rfl ?_)))⟩ ?_
    intro I m q5 j w h
    refine Dw.seq (Dw.seq (Dw.region (Dl.q (Y.mv (v := (vI q5)) rfl rfl) (Dl.q (Y.mv (v := (vI p1)) rfl rfl) (Dl.q (Y.lss rfl rfl rfl) (Dl.nil (Th.m ?_)))))))
    refine Dw.cond rfl (fun hb13 => ?_) (fun hb13 => ?_)
    · replace h := M.iteT h hb13
      refine Dw.skip (Th.m (Dw.block (Dw.seq (Dw.region (Dl.q (Y.mv (v := (vI q5)) rfl rfl) (Dl.q (Y.mul rfl rfl rfl) (Dl.q (Y.asg (v := (vI 0)) rfl rfl) (Dl.q (Y.asg (v := (vI (wI (2 * q5)))) rfl rfl) (Dl.nil (Th.m (Dw.seq (Dw.block ?_))))))))))))
      refine Dw.loopM (fun s j r => upd (upd (mask r j 562941363487104) 7 (vI s.1)) 8 (vI s.2)) h ⟨_, eqUpd rfl (eqUpd rfl (eqMask (by repeat' (first | exact Off.refl _ _ | refine Off.u rfl ?_ | refine Off.m rfl ?_))))⟩ ?_
      intro I m q7 j w h
      refine Dw.seq (Dw.seq (Dw.region (Dl.q (Y.mv (v := (vI q7.2)) rfl rfl) (Dl.q (Y.mv (v := (vI p1)) rfl rfl) (Dl.q (Y.leq rfl rfl rfl) (Dl.nil (Th.m ?_)))))))
      refine Dw.cond rfl (fun hb12 => ?_) (fun hb12 => ?_)
      · replace h := M.iteT h hb12
        refine Dw.skip (Th.m (Dw.block (Dw.seq (Dw.region (Dl.q (Y.mv (v := (Sl.val p0)) rfl rfl) (Dl.q (Y.mv (v := (vI q7.1)) rfl rfl) (Dl.q (Y.mv (v := (vI q7.1)) rfl rfl) (Dl.q (Y.mv (v := (vI q5)) rfl rfl) (Dl.q (Y.add rfl rfl rfl) (Dl.q (Y.mv (v := (vI q7.2)) rfl rfl) (Dl.q (Y.mv (v := p2) rfl rfl) ?_)))))))))))
        refine Dl.n (N.call rfl Try.call91 rfl h ?_)
        intro r9 w h
        refine Dl.nil (Th.m (Dw.seq (Dw.region (Dl.q (Y.mv (v := (vI q7.2)) rfl rfl) (Dl.q (Y.asg (v := (vI q7.2)) rfl rfl) (Dl.nil (Th.m (Dw.region (Dl.q (Y.mv (v := (vI q7.2)) rfl rfl) (Dl.q (Y.mv (v := (vI q5)) rfl rfl) (Dl.q (Y.mul rfl rfl rfl) (Dl.q (Y.add rfl rfl rfl) ?_))))))))))))
        refine Dl.q (Y.asg (v := (vI (wI (q7.2 + (wI (2 * q5)))))) rfl rfl) (Dl.nil (InB.m ?_))
        exact Th.m ⟨_, h, _, eqUpd rfl (eqUpd rfl (eqMask (by repeat' (first | exact Off.refl _ _ | refine Off.u rfl ?_ | refine Off.m rfl ?_))))⟩
      · replace h := M.iteF h hb12
        refine Dw.exit (Th.e (Th.e (InB.e (Th.m (Dw.seq (Dw.seq (Dw.region (Dl.q (Y.mv (v := (vI q7.1)) rfl rfl) (Dl.q (Y.mv (v := (vI q5)) rfl rfl) (Dl.q (Y.add rfl rfl rfl) (Dl.q (Y.asg (v := (vI (wI (q7.1 + q5)))) rfl rfl) (Dl.nil ?_))))))))))))
        refine Th.m (Dw.seq (Dw.region (Dl.q (Y.mv (v := (vI (wI (q7.1 + q5)))) rfl rfl) (Dl.q (Y.mv (v := (vI p1)) rfl rfl) (Dl.q (Y.lss rfl rfl rfl) (Dl.nil (Th.m ?_)))))))
        refine Dw.cond rfl (fun hb11 => ?_) (fun hb11 => ?_)
        · replace h := M.iteT h hb11
          refine Dw.region (Dl.q (Y.mv (v := (Sl.val p0)) rfl rfl) (Dl.q (Y.mv (v := (vI q7.1)) rfl rfl) (Dl.q (Y.mv (v := (vI (wI (q7.1 + q5)))) rfl rfl) (Dl.q (Y.mv (v := (vI p1)) rfl rfl) (Dl.q (Y.mv (v := p2) rfl rfl) ?_)))))
          refine Dl.n (N.call rfl Try.call91 rfl h ?_)
          intro r10 w h
          refine Dl.nil (Th.m (Dw.region (Dl.q (Y.mv (v := (vI q5)) rfl rfl) (Dl.q (Y.mul rfl rfl rfl) (Dl.q (Y.asg (v := (vI (wI (q5 * 2)))) rfl rfl) (Dl.nil (InB.m ?_)))))))
          exact Th.m ⟨_, h, _, eqUpd rfl (eqMask (by repeat' (first | exact Off.refl _ _ | refine Off.u rfl ?_ | refine Off.m rfl ?_)))⟩
        · replace h := M.iteF h hb11
          refine Dw.skip (Th.m (Dw.region (Dl.q (Y.mv (v := (vI q5)) rfl rfl) (Dl.q (Y.mul rfl rfl rfl) (Dl.q (Y.asg (v := (vI (wI (q5 * 2)))) rfl rfl) (Dl.nil (InB.m ?_)))))))
          exact Th.m ⟨_, h, _, eqUpd rfl (eqMask (by repeat' (first | exact Off.refl _ _ | refine Off.u rfl ?_ | refine Off.m rfl ?_)))⟩
    · replace h := M.iteF h hb13
      refine Dw.exit (Th.e (Th.e (InB.e ?_)))
      exact fin0 ⟨(), rfl, h⟩
set_option maxHeartbeats 1000000 in
set_option maxRecDepth 20000 in
theorem hopcroft_parter_askLesser_c1 {p0 : Int} {c0 : Addr} {w : World} {R : Int → World → Prop} (h : S.hopcroft_parter_askLesser_c1 p0 c0 w R) : Calls Try.prog 81 [(vI p0), (vA c0)].toArray w (Ret vI R) := by
  refine calls_of Try.func81 rfl rfl rfl (by kernel_rfl) rfl ?_
  unfold S.hopcroft_parter_askLesser_c1 at h
  refine Dw.seq (Dw.region (Dl.q (Y.asg (v := (vI 0)) rfl rfl) (Dl.nil (Th.m (Dw.seq (Dw.game (by kernel_rfl) ?_))))))
  replace h := M.drew_un h
  generalize World.drew _ = w at h ⊢
  obtain ⟨x1, hcx1, h⟩ := h
  refine Gm.quiet 0 rfl (by kernel_rfl) (fun _ hw => Y.ld rfl Try.isAgg45 rfl hw) hcx1 ?_
  obtain ⟨a2, ha, h⟩ := h
  refine Gm.pure 1 rfl (by kernel_rfl) (fun _ => Y.nn rfl rfl ha) (Gm.pure 2 rfl (by kernel_rfl) (fun _ => Y.fa 3 rfl Try.runUnderlying52 rfl Try.sizeOf47 (by decide) rfl rfl) ?_)
  obtain ⟨x3, hcx3, h⟩ := h
  refine Gm.quiet 3 rfl (by kernel_rfl) (fun _ hw => Y.ld rfl Try.isAgg47 rfl hw) hcx3 (Gm.pure 4 rfl (by kernel_rfl) (fun _ => Y.mv (v := (vI p0)) rfl rfl) ?_)
  obtain ⟨a4, a40, ha, hi, he, h⟩ := h
  refine Gm.pure 5 rfl (by kernel_rfl) (fun _ => Y.ix rfl Try.runUnderlying47 Try.sizeOf75 rfl rfl ha hi he) (Gm.pure 6 rfl (by kernel_rfl) (fun _ => Y.fa 1 rfl Try.runUnderlying75 rfl Try.sizeOf3 (by decide) rfl rfl) ?_)
  obtain ⟨x5, hcx5, h⟩ := h
  refine Gm.quiet 7 rfl (by kernel_rfl) (fun _ hw => Y.ld rfl Try.isAgg3 rfl hw) hcx5 ?_
  obtain ⟨x6, hcx6, h⟩ := h
  refine Gm.quiet 8 rfl (by kernel_rfl) (fun _ hw => Y.ld rfl Try.isAgg45 rfl hw) hcx6 ?_
  obtain ⟨a7, ha, h⟩ := h
  refine Gm.pure 9 rfl (by kernel_rfl) (fun _ => Y.nn rfl rfl ha) (Gm.pure 10 rfl (by kernel_rfl) (fun _ => Y.fa 3 rfl Try.runUnderlying52 rfl Try.sizeOf47 (by decide) rfl rfl) ?_)
  obtain ⟨x8, hcx8, h⟩ := h
  refine Gm.quiet 11 rfl (by kernel_rfl) (fun _ hw => Y.ld rfl Try.isAgg47 rfl hw) hcx8 (Gm.pure 12 rfl (by kernel_rfl) (fun _ => Y.mv (v := (vI p0)) rfl rfl) ?_)
  obtain ⟨a9, a90, ha, hi, he, h⟩ := h
  refine Gm.pure 13 rfl (by kernel_rfl) (fun _ => Y.ix rfl Try.runUnderlying47 Try.sizeOf75 rfl rfl ha hi he) (Gm.pure 14 rfl (by kernel_rfl) (fun _ => Y.fa 0 rfl Try.runUnderlying75 rfl Try.sizeOf3 (by decide) rfl rfl) ?_)
  obtain ⟨x10, hcx10, h⟩ := h
  refine Gm.quiet 15 rfl (by kernel_rfl) (fun _ hw => Y.ld rfl Try.isAgg3 rfl hw) hcx10 (Gm.pure 16 rfl (by kernel_rfl) (fun _ => Y.sub rfl rfl rfl) (Gm.pure 17 rfl (by kernel_rfl) (fun _ => Y.asg (v := (vI (wI (x5 - x10)))) rfl rfl) (Gm.end (by kernel_rfl) (Th.m (Dw.ret ?_)))))
  exact fin1 rfl ⟨_, rfl, h⟩
set_option maxHeartbeats 1000000 in
set_option maxRecDepth 20000 in
theorem r19_Norm {p0 : (Nat → Int)} {w : World} {R : ((Nat → Int) × Int) → World → Prop} (h : S.r19_Norm p0 w R) : Calls Try.prog 82 [(.agg (Ar.cs p0).toArray)].toArray w (Ret (fun x : ((Nat → Int) × Int) => .tuple #[(.agg (Ar.cs x.1).toArray), (vI x.2)]) R) := by
  refine calls_of Try.func82 rfl rfl rfl (by kernel_rfl) rfl ?_
  unfold S.r19_Norm at h
  refine Dw.seq (Dw.region ?_)
  refine Dl.n (N.box rfl h rfl rfl fun b1 _ h => ?_)
  refine Dl.n (N.new rfl Try.zeroValue22 h (by kernel_rfl) fun b2 _ h => ?_)
  refine Dl.q (Y.asg (v := (vI 0)) rfl rfl) (Dl.nil (Th.m (Dw.seq (Dw.region ?_))))
  obtain ⟨v3, hcv3, h⟩ := h
  refine Dl.q (Y.ldA rfl Try.isAgg22 Try.sizeOf22 (Ar_len _) rfl hcv3) ?_
  refine Dl.n (N.call rfl Try.call93 rfl h ?_)
  intro r4 w h
  refine Dl.n (N.call rfl Try.call92 rfl h ?_)
  intro r5 w h
  refine Dl.q (Y.ext rfl rfl rfl) (Dl.q (Y.ext rfl rfl rfl) ?_)
  refine Dl.n (N.stA rfl Try.sizeOf22 h rfl rfl (Ar_len _) (Ar_one _) fun h => ?_)
  generalize setCells _ _ _ _ = w at h ⊢
  refine Dl.q (Y.asg (v := (vI r5.2)) rfl rfl) (Dl.nil (Th.m (Dw.ret ?_)))
  obtain ⟨v6, hc, h⟩ := h
  exact finC2 Try.isAgg22 Try.sizeOf22 (Ar_len _) rfl rfl hc ⟨_, rfl, h⟩
set_option maxHeartbeats 1000000 in
set_option maxRecDepth 20000 in
theorem r09_May {p0 : Int} {p1 : Bool} {w : World} {R : Bool → World → Prop} (h : S.r09_May p0 p1 w R) : Calls Try.prog 83 [(vU8 p0), (Value.bool p1)].toArray w (Ret Value.bool R) := by
  refine calls_of Try.func83 rfl rfl rfl (by kernel_rfl) rfl ?_
  unfold S.r09_May at h
  refine Dw.seq (Dw.region (Dl.q (Y.asg (v := (Value.bool false)) rfl rfl) (Dl.nil (Th.m (Dw.seq ?_)))))
  refine Dw.joinM (fun s j r => upd (mask r j 2016) 10 (Value.bool s)) h (fun C h => ?_) (fun q3 j w h => ?_)
  · refine Dw.region (Dl.q (Y.mv (v := (vU8 p0)) rfl rfl) (Dl.q (Y.geq rfl rfl rfl) (Dl.q (Y.mv (v := (Value.bool (decide (48 ≤ p0)))) rfl rfl) ?_)))
    refine M.split h (fun hb2 h => ?_) (fun hb2 h => ?_)
    · refine Dl.q (Y.mv (v := (vU8 p0)) (wantG rfl rfl hb2) rfl) (Dl.q (Y.leq (wantG rfl rfl hb2) rfl rfl) (Dl.q (Y.pickT (v := (Value.bool (decide (p0 ≤ 57)))) rfl rfl hb2 rfl) (Dl.nil ?_)))
      exact Th.m ⟨_, h, _, eqUpd rfl (eqMask (by repeat' (first | exact Off.refl _ _ | refine Off.u rfl ?_ | refine Off.m rfl ?_)))⟩
    · refine Dl.q (Y.skip (unwantG rfl rfl hb2)) (Dl.q (Y.skip (unwantG rfl rfl hb2)) (Dl.q (Y.pickF (v := (Value.bool false)) rfl rfl hb2 rfl) (Dl.nil ?_)))
      exact Th.m ⟨_, h, _, eqUpd rfl (eqMask (by repeat' (first | exact Off.refl _ _ | refine Off.u rfl ?_ | refine Off.m rfl ?_)))⟩
  · refine Dw.cond rfl (fun hb10 => ?_) (fun hb10 => ?_)
    · replace h := M.iteT h hb10
      refine Dw.seq (Dw.region (Dl.q (Y.mv (v := (Value.bool p1)) rfl rfl) (Dl.q (Y.not rfl rfl) (Dl.q (Y.asg (v := (Value.bool (!p1))) rfl rfl) (Dl.nil (Th.m (Dw.ret (Th.r ?_))))))))
      exact fin1 rfl ⟨_, rfl, h⟩
    · replace h := M.iteF h hb10
      refine Dw.skip (Th.m (Dw.seq (Dw.region (Dl.q (Y.mv (v := (vU8 p0)) rfl rfl) (Dl.q (Y.geq rfl rfl rfl) (Dl.q (Y.mv (v := (Value.bool (decide (97 ≤ p0)))) rfl rfl) ?_))))))
      refine M.split h (fun hb4 h => ?_) (fun hb4 h => ?_)
      · refine Dl.q (Y.mv (v := (vU8 p0)) (wantG rfl rfl hb4) rfl) (Dl.q (Y.leq (wantG rfl rfl hb4) rfl rfl) (Dl.q (Y.pickT (v := (Value.bool (decide (p0 ≤ 122)))) rfl rfl hb4 rfl) (Dl.q (Y.mv (v := (Value.bool (decide (p0 ≤ 122)))) rfl rfl) ?_)))
        refine M.split h (fun hb5 h => ?_) (fun hb5 h => ?_)
        · refine Dl.q (Y.skip (unwantG rfl rfl hb5)) (Dl.q (Y.skip (unwantG rfl rfl hb5)) (Dl.q (Y.skip (unwantG rfl rfl hb5)) (Dl.q (Y.skip (unwantU rfl rfl)) (Dl.q (Y.skip (unwantU rfl rfl)) (Dl.q (Y.skip (unwantG rfl rfl hb5)) (Dl.q (Y.pickT (v := (Value.bool true)) rfl rfl hb5 rfl) (Dl.q (Y.mv (v := (Value.bool true)) rfl rfl) (Dl.q (Y.skip (unwantG rfl rfl rfl)) (Dl.q (Y.skip (unwantG rfl rfl rfl)) (Dl.q (Y.pickT (v := (Value.bool true)) rfl rfl rfl rfl) (Dl.q (Y.asg (v := (Value.bool true)) rfl rfl) (Dl.nil ?_))))))))))))
          refine Th.m (Dw.ret ?_)
          exact fin1 rfl ⟨_, rfl, h⟩
        · refine Dl.q (Y.mv (v := (vU8 p0)) (wantG rfl rfl hb5) rfl) (Dl.q (Y.geq (wantG rfl rfl hb5) rfl rfl) (Dl.q (Y.mv (v := (Value.bool (decide (65 ≤ p0)))) (wantG rfl rfl hb5) rfl) ?_))
          refine M.split h (fun hb6 h => ?_) (fun hb6 h => ?_)
          · refine Dl.q (Y.mv (v := (vU8 p0)) (wantG rfl rfl hb6) rfl) (Dl.q (Y.leq (wantG rfl rfl hb6) rfl rfl) (Dl.q (Y.pickT (v := (Value.bool (decide (p0 ≤ 90)))) (wantG rfl rfl hb5) rfl hb6 rfl) (Dl.q (Y.pickF (v := (Value.bool (decide (p0 ≤ 90)))) rfl rfl hb5 rfl) (Dl.q (Y.mv (v := (Value.bool (decide (p0 ≤ 90)))) rfl rfl) ?_))))
            refine M.split h (fun hb7 h => ?_) (fun hb7 h => ?_)
            · refine Dl.q (Y.skip (unwantG rfl rfl hb7)) (Dl.q (Y.skip (unwantG rfl rfl hb7)) (Dl.q (Y.pickT (v := (Value.bool true)) rfl rfl hb7 rfl) (Dl.q (Y.asg (v := (Value.bool true)) rfl rfl) (Dl.nil (Th.m (Dw.ret ?_))))))
              exact fin1 rfl ⟨_, rfl, h⟩
            · refine Dl.q (Y.mv (v := (vU8 p0)) (wantG rfl rfl hb7) rfl) (Dl.q (Y.eqI (wantG rfl rfl hb7) rfl rfl) (Dl.q (Y.pickF (v := (Value.bool (decide (p0 = 95)))) rfl rfl hb7 rfl) (Dl.q (Y.asg (v := (Value.bool (decide (p0 = 95)))) rfl rfl) (Dl.nil (Th.m (Dw.ret ?_))))))
              exact fin1 rfl ⟨_, rfl, h⟩
          · refine Dl.q (Y.skip (unwantG rfl rfl hb6)) (Dl.q (Y.skip (unwantG rfl rfl hb6)) (Dl.q (Y.pickF (v := (Value.bool false)) (wantG rfl rfl hb5) rfl hb6 rfl) (Dl.q (Y.pickF (v := (Value.bool false)) rfl rfl hb5 rfl) (Dl.q (Y.mv (v := (Value.bool false)) rfl rfl) (Dl.q (Y.mv (v := (vU8 p0)) (wantG rfl rfl rfl) rfl) (Dl.q (Y.eqI (wantG rfl rfl rfl) rfl rfl) (Dl.q (Y.pickF (v := (Value.bool (decide (p0 = 95)))) rfl rfl rfl rfl) (Dl.q (Y.asg (v := (Value.bool (decide (p0 = 95)))) rfl rfl) (Dl.nil (Th.m (Dw.ret ?_)))))))))))
            exact fin1 rfl ⟨_, rfl, h⟩
      · refine Dl.q (Y.skip (unwantG rfl rfl hb4)) (Dl.q (Y.skip (unwantG rfl rfl hb4)) (Dl.q (Y.pickF (v := (Value.bool false)) rfl rfl hb4 rfl) (Dl.q (Y.mv (v := (Value.bool false)) rfl rfl) (Dl.q (Y.mv (v := (vU8 p0)) (wantG rfl rfl rfl) rfl) (Dl.q (Y.geq (wantG rfl rfl rfl) rfl rfl) (Dl.q (Y.mv (v := (Value.bool (decide (65 ≤ p0)))) (wantG rfl rfl rfl) rfl) ?_))))))
        refine M.split h (fun hb8 h => ?_) (fun hb8 h => ?_)
        · refine Dl.q (Y.mv (v := (vU8 p0)) (wantG rfl rfl hb8) rfl) (Dl.q (Y.leq (wantG rfl rfl hb8) rfl rfl) (Dl.q (Y.pickT (v := (Value.bool (decide (p0 ≤ 90)))) (wantG rfl rfl rfl) rfl hb8 rfl) (Dl.q (Y.pickF (v := (Value.bool (decide (p0 ≤ 90)))) rfl rfl rfl rfl) (Dl.q (Y.mv (v := (Value.bool (decide (p0 ≤ 90)))) rfl rfl) ?_))))
          refine M.split h (fun hb9 h => ?_) (fun hb9 h => ?_)
          · refine Dl.q (Y.skip (unwantG rfl rfl hb9)) (Dl.q (Y.skip (unwantG rfl rfl hb9)) (Dl.q (Y.pickT (v := (Value.bool true)) rfl rfl hb9 rfl) (Dl.q (Y.asg (v := (Value.bool true)) rfl rfl) (Dl.nil (Th.m (Dw.ret ?_))))))
            exact fin1 rfl ⟨_, rfl, h⟩
          · refine Dl.q (Y.mv (v := (vU8 p0)) (wantG rfl rfl hb9) rfl) (Dl.q (Y.eqI (wantG rfl rfl hb9) rfl rfl) (Dl.q (Y.pickF (v := (Value.bool (decide (p0 = 95)))) rfl rfl hb9 rfl) (Dl.q (Y.asg (v := (Value.bool (decide (p0 = 95)))) rfl rfl) (Dl.nil (Th.m (Dw.ret ?_))))))
            exact fin1 rfl ⟨_, rfl, h⟩
        · refine Dl.q (Y.skip (unwantG rfl rfl hb8)) (Dl.q (Y.skip (unwantG rfl rfl hb8)) (Dl.q (Y.pickF (v := (Value.bool false)) (wantG rfl rfl rfl) rfl hb8 rfl) (Dl.q (Y.pickF (v := (Value.bool false)) rfl rfl rfl rfl) (Dl.q (Y.mv (v := (Value.bool false)) rfl rfl) (Dl.q (Y.mv (v := (vU8 p0)) (wantG rfl rfl rfl) rfl) (Dl.q (Y.eqI (wantG rfl rfl rfl) rfl rfl) (Dl.q (Y.pickF (v := (Value.bool (decide (p0 = 95)))) rfl rfl rfl rfl) (Dl.q (Y.asg (v := (Value.bool (decide (p0 = 95)))) rfl rfl) (Dl.nil (Th.m (Dw.ret ?_)))))))))))
          exact fin1 rfl ⟨_, rfl, h⟩
set_option maxHeartbeats 1000000 in
set_option maxRecDepth 20000 in
theorem r20_place {p0 : Sl} {p1 : Int} {w : World} {R : Int → World → Prop} (h : S.r20_place p0 p1 w R) : Calls Try.prog 84 [(Sl.val p0), (vI p1)].toArray w (Ret vI R) := by
  refine calls_of Try.func84 rfl rfl rfl (by kernel_rfl) rfl ?_
  unfold S.r20_place at h
  refine Dw.seq (Dw.region (Dl.q (Y.asg (v := (vI 0)) rfl rfl) (Dl.nil (Th.m (Dw.seq (Dw.seq (Dw.region (Dl.q (Y.asg (v := (vI 0)) rfl rfl) (Dl.nil (Th.m (Dw.block ?_)))))))))))
  refine Dw.loopM (fun s j r => upd (mask r j 524272) 5 (vI s)) h ⟨_, eqUpd rfl (eqMask (by repeat' (first | exact Off.refl _ _ | refine Off.u rfl ?_ | refine Off.m rfl ?_)))⟩ ?_
  intro I m q1 j w h
  refine Dw.seq (Dw.seq (Dw.region (Dl.q (Y.mv (v := (vI q1)) rfl rfl) (Dl.q (Y.mv (v := (Sl.val p0)) rfl rfl) (Dl.q (Y.len rfl Try.runUnderlying24 rfl) (Dl.q (Y.lss rfl rfl rfl) (Dl.nil (Th.m ?_))))))))
  refine Dw.cond rfl (fun hb6 => ?_) (fun hb6 => ?_)
  · replace h := M.iteT h hb6
    refine Dw.skip (Th.m (Dw.seq (Dw.block (Dw.seq (Dw.region (Dl.q (Y.mv (v := (Sl.val p0)) rfl rfl) (Dl.q (Y.mv (v := (vI q1)) rfl rfl) ?_)))))))
    obtain ⟨a3, a30, ha, hi, he, h⟩ := h
    refine Dl.q (Y.ix rfl Try.runUnderlying24 Try.sizeOf3 rfl rfl ha hi he) ?_
    obtain ⟨x4, hcx4, h⟩ := h
    refine Dl.q (Y.ld rfl Try.isAgg3 rfl hcx4) (Dl.q (Y.mv (v := (vI p1)) rfl rfl) (Dl.q (Y.eqI rfl rfl rfl) (Dl.nil (Th.m ?_))))
    refine Dw.cond rfl (fun hb5 => ?_) (fun hb5 => ?_)
    · replace h := M.iteT h hb5
      refine Dw.seq (Dw.region (Dl.q (Y.mv (v := (vI q1)) rfl rfl) (Dl.q (Y.asg (v := (vI q1)) rfl rfl) (Dl.nil (Th.m (Dw.ret (InB.r (Th.r (Th.r (InB.r (Th.r ?_)))))))))))
      exact fin1 rfl ⟨_, rfl, h⟩
    · replace h := M.iteF h hb5
      refine Dw.skip (InB.m (Th.m (Dw.region (Dl.q (Y.mv (v := (vI q1)) rfl rfl) (Dl.q (Y.add rfl rfl rfl) (Dl.q (Y.asg (v := (vI (wI (q1 + 1)))) rfl rfl) (Dl.nil ?_)))))))
      exact Th.m ⟨_, h, _, eqUpd rfl (eqMask (by repeat' (first | exact Off.refl _ _ | refine Off.u rfl ?_ | refine Off.m rfl ?_)))⟩
  · replace h := M.iteF h hb6
    refine Dw.exit (Th.e (Th.e (InB.e (Th.m (Dw.seq (Dw.region (Dl.q (Y.asg (v := (vI (-1))) rfl rfl) (Dl.nil (Th.m (Dw.ret ?_))))))))))
    exact fin1 rfl ⟨_, rfl, h⟩
set_option maxHeartbeats 1000000 in
set_option maxRecDepth 20000 in
theorem r17_Has {p0 : Sl} {p1 : Int} {w : World} {R : Bool → World → Prop} (h : S.r17_Has p0 p1 w R) : Calls Try.prog 85 [(Sl.val p0), (vI p1)].toArray w (Ret Value.bool R) := by
  refine calls_of Try.func85 rfl rfl rfl (by kernel_rfl) rfl ?_
  unfold S.r17_Has at h
  refine Dw.seq (Dw.region (Dl.q (Y.asg (v := (Value.bool false)) rfl rfl) (Dl.nil (Th.m (Dw.seq (Dw.seq (Dw.region (Dl.q (Y.asg (v := (vI 0)) rfl rfl) (Dl.nil (Th.m (Dw.block ?_)))))))))))
  refine Dw.loopM (fun s j r => upd (mask r j 262128) 5 (vI s)) h ⟨_, eqUpd rfl (eqMask (by repeat' (first | exact Off.refl _ _ | refine Off.u rfl ?_ | refine Off.m rfl ?_)))⟩ ?_
  intro I m q1 j w h
  refine Dw.seq (Dw.seq (Dw.region (Dl.q (Y.mv (v := (vI q1)) rfl rfl) (Dl.q (Y.mv (v := (Sl.val p0)) rfl rfl) (Dl.q (Y.len rfl Try.runUnderlying24 rfl) (Dl.q (Y.lss rfl rfl rfl) (Dl.nil (Th.m ?_))))))))
  refine Dw.cond rfl (fun hb6 => ?_) (fun hb6 => ?_)
  · replace h := M.iteT h hb6
    refine Dw.skip (Th.m (Dw.seq (Dw.block (Dw.seq (Dw.region (Dl.q (Y.mv (v := (Sl.val p0)) rfl rfl) (Dl.q (Y.mv (v := (vI q1)) rfl rfl) ?_)))))))
    obtain ⟨a3, a30, ha, hi, he, h⟩ := h
    refine Dl.q (Y.ix rfl Try.runUnderlying24 Try.sizeOf3 rfl rfl ha hi he) ?_
    obtain ⟨x4, hcx4, h⟩ := h
    refine Dl.q (Y.ld rfl Try.isAgg3 rfl hcx4) (Dl.q (Y.mv (v := (vI p1)) rfl rfl) (Dl.q (Y.eqI rfl rfl rfl) (Dl.nil (Th.m ?_))))
    refine Dw.cond rfl (fun hb5 => ?_) (fun hb5 => ?_)
    · replace h := M.iteT h hb5
      refine Dw.seq (Dw.region (Dl.q (Y.asg (v := (Value.bool true)) rfl rfl) (Dl.nil (Th.m (Dw.ret (InB.r (Th.r (Th.r (InB.r (Th.r ?_))))))))))
      exact fin1 rfl ⟨_, rfl, h⟩
    · replace h := M.iteF h hb5
      refine Dw.skip (InB.m (Th.m (Dw.region (Dl.q (Y.mv (v := (vI q1)) rfl rfl) (Dl.q (Y.add rfl rfl rfl) (Dl.q (Y.asg (v := (vI (wI (q1 + 1)))) rfl rfl) (Dl.nil ?_)))))))
      exact Th.m ⟨_, h, _, eqUpd rfl (eqMask (by repeat' (first | exact Off.refl _ _ | refine Off.u rfl ?_ | refine Off.m rfl ?_)))⟩
  · replace h := M.iteF h hb6
    refine Dw.exit (Th.e (Th.e (InB.e (Th.m (Dw.seq (Dw.region (Dl.q (Y.asg (v := (Value.bool false)) rfl rfl) (Dl.nil (Th.m (Dw.ret ?_))))))))))
    exact fin1 rfl ⟨_, rfl, h⟩
set_option maxHeartbeats 1000000 in
set_option maxRecDepth 20000 in
theorem r23_first {p0 : Sl} {p1 : Int} {w : World} {R : Int → World → Prop} (h : S.r23_first p0 p1 w R) : Calls Try.prog 86 [(Sl.val p0), (vI p1)].toArray w (Ret vI R) := by
  refine calls_of Try.func86 rfl rfl rfl (by kernel_rfl) rfl ?_
  unfold S.r23_first at h
  refine Dw.seq (Dw.region (Dl.q (Y.asg (v := (vI 0)) rfl rfl) (Dl.nil (Th.m (Dw.seq (Dw.seq (Dw.region (Dl.q (Y.asg (v := (vI 0)) rfl rfl) (Dl.nil (Th.m (Dw.block ?_)))))))))))
  refine Dw.loopM (fun s j r => upd (mask r j 524272) 5 (vI s)) h ⟨_, eqUpd rfl (eqMask (by repeat' (first | exact Off.refl _ _ | refine Off.u rfl ?_ | refine Off.m rfl ?_)))⟩ ?_
  intro I m q1 j w h
  refine Dw.seq (Dw.seq (Dw.region (Dl.q (Y.mv (v := (vI q1)) rfl rfl) (Dl.q (Y.mv (v := (Sl.val p0)) rfl rfl) (Dl.q (Y.len rfl Try.runUnderlying24 rfl) (Dl.q (Y.lss rfl rfl rfl) (Dl.nil (Th.m ?_))))))))
  refine Dw.cond rfl (fun hb6 => ?_) (fun hb6 => ?_)
  · replace h := M.iteT h hb6
    refine Dw.skip (Th.m (Dw.seq (Dw.block (Dw.seq (Dw.region (Dl.q (Y.mv (v := (Sl.val p0)) rfl rfl) (Dl.q (Y.mv (v := (vI q1)) rfl rfl) ?_)))))))
    obtain ⟨a3, a30, ha, hi, he, h⟩ := h
    refine Dl.q (Y.ix rfl Try.runUnderlying24 Try.sizeOf3 rfl rfl ha hi he) ?_
    obtain ⟨x4, hcx4, h⟩ := h
    refine Dl.q (Y.ld rfl Try.isAgg3 rfl hcx4) (Dl.q (Y.mv (v := (vI p1)) rfl rfl) (Dl.q (Y.eqI rfl rfl rfl) (Dl.nil (Th.m ?_))))
    refine Dw.cond rfl (fun hb5 => ?_) (fun hb5 => ?_)
    · replace h := M.iteT h hb5
      refine Dw.seq (Dw.region (Dl.q (Y.mv (v := (vI q1)) rfl rfl) (Dl.q (Y.asg (v := (vI q1)) rfl rfl) (Dl.nil (Th.m (Dw.ret (InB.r (Th.r (Th.r (InB.r (Th.r ?_)))))))))))
      exact fin1 rfl ⟨_, rfl, h⟩
    · replace h := M.iteF h hb5
      refine Dw.skip (InB.m (Th.m (Dw.region (Dl.q (Y.mv (v := (vI q1)) rfl rfl) (Dl.q (Y.add rfl rfl rfl) (Dl.q (Y.asg (v := (vI (wI (q1 + 1)))) rfl rfl) (Dl.nil ?_)))))))
      exact Th.m ⟨_, h, _, eqUpd rfl (eqMask (by repeat' (first | exact Off.refl _ _ | refine Off.u rfl ?_ | refine Off.m rfl ?_)))⟩
  · replace h := M.iteF h hb6
    refine Dw.exit (Th.e (Th.e (InB.e (Th.m (Dw.seq (Dw.region (Dl.q (Y.asg (v := (vI (-1))) rfl rfl) (Dl.nil (Th.m (Dw.ret ?_))))))))))
    exact fin1 rfl ⟨_, rfl, h⟩
set_option maxHeartbeats 1000000 in
set_option maxRecDepth 20000 in
theorem moore_rounds {p0 : Dfv} {w : World} {R : Value → World → Prop} (h : S.moore_rounds p0 w R) : Calls Try.prog 87 [(.agg (Dfv.cs p0).toArray)].toArray w (Ret (fun v : Value => v) R) := by
  refine calls_of Try.func87 rfl rfl rfl (by kernel_rfl) rfl ?_
  unfold S.moore_rounds at h
  refine Dw.seq (Dw.region ?_)
  refine Dl.n (N.box rfl h rfl rfl fun b1 _ h => ?_)
  refine Dl.q (Y.asg (v := Value.nilFunc) rfl rfl) (Dl.nil (Th.m (Dw.seq (Dw.region (Dl.q (Y.mkF rfl rfl) (Dl.q (Y.asg (v := (.func (.func 94) #[] #[(vA b1)])) rfl rfl) (Dl.nil (Th.m (Dw.ret ?_)))))))))
  exact fin1 rfl ⟨_, rfl, h⟩
set_option maxHeartbeats 1000000 in
set_option maxRecDepth 20000 in
theorem slices_Repeat_Lintint {p0 : Sl} {p1 : Int} {w : World} {R : Sl → World → Prop} (h : S.slices_Repeat_Lintint p0 p1 w R) : Calls Try.prog 88 [(Sl.val p0), (vI p1)].toArray w (Ret Sl.val R) := by
  refine calls_of Try.func88 rfl rfl rfl (by kernel_rfl) rfl ?_
  unfold S.slices_Repeat_Lintint at h
  refine Dw.seq (Dw.region (Dl.q (Y.asg (v := (Sl.val Sl.nil)) rfl rfl) (Dl.nil (Th.m (Dw.seq (Dw.seq (Dw.region (Dl.q (Y.mv (v := (vI p1)) rfl rfl) (Dl.q (Y.lss rfl rfl rfl) (Dl.nil (Th.m ?_)))))))))))
  refine Dw.cond rfl (fun hb14 => ?_) (fun hb14 => ?_)
  · replace h := M.iteT h hb14
    refine Dw.region (Dl.q (Y.mkI (v := (Value.string (⟨#[99, 97, 110, 110, 111, 116, 32, 98, 101, 32, 110, 101, 103, 97, 116, 105, 118, 101]⟩ : ByteArray))) rfl Try.runUnderlying9 rfl rfl) ?_)
    exact h.elim
  · replace h := M.iteF h hb14
    refine Dw.skip (Th.m (Dw.seq (Dw.region (Dl.q (Y.mv (v := (Sl.val p0)) rfl rfl) (Dl.q (Y.len rfl Try.runUnderlying24 rfl) (Dl.q (Y.conv rfl Try.runUnderlying3 Try.runUnderlying114 rfl) (Dl.q (Y.mv (v := (vI p1)) rfl rfl) (Dl.q (Y.conv rfl Try.runUnderlying3 Try.runUnderlying114 rfl) ?_))))))))
    refine Dl.n (N.call rfl Try.call96 rfl h ?_)
    intro r1 w h
    refine Dl.q (Y.mv (v := (.tuple #[((Value.int .u64) r1.1), ((Value.int .u64) r1.2)])) rfl rfl) (Dl.q (Y.ext rfl rfl rfl) (Dl.q (Y.ext rfl rfl rfl) (Dl.q (Y.asg (v := ((Value.int .u64) r1.1)) rfl rfl) (Dl.q (Y.asg (v := ((Value.int .u64) r1.2)) rfl rfl) (Dl.nil (Th.m (Dw.seq ?_)))))))
    refine Dw.joinM (fun s j r => upd (mask r j 132120576) 26 (Value.bool s)) h (fun C h => ?_) (fun q4 j w h => ?_)
    · refine Dw.region (Dl.q (Y.mv (v := ((Value.int .u64) r1.1)) rfl rfl) (Dl.q (Y.gtr rfl rfl rfl) (Dl.q (Y.mv (v := (Value.bool (decide (0 < r1.1)))) rfl rfl) ?_)))
      refine M.split h (fun hb3 h => ?_) (fun hb3 h => ?_)
      · refine Dl.q (Y.skip (unwantG rfl rfl hb3)) (Dl.q (Y.skip (unwantG rfl rfl hb3)) (Dl.q (Y.pickT (v := (Value.bool true)) rfl rfl hb3 rfl) (Dl.nil ?_)))
        exact Th.m ⟨_, h, _, eqUpd rfl (eqMask (by repeat' (first | exact Off.refl _ _ | refine Off.u rfl ?_ | refine Off.m rfl ?_)))⟩
      · refine Dl.q (Y.mv (v := ((Value.int .u64) r1.2)) (wantG rfl rfl hb3) rfl) (Dl.q (Y.gtr (wantG rfl rfl hb3) rfl rfl) (Dl.q (Y.pickF (v := (Value.bool (decide (9223372036854775807 < r1.2)))) rfl rfl hb3 rfl) (Dl.nil ?_)))
        exact Th.m ⟨_, h, _, eqUpd rfl (eqMask (by repeat' (first | exact Off.refl _ _ | refine Off.u rfl ?_ | refine Off.m rfl ?_)))⟩
    · refine Dw.cond rfl (fun hb13 => ?_) (fun hb13 => ?_)
      · replace h := M.iteT h hb13
        refine Dw.region (Dl.q (Y.mkI (v := (Value.string (⟨#[116, 104, 101, 32, 114, 101, 115, 117, 108, 116, 32, 111, 102, 32, 40, 108, 101, 110, 40, 120, 41, 32, 42, 32, 99, 111, 117, 110, 116, 41, 32, 111, 118, 101, 114, 102, 108, 111, 119, 115]⟩ : ByteArray))) rfl Try.runUnderlying9 rfl rfl) ?_)
        exact h.elim
      · replace h := M.iteF h hb13
        refine Dw.skip (Th.m (Dw.seq (Dw.region (Dl.q (Y.mv (v := ((Value.int .u64) r1.2)) rfl rfl) (Dl.q (Y.conv rfl Try.runUnderlying114 Try.runUnderlying3 rfl) ?_)))))
        obtain ⟨s5, w, ha, h⟩ := h
        refine Dl.n (N.of rfl rfl ha ?_)
        refine Dl.q (Y.asg (v := (Sl.val s5)) rfl rfl) (Dl.nil (Th.m (Dw.seq (Dw.region (Dl.q (Y.mv (v := (Sl.val s5)) rfl rfl) (Dl.q (Y.mv (v := (Sl.val p0)) rfl rfl) ?_))))))
        obtain ⟨s6, w, ha, h⟩ := h
        refine Dl.n (N.blt rfl rfl (fun _ => rfl) ha ?_)
        refine Dl.q (Y.asg (v := (vI s6)) rfl rfl) (Dl.nil (Th.m (Dw.seq (Dw.block ?_))))
        refine Dw.loopM (fun s j r => upd (mask r j 140720308486400) 8 (vI s)) h ⟨_, eqUpd rfl (eqMask (by repeat' (first | exact Off.refl _ _ | refine Off.u rfl ?_ | refine Off.m rfl ?_)))⟩ ?_
        intro I m q7 j w h
        refine Dw.seq (Dw.seq (Dw.region (Dl.q (Y.mv (v := (vI q7)) rfl rfl) (Dl.q (Y.mv (v := (Sl.val s5)) rfl rfl) (Dl.q (Y.len rfl Try.runUnderlying24 rfl) (Dl.q (Y.lss rfl rfl rfl) (Dl.nil (Th.m ?_))))))))
        refine Dw.cond rfl (fun hb12 => ?_) (fun hb12 => ?_)
        · replace h := M.iteT h hb12
          refine Dw.skip (Th.m (Dw.block (Dw.game (by kernel_rfl) ?_)))
          replace h := M.drew_un h
          generalize World.drew _ = w at h ⊢
          refine Gm.pure 0 rfl (by kernel_rfl) (fun _ => Y.mv (v := (vI q7)) rfl rfl) (Gm.pure 1 rfl (by kernel_rfl) (fun _ => Y.mv (v := (Sl.val s5)) rfl rfl) (Gm.pure 2 rfl (by kernel_rfl) (fun _ => Y.mv (v := (vI q7)) rfl rfl) ?_))
          obtain ⟨s9, hi, he, h⟩ := h
          refine Gm.pure 3 rfl (by kernel_rfl) (fun _ => Y.cut100 rfl Try.runUnderlying24 rfl Try.sizeOf3 rfl hi he) (Gm.pure 4 rfl (by kernel_rfl) (fun _ => Y.mv (v := (Sl.val s5)) rfl rfl) (Gm.pure 5 rfl (by kernel_rfl) (fun _ => Y.mv (v := (vI q7)) rfl rfl) ?_))
          obtain ⟨s10, hi, he, h⟩ := h
          refine Gm.pure 6 rfl (by kernel_rfl) (fun _ => Y.cut010 rfl Try.runUnderlying24 rfl Try.sizeOf3 rfl hi he) (Gm.one' 7 rfl (by kernel_rfl) .nil ?_)
          obtain ⟨s11, w, ha, h⟩ := h
          refine N.blt rfl rfl (fun _ => rfl) ha ?_
          refine ⟨pdN, ?_⟩
          refine Gm.pure 8 rfl (by kernel_rfl) (fun _ => Y.add rfl rfl rfl) (Gm.pure 9 rfl (by kernel_rfl) (fun _ => Y.asg (v := (vI (wI (q7 + s11)))) rfl rfl) (Gm.end (by kernel_rfl) (InB.m ?_)))
          exact Th.m ⟨_, h, _, eqUpd rfl (eqMask (by repeat' (first | exact Off.refl _ _ | refine Off.u rfl ?_ | refine Off.m rfl ?_)))⟩
        · replace h := M.iteF h hb12
          refine Dw.exit (Th.e (Th.e (InB.e (Th.m (Dw.seq (Dw.region (Dl.q (Y.mv (v := (Sl.val s5)) rfl rfl) (Dl.q (Y.asg (v := (Sl.val s5)) rfl rfl) (Dl.nil (Th.m (Dw.ret ?_)))))))))))
          exact fin1 rfl ⟨_, rfl, h⟩
set_option maxHeartbeats 1000000 in
set_option maxRecDepth 20000 in
theorem spec_letter {p0 : Int} {w : World} {R : Bool → World → Prop} (h : S.spec_letter p0 w R) : Calls Try.prog 89 [(vU8 p0)].toArray w (Ret Value.bool R) := by
  refine calls_of Try.func89 rfl rfl rfl (by kernel_rfl) rfl ?_
  unfold S.spec_letter at h
  refine Dw.seq (Dw.region (Dl.q (Y.asg (v := (Value.bool false)) rfl rfl) (Dl.nil (Th.m (Dw.seq (Dw.region (Dl.q (Y.mv (v := (vU8 p0)) rfl rfl) (Dl.q (Y.eqI rfl rfl rfl) (Dl.q (Y.mv (v := (Value.bool (decide (p0 = 95)))) rfl rfl) ?_)))))))))
  refine M.split h (fun hb1 h => ?_) (fun hb1 h => ?_)
  · refine Dl.q (Y.skip (unwantG rfl rfl hb1)) (Dl.q (Y.skip (unwantG rfl rfl hb1)) (Dl.q (Y.skip (unwantG rfl rfl hb1)) (Dl.q (Y.skip (unwantG rfl rfl hb1)) (Dl.q (Y.skip (unwantU rfl rfl)) (Dl.q (Y.skip (unwantU rfl rfl)) (Dl.q (Y.skip (unwantU rfl rfl)) (Dl.q (Y.skip (unwantG rfl rfl hb1)) (Dl.q (Y.pickT (v := (Value.bool true)) rfl rfl hb1 rfl) (Dl.q (Y.asg (v := (Value.bool true)) rfl rfl) (Dl.nil (Th.m (Dw.ret ?_))))))))))))
    exact fin1 rfl ⟨_, rfl, h⟩
  · refine Dl.q (Y.mv (v := (vU8 p0)) (wantG rfl rfl hb1) rfl) ?_
    obtain ⟨x2, hcx2, h⟩ := h
    refine Dl.q (Y.binU (wantG rfl rfl hb1) rfl rfl hcx2) (Dl.q (Y.geq (wantG rfl rfl hb1) rfl rfl) (Dl.q (Y.mv (v := (Value.bool (decide (97 ≤ x2)))) (wantG rfl rfl hb1) rfl) ?_))
    refine M.split h (fun hb3 h => ?_) (fun hb3 h => ?_)
    · refine Dl.q (Y.mv (v := (vU8 p0)) (wantG rfl rfl hb3) rfl) ?_
      obtain ⟨x4, hcx4, h⟩ := h
      refine Dl.q (Y.binU (wantG rfl rfl hb3) rfl rfl hcx4) (Dl.q (Y.leq (wantG rfl rfl hb3) rfl rfl) (Dl.q (Y.pickT (v := (Value.bool (decide (x4 ≤ 122)))) (wantG rfl rfl hb1) rfl hb3 rfl) (Dl.q (Y.pickF (v := (Value.bool (decide (x4 ≤ 122)))) rfl rfl hb1 rfl) (Dl.q (Y.asg (v := (Value.bool (decide (x4 ≤ 122)))) rfl rfl) (Dl.nil (Th.m (Dw.ret ?_)))))))
      exact fin1 rfl ⟨_, rfl, h⟩
    · refine Dl.q (Y.skip (unwantG rfl rfl hb3)) (Dl.q (Y.skip (unwantG rfl rfl hb3)) (Dl.q (Y.skip (unwantG rfl rfl hb3)) (Dl.q (Y.pickF (v := (Value.bool false)) (wantG rfl rfl hb1) rfl hb3 rfl) (Dl.q (Y.pickF (v := (Value.bool false)) rfl rfl hb1 rfl) (Dl.q (Y.asg (v := (Value.bool false)) rfl rfl) (Dl.nil (Th.m (Dw.ret ?_))))))))
      exact fin1 rfl ⟨_, rfl, h⟩
set_option maxHeartbeats 1000000 in
set_option maxRecDepth 20000 in
theorem slices_insertionSortCmpFunc_int {p0 : Sl} {p1 : Int} {p2 : Int} {p3 : Value} {w : World} {R : Unit → World → Prop} (h : S.slices_insertionSortCmpFunc_int p0 p1 p2 p3 w R) : Calls Try.prog 90 [(Sl.val p0), (vI p1), (vI p2), p3].toArray w (Ret vUnit R) := by
  refine calls_of Try.func90 rfl rfl rfl (by kernel_rfl) rfl ?_
  unfold S.slices_insertionSortCmpFunc_int at h
  refine Dw.seq (Dw.region (Dl.q (Y.mv (v := (vI p1)) rfl rfl) (Dl.q (Y.add rfl rfl rfl) (Dl.q (Y.asg (v := (vI (wI (p1 + 1)))) rfl rfl) (Dl.nil (Th.m (Dw.block ?_)))))))
  refine Dw.loopM (fun s j r => upd (mask r j 9007199254737664) 8 (vI s)) h ⟨_, eqUpd rfl (eqMask (by repeat' (first | exact Off.refl _ _ | refine Off.u rfl ?_ | refine Off.m rfl ?_)))⟩ ?_
  intro I m q1 j w h
  refine Dw.seq (Dw.seq (Dw.region (Dl.q (Y.mv (v := (vI q1)) rfl rfl) (Dl.q (Y.mv (v := (vI p2)) rfl rfl) (Dl.q (Y.lss rfl rfl rfl) (Dl.nil (Th.m ?_)))))))
  refine Dw.cond rfl (fun hb20 => ?_) (fun hb20 => ?_)
  · replace h := M.iteT h hb20
    refine Dw.skip (Th.m (Dw.seq (Dw.block (Dw.seq (Dw.region (Dl.q (Y.mv (v := (vI q1)) rfl rfl) (Dl.q (Y.asg (v := (vI q1)) rfl rfl) (Dl.nil (Th.m (Dw.block ?_))))))))))
    refine Dw.loopM (fun s j r => upd (mask r j 9007199254479360) 9 (vI s)) h ⟨_, eqUpd rfl (eqMask (by repeat' (first | exact Off.refl _ _ | refine Off.u rfl ?_ | refine Off.m rfl ?_)))⟩ ?_
    intro I m q3 j w h
    refine Dw.seq ?_
    refine Dw.joinM (fun s j r => upd (mask r j 34359476224) 34 (Value.bool s)) h (fun C h => ?_) (fun q12 j w h => ?_)
    · refine Dw.game (by kernel_rfl) ?_
      replace h := M.drew_un h
      generalize World.drew _ = w at h ⊢
      refine Gm.pure 0 rfl (by kernel_rfl) (fun _ => Y.mv (v := (vI q3)) rfl rfl) (Gm.pure 1 rfl (by kernel_rfl) (fun _ => Y.mv (v := (vI p1)) rfl rfl) (Gm.pure 2 rfl (by kernel_rfl) (fun _ => Y.gtr rfl rfl rfl) (Gm.pure 3 rfl (by kernel_rfl) (fun _ => Y.mv (v := (Value.bool (decide (p1 < q3)))) rfl rfl) ?_)))
      refine M.split h (fun hb6 h => ?_) (fun hb6 h => ?_)
      · refine Gm.pure 4 rfl (by kernel_rfl) (fun _ => Y.mv (v := p3) (wantG rfl rfl hb6) rfl) (Gm.pure 5 rfl (by kernel_rfl) (fun _ => Y.mv (v := (Sl.val p0)) (wantG rfl rfl hb6) rfl) (Gm.pure 6 rfl (by kernel_rfl) (fun _ => Y.mv (v := (vI q3)) (wantG rfl rfl hb6) rfl) ?_))
        obtain ⟨a7, a70, ha, hi, he, h⟩ := h
        refine Gm.pure 7 rfl (by kernel_rfl) (fun _ => Y.ix (wantG rfl rfl hb6) Try.runUnderlying24 Try.sizeOf3 rfl rfl ha hi he) ?_
        obtain ⟨x8, hcx8, h⟩ := h
        refine Gm.quiet 8 rfl (by kernel_rfl) (fun _ hw => Y.ld (wantG rfl rfl hb6) Try.isAgg3 rfl hw) hcx8 (Gm.pure 9 rfl (by kernel_rfl) (fun _ => Y.mv (v := (Sl.val p0)) (wantG rfl rfl hb6) rfl) (Gm.pure 10 rfl (by kernel_rfl) (fun _ => Y.mv (v := (vI q3)) (wantG rfl rfl hb6) rfl) (Gm.pure 11 rfl (by kernel_rfl) (fun _ => Y.sub (wantG rfl rfl hb6) rfl rfl) ?_)))
        obtain ⟨a9, a90, ha, hi, he, h⟩ := h
        refine Gm.pure 12 rfl (by kernel_rfl) (fun _ => Y.ix (wantG rfl rfl hb6) Try.runUnderlying24 Try.sizeOf3 rfl rfl ha hi he) ?_
        obtain ⟨x10, hcx10, h⟩ := h
        refine Gm.quiet 13 rfl (by kernel_rfl) (fun _ hw => Y.ld (wantG rfl rfl hb6) Try.isAgg3 rfl hw) hcx10 (Gm.one' 14 rfl (by kernel_rfl) (.drop (by kernel_rfl) (.drop (by kernel_rfl) .nil)) (N.callv (wantG rfl rfl hb6) rfl rfl h ?_))
        intro r11 w h
        refine ⟨pdN, ?_⟩
        refine Gm.pure 15 rfl (by kernel_rfl) (fun _ => Y.lss (wantG rfl rfl hb6) rfl rfl) (Gm.pure 16 rfl (by kernel_rfl) (fun _ => Y.pickT (v := (Value.bool (decide (r11 < 0)))) rfl rfl hb6 rfl) (Gm.end (by kernel_rfl) ?_))
        exact Th.m ⟨_, h, _, eqUpd rfl (eqMask (by repeat' (first | exact Off.refl _ _ | refine Off.u rfl ?_ | refine Off.m rfl ?_)))⟩
      · refine Gm.pure 4 rfl (by kernel_rfl) (fun _ => Y.skip (unwantG rfl rfl hb6)) (Gm.pure 5 rfl (by kernel_rfl) (fun _ => Y.skip (unwantG rfl rfl hb6)) (Gm.pure 6 rfl (by kernel_rfl) (fun _ => Y.skip (unwantG rfl rfl hb6)) (Gm.pure 7 rfl (by kernel_rfl) (fun _ => Y.skip (unwantG rfl rfl hb6)) (Gm.pure 8 rfl (by kernel_rfl) (fun _ => Y.skip (unwantG rfl rfl hb6)) (Gm.pure 9 rfl (by kernel_rfl) (fun _ => Y.skip (unwantG rfl rfl hb6)) (Gm.pure 10 rfl (by kernel_rfl) (fun _ => Y.skip (unwantG rfl rfl hb6)) (Gm.pure 11 rfl (by kernel_rfl) (fun _ => Y.skip (unwantG rfl rfl hb6)) (Gm.pure 12 rfl (by kernel_rfl) (fun _ => Y.skip (unwantG rfl rfl hb6)) (Gm.pure 13 rfl (by kernel_rfl) (fun _ => Y.skip (unwantG rfl rfl hb6)) (Gm.pure 14 rfl (by kernel_rfl) (fun _ => Y.skip (unwantG rfl rfl hb6)) (Gm.pure 15 rfl (by kernel_rfl) (fun _ => Y.skip (unwantG rfl rfl hb6)) (Gm.pure 16 rfl (by kernel_rfl) (fun _ => Y.pickF (v := (Value.bool false)) rfl rfl hb6 rfl) ?_))))))))))))
        refine Gm.end (by kernel_rfl) ?_
        exact Th.m ⟨_, h, _, eqUpd rfl (eqMask (by repeat' (first | exact Off.refl _ _ | refine Off.u rfl ?_ | refine Off.m rfl ?_)))⟩
    · refine Dw.cond rfl (fun hb19 => ?_) (fun hb19 => ?_)
      · replace h := M.iteT h hb19
        refine Dw.skip (Th.m (Dw.seq (Dw.block (Dw.game (by kernel_rfl) ?_))))
        replace h := M.drew_un h
        generalize World.drew _ = w at h ⊢
        refine Gm.pure 0 rfl (by kernel_rfl) (fun _ => Y.mv (v := (Sl.val p0)) rfl rfl) (Gm.pure 1 rfl (by kernel_rfl) (fun _ => Y.mv (v := (vI q3)) rfl rfl) (Gm.pure 2 rfl (by kernel_rfl) (fun _ => Y.mv (v := (Sl.val p0)) rfl rfl) (Gm.pure 3 rfl (by kernel_rfl) (fun _ => Y.mv (v := (vI q3)) rfl rfl) (Gm.pure 4 rfl (by kernel_rfl) (fun _ => Y.sub rfl rfl rfl) (Gm.pure 5 rfl (by kernel_rfl) (fun _ => Y.mv (v := (Sl.val p0)) rfl rfl) (Gm.pure 6 rfl (by kernel_rfl) (fun _ => Y.mv (v := (vI q3)) rfl rfl) (Gm.pure 7 rfl (by kernel_rfl) (fun _ => Y.sub rfl rfl rfl) ?_)))))))
        obtain ⟨a13, a130, ha, hi, he, h⟩ := h
        refine Gm.pure 8 rfl (by kernel_rfl) (fun _ => Y.ix rfl Try.runUnderlying24 Try.sizeOf3 rfl rfl ha hi he) ?_
        obtain ⟨x14, hcx14, h⟩ := h
        refine Gm.quiet 9 rfl (by kernel_rfl) (fun _ hw => Y.ld rfl Try.isAgg3 rfl hw) hcx14 (Gm.pure 10 rfl (by kernel_rfl) (fun _ => Y.mv (v := (Sl.val p0)) rfl rfl) (Gm.pure 11 rfl (by kernel_rfl) (fun _ => Y.mv (v := (vI q3)) rfl rfl) ?_))
        obtain ⟨a15, a150, ha, hi, he, h⟩ := h
        refine Gm.pure 12 rfl (by kernel_rfl) (fun _ => Y.ix rfl Try.runUnderlying24 Try.sizeOf3 rfl rfl ha hi he) ?_
        obtain ⟨x16, hcx16, h⟩ := h
        refine Gm.quiet 13 rfl (by kernel_rfl) (fun _ hw => Y.ld rfl Try.isAgg3 rfl hw) hcx16 ?_
        obtain ⟨a17, a170, ha, hi, he, h⟩ := h
        refine Gm.pure 14 rfl (by kernel_rfl) (fun _ => Y.ix rfl Try.runUnderlying24 Try.sizeOf3 rfl rfl ha hi he) (Gm.one' 15 rfl (by kernel_rfl) (.drop (by kernel_rfl) (.drop (by kernel_rfl) .nil)) ?_)
        refine N.st rfl Try.sizeOf3 h rfl rfl rfl rfl rfl fun h => ?_
        refine ⟨pdN, ?_⟩
        generalize World.setCell _ _ _ = w at h ⊢
        obtain ⟨a18, a180, ha, hi, he, h⟩ := h
        refine Gm.pure 16 rfl (by kernel_rfl) (fun _ => Y.ix rfl Try.runUnderlying24 Try.sizeOf3 rfl rfl ha hi he) (Gm.one' 17 rfl (by kernel_rfl) .nil ?_)
        refine N.st rfl Try.sizeOf3 h rfl rfl rfl rfl rfl fun h => ?_
        refine ⟨pdN, ?_⟩
        generalize World.setCell _ _ _ = w at h ⊢
        refine Gm.end (by kernel_rfl) (InB.m (Th.m (Dw.region (Dl.q (Y.mv (v := (vI q3)) rfl rfl) (Dl.q (Y.sub rfl rfl rfl) (Dl.q (Y.asg (v := (vI (wI (q3 - 1)))) rfl rfl) (Dl.nil ?_)))))))
        exact Th.m ⟨_, h, _, eqUpd rfl (eqMask (by repeat' (first | exact Off.refl _ _ | refine Off.u rfl ?_ | refine Off.m rfl ?_)))⟩
      · replace h := M.iteF h hb19
        refine Dw.exit (Th.e (Th.e (InB.e (InB.m (Th.m (Dw.region (Dl.q (Y.mv (v := (vI q1)) rfl rfl) (Dl.q (Y.add rfl rfl rfl) (Dl.q (Y.asg (v := (vI (wI (q1 + 1)))) rfl rfl) (Dl.nil ?_))))))))))
        exact Th.m ⟨_, h, _, eqUpd rfl (eqMask (by repeat' (first | exact Off.refl _ _ | refine Off.u rfl ?_ | refine Off.m rfl ?_)))⟩
  · replace h := M.iteF h hb20
    refine Dw.exit (Th.e (Th.e (InB.e ?_)))
    exact fin0 ⟨(), rfl, h⟩
set_option maxHeartbeats 1000000 in
set_option maxRecDepth 20000 in
theorem slices_symMergeCmpFunc_int {p0 : Sl} {p1 : Int} {p2 : Int} {p3 : Int} {p4 : Value} {w : World} {R : Unit → World → Prop} (h : S.slices_symMergeCmpFunc_int p0 p1 p2 p3 p4 w R) : Calls Try.prog 91 [(Sl.val p0), (vI p1), (vI p2), (vI p3), p4].toArray w (Ret vUnit R) := by
  refine calls_of Try.func91 rfl rfl rfl (by kernel_rfl) rfl ?_
  unfold S.slices_symMergeCmpFunc_int at h
  refine Dw.seq (Dw.seq (Dw.region (Dl.q (Y.mv (v := (vI p2)) rfl rfl) (Dl.q (Y.mv (v := (vI p1)) rfl rfl) (Dl.q (Y.sub rfl rfl rfl) (Dl.q (Y.eqI rfl rfl rfl) (Dl.nil (Th.m ?_))))))))
  refine Dw.cond rfl (fun hb73 => ?_) (fun hb73 => ?_)
  · replace h := M.iteT h hb73
    refine Dw.seq (Dw.region (Dl.q (Y.mv (v := (vI p2)) rfl rfl) (Dl.q (Y.asg (v := (vI p2)) rfl rfl) (Dl.nil (Th.m (Dw.seq (Dw.region (Dl.q (Y.mv (v := (vI p3)) rfl rfl) (Dl.q (Y.asg (v := (vI p3)) rfl rfl) (Dl.nil (Th.m (Dw.seq ?_))))))))))))
    refine Dw.block ?_
    refine Dw.loopM (fun s j r => upd (upd (mask r j 18014396362005504) 10 (vI s.1)) 11 (vI s.2)) h ⟨_, eqUpd rfl (eqUpd rfl (eqMask (by repeat' (first | exact Off.refl _ _ | refine Off.u rfl ?_ | refine Off.m rfl ?_))))⟩ ?_
    intro I m q1 j w h
    refine Dw.seq (Dw.seq (Dw.region (Dl.q (Y.mv (v := (vI q1.1)) rfl rfl) (Dl.q (Y.mv (v := (vI q1.2)) rfl rfl) (Dl.q (Y.lss rfl rfl rfl) (Dl.nil (Th.m ?_)))))))
    refine Dw.cond rfl (fun hb19 => ?_) (fun hb19 => ?_)
    · replace h := M.iteT h hb19
      refine Dw.skip (Th.m (Dw.block (Dw.seq (Dw.region (Dl.q (Y.mv (v := (vI q1.1)) rfl rfl) (Dl.q (Y.mv (v := (vI q1.2)) rfl rfl) (Dl.q (Y.add rfl rfl rfl) (Dl.q (Y.conv rfl Try.runUnderlying3 Try.runUnderlying114 rfl) ?_))))))))
      obtain ⟨x3, hcx3, h⟩ := h
      refine Dl.q (Y.binU rfl rfl rfl hcx3) (Dl.q (Y.conv rfl Try.runUnderlying114 Try.runUnderlying3 rfl) (Dl.q (Y.asg (v := (vI (wI x3))) rfl rfl) (Dl.nil (Th.m (Dw.seq (Dw.game (by kernel_rfl) ?_))))))
      replace h := M.drew_un h
      generalize World.drew _ = w at h ⊢
      refine Gm.pure 0 rfl (by kernel_rfl) (fun _ => Y.mv (v := p4) rfl rfl) (Gm.pure 1 rfl (by kernel_rfl) (fun _ => Y.mv (v := (Sl.val p0)) rfl rfl) (Gm.pure 2 rfl (by kernel_rfl) (fun _ => Y.mv (v := (vI (wI x3))) rfl rfl) ?_))
      obtain ⟨a4, a40, ha, hi, he, h⟩ := h
      refine Gm.pure 3 rfl (by kernel_rfl) (fun _ => Y.ix rfl Try.runUnderlying24 Try.sizeOf3 rfl rfl ha hi he) ?_
      obtain ⟨x5, hcx5, h⟩ := h
      refine Gm.quiet 4 rfl (by kernel_rfl) (fun _ hw => Y.ld rfl Try.isAgg3 rfl hw) hcx5 (Gm.pure 5 rfl (by kernel_rfl) (fun _ => Y.mv (v := (Sl.val p0)) rfl rfl) (Gm.pure 6 rfl (by kernel_rfl) (fun _ => Y.mv (v := (vI p1)) rfl rfl) ?_))
      obtain ⟨a6, a60, ha, hi, he, h⟩ := h
      refine Gm.pure 7 rfl (by kernel_rfl) (fun _ => Y.ix rfl Try.runUnderlying24 Try.sizeOf3 rfl rfl ha hi he) ?_
      obtain ⟨x7, hcx7, h⟩ := h
      refine Gm.quiet 8 rfl (by kernel_rfl) (fun _ hw => Y.ld rfl Try.isAgg3 rfl hw) hcx7 (Gm.one' 9 rfl (by kernel_rfl) (.drop (by kernel_rfl) (.drop (by kernel_rfl) .nil)) (N.callv rfl rfl rfl h ?_))
      intro r8 w h
      refine ⟨pdN, ?_⟩
      refine Gm.pure 10 rfl (by kernel_rfl) (fun _ => Y.lss rfl rfl rfl) (Gm.end (by kernel_rfl) (Th.m ?_))
      refine Dw.cond rfl (fun hb9 => ?_) (fun hb9 => ?_)
      · replace h := M.iteT h hb9
        refine Dw.region (Dl.q (Y.mv (v := (vI (wI x3))) rfl rfl) (Dl.q (Y.add rfl rfl rfl) (Dl.q (Y.asg (v := (vI (wI ((wI x3) + 1)))) rfl rfl) (Dl.nil (InB.m ?_)))))
        exact Th.m ⟨_, h, _, eqUpd rfl (eqUpd rfl (eqMask (by repeat' (first | exact Off.refl _ _ | refine Off.u rfl ?_ | refine Off.m rfl ?_))))⟩
      · replace h := M.iteF h hb9
        refine Dw.region (Dl.q (Y.mv (v := (vI (wI x3))) rfl rfl) (Dl.q (Y.asg (v := (vI (wI x3))) rfl rfl) (Dl.nil (InB.m ?_))))
        exact Th.m ⟨_, h, _, eqUpd rfl (eqUpd rfl (eqMask (by repeat' (first | exact Off.refl _ _ | refine Off.u rfl ?_ | refine Off.m rfl ?_))))⟩
    · replace h := M.iteF h hb19
      refine Dw.exit (Th.e (Th.e (InB.e (Th.m (Dw.seq (Dw.seq (Dw.region (Dl.q (Y.mv (v := (vI p1)) rfl rfl) (Dl.q (Y.asg (v := (vI p1)) rfl rfl) (Dl.nil (Th.m (Dw.block ?_))))))))))))
      refine Dw.loopM (fun s j r => upd (mask r j 151115691423031627882496) 13 (vI s)) h ⟨_, eqUpd rfl (eqMask (by repeat' (first | exact Off.refl _ _ | refine Off.u rfl ?_ | refine Off.m rfl ?_)))⟩ ?_
      intro I m q10 j w h
      refine Dw.seq (Dw.seq (Dw.region (Dl.q (Y.mv (v := (vI q10)) rfl rfl) (Dl.q (Y.mv (v := (vI q1.1)) rfl rfl) (Dl.q (Y.sub rfl rfl rfl) (Dl.q (Y.lss rfl rfl rfl) (Dl.nil (Th.m ?_))))))))
      refine Dw.cond rfl (fun hb18 => ?_) (fun hb18 => ?_)
      · replace h := M.iteT h hb18
        refine Dw.skip (Th.m (Dw.seq (Dw.block (Dw.game (by kernel_rfl) ?_))))
        replace h := M.drew_un h
        generalize World.drew _ = w at h ⊢
        refine Gm.pure 0 rfl (by kernel_rfl) (fun _ => Y.mv (v := (Sl.val p0)) rfl rfl) (Gm.pure 1 rfl (by kernel_rfl) (fun _ => Y.mv (v := (vI q10)) rfl rfl) (Gm.pure 2 rfl (by kernel_rfl) (fun _ => Y.mv (v := (Sl.val p0)) rfl rfl) (Gm.pure 3 rfl (by kernel_rfl) (fun _ => Y.mv (v := (vI q10)) rfl rfl) (Gm.pure 4 rfl (by kernel_rfl) (fun _ => Y.add rfl rfl rfl) (Gm.pure 5 rfl (by kernel_rfl) (fun _ => Y.mv (v := (Sl.val p0)) rfl rfl) (Gm.pure 6 rfl (by kernel_rfl) (fun _ => Y.mv (v := (vI q10)) rfl rfl) (Gm.pure 7 rfl (by kernel_rfl) (fun _ => Y.add rfl rfl rfl) ?_)))))))
        obtain ⟨a12, a120, ha, hi, he, h⟩ := h
        refine Gm.pure 8 rfl (by kernel_rfl) (fun _ => Y.ix rfl Try.runUnderlying24 Try.sizeOf3 rfl rfl ha hi he) ?_
        obtain ⟨x13, hcx13, h⟩ := h
        refine Gm.quiet 9 rfl (by kernel_rfl) (fun _ hw => Y.ld rfl Try.isAgg3 rfl hw) hcx13 (Gm.pure 10 rfl (by kernel_rfl) (fun _ => Y.mv (v := (Sl.val p0)) rfl rfl) (Gm.pure 11 rfl (by kernel_rfl) (fun _ => Y.mv (v := (vI q10)) rfl rfl) ?_))
        obtain ⟨a14, a140, ha, hi, he, h⟩ := h
        refine Gm.pure 12 rfl (by kernel_rfl) (fun _ => Y.ix rfl Try.runUnderlying24 Try.sizeOf3 rfl rfl ha hi he) ?_
        obtain ⟨x15, hcx15, h⟩ := h
        refine Gm.quiet 13 rfl (by kernel_rfl) (fun _ hw => Y.ld rfl Try.isAgg3 rfl hw) hcx15 ?_
        obtain ⟨a16, a160, ha, hi, he, h⟩ := h
        refine Gm.pure 14 rfl (by kernel_rfl) (fun _ => Y.ix rfl Try.runUnderlying24 Try.sizeOf3 rfl rfl ha hi he) (Gm.one' 15 rfl (by kernel_rfl) (.drop (by kernel_rfl) (.drop (by kernel_rfl) .nil)) ?_)
        refine N.st rfl Try.sizeOf3 h rfl rfl rfl rfl rfl fun h => ?_
        refine ⟨pdN, ?_⟩
        generalize World.setCell _ _ _ = w at h ⊢
        obtain ⟨a17, a170, ha, hi, he, h⟩ := h
        refine Gm.pure 16 rfl (by kernel_rfl) (fun _ => Y.ix rfl Try.runUnderlying24 Try.sizeOf3 rfl rfl ha hi he) (Gm.one' 17 rfl (by kernel_rfl) .nil ?_)
        refine N.st rfl Try.sizeOf3 h rfl rfl rfl rfl rfl fun h => ?_
        refine ⟨pdN, ?_⟩
        generalize World.setCell _ _ _ = w at h ⊢
        refine Gm.end (by kernel_rfl) (InB.m (Th.m (Dw.region (Dl.q (Y.mv (v := (vI q10)) rfl rfl) (Dl.q (Y.add rfl rfl rfl) (Dl.q (Y.asg (v := (vI (wI (q10 + 1)))) rfl rfl) (Dl.nil ?_)))))))
        exact Th.m ⟨_, h, _, eqUpd rfl (eqMask (by repeat' (first | exact Off.refl _ _ | refine Off.u rfl ?_ | refine Off.m rfl ?_)))⟩
      · replace h := M.iteF h hb18
        refine Dw.exit (Th.e (Th.e (InB.e (Th.m (Dw.ret (Th.r ?_))))))
        exact fin0 ⟨(), rfl, h⟩
  · replace h := M.iteF h hb73
    refine Dw.skip (Th.m (Dw.seq (Dw.seq (Dw.region (Dl.q (Y.mv (v := (vI p3)) rfl rfl) (Dl.q (Y.mv (v := (vI p2)) rfl rfl) (Dl.q (Y.sub rfl rfl rfl) (Dl.q (Y.eqI rfl rfl rfl) (Dl.nil (Th.m ?_))))))))))
    refine Dw.cond rfl (fun hb72 => ?_) (fun hb72 => ?_)
    · replace h := M.iteT h hb72
      refine Dw.seq (Dw.region (Dl.q (Y.mv (v := (vI p1)) rfl rfl) (Dl.q (Y.asg (v := (vI p1)) rfl rfl) (Dl.nil (Th.m (Dw.seq (Dw.region (Dl.q (Y.mv (v := (vI p2)) rfl rfl) (Dl.q (Y.asg (v := (vI p2)) rfl rfl) (Dl.nil (Th.m (Dw.seq ?_))))))))))))
      refine Dw.block ?_
      refine Dw.loopM (fun s j r => upd (upd (mask r j 162259267157806806474544612753408) 14 (vI s.1)) 15 (vI s.2)) h ⟨_, eqUpd rfl (eqUpd rfl (eqMask (by repeat' (first | exact Off.refl _ _ | refine Off.u rfl ?_ | refine Off.m rfl ?_))))⟩ ?_
      intro I m q20 j w h
      refine Dw.seq (Dw.seq (Dw.region (Dl.q (Y.mv (v := (vI q20.1)) rfl rfl) (Dl.q (Y.mv (v := (vI q20.2)) rfl rfl) (Dl.q (Y.lss rfl rfl rfl) (Dl.nil (Th.m ?_)))))))
      refine Dw.cond rfl (fun hb38 => ?_) (fun hb38 => ?_)
      · replace h := M.iteT h hb38
        refine Dw.skip (Th.m (Dw.block (Dw.seq (Dw.region (Dl.q (Y.mv (v := (vI q20.1)) rfl rfl) (Dl.q (Y.mv (v := (vI q20.2)) rfl rfl) (Dl.q (Y.add rfl rfl rfl) (Dl.q (Y.conv rfl Try.runUnderlying3 Try.runUnderlying114 rfl) ?_))))))))
        obtain ⟨x22, hcx22, h⟩ := h
        refine Dl.q (Y.binU rfl rfl rfl hcx22) (Dl.q (Y.conv rfl Try.runUnderlying114 Try.runUnderlying3 rfl) (Dl.q (Y.asg (v := (vI (wI x22))) rfl rfl) (Dl.nil (Th.m (Dw.seq (Dw.game (by kernel_rfl) ?_))))))
        replace h := M.drew_un h
        generalize World.drew _ = w at h ⊢
        refine Gm.pure 0 rfl (by kernel_rfl) (fun _ => Y.mv (v := p4) rfl rfl) (Gm.pure 1 rfl (by kernel_rfl) (fun _ => Y.mv (v := (Sl.val p0)) rfl rfl) (Gm.pure 2 rfl (by kernel_rfl) (fun _ => Y.mv (v := (vI p2)) rfl rfl) ?_))
        obtain ⟨a23, a230, ha, hi, he, h⟩ := h
        refine Gm.pure 3 rfl (by kernel_rfl) (fun _ => Y.ix rfl Try.runUnderlying24 Try.sizeOf3 rfl rfl ha hi he) ?_
        obtain ⟨x24, hcx24, h⟩ := h
        refine Gm.quiet 4 rfl (by kernel_rfl) (fun _ hw => Y.ld rfl Try.isAgg3 rfl hw) hcx24 (Gm.pure 5 rfl (by kernel_rfl) (fun _ => Y.mv (v := (Sl.val p0)) rfl rfl) (Gm.pure 6 rfl (by kernel_rfl) (fun _ => Y.mv (v := (vI (wI x22))) rfl rfl) ?_))
        obtain ⟨a25, a250, ha, hi, he, h⟩ := h
        refine Gm.pure 7 rfl (by kernel_rfl) (fun _ => Y.ix rfl Try.runUnderlying24 Try.sizeOf3 rfl rfl ha hi he) ?_
        obtain ⟨x26, hcx26, h⟩ := h
        refine Gm.quiet 8 rfl (by kernel_rfl) (fun _ hw => Y.ld rfl Try.isAgg3 rfl hw) hcx26 (Gm.one' 9 rfl (by kernel_rfl) (.drop (by kernel_rfl) (.drop (by kernel_rfl) .nil)) (N.callv rfl rfl rfl h ?_))
        intro r27 w h
        refine ⟨pdN, ?_⟩
        refine Gm.pure 10 rfl (by kernel_rfl) (fun _ => Y.lss rfl rfl rfl) (Gm.pure 11 rfl (by kernel_rfl) (fun _ => Y.not rfl rfl) (Gm.end (by kernel_rfl) (Th.m ?_)))
        refine Dw.cond rfl (fun hb28 => ?_) (fun hb28 => ?_)
        · replace h := M.iteT h hb28
          refine Dw.region (Dl.q (Y.mv (v := (vI (wI x22))) rfl rfl) (Dl.q (Y.add rfl rfl rfl) (Dl.q (Y.asg (v := (vI (wI ((wI x22) + 1)))) rfl rfl) (Dl.nil (InB.m ?_)))))
          exact Th.m ⟨_, h, _, eqUpd rfl (eqUpd rfl (eqMask (by repeat' (first | exact Off.refl _ _ | refine Off.u rfl ?_ | refine Off.m rfl ?_))))⟩
        · replace h := M.iteF h hb28
          refine Dw.region (Dl.q (Y.mv (v := (vI (wI x22))) rfl rfl) (Dl.q (Y.asg (v := (vI (wI x22))) rfl rfl) (Dl.nil (InB.m ?_))))
          exact Th.m ⟨_, h, _, eqUpd rfl (eqUpd rfl (eqMask (by repeat' (first | exact Off.refl _ _ | refine Off.u rfl ?_ | refine Off.m rfl ?_))))⟩
      · replace h := M.iteF h hb38
        refine Dw.exit (Th.e (Th.e (InB.e (Th.m (Dw.seq (Dw.seq (Dw.region (Dl.q (Y.mv (v := (vI p2)) rfl rfl) (Dl.q (Y.asg (v := (vI p2)) rfl rfl) (Dl.nil (Th.m (Dw.block ?_))))))))))))
        refine Dw.loopM (fun s j r => upd (mask r j 680564409323323268500022431707515977728) 17 (vI s)) h ⟨_, eqUpd rfl (eqMask (by repeat' (first | exact Off.refl _ _ | refine Off.u rfl ?_ | refine Off.m rfl ?_)))⟩ ?_
        intro I m q29 j w h
        refine Dw.seq (Dw.seq (Dw.region (Dl.q (Y.mv (v := (vI q29)) rfl rfl) (Dl.q (Y.mv (v := (vI q20.1)) rfl rfl) (Dl.q (Y.gtr rfl rfl rfl) (Dl.nil (Th.m ?_)))))))
        refine Dw.cond rfl (fun hb37 => ?_) (fun hb37 => ?_)
        · replace h := M.iteT h hb37
          refine Dw.skip (Th.m (Dw.seq (Dw.block (Dw.game (by kernel_rfl) ?_))))
          replace h := M.drew_un h
          generalize World.drew _ = w at h ⊢
          refine Gm.pure 0 rfl (by kernel_rfl) (fun _ => Y.mv (v := (Sl.val p0)) rfl rfl) (Gm.pure 1 rfl (by kernel_rfl) (fun _ => Y.mv (v := (vI q29)) rfl rfl) (Gm.pure 2 rfl (by kernel_rfl) (fun _ => Y.mv (v := (Sl.val p0)) rfl rfl) (Gm.pure 3 rfl (by kernel_rfl) (fun _ => Y.mv (v := (vI q29)) rfl rfl) (Gm.pure 4 rfl (by kernel_rfl) (fun _ => Y.sub rfl rfl rfl) (Gm.pure 5 rfl (by kernel_rfl) (fun _ => Y.mv (v := (Sl.val p0)) rfl rfl) (Gm.pure 6 rfl (by kernel_rfl) (fun _ => Y.mv (v := (vI q29)) rfl rfl) (Gm.pure 7 rfl (by kernel_rfl) (fun _ => Y.sub rfl rfl rfl) ?_)))))))
          obtain ⟨a31, a310, ha, hi, he, h⟩ := h
          refine Gm.pure 8 rfl (by kernel_rfl) (fun _ => Y.ix rfl Try.runUnderlying24 Try.sizeOf3 rfl rfl ha hi he) ?_
          obtain ⟨x32, hcx32, h⟩ := h
          refine Gm.quiet 9 rfl (by kernel_rfl) (fun _ hw => Y.ld rfl Try.isAgg3 rfl hw) hcx32 (Gm.pure 10 rfl (by kernel_rfl) (fun _ => Y.mv (v := (Sl.val p0)) rfl rfl) (Gm.pure 11 rfl (by kernel_rfl) (fun _ => Y.mv (v := (vI q29)) rfl rfl) ?_))
          obtain ⟨a33, a330, ha, hi, he, h⟩ := h
          refine Gm.pure 12 rfl (by kernel_rfl) (fun _ => Y.ix rfl Try.runUnderlying24 Try.sizeOf3 rfl rfl ha hi he) ?_
          obtain ⟨x34, hcx34, h⟩ := h
          refine Gm.quiet 13 rfl (by kernel_rfl) (fun _ hw => Y.ld rfl Try.isAgg3 rfl hw) hcx34 ?_
          obtain ⟨a35, a350, ha, hi, he, h⟩ := h
          refine Gm.pure 14 rfl (by kernel_rfl) (fun _ => Y.ix rfl Try.runUnderlying24 Try.sizeOf3 rfl rfl ha hi he) (Gm.one' 15 rfl (by kernel_rfl) (.drop (by kernel_rfl) (.drop (by kernel_rfl) .nil)) ?_)
          refine N.st rfl Try.sizeOf3 h rfl rfl rfl rfl rfl fun h => ?_
          refine ⟨pdN, ?_⟩
          generalize World.setCell _ _ _ = w at h ⊢
          obtain ⟨a36, a360, ha, hi, he, h⟩ := h
          refine Gm.pure 16 rfl (by kernel_rfl) (fun _ => Y.ix rfl Try.runUnderlying24 Try.sizeOf3 rfl rfl ha hi he) (Gm.one' 17 rfl (by kernel_rfl) .nil ?_)
          refine N.st rfl Try.sizeOf3 h rfl rfl rfl rfl rfl fun h => ?_
          refine ⟨pdN, ?_⟩
          generalize World.setCell _ _ _ = w at h ⊢
          refine Gm.end (by kernel_rfl) (InB.m (Th.m (Dw.region (Dl.q (Y.mv (v := (vI q29)) rfl rfl) (Dl.q (Y.sub rfl rfl rfl) (Dl.q (Y.asg (v := (vI (wI (q29 - 1)))) rfl rfl) (Dl.nil ?_)))))))
          exact Th.m ⟨_, h, _, eqUpd rfl (eqMask (by repeat' (first | exact Off.refl _ _ | refine Off.u rfl ?_ | refine Off.m rfl ?_)))⟩
        · replace h := M.iteF h hb37
          refine Dw.exit (Th.e (Th.e (InB.e (Th.m (Dw.ret (Th.r ?_))))))
          exact fin0 ⟨(), rfl, h⟩
    · replace h := M.iteF h hb72
      refine Dw.skip (Th.m (Dw.seq (Dw.region (Dl.q (Y.mv (v := (vI p1)) rfl rfl) (Dl.q (Y.mv (v := (vI p3)) rfl rfl) (Dl.q (Y.add rfl rfl rfl) (Dl.q (Y.conv rfl Try.runUnderlying3 Try.runUnderlying114 rfl) ?_)))))))
      obtain ⟨x39, hcx39, h⟩ := h
      refine Dl.q (Y.binU rfl rfl rfl hcx39) (Dl.q (Y.conv rfl Try.runUnderlying114 Try.runUnderlying3 rfl) (Dl.q (Y.asg (v := (vI (wI x39))) rfl rfl) (Dl.nil (Th.m (Dw.seq (Dw.region (Dl.q (Y.mv (v := (vI (wI x39))) rfl rfl) (Dl.q (Y.mv (v := (vI p2)) rfl rfl) (Dl.q (Y.add rfl rfl rfl) (Dl.q (Y.asg (v := (vI (wI ((wI x39) + p2)))) rfl rfl) (Dl.nil (Th.m ?_))))))))))))
      refine Dw.seq (Dw.region (Dl.q (Y.asg (v := (vI 0)) rfl rfl) (Dl.q (Y.asg (v := (vI 0)) rfl rfl) (Dl.nil (Th.m ?_)))))
      refine Dw.joinM (fun s j r => upd (upd (mask r j 178057512444517944145699250583176761402458112) 20 (vI s.1)) 21 (vI s.2)) h (fun C h => ?_) (fun q42 j w h => ?_)
      · refine Dw.seq (Dw.region (Dl.q (Y.mv (v := (vI p2)) rfl rfl) (Dl.q (Y.mv (v := (vI (wI x39))) rfl rfl) (Dl.q (Y.gtr rfl rfl rfl) (Dl.nil (Th.m ?_))))))
        refine Dw.cond rfl (fun hb41 => ?_) (fun hb41 => ?_)
        · replace h := M.iteT h hb41
          refine Dw.seq (Dw.region (Dl.q (Y.mv (v := (vI (wI ((wI x39) + p2)))) rfl rfl) (Dl.q (Y.mv (v := (vI p3)) rfl rfl) (Dl.q (Y.sub rfl rfl rfl) (Dl.q (Y.asg (v := (vI (wI ((wI ((wI x39) + p2)) - p3)))) rfl rfl) (Dl.nil (Th.m (Dw.region (Dl.q (Y.mv (v := (vI (wI x39))) rfl rfl) (Dl.q (Y.asg (v := (vI (wI x39))) rfl rfl) (Dl.nil ?_)))))))))))
          exact Th.m ⟨_, h, _, eqUpd rfl (eqUpd rfl (eqMask (by repeat' (first | exact Off.refl _ _ | refine Off.u rfl ?_ | refine Off.m rfl ?_))))⟩
        · replace h := M.iteF h hb41
          refine Dw.seq (Dw.region (Dl.q (Y.mv (v := (vI p1)) rfl rfl) (Dl.q (Y.asg (v := (vI p1)) rfl rfl) (Dl.nil (Th.m (Dw.region (Dl.q (Y.mv (v := (vI p2)) rfl rfl) (Dl.q (Y.asg (v := (vI p2)) rfl rfl) (Dl.nil ?_)))))))))
          exact Th.m ⟨_, h, _, eqUpd rfl (eqUpd rfl (eqMask (by repeat' (first | exact Off.refl _ _ | refine Off.u rfl ?_ | refine Off.m rfl ?_))))⟩
      · refine Dw.seq (Dw.region (Dl.q (Y.mv (v := (vI (wI ((wI x39) + p2)))) rfl rfl) (Dl.q (Y.sub rfl rfl rfl) (Dl.q (Y.asg (v := (vI (wI ((wI ((wI x39) + p2)) - 1)))) rfl rfl) (Dl.nil (Th.m (Dw.seq (Dw.block ?_))))))))
        refine Dw.loopM (fun s j r => upd (upd (mask r j 47890484938435180470718404069304177263338029388398592) 20 (vI s.1)) 21 (vI s.2)) h ⟨_, eqUpd rfl (eqUpd rfl (eqMask (by repeat' (first | exact Off.refl _ _ | refine Off.u rfl ?_ | refine Off.m rfl ?_))))⟩ ?_
        intro I m q43 j w h
        refine Dw.seq (Dw.seq (Dw.region (Dl.q (Y.mv (v := (vI q43.1)) rfl rfl) (Dl.q (Y.mv (v := (vI q43.2)) rfl rfl) (Dl.q (Y.lss rfl rfl rfl) (Dl.nil (Th.m ?_)))))))
        refine Dw.cond rfl (fun hb71 => ?_) (fun hb71 => ?_)
        · replace h := M.iteT h hb71
          refine Dw.skip (Th.m (Dw.block (Dw.seq (Dw.region (Dl.q (Y.mv (v := (vI q43.1)) rfl rfl) (Dl.q (Y.mv (v := (vI q43.2)) rfl rfl) (Dl.q (Y.add rfl rfl rfl) (Dl.q (Y.conv rfl Try.runUnderlying3 Try.runUnderlying114 rfl) ?_))))))))
          obtain ⟨x45, hcx45, h⟩ := h
          refine Dl.q (Y.binU rfl rfl rfl hcx45) (Dl.q (Y.conv rfl Try.runUnderlying114 Try.runUnderlying3 rfl) (Dl.q (Y.asg (v := (vI (wI x45))) rfl rfl) (Dl.nil (Th.m (Dw.seq (Dw.game (by kernel_rfl) ?_))))))
          replace h := M.drew_un h
          generalize World.drew _ = w at h ⊢
          refine Gm.pure 0 rfl (by kernel_rfl) (fun _ => Y.mv (v := p4) rfl rfl) (Gm.pure 1 rfl (by kernel_rfl) (fun _ => Y.mv (v := (Sl.val p0)) rfl rfl) (Gm.pure 2 rfl (by kernel_rfl) (fun _ => Y.mv (v := (vI (wI ((wI ((wI x39) + p2)) - 1)))) rfl rfl) (Gm.pure 3 rfl (by kernel_rfl) (fun _ => Y.mv (v := (vI (wI x45))) rfl rfl) (Gm.pure 4 rfl (by kernel_rfl) (fun _ => Y.sub rfl rfl rfl) ?_))))
          obtain ⟨a46, a460, ha, hi, he, h⟩ := h
          refine Gm.pure 5 rfl (by kernel_rfl) (fun _ => Y.ix rfl Try.runUnderlying24 Try.sizeOf3 rfl rfl ha hi he) ?_
          obtain ⟨x47, hcx47, h⟩ := h
          refine Gm.quiet 6 rfl (by kernel_rfl) (fun _ hw => Y.ld rfl Try.isAgg3 rfl hw) hcx47 (Gm.pure 7 rfl (by kernel_rfl) (fun _ => Y.mv (v := (Sl.val p0)) rfl rfl) (Gm.pure 8 rfl (by kernel_rfl) (fun _ => Y.mv (v := (vI (wI x45))) rfl rfl) ?_))
          obtain ⟨a48, a480, ha, hi, he, h⟩ := h
          refine Gm.pure 9 rfl (by kernel_rfl) (fun _ => Y.ix rfl Try.runUnderlying24 Try.sizeOf3 rfl rfl ha hi he) ?_
          obtain ⟨x49, hcx49, h⟩ := h
          refine Gm.quiet 10 rfl (by kernel_rfl) (fun _ hw => Y.ld rfl Try.isAgg3 rfl hw) hcx49 (Gm.one' 11 rfl (by kernel_rfl) (.drop (by kernel_rfl) (.drop (by kernel_rfl) .nil)) (N.callv rfl rfl rfl h ?_))
          intro r50 w h
          refine ⟨pdN, ?_⟩
          refine Gm.pure 12 rfl (by kernel_rfl) (fun _ => Y.lss rfl rfl rfl) (Gm.pure 13 rfl (by kernel_rfl) (fun _ => Y.not rfl rfl) (Gm.end (by kernel_rfl) (Th.m ?_)))
          refine Dw.cond rfl (fun hb51 => ?_) (fun hb51 => ?_)
          · replace h := M.iteT h hb51
            refine Dw.region (Dl.q (Y.mv (v := (vI (wI x45))) rfl rfl) (Dl.q (Y.add rfl rfl rfl) (Dl.q (Y.asg (v := (vI (wI ((wI x45) + 1)))) rfl rfl) (Dl.nil (InB.m ?_)))))
            exact Th.m ⟨_, h, _, eqUpd rfl (eqUpd rfl (eqMask (by repeat' (first | exact Off.refl _ _ | refine Off.u rfl ?_ | refine Off.m rfl ?_))))⟩
          · replace h := M.iteF h hb51
            refine Dw.region (Dl.q (Y.mv (v := (vI (wI x45))) rfl rfl) (Dl.q (Y.asg (v := (vI (wI x45))) rfl rfl) (Dl.nil (InB.m ?_))))
            exact Th.m ⟨_, h, _, eqUpd rfl (eqUpd rfl (eqMask (by repeat' (first | exact Off.refl _ _ | refine Off.u rfl ?_ | refine Off.m rfl ?_))))⟩
        · replace h := M.iteF h hb71
          refine Dw.exit (Th.e (Th.e (InB.e (Th.m (Dw.seq (Dw.region (Dl.q (Y.mv (v := (vI (wI ((wI x39) + p2)))) rfl rfl) (Dl.q (Y.mv (v := (vI q43.1)) rfl rfl) (Dl.q (Y.sub rfl rfl rfl) (Dl.q (Y.asg (v := (vI (wI ((wI ((wI x39) + p2)) - q43.1)))) rfl rfl) (Dl.nil (Th.m ?_))))))))))))
          refine Dw.joinM (fun s j r => mask r j 6276718611501464291621199836450878838806450759683488612352) h (fun C h => ?_) (fun q58 j w h => ?_)
          · refine Dw.joinM (fun s j r => upd (mask r j 97696590730200414720344622980832210455694619039204638720) 185 (Value.bool s)) h (fun C h => ?_) (fun q55 j w h => ?_)
            · refine Dw.region (Dl.q (Y.mv (v := (vI q43.1)) rfl rfl) (Dl.q (Y.mv (v := (vI p2)) rfl rfl) (Dl.q (Y.lss rfl rfl rfl) (Dl.q (Y.mv (v := (Value.bool (decide (q43.1 < p2)))) rfl rfl) ?_))))
              refine M.split h (fun hb54 h => ?_) (fun hb54 h => ?_)
              · refine Dl.q (Y.mv (v := (vI p2)) (wantG rfl rfl hb54) rfl) (Dl.q (Y.mv (v := (vI (wI ((wI ((wI x39) + p2)) - q43.1)))) (wantG rfl rfl hb54) rfl) (Dl.q (Y.lss (wantG rfl rfl hb54) rfl rfl) (Dl.q (Y.pickT (v := (Value.bool (decide (p2 < (wI ((wI ((wI x39) + p2)) - q43.1)))))) rfl rfl hb54 rfl) (Dl.nil ?_))))
                exact Th.m ⟨_, h, _, eqUpd rfl (eqMask (by repeat' (first | exact Off.refl _ _ | refine Off.u rfl ?_ | refine Off.m rfl ?_)))⟩
              · refine Dl.q (Y.skip (unwantG rfl rfl hb54)) (Dl.q (Y.skip (unwantG rfl rfl hb54)) (Dl.q (Y.skip (unwantG rfl rfl hb54)) (Dl.q (Y.pickF (v := (Value.bool false)) rfl rfl hb54 rfl) (Dl.nil ?_))))
                exact Th.m ⟨_, h, _, eqUpd rfl (eqMask (by repeat' (first | exact Off.refl _ _ | refine Off.u rfl ?_ | refine Off.m rfl ?_)))⟩
            · refine Dw.cond rfl (fun hb57 => ?_) (fun hb57 => ?_)
              · replace h := M.iteT h hb57
                refine Dw.region (Dl.q (Y.mv (v := (Sl.val p0)) rfl rfl) (Dl.q (Y.mv (v := (vI q43.1)) rfl rfl) (Dl.q (Y.mv (v := (vI p2)) rfl rfl) (Dl.q (Y.mv (v := (vI (wI ((wI ((wI x39) + p2)) - q43.1)))) rfl rfl) (Dl.q (Y.mv (v := p4) rfl rfl) ?_)))))
                refine Dl.n (N.call rfl Try.call97 rfl h ?_)
                intro r56 w h
                refine Dl.nil ?_
                exact Th.m ⟨_, h, _, eqMask (by repeat' (first | exact Off.refl _ _ | refine Off.u rfl ?_ | refine Off.m rfl ?_))⟩
              · replace h := M.iteF h hb57
                refine Dw.skip ?_
                exact Th.m ⟨_, h, _, eqMask (by repeat' (first | exact Off.refl _ _ | refine Off.u rfl ?_ | refine Off.m rfl ?_))⟩
          · refine Dw.joinM (fun s j r => mask r j 102837757730839990953921738120411198895004889246654277424775168) h (fun C h => ?_) (fun q65 j w h => ?_)
            · refine Dw.joinM (fun s j r => upd (mask r j 1600660942523603594778126302917954936106100638338328800788480) 199 (Value.bool s)) h (fun C h => ?_) (fun q62 j w h => ?_)
              · refine Dw.region (Dl.q (Y.mv (v := (vI p1)) rfl rfl) (Dl.q (Y.mv (v := (vI q43.1)) rfl rfl) (Dl.q (Y.lss rfl rfl rfl) (Dl.q (Y.mv (v := (Value.bool (decide (p1 < q43.1)))) rfl rfl) ?_))))
                refine M.split h (fun hb61 h => ?_) (fun hb61 h => ?_)
                · refine Dl.q (Y.mv (v := (vI q43.1)) (wantG rfl rfl hb61) rfl) (Dl.q (Y.mv (v := (vI (wI x39))) (wantG rfl rfl hb61) rfl) (Dl.q (Y.lss (wantG rfl rfl hb61) rfl rfl) (Dl.q (Y.pickT (v := (Value.bool (decide (q43.1 < (wI x39))))) rfl rfl hb61 rfl) (Dl.nil ?_))))
                  exact Th.m ⟨_, h, _, eqUpd rfl (eqMask (by repeat' (first | exact Off.refl _ _ | refine Off.u rfl ?_ | refine Off.m rfl ?_)))⟩
                · refine Dl.q (Y.skip (unwantG rfl rfl hb61)) (Dl.q (Y.skip (unwantG rfl rfl hb61)) (Dl.q (Y.skip (unwantG rfl rfl hb61)) (Dl.q (Y.pickF (v := (Value.bool false)) rfl rfl hb61 rfl) (Dl.nil ?_))))
                  exact Th.m ⟨_, h, _, eqUpd rfl (eqMask (by repeat' (first | exact Off.refl _ _ | refine Off.u rfl ?_ | refine Off.m rfl ?_)))⟩
              · refine Dw.cond rfl (fun hb64 => ?_) (fun hb64 => ?_)
                · replace h := M.iteT h hb64
                  refine Dw.region (Dl.q (Y.mv (v := (Sl.val p0)) rfl rfl) (Dl.q (Y.mv (v := (vI p1)) rfl rfl) (Dl.q (Y.mv (v := (vI q43.1)) rfl rfl) (Dl.q (Y.mv (v := (vI (wI x39))) rfl rfl) (Dl.q (Y.mv (v := p4) rfl rfl) ?_)))))
                  refine Dl.n (N.call rfl Try.call91 rfl h ?_)
                  intro r63 w h
                  refine Dl.nil ?_
                  exact Th.m ⟨_, h, _, eqMask (by repeat' (first | exact Off.refl _ _ | refine Off.u rfl ?_ | refine Off.m rfl ?_))⟩
                · replace h := M.iteF h hb64
                  refine Dw.skip ?_
                  exact Th.m ⟨_, h, _, eqMask (by repeat' (first | exact Off.refl _ _ | refine Off.u rfl ?_ | refine Off.m rfl ?_))⟩
            · refine Dw.joinM (fun s j r => upd (mask r j 26225228882306721296844821347007773673162352858535179072118456320) 213 (Value.bool s)) h (fun C h => ?_) (fun q68 j w h => ?_)
              · refine Dw.region (Dl.q (Y.mv (v := (vI (wI x39))) rfl rfl) (Dl.q (Y.mv (v := (vI (wI ((wI ((wI x39) + p2)) - q43.1)))) rfl rfl) (Dl.q (Y.lss rfl rfl rfl) (Dl.q (Y.mv (v := (Value.bool (decide ((wI x39) < (wI ((wI ((wI x39) + p2)) - q43.1)))))) rfl rfl) ?_))))
                refine M.split h (fun hb67 h => ?_) (fun hb67 h => ?_)
                · refine Dl.q (Y.mv (v := (vI (wI ((wI ((wI x39) + p2)) - q43.1)))) (wantG rfl rfl hb67) rfl) (Dl.q (Y.mv (v := (vI p3)) (wantG rfl rfl hb67) rfl) (Dl.q (Y.lss (wantG rfl rfl hb67) rfl rfl) (Dl.q (Y.pickT (v := (Value.bool (decide ((wI ((wI ((wI x39) + p2)) - q43.1)) < p3)))) rfl rfl hb67 rfl) (Dl.nil ?_))))
                  exact Th.m ⟨_, h, _, eqUpd rfl (eqMask (by repeat' (first | exact Off.refl _ _ | refine Off.u rfl ?_ | refine Off.m rfl ?_)))⟩
                · refine Dl.q (Y.skip (unwantG rfl rfl hb67)) (Dl.q (Y.skip (unwantG rfl rfl hb67)) (Dl.q (Y.skip (unwantG rfl rfl hb67)) (Dl.q (Y.pickF (v := (Value.bool false)) rfl rfl hb67 rfl) (Dl.nil ?_))))
                  exact Th.m ⟨_, h, _, eqUpd rfl (eqMask (by repeat' (first | exact Off.refl _ _ | refine Off.u rfl ?_ | refine Off.m rfl ?_)))⟩
              · refine Dw.cond rfl (fun hb70 => ?_) (fun hb70 => ?_)
                · replace h := M.iteT h hb70
                  refine Dw.region (Dl.q (Y.mv (v := (Sl.val p0)) rfl rfl) (Dl.q (Y.mv (v := (vI (wI x39))) rfl rfl) (Dl.q (Y.mv (v := (vI (wI ((wI ((wI x39) + p2)) - q43.1)))) rfl rfl) (Dl.q (Y.mv (v := (vI p3)) rfl rfl) (Dl.q (Y.mv (v := p4) rfl rfl) ?_)))))
                  refine Dl.n (N.call rfl Try.call91 rfl h ?_)
                  intro r69 w h
                  refine Dl.nil ?_
                  exact fin0 ⟨(), rfl, h⟩
                · replace h := M.iteF h hb70
                  refine Dw.skip ?_
                  exact fin0 ⟨(), rfl, h⟩
set_option maxHeartbeats 1000000 in
set_option maxRecDepth 20000 in
theorem r19_numbers {p0 : Sl} {w : World} {R : ((Nat → Int) × Int) → World → Prop} (h : S.r19_numbers p0 w R) : Calls Try.prog 92 [(Sl.val p0)].toArray w (Ret (fun x : ((Nat → Int) × Int) => .tuple #[(.agg (Ar.cs x.1).toArray), (vI x.2)]) R) := by
  refine calls_of Try.func92 rfl rfl rfl (by kernel_rfl) rfl ?_
  unfold S.r19_numbers at h
  refine Dw.seq (Dw.region ?_)
  refine Dl.n (N.new rfl Try.zeroValue22 h (by kernel_rfl) fun b1 _ h => ?_)
  refine Dl.q (Y.asg (v := (vI 0)) rfl rfl) (Dl.nil (Th.m (Dw.seq (Dw.region (Dl.q (Y.bld [] rfl rfl (Ar_b _)) ?_)))))
  refine Dl.n (N.new rfl Try.zeroValue22 h (by kernel_rfl) fun b2 _ h => ?_)
  refine Dl.n (N.stA rfl Try.sizeOf22 h rfl rfl (Ar_len _) (Ar_one _) fun h => ?_)
  generalize setCells _ _ _ _ = w at h ⊢
  refine Dl.nil (Th.m (Dw.seq (Dw.seq (Dw.region (Dl.q (Y.asg (v := (vI 0)) rfl rfl) (Dl.nil (Th.m (Dw.block ?_))))))))
  refine Dw.loopM (fun s j r => upd (mask r j 268435296) 5 (vI s)) h ⟨_, eqUpd rfl (eqMask (by repeat' (first | exact Off.refl _ _ | refine Off.u rfl ?_ | refine Off.m rfl ?_)))⟩ ?_
  intro I m q3 j w h
  refine Dw.seq (Dw.seq (Dw.region (Dl.q (Y.mv (v := (vI q3)) rfl rfl) (Dl.q (Y.mv (v := (Sl.val p0)) rfl rfl) (Dl.q (Y.len rfl Try.runUnderlying110 rfl) (Dl.q (Y.lss rfl rfl rfl) (Dl.nil (Th.m ?_))))))))
  refine Dw.cond rfl (fun hb15 => ?_) (fun hb15 => ?_)
  · replace h := M.iteT h hb15
    refine Dw.skip (Th.m (Dw.seq (Dw.block (Dw.seq (Dw.region (Dl.q (Y.asg (v := (vI 0)) rfl rfl) (Dl.nil (Th.m (Dw.block ?_)))))))))
    refine Dw.loopM (fun s j r => upd (mask r j 268419136) 6 (vI s)) h ⟨_, eqUpd rfl (eqMask (by repeat' (first | exact Off.refl _ _ | refine Off.u rfl ?_ | refine Off.m rfl ?_)))⟩ ?_
    intro I m q5 j w h
    refine Dw.seq (Dw.seq (Dw.region (Dl.q (Y.mv (v := (vI q5)) rfl rfl) (Dl.q (Y.lss rfl rfl rfl) (Dl.nil (Th.m ?_))))))
    refine Dw.cond rfl (fun hb12 => ?_) (fun hb12 => ?_)
    · replace h := M.iteT h hb12
      refine Dw.skip (Th.m (Dw.seq (Dw.block (Dw.seq (Dw.region (Dl.q (Y.mv (v := (Sl.val p0)) rfl rfl) (Dl.q (Y.mv (v := (vI q3)) rfl rfl) ?_)))))))
      obtain ⟨a7, a70, ha, hi, he, h⟩ := h
      refine Dl.q (Y.ix rfl Try.runUnderlying110 Try.sizeOf120 rfl rfl ha hi he) ?_
      obtain ⟨v8, hcv8, h⟩ := h
      refine Dl.q (Y.ldA rfl Try.isAgg120 Try.sizeOf120 (A4_len _) rfl hcv8) (Dl.q (Y.mv (v := (vI q5)) rfl rfl) ?_)
      refine Dl.n (N.call rfl Try.call98 rfl h ?_)
      intro r9 w h
      refine Dl.nil (Th.m ?_)
      refine Dw.cond rfl (fun hb11 => ?_) (fun hb11 => ?_)
      · replace h := M.iteT h hb11
        refine Dw.region (Dl.q (Y.mv (v := (vI q5)) rfl rfl) (Dl.q (Y.mv (v := (vI q3)) rfl rfl) (Dl.q (Y.conv rfl Try.runUnderlying3 Try.runUnderlying5 rfl) ?_)))
        obtain ⟨a10, hi, he, h⟩ := h
        refine Dl.q (Y.ixA rfl Try.runUnderlying22 Try.sizeOf5 rfl rfl hi he) ?_
        refine Dl.n (N.st rfl Try.sizeOf5 h rfl rfl rfl rfl rfl fun h => ?_)
        refine Dl.nil (InB.m (Th.m (Dw.region (Dl.q (Y.mv (v := (vI q5)) rfl rfl) (Dl.q (Y.add rfl rfl rfl) (Dl.q (Y.asg (v := (vI (wI (q5 + 1)))) rfl rfl) (Dl.nil ?_)))))))
        exact Th.m ⟨_, h, _, eqUpd rfl (eqMask (by repeat' (first | exact Off.refl _ _ | refine Off.u rfl ?_ | refine Off.m rfl ?_)))⟩
      · replace h := M.iteF h hb11
        refine Dw.skip (InB.m (Th.m (Dw.region (Dl.q (Y.mv (v := (vI q5)) rfl rfl) (Dl.q (Y.add rfl rfl rfl) (Dl.q (Y.asg (v := (vI (wI (q5 + 1)))) rfl rfl) (Dl.nil ?_)))))))
        exact Th.m ⟨_, h, _, eqUpd rfl (eqMask (by repeat' (first | exact Off.refl _ _ | refine Off.u rfl ?_ | refine Off.m rfl ?_)))⟩
    · replace h := M.iteF h hb12
      refine Dw.exit (Th.e (Th.e (InB.e (InB.m (Th.m (Dw.region (Dl.q (Y.mv (v := (vI q3)) rfl rfl) (Dl.q (Y.add rfl rfl rfl) (Dl.q (Y.asg (v := (vI (wI (q3 + 1)))) rfl rfl) (Dl.nil ?_))))))))))
      exact Th.m ⟨_, h, _, eqUpd rfl (eqMask (by repeat' (first | exact Off.refl _ _ | refine Off.u rfl ?_ | refine Off.m rfl ?_)))⟩
  · replace h := M.iteF h hb15
    refine Dw.exit (Th.e (Th.e (InB.e (Th.m (Dw.seq (Dw.region ?_))))))
    obtain ⟨v13, hcv13, h⟩ := h
    refine Dl.q (Y.ldA rfl Try.isAgg22 Try.sizeOf22 (Ar_len _) rfl hcv13) (Dl.q (Y.mv (v := (Sl.val p0)) rfl rfl) (Dl.q (Y.len rfl Try.runUnderlying110 rfl) ?_))
    refine Dl.n (N.stA rfl Try.sizeOf22 h rfl rfl (Ar_len _) (Ar_one _) fun h => ?_)
    generalize setCells _ _ _ _ = w at h ⊢
    refine Dl.q (Y.asg (v := (vI (p0.len : Int))) rfl rfl) (Dl.nil (Th.m (Dw.ret ?_)))
    obtain ⟨v14, hc, h⟩ := h
    exact finC2 Try.isAgg22 Try.sizeOf22 (Ar_len _) rfl rfl hc ⟨_, rfl, h⟩
set_option maxHeartbeats 1000000 in
set_option maxRecDepth 20000 in
theorem r19_Sets {p0 : (Nat → Int)} {w : World} {R : Sl → World → Prop} (h : S.r19_Sets p0 w R) : Calls Try.prog 93 [(.agg (Ar.cs p0).toArray)].toArray w (Ret Sl.val R) := by
  refine calls_of Try.func93 rfl rfl rfl (by kernel_rfl) rfl ?_
  unfold S.r19_Sets at h
  refine Dw.seq (Dw.region ?_)
  refine Dl.n (N.box rfl h rfl rfl fun b1 _ h => ?_)
  refine Dl.q (Y.asg (v := (Sl.val Sl.nil)) rfl rfl) (Dl.nil (Th.m (Dw.seq (Dw.region ?_))))
  refine Dl.n (N.mkSA [] rfl Try.runUnderlying110 Try.sizeOf120 Try.zeroValue120 h rfl rfl rfl (fun _ hq => by simp at hq) rfl rfl fun b2 _ h => ?_)
  refine Dl.q (Y.asg (v := (Sl.val (⟨some b2, 0, 0⟩ : Sl))) rfl rfl) (Dl.nil (Th.m (Dw.seq (Dw.region (Dl.q (Y.bld [] rfl rfl (Ab_b _)) ?_)))))
  refine Dl.n (N.new rfl Try.zeroValue121 h (by kernel_rfl) fun b3 _ h => ?_)
  refine Dl.n (N.stA rfl Try.sizeOf121 h rfl rfl (Ab_len _) (Ab_one _) fun h => ?_)
  generalize setCells _ _ _ _ = w at h ⊢
  refine Dl.nil (Th.m (Dw.seq (Dw.seq (Dw.region (Dl.q (Y.asg (v := (vI 0)) rfl rfl) (Dl.nil (Th.m (Dw.block ?_))))))))
  refine Dw.loopM (fun s j r => upd (upd (mask r j 8796093021416) 3 (Sl.val s.1)) 5 (vI s.2)) h ⟨_, eqUpd rfl (eqUpd rfl (eqMask (by repeat' (first | exact Off.refl _ _ | refine Off.u rfl ?_ | refine Off.m rfl ?_))))⟩ ?_
  intro I m q4 j w h
  refine Dw.seq (Dw.seq (Dw.region (Dl.q (Y.mv (v := (vI q4.2)) rfl rfl) (Dl.q (Y.lss rfl rfl rfl) (Dl.nil (Th.m ?_))))))
  refine Dw.cond rfl (fun hb28 => ?_) (fun hb28 => ?_)
  · replace h := M.iteT h hb28
    refine Dw.skip (Th.m (Dw.seq (Dw.block (Dw.seq (Dw.seq (Dw.region (Dl.q (Y.mv (v := (vI q4.2)) rfl rfl) ?_)))))))
    obtain ⟨a6, hi, he, h⟩ := h
    refine Dl.q (Y.ixA rfl Try.runUnderlying22 Try.sizeOf5 rfl rfl hi he) ?_
    obtain ⟨x7, hcx7, h⟩ := h
    refine Dl.q (Y.ld rfl Try.isAgg5 rfl hcx7) ?_
    obtain ⟨a8, hi, he, h⟩ := h
    refine Dl.q (Y.ixA rfl Try.runUnderlying121 Try.sizeOf4 rfl rfl hi he) ?_
    obtain ⟨x9, hcx9, h⟩ := h
    refine Dl.q (Y.ld rfl Try.isAgg4 rfl hcx9) (Dl.nil (Th.m ?_))
    refine Dw.cond rfl (fun hb27 => ?_) (fun hb27 => ?_)
    · replace h := M.iteT h hb27
      refine Dw.exit (Th.e (InB.e (Th.m (Dw.region (Dl.q (Y.mv (v := (vI q4.2)) rfl rfl) (Dl.q (Y.add rfl rfl rfl) (Dl.q (Y.asg (v := (vI (wI (q4.2 + 1)))) rfl rfl) (Dl.nil ?_))))))))
      exact Th.m ⟨_, h, _, eqUpd rfl (eqUpd rfl (eqMask (by repeat' (first | exact Off.refl _ _ | refine Off.u rfl ?_ | refine Off.m rfl ?_))))⟩
    · replace h := M.iteF h hb27
      refine Dw.skip (Th.m (Dw.seq (Dw.region (Dl.q (Y.mv (v := (vI q4.2)) rfl rfl) ?_))))
      obtain ⟨a10, hi, he, h⟩ := h
      refine Dl.q (Y.ixA rfl Try.runUnderlying22 Try.sizeOf5 rfl rfl hi he) ?_
      obtain ⟨x11, hcx11, h⟩ := h
      refine Dl.q (Y.ld rfl Try.isAgg5 rfl hcx11) ?_
      obtain ⟨a12, hi, he, h⟩ := h
      refine Dl.q (Y.ixA rfl Try.runUnderlying121 Try.sizeOf4 rfl rfl hi he) ?_
      refine Dl.n (N.st rfl Try.sizeOf4 h rfl rfl rfl rfl rfl fun h => ?_)
      refine Dl.nil (Th.m (Dw.seq (Dw.region (Dl.q (Y.bld [] rfl rfl (A4_b _)) ?_))))
      refine Dl.n (N.new rfl Try.zeroValue120 h (by kernel_rfl) fun b13 _ h => ?_)
      refine Dl.n (N.stA rfl Try.sizeOf120 h rfl rfl (A4_len _) (A4_one _) fun h => ?_)
      generalize setCells _ _ _ _ = w at h ⊢
      refine Dl.nil (Th.m (Dw.seq (Dw.seq (Dw.region (Dl.q (Y.mv (v := (vI q4.2)) rfl rfl) (Dl.q (Y.asg (v := (vI q4.2)) rfl rfl) (Dl.nil (Th.m (Dw.block ?_)))))))))
      refine Dw.loopM (fun s j r => upd (mask r j 549722259584) 7 (vI s)) h ⟨_, eqUpd rfl (eqMask (by repeat' (first | exact Off.refl _ _ | refine Off.u rfl ?_ | refine Off.m rfl ?_)))⟩ ?_
      intro I m q14 j w h
      refine Dw.seq (Dw.seq (Dw.region (Dl.q (Y.mv (v := (vI q14)) rfl rfl) (Dl.q (Y.lss rfl rfl rfl) (Dl.nil (Th.m ?_))))))
      refine Dw.cond rfl (fun hb26 => ?_) (fun hb26 => ?_)
      · replace h := M.iteT h hb26
        refine Dw.skip (Th.m (Dw.seq (Dw.block (Dw.seq (Dw.game (by kernel_rfl) ?_)))))
        replace h := M.drew_un h
        generalize World.drew _ = w at h ⊢
        refine Gm.pure 0 rfl (by kernel_rfl) (fun _ => Y.mv (v := (vI q14)) rfl rfl) ?_
        obtain ⟨a16, hi, he, h⟩ := h
        refine Gm.pure 1 rfl (by kernel_rfl) (fun _ => Y.ixA rfl Try.runUnderlying22 Try.sizeOf5 rfl rfl hi he) ?_
        obtain ⟨x17, hcx17, h⟩ := h
        refine Gm.quiet 2 rfl (by kernel_rfl) (fun _ hw => Y.ld rfl Try.isAgg5 rfl hw) hcx17 (Gm.pure 3 rfl (by kernel_rfl) (fun _ => Y.mv (v := (vI q4.2)) rfl rfl) ?_)
        obtain ⟨a18, hi, he, h⟩ := h
        refine Gm.pure 4 rfl (by kernel_rfl) (fun _ => Y.ixA rfl Try.runUnderlying22 Try.sizeOf5 rfl rfl hi he) ?_
        obtain ⟨x19, hcx19, h⟩ := h
        refine Gm.quiet 5 rfl (by kernel_rfl) (fun _ hw => Y.ld rfl Try.isAgg5 rfl hw) hcx19 (Gm.pure 6 rfl (by kernel_rfl) (fun _ => Y.eqI rfl rfl rfl) (Gm.end (by kernel_rfl) (Th.m ?_)))
        refine Dw.cond rfl (fun hb22 => ?_) (fun hb22 => ?_)
        · replace h := M.iteT h hb22
          refine Dw.region ?_
          obtain ⟨v20, hcv20, h⟩ := h
          refine Dl.q (Y.ldA rfl Try.isAgg120 Try.sizeOf120 (A4_len _) rfl hcv20) (Dl.q (Y.mv (v := (vI q14)) rfl rfl) ?_)
          refine Dl.n (N.call rfl Try.call99 rfl h ?_)
          intro r21 w h
          refine Dl.n (N.stA rfl Try.sizeOf120 h rfl rfl (A4_len _) (A4_one _) fun h => ?_)
          generalize setCells _ _ _ _ = w at h ⊢
          refine Dl.nil (InB.m (Th.m (Dw.region (Dl.q (Y.mv (v := (vI q14)) rfl rfl) (Dl.q (Y.add rfl rfl rfl) (Dl.q (Y.asg (v := (vI (wI (q14 + 1)))) rfl rfl) (Dl.nil ?_)))))))
          exact Th.m ⟨_, h, _, eqUpd rfl (eqMask (by repeat' (first | exact Off.refl _ _ | refine Off.u rfl ?_ | refine Off.m rfl ?_)))⟩
        · replace h := M.iteF h hb22
          refine Dw.skip (InB.m (Th.m (Dw.region (Dl.q (Y.mv (v := (vI q14)) rfl rfl) (Dl.q (Y.add rfl rfl rfl) (Dl.q (Y.asg (v := (vI (wI (q14 + 1)))) rfl rfl) (Dl.nil ?_)))))))
          exact Th.m ⟨_, h, _, eqUpd rfl (eqMask (by repeat' (first | exact Off.refl _ _ | refine Off.u rfl ?_ | refine Off.m rfl ?_)))⟩
      · replace h := M.iteF h hb26
        refine Dw.exit (Th.e (Th.e (InB.e (Th.m (Dw.region (Dl.q (Y.mv (v := (Sl.val q4.1)) rfl rfl) ?_))))))
        obtain ⟨v23, hcv23, h⟩ := h
        refine Dl.q (Y.ldA rfl Try.isAgg120 Try.sizeOf120 (A4_len _) rfl hcv23) ?_
        refine Dl.n (N.mkSA [(A4.cs v23)] rfl Try.runUnderlying110 Try.sizeOf120 Try.zeroValue120 h rfl rfl rfl (fun _ hq => by simp at hq; subst hq; rfl) rfl rfl fun b24 _ h => ?_)
        obtain ⟨s25, w, ha, h⟩ := h
        refine Dl.n (N.blt rfl rfl (fun _ => rfl) ha ?_)
        refine Dl.q (Y.asg (v := (Sl.val s25)) rfl rfl) (Dl.nil (InB.m (Th.m (Dw.region (Dl.q (Y.mv (v := (vI q4.2)) rfl rfl) (Dl.q (Y.add rfl rfl rfl) (Dl.q (Y.asg (v := (vI (wI (q4.2 + 1)))) rfl rfl) (Dl.nil ?_))))))))
        exact Th.m ⟨_, h, _, eqUpd rfl (eqUpd rfl (eqMask (by repeat' (first | exact Off.refl _ _ | refine Off.u rfl ?_ | refine Off.m rfl ?_))))⟩
  · replace h := M.iteF h hb28
    refine Dw.exit (Th.e (Th.e (InB.e (Th.m (Dw.seq (Dw.region (Dl.q (Y.mv (v := (Sl.val q4.1)) rfl rfl) (Dl.q (Y.asg (v := (Sl.val q4.1)) rfl rfl) (Dl.nil (Th.m (Dw.ret ?_)))))))))))
    exact fin1 rfl ⟨_, rfl, h⟩
set_option maxHeartbeats 1000000 in
set_option maxRecDepth 20000 in
theorem moore_rounds_c1 {p0 : Value} {c0 : Addr} {w : World} {R : Unit → World → Prop} (h : S.moore_rounds_c1 p0 c0 w R) : Calls Try.prog 94 [p0, (vA c0)].toArray w (Ret vUnit R) := by
  refine calls_of Try.func94 rfl rfl rfl (by kernel_rfl) rfl ?_
  unfold S.moore_rounds_c1 at h
  refine Dw.seq (Dw.region (Dl.q (Y.fa 258 rfl Try.runUnderlying27 rfl Try.sizeOf24 (by decide) rfl rfl) ?_))
  obtain ⟨x1, hcx1, h⟩ := h
  refine Dl.q (Y.ld rfl Try.isAgg24 rfl hcx1) ?_
  refine Dl.n (N.call rfl Try.call31 rfl h ?_)
  intro r2 w h
  refine Dl.q (Y.asg (v := (Sl.val r2)) rfl rfl) (Dl.nil (Th.m (Dw.seq (Dw.region (Dl.q (Y.asg (v := (vI 0)) rfl rfl) (Dl.nil (Th.m (Dw.block ?_))))))))
  refine Dw.loopM (fun s j r => upd (upd (mask r j 4193848) 3 (Sl.val s.1)) 4 (vI s.2)) h ⟨_, eqUpd rfl (eqUpd rfl (eqMask (by repeat' (first | exact Off.refl _ _ | refine Off.u rfl ?_ | refine Off.m rfl ?_))))⟩ ?_
  intro I m q3 j w h
  refine Dw.seq (Dw.seq (Dw.region (Dl.q (Y.mv (v := p0) rfl rfl) (Dl.q (Y.mv (v := (vI q3.2)) rfl rfl) (Dl.q (Y.mv (v := (Sl.val q3.1)) rfl rfl) ?_)))))
  refine Dl.n (N.callv rfl rfl rfl h ?_)
  intro r5 w h
  refine Dl.nil (Th.m ?_)
  refine Dw.cond rfl (fun hb10 => ?_) (fun hb10 => ?_)
  · replace h := M.iteT h hb10
    refine Dw.skip (Th.m (Dw.seq (Dw.block (Dw.seq (Dw.region ?_)))))
    obtain ⟨v6, hcv6, h⟩ := h
    refine Dl.q (Y.ldA rfl Try.isAgg27 Try.sizeOf27 (Dfv_len _) rfl hcv6) (Dl.q (Y.mv (v := (Sl.val q3.1)) rfl rfl) ?_)
    refine Dl.n (N.call rfl Try.call95 rfl h ?_)
    intro r7 w h
    refine Dl.q (Y.asg (v := (Sl.val r7)) rfl rfl) (Dl.nil (Th.m (Dw.seq (Dw.seq (Dw.region (Dl.q (Y.mv (v := (Sl.val r7)) rfl rfl) (Dl.q (Y.mv (v := (Sl.val q3.1)) rfl rfl) ?_)))))))
    refine Dl.n (N.call rfl Try.call41 rfl h ?_)
    intro r8 w h
    refine Dl.nil (Th.m ?_)
    refine Dw.cond rfl (fun hb9 => ?_) (fun hb9 => ?_)
    · replace h := M.iteT h hb9
      refine Dw.ret (Th.r (InB.r (Th.r (Th.r (InB.r ?_)))))
      exact fin0 ⟨(), rfl, h⟩
    · replace h := M.iteF h hb9
      refine Dw.skip (Th.m (Dw.region (Dl.q (Y.mv (v := (Sl.val r7)) rfl rfl) (Dl.q (Y.asg (v := (Sl.val r7)) rfl rfl) (Dl.nil (InB.m (Th.m (Dw.region (Dl.q (Y.mv (v := (vI q3.2)) rfl rfl) (Dl.q (Y.add rfl rfl rfl) (Dl.q (Y.asg (v := (vI (wI (q3.2 + 1)))) rfl rfl) (Dl.nil ?_))))))))))))
      exact Th.m ⟨_, h, _, eqUpd rfl (eqUpd rfl (eqMask (by repeat' (first | exact Off.refl _ _ | refine Off.u rfl ?_ | refine Off.m rfl ?_))))⟩
  · replace h := M.iteF h hb10
    refine Dw.exit (Th.e (Th.e (InB.e ?_)))
    exact fin0 ⟨(), rfl, h⟩
set_option maxHeartbeats 1000000 in
set_option maxRecDepth 20000 in
theorem moore_round {p0 : Dfv} {p1 : Sl} {w : World} {R : Sl → World → Prop} (h : S.moore_round p0 p1 w R) : Calls Try.prog 95 [(.agg (Dfv.cs p0).toArray), (Sl.val p1)].toArray w (Ret Sl.val R) := by
  refine calls_of Try.func95 rfl rfl rfl (by kernel_rfl) rfl ?_
  unfold S.moore_round at h
  refine Dw.seq (Dw.region ?_)
  refine Dl.n (N.box rfl h rfl rfl fun b1 _ h => ?_)
  refine Dl.n (N.box rfl h rfl rfl fun b2 _ h => ?_)
  refine Dl.q (Y.asg (v := (Sl.val Sl.nil)) rfl rfl) (Dl.nil (Th.m (Dw.seq (Dw.region (Dl.q (Y.mkF rfl rfl) (Dl.q (Y.asg (v := (.func (.func 100) #[] #[(vA b2), (vA b1)])) rfl rfl) (Dl.nil (Th.m (Dw.seq (Dw.region ?_))))))))))
  obtain ⟨x3, hcx3, h⟩ := h
  refine Dl.q (Y.ld rfl Try.isAgg24 rfl hcx3) (Dl.q (Y.asg (v := (Sl.val x3)) rfl rfl) (Dl.nil (Th.m (Dw.seq (Dw.seq (Dw.region (Dl.q (Y.fa 256 rfl Try.runUnderlying27 rfl Try.sizeOf3 (by decide) rfl rfl) ?_)))))))
  obtain ⟨x4, hcx4, h⟩ := h
  refine Dl.q (Y.ld rfl Try.isAgg3 rfl hcx4) (Dl.q (Y.mv (v := (vI 0)) rfl rfl) (Dl.nil (Th.m (Dw.block ?_))))
  refine Dw.loopM (fun s j r => upd (upd (mask r j 2093248) 6 (Sl.val s.1)) 12 (vI s.2)) h ⟨_, eqUpd rfl (eqUpd rfl (eqMask (by repeat' (first | exact Off.refl _ _ | refine Off.u rfl ?_ | refine Off.m rfl ?_))))⟩ ?_
  intro I m q5 j w h
  refine Dw.seq (Dw.region (Dl.q (Y.lss rfl rfl rfl) (Dl.nil (Th.m (Dw.seq ?_)))))
  refine Dw.cond rfl (fun hb9 => ?_) (fun hb9 => ?_)
  · replace h := M.iteT h hb9
    refine Dw.skip (Th.m (Dw.seq (Dw.block (Dw.seq (Dw.region (Dl.q (Y.mv (v := (vI q5.2)) rfl rfl) (Dl.q (Y.asg (v := (vI q5.2)) rfl rfl) (Dl.nil (Th.m (Dw.region (Dl.q (Y.mv (v := (Sl.val q5.1)) rfl rfl) (Dl.q (Y.mv (v := (.func (.func 100) #[] #[(vA b2), (vA b1)])) rfl rfl) ?_))))))))))))
    refine Dl.q (Y.mv (v := (vI q5.2)) rfl rfl) ?_
    refine Dl.n (N.callv rfl rfl rfl h ?_)
    intro r7 w h
    refine Dl.n (N.call rfl Try.call101 rfl h ?_)
    intro r8 w h
    refine Dl.q (Y.asg (v := (Sl.val r8)) rfl rfl) (Dl.nil (InB.m (Th.m (Dw.region (Dl.q (Y.add rfl rfl rfl) (Dl.q (Y.mv (v := (vI (wI (q5.2 + 1)))) rfl rfl) (Dl.nil ?_)))))))
    exact Th.m ⟨_, h, _, eqUpd rfl (eqUpd rfl (eqMask (by repeat' (first | exact Off.refl _ _ | refine Off.u rfl ?_ | refine Off.m rfl ?_))))⟩
  · replace h := M.iteF h hb9
    refine Dw.exit (Th.e (Th.e (InB.e (Th.m (Dw.seq (Dw.region (Dl.q (Y.mv (v := (Sl.val q5.1)) rfl rfl) (Dl.q (Y.asg (v := (Sl.val q5.1)) rfl rfl) (Dl.nil (Th.m (Dw.ret ?_)))))))))))
    exact fin1 rfl ⟨_, rfl, h⟩
end L
end Go.Proofs.Ythepabefikobpaa
