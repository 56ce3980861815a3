/- The lifts: what is shown of a shallow text holds of the call. By a program (gen.py). No condition. -/
import Derived.Test.YthepabefikobpaaShal
namespace Go.Proofs.Ythepabefikobpaa
open Go Go.Sh
namespace L
set_option maxHeartbeats 1000000 in
set_option maxRecDepth 20000 in
theorem r24_After {p0 : Dfv} {p1 : Int} {w : World} {R : Sl → World → Prop} (h : S.r24_After p0 p1 w R) : Calls Try.prog 36 [(.agg (Dfv.cs p0).toArray), (vI p1)].toArray w (Ret Sl.val R) := by
  refine calls_of Try.func36 rfl rfl rfl (by kernel_rfl) rfl ?_
  unfold S.r24_After at h
  refine Dw.seq (Dw.region ?_)
  refine Dl.n (N.box rfl h rfl rfl fun b1 _ h => ?_)
  refine Dl.q (Y.asg (v := (Sl.val Sl.nil)) rfl rfl) (Dl.nil (Th.m (Dw.seq (Dw.region ?_))))
  obtain ⟨v2, hcv2, h⟩ := h
  refine Dl.q (Y.ldA rfl Try.isAgg27 Try.sizeOf27 (Dfv_len _) rfl hcv2) (Dl.q (Y.mv (v := (vI p1)) rfl rfl) ?_)
  refine Dl.n (N.call rfl Try.call68 rfl h ?_)
  intro r3 w h
  refine Dl.q (Y.asg (v := (Sl.val r3)) rfl rfl) (Dl.nil (Th.m (Dw.seq (Dw.region ?_))))
  refine Dl.n (N.mkS rfl Try.runUnderlying24 Try.sizeOf3 Try.zeroValue3 h rfl rfl rfl rfl rfl fun b4 _ h => ?_)
  refine Dl.q (Y.asg (v := (Sl.val (⟨some b4, 0, 0⟩ : Sl))) rfl rfl) (Dl.nil (Th.m (Dw.seq (Dw.seq (Dw.region (Dl.q (Y.asg (v := (vI 0)) rfl rfl) (Dl.nil (Th.m (Dw.block ?_)))))))))
  refine Dw.loopM (fun s j r => upd (upd (mask r j 8589926848) 6 (Sl.val s.1)) 7 (vI s.2)) h ⟨_, eqUpd rfl (eqUpd rfl (eqMask (by repeat' (first | exact Off.refl _ _ | refine Off.u rfl ?_ | refine Off.m rfl ?_))))⟩ ?_
  intro I m q5 j w h
  refine Dw.seq (Dw.seq (Dw.region (Dl.q (Y.mv (v := (vI q5.2)) rfl rfl) (Dl.q (Y.fa 258 rfl Try.runUnderlying27 rfl Try.sizeOf24 (by decide) rfl rfl) ?_))))
  obtain ⟨x7, hcx7, h⟩ := h
  refine Dl.q (Y.ld rfl Try.isAgg24 rfl hcx7) (Dl.q (Y.len rfl Try.runUnderlying24 rfl) (Dl.q (Y.lss rfl rfl rfl) (Dl.nil (Th.m ?_))))
  refine Dw.cond rfl (fun hb18 => ?_) (fun hb18 => ?_)
  · replace h := M.iteT h hb18
    refine Dw.skip (Th.m (Dw.seq (Dw.block (Dw.seq (Dw.region (Dl.q (Y.asg (v := (vI 0)) rfl rfl) (Dl.nil (Th.m (Dw.seq (Dw.block ?_))))))))))
    refine Dw.loopM (fun s j r => upd (mask r j 535822592) 8 (vI s)) h ⟨_, eqUpd rfl (eqMask (by repeat' (first | exact Off.refl _ _ | refine Off.u rfl ?_ | refine Off.m rfl ?_)))⟩ ?_
    intro I m q8 j w h
    refine Dw.seq (Dw.seq (Dw.region (Dl.q (Y.mv (v := (Sl.val r3)) rfl rfl) (Dl.q (Y.mv (v := (vI q5.2)) rfl rfl) ?_))))
    obtain ⟨a10, a100, ha, hi, he, h⟩ := h
    refine Dl.q (Y.ix rfl Try.runUnderlying80 Try.sizeOf82 rfl rfl ha hi he) ?_
    obtain ⟨x11, hcx11, h⟩ := h
    refine Dl.q (Y.ld rfl Try.isAgg82 rfl hcx11) (Dl.q (Y.mv (v := (vI q8)) rfl rfl) ?_)
    obtain ⟨a12, a120, ha, hi, he, h⟩ := h
    refine Dl.q (Y.ix rfl Try.runUnderlying82 Try.sizeOf4 rfl rfl ha hi he) ?_
    obtain ⟨x13, hcx13, h⟩ := h
    refine Dl.q (Y.ld rfl Try.isAgg4 rfl hcx13) (Dl.nil (Th.m ?_))
    refine Dw.cond rfl (fun hb16 => ?_) (fun hb16 => ?_)
    · replace h := M.iteT h hb16
      refine Dw.skip (Th.m (Dw.block (Dw.region (Dl.q (Y.mv (v := (vI q8)) rfl rfl) (Dl.q (Y.add rfl rfl rfl) (Dl.q (Y.asg (v := (vI (wI (q8 + 1)))) rfl rfl) (Dl.nil (InB.m ?_))))))))
      exact Th.m ⟨_, h, _, eqUpd rfl (eqMask (by repeat' (first | exact Off.refl _ _ | refine Off.u rfl ?_ | refine Off.m rfl ?_)))⟩
    · replace h := M.iteF h hb16
      refine Dw.exit (Th.e (Th.e (InB.e (Th.m (Dw.region (Dl.q (Y.mv (v := (Sl.val q5.1)) rfl rfl) (Dl.q (Y.mv (v := (vI q8)) rfl rfl) ?_)))))))
      refine Dl.n (N.mkS rfl Try.runUnderlying24 Try.sizeOf3 Try.zeroValue3 h rfl rfl rfl rfl rfl fun b14 _ h => ?_)
      obtain ⟨s15, w, ha, h⟩ := h
      refine Dl.n (N.blt rfl rfl (fun _ => rfl) ha ?_)
      refine Dl.q (Y.asg (v := (Sl.val s15)) rfl rfl) (Dl.nil (InB.m (Th.m (Dw.region (Dl.q (Y.mv (v := (vI q5.2)) rfl rfl) (Dl.q (Y.add rfl rfl rfl) (Dl.q (Y.asg (v := (vI (wI (q5.2 + 1)))) rfl rfl) (Dl.nil ?_))))))))
      exact Th.m ⟨_, h, _, eqUpd rfl (eqUpd rfl (eqMask (by repeat' (first | exact Off.refl _ _ | refine Off.u rfl ?_ | refine Off.m rfl ?_))))⟩
  · replace h := M.iteF h hb18
    refine Dw.exit (Th.e (Th.e (InB.e (Th.m (Dw.seq (Dw.region (Dl.q (Y.mv (v := (Sl.val q5.1)) rfl rfl) ?_)))))))
    refine Dl.n (N.call rfl Try.call67 rfl h ?_)
    intro r17 w h
    refine Dl.q (Y.asg (v := (Sl.val r17)) rfl rfl) (Dl.nil (Th.m (Dw.ret ?_)))
    exact fin1 rfl ⟨_, rfl, h⟩
set_option maxHeartbeats 1000000 in
set_option maxRecDepth 20000 in
theorem r25_many {p0 : Sl} {w : World} {R : Int → World → Prop} (h : S.r25_many p0 w R) : Calls Try.prog 37 [(Sl.val p0)].toArray w (Ret vI R) := by
  refine calls_of Try.func37 rfl rfl rfl (by kernel_rfl) rfl ?_
  unfold S.r25_many at h
  refine Dw.seq (Dw.region (Dl.q (Y.asg (v := (vI 0)) rfl rfl) (Dl.nil (Th.m (Dw.seq (Dw.region (Dl.q (Y.mv (v := (Sl.val p0)) rfl rfl) ?_)))))))
  refine Dl.n (N.call rfl Try.call67 rfl h ?_)
  intro r1 w h
  refine Dl.q (Y.asg (v := (Sl.val r1)) rfl rfl) (Dl.nil (Th.m (Dw.seq (Dw.region (Dl.q (Y.asg (v := (vI (-1))) rfl rfl) (Dl.nil (Th.m (Dw.seq (Dw.seq (Dw.region (Dl.q (Y.asg (v := (vI 0)) rfl rfl) (Dl.nil ?_))))))))))))
  refine Th.m (Dw.block ?_)
  refine Dw.loopM (fun s j r => upd (upd (mask r j 1048368) 4 (vI s.1)) 5 (vI s.2)) h ⟨_, eqUpd rfl (eqUpd rfl (eqMask (by repeat' (first | exact Off.refl _ _ | refine Off.u rfl ?_ | refine Off.m rfl ?_))))⟩ ?_
  intro I m q2 j w h
  refine Dw.seq (Dw.seq (Dw.region (Dl.q (Y.mv (v := (vI q2.2)) rfl rfl) (Dl.q (Y.mv (v := (Sl.val r1)) rfl rfl) (Dl.q (Y.len rfl Try.runUnderlying24 rfl) (Dl.q (Y.lss rfl rfl rfl) (Dl.nil (Th.m ?_))))))))
  refine Dw.cond rfl (fun hb6 => ?_) (fun hb6 => ?_)
  · replace h := M.iteT h hb6
    refine Dw.skip (Th.m (Dw.seq (Dw.block (Dw.region (Dl.q (Y.mv (v := (vI q2.1)) rfl rfl) (Dl.q (Y.mv (v := (Sl.val r1)) rfl rfl) (Dl.q (Y.mv (v := (vI q2.2)) rfl rfl) ?_)))))))
    obtain ⟨a4, a40, ha, hi, he, h⟩ := h
    refine Dl.q (Y.ix rfl Try.runUnderlying24 Try.sizeOf3 rfl rfl ha hi he) ?_
    obtain ⟨x5, hcx5, h⟩ := h
    refine Dl.q (Y.ld rfl Try.isAgg3 rfl hcx5) (Dl.q (Y.max rfl rfl rfl) (Dl.q (Y.asg (v := (vI (if x5 > q2.1 then x5 else q2.1))) rfl rfl) (Dl.nil (InB.m (Th.m (Dw.region (Dl.q (Y.mv (v := (vI q2.2)) rfl rfl) (Dl.q (Y.add rfl rfl rfl) (Dl.q (Y.asg (v := (vI (wI (q2.2 + 1)))) rfl rfl) (Dl.nil ?_))))))))))
    exact Th.m ⟨_, h, _, eqUpd rfl (eqUpd rfl (eqMask (by repeat' (first | exact Off.refl _ _ | refine Off.u rfl ?_ | refine Off.m rfl ?_))))⟩
  · replace h := M.iteF h hb6
    refine Dw.exit (Th.e (Th.e (InB.e (Th.m (Dw.seq (Dw.region (Dl.q (Y.mv (v := (vI q2.1)) rfl rfl) (Dl.q (Y.add rfl rfl rfl) (Dl.q (Y.asg (v := (vI (wI (q2.1 + 1)))) rfl rfl) (Dl.nil (Th.m (Dw.ret ?_))))))))))))
    exact fin1 rfl ⟨_, rfl, h⟩
set_option maxHeartbeats 1000000 in
set_option maxRecDepth 20000 in
theorem r20_Texts {p0 : Sl} {p1 : Sl} {w : World} {R : Bool → World → Prop} (h : S.r20_Texts p0 p1 w R) : Calls Try.prog 38 [(Sl.val p0), (Sl.val p1)].toArray w (Ret Value.bool R) := by
  refine calls_of Try.func38 rfl rfl rfl (by kernel_rfl) rfl ?_
  unfold S.r20_Texts at h
  refine Dw.seq (Dw.region (Dl.q (Y.asg (v := (Value.bool false)) rfl rfl) (Dl.nil (Th.m (Dw.seq (Dw.seq (Dw.region (Dl.q (Y.mv (v := (Sl.val p0)) rfl rfl) (Dl.q (Y.len rfl Try.runUnderlying25 rfl) (Dl.q (Y.mv (v := (Sl.val p1)) rfl rfl) (Dl.q (Y.len rfl Try.runUnderlying25 rfl) (Dl.q (Y.neI rfl rfl rfl) ?_))))))))))))
  refine Dl.nil (Th.m ?_)
  refine Dw.cond rfl (fun hb9 => ?_) (fun hb9 => ?_)
  · replace h := M.iteT h hb9
    refine Dw.seq (Dw.region (Dl.q (Y.asg (v := (Value.bool false)) rfl rfl) (Dl.nil (Th.m (Dw.ret (Th.r ?_))))))
    exact fin1 rfl ⟨_, rfl, h⟩
  · replace h := M.iteF h hb9
    refine Dw.skip (Th.m (Dw.seq (Dw.seq (Dw.region (Dl.q (Y.asg (v := (vI 0)) rfl rfl) (Dl.nil (Th.m (Dw.block ?_))))))))
    refine Dw.loopM (fun s j r => upd (mask r j 67106864) 5 (vI s)) h ⟨_, eqUpd rfl (eqMask (by repeat' (first | exact Off.refl _ _ | refine Off.u rfl ?_ | refine Off.m rfl ?_)))⟩ ?_
    intro I m q1 j w h
    refine Dw.seq (Dw.seq (Dw.region (Dl.q (Y.mv (v := (vI q1)) rfl rfl) (Dl.q (Y.mv (v := (Sl.val p0)) rfl rfl) (Dl.q (Y.len rfl Try.runUnderlying25 rfl) (Dl.q (Y.lss rfl rfl rfl) (Dl.nil (Th.m ?_))))))))
    refine Dw.cond rfl (fun hb8 => ?_) (fun hb8 => ?_)
    · replace h := M.iteT h hb8
      refine Dw.skip (Th.m (Dw.seq (Dw.block (Dw.seq (Dw.game (by kernel_rfl) ?_)))))
      replace h := M.drew_un h
      generalize World.drew _ = w at h ⊢
      refine Gm.pure 0 rfl (by kernel_rfl) (fun _ => Y.mv (v := (Sl.val p0)) rfl rfl) (Gm.pure 1 rfl (by kernel_rfl) (fun _ => Y.mv (v := (vI q1)) rfl rfl) ?_)
      obtain ⟨a3, a30, ha, hi, he, h⟩ := h
      refine Gm.pure 2 rfl (by kernel_rfl) (fun _ => Y.ix rfl Try.runUnderlying25 Try.sizeOf9 rfl rfl ha hi he) ?_
      obtain ⟨x4, hcx4, h⟩ := h
      refine Gm.quiet 3 rfl (by kernel_rfl) (fun _ hw => Y.ld rfl Try.isAgg9 rfl hw) hcx4 (Gm.pure 4 rfl (by kernel_rfl) (fun _ => Y.mv (v := (Sl.val p1)) rfl rfl) (Gm.pure 5 rfl (by kernel_rfl) (fun _ => Y.mv (v := (vI q1)) rfl rfl) ?_))
      obtain ⟨a5, a50, ha, hi, he, h⟩ := h
      refine Gm.pure 6 rfl (by kernel_rfl) (fun _ => Y.ix rfl Try.runUnderlying25 Try.sizeOf9 rfl rfl ha hi he) ?_
      obtain ⟨x6, hcx6, h⟩ := h
      refine Gm.quiet 7 rfl (by kernel_rfl) (fun _ hw => Y.ld rfl Try.isAgg9 rfl hw) hcx6 (Gm.pure 8 rfl (by kernel_rfl) (fun _ => Y.neS rfl rfl rfl) (Gm.end (by kernel_rfl) (Th.m ?_)))
      refine Dw.cond rfl (fun hb7 => ?_) (fun hb7 => ?_)
      · replace h := M.iteT h hb7
        refine Dw.seq (Dw.region (Dl.q (Y.asg (v := (Value.bool false)) rfl rfl) (Dl.nil (Th.m (Dw.ret (InB.r (Th.r (Th.r (InB.r (Th.r ?_))))))))))
        exact fin1 rfl ⟨_, rfl, h⟩
      · replace h := M.iteF h hb7
        refine Dw.skip (InB.m (Th.m (Dw.region (Dl.q (Y.mv (v := (vI q1)) rfl rfl) (Dl.q (Y.add rfl rfl rfl) (Dl.q (Y.asg (v := (vI (wI (q1 + 1)))) rfl rfl) (Dl.nil ?_)))))))
        exact Th.m ⟨_, h, _, eqUpd rfl (eqMask (by repeat' (first | exact Off.refl _ _ | refine Off.u rfl ?_ | refine Off.m rfl ?_)))⟩
    · replace h := M.iteF h hb8
      refine Dw.exit (Th.e (Th.e (InB.e (Th.m (Dw.seq (Dw.region (Dl.q (Y.asg (v := (Value.bool true)) rfl rfl) (Dl.nil (Th.m (Dw.ret ?_))))))))))
      exact fin1 rfl ⟨_, rfl, h⟩
set_option maxHeartbeats 1000000 in
set_option maxRecDepth 20000 in
theorem moore_After {p0 : Dfv} {p1 : Int} {w : World} {R : Sl → World → Prop} (h : S.moore_After p0 p1 w R) : Calls Try.prog 39 [(.agg (Dfv.cs p0).toArray), (vI p1)].toArray w (Ret Sl.val R) := by
  refine calls_of Try.func39 rfl rfl rfl (by kernel_rfl) rfl ?_
  unfold S.moore_After at h
  refine Dw.seq (Dw.region ?_)
  refine Dl.n (N.box rfl h rfl rfl fun b1 _ h => ?_)
  refine Dl.q (Y.asg (v := (Sl.val Sl.nil)) rfl rfl) (Dl.nil (Th.m (Dw.seq (Dw.region ?_))))
  obtain ⟨v2, hcv2, h⟩ := h
  refine Dl.q (Y.ldA rfl Try.isAgg27 Try.sizeOf27 (Dfv_len _) rfl hcv2) (Dl.q (Y.mv (v := (vI p1)) rfl rfl) ?_)
  refine Dl.n (N.call rfl Try.call69 rfl h ?_)
  intro r3 w h
  refine Dl.q (Y.mv (v := (.tuple #[(vI r3.1), (Sl.val r3.2)])) rfl rfl) (Dl.q (Y.ext rfl rfl rfl) (Dl.q (Y.ext rfl rfl rfl) (Dl.q (Y.asg (v := (vI r3.1)) rfl rfl) (Dl.q (Y.asg (v := (Sl.val r3.2)) rfl rfl) (Dl.nil (Th.m (Dw.seq (Dw.region (Dl.q (Y.mv (v := (Sl.val r3.2)) rfl rfl) (Dl.q (Y.asg (v := (Sl.val r3.2)) rfl rfl) (Dl.nil (Th.m ?_))))))))))))
  refine Dw.ret ?_
  exact fin1 rfl ⟨_, rfl, h⟩
set_option maxHeartbeats 1000000 in
set_option maxRecDepth 20000 in
theorem dfa_Tell {p0 : Dfv} {p1 : Sl} {w : World} {R : Int → World → Prop} (h : S.dfa_Tell p0 p1 w R) : Calls Try.prog 40 [(.agg (Dfv.cs p0).toArray), (Sl.val p1)].toArray w (Ret vI R) := by
  refine calls_of Try.func40 rfl rfl rfl (by kernel_rfl) rfl ?_
  unfold S.dfa_Tell at h
  refine Dw.seq (Dw.region ?_)
  refine Dl.n (N.box rfl h rfl rfl fun b1 _ h => ?_)
  refine Dl.q (Y.asg (v := (vI 0)) rfl rfl) (Dl.nil (Th.m (Dw.seq (Dw.region ?_))))
  obtain ⟨v2, hcv2, h⟩ := h
  refine Dl.q (Y.ldA rfl Try.isAgg27 Try.sizeOf27 (Dfv_len _) rfl hcv2) (Dl.q (Y.mv (v := (Sl.val p1)) rfl rfl) ?_)
  refine Dl.n (N.call rfl Try.call70 rfl h ?_)
  intro r3 w h
  refine Dl.q (Y.asg (v := (vI r3)) rfl rfl) (Dl.nil (Th.m (Dw.seq (Dw.seq (Dw.region (Dl.q (Y.mv (v := (vI r3)) rfl rfl) (Dl.q (Y.lss rfl rfl rfl) (Dl.nil (Th.m ?_)))))))))
  refine Dw.cond rfl (fun hb7 => ?_) (fun hb7 => ?_)
  · replace h := M.iteT h hb7
    refine Dw.seq (Dw.region (Dl.q (Y.asg (v := (vI 0)) rfl rfl) (Dl.nil (Th.m (Dw.ret (Th.r ?_))))))
    exact fin1 rfl ⟨_, rfl, h⟩
  · replace h := M.iteF h hb7
    refine Dw.skip (Th.m (Dw.seq (Dw.region (Dl.q (Y.fa 258 rfl Try.runUnderlying27 rfl Try.sizeOf24 (by decide) rfl rfl) ?_))))
    obtain ⟨x4, hcx4, h⟩ := h
    refine Dl.q (Y.ld rfl Try.isAgg24 rfl hcx4) (Dl.q (Y.mv (v := (vI r3)) rfl rfl) ?_)
    obtain ⟨a5, a50, ha, hi, he, h⟩ := h
    refine Dl.q (Y.ix rfl Try.runUnderlying24 Try.sizeOf3 rfl rfl ha hi he) ?_
    obtain ⟨x6, hcx6, h⟩ := h
    refine Dl.q (Y.ld rfl Try.isAgg3 rfl hcx6) (Dl.q (Y.asg (v := (vI x6)) rfl rfl) (Dl.nil (Th.m (Dw.ret ?_))))
    exact fin1 rfl ⟨_, rfl, h⟩
set_option maxHeartbeats 1000000 in
set_option maxRecDepth 20000 in
theorem slices_Equal_Lintint {p0 : Sl} {p1 : Sl} {w : World} {R : Bool → World → Prop} (h : S.slices_Equal_Lintint p0 p1 w R) : Calls Try.prog 41 [(Sl.val p0), (Sl.val p1)].toArray w (Ret Value.bool R) := by
  refine calls_of Try.func41 rfl rfl rfl (by kernel_rfl) rfl ?_
  unfold S.slices_Equal_Lintint at h
  refine Dw.seq (Dw.region (Dl.q (Y.asg (v := (Value.bool false)) rfl rfl) (Dl.nil (Th.m (Dw.seq (Dw.seq (Dw.region (Dl.q (Y.mv (v := (Sl.val p0)) rfl rfl) (Dl.q (Y.len rfl Try.runUnderlying24 rfl) (Dl.q (Y.mv (v := (Sl.val p1)) rfl rfl) (Dl.q (Y.len rfl Try.runUnderlying24 rfl) (Dl.q (Y.neI rfl rfl rfl) ?_))))))))))))
  refine Dl.nil (Th.m ?_)
  refine Dw.cond rfl (fun hb9 => ?_) (fun hb9 => ?_)
  · replace h := M.iteT h hb9
    refine Dw.seq (Dw.region (Dl.q (Y.asg (v := (Value.bool false)) rfl rfl) (Dl.nil (Th.m (Dw.ret (Th.r ?_))))))
    exact fin1 rfl ⟨_, rfl, h⟩
  · replace h := M.iteF h hb9
    refine Dw.skip (Th.m (Dw.seq (Dw.seq (Dw.region (Dl.q (Y.mv (v := (Sl.val p0)) rfl rfl) (Dl.q (Y.len rfl Try.runUnderlying24 rfl) (Dl.q (Y.mv (v := (vI 0)) rfl rfl) (Dl.nil (Th.m (Dw.block ?_))))))))))
    refine Dw.loopM (fun s j r => upd (mask r j 67100720) 13 (vI s)) h ⟨_, eqUpd rfl (eqMask (by repeat' (first | exact Off.refl _ _ | refine Off.u rfl ?_ | refine Off.m rfl ?_)))⟩ ?_
    intro I m q1 j w h
    refine Dw.seq (Dw.region (Dl.q (Y.lss rfl rfl rfl) (Dl.nil (Th.m (Dw.seq ?_)))))
    refine Dw.cond rfl (fun hb8 => ?_) (fun hb8 => ?_)
    · replace h := M.iteT h hb8
      refine Dw.skip (Th.m (Dw.seq (Dw.block (Dw.seq (Dw.region (Dl.q (Y.mv (v := (vI q1)) rfl rfl) (Dl.q (Y.asg (v := (vI q1)) rfl rfl) (Dl.nil (Th.m (Dw.seq (Dw.game (by kernel_rfl) ?_)))))))))))
      replace h := M.drew_un h
      generalize World.drew _ = w at h ⊢
      refine Gm.pure 0 rfl (by kernel_rfl) (fun _ => Y.mv (v := (Sl.val p0)) rfl rfl) (Gm.pure 1 rfl (by kernel_rfl) (fun _ => Y.mv (v := (vI q1)) rfl rfl) ?_)
      obtain ⟨a3, a30, ha, hi, he, h⟩ := h
      refine Gm.pure 2 rfl (by kernel_rfl) (fun _ => Y.ix rfl Try.runUnderlying24 Try.sizeOf3 rfl rfl ha hi he) ?_
      obtain ⟨x4, hcx4, h⟩ := h
      refine Gm.quiet 3 rfl (by kernel_rfl) (fun _ hw => Y.ld rfl Try.isAgg3 rfl hw) hcx4 (Gm.pure 4 rfl (by kernel_rfl) (fun _ => Y.mv (v := (Sl.val p1)) rfl rfl) (Gm.pure 5 rfl (by kernel_rfl) (fun _ => Y.mv (v := (vI q1)) rfl rfl) ?_))
      obtain ⟨a5, a50, ha, hi, he, h⟩ := h
      refine Gm.pure 6 rfl (by kernel_rfl) (fun _ => Y.ix rfl Try.runUnderlying24 Try.sizeOf3 rfl rfl ha hi he) ?_
      obtain ⟨x6, hcx6, h⟩ := h
      refine Gm.quiet 7 rfl (by kernel_rfl) (fun _ hw => Y.ld rfl Try.isAgg3 rfl hw) hcx6 (Gm.pure 8 rfl (by kernel_rfl) (fun _ => Y.neI rfl rfl rfl) (Gm.end (by kernel_rfl) (Th.m ?_)))
      refine Dw.cond rfl (fun hb7 => ?_) (fun hb7 => ?_)
      · replace h := M.iteT h hb7
        refine Dw.seq (Dw.region (Dl.q (Y.asg (v := (Value.bool false)) rfl rfl) (Dl.nil (Th.m (Dw.ret (InB.r (Th.r (Th.r (InB.r (Th.r ?_))))))))))
        exact fin1 rfl ⟨_, rfl, h⟩
      · replace h := M.iteF h hb7
        refine Dw.skip (InB.m (Th.m (Dw.region (Dl.q (Y.add rfl rfl rfl) (Dl.q (Y.mv (v := (vI (wI (q1 + 1)))) rfl rfl) (Dl.nil ?_))))))
        exact Th.m ⟨_, h, _, eqUpd rfl (eqMask (by repeat' (first | exact Off.refl _ _ | refine Off.u rfl ?_ | refine Off.m rfl ?_)))⟩
    · replace h := M.iteF h hb8
      refine Dw.exit (Th.e (Th.e (InB.e (Th.m (Dw.seq (Dw.region (Dl.q (Y.asg (v := (Value.bool true)) rfl rfl) (Dl.nil (Th.m (Dw.ret ?_))))))))))
      exact fin1 rfl ⟨_, rfl, h⟩
set_option maxHeartbeats 1000000 in
set_option maxRecDepth 20000 in
theorem slices_Equal_Lstringstring {p0 : Sl} {p1 : Sl} {w : World} {R : Bool → World → Prop} (h : S.slices_Equal_Lstringstring p0 p1 w R) : Calls Try.prog 42 [(Sl.val p0), (Sl.val p1)].toArray w (Ret Value.bool R) := by
  refine calls_of Try.func42 rfl rfl rfl (by kernel_rfl) rfl ?_
  unfold S.slices_Equal_Lstringstring at h
  refine Dw.seq (Dw.region (Dl.q (Y.asg (v := (Value.bool false)) rfl rfl) (Dl.nil (Th.m (Dw.seq (Dw.seq (Dw.region (Dl.q (Y.mv (v := (Sl.val p0)) rfl rfl) (Dl.q (Y.len rfl Try.runUnderlying25 rfl) (Dl.q (Y.mv (v := (Sl.val p1)) rfl rfl) (Dl.q (Y.len rfl Try.runUnderlying25 rfl) (Dl.q (Y.neI rfl rfl rfl) ?_))))))))))))
  refine Dl.nil (Th.m ?_)
  refine Dw.cond rfl (fun hb9 => ?_) (fun hb9 => ?_)
  · replace h := M.iteT h hb9
    refine Dw.seq (Dw.region (Dl.q (Y.asg (v := (Value.bool false)) rfl rfl) (Dl.nil (Th.m (Dw.ret (Th.r ?_))))))
    exact fin1 rfl ⟨_, rfl, h⟩
  · replace h := M.iteF h hb9
    refine Dw.skip (Th.m (Dw.seq (Dw.seq (Dw.region (Dl.q (Y.mv (v := (Sl.val p0)) rfl rfl) (Dl.q (Y.len rfl Try.runUnderlying25 rfl) (Dl.q (Y.mv (v := (vI 0)) rfl rfl) (Dl.nil (Th.m (Dw.block ?_))))))))))
    refine Dw.loopM (fun s j r => upd (mask r j 67100720) 13 (vI s)) h ⟨_, eqUpd rfl (eqMask (by repeat' (first | exact Off.refl _ _ | refine Off.u rfl ?_ | refine Off.m rfl ?_)))⟩ ?_
    intro I m q1 j w h
    refine Dw.seq (Dw.region (Dl.q (Y.lss rfl rfl rfl) (Dl.nil (Th.m (Dw.seq ?_)))))
    refine Dw.cond rfl (fun hb8 => ?_) (fun hb8 => ?_)
    · replace h := M.iteT h hb8
      refine Dw.skip (Th.m (Dw.seq (Dw.block (Dw.seq (Dw.region (Dl.q (Y.mv (v := (vI q1)) rfl rfl) (Dl.q (Y.asg (v := (vI q1)) rfl rfl) (Dl.nil (Th.m (Dw.seq (Dw.game (by kernel_rfl) ?_)))))))))))
      replace h := M.drew_un h
      generalize World.drew _ = w at h ⊢
      refine Gm.pure 0 rfl (by kernel_rfl) (fun _ => Y.mv (v := (Sl.val p0)) rfl rfl) (Gm.pure 1 rfl (by kernel_rfl) (fun _ => Y.mv (v := (vI q1)) rfl rfl) ?_)
      obtain ⟨a3, a30, ha, hi, he, h⟩ := h
      refine Gm.pure 2 rfl (by kernel_rfl) (fun _ => Y.ix rfl Try.runUnderlying25 Try.sizeOf9 rfl rfl ha hi he) ?_
      obtain ⟨x4, hcx4, h⟩ := h
      refine Gm.quiet 3 rfl (by kernel_rfl) (fun _ hw => Y.ld rfl Try.isAgg9 rfl hw) hcx4 (Gm.pure 4 rfl (by kernel_rfl) (fun _ => Y.mv (v := (Sl.val p1)) rfl rfl) (Gm.pure 5 rfl (by kernel_rfl) (fun _ => Y.mv (v := (vI q1)) rfl rfl) ?_))
      obtain ⟨a5, a50, ha, hi, he, h⟩ := h
      refine Gm.pure 6 rfl (by kernel_rfl) (fun _ => Y.ix rfl Try.runUnderlying25 Try.sizeOf9 rfl rfl ha hi he) ?_
      obtain ⟨x6, hcx6, h⟩ := h
      refine Gm.quiet 7 rfl (by kernel_rfl) (fun _ hw => Y.ld rfl Try.isAgg9 rfl hw) hcx6 (Gm.pure 8 rfl (by kernel_rfl) (fun _ => Y.neS rfl rfl rfl) (Gm.end (by kernel_rfl) (Th.m ?_)))
      refine Dw.cond rfl (fun hb7 => ?_) (fun hb7 => ?_)
      · replace h := M.iteT h hb7
        refine Dw.seq (Dw.region (Dl.q (Y.asg (v := (Value.bool false)) rfl rfl) (Dl.nil (Th.m (Dw.ret (InB.r (Th.r (Th.r (InB.r (Th.r ?_))))))))))
        exact fin1 rfl ⟨_, rfl, h⟩
      · replace h := M.iteF h hb7
        refine Dw.skip (InB.m (Th.m (Dw.region (Dl.q (Y.add rfl rfl rfl) (Dl.q (Y.mv (v := (vI (wI (q1 + 1)))) rfl rfl) (Dl.nil ?_))))))
        exact Th.m ⟨_, h, _, eqUpd rfl (eqMask (by repeat' (first | exact Off.refl _ _ | refine Off.u rfl ?_ | refine Off.m rfl ?_)))⟩
    · replace h := M.iteF h hb8
      refine Dw.exit (Th.e (Th.e (InB.e (Th.m (Dw.seq (Dw.region (Dl.q (Y.asg (v := (Value.bool true)) rfl rfl) (Dl.nil (Th.m (Dw.ret ?_))))))))))
      exact fin1 rfl ⟨_, rfl, h⟩
set_option maxHeartbeats 1000000 in
set_option maxRecDepth 20000 in
theorem slices_EqualFunc_LLintLLintLintLint {p0 : Sl} {p1 : Sl} {p2 : Value} {w : World} {R : Bool → World → Prop} (h : S.slices_EqualFunc_LLintLLintLintLint p0 p1 p2 w R) : Calls Try.prog 43 [(Sl.val p0), (Sl.val p1), p2].toArray w (Ret Value.bool R) := by
  refine calls_of Try.func43 rfl rfl rfl (by kernel_rfl) rfl ?_
  unfold S.slices_EqualFunc_LLintLLintLintLint at h
  refine Dw.seq (Dw.region (Dl.q (Y.asg (v := (Value.bool false)) rfl rfl) (Dl.nil (Th.m (Dw.seq (Dw.seq (Dw.region (Dl.q (Y.mv (v := (Sl.val p0)) rfl rfl) (Dl.q (Y.len rfl Try.runUnderlying23 rfl) (Dl.q (Y.mv (v := (Sl.val p1)) rfl rfl) (Dl.q (Y.len rfl Try.runUnderlying23 rfl) (Dl.q (Y.neI rfl rfl rfl) ?_))))))))))))
  refine Dl.nil (Th.m ?_)
  refine Dw.cond rfl (fun hb10 => ?_) (fun hb10 => ?_)
  · replace h := M.iteT h hb10
    refine Dw.seq (Dw.region (Dl.q (Y.asg (v := (Value.bool false)) rfl rfl) (Dl.nil (Th.m (Dw.ret (Th.r ?_))))))
    exact fin1 rfl ⟨_, rfl, h⟩
  · replace h := M.iteF h hb10
    refine Dw.skip (Th.m (Dw.seq (Dw.seq (Dw.region (Dl.q (Y.mv (v := (Sl.val p0)) rfl rfl) (Dl.q (Y.len rfl Try.runUnderlying23 rfl) (Dl.q (Y.mv (v := (vI 0)) rfl rfl) (Dl.nil (Th.m (Dw.block ?_))))))))))
    refine Dw.loopM (fun s j r => upd (mask r j 4294837184) 17 (vI s)) h ⟨_, eqUpd rfl (eqMask (by repeat' (first | exact Off.refl _ _ | refine Off.u rfl ?_ | refine Off.m rfl ?_)))⟩ ?_
    intro I m q1 j w h
    refine Dw.seq (Dw.region (Dl.q (Y.lss rfl rfl rfl) (Dl.nil (Th.m (Dw.seq ?_)))))
    refine Dw.cond rfl (fun hb9 => ?_) (fun hb9 => ?_)
    · replace h := M.iteT h hb9
      refine Dw.skip (Th.m (Dw.seq (Dw.block (Dw.seq (Dw.region (Dl.q (Y.mv (v := (vI q1)) rfl rfl) ?_))))))
      obtain ⟨a3, a30, ha, hi, he, h⟩ := h
      refine Dl.q (Y.ix rfl Try.runUnderlying23 Try.sizeOf24 rfl rfl ha hi he) ?_
      obtain ⟨x4, hcx4, h⟩ := h
      refine Dl.q (Y.ld rfl Try.isAgg24 rfl hcx4) (Dl.q (Y.asg (v := (vI q1)) rfl rfl) (Dl.q (Y.asg (v := (Sl.val x4)) rfl rfl) (Dl.nil (Th.m (Dw.seq (Dw.region (Dl.q (Y.mv (v := (Sl.val p1)) rfl rfl) (Dl.q (Y.mv (v := (vI q1)) rfl rfl) ?_))))))))
      obtain ⟨a5, a50, ha, hi, he, h⟩ := h
      refine Dl.q (Y.ix rfl Try.runUnderlying23 Try.sizeOf24 rfl rfl ha hi he) ?_
      obtain ⟨x6, hcx6, h⟩ := h
      refine Dl.q (Y.ld rfl Try.isAgg24 rfl hcx6) (Dl.q (Y.asg (v := (Sl.val x6)) rfl rfl) (Dl.nil (Th.m (Dw.seq (Dw.region (Dl.q (Y.mv (v := p2) rfl rfl) (Dl.q (Y.mv (v := (Sl.val x4)) rfl rfl) (Dl.q (Y.mv (v := (Sl.val x6)) rfl rfl) ?_))))))))
      refine Dl.n (N.callv rfl rfl rfl h ?_)
      intro r7 w h
      refine Dl.q (Y.not rfl rfl) (Dl.nil (Th.m ?_))
      refine Dw.cond rfl (fun hb8 => ?_) (fun hb8 => ?_)
      · replace h := M.iteT h hb8
        refine Dw.seq (Dw.region (Dl.q (Y.asg (v := (Value.bool false)) rfl rfl) (Dl.nil (Th.m (Dw.ret (InB.r (Th.r (Th.r (InB.r (Th.r ?_))))))))))
        exact fin1 rfl ⟨_, rfl, h⟩
      · replace h := M.iteF h hb8
        refine Dw.skip (InB.m (Th.m (Dw.region (Dl.q (Y.add rfl rfl rfl) (Dl.q (Y.mv (v := (vI (wI (q1 + 1)))) rfl rfl) (Dl.nil ?_))))))
        exact Th.m ⟨_, h, _, eqUpd rfl (eqMask (by repeat' (first | exact Off.refl _ _ | refine Off.u rfl ?_ | refine Off.m rfl ?_)))⟩
    · replace h := M.iteF h hb9
      refine Dw.exit (Th.e (Th.e (InB.e (Th.m (Dw.seq (Dw.region (Dl.q (Y.asg (v := (Value.bool true)) rfl rfl) (Dl.nil (Th.m (Dw.ret ?_))))))))))
      exact fin1 rfl ⟨_, rfl, h⟩
set_option maxHeartbeats 1000000 in
set_option maxRecDepth 20000 in
theorem dfa_walk {p0 : Int} {p1 : Sl} {p2 : Value} {w : World} {R : Value → World → Prop} (h : S.dfa_walk p0 p1 p2 w R) : Calls Try.prog 44 [(vI p0), (Sl.val p1), p2].toArray w (Ret (fun v : Value => v) R) := by
  refine calls_of Try.func44 rfl rfl rfl (by kernel_rfl) rfl ?_
  unfold S.dfa_walk at h
  refine Dw.seq (Dw.region ?_)
  refine Dl.n (N.box rfl h rfl rfl fun b1 _ h => ?_)
  refine Dl.n (N.box rfl h rfl rfl fun b2 _ h => ?_)
  obtain ⟨hcl, h⟩ := h
  refine Dl.n (N.box rfl h rfl hcl fun b3 _ h => ?_)
  refine Dl.q (Y.asg (v := Value.nilFunc) rfl rfl) (Dl.nil (Th.m (Dw.seq (Dw.region (Dl.q (Y.mkF rfl rfl) (Dl.q (Y.asg (v := (.func (.func 71) #[] #[(vA b1), (vA b2), (vA b3)])) rfl rfl) (Dl.nil (Th.m (Dw.ret ?_)))))))))
  exact fin1 rfl ⟨_, rfl, h⟩
set_option maxHeartbeats 1000000 in
set_option maxRecDepth 20000 in
theorem dfa_Reach_c1 {p0 : Int} {c0 : Addr} {w : World} {R : Sl → World → Prop} (h : S.dfa_Reach_c1 p0 c0 w R) : Calls Try.prog 45 [(vI p0), (vA c0)].toArray w (Ret Sl.val R) := by
  refine calls_of Try.func45 rfl rfl rfl (by kernel_rfl) rfl ?_
  unfold S.dfa_Reach_c1 at h
  refine Dw.seq (Dw.region (Dl.q (Y.asg (v := (Sl.val Sl.nil)) rfl rfl) (Dl.nil (Th.m (Dw.seq (Dw.region (Dl.q (Y.fa 257 rfl Try.runUnderlying27 rfl Try.sizeOf23 (by decide) rfl rfl) ?_)))))))
  obtain ⟨x1, hcx1, h⟩ := h
  refine Dl.q (Y.ld rfl Try.isAgg23 rfl hcx1) (Dl.q (Y.mv (v := (vI p0)) rfl rfl) ?_)
  obtain ⟨a2, a20, ha, hi, he, h⟩ := h
  refine Dl.q (Y.ix rfl Try.runUnderlying23 Try.sizeOf24 rfl rfl ha hi he) ?_
  obtain ⟨x3, hcx3, h⟩ := h
  refine Dl.q (Y.ld rfl Try.isAgg24 rfl hcx3) (Dl.q (Y.asg (v := (Sl.val x3)) rfl rfl) (Dl.nil (Th.m (Dw.ret ?_))))
  exact fin1 rfl ⟨_, rfl, h⟩
set_option maxHeartbeats 1000000 in
set_option maxRecDepth 20000 in
theorem quotient_stable {p0 : Dfv} {p1 : Sl} {w : World} {R : Bool → World → Prop} (h : S.quotient_stable p0 p1 w R) : Calls Try.prog 46 [(.agg (Dfv.cs p0).toArray), (Sl.val p1)].toArray w (Ret Value.bool R) := by
  refine calls_of Try.func46 rfl rfl rfl (by kernel_rfl) rfl ?_
  unfold S.quotient_stable at h
  refine Dw.seq (Dw.region ?_)
  refine Dl.n (N.box rfl h rfl rfl fun b1 _ h => ?_)
  refine Dl.n (N.box rfl h rfl rfl fun b2 _ h => ?_)
  refine Dl.q (Y.asg (v := (Value.bool false)) rfl rfl) (Dl.nil (Th.m (Dw.seq (Dw.region ?_))))
  obtain ⟨x3, hcx3, h⟩ := h
  refine Dl.q (Y.ld rfl Try.isAgg24 rfl hcx3) ?_
  refine Dl.n (N.call rfl Try.call49 rfl h ?_)
  intro r4 w h
  refine Dl.q (Y.asg (v := (Sl.val r4)) rfl rfl) (Dl.nil (Th.m (Dw.seq (Dw.seq (Dw.region (Dl.q (Y.fa 257 rfl Try.runUnderlying27 rfl Try.sizeOf23 (by decide) rfl rfl) ?_))))))
  obtain ⟨x5, hcx5, h⟩ := h
  refine Dl.q (Y.ld rfl Try.isAgg23 rfl hcx5) (Dl.q (Y.len rfl Try.runUnderlying23 rfl) (Dl.q (Y.mv (v := (vI 0)) rfl rfl) (Dl.nil (Th.m (Dw.block ?_)))))
  refine Dw.loopM (fun s j r => upd (mask r j 2251799813653456) 15 (vI s)) h ⟨_, eqUpd rfl (eqMask (by repeat' (first | exact Off.refl _ _ | refine Off.u rfl ?_ | refine Off.m rfl ?_)))⟩ ?_
  intro I m q6 j w h
  refine Dw.seq (Dw.region (Dl.q (Y.lss rfl rfl rfl) (Dl.nil (Th.m (Dw.seq ?_)))))
  refine Dw.cond rfl (fun hb34 => ?_) (fun hb34 => ?_)
  · replace h := M.iteT h hb34
    refine Dw.skip (Th.m (Dw.seq (Dw.block (Dw.seq (Dw.region (Dl.q (Y.mv (v := (vI q6)) rfl rfl) ?_))))))
    obtain ⟨a8, a80, ha, hi, he, h⟩ := h
    refine Dl.q (Y.ix rfl Try.runUnderlying23 Try.sizeOf24 rfl rfl ha hi he) ?_
    obtain ⟨x9, hcx9, h⟩ := h
    refine Dl.q (Y.ld rfl Try.isAgg24 rfl hcx9) (Dl.q (Y.asg (v := (vI q6)) rfl rfl) (Dl.q (Y.asg (v := (Sl.val x9)) rfl rfl) (Dl.nil (Th.m (Dw.seq (Dw.region (Dl.q (Y.mv (v := (Sl.val r4)) rfl rfl) ?_)))))))
    obtain ⟨x10, hcx10, h⟩ := h
    refine Dl.q (Y.ld rfl Try.isAgg24 rfl hcx10) (Dl.q (Y.mv (v := (vI q6)) rfl rfl) ?_)
    obtain ⟨a11, a110, ha, hi, he, h⟩ := h
    refine Dl.q (Y.ix rfl Try.runUnderlying24 Try.sizeOf3 rfl rfl ha hi he) ?_
    obtain ⟨x12, hcx12, h⟩ := h
    refine Dl.q (Y.ld rfl Try.isAgg3 rfl hcx12) ?_
    obtain ⟨a13, a130, ha, hi, he, h⟩ := h
    refine Dl.q (Y.ix rfl Try.runUnderlying24 Try.sizeOf3 rfl rfl ha hi he) ?_
    obtain ⟨x14, hcx14, h⟩ := h
    refine Dl.q (Y.ld rfl Try.isAgg3 rfl hcx14) (Dl.q (Y.asg (v := (vI x14)) rfl rfl) (Dl.nil (Th.m (Dw.seq (Dw.region (Dl.q (Y.mkF rfl rfl) (Dl.q (Y.asg (v := (.func (.func 73) #[] #[(vA b2)])) rfl rfl) (Dl.nil (Th.m ?_)))))))))
    refine Dw.joinM (fun s j r => upd (mask r j 1125899638407168) 49 (Value.bool s)) h (fun C h => ?_) (fun q32 j w h => ?_)
    · refine Dw.game (by kernel_rfl) ?_
      replace h := M.drew_un h
      generalize World.drew _ = w at h ⊢
      refine Gm.pure 0 rfl (by kernel_rfl) (fun _ => Y.fa 258 rfl Try.runUnderlying27 rfl Try.sizeOf24 (by decide) rfl rfl) ?_
      obtain ⟨x16, hcx16, h⟩ := h
      refine Gm.quiet 1 rfl (by kernel_rfl) (fun _ hw => Y.ld rfl Try.isAgg24 rfl hw) hcx16 (Gm.pure 2 rfl (by kernel_rfl) (fun _ => Y.mv (v := (vI q6)) rfl rfl) ?_)
      obtain ⟨a17, a170, ha, hi, he, h⟩ := h
      refine Gm.pure 3 rfl (by kernel_rfl) (fun _ => Y.ix rfl Try.runUnderlying24 Try.sizeOf3 rfl rfl ha hi he) ?_
      obtain ⟨x18, hcx18, h⟩ := h
      refine Gm.quiet 4 rfl (by kernel_rfl) (fun _ hw => Y.ld rfl Try.isAgg3 rfl hw) hcx18 (Gm.pure 5 rfl (by kernel_rfl) (fun _ => Y.fa 258 rfl Try.runUnderlying27 rfl Try.sizeOf24 (by decide) rfl rfl) ?_)
      obtain ⟨x19, hcx19, h⟩ := h
      refine Gm.quiet 6 rfl (by kernel_rfl) (fun _ hw => Y.ld rfl Try.isAgg24 rfl hw) hcx19 (Gm.pure 7 rfl (by kernel_rfl) (fun _ => Y.mv (v := (vI x14)) rfl rfl) ?_)
      obtain ⟨a20, a200, ha, hi, he, h⟩ := h
      refine Gm.pure 8 rfl (by kernel_rfl) (fun _ => Y.ix rfl Try.runUnderlying24 Try.sizeOf3 rfl rfl ha hi he) ?_
      obtain ⟨x21, hcx21, h⟩ := h
      refine Gm.quiet 9 rfl (by kernel_rfl) (fun _ hw => Y.ld rfl Try.isAgg3 rfl hw) hcx21 (Gm.pure 10 rfl (by kernel_rfl) (fun _ => Y.neI rfl rfl rfl) (Gm.pure 11 rfl (by kernel_rfl) (fun _ => Y.mv (v := (Value.bool (!decide (x18 = x21)))) rfl rfl) ?_))
      refine M.split h (fun hb22 h => ?_) (fun hb22 h => ?_)
      · refine Gm.pure 12 rfl (by kernel_rfl) (fun _ => Y.skip (unwantG rfl rfl hb22)) (Gm.pure 13 rfl (by kernel_rfl) (fun _ => Y.skip (unwantG rfl rfl hb22)) (Gm.pure 14 rfl (by kernel_rfl) (fun _ => Y.skip (unwantG rfl rfl hb22)) (Gm.pure 15 rfl (by kernel_rfl) (fun _ => Y.skip (unwantG rfl rfl hb22)) (Gm.pure 16 rfl (by kernel_rfl) (fun _ => Y.skip (unwantG rfl rfl hb22)) (Gm.pure 17 rfl (by kernel_rfl) (fun _ => Y.skip (unwantG rfl rfl hb22)) (Gm.pure 18 rfl (by kernel_rfl) (fun _ => Y.skip (unwantG rfl rfl hb22)) (Gm.pure 19 rfl (by kernel_rfl) (fun _ => Y.skip (unwantG rfl rfl hb22)) (Gm.pure 20 rfl (by kernel_rfl) (fun _ => Y.skip (unwantG rfl rfl hb22)) (Gm.pure 21 rfl (by kernel_rfl) (fun _ => Y.pickT (v := (Value.bool true)) rfl rfl hb22 rfl) (Gm.end (by kernel_rfl) ?_))))))))))
        exact Th.m ⟨_, h, _, eqUpd rfl (eqMask (by repeat' (first | exact Off.refl _ _ | refine Off.u rfl ?_ | refine Off.m rfl ?_)))⟩
      · refine Gm.pure 12 rfl (by kernel_rfl) (fun _ => Y.mv (v := (Sl.val x9)) (wantG rfl rfl hb22) rfl) (Gm.pure 13 rfl (by kernel_rfl) (fun _ => Y.fa 257 (wantG rfl rfl hb22) Try.runUnderlying27 rfl Try.sizeOf23 (by decide) rfl rfl) ?_)
        obtain ⟨x23, hcx23, h⟩ := h
        refine Gm.quiet 14 rfl (by kernel_rfl) (fun _ hw => Y.ld (wantG rfl rfl hb22) Try.isAgg23 rfl hw) hcx23 (Gm.pure 15 rfl (by kernel_rfl) (fun _ => Y.mv (v := (vI x14)) (wantG rfl rfl hb22) rfl) ?_)
        obtain ⟨a24, a240, ha, hi, he, h⟩ := h
        refine Gm.pure 16 rfl (by kernel_rfl) (fun _ => Y.ix (wantG rfl rfl hb22) Try.runUnderlying23 Try.sizeOf24 rfl rfl ha hi he) ?_
        obtain ⟨x25, hcx25, h⟩ := h
        refine Gm.quiet 17 rfl (by kernel_rfl) (fun _ hw => Y.ld (wantG rfl rfl hb22) Try.isAgg24 rfl hw) hcx25 (Gm.pure 18 rfl (by kernel_rfl) (fun _ => Y.mv (v := (.func (.func 73) #[] #[(vA b2)])) (wantG rfl rfl hb22) rfl) (Gm.one' 19 rfl (by kernel_rfl) (.drop (by kernel_rfl) (.keep (by kernel_rfl) (.keep (by kernel_rfl) (.keep (by kernel_rfl) (.keep (by kernel_rfl) (.keep (by kernel_rfl) .nil)))))) (N.call (wantG rfl rfl hb22) Try.call74 rfl h ?_)))
        intro r26 w h
        obtain ⟨hp27, h⟩ := h
        obtain ⟨hp28, h⟩ := h
        obtain ⟨hp29, h⟩ := h
        obtain ⟨hp30, h⟩ := h
        obtain ⟨hp31, h⟩ := h
        refine ⟨(pdC hp27 (pdC hp28 (pdC hp29 (pdC hp30 (pdC hp31 pdN))))), ?_⟩
        refine Gm.pure 20 rfl (by kernel_rfl) (fun _ => Y.not (wantG rfl rfl hb22) rfl) (Gm.pure 21 rfl (by kernel_rfl) (fun _ => Y.pickF (v := (Value.bool (!r26))) rfl rfl hb22 rfl) (Gm.end (by kernel_rfl) ?_))
        exact Th.m ⟨_, h, _, eqUpd rfl (eqMask (by repeat' (first | exact Off.refl _ _ | refine Off.u rfl ?_ | refine Off.m rfl ?_)))⟩
    · refine Dw.cond rfl (fun hb33 => ?_) (fun hb33 => ?_)
      · replace h := M.iteT h hb33
        refine Dw.seq (Dw.region (Dl.q (Y.asg (v := (Value.bool false)) rfl rfl) (Dl.nil (Th.m (Dw.ret (InB.r (Th.r (Th.r (InB.r (Th.r ?_))))))))))
        exact fin1 rfl ⟨_, rfl, h⟩
      · replace h := M.iteF h hb33
        refine Dw.skip (InB.m (Th.m (Dw.region (Dl.q (Y.add rfl rfl rfl) (Dl.q (Y.mv (v := (vI (wI (q6 + 1)))) rfl rfl) (Dl.nil ?_))))))
        exact Th.m ⟨_, h, _, eqUpd rfl (eqMask (by repeat' (first | exact Off.refl _ _ | refine Off.u rfl ?_ | refine Off.m rfl ?_)))⟩
  · replace h := M.iteF h hb34
    refine Dw.exit (Th.e (Th.e (InB.e (Th.m (Dw.seq (Dw.region (Dl.q (Y.asg (v := (Value.bool true)) rfl rfl) (Dl.nil (Th.m (Dw.ret ?_))))))))))
    exact fin1 rfl ⟨_, rfl, h⟩
set_option maxHeartbeats 1000000 in
set_option maxRecDepth 20000 in
theorem dfa_Keep {p0 : Dfv} {p1 : Sl} {w : World} {R : (Dfv × Int) → World → Prop} (h : S.dfa_Keep p0 p1 w R) : Calls Try.prog 47 [(.agg (Dfv.cs p0).toArray), (Sl.val p1)].toArray w (Ret (fun x : (Dfv × Int) => .tuple #[(.agg (Dfv.cs x.1).toArray), (vI x.2)]) R) := by
  refine calls_of Try.func47 rfl rfl rfl (by kernel_rfl) rfl ?_
  unfold S.dfa_Keep at h
  refine Dw.seq (Dw.region ?_)
  refine Dl.n (N.box rfl h rfl rfl fun b1 _ h => ?_)
  refine Dl.n (N.new rfl Try.zeroValue27 h (by kernel_rfl) fun b2 _ h => ?_)
  refine Dl.q (Y.asg (v := (vI 0)) rfl rfl) (Dl.nil (Th.m (Dw.seq (Dw.seq (Dw.region ?_)))))
  obtain ⟨v3, hcv3, h⟩ := h
  refine Dl.q (Y.ldA rfl Try.isAgg27 Try.sizeOf27 (Dfv_len _) rfl hcv3) ?_
  refine Dl.n (N.call rfl Try.call7 rfl h ?_)
  intro r4 w h
  refine Dl.q (Y.not rfl rfl) (Dl.nil (Th.m ?_))
  refine Dw.cond rfl (fun hb98 => ?_) (fun hb98 => ?_)
  · replace h := M.iteT h hb98
    refine Dw.seq (Dw.region (Dl.q (Y.bld [] rfl rfl (Dfv_b _ )) ?_))
    refine Dl.n (N.stA rfl Try.sizeOf27 h rfl rfl (Dfv_len _) (Dfv_one _) fun h => ?_)
    generalize setCells _ _ _ _ = w at h ⊢
    refine Dl.q (Y.asg (v := (vI 6)) rfl rfl) (Dl.nil (Th.m (Dw.ret (Th.r ?_))))
    obtain ⟨v5, hc, h⟩ := h
    exact finC2 Try.isAgg27 Try.sizeOf27 (Dfv_len _) rfl rfl hc ⟨_, rfl, h⟩
  · replace h := M.iteF h hb98
    refine Dw.skip (Th.m (Dw.seq (Dw.region (Dl.q (Y.fa 258 rfl Try.runUnderlying27 rfl Try.sizeOf24 (by decide) rfl rfl) ?_))))
    obtain ⟨x6, hcx6, h⟩ := h
    refine Dl.q (Y.ld rfl Try.isAgg24 rfl hcx6) (Dl.q (Y.len rfl Try.runUnderlying24 rfl) (Dl.q (Y.mv (v := (Sl.val p1)) rfl rfl) ?_))
    refine Dl.n (N.call rfl Try.call75 rfl h ?_)
    intro r7 w h
    refine Dl.q (Y.mv (v := (.tuple #[(Sl.val r7.1), (Value.bool r7.2)])) rfl rfl) (Dl.q (Y.ext rfl rfl rfl) (Dl.q (Y.ext rfl rfl rfl) (Dl.q (Y.asg (v := (Sl.val r7.1)) rfl rfl) (Dl.q (Y.asg (v := (Value.bool r7.2)) rfl rfl) (Dl.nil (Th.m (Dw.seq (Dw.seq (Dw.region (Dl.q (Y.mv (v := (Value.bool r7.2)) rfl rfl) (Dl.q (Y.not rfl rfl) (Dl.nil ?_))))))))))))
    refine Th.m ?_
    refine Dw.cond rfl (fun hb97 => ?_) (fun hb97 => ?_)
    · replace h := M.iteT h hb97
      refine Dw.seq (Dw.region (Dl.q (Y.bld [] rfl rfl (Dfv_b _ )) ?_))
      refine Dl.n (N.stA rfl Try.sizeOf27 h rfl rfl (Dfv_len _) (Dfv_one _) fun h => ?_)
      generalize setCells _ _ _ _ = w at h ⊢
      refine Dl.q (Y.asg (v := (vI 1)) rfl rfl) (Dl.nil (Th.m (Dw.ret (Th.r ?_))))
      obtain ⟨v8, hc, h⟩ := h
      exact finC2 Try.isAgg27 Try.sizeOf27 (Dfv_len _) rfl rfl hc ⟨_, rfl, h⟩
    · replace h := M.iteF h hb97
      refine Dw.skip (Th.m (Dw.seq (Dw.game (by kernel_rfl) ?_)))
      replace h := M.drew_un h
      generalize World.drew _ = w at h ⊢
      refine Gm.pure 0 rfl (by kernel_rfl) (fun _ => Y.fa 0 rfl Try.runUnderlying27 rfl Try.sizeOf22 (by decide) rfl rfl) ?_
      obtain ⟨v9, hcv9, h⟩ := h
      refine Gm.quiet 1 rfl (by kernel_rfl) (fun _ hw => Y.ldA rfl Try.isAgg22 Try.sizeOf22 (Ar_len _) rfl hw) hcv9 (Gm.pure 2 rfl (by kernel_rfl) (fun _ => Y.fa 256 rfl Try.runUnderlying27 rfl Try.sizeOf3 (by decide) rfl rfl) ?_)
      obtain ⟨x10, hcx10, h⟩ := h
      refine Gm.quiet 3 rfl (by kernel_rfl) (fun _ hw => Y.ld rfl Try.isAgg3 rfl hw) hcx10 (Gm.pure 4 rfl (by kernel_rfl) (fun _ => Y.fa 259 rfl Try.runUnderlying27 rfl Try.sizeOf25 (by decide) rfl rfl) ?_)
      obtain ⟨x11, hcx11, h⟩ := h
      refine Gm.quiet 5 rfl (by kernel_rfl) (fun _ hw => Y.ld rfl Try.isAgg25 rfl hw) hcx11 ?_
      obtain ⟨h, h2⟩ := h
      refine Gm.two' 6 8 rfl rfl (by kernel_rfl) (.drop (by kernel_rfl) (.keep (by kernel_rfl) (.keep (by kernel_rfl) .nil))) (.keep (by kernel_rfl) (.keep (by kernel_rfl) (.keep (by kernel_rfl) .nil))) ?_ ?_
      · refine N.call rfl Try.call48 rfl h ?_
        intro r12 w h
        obtain ⟨hp13, h⟩ := h
        obtain ⟨hp14, h⟩ := h
        refine ⟨(pdC hp13 (pdC hp14 pdN)), ?_⟩
        refine Gm.pure 7 rfl (by kernel_rfl) (fun _ => Y.bld [(0, (.agg (Ar.cs v9).toArray)), (1, (vI x10)), (4, (Sl.val r12))] rfl rfl (Dfv_b014 _ _ _ _)) (Gm.one' 8 rfl (by kernel_rfl) (.keep (by kernel_rfl) (.keep (by kernel_rfl) .nil)) (N.new rfl Try.zeroValue27 h (by kernel_rfl) fun b15 _ h => ?_))
        obtain ⟨hp16, h⟩ := h
        obtain ⟨hp17, h⟩ := h
        refine ⟨(pdC hp16 (pdC hp17 pdN)), ?_⟩
        generalize World.alloc _ _ = w at h ⊢
        refine Gm.one' 9 rfl (by kernel_rfl) (.drop (by kernel_rfl) (.drop (by kernel_rfl) .nil)) ?_
        refine N.stA rfl Try.sizeOf27 h rfl rfl (Dfv_len _) (Dfv_one _) fun h => ?_
        refine ⟨pdN, ?_⟩
        generalize setCells _ _ _ _ = w at h ⊢
        refine Gm.end (by kernel_rfl) (Th.m (Dw.seq (Dw.seq (Dw.region (Dl.q (Y.mv (v := (Sl.val p1)) rfl rfl) (Dl.q (Y.len rfl Try.runUnderlying24 rfl) (Dl.q (Y.mv (v := (vI 0)) rfl rfl) (Dl.nil (Th.m (Dw.block ?_))))))))))
        refine Dw.loopM (fun s j r => upd (mask r j 309485009821344518968982560) 39 (vI s)) h ⟨_, eqUpd rfl (eqMask (by repeat' (first | exact Off.refl _ _ | refine Off.u rfl ?_ | refine Off.m rfl ?_)))⟩ ?_
        intro I m q18 j w h
        refine Dw.seq (Dw.region (Dl.q (Y.lss rfl rfl rfl) (Dl.nil (Th.m (Dw.seq ?_)))))
        refine Dw.cond rfl (fun hb53 => ?_) (fun hb53 => ?_)
        · replace h := M.iteT h hb53
          refine Dw.skip (Th.m (Dw.seq (Dw.block (Dw.seq (Dw.region ?_)))))
          obtain ⟨a20, a200, ha, hi, he, h⟩ := h
          refine Dl.q (Y.ix rfl Try.runUnderlying24 Try.sizeOf3 rfl rfl ha hi he) ?_
          obtain ⟨x21, hcx21, h⟩ := h
          refine Dl.q (Y.ld rfl Try.isAgg3 rfl hcx21) (Dl.q (Y.asg (v := (vI x21)) rfl rfl) (Dl.nil (Th.m (Dw.seq (Dw.region (Dl.q (Y.fa 256 rfl Try.runUnderlying27 rfl Try.sizeOf3 (by decide) rfl rfl) ?_))))))
          obtain ⟨x22, hcx22, h⟩ := h
          refine Dl.q (Y.ld rfl Try.isAgg3 rfl hcx22) ?_
          obtain ⟨s23, w, ha, h⟩ := h
          refine Dl.n (N.of rfl rfl ha ?_)
          refine Dl.q (Y.asg (v := (Sl.val s23)) rfl rfl) (Dl.nil (Th.m (Dw.seq (Dw.seq (Dw.region (Dl.q (Y.fa 257 rfl Try.runUnderlying27 rfl Try.sizeOf23 (by decide) rfl rfl) ?_))))))
          obtain ⟨x24, hcx24, h⟩ := h
          refine Dl.q (Y.ld rfl Try.isAgg23 rfl hcx24) (Dl.q (Y.mv (v := (vI x21)) rfl rfl) ?_)
          obtain ⟨a25, a250, ha, hi, he, h⟩ := h
          refine Dl.q (Y.ix rfl Try.runUnderlying23 Try.sizeOf24 rfl rfl ha hi he) ?_
          obtain ⟨x26, hcx26, h⟩ := h
          refine Dl.q (Y.ld rfl Try.isAgg24 rfl hcx26) (Dl.q (Y.len rfl Try.runUnderlying24 rfl) (Dl.q (Y.mv (v := (vI 0)) rfl rfl) (Dl.nil (Th.m (Dw.block ?_)))))
          refine Dw.loopM (fun s j r => upd (mask r j 2361178737835195248672) 52 (vI s)) h ⟨_, eqUpd rfl (eqMask (by repeat' (first | exact Off.refl _ _ | refine Off.u rfl ?_ | refine Off.m rfl ?_)))⟩ ?_
          intro I m q27 j w h
          refine Dw.seq (Dw.region (Dl.q (Y.lss rfl rfl rfl) (Dl.nil (Th.m (Dw.seq ?_)))))
          refine Dw.cond rfl (fun hb50 => ?_) (fun hb50 => ?_)
          · replace h := M.iteT h hb50
            refine Dw.skip (Th.m (Dw.seq (Dw.block (Dw.seq (Dw.region (Dl.q (Y.mv (v := (vI q27)) rfl rfl) ?_))))))
            obtain ⟨a29, a290, ha, hi, he, h⟩ := h
            refine Dl.q (Y.ix rfl Try.runUnderlying24 Try.sizeOf3 rfl rfl ha hi he) ?_
            obtain ⟨x30, hcx30, h⟩ := h
            refine Dl.q (Y.ld rfl Try.isAgg3 rfl hcx30) (Dl.q (Y.asg (v := (vI q27)) rfl rfl) (Dl.q (Y.asg (v := (vI x30)) rfl rfl) (Dl.nil (Th.m (Dw.seq (Dw.seq (Dw.region (Dl.q (Y.mv (v := (Sl.val r7.1)) rfl rfl) (Dl.q (Y.mv (v := (vI x30)) rfl rfl) ?_)))))))))
            obtain ⟨a31, a310, ha, hi, he, h⟩ := h
            refine Dl.q (Y.ix rfl Try.runUnderlying24 Try.sizeOf3 rfl rfl ha hi he) ?_
            obtain ⟨x32, hcx32, h⟩ := h
            refine Dl.q (Y.ld rfl Try.isAgg3 rfl hcx32) (Dl.q (Y.lss rfl rfl rfl) (Dl.nil (Th.m ?_)))
            refine Dw.cond rfl (fun hb37 => ?_) (fun hb37 => ?_)
            · replace h := M.iteT h hb37
              refine Dw.seq (Dw.region (Dl.q (Y.bld [] rfl rfl (Dfv_b _ )) ?_))
              refine Dl.n (N.stA rfl Try.sizeOf27 h rfl rfl (Dfv_len _) (Dfv_one _) fun h => ?_)
              generalize setCells _ _ _ _ = w at h ⊢
              refine Dl.q (Y.asg (v := (vI 1)) rfl rfl) (Dl.nil (Th.m (Dw.ret (Th.r (InB.r (Th.r (Th.r (InB.r (Th.r (InB.r (Th.r (Th.r ?_))))))))))))
              refine InB.r (Th.r ?_)
              obtain ⟨v33, hc, h⟩ := h
              exact finC2 Try.isAgg27 Try.sizeOf27 (Dfv_len _) rfl rfl hc ⟨_, rfl, h⟩
            · replace h := M.iteF h hb37
              refine Dw.skip (Th.m (Dw.region (Dl.q (Y.mv (v := (Sl.val s23)) rfl rfl) (Dl.q (Y.mv (v := (vI q27)) rfl rfl) (Dl.q (Y.mv (v := (Sl.val r7.1)) rfl rfl) (Dl.q (Y.mv (v := (vI x30)) rfl rfl) ?_))))))
              obtain ⟨a34, a340, ha, hi, he, h⟩ := h
              refine Dl.q (Y.ix rfl Try.runUnderlying24 Try.sizeOf3 rfl rfl ha hi he) ?_
              obtain ⟨x35, hcx35, h⟩ := h
              refine Dl.q (Y.ld rfl Try.isAgg3 rfl hcx35) ?_
              obtain ⟨a36, a360, ha, hi, he, h⟩ := h
              refine Dl.q (Y.ix rfl Try.runUnderlying24 Try.sizeOf3 rfl rfl ha hi he) ?_
              refine Dl.n (N.st rfl Try.sizeOf3 h rfl rfl rfl rfl rfl fun h => ?_)
              refine Dl.nil (InB.m (Th.m (Dw.region (Dl.q (Y.add rfl rfl rfl) (Dl.q (Y.mv (v := (vI (wI (q27 + 1)))) rfl rfl) (Dl.nil ?_))))))
              exact Th.m ⟨_, h, _, eqUpd rfl (eqMask (by repeat' (first | exact Off.refl _ _ | refine Off.u rfl ?_ | refine Off.m rfl ?_)))⟩
          · replace h := M.iteF h hb50
            refine Dw.exit (Th.e (Th.e (InB.e (Th.m (Dw.seq (Dw.region (Dl.q (Y.fa 257 rfl Try.runUnderlying27 rfl Try.sizeOf23 (by decide) rfl rfl) ?_)))))))
            obtain ⟨x38, hcx38, h⟩ := h
            refine Dl.q (Y.ld rfl Try.isAgg23 rfl hcx38) (Dl.q (Y.mv (v := (Sl.val s23)) rfl rfl) ?_)
            refine Dl.n (N.mkS rfl Try.runUnderlying23 Try.sizeOf24 Try.zeroValue24 h rfl rfl rfl rfl rfl fun b39 _ h => ?_)
            obtain ⟨s40, w, ha, h⟩ := h
            refine Dl.n (N.blt rfl rfl (fun _ => rfl) ha ?_)
            refine Dl.q (Y.fa 257 rfl Try.runUnderlying27 rfl Try.sizeOf23 (by decide) rfl rfl) ?_
            refine Dl.n (N.st rfl Try.sizeOf23 h rfl rfl rfl rfl rfl fun h => ?_)
            refine Dl.nil (Th.m (Dw.game (by kernel_rfl) ?_))
            replace h := M.drew_un h
            generalize World.drew _ = w at h ⊢
            refine Gm.pure 0 rfl (by kernel_rfl) (fun _ => Y.fa 258 rfl Try.runUnderlying27 rfl Try.sizeOf24 (by decide) rfl rfl) ?_
            obtain ⟨x41, hcx41, h⟩ := h
            refine Gm.quiet 1 rfl (by kernel_rfl) (fun _ hw => Y.ld rfl Try.isAgg24 rfl hw) hcx41 (Gm.pure 2 rfl (by kernel_rfl) (fun _ => Y.fa 258 rfl Try.runUnderlying27 rfl Try.sizeOf24 (by decide) rfl rfl) ?_)
            obtain ⟨x42, hcx42, h⟩ := h
            refine Gm.quiet 3 rfl (by kernel_rfl) (fun _ hw => Y.ld rfl Try.isAgg24 rfl hw) hcx42 (Gm.pure 4 rfl (by kernel_rfl) (fun _ => Y.mv (v := (vI x21)) rfl rfl) ?_)
            obtain ⟨a43, a430, ha, hi, he, h⟩ := h
            refine Gm.pure 5 rfl (by kernel_rfl) (fun _ => Y.ix rfl Try.runUnderlying24 Try.sizeOf3 rfl rfl ha hi he) ?_
            obtain ⟨x44, hcx44, h⟩ := h
            refine Gm.quiet 6 rfl (by kernel_rfl) (fun _ hw => Y.ld rfl Try.isAgg3 rfl hw) hcx44 (Gm.one' 7 rfl (by kernel_rfl) (.drop (by kernel_rfl) (.keep (by kernel_rfl) (.keep (by kernel_rfl) .nil))) (N.mkS rfl Try.runUnderlying24 Try.sizeOf3 Try.zeroValue3 h rfl rfl rfl rfl rfl fun b45 _ h => ?_))
            obtain ⟨hp46, h⟩ := h
            obtain ⟨hp47, h⟩ := h
            refine ⟨(pdC hp46 (pdC hp47 pdN)), ?_⟩
            generalize World.alloc _ _ = w at h ⊢
            refine Gm.one' 8 rfl (by kernel_rfl) (.keep (by kernel_rfl) (.drop (by kernel_rfl) .nil)) ?_
            obtain ⟨s48, w, ha, h⟩ := h
            refine N.blt rfl rfl (fun _ => rfl) ha ?_
            obtain ⟨hp49, h⟩ := h
            refine ⟨(pdC hp49 pdN), ?_⟩
            refine Gm.pure 9 rfl (by kernel_rfl) (fun _ => Y.fa 258 rfl Try.runUnderlying27 rfl Try.sizeOf24 (by decide) rfl rfl) (Gm.one' 10 rfl (by kernel_rfl) (.drop (by kernel_rfl) .nil) ?_)
            refine N.st rfl Try.sizeOf24 h rfl rfl rfl rfl rfl fun h => ?_
            refine ⟨pdN, ?_⟩
            generalize World.setCell _ _ _ = w at h ⊢
            refine Gm.end (by kernel_rfl) (InB.m (Th.m (Dw.region (Dl.q (Y.add rfl rfl rfl) (Dl.q (Y.mv (v := (vI (wI (q18 + 1)))) rfl rfl) (Dl.nil ?_))))))
            exact Th.m ⟨_, h, _, eqUpd rfl (eqMask (by repeat' (first | exact Off.refl _ _ | refine Off.u rfl ?_ | refine Off.m rfl ?_)))⟩
        · replace h := M.iteF h hb53
          refine Dw.exit (Th.e (Th.e (InB.e (Th.m (Dw.seq (Dw.region ?_))))))
          obtain ⟨v51, hcv51, h⟩ := h
          refine Dl.q (Y.ldA rfl Try.isAgg27 Try.sizeOf27 (Dfv_len _) rfl hcv51) ?_
          refine Dl.n (N.stA rfl Try.sizeOf27 h rfl rfl (Dfv_len _) (Dfv_one _) fun h => ?_)
          generalize setCells _ _ _ _ = w at h ⊢
          refine Dl.q (Y.asg (v := (vI 0)) rfl rfl) (Dl.nil (Th.m (Dw.ret ?_)))
          obtain ⟨v52, hc, h⟩ := h
          exact finC2 Try.isAgg27 Try.sizeOf27 (Dfv_len _) rfl rfl hc ⟨_, rfl, h⟩
      · replace h := h2
        refine N.new rfl Try.zeroValue27 h (by kernel_rfl) fun b54 _ h => ?_
        obtain ⟨hp55, h⟩ := h
        obtain ⟨hp56, h⟩ := h
        obtain ⟨hp57, h⟩ := h
        refine ⟨(pdC hp55 (pdC hp56 (pdC hp57 pdN))), ?_⟩
        generalize World.alloc _ _ = w at h ⊢
        refine Gm.one' 6 rfl (by kernel_rfl) (.drop (by kernel_rfl) (.keep (by kernel_rfl) (.keep (by kernel_rfl) .nil))) (N.call rfl Try.call48 rfl h ?_)
        intro r58 w h
        obtain ⟨hp59, h⟩ := h
        obtain ⟨hp60, h⟩ := h
        refine ⟨(pdC hp59 (pdC hp60 pdN)), ?_⟩
        refine Gm.pure 7 rfl (by kernel_rfl) (fun _ => Y.bld [(0, (.agg (Ar.cs v9).toArray)), (1, (vI x10)), (4, (Sl.val r58))] rfl rfl (Dfv_b014 _ _ _ _)) (Gm.one' 9 rfl (by kernel_rfl) (.drop (by kernel_rfl) (.drop (by kernel_rfl) .nil)) ?_)
        refine N.stA rfl Try.sizeOf27 h rfl rfl (Dfv_len _) (Dfv_one _) fun h => ?_
        refine ⟨pdN, ?_⟩
        generalize setCells _ _ _ _ = w at h ⊢
        refine Gm.end (by kernel_rfl) (Th.m (Dw.seq (Dw.seq (Dw.region (Dl.q (Y.mv (v := (Sl.val p1)) rfl rfl) (Dl.q (Y.len rfl Try.runUnderlying24 rfl) (Dl.q (Y.mv (v := (vI 0)) rfl rfl) (Dl.nil (Th.m (Dw.block ?_))))))))))
        refine Dw.loopM (fun s j r => upd (mask r j 309485009821344518968982560) 39 (vI s)) h ⟨_, eqUpd rfl (eqMask (by repeat' (first | exact Off.refl _ _ | refine Off.u rfl ?_ | refine Off.m rfl ?_)))⟩ ?_
        intro I m q61 j w h
        refine Dw.seq (Dw.region (Dl.q (Y.lss rfl rfl rfl) (Dl.nil (Th.m (Dw.seq ?_)))))
        refine Dw.cond rfl (fun hb96 => ?_) (fun hb96 => ?_)
        · replace h := M.iteT h hb96
          refine Dw.skip (Th.m (Dw.seq (Dw.block (Dw.seq (Dw.region ?_)))))
          obtain ⟨a63, a630, ha, hi, he, h⟩ := h
          refine Dl.q (Y.ix rfl Try.runUnderlying24 Try.sizeOf3 rfl rfl ha hi he) ?_
          obtain ⟨x64, hcx64, h⟩ := h
          refine Dl.q (Y.ld rfl Try.isAgg3 rfl hcx64) (Dl.q (Y.asg (v := (vI x64)) rfl rfl) (Dl.nil (Th.m (Dw.seq (Dw.region (Dl.q (Y.fa 256 rfl Try.runUnderlying27 rfl Try.sizeOf3 (by decide) rfl rfl) ?_))))))
          obtain ⟨x65, hcx65, h⟩ := h
          refine Dl.q (Y.ld rfl Try.isAgg3 rfl hcx65) ?_
          obtain ⟨s66, w, ha, h⟩ := h
          refine Dl.n (N.of rfl rfl ha ?_)
          refine Dl.q (Y.asg (v := (Sl.val s66)) rfl rfl) (Dl.nil (Th.m (Dw.seq (Dw.seq (Dw.region (Dl.q (Y.fa 257 rfl Try.runUnderlying27 rfl Try.sizeOf23 (by decide) rfl rfl) ?_))))))
          obtain ⟨x67, hcx67, h⟩ := h
          refine Dl.q (Y.ld rfl Try.isAgg23 rfl hcx67) (Dl.q (Y.mv (v := (vI x64)) rfl rfl) ?_)
          obtain ⟨a68, a680, ha, hi, he, h⟩ := h
          refine Dl.q (Y.ix rfl Try.runUnderlying23 Try.sizeOf24 rfl rfl ha hi he) ?_
          obtain ⟨x69, hcx69, h⟩ := h
          refine Dl.q (Y.ld rfl Try.isAgg24 rfl hcx69) (Dl.q (Y.len rfl Try.runUnderlying24 rfl) (Dl.q (Y.mv (v := (vI 0)) rfl rfl) (Dl.nil (Th.m (Dw.block ?_)))))
          refine Dw.loopM (fun s j r => upd (mask r j 2361178737835195248672) 52 (vI s)) h ⟨_, eqUpd rfl (eqMask (by repeat' (first | exact Off.refl _ _ | refine Off.u rfl ?_ | refine Off.m rfl ?_)))⟩ ?_
          intro I m q70 j w h
          refine Dw.seq (Dw.region (Dl.q (Y.lss rfl rfl rfl) (Dl.nil (Th.m (Dw.seq ?_)))))
          refine Dw.cond rfl (fun hb93 => ?_) (fun hb93 => ?_)
          · replace h := M.iteT h hb93
            refine Dw.skip (Th.m (Dw.seq (Dw.block (Dw.seq (Dw.region (Dl.q (Y.mv (v := (vI q70)) rfl rfl) ?_))))))
            obtain ⟨a72, a720, ha, hi, he, h⟩ := h
            refine Dl.q (Y.ix rfl Try.runUnderlying24 Try.sizeOf3 rfl rfl ha hi he) ?_
            obtain ⟨x73, hcx73, h⟩ := h
            refine Dl.q (Y.ld rfl Try.isAgg3 rfl hcx73) (Dl.q (Y.asg (v := (vI q70)) rfl rfl) (Dl.q (Y.asg (v := (vI x73)) rfl rfl) (Dl.nil (Th.m (Dw.seq (Dw.seq (Dw.region (Dl.q (Y.mv (v := (Sl.val r7.1)) rfl rfl) (Dl.q (Y.mv (v := (vI x73)) rfl rfl) ?_)))))))))
            obtain ⟨a74, a740, ha, hi, he, h⟩ := h
            refine Dl.q (Y.ix rfl Try.runUnderlying24 Try.sizeOf3 rfl rfl ha hi he) ?_
            obtain ⟨x75, hcx75, h⟩ := h
            refine Dl.q (Y.ld rfl Try.isAgg3 rfl hcx75) (Dl.q (Y.lss rfl rfl rfl) (Dl.nil (Th.m ?_)))
            refine Dw.cond rfl (fun hb80 => ?_) (fun hb80 => ?_)
            · replace h := M.iteT h hb80
              refine Dw.seq (Dw.region (Dl.q (Y.bld [] rfl rfl (Dfv_b _ )) ?_))
              refine Dl.n (N.stA rfl Try.sizeOf27 h rfl rfl (Dfv_len _) (Dfv_one _) fun h => ?_)
              generalize setCells _ _ _ _ = w at h ⊢
              refine Dl.q (Y.asg (v := (vI 1)) rfl rfl) (Dl.nil (Th.m (Dw.ret (Th.r (InB.r (Th.r (Th.r (InB.r (Th.r (InB.r (Th.r (Th.r ?_))))))))))))
              refine InB.r (Th.r ?_)
              obtain ⟨v76, hc, h⟩ := h
              exact finC2 Try.isAgg27 Try.sizeOf27 (Dfv_len _) rfl rfl hc ⟨_, rfl, h⟩
            · replace h := M.iteF h hb80
              refine Dw.skip (Th.m (Dw.region (Dl.q (Y.mv (v := (Sl.val s66)) rfl rfl) (Dl.q (Y.mv (v := (vI q70)) rfl rfl) (Dl.q (Y.mv (v := (Sl.val r7.1)) rfl rfl) (Dl.q (Y.mv (v := (vI x73)) rfl rfl) ?_))))))
              obtain ⟨a77, a770, ha, hi, he, h⟩ := h
              refine Dl.q (Y.ix rfl Try.runUnderlying24 Try.sizeOf3 rfl rfl ha hi he) ?_
              obtain ⟨x78, hcx78, h⟩ := h
              refine Dl.q (Y.ld rfl Try.isAgg3 rfl hcx78) ?_
              obtain ⟨a79, a790, ha, hi, he, h⟩ := h
              refine Dl.q (Y.ix rfl Try.runUnderlying24 Try.sizeOf3 rfl rfl ha hi he) ?_
              refine Dl.n (N.st rfl Try.sizeOf3 h rfl rfl rfl rfl rfl fun h => ?_)
              refine Dl.nil (InB.m (Th.m (Dw.region (Dl.q (Y.add rfl rfl rfl) (Dl.q (Y.mv (v := (vI (wI (q70 + 1)))) rfl rfl) (Dl.nil ?_))))))
              exact Th.m ⟨_, h, _, eqUpd rfl (eqMask (by repeat' (first | exact Off.refl _ _ | refine Off.u rfl ?_ | refine Off.m rfl ?_)))⟩
          · replace h := M.iteF h hb93
            refine Dw.exit (Th.e (Th.e (InB.e (Th.m (Dw.seq (Dw.region (Dl.q (Y.fa 257 rfl Try.runUnderlying27 rfl Try.sizeOf23 (by decide) rfl rfl) ?_)))))))
            obtain ⟨x81, hcx81, h⟩ := h
            refine Dl.q (Y.ld rfl Try.isAgg23 rfl hcx81) (Dl.q (Y.mv (v := (Sl.val s66)) rfl rfl) ?_)
            refine Dl.n (N.mkS rfl Try.runUnderlying23 Try.sizeOf24 Try.zeroValue24 h rfl rfl rfl rfl rfl fun b82 _ h => ?_)
            obtain ⟨s83, w, ha, h⟩ := h
            refine Dl.n (N.blt rfl rfl (fun _ => rfl) ha ?_)
            refine Dl.q (Y.fa 257 rfl Try.runUnderlying27 rfl Try.sizeOf23 (by decide) rfl rfl) ?_
            refine Dl.n (N.st rfl Try.sizeOf23 h rfl rfl rfl rfl rfl fun h => ?_)
            refine Dl.nil (Th.m (Dw.game (by kernel_rfl) ?_))
            replace h := M.drew_un h
            generalize World.drew _ = w at h ⊢
            refine Gm.pure 0 rfl (by kernel_rfl) (fun _ => Y.fa 258 rfl Try.runUnderlying27 rfl Try.sizeOf24 (by decide) rfl rfl) ?_
            obtain ⟨x84, hcx84, h⟩ := h
            refine Gm.quiet 1 rfl (by kernel_rfl) (fun _ hw => Y.ld rfl Try.isAgg24 rfl hw) hcx84 (Gm.pure 2 rfl (by kernel_rfl) (fun _ => Y.fa 258 rfl Try.runUnderlying27 rfl Try.sizeOf24 (by decide) rfl rfl) ?_)
            obtain ⟨x85, hcx85, h⟩ := h
            refine Gm.quiet 3 rfl (by kernel_rfl) (fun _ hw => Y.ld rfl Try.isAgg24 rfl hw) hcx85 (Gm.pure 4 rfl (by kernel_rfl) (fun _ => Y.mv (v := (vI x64)) rfl rfl) ?_)
            obtain ⟨a86, a860, ha, hi, he, h⟩ := h
            refine Gm.pure 5 rfl (by kernel_rfl) (fun _ => Y.ix rfl Try.runUnderlying24 Try.sizeOf3 rfl rfl ha hi he) ?_
            obtain ⟨x87, hcx87, h⟩ := h
            refine Gm.quiet 6 rfl (by kernel_rfl) (fun _ hw => Y.ld rfl Try.isAgg3 rfl hw) hcx87 (Gm.one' 7 rfl (by kernel_rfl) (.drop (by kernel_rfl) (.keep (by kernel_rfl) (.keep (by kernel_rfl) .nil))) (N.mkS rfl Try.runUnderlying24 Try.sizeOf3 Try.zeroValue3 h rfl rfl rfl rfl rfl fun b88 _ h => ?_))
            obtain ⟨hp89, h⟩ := h
            obtain ⟨hp90, h⟩ := h
            refine ⟨(pdC hp89 (pdC hp90 pdN)), ?_⟩
            generalize World.alloc _ _ = w at h ⊢
            refine Gm.one' 8 rfl (by kernel_rfl) (.keep (by kernel_rfl) (.drop (by kernel_rfl) .nil)) ?_
            obtain ⟨s91, w, ha, h⟩ := h
            refine N.blt rfl rfl (fun _ => rfl) ha ?_
            obtain ⟨hp92, h⟩ := h
            refine ⟨(pdC hp92 pdN), ?_⟩
            refine Gm.pure 9 rfl (by kernel_rfl) (fun _ => Y.fa 258 rfl Try.runUnderlying27 rfl Try.sizeOf24 (by decide) rfl rfl) (Gm.one' 10 rfl (by kernel_rfl) (.drop (by kernel_rfl) .nil) ?_)
            refine N.st rfl Try.sizeOf24 h rfl rfl rfl rfl rfl fun h => ?_
            refine ⟨pdN, ?_⟩
            generalize World.setCell _ _ _ = w at h ⊢
            refine Gm.end (by kernel_rfl) (InB.m (Th.m (Dw.region (Dl.q (Y.add rfl rfl rfl) (Dl.q (Y.mv (v := (vI (wI (q61 + 1)))) rfl rfl) (Dl.nil ?_))))))
            exact Th.m ⟨_, h, _, eqUpd rfl (eqMask (by repeat' (first | exact Off.refl _ _ | refine Off.u rfl ?_ | refine Off.m rfl ?_)))⟩
        · replace h := M.iteF h hb96
          refine Dw.exit (Th.e (Th.e (InB.e (Th.m (Dw.seq (Dw.region ?_))))))
          obtain ⟨v94, hcv94, h⟩ := h
          refine Dl.q (Y.ldA rfl Try.isAgg27 Try.sizeOf27 (Dfv_len _) rfl hcv94) ?_
          refine Dl.n (N.stA rfl Try.sizeOf27 h rfl rfl (Dfv_len _) (Dfv_one _) fun h => ?_)
          generalize setCells _ _ _ _ = w at h ⊢
          refine Dl.q (Y.asg (v := (vI 0)) rfl rfl) (Dl.nil (Th.m (Dw.ret ?_)))
          obtain ⟨v95, hc, h⟩ := h
          exact finC2 Try.isAgg27 Try.sizeOf27 (Dfv_len _) rfl rfl hc ⟨_, rfl, h⟩
set_option maxHeartbeats 1000000 in
set_option maxRecDepth 20000 in
theorem slices_Clone_Lstringstring {p0 : Sl} {w : World} {R : Sl → World → Prop} (h : S.slices_Clone_Lstringstring p0 w R) : Calls Try.prog 48 [(Sl.val p0)].toArray w (Ret Sl.val R) := by
  refine calls_of Try.func48 rfl rfl rfl (by kernel_rfl) rfl ?_
  unfold S.slices_Clone_Lstringstring at h
  refine Dw.seq (Dw.region (Dl.q (Y.asg (v := (Sl.val Sl.nil)) rfl rfl) (Dl.nil (Th.m (Dw.seq (Dw.seq (Dw.region (Dl.q (Y.mv (v := (Sl.val p0)) rfl rfl) (Dl.q (Y.eqN rfl Try.runUnderlying25 rfl rfl) (Dl.nil (Th.m ?_)))))))))))
  refine Dw.cond rfl (fun hb3 => ?_) (fun hb3 => ?_)
  · replace h := M.iteT h hb3
    refine Dw.seq (Dw.region (Dl.q (Y.asg (v := (Sl.val Sl.nil)) rfl rfl) (Dl.nil (Th.m (Dw.ret (Th.r ?_))))))
    exact fin1 rfl ⟨_, rfl, h⟩
  · replace h := M.iteF h hb3
    refine Dw.skip (Th.m (Dw.seq (Dw.region ?_)))
    refine Dl.n (N.mkS rfl Try.runUnderlying25 Try.sizeOf9 Try.zeroValue9 h rfl rfl rfl rfl rfl fun b1 _ h => ?_)
    refine Dl.q (Y.mv (v := (Sl.val p0)) rfl rfl) ?_
    obtain ⟨s2, w, ha, h⟩ := h
    refine Dl.n (N.blt rfl rfl (fun _ => rfl) ha ?_)
    refine Dl.q (Y.asg (v := (Sl.val s2)) rfl rfl) (Dl.nil (Th.m (Dw.ret ?_)))
    exact fin1 rfl ⟨_, rfl, h⟩
set_option maxHeartbeats 1000000 in
set_option maxRecDepth 20000 in
theorem quotient_heads {p0 : Sl} {w : World} {R : Sl → World → Prop} (h : S.quotient_heads p0 w R) : Calls Try.prog 49 [(Sl.val p0)].toArray w (Ret Sl.val R) := by
  refine calls_of Try.func49 rfl rfl rfl (by kernel_rfl) rfl ?_
  unfold S.quotient_heads at h
  refine Dw.seq (Dw.region (Dl.q (Y.asg (v := (Sl.val Sl.nil)) rfl rfl) (Dl.nil (Th.m (Dw.seq (Dw.region (Dl.q (Y.asg (v := (Sl.val Sl.nil)) rfl rfl) (Dl.nil (Th.m (Dw.seq (Dw.seq (Dw.region ?_))))))))))))
  refine Dl.q (Y.mv (v := (Sl.val p0)) rfl rfl) (Dl.q (Y.len rfl Try.runUnderlying24 rfl) (Dl.q (Y.mv (v := (vI 0)) rfl rfl) (Dl.nil (Th.m (Dw.block ?_)))))
  refine Dw.loopM (fun s j r => upd (upd (mask r j 4194104) 3 (Sl.val s.1)) 8 (vI s.2)) h ⟨_, eqUpd rfl (eqUpd rfl (eqMask (by repeat' (first | exact Off.refl _ _ | refine Off.u rfl ?_ | refine Off.m rfl ?_))))⟩ ?_
  intro I m q1 j w h
  refine Dw.seq (Dw.region (Dl.q (Y.lss rfl rfl rfl) (Dl.nil (Th.m (Dw.seq ?_)))))
  refine Dw.cond rfl (fun hb8 => ?_) (fun hb8 => ?_)
  · replace h := M.iteT h hb8
    refine Dw.skip (Th.m (Dw.seq (Dw.block (Dw.seq (Dw.region (Dl.q (Y.mv (v := (vI q1.2)) rfl rfl) ?_))))))
    obtain ⟨a3, a30, ha, hi, he, h⟩ := h
    refine Dl.q (Y.ix rfl Try.runUnderlying24 Try.sizeOf3 rfl rfl ha hi he) ?_
    obtain ⟨x4, hcx4, h⟩ := h
    refine Dl.q (Y.ld rfl Try.isAgg3 rfl hcx4) (Dl.q (Y.asg (v := (vI q1.2)) rfl rfl) (Dl.q (Y.asg (v := (vI x4)) rfl rfl) (Dl.nil (Th.m (Dw.seq (Dw.region (Dl.q (Y.mv (v := (vI x4)) rfl rfl) (Dl.q (Y.mv (v := (Sl.val q1.1)) rfl rfl) (Dl.q (Y.len rfl Try.runUnderlying24 rfl) (Dl.q (Y.eqI rfl rfl rfl) (Dl.nil (Th.m ?_))))))))))))
    refine Dw.cond rfl (fun hb7 => ?_) (fun hb7 => ?_)
    · replace h := M.iteT h hb7
      refine Dw.region (Dl.q (Y.mv (v := (Sl.val q1.1)) rfl rfl) (Dl.q (Y.mv (v := (vI q1.2)) rfl rfl) ?_))
      refine Dl.n (N.mkS rfl Try.runUnderlying24 Try.sizeOf3 Try.zeroValue3 h rfl rfl rfl rfl rfl fun b5 _ h => ?_)
      obtain ⟨s6, w, ha, h⟩ := h
      refine Dl.n (N.blt rfl rfl (fun _ => rfl) ha ?_)
      refine Dl.q (Y.asg (v := (Sl.val s6)) rfl rfl) (Dl.nil (InB.m (Th.m (Dw.region (Dl.q (Y.add rfl rfl rfl) (Dl.q (Y.mv (v := (vI (wI (q1.2 + 1)))) rfl rfl) (Dl.nil ?_)))))))
      exact Th.m ⟨_, h, _, eqUpd rfl (eqUpd rfl (eqMask (by repeat' (first | exact Off.refl _ _ | refine Off.u rfl ?_ | refine Off.m rfl ?_))))⟩
    · replace h := M.iteF h hb7
      refine Dw.skip (InB.m (Th.m (Dw.region (Dl.q (Y.add rfl rfl rfl) (Dl.q (Y.mv (v := (vI (wI (q1.2 + 1)))) rfl rfl) (Dl.nil ?_))))))
      exact Th.m ⟨_, h, _, eqUpd rfl (eqUpd rfl (eqMask (by repeat' (first | exact Off.refl _ _ | refine Off.u rfl ?_ | refine Off.m rfl ?_))))⟩
  · replace h := M.iteF h hb8
    refine Dw.exit (Th.e (Th.e (InB.e (Th.m (Dw.seq (Dw.region (Dl.q (Y.mv (v := (Sl.val q1.1)) rfl rfl) (Dl.q (Y.asg (v := (Sl.val q1.1)) rfl rfl) (Dl.nil (Th.m (Dw.ret ?_)))))))))))
    exact fin1 rfl ⟨_, rfl, h⟩
set_option maxHeartbeats 1000000 in
set_option maxRecDepth 20000 in
theorem parts_Norm {p0 : (Nat → Int)} {w : World} {R : ((Nat → Int) × Int) → World → Prop} (h : S.parts_Norm p0 w R) : Calls Try.prog 50 [(.agg (Ar.cs p0).toArray)].toArray w (Ret (fun x : ((Nat → Int) × Int) => .tuple #[(.agg (Ar.cs x.1).toArray), (vI x.2)]) R) := by
  refine calls_of Try.func50 rfl rfl rfl (by kernel_rfl) rfl ?_
  unfold S.parts_Norm at h
  refine Dw.seq (Dw.region ?_)
  refine Dl.n (N.box rfl h rfl rfl fun b1 _ h => ?_)
  refine Dl.n (N.new rfl Try.zeroValue22 h (by kernel_rfl) fun b2 _ h => ?_)
  refine Dl.q (Y.asg (v := (vI 0)) rfl rfl) (Dl.nil (Th.m (Dw.seq (Dw.region (Dl.q (Y.mkF rfl rfl) ?_)))))
  refine Dl.n (N.call rfl Try.call76 rfl h ?_)
  intro r3 w h
  refine Dl.q (Y.ext rfl rfl rfl) (Dl.q (Y.ext rfl rfl rfl) ?_)
  refine Dl.n (N.stA rfl Try.sizeOf22 h rfl rfl (Ar_len _) (Ar_one _) fun h => ?_)
  generalize setCells _ _ _ _ = w at h ⊢
  refine Dl.q (Y.asg (v := (vI r3.2)) rfl rfl) (Dl.nil (Th.m (Dw.ret ?_)))
  obtain ⟨v4, hc, h⟩ := h
  exact finC2 Try.isAgg22 Try.sizeOf22 (Ar_len _) rfl rfl hc ⟨_, rfl, h⟩
set_option maxHeartbeats 1000000 in
set_option maxRecDepth 20000 in
theorem spec_Name {p0 : ByteArray} {w : World} {R : Bool → World → Prop} (h : S.spec_Name p0 w R) : Calls Try.prog 51 [(Value.string p0)].toArray w (Ret Value.bool R) := by
  refine calls_of Try.func51 rfl rfl rfl (by kernel_rfl) rfl ?_
  unfold S.spec_Name at h
  refine Dw.seq (Dw.region (Dl.q (Y.asg (v := (Value.bool false)) rfl rfl) (Dl.nil (Th.m (Dw.seq (Dw.region (Dl.q (Y.mv (v := (Value.string p0)) rfl rfl) (Dl.q (Y.neS rfl rfl rfl) (Dl.q (Y.mv (v := (Value.bool (!(ByteArray.toList p0 == ByteArray.toList (⟨#[]⟩ : ByteArray))))) rfl rfl) ?_)))))))))
  refine M.split h (fun hb1 h => ?_) (fun hb1 h => ?_)
  · refine Dl.q (Y.mv (v := (Value.string p0)) (wantG rfl rfl hb1) rfl) (Dl.q (Y.lenS (wantG rfl rfl hb1) Try.runUnderlying9 rfl) (Dl.q (Y.leq (wantG rfl rfl hb1) rfl rfl) (Dl.q (Y.pickT (v := (Value.bool (decide ((p0.size : Int) ≤ 32)))) rfl rfl hb1 rfl) (Dl.q (Y.mv (v := (Value.bool (decide ((p0.size : Int) ≤ 32)))) rfl rfl) ?_))))
    refine M.split h (fun hb2 h => ?_) (fun hb2 h => ?_)
    · refine Dl.q (Y.mv (v := (Value.string p0)) (wantG rfl rfl hb2) rfl) ?_
      refine Dl.n (N.call (wantG rfl rfl hb2) Try.call78 rfl h ?_)
      intro r3 w h
      refine Dl.q (Y.mv (v := (Value.string p0)) (wantG rfl rfl hb2) rfl) (Dl.q (Y.lenS (wantG rfl rfl hb2) Try.runUnderlying9 rfl) (Dl.q (Y.eqI (wantG rfl rfl hb2) rfl rfl) (Dl.q (Y.pickT (v := (Value.bool (decide (r3 = (p0.size : Int))))) rfl rfl hb2 rfl) (Dl.q (Y.asg (v := (Value.bool (decide (r3 = (p0.size : Int))))) rfl rfl) (Dl.nil (Th.m (Dw.ret ?_)))))))
      exact fin1 rfl ⟨_, rfl, h⟩
    · refine Dl.q (Y.skip (unwantG rfl rfl hb2)) (Dl.q (Y.skip (unwantG rfl rfl hb2)) (Dl.q (Y.skip (unwantG rfl rfl hb2)) (Dl.q (Y.skip (unwantG rfl rfl hb2)) (Dl.q (Y.skip (unwantG rfl rfl hb2)) (Dl.q (Y.pickF (v := (Value.bool false)) rfl rfl hb2 rfl) (Dl.q (Y.asg (v := (Value.bool false)) rfl rfl) (Dl.nil (Th.m (Dw.ret ?_)))))))))
      exact fin1 rfl ⟨_, rfl, h⟩
  · refine Dl.q (Y.skip (unwantG rfl rfl hb1)) (Dl.q (Y.skip (unwantG rfl rfl hb1)) (Dl.q (Y.skip (unwantG rfl rfl hb1)) (Dl.q (Y.pickF (v := (Value.bool false)) rfl rfl hb1 rfl) (Dl.q (Y.mv (v := (Value.bool false)) rfl rfl) (Dl.q (Y.skip (unwantG rfl rfl rfl)) (Dl.q (Y.skip (unwantG rfl rfl rfl)) (Dl.q (Y.skip (unwantG rfl rfl rfl)) (Dl.q (Y.skip (unwantG rfl rfl rfl)) (Dl.q (Y.skip (unwantG rfl rfl rfl)) (Dl.q (Y.pickF (v := (Value.bool false)) rfl rfl rfl rfl) (Dl.q (Y.asg (v := (Value.bool false)) rfl rfl) (Dl.nil ?_))))))))))))
    refine Th.m (Dw.ret ?_)
    exact fin1 rfl ⟨_, rfl, h⟩
set_option maxHeartbeats 1000000 in
set_option maxRecDepth 20000 in
theorem slices_Contains_Lstringstring {p0 : Sl} {p1 : ByteArray} {w : World} {R : Bool → World → Prop} (h : S.slices_Contains_Lstringstring p0 p1 w R) : Calls Try.prog 52 [(Sl.val p0), (Value.string p1)].toArray w (Ret Value.bool R) := by
  refine calls_of Try.func52 rfl rfl rfl (by kernel_rfl) rfl ?_
  unfold S.slices_Contains_Lstringstring at h
  refine Dw.seq (Dw.region (Dl.q (Y.asg (v := (Value.bool false)) rfl rfl) (Dl.nil (Th.m (Dw.seq (Dw.region (Dl.q (Y.mv (v := (Sl.val p0)) rfl rfl) (Dl.q (Y.mv (v := (Value.string p1)) rfl rfl) ?_))))))))
  refine Dl.n (N.call rfl Try.call79 rfl h ?_)
  intro r1 w h
  refine Dl.q (Y.geq rfl rfl rfl) (Dl.q (Y.asg (v := (Value.bool (decide (0 ≤ r1)))) rfl rfl) (Dl.nil (Th.m (Dw.ret ?_))))
  exact fin1 rfl ⟨_, rfl, h⟩
set_option maxHeartbeats 1000000 in
set_option maxRecDepth 20000 in
theorem slices_SortStableFunc_Lintint {p0 : Sl} {p1 : Value} {w : World} {R : Unit → World → Prop} (h : S.slices_SortStableFunc_Lintint p0 p1 w R) : Calls Try.prog 53 [(Sl.val p0), p1].toArray w (Ret vUnit R) := by
  refine calls_of Try.func53 rfl rfl rfl (by kernel_rfl) rfl ?_
  unfold S.slices_SortStableFunc_Lintint at h
  refine Dw.region (Dl.q (Y.mv (v := (Sl.val p0)) rfl rfl) (Dl.q (Y.mv (v := (Sl.val p0)) rfl rfl) (Dl.q (Y.len rfl Try.runUnderlying24 rfl) (Dl.q (Y.mv (v := p1) rfl rfl) ?_))))
  refine Dl.n (N.call rfl Try.call80 rfl h ?_)
  intro r1 w h
  refine Dl.nil ?_
  exact fin0 ⟨(), rfl, h⟩
set_option maxHeartbeats 1000000 in
set_option maxRecDepth 20000 in
theorem hopcroft_newParter_c1 {p0 : Int} {p1 : Int} {c0 : Addr} {w : World} {R : Int → World → Prop} (h : S.hopcroft_newParter_c1 p0 p1 c0 w R) : Calls Try.prog 54 [(vI p0), (vI p1), (vA c0)].toArray w (Ret vI R) := by
  refine calls_of Try.func54 rfl rfl rfl (by kernel_rfl) rfl ?_
  unfold S.hopcroft_newParter_c1 at h
  refine Dw.seq (Dw.region (Dl.q (Y.asg (v := (vI 0)) rfl rfl) (Dl.nil (Th.m (Dw.seq (Dw.game (by kernel_rfl) ?_))))))
  replace h := M.drew_un h
  generalize World.drew _ = w at h ⊢
  obtain ⟨x1, hcx1, h⟩ := h
  refine Gm.quiet 0 rfl (by kernel_rfl) (fun _ hw => Y.ld rfl Try.isAgg45 rfl hw) hcx1 ?_
  obtain ⟨a2, ha, h⟩ := h
  refine Gm.pure 1 rfl (by kernel_rfl) (fun _ => Y.nn rfl rfl ha) (Gm.pure 2 rfl (by kernel_rfl) (fun _ => Y.fa 2 rfl Try.runUnderlying52 rfl Try.sizeOf24 (by decide) rfl rfl) ?_)
  obtain ⟨x3, hcx3, h⟩ := h
  refine Gm.quiet 3 rfl (by kernel_rfl) (fun _ hw => Y.ld rfl Try.isAgg24 rfl hw) hcx3 (Gm.pure 4 rfl (by kernel_rfl) (fun _ => Y.mv (v := (vI p0)) rfl rfl) ?_)
  obtain ⟨a4, a40, ha, hi, he, h⟩ := h
  refine Gm.pure 5 rfl (by kernel_rfl) (fun _ => Y.ix rfl Try.runUnderlying24 Try.sizeOf3 rfl rfl ha hi he) ?_
  obtain ⟨x5, hcx5, h⟩ := h
  refine Gm.quiet 6 rfl (by kernel_rfl) (fun _ hw => Y.ld rfl Try.isAgg3 rfl hw) hcx5 ?_
  obtain ⟨x6, hcx6, h⟩ := h
  refine Gm.quiet 7 rfl (by kernel_rfl) (fun _ hw => Y.ld rfl Try.isAgg45 rfl hw) hcx6 ?_
  obtain ⟨a7, ha, h⟩ := h
  refine Gm.pure 8 rfl (by kernel_rfl) (fun _ => Y.nn rfl rfl ha) (Gm.pure 9 rfl (by kernel_rfl) (fun _ => Y.fa 2 rfl Try.runUnderlying52 rfl Try.sizeOf24 (by decide) rfl rfl) ?_)
  obtain ⟨x8, hcx8, h⟩ := h
  refine Gm.quiet 10 rfl (by kernel_rfl) (fun _ hw => Y.ld rfl Try.isAgg24 rfl hw) hcx8 (Gm.pure 11 rfl (by kernel_rfl) (fun _ => Y.mv (v := (vI p1)) rfl rfl) ?_)
  obtain ⟨a9, a90, ha, hi, he, h⟩ := h
  refine Gm.pure 12 rfl (by kernel_rfl) (fun _ => Y.ix rfl Try.runUnderlying24 Try.sizeOf3 rfl rfl ha hi he) ?_
  obtain ⟨x10, hcx10, h⟩ := h
  refine Gm.quiet 13 rfl (by kernel_rfl) (fun _ hw => Y.ld rfl Try.isAgg3 rfl hw) hcx10 (Gm.pure 14 rfl (by kernel_rfl) (fun _ => Y.sub rfl rfl rfl) (Gm.pure 15 rfl (by kernel_rfl) (fun _ => Y.asg (v := (vI (wI (x5 - x10)))) rfl rfl) (Gm.end (by kernel_rfl) (Th.m (Dw.ret ?_)))))
  exact fin1 rfl ⟨_, rfl, h⟩
set_option maxHeartbeats 1000000 in
set_option maxRecDepth 20000 in
theorem hopcroft_parter_inside {p0 : Option Addr} {p1 : Int} {w : World} {R : Sl → World → Prop} (h : S.hopcroft_parter_inside p0 p1 w R) : Calls Try.prog 55 [(vP p0), (vI p1)].toArray w (Ret Sl.val R) := by
  refine calls_of Try.func55 rfl rfl rfl (by kernel_rfl) rfl ?_
  unfold S.hopcroft_parter_inside at h
  refine Dw.seq (Dw.region (Dl.q (Y.asg (v := (Sl.val Sl.nil)) rfl rfl) (Dl.nil (Th.m (Dw.seq (Dw.region (Dl.q (Y.mv (v := (vP p0)) rfl rfl) ?_)))))))
  obtain ⟨a1, ha, h⟩ := h
  refine Dl.q (Y.nn rfl rfl ha) (Dl.q (Y.fa 3 rfl Try.runUnderlying52 rfl Try.sizeOf47 (by decide) rfl rfl) ?_)
  obtain ⟨x2, hcx2, h⟩ := h
  refine Dl.q (Y.ld rfl Try.isAgg47 rfl hcx2) (Dl.q (Y.mv (v := (vI p1)) rfl rfl) ?_)
  obtain ⟨a3, a30, ha, hi, he, h⟩ := h
  refine Dl.q (Y.ix rfl Try.runUnderlying47 Try.sizeOf75 rfl rfl ha hi he) ?_
  obtain ⟨v4, hcv4, h⟩ := h
  refine Dl.q (Y.ldA rfl Try.isAgg75 Try.sizeOf75 (Spv_len _) rfl hcv4) ?_
  refine Dl.n (N.new rfl Try.zeroValue75 h (by kernel_rfl) fun b5 _ h => ?_)
  refine Dl.n (N.stA rfl Try.sizeOf75 h rfl rfl (Spv_len _) (Spv_one _) fun h => ?_)
  generalize setCells _ _ _ _ = w at h ⊢
  refine Dl.nil (Th.m (Dw.seq (Dw.game (by kernel_rfl) ?_)))
  replace h := M.drew_un h
  generalize World.drew _ = w at h ⊢
  refine Gm.pure 0 rfl (by kernel_rfl) (fun _ => Y.mv (v := (vP p0)) rfl rfl) ?_
  obtain ⟨a6, ha, h⟩ := h
  refine Gm.pure 1 rfl (by kernel_rfl) (fun _ => Y.nn rfl rfl ha) (Gm.pure 2 rfl (by kernel_rfl) (fun _ => Y.fa 0 rfl Try.runUnderlying52 rfl Try.sizeOf24 (by decide) rfl rfl) ?_)
  obtain ⟨x7, hcx7, h⟩ := h
  refine Gm.quiet 3 rfl (by kernel_rfl) (fun _ hw => Y.ld rfl Try.isAgg24 rfl hw) hcx7 (Gm.pure 4 rfl (by kernel_rfl) (fun _ => Y.fa 0 rfl Try.runUnderlying75 rfl Try.sizeOf3 (by decide) rfl rfl) ?_)
  obtain ⟨x8, hcx8, h⟩ := h
  refine Gm.quiet 5 rfl (by kernel_rfl) (fun _ hw => Y.ld rfl Try.isAgg3 rfl hw) hcx8 (Gm.pure 6 rfl (by kernel_rfl) (fun _ => Y.fa 1 rfl Try.runUnderlying75 rfl Try.sizeOf3 (by decide) rfl rfl) ?_)
  obtain ⟨x9, hcx9, h⟩ := h
  refine Gm.quiet 7 rfl (by kernel_rfl) (fun _ hw => Y.ld rfl Try.isAgg3 rfl hw) hcx9 (Gm.pure 8 rfl (by kernel_rfl) (fun _ => Y.fa 1 rfl Try.runUnderlying75 rfl Try.sizeOf3 (by decide) rfl rfl) ?_)
  obtain ⟨x10, hcx10, h⟩ := h
  refine Gm.quiet 9 rfl (by kernel_rfl) (fun _ hw => Y.ld rfl Try.isAgg3 rfl hw) hcx10 ?_
  obtain ⟨s11, hi, he, h⟩ := h
  refine Gm.pure 10 rfl (by kernel_rfl) (fun _ => Y.cut111 rfl Try.runUnderlying24 rfl Try.sizeOf3 rfl rfl rfl hi he) (Gm.pure 11 rfl (by kernel_rfl) (fun _ => Y.asg (v := (Sl.val s11)) rfl rfl) (Gm.end (by kernel_rfl) (Th.m (Dw.ret ?_))))
  exact fin1 rfl ⟨_, rfl, h⟩
set_option maxHeartbeats 1000000 in
set_option maxRecDepth 20000 in
theorem hopcroft_parter_mark {p0 : Option Addr} {p1 : Int} {w : World} {R : Bool → World → Prop} (h : S.hopcroft_parter_mark p0 p1 w R) : Calls Try.prog 56 [(vP p0), (vI p1)].toArray w (Ret Value.bool R) := by
  refine calls_of Try.func56 rfl rfl rfl (by kernel_rfl) rfl ?_
  unfold S.hopcroft_parter_mark at h
  refine Dw.seq (Dw.region (Dl.q (Y.asg (v := (Value.bool false)) rfl rfl) (Dl.nil (Th.m (Dw.seq (Dw.game (by kernel_rfl) ?_))))))
  replace h := M.drew_un h
  generalize World.drew _ = w at h ⊢
  refine Gm.pure 0 rfl (by kernel_rfl) (fun _ => Y.mv (v := (vP p0)) rfl rfl) ?_
  obtain ⟨a1, ha, h⟩ := h
  refine Gm.pure 1 rfl (by kernel_rfl) (fun _ => Y.nn rfl rfl ha) (Gm.pure 2 rfl (by kernel_rfl) (fun _ => Y.fa 3 rfl Try.runUnderlying52 rfl Try.sizeOf47 (by decide) rfl rfl) ?_)
  obtain ⟨x2, hcx2, h⟩ := h
  refine Gm.quiet 3 rfl (by kernel_rfl) (fun _ hw => Y.ld rfl Try.isAgg47 rfl hw) hcx2 (Gm.pure 4 rfl (by kernel_rfl) (fun _ => Y.mv (v := (vP p0)) rfl rfl) ?_)
  obtain ⟨a3, ha, h⟩ := h
  refine Gm.pure 5 rfl (by kernel_rfl) (fun _ => Y.nn rfl rfl ha) (Gm.pure 6 rfl (by kernel_rfl) (fun _ => Y.fa 2 rfl Try.runUnderlying52 rfl Try.sizeOf24 (by decide) rfl rfl) ?_)
  obtain ⟨x4, hcx4, h⟩ := h
  refine Gm.quiet 7 rfl (by kernel_rfl) (fun _ hw => Y.ld rfl Try.isAgg24 rfl hw) hcx4 (Gm.pure 8 rfl (by kernel_rfl) (fun _ => Y.mv (v := (vI p1)) rfl rfl) ?_)
  obtain ⟨a5, a50, ha, hi, he, h⟩ := h
  refine Gm.pure 9 rfl (by kernel_rfl) (fun _ => Y.ix rfl Try.runUnderlying24 Try.sizeOf3 rfl rfl ha hi he) ?_
  obtain ⟨x6, hcx6, h⟩ := h
  refine Gm.quiet 10 rfl (by kernel_rfl) (fun _ hw => Y.ld rfl Try.isAgg3 rfl hw) hcx6 ?_
  obtain ⟨a7, a70, ha, hi, he, h⟩ := h
  refine Gm.pure 11 rfl (by kernel_rfl) (fun _ => Y.ix rfl Try.runUnderlying47 Try.sizeOf75 rfl rfl ha hi he) (Gm.pure 12 rfl (by kernel_rfl) (fun _ => Y.asg (v := (vA a7)) rfl rfl) (Gm.end (by kernel_rfl) (Th.m (Dw.seq (Dw.game (by kernel_rfl) ?_)))))
  replace h := M.drew_un h
  generalize World.drew _ = w at h ⊢
  refine Gm.pure 0 rfl (by kernel_rfl) (fun _ => Y.mv (v := (vA a7)) rfl rfl) (Gm.pure 1 rfl (by kernel_rfl) (fun _ => Y.nn rfl rfl rfl) (Gm.pure 2 rfl (by kernel_rfl) (fun _ => Y.fa 0 rfl Try.runUnderlying75 rfl Try.sizeOf3 (by decide) rfl rfl) ?_))
  obtain ⟨x8, hcx8, h⟩ := h
  refine Gm.quiet 3 rfl (by kernel_rfl) (fun _ hw => Y.ld rfl Try.isAgg3 rfl hw) hcx8 (Gm.pure 4 rfl (by kernel_rfl) (fun _ => Y.mv (v := (vA a7)) rfl rfl) (Gm.pure 5 rfl (by kernel_rfl) (fun _ => Y.nn rfl rfl rfl) (Gm.pure 6 rfl (by kernel_rfl) (fun _ => Y.fa 2 rfl Try.runUnderlying75 rfl Try.sizeOf3 (by decide) rfl rfl) ?_)))
  obtain ⟨x9, hcx9, h⟩ := h
  refine Gm.quiet 7 rfl (by kernel_rfl) (fun _ hw => Y.ld rfl Try.isAgg3 rfl hw) hcx9 (Gm.pure 8 rfl (by kernel_rfl) (fun _ => Y.add rfl rfl rfl) (Gm.pure 9 rfl (by kernel_rfl) (fun _ => Y.asg (v := (vI (wI (x8 + x9)))) rfl rfl) (Gm.end (by kernel_rfl) (Th.m (Dw.seq (Dw.seq (Dw.region (Dl.q (Y.mv (v := (vP p0)) rfl rfl) ?_))))))))
  obtain ⟨a10, ha, h⟩ := h
  refine Dl.q (Y.nn rfl rfl ha) (Dl.q (Y.fa 1 rfl Try.runUnderlying52 rfl Try.sizeOf24 (by decide) rfl rfl) ?_)
  obtain ⟨x11, hcx11, h⟩ := h
  refine Dl.q (Y.ld rfl Try.isAgg24 rfl hcx11) (Dl.q (Y.mv (v := (vI p1)) rfl rfl) ?_)
  obtain ⟨a12, a120, ha, hi, he, h⟩ := h
  refine Dl.q (Y.ix rfl Try.runUnderlying24 Try.sizeOf3 rfl rfl ha hi he) ?_
  obtain ⟨x13, hcx13, h⟩ := h
  refine Dl.q (Y.ld rfl Try.isAgg3 rfl hcx13) (Dl.q (Y.mv (v := (vI (wI (x8 + x9)))) rfl rfl) (Dl.q (Y.lss rfl rfl rfl) (Dl.nil (Th.m ?_))))
  refine Dw.cond rfl (fun hb39 => ?_) (fun hb39 => ?_)
  · replace h := M.iteT h hb39
    refine Dw.seq (Dw.region (Dl.q (Y.asg (v := (Value.bool false)) rfl rfl) (Dl.nil (Th.m (Dw.ret (Th.r ?_))))))
    exact fin1 rfl ⟨_, rfl, h⟩
  · replace h := M.iteF h hb39
    refine Dw.skip (Th.m (Dw.seq (Dw.region (Dl.q (Y.mv (v := (vP p0)) rfl rfl) ?_))))
    obtain ⟨a14, ha, h⟩ := h
    refine Dl.q (Y.nn rfl rfl ha) (Dl.q (Y.fa 0 rfl Try.runUnderlying52 rfl Try.sizeOf24 (by decide) rfl rfl) ?_)
    obtain ⟨x15, hcx15, h⟩ := h
    refine Dl.q (Y.ld rfl Try.isAgg24 rfl hcx15) (Dl.q (Y.mv (v := (vI (wI (x8 + x9)))) rfl rfl) ?_)
    obtain ⟨a16, a160, ha, hi, he, h⟩ := h
    refine Dl.q (Y.ix rfl Try.runUnderlying24 Try.sizeOf3 rfl rfl ha hi he) ?_
    obtain ⟨x17, hcx17, h⟩ := h
    refine Dl.q (Y.ld rfl Try.isAgg3 rfl hcx17) (Dl.q (Y.asg (v := (vI x17)) rfl rfl) (Dl.nil (Th.m (Dw.seq (Dw.game (by kernel_rfl) ?_)))))
    replace h := M.drew_un h
    generalize World.drew _ = w at h ⊢
    refine Gm.pure 0 rfl (by kernel_rfl) (fun _ => Y.mv (v := (vP p0)) rfl rfl) ?_
    obtain ⟨a18, ha, h⟩ := h
    refine Gm.pure 1 rfl (by kernel_rfl) (fun _ => Y.nn rfl rfl ha) (Gm.pure 2 rfl (by kernel_rfl) (fun _ => Y.fa 0 rfl Try.runUnderlying52 rfl Try.sizeOf24 (by decide) rfl rfl) ?_)
    obtain ⟨x19, hcx19, h⟩ := h
    refine Gm.quiet 3 rfl (by kernel_rfl) (fun _ hw => Y.ld rfl Try.isAgg24 rfl hw) hcx19 (Gm.pure 4 rfl (by kernel_rfl) (fun _ => Y.mv (v := (vI (wI (x8 + x9)))) rfl rfl) (Gm.pure 5 rfl (by kernel_rfl) (fun _ => Y.mv (v := (vP p0)) rfl rfl) ?_))
    obtain ⟨a20, ha, h⟩ := h
    refine Gm.pure 6 rfl (by kernel_rfl) (fun _ => Y.nn rfl rfl ha) (Gm.pure 7 rfl (by kernel_rfl) (fun _ => Y.fa 0 rfl Try.runUnderlying52 rfl Try.sizeOf24 (by decide) rfl rfl) ?_)
    obtain ⟨x21, hcx21, h⟩ := h
    refine Gm.quiet 8 rfl (by kernel_rfl) (fun _ hw => Y.ld rfl Try.isAgg24 rfl hw) hcx21 (Gm.pure 9 rfl (by kernel_rfl) (fun _ => Y.mv (v := (vP p0)) rfl rfl) ?_)
    obtain ⟨a22, ha, h⟩ := h
    refine Gm.pure 10 rfl (by kernel_rfl) (fun _ => Y.nn rfl rfl ha) (Gm.pure 11 rfl (by kernel_rfl) (fun _ => Y.fa 1 rfl Try.runUnderlying52 rfl Try.sizeOf24 (by decide) rfl rfl) ?_)
    obtain ⟨x23, hcx23, h⟩ := h
    refine Gm.quiet 12 rfl (by kernel_rfl) (fun _ hw => Y.ld rfl Try.isAgg24 rfl hw) hcx23 (Gm.pure 13 rfl (by kernel_rfl) (fun _ => Y.mv (v := (vI p1)) rfl rfl) ?_)
    obtain ⟨a24, a240, ha, hi, he, h⟩ := h
    refine Gm.pure 14 rfl (by kernel_rfl) (fun _ => Y.ix rfl Try.runUnderlying24 Try.sizeOf3 rfl rfl ha hi he) ?_
    obtain ⟨x25, hcx25, h⟩ := h
    refine Gm.quiet 15 rfl (by kernel_rfl) (fun _ hw => Y.ld rfl Try.isAgg3 rfl hw) hcx25 (Gm.pure 16 rfl (by kernel_rfl) (fun _ => Y.mv (v := (vI p1)) rfl rfl) (Gm.pure 17 rfl (by kernel_rfl) (fun _ => Y.mv (v := (vI x17)) rfl rfl) ?_))
    obtain ⟨a26, a260, ha, hi, he, h⟩ := h
    refine Gm.pure 18 rfl (by kernel_rfl) (fun _ => Y.ix rfl Try.runUnderlying24 Try.sizeOf3 rfl rfl ha hi he) (Gm.one' 19 rfl (by kernel_rfl) (.drop (by kernel_rfl) (.drop (by kernel_rfl) (.drop (by kernel_rfl) (.drop (by kernel_rfl) .nil)))) ?_)
    refine N.st rfl Try.sizeOf3 h rfl rfl rfl rfl rfl fun h => ?_
    refine ⟨pdN, ?_⟩
    generalize World.setCell _ _ _ = w at h ⊢
    obtain ⟨a27, a270, ha, hi, he, h⟩ := h
    refine Gm.pure 20 rfl (by kernel_rfl) (fun _ => Y.ix rfl Try.runUnderlying24 Try.sizeOf3 rfl rfl ha hi he) (Gm.one' 21 rfl (by kernel_rfl) .nil ?_)
    refine N.st rfl Try.sizeOf3 h rfl rfl rfl rfl rfl fun h => ?_
    refine ⟨pdN, ?_⟩
    generalize World.setCell _ _ _ = w at h ⊢
    refine Gm.end (by kernel_rfl) (Th.m (Dw.seq (Dw.game (by kernel_rfl) ?_)))
    replace h := M.drew_un h
    generalize World.drew _ = w at h ⊢
    refine Gm.pure 0 rfl (by kernel_rfl) (fun _ => Y.mv (v := (vP p0)) rfl rfl) ?_
    obtain ⟨a28, ha, h⟩ := h
    refine Gm.pure 1 rfl (by kernel_rfl) (fun _ => Y.nn rfl rfl ha) (Gm.pure 2 rfl (by kernel_rfl) (fun _ => Y.fa 1 rfl Try.runUnderlying52 rfl Try.sizeOf24 (by decide) rfl rfl) ?_)
    obtain ⟨x29, hcx29, h⟩ := h
    refine Gm.quiet 3 rfl (by kernel_rfl) (fun _ hw => Y.ld rfl Try.isAgg24 rfl hw) hcx29 (Gm.pure 4 rfl (by kernel_rfl) (fun _ => Y.mv (v := (vI x17)) rfl rfl) (Gm.pure 5 rfl (by kernel_rfl) (fun _ => Y.mv (v := (vP p0)) rfl rfl) ?_))
    obtain ⟨a30, ha, h⟩ := h
    refine Gm.pure 6 rfl (by kernel_rfl) (fun _ => Y.nn rfl rfl ha) (Gm.pure 7 rfl (by kernel_rfl) (fun _ => Y.fa 1 rfl Try.runUnderlying52 rfl Try.sizeOf24 (by decide) rfl rfl) ?_)
    obtain ⟨x31, hcx31, h⟩ := h
    refine Gm.quiet 8 rfl (by kernel_rfl) (fun _ hw => Y.ld rfl Try.isAgg24 rfl hw) hcx31 (Gm.pure 9 rfl (by kernel_rfl) (fun _ => Y.mv (v := (vI p1)) rfl rfl) (Gm.pure 10 rfl (by kernel_rfl) (fun _ => Y.mv (v := (vP p0)) rfl rfl) ?_))
    obtain ⟨a32, ha, h⟩ := h
    refine Gm.pure 11 rfl (by kernel_rfl) (fun _ => Y.nn rfl rfl ha) (Gm.pure 12 rfl (by kernel_rfl) (fun _ => Y.fa 1 rfl Try.runUnderlying52 rfl Try.sizeOf24 (by decide) rfl rfl) ?_)
    obtain ⟨x33, hcx33, h⟩ := h
    refine Gm.quiet 13 rfl (by kernel_rfl) (fun _ hw => Y.ld rfl Try.isAgg24 rfl hw) hcx33 (Gm.pure 14 rfl (by kernel_rfl) (fun _ => Y.mv (v := (vI p1)) rfl rfl) ?_)
    obtain ⟨a34, a340, ha, hi, he, h⟩ := h
    refine Gm.pure 15 rfl (by kernel_rfl) (fun _ => Y.ix rfl Try.runUnderlying24 Try.sizeOf3 rfl rfl ha hi he) ?_
    obtain ⟨x35, hcx35, h⟩ := h
    refine Gm.quiet 16 rfl (by kernel_rfl) (fun _ hw => Y.ld rfl Try.isAgg3 rfl hw) hcx35 (Gm.pure 17 rfl (by kernel_rfl) (fun _ => Y.mv (v := (vI (wI (x8 + x9)))) rfl rfl) ?_)
    obtain ⟨a36, a360, ha, hi, he, h⟩ := h
    refine Gm.pure 18 rfl (by kernel_rfl) (fun _ => Y.ix rfl Try.runUnderlying24 Try.sizeOf3 rfl rfl ha hi he) (Gm.one' 19 rfl (by kernel_rfl) (.drop (by kernel_rfl) (.drop (by kernel_rfl) (.drop (by kernel_rfl) (.drop (by kernel_rfl) .nil)))) ?_)
    refine N.st rfl Try.sizeOf3 h rfl rfl rfl rfl rfl fun h => ?_
    refine ⟨pdN, ?_⟩
    generalize World.setCell _ _ _ = w at h ⊢
    obtain ⟨a37, a370, ha, hi, he, h⟩ := h
    refine Gm.pure 20 rfl (by kernel_rfl) (fun _ => Y.ix rfl Try.runUnderlying24 Try.sizeOf3 rfl rfl ha hi he) (Gm.one' 21 rfl (by kernel_rfl) .nil ?_)
    refine N.st rfl Try.sizeOf3 h rfl rfl rfl rfl rfl fun h => ?_
    refine ⟨pdN, ?_⟩
    generalize World.setCell _ _ _ = w at h ⊢
    refine Gm.end (by kernel_rfl) (Th.m (Dw.seq (Dw.region (Dl.q (Y.mv (v := (vA a7)) rfl rfl) (Dl.q (Y.nn rfl rfl rfl) (Dl.q (Y.fa 2 rfl Try.runUnderlying75 rfl Try.sizeOf3 (by decide) rfl rfl) ?_))))))
    obtain ⟨x38, hcx38, h⟩ := h
    refine Dl.q (Y.ld rfl Try.isAgg3 rfl hcx38) (Dl.q (Y.add rfl rfl rfl) (Dl.q (Y.nn rfl rfl rfl) (Dl.q (Y.fa 2 rfl Try.runUnderlying75 rfl Try.sizeOf3 (by decide) rfl rfl) ?_)))
    refine Dl.n (N.st rfl Try.sizeOf3 h rfl rfl rfl rfl rfl fun h => ?_)
    refine Dl.nil (Th.m (Dw.seq (Dw.region (Dl.q (Y.asg (v := (Value.bool true)) rfl rfl) (Dl.nil (Th.m (Dw.ret ?_)))))))
    exact fin1 rfl ⟨_, rfl, h⟩
set_option maxHeartbeats 1000000 in
set_option maxRecDepth 20000 in
theorem hopcroft_parter_part {p0 : Option Addr} {p1 : Int} {w : World} {R : Int → World → Prop} (h : S.hopcroft_parter_part p0 p1 w R) : Calls Try.prog 57 [(vP p0), (vI p1)].toArray w (Ret vI R) := by
  refine calls_of Try.func57 rfl rfl rfl (by kernel_rfl) rfl ?_
  unfold S.hopcroft_parter_part at h
  refine Dw.seq (Dw.region (Dl.q (Y.asg (v := (vI 0)) rfl rfl) (Dl.nil (Th.m (Dw.seq (Dw.region (Dl.q (Y.mv (v := (vP p0)) rfl rfl) ?_)))))))
  obtain ⟨a1, ha, h⟩ := h
  refine Dl.q (Y.nn rfl rfl ha) (Dl.q (Y.fa 3 rfl Try.runUnderlying52 rfl Try.sizeOf47 (by decide) rfl rfl) ?_)
  obtain ⟨x2, hcx2, h⟩ := h
  refine Dl.q (Y.ld rfl Try.isAgg47 rfl hcx2) (Dl.q (Y.mv (v := (vI p1)) rfl rfl) ?_)
  obtain ⟨a3, a30, ha, hi, he, h⟩ := h
  refine Dl.q (Y.ix rfl Try.runUnderlying47 Try.sizeOf75 rfl rfl ha hi he) (Dl.q (Y.asg (v := (vA a3)) rfl rfl) (Dl.nil (Th.m (Dw.seq (Dw.region (Dl.q (Y.mv (v := (vA a3)) rfl rfl) (Dl.q (Y.nn rfl rfl rfl) (Dl.q (Y.fa 2 rfl Try.runUnderlying75 rfl Try.sizeOf3 (by decide) rfl rfl) ?_))))))))
  obtain ⟨x4, hcx4, h⟩ := h
  refine Dl.q (Y.ld rfl Try.isAgg3 rfl hcx4) (Dl.q (Y.asg (v := (vI x4)) rfl rfl) (Dl.nil (Th.m (Dw.seq (Dw.region (Dl.q (Y.mv (v := (vA a3)) rfl rfl) (Dl.q (Y.nn rfl rfl rfl) (Dl.q (Y.fa 2 rfl Try.runUnderlying75 rfl Try.sizeOf3 (by decide) rfl rfl) ?_))))))))
  refine Dl.n (N.st rfl Try.sizeOf3 h rfl rfl rfl rfl rfl fun h => ?_)
  refine Dl.nil (Th.m (Dw.seq (Dw.seq (Dw.game (by kernel_rfl) ?_))))
  replace h := M.drew_un h
  generalize World.drew _ = w at h ⊢
  refine Gm.pure 0 rfl (by kernel_rfl) (fun _ => Y.mv (v := (vI x4)) rfl rfl) (Gm.pure 1 rfl (by kernel_rfl) (fun _ => Y.mv (v := (vA a3)) rfl rfl) (Gm.pure 2 rfl (by kernel_rfl) (fun _ => Y.nn rfl rfl rfl) (Gm.pure 3 rfl (by kernel_rfl) (fun _ => Y.fa 1 rfl Try.runUnderlying75 rfl Try.sizeOf3 (by decide) rfl rfl) ?_)))
  obtain ⟨x5, hcx5, h⟩ := h
  refine Gm.quiet 4 rfl (by kernel_rfl) (fun _ hw => Y.ld rfl Try.isAgg3 rfl hw) hcx5 (Gm.pure 5 rfl (by kernel_rfl) (fun _ => Y.mv (v := (vA a3)) rfl rfl) (Gm.pure 6 rfl (by kernel_rfl) (fun _ => Y.nn rfl rfl rfl) (Gm.pure 7 rfl (by kernel_rfl) (fun _ => Y.fa 0 rfl Try.runUnderlying75 rfl Try.sizeOf3 (by decide) rfl rfl) ?_)))
  obtain ⟨x6, hcx6, h⟩ := h
  refine Gm.quiet 8 rfl (by kernel_rfl) (fun _ hw => Y.ld rfl Try.isAgg3 rfl hw) hcx6 (Gm.pure 9 rfl (by kernel_rfl) (fun _ => Y.sub rfl rfl rfl) (Gm.pure 10 rfl (by kernel_rfl) (fun _ => Y.eqI rfl rfl rfl) (Gm.end (by kernel_rfl) (Th.m ?_))))
  refine Dw.cond rfl (fun hb31 => ?_) (fun hb31 => ?_)
  · replace h := M.iteT h hb31
    refine Dw.seq (Dw.region (Dl.q (Y.asg (v := (vI (-1))) rfl rfl) (Dl.nil (Th.m (Dw.ret (Th.r ?_))))))
    exact fin1 rfl ⟨_, rfl, h⟩
  · replace h := M.iteF h hb31
    refine Dw.skip (Th.m (Dw.seq (Dw.region (Dl.q (Y.mv (v := (vP p0)) rfl rfl) ?_))))
    obtain ⟨a7, ha, h⟩ := h
    refine Dl.q (Y.nn rfl rfl ha) (Dl.q (Y.fa 3 rfl Try.runUnderlying52 rfl Try.sizeOf47 (by decide) rfl rfl) ?_)
    obtain ⟨x8, hcx8, h⟩ := h
    refine Dl.q (Y.ld rfl Try.isAgg47 rfl hcx8) (Dl.q (Y.len rfl Try.runUnderlying47 rfl) (Dl.q (Y.asg (v := (vI (x8.len : Int))) rfl rfl) (Dl.nil (Th.m (Dw.seq (Dw.game (by kernel_rfl) ?_))))))
    replace h := M.drew_un h
    generalize World.drew _ = w at h ⊢
    refine Gm.pure 0 rfl (by kernel_rfl) (fun _ => Y.mv (v := (vA a3)) rfl rfl) (Gm.pure 1 rfl (by kernel_rfl) (fun _ => Y.nn rfl rfl rfl) (Gm.pure 2 rfl (by kernel_rfl) (fun _ => Y.fa 0 rfl Try.runUnderlying75 rfl Try.sizeOf3 (by decide) rfl rfl) ?_))
    obtain ⟨x9, hcx9, h⟩ := h
    refine Gm.quiet 3 rfl (by kernel_rfl) (fun _ hw => Y.ld rfl Try.isAgg3 rfl hw) hcx9 (Gm.pure 4 rfl (by kernel_rfl) (fun _ => Y.mv (v := (vA a3)) rfl rfl) (Gm.pure 5 rfl (by kernel_rfl) (fun _ => Y.nn rfl rfl rfl) (Gm.pure 6 rfl (by kernel_rfl) (fun _ => Y.fa 0 rfl Try.runUnderlying75 rfl Try.sizeOf3 (by decide) rfl rfl) ?_)))
    obtain ⟨x10, hcx10, h⟩ := h
    refine Gm.quiet 7 rfl (by kernel_rfl) (fun _ hw => Y.ld rfl Try.isAgg3 rfl hw) hcx10 (Gm.pure 8 rfl (by kernel_rfl) (fun _ => Y.mv (v := (vI x4)) rfl rfl) (Gm.pure 9 rfl (by kernel_rfl) (fun _ => Y.add rfl rfl rfl) (Gm.pure 10 rfl (by kernel_rfl) (fun _ => Y.bld [(0, (vI x9)), (1, (vI (wI (x10 + x4))))] rfl rfl (Spv_b01 _ _ _)) (Gm.one' 11 rfl (by kernel_rfl) (.keep (by kernel_rfl) (.keep (by kernel_rfl) .nil)) (N.new rfl Try.zeroValue75 h (by kernel_rfl) fun b11 _ h => ?_)))))
    obtain ⟨hp12, h⟩ := h
    obtain ⟨hp13, h⟩ := h
    refine ⟨(pdC hp12 (pdC hp13 pdN)), ?_⟩
    generalize World.alloc _ _ = w at h ⊢
    refine Gm.one' 12 rfl (by kernel_rfl) (.drop (by kernel_rfl) (.drop (by kernel_rfl) .nil)) ?_
    refine N.stA rfl Try.sizeOf75 h rfl rfl (Spv_len _) (Spv_one _) fun h => ?_
    refine ⟨pdN, ?_⟩
    generalize setCells _ _ _ _ = w at h ⊢
    refine Gm.end (by kernel_rfl) (Th.m (Dw.seq (Dw.region (Dl.q (Y.mv (v := (vA a3)) rfl rfl) (Dl.q (Y.nn rfl rfl rfl) (Dl.q (Y.fa 0 rfl Try.runUnderlying75 rfl Try.sizeOf3 (by decide) rfl rfl) ?_))))))
    obtain ⟨x14, hcx14, h⟩ := h
    refine Dl.q (Y.ld rfl Try.isAgg3 rfl hcx14) (Dl.q (Y.mv (v := (vI x4)) rfl rfl) (Dl.q (Y.add rfl rfl rfl) (Dl.q (Y.nn rfl rfl rfl) (Dl.q (Y.fa 0 rfl Try.runUnderlying75 rfl Try.sizeOf3 (by decide) rfl rfl) ?_))))
    refine Dl.n (N.st rfl Try.sizeOf3 h rfl rfl rfl rfl rfl fun h => ?_)
    refine Dl.nil (Th.m (Dw.seq (Dw.game (by kernel_rfl) ?_)))
    replace h := M.drew_un h
    generalize World.drew _ = w at h ⊢
    refine Gm.pure 0 rfl (by kernel_rfl) (fun _ => Y.mv (v := (vP p0)) rfl rfl) (Gm.pure 1 rfl (by kernel_rfl) (fun _ => Y.mv (v := (vP p0)) rfl rfl) ?_)
    obtain ⟨a15, ha, h⟩ := h
    refine Gm.pure 2 rfl (by kernel_rfl) (fun _ => Y.nn rfl rfl ha) (Gm.pure 3 rfl (by kernel_rfl) (fun _ => Y.fa 3 rfl Try.runUnderlying52 rfl Try.sizeOf47 (by decide) rfl rfl) ?_)
    obtain ⟨x16, hcx16, h⟩ := h
    refine Gm.quiet 4 rfl (by kernel_rfl) (fun _ hw => Y.ld rfl Try.isAgg47 rfl hw) hcx16 ?_
    obtain ⟨v17, hcv17, h⟩ := h
    refine Gm.quiet 5 rfl (by kernel_rfl) (fun _ hw => Y.ldA rfl Try.isAgg75 Try.sizeOf75 (Spv_len _) rfl hw) hcv17 (Gm.one' 6 rfl (by kernel_rfl) (.drop (by kernel_rfl) (.keep (by kernel_rfl) .nil)) (N.mkSA [(Spv.cs v17)] rfl Try.runUnderlying47 Try.sizeOf75 Try.zeroValue75 h rfl rfl rfl (fun _ hq => by simp at hq; subst hq; rfl) rfl rfl fun b18 _ h => ?_))
    obtain ⟨hp19, h⟩ := h
    refine ⟨(pdC hp19 pdN), ?_⟩
    generalize World.alloc _ _ = w at h ⊢
    refine Gm.one' 7 rfl (by kernel_rfl) (.drop (by kernel_rfl) .nil) ?_
    obtain ⟨s20, w, ha, h⟩ := h
    refine N.blt rfl rfl (fun _ => rfl) ha ?_
    refine ⟨pdN, ?_⟩
    obtain ⟨a21, ha, h⟩ := h
    refine Gm.pure 8 rfl (by kernel_rfl) (fun _ => Y.nn rfl rfl ha) (Gm.pure 9 rfl (by kernel_rfl) (fun _ => Y.fa 3 rfl Try.runUnderlying52 rfl Try.sizeOf47 (by decide) rfl rfl) (Gm.one' 10 rfl (by kernel_rfl) .nil ?_))
    refine N.st rfl Try.sizeOf47 h rfl rfl rfl rfl rfl fun h => ?_
    refine ⟨pdN, ?_⟩
    generalize World.setCell _ _ _ = w at h ⊢
    refine Gm.end (by kernel_rfl) (Th.m (Dw.seq (Dw.seq (Dw.region (Dl.q (Y.mv (v := (vP p0)) rfl rfl) (Dl.q (Y.mv (v := (vI (x8.len : Int))) rfl rfl) ?_))))))
    refine Dl.n (N.call rfl Try.call55 rfl h ?_)
    intro r22 w h
    refine Dl.q (Y.len rfl Try.runUnderlying24 rfl) (Dl.q (Y.mv (v := (vI 0)) rfl rfl) (Dl.nil (Th.m (Dw.block ?_))))
    refine Dw.loopM (fun s j r => upd (mask r j 38676181494702394300171264) 73 (vI s)) h ⟨_, eqUpd rfl (eqMask (by repeat' (first | exact Off.refl _ _ | refine Off.u rfl ?_ | refine Off.m rfl ?_)))⟩ ?_
    intro I m q23 j w h
    refine Dw.seq (Dw.region (Dl.q (Y.lss rfl rfl rfl) (Dl.nil (Th.m (Dw.seq ?_)))))
    refine Dw.cond rfl (fun hb30 => ?_) (fun hb30 => ?_)
    · replace h := M.iteT h hb30
      refine Dw.skip (Th.m (Dw.seq (Dw.block (Dw.seq (Dw.region ?_)))))
      obtain ⟨a25, a250, ha, hi, he, h⟩ := h
      refine Dl.q (Y.ix rfl Try.runUnderlying24 Try.sizeOf3 rfl rfl ha hi he) ?_
      obtain ⟨x26, hcx26, h⟩ := h
      refine Dl.q (Y.ld rfl Try.isAgg3 rfl hcx26) (Dl.q (Y.asg (v := (vI x26)) rfl rfl) (Dl.nil (Th.m (Dw.region (Dl.q (Y.mv (v := (vP p0)) rfl rfl) ?_)))))
      obtain ⟨a27, ha, h⟩ := h
      refine Dl.q (Y.nn rfl rfl ha) (Dl.q (Y.fa 2 rfl Try.runUnderlying52 rfl Try.sizeOf24 (by decide) rfl rfl) ?_)
      obtain ⟨x28, hcx28, h⟩ := h
      refine Dl.q (Y.ld rfl Try.isAgg24 rfl hcx28) (Dl.q (Y.mv (v := (vI x26)) rfl rfl) (Dl.q (Y.mv (v := (vI (x8.len : Int))) rfl rfl) ?_))
      obtain ⟨a29, a290, ha, hi, he, h⟩ := h
      refine Dl.q (Y.ix rfl Try.runUnderlying24 Try.sizeOf3 rfl rfl ha hi he) ?_
      refine Dl.n (N.st rfl Try.sizeOf3 h rfl rfl rfl rfl rfl fun h => ?_)
      refine Dl.nil (InB.m (Th.m (Dw.region (Dl.q (Y.add rfl rfl rfl) (Dl.q (Y.mv (v := (vI (wI (q23 + 1)))) rfl rfl) (Dl.nil ?_))))))
      exact Th.m ⟨_, h, _, eqUpd rfl (eqMask (by repeat' (first | exact Off.refl _ _ | refine Off.u rfl ?_ | refine Off.m rfl ?_)))⟩
    · replace h := M.iteF h hb30
      refine Dw.exit (Th.e (Th.e (InB.e (Th.m (Dw.seq (Dw.region (Dl.q (Y.mv (v := (vI (x8.len : Int))) rfl rfl) (Dl.q (Y.asg (v := (vI (x8.len : Int))) rfl rfl) (Dl.nil (Th.m (Dw.ret ?_)))))))))))
      exact fin1 rfl ⟨_, rfl, h⟩
set_option maxHeartbeats 1000000 in
set_option maxRecDepth 20000 in
theorem hopcroft_parter_askLesser {p0 : Option Addr} {p1 : Int} {p2 : Int} {p3 : Int} {w : World} {R : Unit → World → Prop} (h : S.hopcroft_parter_askLesser p0 p1 p2 p3 w R) : Calls Try.prog 58 [(vP p0), (vI p1), (vI p2), (vI p3)].toArray w (Ret vUnit R) := by
  refine calls_of Try.func58 rfl rfl rfl (by kernel_rfl) rfl ?_
  unfold S.hopcroft_parter_askLesser at h
  refine Dw.seq (Dw.region ?_)
  refine Dl.n (N.box rfl h rfl rfl fun b1 _ h => ?_)
  refine Dl.nil (Th.m (Dw.seq (Dw.region (Dl.q (Y.mkF rfl rfl) (Dl.q (Y.asg (v := (.func (.func 81) #[] #[(vA b1)])) rfl rfl) (Dl.nil (Th.m (Dw.seq ?_))))))))
  refine Dw.joinM (fun s j r => upd (mask r j 268434432) 27 (Value.bool s)) h (fun C h => ?_) (fun q10 j w h => ?_)
  · refine Dw.region ?_
    obtain ⟨x3, hcx3, h⟩ := h
    refine Dl.q (Y.ld rfl Try.isAgg45 rfl hcx3) ?_
    obtain ⟨a4, ha, h⟩ := h
    refine Dl.q (Y.nn rfl rfl ha) (Dl.q (Y.fa 6 rfl Try.runUnderlying52 rfl Try.sizeOf50 (by decide) rfl rfl) ?_)
    obtain ⟨x5, hcx5, h⟩ := h
    refine Dl.q (Y.ld rfl Try.isAgg50 rfl hcx5) (Dl.q (Y.mv (v := (vI p1)) rfl rfl) (Dl.q (Y.mv (v := (vI p3)) rfl rfl) (Dl.q (Y.bld [(0, (vI p1)), (1, (vI p3))] rfl rfl (Pr_b01 _ _ _)) ?_)))
    obtain ⟨x6, hcx6, h⟩ := h
    refine Dl.q (Y.run rfl rfl hcx6) (Dl.q (Y.eqI rfl rfl rfl) (Dl.q (Y.mv (v := (Value.bool (decide (x6 = 1)))) rfl rfl) ?_))
    refine M.split h (fun hb7 h => ?_) (fun hb7 h => ?_)
    · refine Dl.q (Y.skip (unwantG rfl rfl hb7)) (Dl.q (Y.skip (unwantG rfl rfl hb7)) (Dl.q (Y.skip (unwantG rfl rfl hb7)) (Dl.q (Y.skip (unwantG rfl rfl hb7)) (Dl.q (Y.skip (unwantG rfl rfl hb7)) (Dl.q (Y.skip (unwantG rfl rfl hb7)) (Dl.q (Y.skip (unwantG rfl rfl hb7)) (Dl.q (Y.pickT (v := (Value.bool true)) rfl rfl hb7 rfl) (Dl.nil ?_))))))))
      exact Th.m ⟨_, h, _, eqUpd rfl (eqMask (by repeat' (first | exact Off.refl _ _ | refine Off.u rfl ?_ | refine Off.m rfl ?_)))⟩
    · refine Dl.q (Y.mv (v := (.func (.func 81) #[] #[(vA b1)])) (wantG rfl rfl hb7) rfl) (Dl.q (Y.mv (v := (vI p2)) (wantG rfl rfl hb7) rfl) ?_)
      refine Dl.n (N.callv (wantG rfl rfl hb7) rfl rfl h ?_)
      intro r8 w h
      refine Dl.q (Y.mv (v := (.func (.func 81) #[] #[(vA b1)])) (wantG rfl rfl hb7) rfl) (Dl.q (Y.mv (v := (vI p1)) (wantG rfl rfl hb7) rfl) ?_)
      refine Dl.n (N.callv (wantG rfl rfl hb7) rfl rfl h ?_)
      intro r9 w h
      refine Dl.q (Y.leq (wantG rfl rfl hb7) rfl rfl) (Dl.q (Y.pickF (v := (Value.bool (decide (r8 ≤ r9)))) rfl rfl hb7 rfl) (Dl.nil ?_))
      exact Th.m ⟨_, h, _, eqUpd rfl (eqMask (by repeat' (first | exact Off.refl _ _ | refine Off.u rfl ?_ | refine Off.m rfl ?_)))⟩
  · refine Dw.cond rfl (fun hb15 => ?_) (fun hb15 => ?_)
    · replace h := M.iteT h hb15
      refine Dw.seq (Dw.region ?_)
      obtain ⟨x11, hcx11, h⟩ := h
      refine Dl.q (Y.ld rfl Try.isAgg45 rfl hcx11) (Dl.q (Y.mv (v := (vI p2)) rfl rfl) (Dl.q (Y.mv (v := (vI p3)) rfl rfl) ?_))
      refine Dl.n (N.call rfl Try.call28 rfl h ?_)
      intro r12 w h
      refine Dl.nil (Th.m (Dw.ret (Th.r ?_)))
      exact fin0 ⟨(), rfl, h⟩
    · replace h := M.iteF h hb15
      refine Dw.skip (Th.m (Dw.region ?_))
      obtain ⟨x13, hcx13, h⟩ := h
      refine Dl.q (Y.ld rfl Try.isAgg45 rfl hcx13) (Dl.q (Y.mv (v := (vI p1)) rfl rfl) (Dl.q (Y.mv (v := (vI p3)) rfl rfl) ?_))
      refine Dl.n (N.call rfl Try.call28 rfl h ?_)
      intro r14 w h
      refine Dl.nil ?_
      exact fin0 ⟨(), rfl, h⟩
set_option maxHeartbeats 1000000 in
set_option maxRecDepth 20000 in
theorem quotient_number_int {p0 : Int} {p1 : Value} {w : World} {R : Sl → World → Prop} (h : S.quotient_number_int p0 p1 w R) : Calls Try.prog 59 [(vI p0), p1].toArray w (Ret Sl.val R) := by
  refine calls_of Try.func59 rfl rfl rfl (by kernel_rfl) rfl ?_
  unfold S.quotient_number_int at h
  refine Dw.seq (Dw.region (Dl.q (Y.asg (v := (Sl.val Sl.nil)) rfl rfl) (Dl.nil (Th.m (Dw.seq (Dw.region ?_))))))
  obtain ⟨m1, w, ha, h⟩ := h
  refine Dl.n (N.of rfl rfl ha ?_)
  refine Dl.q (Y.asg (v := (Value.map m1)) rfl rfl) (Dl.nil (Th.m (Dw.seq (Dw.region (Dl.q (Y.asg (v := (Sl.val Sl.nil)) rfl rfl) (Dl.nil (Th.m (Dw.seq (Dw.seq (Dw.region (Dl.q (Y.mv (v := (vI p0)) rfl rfl) (Dl.q (Y.mv (v := (vI 0)) rfl rfl) ?_))))))))))))
  refine Dl.nil (Th.m (Dw.block ?_))
  refine Dw.loopM (fun s j r => upd (upd (mask r j 274877900736) 6 (Sl.val s.1)) 13 (vI s.2)) h ⟨_, eqUpd rfl (eqUpd rfl (eqMask (by repeat' (first | exact Off.refl _ _ | refine Off.u rfl ?_ | refine Off.m rfl ?_))))⟩ ?_
  intro I m q2 j w h
  refine Dw.seq (Dw.region (Dl.q (Y.lss rfl rfl rfl) (Dl.nil (Th.m (Dw.seq ?_)))))
  refine Dw.cond rfl (fun hb13 => ?_) (fun hb13 => ?_)
  · replace h := M.iteT h hb13
    refine Dw.skip (Th.m (Dw.seq (Dw.block (Dw.seq (Dw.region (Dl.q (Y.mv (v := (vI q2.2)) rfl rfl) (Dl.q (Y.asg (v := (vI q2.2)) rfl rfl) (Dl.nil (Th.m (Dw.seq (Dw.region (Dl.q (Y.mv (v := p1) rfl rfl) ?_))))))))))))
    refine Dl.q (Y.mv (v := (vI q2.2)) rfl rfl) ?_
    refine Dl.n (N.callv rfl rfl rfl h ?_)
    intro r4 w h
    refine Dl.q (Y.asg (v := (vI r4)) rfl rfl) (Dl.nil (Th.m ?_))
    refine Dw.joinM (fun s j r => mask r j 2146960896) h (fun C h => ?_) (fun q9 j w h => ?_)
    · refine Dw.seq (Dw.region (Dl.q (Y.mv (v := (Value.map m1)) rfl rfl) (Dl.q (Y.mv (v := (vI r4)) rfl rfl) ?_)))
      obtain ⟨x6, hcx6, h⟩ := h
      refine Dl.q (Y.run rfl rfl hcx6) (Dl.q (Y.mv (v := (.tuple #[(vI x6.1), (Value.bool x6.2)])) rfl rfl) (Dl.q (Y.ext rfl rfl rfl) (Dl.q (Y.ext rfl rfl rfl) (Dl.q (Y.asg (v := (vI x6.1)) rfl rfl) (Dl.q (Y.asg (v := (Value.bool x6.2)) rfl rfl) (Dl.nil (Th.m (Dw.seq (Dw.region (Dl.q (Y.mv (v := (Value.bool x6.2)) rfl rfl) (Dl.q (Y.not rfl rfl) (Dl.nil ?_))))))))))))
      refine Th.m ?_
      refine Dw.cond rfl (fun hb8 => ?_) (fun hb8 => ?_)
      · replace h := M.iteT h hb8
        refine Dw.region (Dl.q (Y.mv (v := (Value.map m1)) rfl rfl) (Dl.q (Y.mv (v := (vI r4)) rfl rfl) (Dl.q (Y.mv (v := (Value.map m1)) rfl rfl) ?_)))
        obtain ⟨x7, hcx7, h⟩ := h
        refine Dl.q (Y.blt rfl rfl (fun _ => rfl) hcx7) ?_
        obtain ⟨w, ha, h⟩ := h
        refine Dl.n (N.ofU rfl rfl ha ?_)
        refine Dl.nil ?_
        exact Th.m ⟨_, h, _, eqMask (by repeat' (first | exact Off.refl _ _ | refine Off.u rfl ?_ | refine Off.m rfl ?_))⟩
      · replace h := M.iteF h hb8
        refine Dw.skip ?_
        exact Th.m ⟨_, h, _, eqMask (by repeat' (first | exact Off.refl _ _ | refine Off.u rfl ?_ | refine Off.m rfl ?_))⟩
    · refine Dw.region (Dl.q (Y.mv (v := (Sl.val q2.1)) rfl rfl) (Dl.q (Y.mv (v := (Value.map m1)) rfl rfl) (Dl.q (Y.mv (v := (vI r4)) rfl rfl) ?_)))
      obtain ⟨x10, hcx10, h⟩ := h
      refine Dl.q (Y.run rfl rfl hcx10) ?_
      refine Dl.n (N.mkS rfl Try.runUnderlying24 Try.sizeOf3 Try.zeroValue3 h rfl rfl rfl rfl rfl fun b11 _ h => ?_)
      obtain ⟨s12, w, ha, h⟩ := h
      refine Dl.n (N.blt rfl rfl (fun _ => rfl) ha ?_)
      refine Dl.q (Y.asg (v := (Sl.val s12)) rfl rfl) (Dl.nil (InB.m (Th.m (Dw.region (Dl.q (Y.add rfl rfl rfl) (Dl.q (Y.mv (v := (vI (wI (q2.2 + 1)))) rfl rfl) (Dl.nil ?_)))))))
      exact Th.m ⟨_, h, _, eqUpd rfl (eqUpd rfl (eqMask (by repeat' (first | exact Off.refl _ _ | refine Off.u rfl ?_ | refine Off.m rfl ?_))))⟩
  · replace h := M.iteF h hb13
    refine Dw.exit (Th.e (Th.e (InB.e (Th.m (Dw.seq (Dw.region (Dl.q (Y.mv (v := (Sl.val q2.1)) rfl rfl) (Dl.q (Y.asg (v := (Sl.val q2.1)) rfl rfl) (Dl.nil (Th.m (Dw.ret ?_)))))))))))
    exact fin1 rfl ⟨_, rfl, h⟩
set_option maxHeartbeats 1000000 in
set_option maxRecDepth 20000 in
theorem quotient_Norm_c1 {p0 : Int} {c0 : Addr} {w : World} {R : Int → World → Prop} (h : S.quotient_Norm_c1 p0 c0 w R) : Calls Try.prog 60 [(vI p0), (vA c0)].toArray w (Ret vI R) := by
  refine calls_of Try.func60 rfl rfl rfl (by kernel_rfl) rfl ?_
  unfold S.quotient_Norm_c1 at h
  refine Dw.seq (Dw.region (Dl.q (Y.asg (v := (vI 0)) rfl rfl) (Dl.nil (Th.m (Dw.seq (Dw.region ?_))))))
  obtain ⟨x1, hcx1, h⟩ := h
  refine Dl.q (Y.ld rfl Try.isAgg24 rfl hcx1) (Dl.q (Y.mv (v := (vI p0)) rfl rfl) ?_)
  obtain ⟨a2, a20, ha, hi, he, h⟩ := h
  refine Dl.q (Y.ix rfl Try.runUnderlying24 Try.sizeOf3 rfl rfl ha hi he) ?_
  obtain ⟨x3, hcx3, h⟩ := h
  refine Dl.q (Y.ld rfl Try.isAgg3 rfl hcx3) (Dl.q (Y.asg (v := (vI x3)) rfl rfl) (Dl.nil (Th.m (Dw.ret ?_))))
  exact fin1 rfl ⟨_, rfl, h⟩
set_option maxHeartbeats 1000000 in
set_option maxRecDepth 20000 in
theorem slices_Max_Lintint {p0 : Sl} {w : World} {R : Int → World → Prop} (h : S.slices_Max_Lintint p0 w R) : Calls Try.prog 61 [(Sl.val p0)].toArray w (Ret vI R) := by
  refine calls_of Try.func61 rfl rfl rfl (by kernel_rfl) rfl ?_
  unfold S.slices_Max_Lintint at h
  refine Dw.seq (Dw.region (Dl.q (Y.asg (v := (vI 0)) rfl rfl) (Dl.nil (Th.m (Dw.seq (Dw.seq (Dw.region (Dl.q (Y.mv (v := (Sl.val p0)) rfl rfl) (Dl.q (Y.len rfl Try.runUnderlying24 rfl) (Dl.q (Y.lss rfl rfl rfl) (Dl.nil (Th.m ?_))))))))))))
  refine Dw.cond rfl (fun hb8 => ?_) (fun hb8 => ?_)
  · replace h := M.iteT h hb8
    refine Dw.region (Dl.q (Y.mkI (v := (Value.string (⟨#[115, 108, 105, 99, 101, 115, 46, 77, 97, 120, 58, 32, 101, 109, 112, 116, 121, 32, 108, 105, 115, 116]⟩ : ByteArray))) rfl Try.runUnderlying9 rfl rfl) ?_)
    exact h.elim
  · replace h := M.iteF h hb8
    refine Dw.skip (Th.m (Dw.seq (Dw.region (Dl.q (Y.mv (v := (Sl.val p0)) rfl rfl) ?_))))
    obtain ⟨a1, a10, ha, hi, he, h⟩ := h
    refine Dl.q (Y.ix rfl Try.runUnderlying24 Try.sizeOf3 rfl rfl ha hi he) ?_
    obtain ⟨x2, hcx2, h⟩ := h
    refine Dl.q (Y.ld rfl Try.isAgg3 rfl hcx2) (Dl.q (Y.asg (v := (vI x2)) rfl rfl) (Dl.nil (Th.m (Dw.seq (Dw.seq (Dw.region (Dl.q (Y.asg (v := (vI 1)) rfl rfl) (Dl.nil (Th.m (Dw.block ?_))))))))))
    refine Dw.loopM (fun s j r => upd (upd (mask r j 16773144) 3 (vI s.1)) 4 (vI s.2)) h ⟨_, eqUpd rfl (eqUpd rfl (eqMask (by repeat' (first | exact Off.refl _ _ | refine Off.u rfl ?_ | refine Off.m rfl ?_))))⟩ ?_
    intro I m q3 j w h
    refine Dw.seq (Dw.seq (Dw.region (Dl.q (Y.mv (v := (vI q3.2)) rfl rfl) (Dl.q (Y.mv (v := (Sl.val p0)) rfl rfl) (Dl.q (Y.len rfl Try.runUnderlying24 rfl) (Dl.q (Y.lss rfl rfl rfl) (Dl.nil (Th.m ?_))))))))
    refine Dw.cond rfl (fun hb7 => ?_) (fun hb7 => ?_)
    · replace h := M.iteT h hb7
      refine Dw.skip (Th.m (Dw.seq (Dw.block (Dw.region (Dl.q (Y.mv (v := (vI q3.1)) rfl rfl) (Dl.q (Y.mv (v := (Sl.val p0)) rfl rfl) (Dl.q (Y.mv (v := (vI q3.2)) rfl rfl) ?_)))))))
      obtain ⟨a5, a50, ha, hi, he, h⟩ := h
      refine Dl.q (Y.ix rfl Try.runUnderlying24 Try.sizeOf3 rfl rfl ha hi he) ?_
      obtain ⟨x6, hcx6, h⟩ := h
      refine Dl.q (Y.ld rfl Try.isAgg3 rfl hcx6) (Dl.q (Y.max rfl rfl rfl) (Dl.q (Y.asg (v := (vI (if x6 > q3.1 then x6 else q3.1))) rfl rfl) (Dl.nil (InB.m (Th.m (Dw.region (Dl.q (Y.mv (v := (vI q3.2)) rfl rfl) (Dl.q (Y.add rfl rfl rfl) (Dl.q (Y.asg (v := (vI (wI (q3.2 + 1)))) rfl rfl) (Dl.nil ?_))))))))))
      exact Th.m ⟨_, h, _, eqUpd rfl (eqUpd rfl (eqMask (by repeat' (first | exact Off.refl _ _ | refine Off.u rfl ?_ | refine Off.m rfl ?_))))⟩
    · replace h := M.iteF h hb7
      refine Dw.exit (Th.e (Th.e (InB.e (Th.m (Dw.seq (Dw.region (Dl.q (Y.mv (v := (vI q3.1)) rfl rfl) (Dl.q (Y.asg (v := (vI q3.1)) rfl rfl) (Dl.nil (Th.m (Dw.ret ?_)))))))))))
      exact fin1 rfl ⟨_, rfl, h⟩
set_option maxHeartbeats 1000000 in
set_option maxRecDepth 20000 in
theorem r19_Right {p0 : (Nat → Int)} {p1 : Int} {w : World} {R : Bool → World → Prop} (h : S.r19_Right p0 p1 w R) : Calls Try.prog 62 [(.agg (Ar.cs p0).toArray), (vI p1)].toArray w (Ret Value.bool R) := by
  refine calls_of Try.func62 rfl rfl rfl (by kernel_rfl) rfl ?_
  unfold S.r19_Right at h
  refine Dw.seq (Dw.region ?_)
  refine Dl.n (N.box rfl h rfl rfl fun b1 _ h => ?_)
  refine Dl.q (Y.asg (v := (Value.bool false)) rfl rfl) (Dl.nil (Th.m (Dw.seq (Dw.region ?_))))
  obtain ⟨v2, hcv2, h⟩ := h
  refine Dl.q (Y.ldA rfl Try.isAgg22 Try.sizeOf22 (Ar_len _) rfl hcv2) ?_
  refine Dl.n (N.call rfl Try.call82 rfl h ?_)
  intro r3 w h
  refine Dl.q (Y.mv (v := (.tuple #[(.agg (Ar.cs r3.1).toArray), (vI r3.2)])) rfl rfl) (Dl.q (Y.ext rfl rfl rfl) (Dl.q (Y.ext rfl rfl rfl) ?_))
  refine Dl.n (N.new rfl Try.zeroValue22 h (by kernel_rfl) fun b4 _ h => ?_)
  refine Dl.n (N.stA rfl Try.sizeOf22 h rfl rfl (Ar_len _) (Ar_one _) fun h => ?_)
  generalize setCells _ _ _ _ = w at h ⊢
  refine Dl.q (Y.asg (v := (vI r3.2)) rfl rfl) (Dl.nil (Th.m (Dw.seq (Dw.region ?_))))
  obtain ⟨v5, hcv5, h⟩ := h
  refine Dl.q (Y.ldA rfl Try.isAgg22 Try.sizeOf22 (Ar_len _) rfl hcv5) ?_
  obtain ⟨v6, hcv6, h⟩ := h
  refine Dl.q (Y.ldA rfl Try.isAgg22 Try.sizeOf22 (Ar_len _) rfl hcv6) ?_
  obtain ⟨x7, hcx7, h⟩ := h
  refine Dl.q (Y.eqA rfl rfl rfl hcx7) (Dl.q (Y.mv (v := (Value.bool x7)) rfl rfl) ?_)
  refine M.split h (fun hb8 h => ?_) (fun hb8 h => ?_)
  · refine Dl.q (Y.mv (v := (vI r3.2)) (wantG rfl rfl hb8) rfl) (Dl.q (Y.mv (v := (vI p1)) (wantG rfl rfl hb8) rfl) (Dl.q (Y.eqI (wantG rfl rfl hb8) rfl rfl) (Dl.q (Y.pickT (v := (Value.bool (decide (r3.2 = p1)))) rfl rfl hb8 rfl) (Dl.q (Y.asg (v := (Value.bool (decide (r3.2 = p1)))) rfl rfl) (Dl.nil (Th.m (Dw.ret ?_)))))))
    exact fin1 rfl ⟨_, rfl, h⟩
  · refine Dl.q (Y.skip (unwantG rfl rfl hb8)) (Dl.q (Y.skip (unwantG rfl rfl hb8)) (Dl.q (Y.skip (unwantG rfl rfl hb8)) (Dl.q (Y.pickF (v := (Value.bool false)) rfl rfl hb8 rfl) (Dl.q (Y.asg (v := (Value.bool false)) rfl rfl) (Dl.nil (Th.m (Dw.ret ?_)))))))
    exact fin1 rfl ⟨_, rfl, h⟩
set_option maxHeartbeats 1000000 in
set_option maxRecDepth 20000 in
theorem r09_Name {p0 : ByteArray} {w : World} {R : Bool → World → Prop} (h : S.r09_Name p0 w R) : Calls Try.prog 63 [(Value.string p0)].toArray w (Ret Value.bool R) := by
  refine calls_of Try.func63 rfl rfl rfl (by kernel_rfl) rfl ?_
  unfold S.r09_Name at h
  refine Dw.seq (Dw.region (Dl.q (Y.asg (v := (Value.bool false)) rfl rfl) (Dl.nil (Th.m (Dw.seq (Dw.seq (Dw.region (Dl.q (Y.asg (v := (vI 0)) rfl rfl) (Dl.nil (Th.m (Dw.block ?_)))))))))))
  refine Dw.loopM (fun s j r => upd (mask r j 131068) 3 (vI s)) h ⟨_, eqUpd rfl (eqMask (by repeat' (first | exact Off.refl _ _ | refine Off.u rfl ?_ | refine Off.m rfl ?_)))⟩ ?_
  intro I m q1 j w h
  refine Dw.seq (Dw.seq (Dw.region (Dl.q (Y.mv (v := (vI q1)) rfl rfl) (Dl.q (Y.mv (v := (Value.string p0)) rfl rfl) (Dl.q (Y.lenS rfl Try.runUnderlying9 rfl) (Dl.q (Y.lss rfl rfl rfl) (Dl.nil (Th.m ?_))))))))
  refine Dw.cond rfl (fun hb7 => ?_) (fun hb7 => ?_)
  · replace h := M.iteT h hb7
    refine Dw.skip (Th.m (Dw.seq (Dw.block (Dw.seq (Dw.region (Dl.q (Y.mv (v := (Value.string p0)) rfl rfl) (Dl.q (Y.mv (v := (vI q1)) rfl rfl) ?_)))))))
    obtain ⟨x3, hcx3, h⟩ := h
    refine Dl.q (Y.idx rfl rfl rfl hcx3) (Dl.q (Y.mv (v := (vI q1)) rfl rfl) (Dl.q (Y.eqI rfl rfl rfl) ?_))
    refine Dl.n (N.call rfl Try.call83 rfl h ?_)
    intro r4 w h
    refine Dl.q (Y.not rfl rfl) (Dl.nil (Th.m ?_))
    refine Dw.cond rfl (fun hb5 => ?_) (fun hb5 => ?_)
    · replace h := M.iteT h hb5
      refine Dw.seq (Dw.region (Dl.q (Y.asg (v := (Value.bool false)) rfl rfl) (Dl.nil (Th.m (Dw.ret (InB.r (Th.r (Th.r (InB.r (Th.r ?_))))))))))
      exact fin1 rfl ⟨_, rfl, h⟩
    · replace h := M.iteF h hb5
      refine Dw.skip (InB.m (Th.m (Dw.region (Dl.q (Y.mv (v := (vI q1)) rfl rfl) (Dl.q (Y.add rfl rfl rfl) (Dl.q (Y.asg (v := (vI (wI (q1 + 1)))) rfl rfl) (Dl.nil ?_)))))))
      exact Th.m ⟨_, h, _, eqUpd rfl (eqMask (by repeat' (first | exact Off.refl _ _ | refine Off.u rfl ?_ | refine Off.m rfl ?_)))⟩
  · replace h := M.iteF h hb7
    refine Dw.exit (Th.e (Th.e (InB.e (Th.m (Dw.seq (Dw.region (Dl.q (Y.mv (v := (Value.string p0)) rfl rfl) (Dl.q (Y.lenS rfl Try.runUnderlying9 rfl) (Dl.q (Y.geq rfl rfl rfl) (Dl.q (Y.mv (v := (Value.bool (decide (1 ≤ (p0.size : Int))))) rfl rfl) ?_))))))))))
    refine M.split h (fun hb6 h => ?_) (fun hb6 h => ?_)
    · refine Dl.q (Y.mv (v := (Value.string p0)) (wantG rfl rfl hb6) rfl) (Dl.q (Y.lenS (wantG rfl rfl hb6) Try.runUnderlying9 rfl) (Dl.q (Y.leq (wantG rfl rfl hb6) rfl rfl) (Dl.q (Y.pickT (v := (Value.bool (decide ((p0.size : Int) ≤ 32)))) rfl rfl hb6 rfl) (Dl.q (Y.asg (v := (Value.bool (decide ((p0.size : Int) ≤ 32)))) rfl rfl) (Dl.nil (Th.m (Dw.ret ?_)))))))
      exact fin1 rfl ⟨_, rfl, h⟩
    · refine Dl.q (Y.skip (unwantG rfl rfl hb6)) (Dl.q (Y.skip (unwantG rfl rfl hb6)) (Dl.q (Y.skip (unwantG rfl rfl hb6)) (Dl.q (Y.pickF (v := (Value.bool false)) rfl rfl hb6 rfl) (Dl.q (Y.asg (v := (Value.bool false)) rfl rfl) (Dl.nil (Th.m (Dw.ret ?_)))))))
      exact fin1 rfl ⟨_, rfl, h⟩
set_option maxHeartbeats 1000000 in
set_option maxRecDepth 20000 in
theorem r20_Keep {p0 : Dfv} {p1 : Sl} {w : World} {R : (Dfv × Int) → World → Prop} (h : S.r20_Keep p0 p1 w R) : Calls Try.prog 64 [(.agg (Dfv.cs p0).toArray), (Sl.val p1)].toArray w (Ret (fun x : (Dfv × Int) => .tuple #[(.agg (Dfv.cs x.1).toArray), (vI x.2)]) R) := by
  refine calls_of Try.func64 rfl rfl rfl (by kernel_rfl) rfl ?_
  unfold S.r20_Keep at h
  refine Dw.seq (Dw.region ?_)
  refine Dl.n (N.box rfl h rfl rfl fun b1 _ h => ?_)
  refine Dl.n (N.new rfl Try.zeroValue27 h (by kernel_rfl) fun b2 _ h => ?_)
  refine Dl.q (Y.asg (v := (vI 0)) rfl rfl) (Dl.nil (Th.m (Dw.seq ?_)))
  refine Dw.joinM (fun s j r => upd (mask r j 2093056) 20 (Value.bool s)) h (fun C h => ?_) (fun q7 j w h => ?_)
  · refine Dw.region (Dl.q (Y.mv (v := (Sl.val p1)) rfl rfl) (Dl.q (Y.len rfl Try.runUnderlying24 rfl) (Dl.q (Y.eqI rfl rfl rfl) (Dl.q (Y.mv (v := (Value.bool (decide ((p1.len : Int) = 0)))) rfl rfl) ?_))))
    refine M.split h (fun hb4 h => ?_) (fun hb4 h => ?_)
    · refine Dl.q (Y.skip (unwantG rfl rfl hb4)) (Dl.q (Y.skip (unwantG rfl rfl hb4)) (Dl.q (Y.skip (unwantG rfl rfl hb4)) (Dl.q (Y.skip (unwantG rfl rfl hb4)) (Dl.q (Y.pickT (v := (Value.bool true)) rfl rfl hb4 rfl) (Dl.nil ?_)))))
      exact Th.m ⟨_, h, _, eqUpd rfl (eqMask (by repeat' (first | exact Off.refl _ _ | refine Off.u rfl ?_ | refine Off.m rfl ?_)))⟩
    · refine Dl.q (Y.mv (v := (Sl.val p1)) (wantG rfl rfl hb4) rfl) ?_
      obtain ⟨a5, a50, ha, hi, he, h⟩ := h
      refine Dl.q (Y.ix (wantG rfl rfl hb4) Try.runUnderlying24 Try.sizeOf3 rfl rfl ha hi he) ?_
      obtain ⟨x6, hcx6, h⟩ := h
      refine Dl.q (Y.ld (wantG rfl rfl hb4) Try.isAgg3 rfl hcx6) (Dl.q (Y.neI (wantG rfl rfl hb4) rfl rfl) (Dl.q (Y.pickF (v := (Value.bool (!decide (x6 = 0)))) rfl rfl hb4 rfl) (Dl.nil ?_)))
      exact Th.m ⟨_, h, _, eqUpd rfl (eqMask (by repeat' (first | exact Off.refl _ _ | refine Off.u rfl ?_ | refine Off.m rfl ?_)))⟩
  · refine Dw.cond rfl (fun hb74 => ?_) (fun hb74 => ?_)
    · replace h := M.iteT h hb74
      refine Dw.seq (Dw.region (Dl.q (Y.bld [] rfl rfl (Dfv_b _ )) ?_))
      refine Dl.n (N.stA rfl Try.sizeOf27 h rfl rfl (Dfv_len _) (Dfv_one _) fun h => ?_)
      generalize setCells _ _ _ _ = w at h ⊢
      refine Dl.q (Y.asg (v := (vI 1)) rfl rfl) (Dl.nil (Th.m (Dw.ret (Th.r ?_))))
      obtain ⟨v8, hc, h⟩ := h
      exact finC2 Try.isAgg27 Try.sizeOf27 (Dfv_len _) rfl rfl hc ⟨_, rfl, h⟩
    · replace h := M.iteF h hb74
      refine Dw.skip (Th.m (Dw.seq (Dw.region (Dl.q (Y.fa 0 rfl Try.runUnderlying27 rfl Try.sizeOf22 (by decide) rfl rfl) ?_))))
      obtain ⟨v9, hcv9, h⟩ := h
      refine Dl.q (Y.ldA rfl Try.isAgg22 Try.sizeOf22 (Ar_len _) rfl hcv9) (Dl.q (Y.fa 256 rfl Try.runUnderlying27 rfl Try.sizeOf3 (by decide) rfl rfl) ?_)
      obtain ⟨x10, hcx10, h⟩ := h
      refine Dl.q (Y.ld rfl Try.isAgg3 rfl hcx10) (Dl.q (Y.fa 259 rfl Try.runUnderlying27 rfl Try.sizeOf25 (by decide) rfl rfl) ?_)
      obtain ⟨x11, hcx11, h⟩ := h
      refine Dl.q (Y.ld rfl Try.isAgg25 rfl hcx11) (Dl.q (Y.bld [(0, (.agg (Ar.cs v9).toArray)), (1, (vI x10)), (4, (Sl.val x11))] rfl rfl (Dfv_b014 _ _ _ _)) ?_)
      refine Dl.n (N.new rfl Try.zeroValue27 h (by kernel_rfl) fun b12 _ h => ?_)
      refine Dl.n (N.stA rfl Try.sizeOf27 h rfl rfl (Dfv_len _) (Dfv_one _) fun h => ?_)
      generalize setCells _ _ _ _ = w at h ⊢
      refine Dl.nil (Th.m (Dw.seq (Dw.seq (Dw.region (Dl.q (Y.asg (v := (vI 0)) rfl rfl) (Dl.nil (Th.m (Dw.block ?_))))))))
      refine Dw.loopM (fun s j r => upd (mask r j 2305843008676823200) 7 (vI s)) h ⟨_, eqUpd rfl (eqMask (by repeat' (first | exact Off.refl _ _ | refine Off.u rfl ?_ | refine Off.m rfl ?_)))⟩ ?_
      intro I m q13 j w h
      refine Dw.seq (Dw.seq (Dw.region (Dl.q (Y.mv (v := (vI q13)) rfl rfl) (Dl.q (Y.mv (v := (Sl.val p1)) rfl rfl) (Dl.q (Y.len rfl Try.runUnderlying24 rfl) (Dl.q (Y.lss rfl rfl rfl) (Dl.nil (Th.m ?_))))))))
      refine Dw.cond rfl (fun hb73 => ?_) (fun hb73 => ?_)
      · replace h := M.iteT h hb73
        refine Dw.skip (Th.m (Dw.seq (Dw.block ?_)))
        refine Dw.joinM (fun s j r => upd (mask r j 1152921470247108608) 59 (Value.bool s)) h (fun C h => ?_) (fun q29 j w h => ?_)
        · refine Dw.game (by kernel_rfl) ?_
          replace h := M.drew_un h
          generalize World.drew _ = w at h ⊢
          refine Gm.pure 0 rfl (by kernel_rfl) (fun _ => Y.mv (v := (Sl.val p1)) rfl rfl) (Gm.pure 1 rfl (by kernel_rfl) (fun _ => Y.mv (v := (vI q13)) rfl rfl) ?_)
          obtain ⟨a16, a160, ha, hi, he, h⟩ := h
          refine Gm.pure 2 rfl (by kernel_rfl) (fun _ => Y.ix rfl Try.runUnderlying24 Try.sizeOf3 rfl rfl ha hi he) ?_
          obtain ⟨x17, hcx17, h⟩ := h
          refine Gm.quiet 3 rfl (by kernel_rfl) (fun _ hw => Y.ld rfl Try.isAgg3 rfl hw) hcx17 (Gm.pure 4 rfl (by kernel_rfl) (fun _ => Y.lss rfl rfl rfl) (Gm.pure 5 rfl (by kernel_rfl) (fun _ => Y.mv (v := (Value.bool (decide (x17 < 0)))) rfl rfl) ?_))
          refine M.split h (fun hb18 h => ?_) (fun hb18 h => ?_)
          · refine Gm.pure 6 rfl (by kernel_rfl) (fun _ => Y.skip (unwantG rfl rfl hb18)) (Gm.pure 7 rfl (by kernel_rfl) (fun _ => Y.skip (unwantG rfl rfl hb18)) (Gm.pure 8 rfl (by kernel_rfl) (fun _ => Y.skip (unwantG rfl rfl hb18)) (Gm.pure 9 rfl (by kernel_rfl) (fun _ => Y.skip (unwantG rfl rfl hb18)) (Gm.pure 10 rfl (by kernel_rfl) (fun _ => Y.skip (unwantG rfl rfl hb18)) (Gm.pure 11 rfl (by kernel_rfl) (fun _ => Y.skip (unwantG rfl rfl hb18)) (Gm.pure 12 rfl (by kernel_rfl) (fun _ => Y.skip (unwantG rfl rfl hb18)) (Gm.pure 13 rfl (by kernel_rfl) (fun _ => Y.skip (unwantG rfl rfl hb18)) (Gm.pure 14 rfl (by kernel_rfl) (fun _ => Y.pickT (v := (Value.bool true)) rfl rfl hb18 rfl) (Gm.pure 15 rfl (by kernel_rfl) (fun _ => Y.mv (v := (Value.bool true)) rfl rfl) (Gm.pure 16 rfl (by kernel_rfl) (fun _ => Y.skip (unwantG rfl rfl rfl)) (Gm.pure 17 rfl (by kernel_rfl) (fun _ => Y.skip (unwantG rfl rfl rfl)) (Gm.pure 18 rfl (by kernel_rfl) (fun _ => Y.skip (unwantG rfl rfl rfl)) ?_))))))))))))
            refine Gm.pure 19 rfl (by kernel_rfl) (fun _ => Y.skip (unwantG rfl rfl rfl)) (Gm.pure 20 rfl (by kernel_rfl) (fun _ => Y.skip (unwantG rfl rfl rfl)) (Gm.pure 21 rfl (by kernel_rfl) (fun _ => Y.skip (unwantG rfl rfl rfl)) (Gm.pure 22 rfl (by kernel_rfl) (fun _ => Y.skip (unwantG rfl rfl rfl)) (Gm.pure 23 rfl (by kernel_rfl) (fun _ => Y.skip (unwantG rfl rfl rfl)) (Gm.pure 24 rfl (by kernel_rfl) (fun _ => Y.pickT (v := (Value.bool true)) rfl rfl rfl rfl) (Gm.end (by kernel_rfl) ?_))))))
            exact Th.m ⟨_, h, _, eqUpd rfl (eqMask (by repeat' (first | exact Off.refl _ _ | refine Off.u rfl ?_ | refine Off.m rfl ?_)))⟩
          · refine Gm.pure 6 rfl (by kernel_rfl) (fun _ => Y.mv (v := (Sl.val p1)) (wantG rfl rfl hb18) rfl) (Gm.pure 7 rfl (by kernel_rfl) (fun _ => Y.mv (v := (vI q13)) (wantG rfl rfl hb18) rfl) ?_)
            obtain ⟨a19, a190, ha, hi, he, h⟩ := h
            refine Gm.pure 8 rfl (by kernel_rfl) (fun _ => Y.ix (wantG rfl rfl hb18) Try.runUnderlying24 Try.sizeOf3 rfl rfl ha hi he) ?_
            obtain ⟨x20, hcx20, h⟩ := h
            refine Gm.quiet 9 rfl (by kernel_rfl) (fun _ hw => Y.ld (wantG rfl rfl hb18) Try.isAgg3 rfl hw) hcx20 (Gm.pure 10 rfl (by kernel_rfl) (fun _ => Y.fa 258 (wantG rfl rfl hb18) Try.runUnderlying27 rfl Try.sizeOf24 (by decide) rfl rfl) ?_)
            obtain ⟨x21, hcx21, h⟩ := h
            refine Gm.quiet 11 rfl (by kernel_rfl) (fun _ hw => Y.ld (wantG rfl rfl hb18) Try.isAgg24 rfl hw) hcx21 (Gm.pure 12 rfl (by kernel_rfl) (fun _ => Y.len (wantG rfl rfl hb18) Try.runUnderlying24 rfl) (Gm.pure 13 rfl (by kernel_rfl) (fun _ => Y.geq (wantG rfl rfl hb18) rfl rfl) (Gm.pure 14 rfl (by kernel_rfl) (fun _ => Y.pickF (v := (Value.bool (decide ((x21.len : Int) ≤ x20)))) rfl rfl hb18 rfl) (Gm.pure 15 rfl (by kernel_rfl) (fun _ => Y.mv (v := (Value.bool (decide ((x21.len : Int) ≤ x20)))) rfl rfl) ?_))))
            refine M.split h (fun hb22 h => ?_) (fun hb22 h => ?_)
            · refine Gm.pure 16 rfl (by kernel_rfl) (fun _ => Y.skip (unwantG rfl rfl hb22)) (Gm.pure 17 rfl (by kernel_rfl) (fun _ => Y.skip (unwantG rfl rfl hb22)) (Gm.pure 18 rfl (by kernel_rfl) (fun _ => Y.skip (unwantG rfl rfl hb22)) (Gm.pure 19 rfl (by kernel_rfl) (fun _ => Y.skip (unwantG rfl rfl hb22)) (Gm.pure 20 rfl (by kernel_rfl) (fun _ => Y.skip (unwantG rfl rfl hb22)) (Gm.pure 21 rfl (by kernel_rfl) (fun _ => Y.skip (unwantG rfl rfl hb22)) (Gm.pure 22 rfl (by kernel_rfl) (fun _ => Y.skip (unwantG rfl rfl hb22)) (Gm.pure 23 rfl (by kernel_rfl) (fun _ => Y.skip (unwantG rfl rfl hb22)) (Gm.pure 24 rfl (by kernel_rfl) (fun _ => Y.pickT (v := (Value.bool true)) rfl rfl hb22 rfl) (Gm.end (by kernel_rfl) ?_)))))))))
              exact Th.m ⟨_, h, _, eqUpd rfl (eqMask (by repeat' (first | exact Off.refl _ _ | refine Off.u rfl ?_ | refine Off.m rfl ?_)))⟩
            · refine Gm.pure 16 rfl (by kernel_rfl) (fun _ => Y.mv (v := (Sl.val p1)) (wantG rfl rfl hb22) rfl) (Gm.pure 17 rfl (by kernel_rfl) (fun _ => Y.mv (v := (Sl.val p1)) (wantG rfl rfl hb22) rfl) (Gm.pure 18 rfl (by kernel_rfl) (fun _ => Y.mv (v := (vI q13)) (wantG rfl rfl hb22) rfl) ?_))
              obtain ⟨a23, a230, ha, hi, he, h⟩ := h
              refine Gm.pure 19 rfl (by kernel_rfl) (fun _ => Y.ix (wantG rfl rfl hb22) Try.runUnderlying24 Try.sizeOf3 rfl rfl ha hi he) ?_
              obtain ⟨x24, hcx24, h⟩ := h
              refine Gm.quiet 20 rfl (by kernel_rfl) (fun _ hw => Y.ld (wantG rfl rfl hb22) Try.isAgg3 rfl hw) hcx24 (Gm.pure 22 rfl (by kernel_rfl) (fun _ => Y.mv (v := (vI q13)) (wantG rfl rfl hb22) rfl) (Gm.one' 21 rfl (by kernel_rfl) (.drop (by kernel_rfl) (.keep (by kernel_rfl) (.keep (by kernel_rfl) (.keep (by kernel_rfl) .nil)))) (N.call (wantG rfl rfl hb22) Try.call84 rfl h ?_)))
              intro r25 w h
              obtain ⟨hp26, h⟩ := h
              obtain ⟨hp27, h⟩ := h
              obtain ⟨hp28, h⟩ := h
              refine ⟨(pdC hp26 (pdC hp27 (pdC hp28 pdN))), ?_⟩
              refine Gm.pure 23 rfl (by kernel_rfl) (fun _ => Y.neI (wantG rfl rfl hb22) rfl rfl) (Gm.pure 24 rfl (by kernel_rfl) (fun _ => Y.pickF (v := (Value.bool (!decide (r25 = q13)))) rfl rfl hb22 rfl) (Gm.end (by kernel_rfl) ?_))
              exact Th.m ⟨_, h, _, eqUpd rfl (eqMask (by repeat' (first | exact Off.refl _ _ | refine Off.u rfl ?_ | refine Off.m rfl ?_)))⟩
        · refine Dw.cond rfl (fun hb31 => ?_) (fun hb31 => ?_)
          · replace h := M.iteT h hb31
            refine Dw.seq (Dw.region (Dl.q (Y.bld [] rfl rfl (Dfv_b _ )) ?_))
            refine Dl.n (N.stA rfl Try.sizeOf27 h rfl rfl (Dfv_len _) (Dfv_one _) fun h => ?_)
            generalize setCells _ _ _ _ = w at h ⊢
            refine Dl.q (Y.asg (v := (vI 1)) rfl rfl) (Dl.nil (Th.m (Dw.ret (InB.r (Th.r (Th.r (InB.r (Th.r ?_))))))))
            obtain ⟨v30, hc, h⟩ := h
            exact finC2 Try.isAgg27 Try.sizeOf27 (Dfv_len _) rfl rfl hc ⟨_, rfl, h⟩
          · replace h := M.iteF h hb31
            refine Dw.skip (InB.m (Th.m (Dw.region (Dl.q (Y.mv (v := (vI q13)) rfl rfl) (Dl.q (Y.add rfl rfl rfl) (Dl.q (Y.asg (v := (vI (wI (q13 + 1)))) rfl rfl) (Dl.nil ?_)))))))
            exact Th.m ⟨_, h, _, eqUpd rfl (eqMask (by repeat' (first | exact Off.refl _ _ | refine Off.u rfl ?_ | refine Off.m rfl ?_)))⟩
      · replace h := M.iteF h hb73
        refine Dw.exit (Th.e (Th.e (InB.e (Th.m (Dw.seq (Dw.seq (Dw.region (Dl.q (Y.asg (v := (vI 0)) rfl rfl) (Dl.nil (Th.m (Dw.block ?_)))))))))))
        refine Dw.loopM (fun s j r => upd (mask r j 10384593717069652951217983444750112) 8 (vI s)) h ⟨_, eqUpd rfl (eqMask (by repeat' (first | exact Off.refl _ _ | refine Off.u rfl ?_ | refine Off.m rfl ?_)))⟩ ?_
        intro I m q32 j w h
        refine Dw.seq (Dw.seq (Dw.region (Dl.q (Y.mv (v := (vI q32)) rfl rfl) (Dl.q (Y.mv (v := (Sl.val p1)) rfl rfl) (Dl.q (Y.len rfl Try.runUnderlying24 rfl) (Dl.q (Y.lss rfl rfl rfl) (Dl.nil (Th.m ?_))))))))
        refine Dw.cond rfl (fun hb72 => ?_) (fun hb72 => ?_)
        · replace h := M.iteT h hb72
          refine Dw.skip (Th.m (Dw.seq (Dw.block (Dw.seq (Dw.region ?_)))))
          refine Dl.n (N.mkS rfl Try.runUnderlying24 Try.sizeOf3 Try.zeroValue3 h rfl rfl rfl rfl rfl fun b34 _ h => ?_)
          refine Dl.q (Y.asg (v := (Sl.val (⟨some b34, 0, 0⟩ : Sl))) rfl rfl) (Dl.nil (Th.m (Dw.seq (Dw.seq (Dw.region (Dl.q (Y.asg (v := (vI 0)) rfl rfl) (Dl.nil (Th.m (Dw.block ?_)))))))))
          refine Dw.loopM (fun s j r => upd (upd (mask r j 19807040333418179219033165344) 9 (Sl.val s.1)) 10 (vI s.2)) h ⟨_, eqUpd rfl (eqUpd rfl (eqMask (by repeat' (first | exact Off.refl _ _ | refine Off.u rfl ?_ | refine Off.m rfl ?_))))⟩ ?_
          intro I m q35 j w h
          refine Dw.seq (Dw.seq (Dw.region (Dl.q (Y.mv (v := (vI q35.2)) rfl rfl) (Dl.q (Y.fa 256 rfl Try.runUnderlying27 rfl Try.sizeOf3 (by decide) rfl rfl) ?_))))
          obtain ⟨x37, hcx37, h⟩ := h
          refine Dl.q (Y.ld rfl Try.isAgg3 rfl hcx37) (Dl.q (Y.lss rfl rfl rfl) (Dl.nil (Th.m ?_)))
          refine Dw.cond rfl (fun hb69 => ?_) (fun hb69 => ?_)
          · replace h := M.iteT h hb69
            refine Dw.skip (Th.m (Dw.seq (Dw.block (Dw.seq (Dw.game (by kernel_rfl) ?_)))))
            replace h := M.drew_un h
            generalize World.drew _ = w at h ⊢
            refine Gm.pure 0 rfl (by kernel_rfl) (fun _ => Y.mv (v := (Sl.val p1)) rfl rfl) (Gm.pure 1 rfl (by kernel_rfl) (fun _ => Y.fa 257 rfl Try.runUnderlying27 rfl Try.sizeOf23 (by decide) rfl rfl) ?_)
            obtain ⟨x38, hcx38, h⟩ := h
            refine Gm.quiet 2 rfl (by kernel_rfl) (fun _ hw => Y.ld rfl Try.isAgg23 rfl hw) hcx38 (Gm.pure 3 rfl (by kernel_rfl) (fun _ => Y.mv (v := (Sl.val p1)) rfl rfl) (Gm.pure 4 rfl (by kernel_rfl) (fun _ => Y.mv (v := (vI q32)) rfl rfl) ?_))
            obtain ⟨a39, a390, ha, hi, he, h⟩ := h
            refine Gm.pure 5 rfl (by kernel_rfl) (fun _ => Y.ix rfl Try.runUnderlying24 Try.sizeOf3 rfl rfl ha hi he) ?_
            obtain ⟨x40, hcx40, h⟩ := h
            refine Gm.quiet 6 rfl (by kernel_rfl) (fun _ hw => Y.ld rfl Try.isAgg3 rfl hw) hcx40 ?_
            obtain ⟨a41, a410, ha, hi, he, h⟩ := h
            refine Gm.pure 7 rfl (by kernel_rfl) (fun _ => Y.ix rfl Try.runUnderlying23 Try.sizeOf24 rfl rfl ha hi he) ?_
            obtain ⟨x42, hcx42, h⟩ := h
            refine Gm.quiet 8 rfl (by kernel_rfl) (fun _ hw => Y.ld rfl Try.isAgg24 rfl hw) hcx42 (Gm.pure 9 rfl (by kernel_rfl) (fun _ => Y.mv (v := (vI q35.2)) rfl rfl) ?_)
            obtain ⟨a43, a430, ha, hi, he, h⟩ := h
            refine Gm.pure 10 rfl (by kernel_rfl) (fun _ => Y.ix rfl Try.runUnderlying24 Try.sizeOf3 rfl rfl ha hi he) ?_
            obtain ⟨x44, hcx44, h⟩ := h
            refine Gm.quiet 11 rfl (by kernel_rfl) (fun _ hw => Y.ld rfl Try.isAgg3 rfl hw) hcx44 (Gm.one' 12 rfl (by kernel_rfl) (.drop (by kernel_rfl) (.keep (by kernel_rfl) (.keep (by kernel_rfl) (.keep (by kernel_rfl) .nil)))) (N.call rfl Try.call84 rfl h ?_))
            intro r45 w h
            obtain ⟨hp46, h⟩ := h
            obtain ⟨hp47, h⟩ := h
            obtain ⟨hp48, h⟩ := h
            refine ⟨(pdC hp46 (pdC hp47 (pdC hp48 pdN))), ?_⟩
            refine Gm.pure 13 rfl (by kernel_rfl) (fun _ => Y.asg (v := (vI r45)) rfl rfl) (Gm.end (by kernel_rfl) (Th.m (Dw.seq (Dw.seq (Dw.region (Dl.q (Y.mv (v := (vI r45)) rfl rfl) (Dl.q (Y.lss rfl rfl rfl) (Dl.nil (Th.m ?_)))))))))
            refine Dw.cond rfl (fun hb52 => ?_) (fun hb52 => ?_)
            · replace h := M.iteT h hb52
              refine Dw.seq (Dw.region (Dl.q (Y.bld [] rfl rfl (Dfv_b _ )) ?_))
              refine Dl.n (N.stA rfl Try.sizeOf27 h rfl rfl (Dfv_len _) (Dfv_one _) fun h => ?_)
              generalize setCells _ _ _ _ = w at h ⊢
              refine Dl.q (Y.asg (v := (vI 1)) rfl rfl) (Dl.nil (Th.m (Dw.ret (Th.r (InB.r (Th.r (Th.r (InB.r (Th.r (InB.r (Th.r (Th.r ?_))))))))))))
              refine InB.r (Th.r ?_)
              obtain ⟨v49, hc, h⟩ := h
              exact finC2 Try.isAgg27 Try.sizeOf27 (Dfv_len _) rfl rfl hc ⟨_, rfl, h⟩
            · replace h := M.iteF h hb52
              refine Dw.skip (Th.m (Dw.region (Dl.q (Y.mv (v := (Sl.val q35.1)) rfl rfl) (Dl.q (Y.mv (v := (vI r45)) rfl rfl) ?_))))
              refine Dl.n (N.mkS rfl Try.runUnderlying24 Try.sizeOf3 Try.zeroValue3 h rfl rfl rfl rfl rfl fun b50 _ h => ?_)
              obtain ⟨s51, w, ha, h⟩ := h
              refine Dl.n (N.blt rfl rfl (fun _ => rfl) ha ?_)
              refine Dl.q (Y.asg (v := (Sl.val s51)) rfl rfl) (Dl.nil (InB.m (Th.m (Dw.region (Dl.q (Y.mv (v := (vI q35.2)) rfl rfl) (Dl.q (Y.add rfl rfl rfl) (Dl.q (Y.asg (v := (vI (wI (q35.2 + 1)))) rfl rfl) (Dl.nil ?_))))))))
              exact Th.m ⟨_, h, _, eqUpd rfl (eqUpd rfl (eqMask (by repeat' (first | exact Off.refl _ _ | refine Off.u rfl ?_ | refine Off.m rfl ?_))))⟩
          · replace h := M.iteF h hb69
            refine Dw.exit (Th.e (Th.e (InB.e (Th.m (Dw.seq (Dw.region (Dl.q (Y.fa 257 rfl Try.runUnderlying27 rfl Try.sizeOf23 (by decide) rfl rfl) ?_)))))))
            obtain ⟨x53, hcx53, h⟩ := h
            refine Dl.q (Y.ld rfl Try.isAgg23 rfl hcx53) (Dl.q (Y.mv (v := (Sl.val q35.1)) rfl rfl) ?_)
            refine Dl.n (N.mkS rfl Try.runUnderlying23 Try.sizeOf24 Try.zeroValue24 h rfl rfl rfl rfl rfl fun b54 _ h => ?_)
            obtain ⟨s55, w, ha, h⟩ := h
            refine Dl.n (N.blt rfl rfl (fun _ => rfl) ha ?_)
            refine Dl.q (Y.fa 257 rfl Try.runUnderlying27 rfl Try.sizeOf23 (by decide) rfl rfl) ?_
            refine Dl.n (N.st rfl Try.sizeOf23 h rfl rfl rfl rfl rfl fun h => ?_)
            refine Dl.nil (Th.m (Dw.game (by kernel_rfl) ?_))
            replace h := M.drew_un h
            generalize World.drew _ = w at h ⊢
            refine Gm.pure 0 rfl (by kernel_rfl) (fun _ => Y.fa 258 rfl Try.runUnderlying27 rfl Try.sizeOf24 (by decide) rfl rfl) ?_
            obtain ⟨x56, hcx56, h⟩ := h
            refine Gm.quiet 1 rfl (by kernel_rfl) (fun _ hw => Y.ld rfl Try.isAgg24 rfl hw) hcx56 (Gm.pure 2 rfl (by kernel_rfl) (fun _ => Y.fa 258 rfl Try.runUnderlying27 rfl Try.sizeOf24 (by decide) rfl rfl) ?_)
            obtain ⟨x57, hcx57, h⟩ := h
            refine Gm.quiet 3 rfl (by kernel_rfl) (fun _ hw => Y.ld rfl Try.isAgg24 rfl hw) hcx57 (Gm.pure 4 rfl (by kernel_rfl) (fun _ => Y.mv (v := (Sl.val p1)) rfl rfl) (Gm.pure 5 rfl (by kernel_rfl) (fun _ => Y.mv (v := (vI q32)) rfl rfl) ?_))
            obtain ⟨a58, a580, ha, hi, he, h⟩ := h
            refine Gm.pure 6 rfl (by kernel_rfl) (fun _ => Y.ix rfl Try.runUnderlying24 Try.sizeOf3 rfl rfl ha hi he) ?_
            obtain ⟨x59, hcx59, h⟩ := h
            refine Gm.quiet 7 rfl (by kernel_rfl) (fun _ hw => Y.ld rfl Try.isAgg3 rfl hw) hcx59 ?_
            obtain ⟨a60, a600, ha, hi, he, h⟩ := h
            refine Gm.pure 8 rfl (by kernel_rfl) (fun _ => Y.ix rfl Try.runUnderlying24 Try.sizeOf3 rfl rfl ha hi he) ?_
            obtain ⟨x61, hcx61, h⟩ := h
            refine Gm.quiet 9 rfl (by kernel_rfl) (fun _ hw => Y.ld rfl Try.isAgg3 rfl hw) hcx61 (Gm.one' 10 rfl (by kernel_rfl) (.drop (by kernel_rfl) (.keep (by kernel_rfl) (.keep (by kernel_rfl) (.keep (by kernel_rfl) .nil)))) (N.mkS rfl Try.runUnderlying24 Try.sizeOf3 Try.zeroValue3 h rfl rfl rfl rfl rfl fun b62 _ h => ?_))
            obtain ⟨hp63, h⟩ := h
            obtain ⟨hp64, h⟩ := h
            obtain ⟨hp65, h⟩ := h
            refine ⟨(pdC hp63 (pdC hp64 (pdC hp65 pdN))), ?_⟩
            generalize World.alloc _ _ = w at h ⊢
            refine Gm.one' 11 rfl (by kernel_rfl) (.keep (by kernel_rfl) (.keep (by kernel_rfl) (.drop (by kernel_rfl) .nil))) ?_
            obtain ⟨s66, w, ha, h⟩ := h
            refine N.blt rfl rfl (fun _ => rfl) ha ?_
            obtain ⟨hp67, h⟩ := h
            obtain ⟨hp68, h⟩ := h
            refine ⟨(pdC hp67 (pdC hp68 pdN)), ?_⟩
            refine Gm.pure 12 rfl (by kernel_rfl) (fun _ => Y.fa 258 rfl Try.runUnderlying27 rfl Try.sizeOf24 (by decide) rfl rfl) (Gm.one' 13 rfl (by kernel_rfl) (.drop (by kernel_rfl) (.drop (by kernel_rfl) .nil)) ?_)
            refine N.st rfl Try.sizeOf24 h rfl rfl rfl rfl rfl fun h => ?_
            refine ⟨pdN, ?_⟩
            generalize World.setCell _ _ _ = w at h ⊢
            refine Gm.end (by kernel_rfl) (InB.m (Th.m (Dw.region (Dl.q (Y.mv (v := (vI q32)) rfl rfl) (Dl.q (Y.add rfl rfl rfl) (Dl.q (Y.asg (v := (vI (wI (q32 + 1)))) rfl rfl) (Dl.nil ?_)))))))
            exact Th.m ⟨_, h, _, eqUpd rfl (eqMask (by repeat' (first | exact Off.refl _ _ | refine Off.u rfl ?_ | refine Off.m rfl ?_)))⟩
        · replace h := M.iteF h hb72
          refine Dw.exit (Th.e (Th.e (InB.e (Th.m (Dw.seq (Dw.region ?_))))))
          obtain ⟨v70, hcv70, h⟩ := h
          refine Dl.q (Y.ldA rfl Try.isAgg27 Try.sizeOf27 (Dfv_len _) rfl hcv70) ?_
          refine Dl.n (N.stA rfl Try.sizeOf27 h rfl rfl (Dfv_len _) (Dfv_one _) fun h => ?_)
          generalize setCells _ _ _ _ = w at h ⊢
          refine Dl.q (Y.asg (v := (vI 0)) rfl rfl) (Dl.nil (Th.m (Dw.ret ?_)))
          obtain ⟨v71, hc, h⟩ := h
          exact finC2 Try.isAgg27 Try.sizeOf27 (Dfv_len _) rfl rfl hc ⟨_, rfl, h⟩
set_option maxHeartbeats 1000000 in
set_option maxRecDepth 20000 in
theorem r20_Reach {p0 : Dfv} {w : World} {R : Sl → World → Prop} (h : S.r20_Reach p0 w R) : Calls Try.prog 65 [(.agg (Dfv.cs p0).toArray)].toArray w (Ret Sl.val R) := by
  refine calls_of Try.func65 rfl rfl rfl (by kernel_rfl) rfl ?_
  unfold S.r20_Reach at h
  refine Dw.seq (Dw.region ?_)
  refine Dl.n (N.box rfl h rfl rfl fun b1 _ h => ?_)
  refine Dl.q (Y.asg (v := (Sl.val Sl.nil)) rfl rfl) (Dl.nil (Th.m (Dw.seq (Dw.region ?_))))
  refine Dl.n (N.mkS rfl Try.runUnderlying24 Try.sizeOf3 Try.zeroValue3 h rfl rfl rfl rfl rfl fun b2 _ h => ?_)
  refine Dl.q (Y.asg (v := (Sl.val (⟨some b2, 1, 1⟩ : Sl))) rfl rfl) (Dl.nil (Th.m (Dw.seq (Dw.seq (Dw.region (Dl.q (Y.asg (v := (vI 0)) rfl rfl) (Dl.nil (Th.m (Dw.block ?_)))))))))
  refine Dw.loopM (fun s j r => upd (upd (mask r j 549755813752) 3 (Sl.val s.1)) 4 (vI s.2)) h ⟨_, eqUpd rfl (eqUpd rfl (eqMask (by repeat' (first | exact Off.refl _ _ | refine Off.u rfl ?_ | refine Off.m rfl ?_))))⟩ ?_
  intro I m q3 j w h
  refine Dw.seq (Dw.seq (Dw.region (Dl.q (Y.mv (v := (vI q3.2)) rfl rfl) (Dl.q (Y.mv (v := (Sl.val q3.1)) rfl rfl) (Dl.q (Y.len rfl Try.runUnderlying24 rfl) (Dl.q (Y.lss rfl rfl rfl) (Dl.nil (Th.m ?_))))))))
  refine Dw.cond rfl (fun hb20 => ?_) (fun hb20 => ?_)
  · replace h := M.iteT h hb20
    refine Dw.skip (Th.m (Dw.seq (Dw.block (Dw.seq (Dw.region (Dl.q (Y.asg (v := (vI 0)) rfl rfl) (Dl.nil (Th.m (Dw.block ?_)))))))))
    refine Dw.loopM (fun s j r => upd (upd (mask r j 549755797608) 3 (Sl.val s.1)) 5 (vI s.2)) h ⟨_, eqUpd rfl (eqUpd rfl (eqMask (by repeat' (first | exact Off.refl _ _ | refine Off.u rfl ?_ | refine Off.m rfl ?_))))⟩ ?_
    intro I m q5 j w h
    refine Dw.seq (Dw.seq (Dw.region (Dl.q (Y.mv (v := (vI q5.2)) rfl rfl) (Dl.q (Y.fa 256 rfl Try.runUnderlying27 rfl Try.sizeOf3 (by decide) rfl rfl) ?_))))
    obtain ⟨x7, hcx7, h⟩ := h
    refine Dl.q (Y.ld rfl Try.isAgg3 rfl hcx7) (Dl.q (Y.lss rfl rfl rfl) (Dl.nil (Th.m ?_)))
    refine Dw.cond rfl (fun hb19 => ?_) (fun hb19 => ?_)
    · replace h := M.iteT h hb19
      refine Dw.skip (Th.m (Dw.seq (Dw.block (Dw.seq (Dw.game (by kernel_rfl) ?_)))))
      replace h := M.drew_un h
      generalize World.drew _ = w at h ⊢
      refine Gm.pure 0 rfl (by kernel_rfl) (fun _ => Y.fa 257 rfl Try.runUnderlying27 rfl Try.sizeOf23 (by decide) rfl rfl) ?_
      obtain ⟨x8, hcx8, h⟩ := h
      refine Gm.quiet 1 rfl (by kernel_rfl) (fun _ hw => Y.ld rfl Try.isAgg23 rfl hw) hcx8 (Gm.pure 2 rfl (by kernel_rfl) (fun _ => Y.mv (v := (Sl.val q5.1)) rfl rfl) (Gm.pure 3 rfl (by kernel_rfl) (fun _ => Y.mv (v := (vI q3.2)) rfl rfl) ?_))
      obtain ⟨a9, a90, ha, hi, he, h⟩ := h
      refine Gm.pure 4 rfl (by kernel_rfl) (fun _ => Y.ix rfl Try.runUnderlying24 Try.sizeOf3 rfl rfl ha hi he) ?_
      obtain ⟨x10, hcx10, h⟩ := h
      refine Gm.quiet 5 rfl (by kernel_rfl) (fun _ hw => Y.ld rfl Try.isAgg3 rfl hw) hcx10 ?_
      obtain ⟨a11, a110, ha, hi, he, h⟩ := h
      refine Gm.pure 6 rfl (by kernel_rfl) (fun _ => Y.ix rfl Try.runUnderlying23 Try.sizeOf24 rfl rfl ha hi he) ?_
      obtain ⟨x12, hcx12, h⟩ := h
      refine Gm.quiet 7 rfl (by kernel_rfl) (fun _ hw => Y.ld rfl Try.isAgg24 rfl hw) hcx12 (Gm.pure 8 rfl (by kernel_rfl) (fun _ => Y.mv (v := (vI q5.2)) rfl rfl) ?_)
      obtain ⟨a13, a130, ha, hi, he, h⟩ := h
      refine Gm.pure 9 rfl (by kernel_rfl) (fun _ => Y.ix rfl Try.runUnderlying24 Try.sizeOf3 rfl rfl ha hi he) ?_
      obtain ⟨x14, hcx14, h⟩ := h
      refine Gm.quiet 10 rfl (by kernel_rfl) (fun _ hw => Y.ld rfl Try.isAgg3 rfl hw) hcx14 (Gm.pure 11 rfl (by kernel_rfl) (fun _ => Y.asg (v := (vI x14)) rfl rfl) (Gm.end (by kernel_rfl) (Th.m (Dw.seq (Dw.region (Dl.q (Y.mv (v := (Sl.val q5.1)) rfl rfl) (Dl.q (Y.mv (v := (vI x14)) rfl rfl) ?_)))))))
      refine Dl.n (N.call rfl Try.call85 rfl h ?_)
      intro r15 w h
      refine Dl.q (Y.not rfl rfl) (Dl.nil (Th.m ?_))
      refine Dw.cond rfl (fun hb18 => ?_) (fun hb18 => ?_)
      · replace h := M.iteT h hb18
        refine Dw.region (Dl.q (Y.mv (v := (Sl.val q5.1)) rfl rfl) (Dl.q (Y.mv (v := (vI x14)) rfl rfl) ?_))
        refine Dl.n (N.mkS rfl Try.runUnderlying24 Try.sizeOf3 Try.zeroValue3 h rfl rfl rfl rfl rfl fun b16 _ h => ?_)
        obtain ⟨s17, w, ha, h⟩ := h
        refine Dl.n (N.blt rfl rfl (fun _ => rfl) ha ?_)
        refine Dl.q (Y.asg (v := (Sl.val s17)) rfl rfl) (Dl.nil (InB.m (Th.m (Dw.region (Dl.q (Y.mv (v := (vI q5.2)) rfl rfl) (Dl.q (Y.add rfl rfl rfl) (Dl.q (Y.asg (v := (vI (wI (q5.2 + 1)))) rfl rfl) (Dl.nil ?_))))))))
        exact Th.m ⟨_, h, _, eqUpd rfl (eqUpd rfl (eqMask (by repeat' (first | exact Off.refl _ _ | refine Off.u rfl ?_ | refine Off.m rfl ?_))))⟩
      · replace h := M.iteF h hb18
        refine Dw.skip (InB.m (Th.m (Dw.region (Dl.q (Y.mv (v := (vI q5.2)) rfl rfl) (Dl.q (Y.add rfl rfl rfl) (Dl.q (Y.asg (v := (vI (wI (q5.2 + 1)))) rfl rfl) (Dl.nil ?_)))))))
        exact Th.m ⟨_, h, _, eqUpd rfl (eqUpd rfl (eqMask (by repeat' (first | exact Off.refl _ _ | refine Off.u rfl ?_ | refine Off.m rfl ?_))))⟩
    · replace h := M.iteF h hb19
      refine Dw.exit (Th.e (Th.e (InB.e (InB.m (Th.m (Dw.region (Dl.q (Y.mv (v := (vI q3.2)) rfl rfl) (Dl.q (Y.add rfl rfl rfl) (Dl.q (Y.asg (v := (vI (wI (q3.2 + 1)))) rfl rfl) (Dl.nil ?_))))))))))
      exact Th.m ⟨_, h, _, eqUpd rfl (eqUpd rfl (eqMask (by repeat' (first | exact Off.refl _ _ | refine Off.u rfl ?_ | refine Off.m rfl ?_))))⟩
  · replace h := M.iteF h hb20
    refine Dw.exit (Th.e (Th.e (InB.e (Th.m (Dw.seq (Dw.region (Dl.q (Y.mv (v := (Sl.val q3.1)) rfl rfl) (Dl.q (Y.asg (v := (Sl.val q3.1)) rfl rfl) (Dl.nil (Th.m (Dw.ret ?_)))))))))))
    exact fin1 rfl ⟨_, rfl, h⟩
end L
end Go.Proofs.Ythepabefikobpaa
