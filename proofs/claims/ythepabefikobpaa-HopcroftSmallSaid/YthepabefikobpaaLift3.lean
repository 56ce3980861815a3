/- The lifts: what is shown of a shallow text holds of the call. By a program (gen.py). No condition. -/
import Derived.Test.YthepabefikobpaaShal
namespace Go.Proofs.Ythepabefikobpaa
open Go Go.Sh
namespace L
set_option maxHeartbeats 1000000 in
set_option maxRecDepth 20000 in
theorem math_bits_Mul {p0 : Int} {p1 : Int} {w : World} {R : (Int × Int) → World → Prop} (h : S.math_bits_Mul p0 p1 w R) : Calls Try.prog 96 [((Value.int .u64) p0), ((Value.int .u64) p1)].toArray w (Ret (fun x : (Int × Int) => .tuple #[((Value.int .u64) x.1), ((Value.int .u64) x.2)]) R) := by
  refine calls_of Try.func96 rfl rfl rfl (by kernel_rfl) rfl ?_
  unfold S.math_bits_Mul at h
  refine Dw.seq (Dw.region (Dl.q (Y.asg (v := ((Value.int .u64) 0)) rfl rfl) (Dl.q (Y.asg (v := ((Value.int .u64) 0)) rfl rfl) (Dl.nil (Th.m (Dw.seq (Dw.condF rfl (Dw.skip (Th.m (Dw.seq (Dw.region (Dl.q (Y.mv (v := ((Value.int .u64) p0)) rfl rfl) ?_))))))))))))
  refine Dl.q (Y.mv (v := ((Value.int .u64) p1)) rfl rfl) ?_
  refine Dl.n (N.call rfl Try.call103 rfl h ?_)
  intro r1 w h
  refine Dl.q (Y.mv (v := (.tuple #[((Value.int .u64) r1.1), ((Value.int .u64) r1.2)])) rfl rfl) (Dl.q (Y.ext rfl rfl rfl) (Dl.q (Y.ext rfl rfl rfl) (Dl.q (Y.asg (v := ((Value.int .u64) r1.1)) rfl rfl) (Dl.q (Y.asg (v := ((Value.int .u64) r1.2)) rfl rfl) (Dl.nil (Th.m (Dw.seq (Dw.region (Dl.q (Y.mv (v := ((Value.int .u64) r1.1)) rfl rfl) (Dl.q (Y.mv (v := ((Value.int .u64) r1.2)) rfl rfl) (Dl.q (Y.asg (v := ((Value.int .u64) r1.1)) rfl rfl) (Dl.q (Y.asg (v := ((Value.int .u64) r1.2)) rfl rfl) ?_))))))))))))
  refine Dl.nil (Th.m (Dw.ret ?_))
  exact fin2 rfl rfl ⟨_, rfl, h⟩
set_option maxHeartbeats 1000000 in
set_option maxRecDepth 20000 in
theorem slices_rotateCmpFunc_int {p0 : Sl} {p1 : Int} {p2 : Int} {p3 : Int} {p4 : Value} {w : World} {R : Unit → World → Prop} (h : S.slices_rotateCmpFunc_int p0 p1 p2 p3 p4 w R) : Calls Try.prog 97 [(Sl.val p0), (vI p1), (vI p2), (vI p3), p4].toArray w (Ret vUnit R) := by
  refine calls_of Try.func97 rfl rfl rfl (by kernel_rfl) rfl ?_
  unfold S.slices_rotateCmpFunc_int at h
  refine Dw.seq (Dw.region (Dl.q (Y.mv (v := (vI p2)) rfl rfl) (Dl.q (Y.mv (v := (vI p1)) rfl rfl) (Dl.q (Y.sub rfl rfl rfl) (Dl.q (Y.asg (v := (vI (wI (p2 - p1)))) rfl rfl) (Dl.nil (Th.m (Dw.seq (Dw.region (Dl.q (Y.mv (v := (vI p3)) rfl rfl) (Dl.q (Y.mv (v := (vI p2)) rfl rfl) (Dl.q (Y.sub rfl rfl rfl) ?_))))))))))))
  refine Dl.q (Y.asg (v := (vI (wI (p3 - p2)))) rfl rfl) (Dl.nil (Th.m (Dw.seq (Dw.block ?_))))
  refine Dw.loopM (fun s j r => upd (upd (mask r j 1125899906583552) 10 (vI s.1)) 11 (vI s.2)) h ⟨_, eqUpd rfl (eqUpd rfl (eqMask (by repeat' (first | exact Off.refl _ _ | refine Off.u rfl ?_ | refine Off.m rfl ?_))))⟩ ?_
  intro I m q1 j w h
  refine Dw.seq (Dw.seq (Dw.region (Dl.q (Y.mv (v := (vI q1.1)) rfl rfl) (Dl.q (Y.mv (v := (vI q1.2)) rfl rfl) (Dl.q (Y.neI rfl rfl rfl) (Dl.nil (Th.m ?_)))))))
  refine Dw.cond rfl (fun hb7 => ?_) (fun hb7 => ?_)
  · replace h := M.iteT h hb7
    refine Dw.skip (Th.m (Dw.block (Dw.seq (Dw.region (Dl.q (Y.mv (v := (vI q1.1)) rfl rfl) (Dl.q (Y.mv (v := (vI q1.2)) rfl rfl) (Dl.q (Y.gtr rfl rfl rfl) (Dl.nil (Th.m ?_)))))))))
    refine Dw.cond rfl (fun hb5 => ?_) (fun hb5 => ?_)
    · replace h := M.iteT h hb5
      refine Dw.seq (Dw.region (Dl.q (Y.mv (v := (Sl.val p0)) rfl rfl) (Dl.q (Y.mv (v := (vI p2)) rfl rfl) (Dl.q (Y.mv (v := (vI q1.1)) rfl rfl) (Dl.q (Y.sub rfl rfl rfl) (Dl.q (Y.mv (v := (vI p2)) rfl rfl) (Dl.q (Y.mv (v := (vI q1.2)) rfl rfl) (Dl.q (Y.mv (v := p4) rfl rfl) ?_))))))))
      refine Dl.n (N.call rfl Try.call104 rfl h ?_)
      intro r3 w h
      refine Dl.nil (Th.m (Dw.region (Dl.q (Y.mv (v := (vI q1.1)) rfl rfl) (Dl.q (Y.mv (v := (vI q1.2)) rfl rfl) (Dl.q (Y.sub rfl rfl rfl) (Dl.q (Y.asg (v := (vI (wI (q1.1 - q1.2)))) rfl rfl) (Dl.nil (InB.m ?_))))))))
      exact Th.m ⟨_, h, _, eqUpd rfl (eqUpd rfl (eqMask (by repeat' (first | exact Off.refl _ _ | refine Off.u rfl ?_ | refine Off.m rfl ?_))))⟩
    · replace h := M.iteF h hb5
      refine Dw.seq (Dw.region (Dl.q (Y.mv (v := (Sl.val p0)) rfl rfl) (Dl.q (Y.mv (v := (vI p2)) rfl rfl) (Dl.q (Y.mv (v := (vI q1.1)) rfl rfl) (Dl.q (Y.sub rfl rfl rfl) (Dl.q (Y.mv (v := (vI p2)) rfl rfl) (Dl.q (Y.mv (v := (vI q1.2)) rfl rfl) (Dl.q (Y.add rfl rfl rfl) (Dl.q (Y.mv (v := (vI q1.1)) rfl rfl) (Dl.q (Y.sub rfl rfl rfl) (Dl.q (Y.mv (v := (vI q1.1)) rfl rfl) (Dl.q (Y.mv (v := p4) rfl rfl) ?_))))))))))))
      refine Dl.n (N.call rfl Try.call104 rfl h ?_)
      intro r4 w h
      refine Dl.nil (Th.m (Dw.region (Dl.q (Y.mv (v := (vI q1.2)) rfl rfl) (Dl.q (Y.mv (v := (vI q1.1)) rfl rfl) (Dl.q (Y.sub rfl rfl rfl) (Dl.q (Y.asg (v := (vI (wI (q1.2 - q1.1)))) rfl rfl) (Dl.nil (InB.m ?_))))))))
      exact Th.m ⟨_, h, _, eqUpd rfl (eqUpd rfl (eqMask (by repeat' (first | exact Off.refl _ _ | refine Off.u rfl ?_ | refine Off.m rfl ?_))))⟩
  · replace h := M.iteF h hb7
    refine Dw.exit (Th.e (Th.e (InB.e (Th.m (Dw.region (Dl.q (Y.mv (v := (Sl.val p0)) rfl rfl) (Dl.q (Y.mv (v := (vI p2)) rfl rfl) (Dl.q (Y.mv (v := (vI q1.1)) rfl rfl) (Dl.q (Y.sub rfl rfl rfl) (Dl.q (Y.mv (v := (vI p2)) rfl rfl) (Dl.q (Y.mv (v := (vI q1.1)) rfl rfl) (Dl.q (Y.mv (v := p4) rfl rfl) ?_))))))))))))
    refine Dl.n (N.call rfl Try.call104 rfl h ?_)
    intro r6 w h
    refine Dl.nil ?_
    exact fin0 ⟨(), rfl, h⟩
set_option maxHeartbeats 1000000 in
set_option maxRecDepth 20000 in
theorem r02_Has {p0 : (Nat → Int)} {p1 : Int} {w : World} {R : Bool → World → Prop} (h : S.r02_Has p0 p1 w R) : Calls Try.prog 98 [(.agg (A4.cs p0).toArray), (vI p1)].toArray w (Ret Value.bool R) := by
  refine calls_of Try.func98 rfl rfl rfl (by kernel_rfl) rfl ?_
  unfold S.r02_Has at h
  refine Dw.seq (Dw.region ?_)
  refine Dl.n (N.box rfl h rfl rfl fun b1 _ h => ?_)
  refine Dl.q (Y.asg (v := (Value.bool false)) rfl rfl) (Dl.nil (Th.m (Dw.seq (Dw.region (Dl.q (Y.mv (v := (vI p1)) rfl rfl) ?_)))))
  obtain ⟨ha, h⟩ := h
  refine Dl.q (Y.quo rfl rfl rfl ha) ?_
  obtain ⟨a2, hi, he, h⟩ := h
  refine Dl.q (Y.ixA rfl Try.runUnderlying120 Try.sizeOf118 rfl rfl hi he) ?_
  obtain ⟨x3, hcx3, h⟩ := h
  refine Dl.q (Y.ld rfl Try.isAgg118 rfl hcx3) (Dl.q (Y.mv (v := (vI p1)) rfl rfl) ?_)
  obtain ⟨ha, h⟩ := h
  refine Dl.q (Y.rem rfl rfl rfl ha) (Dl.q (Y.conv rfl Try.runUnderlying3 Try.runUnderlying114 rfl) ?_)
  obtain ⟨x4, hcx4, h⟩ := h
  refine Dl.q (Y.binU rfl rfl rfl hcx4) ?_
  obtain ⟨x5, hcx5, h⟩ := h
  refine Dl.q (Y.binU rfl rfl rfl hcx5) (Dl.q (Y.eqI rfl rfl rfl) (Dl.q (Y.asg (v := (Value.bool (decide (x5 = 1)))) rfl rfl) (Dl.nil (Th.m (Dw.ret ?_)))))
  exact fin1 rfl ⟨_, rfl, h⟩
set_option maxHeartbeats 1000000 in
set_option maxRecDepth 20000 in
theorem r02_With {p0 : (Nat → Int)} {p1 : Int} {w : World} {R : (Nat → Int) → World → Prop} (h : S.r02_With p0 p1 w R) : Calls Try.prog 99 [(.agg (A4.cs p0).toArray), (vI p1)].toArray w (Ret (fun x : (Nat → Int) => .agg (A4.cs x).toArray) R) := by
  refine calls_of Try.func99 rfl rfl rfl (by kernel_rfl) rfl ?_
  unfold S.r02_With at h
  refine Dw.seq (Dw.region ?_)
  refine Dl.n (N.box rfl h rfl rfl fun b1 _ h => ?_)
  refine Dl.n (N.new rfl Try.zeroValue120 h (by kernel_rfl) fun b2 _ h => ?_)
  refine Dl.nil (Th.m (Dw.seq (Dw.region (Dl.q (Y.mv (v := (vI p1)) rfl rfl) ?_))))
  obtain ⟨ha, h⟩ := h
  refine Dl.q (Y.quo rfl rfl rfl ha) (Dl.q (Y.mv (v := (vI p1)) rfl rfl) ?_)
  obtain ⟨ha, h⟩ := h
  refine Dl.q (Y.quo rfl rfl rfl ha) ?_
  obtain ⟨a3, hi, he, h⟩ := h
  refine Dl.q (Y.ixA rfl Try.runUnderlying120 Try.sizeOf118 rfl rfl hi he) ?_
  obtain ⟨x4, hcx4, h⟩ := h
  refine Dl.q (Y.ld rfl Try.isAgg118 rfl hcx4) (Dl.q (Y.mv (v := (vI p1)) rfl rfl) ?_)
  obtain ⟨ha, h⟩ := h
  refine Dl.q (Y.rem rfl rfl rfl ha) (Dl.q (Y.conv rfl Try.runUnderlying3 Try.runUnderlying114 rfl) ?_)
  obtain ⟨x5, hcx5, h⟩ := h
  refine Dl.q (Y.binU rfl rfl rfl hcx5) ?_
  obtain ⟨x6, hcx6, h⟩ := h
  refine Dl.q (Y.binU rfl rfl rfl hcx6) ?_
  obtain ⟨a7, hi, he, h⟩ := h
  refine Dl.q (Y.ixA rfl Try.runUnderlying120 Try.sizeOf118 rfl rfl hi he) ?_
  refine Dl.n (N.st rfl Try.sizeOf118 h rfl rfl rfl rfl rfl fun h => ?_)
  refine Dl.nil (Th.m (Dw.seq (Dw.region ?_)))
  obtain ⟨v8, hcv8, h⟩ := h
  refine Dl.q (Y.ldA rfl Try.isAgg120 Try.sizeOf120 (A4_len _) rfl hcv8) ?_
  refine Dl.n (N.stA rfl Try.sizeOf120 h rfl rfl (A4_len _) (A4_one _) fun h => ?_)
  generalize setCells _ _ _ _ = w at h ⊢
  refine Dl.nil (Th.m (Dw.ret ?_))
  obtain ⟨v9, hc, h⟩ := h
  exact finC Try.isAgg120 Try.sizeOf120 (A4_len _) rfl hc ⟨_, rfl, h⟩
set_option maxHeartbeats 1000000 in
set_option maxRecDepth 20000 in
theorem moore_round_c1 {p0 : Int} {c0 : Addr} {c1 : Addr} {w : World} {R : Sl → World → Prop} (h : S.moore_round_c1 p0 c0 c1 w R) : Calls Try.prog 100 [(vI p0), (vA c0), (vA c1)].toArray w (Ret Sl.val R) := by
  refine calls_of Try.func100 rfl rfl rfl (by kernel_rfl) rfl ?_
  unfold S.moore_round_c1 at h
  refine Dw.seq (Dw.region (Dl.q (Y.asg (v := (Sl.val Sl.nil)) rfl rfl) (Dl.nil (Th.m (Dw.seq (Dw.region ?_))))))
  obtain ⟨x1, hcx1, h⟩ := h
  refine Dl.q (Y.ld rfl Try.isAgg24 rfl hcx1) (Dl.q (Y.len rfl Try.runUnderlying24 rfl) ?_)
  obtain ⟨s2, w, ha, h⟩ := h
  refine Dl.n (N.of rfl rfl ha ?_)
  refine Dl.q (Y.asg (v := (Sl.val s2)) rfl rfl) (Dl.nil (Th.m (Dw.seq (Dw.seq (Dw.region (Dl.q (Y.fa 257 rfl Try.runUnderlying27 rfl Try.sizeOf23 (by decide) rfl rfl) ?_))))))
  obtain ⟨x3, hcx3, h⟩ := h
  refine Dl.q (Y.ld rfl Try.isAgg23 rfl hcx3) (Dl.q (Y.len rfl Try.runUnderlying23 rfl) (Dl.q (Y.mv (v := (vI 0)) rfl rfl) (Dl.nil (Th.m (Dw.block ?_)))))
  refine Dw.loopM (fun s j r => upd (mask r j 1073725632) 14 (vI s)) h ⟨_, eqUpd rfl (eqMask (by repeat' (first | exact Off.refl _ _ | refine Off.u rfl ?_ | refine Off.m rfl ?_)))⟩ ?_
  intro I m q4 j w h
  refine Dw.seq (Dw.region (Dl.q (Y.lss rfl rfl rfl) (Dl.nil (Th.m (Dw.seq ?_)))))
  refine Dw.cond rfl (fun hb14 => ?_) (fun hb14 => ?_)
  · replace h := M.iteT h hb14
    refine Dw.skip (Th.m (Dw.seq (Dw.block (Dw.seq (Dw.region (Dl.q (Y.mv (v := (vI q4)) rfl rfl) ?_))))))
    obtain ⟨a6, a60, ha, hi, he, h⟩ := h
    refine Dl.q (Y.ix rfl Try.runUnderlying23 Try.sizeOf24 rfl rfl ha hi he) ?_
    obtain ⟨x7, hcx7, h⟩ := h
    refine Dl.q (Y.ld rfl Try.isAgg24 rfl hcx7) (Dl.q (Y.asg (v := (vI q4)) rfl rfl) (Dl.q (Y.asg (v := (Sl.val x7)) rfl rfl) (Dl.nil (Th.m (Dw.game (by kernel_rfl) ?_)))))
    replace h := M.drew_un h
    generalize World.drew _ = w at h ⊢
    refine Gm.pure 0 rfl (by kernel_rfl) (fun _ => Y.mv (v := (Sl.val s2)) rfl rfl) (Gm.pure 1 rfl (by kernel_rfl) (fun _ => Y.mv (v := (vI q4)) rfl rfl) ?_)
    obtain ⟨x8, hcx8, h⟩ := h
    refine Gm.quiet 2 rfl (by kernel_rfl) (fun _ hw => Y.ld rfl Try.isAgg24 rfl hw) hcx8 (Gm.pure 3 rfl (by kernel_rfl) (fun _ => Y.mv (v := (Sl.val x7)) rfl rfl) (Gm.pure 4 rfl (by kernel_rfl) (fun _ => Y.mv (v := (vI p0)) rfl rfl) ?_))
    obtain ⟨a9, a90, ha, hi, he, h⟩ := h
    refine Gm.pure 5 rfl (by kernel_rfl) (fun _ => Y.ix rfl Try.runUnderlying24 Try.sizeOf3 rfl rfl ha hi he) ?_
    obtain ⟨x10, hcx10, h⟩ := h
    refine Gm.quiet 6 rfl (by kernel_rfl) (fun _ hw => Y.ld rfl Try.isAgg3 rfl hw) hcx10 ?_
    obtain ⟨a11, a110, ha, hi, he, h⟩ := h
    refine Gm.pure 7 rfl (by kernel_rfl) (fun _ => Y.ix rfl Try.runUnderlying24 Try.sizeOf3 rfl rfl ha hi he) ?_
    obtain ⟨x12, hcx12, h⟩ := h
    refine Gm.quiet 8 rfl (by kernel_rfl) (fun _ hw => Y.ld rfl Try.isAgg3 rfl hw) hcx12 ?_
    obtain ⟨a13, a130, ha, hi, he, h⟩ := h
    refine Gm.pure 9 rfl (by kernel_rfl) (fun _ => Y.ix rfl Try.runUnderlying24 Try.sizeOf3 rfl rfl ha hi he) (Gm.one' 10 rfl (by kernel_rfl) (.drop (by kernel_rfl) (.drop (by kernel_rfl) (.drop (by kernel_rfl) .nil))) ?_)
    refine N.st rfl Try.sizeOf3 h rfl rfl rfl rfl rfl fun h => ?_
    refine ⟨pdN, ?_⟩
    generalize World.setCell _ _ _ = w at h ⊢
    refine Gm.end (by kernel_rfl) (InB.m (Th.m (Dw.region (Dl.q (Y.add rfl rfl rfl) (Dl.q (Y.mv (v := (vI (wI (q4 + 1)))) rfl rfl) (Dl.nil ?_))))))
    exact Th.m ⟨_, h, _, eqUpd rfl (eqMask (by repeat' (first | exact Off.refl _ _ | refine Off.u rfl ?_ | refine Off.m rfl ?_)))⟩
  · replace h := M.iteF h hb14
    refine Dw.exit (Th.e (Th.e (InB.e (Th.m (Dw.seq (Dw.region (Dl.q (Y.mv (v := (Sl.val s2)) rfl rfl) (Dl.q (Y.asg (v := (Sl.val s2)) rfl rfl) (Dl.nil (Th.m (Dw.ret ?_)))))))))))
    exact fin1 rfl ⟨_, rfl, h⟩
set_option maxHeartbeats 1000000 in
set_option maxRecDepth 20000 in
theorem quotient_Join {p0 : Sl} {p1 : Sl} {w : World} {R : Sl → World → Prop} (h : S.quotient_Join p0 p1 w R) : Calls Try.prog 101 [(Sl.val p0), (Sl.val p1)].toArray w (Ret Sl.val R) := by
  refine calls_of Try.func101 rfl rfl rfl (by kernel_rfl) rfl ?_
  unfold S.quotient_Join at h
  refine Dw.seq (Dw.region ?_)
  refine Dl.n (N.box rfl h rfl rfl fun b1 _ h => ?_)
  refine Dl.n (N.box rfl h rfl rfl fun b2 _ h => ?_)
  refine Dl.q (Y.asg (v := (Sl.val Sl.nil)) rfl rfl) (Dl.nil (Th.m (Dw.seq (Dw.region ?_))))
  obtain ⟨x3, hcx3, h⟩ := h
  refine Dl.q (Y.ld rfl Try.isAgg24 rfl hcx3) (Dl.q (Y.len rfl Try.runUnderlying24 rfl) ?_)
  obtain ⟨x4, hcx4, h⟩ := h
  refine Dl.q (Y.ld rfl Try.isAgg24 rfl hcx4) (Dl.q (Y.len rfl Try.runUnderlying24 rfl) (Dl.q (Y.min rfl rfl rfl) (Dl.q (Y.mkF rfl rfl) ?_)))
  refine Dl.n (N.call rfl Try.call105 rfl h ?_)
  intro r5 w h
  refine Dl.q (Y.asg (v := (Sl.val r5)) rfl rfl) (Dl.nil (Th.m (Dw.ret ?_)))
  exact fin1 rfl ⟨_, rfl, h⟩
set_option maxHeartbeats 1000000 in
set_option maxRecDepth 20000 in
theorem math_bits_Mul32 {p0 : Int} {p1 : Int} {w : World} {R : (Int × Int) → World → Prop} (h : S.math_bits_Mul32 p0 p1 w R) : Calls Try.prog 102 [((Value.int .u32) p0), ((Value.int .u32) p1)].toArray w (Ret (fun x : (Int × Int) => .tuple #[((Value.int .u32) x.1), ((Value.int .u32) x.2)]) R) := by
  refine calls_of Try.func102 rfl rfl rfl (by kernel_rfl) rfl ?_
  unfold S.math_bits_Mul32 at h
  refine Dw.seq (Dw.region (Dl.q (Y.asg (v := ((Value.int .u32) 0)) rfl rfl) (Dl.q (Y.asg (v := ((Value.int .u32) 0)) rfl rfl) (Dl.nil (Th.m (Dw.seq (Dw.region (Dl.q (Y.mv (v := ((Value.int .u32) p0)) rfl rfl) (Dl.q (Y.conv rfl Try.runUnderlying124 Try.runUnderlying118 rfl) (Dl.q (Y.mv (v := ((Value.int .u32) p1)) rfl rfl) (Dl.q (Y.conv rfl Try.runUnderlying124 Try.runUnderlying118 rfl) (Dl.q (Y.mul rfl rfl rfl) ?_))))))))))))
  refine Dl.q (Y.asg (v := ((Value.int .u64) (IntKind.wrap .u64 ((IntKind.wrap .u64 p0) * (IntKind.wrap .u64 p1))))) rfl rfl) (Dl.nil (Th.m (Dw.seq (Dw.region (Dl.q (Y.mv (v := ((Value.int .u64) (IntKind.wrap .u64 ((IntKind.wrap .u64 p0) * (IntKind.wrap .u64 p1))))) rfl rfl) ?_)))))
  obtain ⟨x1, hcx1, h⟩ := h
  refine Dl.q (Y.binU rfl rfl rfl hcx1) (Dl.q (Y.conv rfl Try.runUnderlying118 Try.runUnderlying124 rfl) (Dl.q (Y.mv (v := ((Value.int .u64) (IntKind.wrap .u64 ((IntKind.wrap .u64 p0) * (IntKind.wrap .u64 p1))))) rfl rfl) (Dl.q (Y.conv rfl Try.runUnderlying118 Try.runUnderlying124 rfl) (Dl.q (Y.asg (v := ((Value.int .u32) (IntKind.wrap .u32 x1))) rfl rfl) (Dl.q (Y.asg (v := ((Value.int .u32) (IntKind.wrap .u32 (IntKind.wrap .u64 ((IntKind.wrap .u64 p0) * (IntKind.wrap .u64 p1)))))) rfl rfl) (Dl.nil (Th.m (Dw.ret ?_))))))))
  exact fin2 rfl rfl ⟨_, rfl, h⟩
set_option maxHeartbeats 1000000 in
set_option maxRecDepth 20000 in
theorem math_bits_Mul64 {p0 : Int} {p1 : Int} {w : World} {R : (Int × Int) → World → Prop} (h : S.math_bits_Mul64 p0 p1 w R) : Calls Try.prog 103 [((Value.int .u64) p0), ((Value.int .u64) p1)].toArray w (Ret (fun x : (Int × Int) => .tuple #[((Value.int .u64) x.1), ((Value.int .u64) x.2)]) R) := by
  refine calls_of Try.func103 rfl rfl rfl (by kernel_rfl) rfl ?_
  unfold S.math_bits_Mul64 at h
  refine Dw.seq (Dw.region (Dl.q (Y.asg (v := ((Value.int .u64) 0)) rfl rfl) (Dl.q (Y.asg (v := ((Value.int .u64) 0)) rfl rfl) (Dl.nil (Th.m (Dw.seq (Dw.region (Dl.q (Y.mv (v := ((Value.int .u64) p0)) rfl rfl) ?_))))))))
  obtain ⟨x1, hcx1, h⟩ := h
  refine Dl.q (Y.binU rfl rfl rfl hcx1) (Dl.q (Y.asg (v := ((Value.int .u64) x1)) rfl rfl) (Dl.nil (Th.m (Dw.seq (Dw.region (Dl.q (Y.mv (v := ((Value.int .u64) p0)) rfl rfl) ?_))))))
  obtain ⟨x2, hcx2, h⟩ := h
  refine Dl.q (Y.binU rfl rfl rfl hcx2) (Dl.q (Y.asg (v := ((Value.int .u64) x2)) rfl rfl) (Dl.nil (Th.m (Dw.seq (Dw.region (Dl.q (Y.mv (v := ((Value.int .u64) p1)) rfl rfl) ?_))))))
  obtain ⟨x3, hcx3, h⟩ := h
  refine Dl.q (Y.binU rfl rfl rfl hcx3) (Dl.q (Y.asg (v := ((Value.int .u64) x3)) rfl rfl) (Dl.nil (Th.m (Dw.seq (Dw.region (Dl.q (Y.mv (v := ((Value.int .u64) p1)) rfl rfl) ?_))))))
  obtain ⟨x4, hcx4, h⟩ := h
  refine Dl.q (Y.binU rfl rfl rfl hcx4) (Dl.q (Y.asg (v := ((Value.int .u64) x4)) rfl rfl) (Dl.nil (Th.m (Dw.seq (Dw.region (Dl.q (Y.mv (v := ((Value.int .u64) x1)) rfl rfl) (Dl.q (Y.mv (v := ((Value.int .u64) x3)) rfl rfl) (Dl.q (Y.mul rfl rfl rfl) (Dl.q (Y.asg (v := ((Value.int .u64) (IntKind.wrap .u64 (x1 * x3)))) rfl rfl) (Dl.nil (Th.m (Dw.seq ?_))))))))))))
  refine Dw.region (Dl.q (Y.mv (v := ((Value.int .u64) x2)) rfl rfl) (Dl.q (Y.mv (v := ((Value.int .u64) x3)) rfl rfl) (Dl.q (Y.mul rfl rfl rfl) (Dl.q (Y.mv (v := ((Value.int .u64) (IntKind.wrap .u64 (x1 * x3)))) rfl rfl) ?_))))
  obtain ⟨x5, hcx5, h⟩ := h
  refine Dl.q (Y.binU rfl rfl rfl hcx5) (Dl.q (Y.add rfl rfl rfl) (Dl.q (Y.asg (v := ((Value.int .u64) (IntKind.wrap .u64 ((IntKind.wrap .u64 (x2 * x3)) + x5)))) rfl rfl) (Dl.nil (Th.m (Dw.seq (Dw.region (Dl.q (Y.mv (v := ((Value.int .u64) (IntKind.wrap .u64 ((IntKind.wrap .u64 (x2 * x3)) + x5)))) rfl rfl) ?_)))))))
  obtain ⟨x6, hcx6, h⟩ := h
  refine Dl.q (Y.binU rfl rfl rfl hcx6) (Dl.q (Y.asg (v := ((Value.int .u64) x6)) rfl rfl) (Dl.nil (Th.m (Dw.seq (Dw.region (Dl.q (Y.mv (v := ((Value.int .u64) (IntKind.wrap .u64 ((IntKind.wrap .u64 (x2 * x3)) + x5)))) rfl rfl) ?_))))))
  obtain ⟨x7, hcx7, h⟩ := h
  refine Dl.q (Y.binU rfl rfl rfl hcx7) (Dl.q (Y.asg (v := ((Value.int .u64) x7)) rfl rfl) (Dl.nil (Th.m (Dw.seq (Dw.region (Dl.q (Y.mv (v := ((Value.int .u64) x6)) rfl rfl) (Dl.q (Y.mv (v := ((Value.int .u64) x1)) rfl rfl) (Dl.q (Y.mv (v := ((Value.int .u64) x4)) rfl rfl) (Dl.q (Y.mul rfl rfl rfl) (Dl.q (Y.add rfl rfl rfl) (Dl.q (Y.asg (v := ((Value.int .u64) (IntKind.wrap .u64 (x6 + (IntKind.wrap .u64 (x1 * x4)))))) rfl rfl) (Dl.nil ?_))))))))))))
  refine Th.m (Dw.seq (Dw.region (Dl.q (Y.mv (v := ((Value.int .u64) x2)) rfl rfl) (Dl.q (Y.mv (v := ((Value.int .u64) x4)) rfl rfl) (Dl.q (Y.mul rfl rfl rfl) (Dl.q (Y.mv (v := ((Value.int .u64) x7)) rfl rfl) (Dl.q (Y.add rfl rfl rfl) (Dl.q (Y.mv (v := ((Value.int .u64) (IntKind.wrap .u64 (x6 + (IntKind.wrap .u64 (x1 * x4)))))) rfl rfl) ?_))))))))
  obtain ⟨x8, hcx8, h⟩ := h
  refine Dl.q (Y.binU rfl rfl rfl hcx8) (Dl.q (Y.add rfl rfl rfl) (Dl.q (Y.asg (v := ((Value.int .u64) (IntKind.wrap .u64 ((IntKind.wrap .u64 ((IntKind.wrap .u64 (x2 * x4)) + x7)) + x8)))) rfl rfl) (Dl.nil (Th.m (Dw.seq (Dw.region (Dl.q (Y.mv (v := ((Value.int .u64) p0)) rfl rfl) (Dl.q (Y.mv (v := ((Value.int .u64) p1)) rfl rfl) (Dl.q (Y.mul rfl rfl rfl) (Dl.q (Y.asg (v := ((Value.int .u64) (IntKind.wrap .u64 (p0 * p1)))) rfl rfl) (Dl.nil (Th.m ?_))))))))))))
  refine Dw.ret ?_
  exact fin2 rfl rfl ⟨_, rfl, h⟩
set_option maxHeartbeats 1000000 in
set_option maxRecDepth 20000 in
theorem slices_swapRangeCmpFunc_int {p0 : Sl} {p1 : Int} {p2 : Int} {p3 : Int} {p4 : Value} {w : World} {R : Unit → World → Prop} (h : S.slices_swapRangeCmpFunc_int p0 p1 p2 p3 p4 w R) : Calls Try.prog 104 [(Sl.val p0), (vI p1), (vI p2), (vI p3), p4].toArray w (Ret vUnit R) := by
  refine calls_of Try.func104 rfl rfl rfl (by kernel_rfl) rfl ?_
  unfold S.slices_swapRangeCmpFunc_int at h
  refine Dw.seq (Dw.region (Dl.q (Y.asg (v := (vI 0)) rfl rfl) (Dl.nil (Th.m (Dw.block ?_)))))
  refine Dw.loopM (fun s j r => upd (mask r j 274877905920) 10 (vI s)) h ⟨_, eqUpd rfl (eqMask (by repeat' (first | exact Off.refl _ _ | refine Off.u rfl ?_ | refine Off.m rfl ?_)))⟩ ?_
  intro I m q1 j w h
  refine Dw.seq (Dw.seq (Dw.region (Dl.q (Y.mv (v := (vI q1)) rfl rfl) (Dl.q (Y.mv (v := (vI p3)) rfl rfl) (Dl.q (Y.lss rfl rfl rfl) (Dl.nil (Th.m ?_)))))))
  refine Dw.cond rfl (fun hb9 => ?_) (fun hb9 => ?_)
  · replace h := M.iteT h hb9
    refine Dw.skip (Th.m (Dw.seq (Dw.block (Dw.game (by kernel_rfl) ?_))))
    replace h := M.drew_un h
    generalize World.drew _ = w at h ⊢
    refine Gm.pure 0 rfl (by kernel_rfl) (fun _ => Y.mv (v := (Sl.val p0)) rfl rfl) (Gm.pure 1 rfl (by kernel_rfl) (fun _ => Y.mv (v := (vI p1)) rfl rfl) (Gm.pure 2 rfl (by kernel_rfl) (fun _ => Y.mv (v := (vI q1)) rfl rfl) (Gm.pure 3 rfl (by kernel_rfl) (fun _ => Y.add rfl rfl rfl) (Gm.pure 4 rfl (by kernel_rfl) (fun _ => Y.mv (v := (Sl.val p0)) rfl rfl) (Gm.pure 5 rfl (by kernel_rfl) (fun _ => Y.mv (v := (vI p2)) rfl rfl) (Gm.pure 6 rfl (by kernel_rfl) (fun _ => Y.mv (v := (vI q1)) rfl rfl) (Gm.pure 7 rfl (by kernel_rfl) (fun _ => Y.add rfl rfl rfl) (Gm.pure 8 rfl (by kernel_rfl) (fun _ => Y.mv (v := (Sl.val p0)) rfl rfl) (Gm.pure 9 rfl (by kernel_rfl) (fun _ => Y.mv (v := (vI p2)) rfl rfl) (Gm.pure 10 rfl (by kernel_rfl) (fun _ => Y.mv (v := (vI q1)) rfl rfl) (Gm.pure 11 rfl (by kernel_rfl) (fun _ => Y.add rfl rfl rfl) ?_)))))))))))
    obtain ⟨a3, a30, ha, hi, he, h⟩ := h
    refine Gm.pure 12 rfl (by kernel_rfl) (fun _ => Y.ix rfl Try.runUnderlying24 Try.sizeOf3 rfl rfl ha hi he) ?_
    obtain ⟨x4, hcx4, h⟩ := h
    refine Gm.quiet 13 rfl (by kernel_rfl) (fun _ hw => Y.ld rfl Try.isAgg3 rfl hw) hcx4 (Gm.pure 14 rfl (by kernel_rfl) (fun _ => Y.mv (v := (Sl.val p0)) rfl rfl) (Gm.pure 15 rfl (by kernel_rfl) (fun _ => Y.mv (v := (vI p1)) rfl rfl) (Gm.pure 16 rfl (by kernel_rfl) (fun _ => Y.mv (v := (vI q1)) rfl rfl) (Gm.pure 17 rfl (by kernel_rfl) (fun _ => Y.add rfl rfl rfl) ?_))))
    obtain ⟨a5, a50, ha, hi, he, h⟩ := h
    refine Gm.pure 18 rfl (by kernel_rfl) (fun _ => Y.ix rfl Try.runUnderlying24 Try.sizeOf3 rfl rfl ha hi he) ?_
    obtain ⟨x6, hcx6, h⟩ := h
    refine Gm.quiet 19 rfl (by kernel_rfl) (fun _ hw => Y.ld rfl Try.isAgg3 rfl hw) hcx6 ?_
    obtain ⟨a7, a70, ha, hi, he, h⟩ := h
    refine Gm.pure 20 rfl (by kernel_rfl) (fun _ => Y.ix rfl Try.runUnderlying24 Try.sizeOf3 rfl rfl ha hi he) (Gm.one' 21 rfl (by kernel_rfl) (.drop (by kernel_rfl) (.drop (by kernel_rfl) .nil)) ?_)
    refine N.st rfl Try.sizeOf3 h rfl rfl rfl rfl rfl fun h => ?_
    refine ⟨pdN, ?_⟩
    generalize World.setCell _ _ _ = w at h ⊢
    obtain ⟨a8, a80, ha, hi, he, h⟩ := h
    refine Gm.pure 22 rfl (by kernel_rfl) (fun _ => Y.ix rfl Try.runUnderlying24 Try.sizeOf3 rfl rfl ha hi he) (Gm.one' 23 rfl (by kernel_rfl) .nil ?_)
    refine N.st rfl Try.sizeOf3 h rfl rfl rfl rfl rfl fun h => ?_
    refine ⟨pdN, ?_⟩
    generalize World.setCell _ _ _ = w at h ⊢
    refine Gm.end (by kernel_rfl) (InB.m (Th.m (Dw.region (Dl.q (Y.mv (v := (vI q1)) rfl rfl) (Dl.q (Y.add rfl rfl rfl) (Dl.q (Y.asg (v := (vI (wI (q1 + 1)))) rfl rfl) (Dl.nil ?_)))))))
    exact Th.m ⟨_, h, _, eqUpd rfl (eqMask (by repeat' (first | exact Off.refl _ _ | refine Off.u rfl ?_ | refine Off.m rfl ?_)))⟩
  · replace h := M.iteF h hb9
    refine Dw.exit (Th.e (Th.e (InB.e ?_)))
    exact fin0 ⟨(), rfl, h⟩
set_option maxHeartbeats 1000000 in
set_option maxRecDepth 20000 in
theorem quotient_number_2int {p0 : Int} {p1 : Value} {w : World} {R : Sl → World → Prop} (h : S.quotient_number_2int p0 p1 w R) : Calls Try.prog 105 [(vI p0), p1].toArray w (Ret Sl.val R) := by
  refine calls_of Try.func105 rfl rfl rfl (by kernel_rfl) rfl ?_
  unfold S.quotient_number_2int at h
  refine Dw.seq (Dw.region (Dl.q (Y.asg (v := (Sl.val Sl.nil)) rfl rfl) (Dl.nil (Th.m (Dw.seq (Dw.region ?_))))))
  obtain ⟨m1, w, ha, h⟩ := h
  refine Dl.n (N.of rfl rfl ha ?_)
  refine Dl.q (Y.asg (v := (Value.map m1)) rfl rfl) (Dl.nil (Th.m (Dw.seq (Dw.region (Dl.q (Y.asg (v := (Sl.val Sl.nil)) rfl rfl) (Dl.nil (Th.m (Dw.seq (Dw.seq (Dw.region (Dl.q (Y.mv (v := (vI p0)) rfl rfl) (Dl.q (Y.mv (v := (vI 0)) rfl rfl) ?_))))))))))))
  refine Dl.nil (Th.m (Dw.block ?_))
  refine Dw.loopM (fun s j r => upd (upd (mask r j 274877900736) 6 (Sl.val s.1)) 13 (vI s.2)) h ⟨_, eqUpd rfl (eqUpd rfl (eqMask (by repeat' (first | exact Off.refl _ _ | refine Off.u rfl ?_ | refine Off.m rfl ?_))))⟩ ?_
  intro I m q2 j w h
  refine Dw.seq (Dw.region (Dl.q (Y.lss rfl rfl rfl) (Dl.nil (Th.m (Dw.seq ?_)))))
  refine Dw.cond rfl (fun hb17 => ?_) (fun hb17 => ?_)
  · replace h := M.iteT h hb17
    refine Dw.skip (Th.m (Dw.seq (Dw.block (Dw.seq (Dw.region (Dl.q (Y.mv (v := (vI q2.2)) rfl rfl) (Dl.q (Y.asg (v := (vI q2.2)) rfl rfl) (Dl.nil (Th.m (Dw.seq (Dw.region (Dl.q (Y.mv (v := p1) rfl rfl) ?_))))))))))))
    refine Dl.q (Y.mv (v := (vI q2.2)) rfl rfl) ?_
    refine Dl.n (N.callv rfl rfl rfl h ?_)
    intro r4 w h
    refine Dl.n (N.new rfl Try.zeroValue54 h (by kernel_rfl) fun b5 _ h => ?_)
    refine Dl.n (N.stA rfl Try.sizeOf54 h rfl rfl (Pr_len _) (Pr_one _) fun h => ?_)
    generalize setCells _ _ _ _ = w at h ⊢
    refine Dl.nil (Th.m ?_)
    refine Dw.joinM (fun s j r => mask r j 2146960896) h (fun C h => ?_) (fun q12 j w h => ?_)
    · refine Dw.seq (Dw.region (Dl.q (Y.mv (v := (Value.map m1)) rfl rfl) ?_))
      obtain ⟨v7, hcv7, h⟩ := h
      refine Dl.q (Y.ldA rfl Try.isAgg54 Try.sizeOf54 (Pr_len _) rfl hcv7) ?_
      obtain ⟨x8, hcx8, h⟩ := h
      refine Dl.q (Y.run rfl rfl hcx8) (Dl.q (Y.mv (v := (.tuple #[(vI x8.1), (Value.bool x8.2)])) rfl rfl) (Dl.q (Y.ext rfl rfl rfl) (Dl.q (Y.ext rfl rfl rfl) (Dl.q (Y.asg (v := (vI x8.1)) rfl rfl) (Dl.q (Y.asg (v := (Value.bool x8.2)) rfl rfl) (Dl.nil (Th.m (Dw.seq (Dw.region (Dl.q (Y.mv (v := (Value.bool x8.2)) rfl rfl) (Dl.q (Y.not rfl rfl) (Dl.nil ?_))))))))))))
      refine Th.m ?_
      refine Dw.cond rfl (fun hb11 => ?_) (fun hb11 => ?_)
      · replace h := M.iteT h hb11
        refine Dw.region (Dl.q (Y.mv (v := (Value.map m1)) rfl rfl) ?_)
        obtain ⟨v9, hcv9, h⟩ := h
        refine Dl.q (Y.ldA rfl Try.isAgg54 Try.sizeOf54 (Pr_len _) rfl hcv9) (Dl.q (Y.mv (v := (Value.map m1)) rfl rfl) ?_)
        obtain ⟨x10, hcx10, h⟩ := h
        refine Dl.q (Y.blt rfl rfl (fun _ => rfl) hcx10) ?_
        obtain ⟨w, ha, h⟩ := h
        refine Dl.n (N.ofU rfl rfl ha ?_)
        refine Dl.nil ?_
        exact Th.m ⟨_, h, _, eqMask (by repeat' (first | exact Off.refl _ _ | refine Off.u rfl ?_ | refine Off.m rfl ?_))⟩
      · replace h := M.iteF h hb11
        refine Dw.skip ?_
        exact Th.m ⟨_, h, _, eqMask (by repeat' (first | exact Off.refl _ _ | refine Off.u rfl ?_ | refine Off.m rfl ?_))⟩
    · refine Dw.region (Dl.q (Y.mv (v := (Sl.val q2.1)) rfl rfl) (Dl.q (Y.mv (v := (Value.map m1)) rfl rfl) ?_))
      obtain ⟨v13, hcv13, h⟩ := h
      refine Dl.q (Y.ldA rfl Try.isAgg54 Try.sizeOf54 (Pr_len _) rfl hcv13) ?_
      obtain ⟨x14, hcx14, h⟩ := h
      refine Dl.q (Y.run rfl rfl hcx14) ?_
      refine Dl.n (N.mkS rfl Try.runUnderlying24 Try.sizeOf3 Try.zeroValue3 h rfl rfl rfl rfl rfl fun b15 _ h => ?_)
      obtain ⟨s16, w, ha, h⟩ := h
      refine Dl.n (N.blt rfl rfl (fun _ => rfl) ha ?_)
      refine Dl.q (Y.asg (v := (Sl.val s16)) rfl rfl) (Dl.nil (InB.m (Th.m (Dw.region (Dl.q (Y.add rfl rfl rfl) (Dl.q (Y.mv (v := (vI (wI (q2.2 + 1)))) rfl rfl) (Dl.nil ?_)))))))
      exact Th.m ⟨_, h, _, eqUpd rfl (eqUpd rfl (eqMask (by repeat' (first | exact Off.refl _ _ | refine Off.u rfl ?_ | refine Off.m rfl ?_))))⟩
  · replace h := M.iteF h hb17
    refine Dw.exit (Th.e (Th.e (InB.e (Th.m (Dw.seq (Dw.region (Dl.q (Y.mv (v := (Sl.val q2.1)) rfl rfl) (Dl.q (Y.asg (v := (Sl.val q2.1)) rfl rfl) (Dl.nil (Th.m (Dw.ret ?_)))))))))))
    exact fin1 rfl ⟨_, rfl, h⟩
set_option maxHeartbeats 1000000 in
set_option maxRecDepth 20000 in
theorem quotient_Join_c1 {p0 : Int} {c0 : Addr} {c1 : Addr} {w : World} {R : (Int × Int) → World → Prop} (h : S.quotient_Join_c1 p0 c0 c1 w R) : Calls Try.prog 106 [(vI p0), (vA c0), (vA c1)].toArray w (Ret (fun x : (Int × Int) => .agg (Pr.cs x).toArray) R) := by
  refine calls_of Try.func106 rfl rfl rfl (by kernel_rfl) rfl ?_
  unfold S.quotient_Join_c1 at h
  refine Dw.seq (Dw.region ?_)
  refine Dl.n (N.new rfl Try.zeroValue54 h (by kernel_rfl) fun b1 _ h => ?_)
  refine Dl.nil (Th.m (Dw.seq (Dw.game (by kernel_rfl) ?_)))
  replace h := M.drew_un h
  generalize World.drew _ = w at h ⊢
  obtain ⟨x2, hcx2, h⟩ := h
  refine Gm.quiet 0 rfl (by kernel_rfl) (fun _ hw => Y.ld rfl Try.isAgg24 rfl hw) hcx2 (Gm.pure 1 rfl (by kernel_rfl) (fun _ => Y.mv (v := (vI p0)) rfl rfl) ?_)
  obtain ⟨a3, a30, ha, hi, he, h⟩ := h
  refine Gm.pure 2 rfl (by kernel_rfl) (fun _ => Y.ix rfl Try.runUnderlying24 Try.sizeOf3 rfl rfl ha hi he) ?_
  obtain ⟨x4, hcx4, h⟩ := h
  refine Gm.quiet 3 rfl (by kernel_rfl) (fun _ hw => Y.ld rfl Try.isAgg3 rfl hw) hcx4 ?_
  obtain ⟨x5, hcx5, h⟩ := h
  refine Gm.quiet 4 rfl (by kernel_rfl) (fun _ hw => Y.ld rfl Try.isAgg24 rfl hw) hcx5 (Gm.pure 5 rfl (by kernel_rfl) (fun _ => Y.mv (v := (vI p0)) rfl rfl) ?_)
  obtain ⟨a6, a60, ha, hi, he, h⟩ := h
  refine Gm.pure 6 rfl (by kernel_rfl) (fun _ => Y.ix rfl Try.runUnderlying24 Try.sizeOf3 rfl rfl ha hi he) ?_
  obtain ⟨x7, hcx7, h⟩ := h
  refine Gm.quiet 7 rfl (by kernel_rfl) (fun _ hw => Y.ld rfl Try.isAgg3 rfl hw) hcx7 (Gm.pure 8 rfl (by kernel_rfl) (fun _ => Y.bld [(0, (vI x4)), (1, (vI x7))] rfl rfl (Pr_b01 _ _ _)) (Gm.one' 9 rfl (by kernel_rfl) (.drop (by kernel_rfl) (.drop (by kernel_rfl) (.drop (by kernel_rfl) (.drop (by kernel_rfl) .nil)))) ?_))
  refine N.stA rfl Try.sizeOf54 h rfl rfl (Pr_len _) (Pr_one _) fun h => ?_
  refine ⟨pdN, ?_⟩
  generalize setCells _ _ _ _ = w at h ⊢
  refine Gm.end (by kernel_rfl) (Th.m (Dw.ret ?_))
  obtain ⟨v8, hc, h⟩ := h
  exact finC Try.isAgg54 Try.sizeOf54 (Pr_len _) rfl hc ⟨_, rfl, h⟩
end L
end Go.Proofs.Ythepabefikobpaa
