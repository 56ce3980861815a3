/- The lifts: what is shown of a shallow text holds of the call. By a program (gen.py). No condition. -/
import Derived.Test.YthepabefikobpaaShal
namespace Go.Proofs.Ythepabefikobpaa
open Go Go.Sh
namespace L
set_option maxHeartbeats 1000000 in
set_option maxRecDepth 20000 in
theorem hopcroft_Small {p0 : Dfv} {w : World} {R : (Dfv × Int) → World → Prop} (h : S.hopcroft_Small p0 w R) : Calls Try.prog 6 [(.agg (Dfv.cs p0).toArray)].toArray w (Ret (fun x : (Dfv × Int) => .tuple #[(.agg (Dfv.cs x.1).toArray), (vI x.2)]) R) := by
  refine calls_of Try.func6 rfl rfl rfl (by kernel_rfl) rfl ?_
  unfold S.hopcroft_Small at h
  refine Dw.seq (Dw.region ?_)
  refine Dl.n (N.box rfl h rfl rfl fun b1 _ h => ?_)
  refine Dl.n (N.new rfl Try.zeroValue27 h (by kernel_rfl) fun b2 _ h => ?_)
  refine Dl.q (Y.asg (v := (vI 0)) rfl rfl) (Dl.nil (Th.m (Dw.seq (Dw.region ?_))))
  obtain ⟨v3, hcv3, h⟩ := h
  refine Dl.q (Y.ldA rfl Try.isAgg27 Try.sizeOf27 (Dfv_len _) rfl hcv3) ?_
  refine Dl.n (N.call rfl Try.call22 rfl h ?_)
  intro r4 w h
  refine Dl.q (Y.mv (v := (.tuple #[(.agg (Dfv.cs r4.1).toArray), (vI r4.2)])) rfl rfl) (Dl.q (Y.ext rfl rfl rfl) (Dl.q (Y.ext rfl rfl rfl) ?_))
  refine Dl.n (N.new rfl Try.zeroValue27 h (by kernel_rfl) fun b5 _ h => ?_)
  refine Dl.n (N.stA rfl Try.sizeOf27 h rfl rfl (Dfv_len _) (Dfv_one _) fun h => ?_)
  generalize setCells _ _ _ _ = w at h ⊢
  refine Dl.q (Y.asg (v := (vI r4.2)) rfl rfl) (Dl.nil (Th.m (Dw.seq (Dw.seq (Dw.region (Dl.q (Y.mv (v := (vI r4.2)) rfl rfl) (Dl.q (Y.neI rfl rfl rfl) (Dl.nil (Th.m ?_)))))))))
  refine Dw.cond rfl (fun hb13 => ?_) (fun hb13 => ?_)
  · replace h := M.iteT h hb13
    refine Dw.seq (Dw.region (Dl.q (Y.bld [] rfl rfl (Dfv_b _ )) (Dl.q (Y.mv (v := (vI r4.2)) rfl rfl) ?_)))
    refine Dl.n (N.stA rfl Try.sizeOf27 h rfl rfl (Dfv_len _) (Dfv_one _) fun h => ?_)
    generalize setCells _ _ _ _ = w at h ⊢
    refine Dl.q (Y.asg (v := (vI r4.2)) rfl rfl) (Dl.nil (Th.m (Dw.ret (Th.r ?_))))
    obtain ⟨v6, hc, h⟩ := h
    exact finC2 Try.isAgg27 Try.sizeOf27 (Dfv_len _) rfl rfl hc ⟨_, rfl, h⟩
  · replace h := M.iteF h hb13
    refine Dw.skip (Th.m (Dw.seq (Dw.game (by kernel_rfl) ?_)))
    replace h := M.drew_un h
    generalize World.drew _ = w at h ⊢
    obtain ⟨v7, hcv7, h⟩ := h
    refine Gm.quiet 0 rfl (by kernel_rfl) (fun _ hw => Y.ldA rfl Try.isAgg27 Try.sizeOf27 (Dfv_len _) rfl hw) hcv7 ?_
    obtain ⟨v8, hcv8, h⟩ := h
    refine Gm.quiet 1 rfl (by kernel_rfl) (fun _ hw => Y.ldA rfl Try.isAgg27 Try.sizeOf27 (Dfv_len _) rfl hw) hcv8 (Gm.one' 2 rfl (by kernel_rfl) (.drop (by kernel_rfl) (.keep (by kernel_rfl) .nil)) (N.call rfl Try.call8 rfl h ?_))
    intro r9 w h
    obtain ⟨hp10, h⟩ := h
    refine ⟨(pdC hp10 pdN), ?_⟩
    refine Gm.one' 3 rfl (by kernel_rfl) (.drop (by kernel_rfl) .nil) (N.call rfl Try.call23 rfl h ?_)
    intro r11 w h
    refine ⟨pdN, ?_⟩
    refine Gm.pure 4 rfl (by kernel_rfl) (fun _ => Y.ext rfl rfl rfl) (Gm.pure 5 rfl (by kernel_rfl) (fun _ => Y.ext rfl rfl rfl) (Gm.one' 6 rfl (by kernel_rfl) .nil ?_))
    refine N.stA rfl Try.sizeOf27 h rfl rfl (Dfv_len _) (Dfv_one _) fun h => ?_
    refine ⟨pdN, ?_⟩
    generalize setCells _ _ _ _ = w at h ⊢
    refine Gm.pure 7 rfl (by kernel_rfl) (fun _ => Y.asg (v := (vI r11.2)) rfl rfl) (Gm.end (by kernel_rfl) (Th.m (Dw.ret ?_)))
    obtain ⟨v12, hc, h⟩ := h
    exact finC2 Try.isAgg27 Try.sizeOf27 (Dfv_len _) rfl rfl hc ⟨_, rfl, h⟩
set_option maxHeartbeats 1000000 in
set_option maxRecDepth 20000 in
theorem dfa_Right {p0 : Dfv} {w : World} {R : Bool → World → Prop} (h : S.dfa_Right p0 w R) : Calls Try.prog 7 [(.agg (Dfv.cs p0).toArray)].toArray w (Ret Value.bool R) := by
  refine calls_of Try.func7 rfl rfl rfl (by kernel_rfl) rfl ?_
  unfold S.dfa_Right at h
  refine Dw.seq (Dw.region ?_)
  refine Dl.n (N.box rfl h rfl rfl fun b1 _ h => ?_)
  refine Dl.q (Y.asg (v := (Value.bool false)) rfl rfl) (Dl.nil (Th.m (Dw.seq (Dw.region (Dl.q (Y.fa 258 rfl Try.runUnderlying27 rfl Try.sizeOf24 (by decide) rfl rfl) ?_)))))
  obtain ⟨x2, hcx2, h⟩ := h
  refine Dl.q (Y.ld rfl Try.isAgg24 rfl hcx2) (Dl.q (Y.len rfl Try.runUnderlying24 rfl) (Dl.q (Y.asg (v := (vI (x2.len : Int))) rfl rfl) (Dl.nil (Th.m (Dw.seq (Dw.region (Dl.q (Y.mv (v := (vI (x2.len : Int))) rfl rfl) (Dl.q (Y.geq rfl rfl rfl) (Dl.q (Y.mv (v := (Value.bool (decide (1 ≤ (x2.len : Int))))) rfl rfl) ?_)))))))))
  refine M.split h (fun hb3 h => ?_) (fun hb3 h => ?_)
  · refine Dl.q (Y.mv (v := (vI (x2.len : Int))) (wantG rfl rfl hb3) rfl) (Dl.q (Y.leq (wantG rfl rfl hb3) rfl rfl) (Dl.q (Y.pickT (v := (Value.bool (decide ((x2.len : Int) ≤ 65536)))) rfl rfl hb3 rfl) (Dl.q (Y.mv (v := (Value.bool (decide ((x2.len : Int) ≤ 65536)))) rfl rfl) ?_)))
    refine M.split h (fun hb4 h => ?_) (fun hb4 h => ?_)
    · refine Dl.q (Y.fa 257 (wantG rfl rfl hb4) Try.runUnderlying27 rfl Try.sizeOf23 (by decide) rfl rfl) ?_
      obtain ⟨x5, hcx5, h⟩ := h
      refine Dl.q (Y.ld (wantG rfl rfl hb4) Try.isAgg23 rfl hcx5) (Dl.q (Y.len (wantG rfl rfl hb4) Try.runUnderlying23 rfl) (Dl.q (Y.mv (v := (vI (x2.len : Int))) (wantG rfl rfl hb4) rfl) (Dl.q (Y.eqI (wantG rfl rfl hb4) rfl rfl) (Dl.q (Y.pickT (v := (Value.bool (decide ((x5.len : Int) = (x2.len : Int))))) rfl rfl hb4 rfl) (Dl.q (Y.mv (v := (Value.bool (decide ((x5.len : Int) = (x2.len : Int))))) rfl rfl) ?_)))))
      refine M.split h (fun hb6 h => ?_) (fun hb6 h => ?_)
      · refine Dl.q (Y.fa 0 (wantG rfl rfl hb6) Try.runUnderlying27 rfl Try.sizeOf22 (by decide) rfl rfl) ?_
        obtain ⟨v7, hcv7, h⟩ := h
        refine Dl.q (Y.ldA (wantG rfl rfl hb6) Try.isAgg22 Try.sizeOf22 (Ar_len _) rfl hcv7) (Dl.q (Y.fa 256 (wantG rfl rfl hb6) Try.runUnderlying27 rfl Try.sizeOf3 (by decide) rfl rfl) ?_)
        obtain ⟨x8, hcx8, h⟩ := h
        refine Dl.q (Y.ld (wantG rfl rfl hb6) Try.isAgg3 rfl hcx8) ?_
        refine Dl.n (N.call (wantG rfl rfl hb6) Try.call24 rfl h ?_)
        intro r9 w h
        refine Dl.q (Y.pickT (v := (Value.bool r9)) rfl rfl hb6 rfl) (Dl.q (Y.mv (v := (Value.bool r9)) rfl rfl) ?_)
        refine M.split h (fun hb10 h => ?_) (fun hb10 h => ?_)
        · refine Dl.q (Y.fa 259 (wantG rfl rfl hb10) Try.runUnderlying27 rfl Try.sizeOf25 (by decide) rfl rfl) ?_
          obtain ⟨x11, hcx11, h⟩ := h
          refine Dl.q (Y.ld (wantG rfl rfl hb10) Try.isAgg25 rfl hcx11) ?_
          refine Dl.n (N.call (wantG rfl rfl hb10) Try.call25 rfl h ?_)
          intro r12 w h
          refine Dl.q (Y.pickT (v := (Value.bool r12)) rfl rfl hb10 rfl) (Dl.q (Y.mv (v := (Value.bool r12)) rfl rfl) ?_)
          refine M.split h (fun hb13 h => ?_) (fun hb13 h => ?_)
          · obtain ⟨v14, hcv14, h⟩ := h
            refine Dl.q (Y.ldA (wantG rfl rfl hb13) Try.isAgg27 Try.sizeOf27 (Dfv_len _) rfl hcv14) ?_
            refine Dl.n (N.call (wantG rfl rfl hb13) Try.call26 rfl h ?_)
            intro r15 w h
            refine Dl.q (Y.pickT (v := (Value.bool r15)) rfl rfl hb13 rfl) (Dl.q (Y.asg (v := (Value.bool r15)) rfl rfl) (Dl.nil (Th.m (Dw.ret ?_))))
            exact fin1 rfl ⟨_, rfl, h⟩
          · refine Dl.q (Y.skip (unwantG rfl rfl hb13)) (Dl.q (Y.skip (unwantG rfl rfl hb13)) (Dl.q (Y.pickF (v := (Value.bool false)) rfl rfl hb13 rfl) (Dl.q (Y.asg (v := (Value.bool false)) rfl rfl) (Dl.nil (Th.m (Dw.ret ?_))))))
            exact fin1 rfl ⟨_, rfl, h⟩
        · refine Dl.q (Y.skip (unwantG rfl rfl hb10)) (Dl.q (Y.skip (unwantG rfl rfl hb10)) (Dl.q (Y.skip (unwantG rfl rfl hb10)) (Dl.q (Y.pickF (v := (Value.bool false)) rfl rfl hb10 rfl) (Dl.q (Y.mv (v := (Value.bool false)) rfl rfl) (Dl.q (Y.skip (unwantG rfl rfl rfl)) (Dl.q (Y.skip (unwantG rfl rfl rfl)) (Dl.q (Y.pickF (v := (Value.bool false)) rfl rfl rfl rfl) (Dl.q (Y.asg (v := (Value.bool false)) rfl rfl) (Dl.nil (Th.m (Dw.ret ?_)))))))))))
          exact fin1 rfl ⟨_, rfl, h⟩
      · refine Dl.q (Y.skip (unwantG rfl rfl hb6)) (Dl.q (Y.skip (unwantG rfl rfl hb6)) (Dl.q (Y.skip (unwantG rfl rfl hb6)) (Dl.q (Y.skip (unwantG rfl rfl hb6)) (Dl.q (Y.skip (unwantG rfl rfl hb6)) (Dl.q (Y.pickF (v := (Value.bool false)) rfl rfl hb6 rfl) (Dl.q (Y.mv (v := (Value.bool false)) rfl rfl) (Dl.q (Y.skip (unwantG rfl rfl rfl)) (Dl.q (Y.skip (unwantG rfl rfl rfl)) (Dl.q (Y.skip (unwantG rfl rfl rfl)) (Dl.q (Y.pickF (v := (Value.bool false)) rfl rfl rfl rfl) (Dl.q (Y.mv (v := (Value.bool false)) rfl rfl) (Dl.q (Y.skip (unwantG rfl rfl rfl)) ?_))))))))))))
        refine Dl.q (Y.skip (unwantG rfl rfl rfl)) (Dl.q (Y.pickF (v := (Value.bool false)) rfl rfl rfl rfl) (Dl.q (Y.asg (v := (Value.bool false)) rfl rfl) (Dl.nil (Th.m (Dw.ret ?_)))))
        exact fin1 rfl ⟨_, rfl, h⟩
    · refine Dl.q (Y.skip (unwantG rfl rfl hb4)) (Dl.q (Y.skip (unwantG rfl rfl hb4)) (Dl.q (Y.skip (unwantG rfl rfl hb4)) (Dl.q (Y.skip (unwantG rfl rfl hb4)) (Dl.q (Y.skip (unwantG rfl rfl hb4)) (Dl.q (Y.pickF (v := (Value.bool false)) rfl rfl hb4 rfl) (Dl.q (Y.mv (v := (Value.bool false)) rfl rfl) (Dl.q (Y.skip (unwantG rfl rfl rfl)) (Dl.q (Y.skip (unwantG rfl rfl rfl)) (Dl.q (Y.skip (unwantG rfl rfl rfl)) (Dl.q (Y.skip (unwantG rfl rfl rfl)) (Dl.q (Y.skip (unwantG rfl rfl rfl)) (Dl.q (Y.pickF (v := (Value.bool false)) rfl rfl rfl rfl) ?_))))))))))))
      refine Dl.q (Y.mv (v := (Value.bool false)) rfl rfl) (Dl.q (Y.skip (unwantG rfl rfl rfl)) (Dl.q (Y.skip (unwantG rfl rfl rfl)) (Dl.q (Y.skip (unwantG rfl rfl rfl)) (Dl.q (Y.pickF (v := (Value.bool false)) rfl rfl rfl rfl) (Dl.q (Y.mv (v := (Value.bool false)) rfl rfl) (Dl.q (Y.skip (unwantG rfl rfl rfl)) (Dl.q (Y.skip (unwantG rfl rfl rfl)) (Dl.q (Y.pickF (v := (Value.bool false)) rfl rfl rfl rfl) (Dl.q (Y.asg (v := (Value.bool false)) rfl rfl) (Dl.nil (Th.m (Dw.ret ?_))))))))))))
      exact fin1 rfl ⟨_, rfl, h⟩
  · refine Dl.q (Y.skip (unwantG rfl rfl hb3)) (Dl.q (Y.skip (unwantG rfl rfl hb3)) (Dl.q (Y.pickF (v := (Value.bool false)) rfl rfl hb3 rfl) (Dl.q (Y.mv (v := (Value.bool false)) rfl rfl) (Dl.q (Y.skip (unwantG rfl rfl rfl)) (Dl.q (Y.skip (unwantG rfl rfl rfl)) (Dl.q (Y.skip (unwantG rfl rfl rfl)) (Dl.q (Y.skip (unwantG rfl rfl rfl)) (Dl.q (Y.skip (unwantG rfl rfl rfl)) (Dl.q (Y.pickF (v := (Value.bool false)) rfl rfl rfl rfl) (Dl.q (Y.mv (v := (Value.bool false)) rfl rfl) (Dl.q (Y.skip (unwantG rfl rfl rfl)) (Dl.q (Y.skip (unwantG rfl rfl rfl)) ?_))))))))))))
    refine Dl.q (Y.skip (unwantG rfl rfl rfl)) (Dl.q (Y.skip (unwantG rfl rfl rfl)) (Dl.q (Y.skip (unwantG rfl rfl rfl)) (Dl.q (Y.pickF (v := (Value.bool false)) rfl rfl rfl rfl) (Dl.q (Y.mv (v := (Value.bool false)) rfl rfl) (Dl.q (Y.skip (unwantG rfl rfl rfl)) (Dl.q (Y.skip (unwantG rfl rfl rfl)) (Dl.q (Y.skip (unwantG rfl rfl rfl)) (Dl.q (Y.pickF (v := (Value.bool false)) rfl rfl rfl rfl) (Dl.q (Y.mv (v := (Value.bool false)) rfl rfl) (Dl.q (Y.skip (unwantG rfl rfl rfl)) (Dl.q (Y.skip (unwantG rfl rfl rfl)) (Dl.q (Y.pickF (v := (Value.bool false)) rfl rfl rfl rfl) ?_))))))))))))
    refine Dl.q (Y.asg (v := (Value.bool false)) rfl rfl) (Dl.nil (Th.m (Dw.ret ?_)))
    exact fin1 rfl ⟨_, rfl, h⟩
set_option maxHeartbeats 1000000 in
set_option maxRecDepth 20000 in
theorem hopcroft_Blocks {p0 : Dfv} {w : World} {R : Sl → World → Prop} (h : S.hopcroft_Blocks p0 w R) : Calls Try.prog 8 [(.agg (Dfv.cs p0).toArray)].toArray w (Ret Sl.val R) := by
  refine calls_of Try.func8 rfl rfl rfl (by kernel_rfl) rfl ?_
  unfold S.hopcroft_Blocks at h
  refine Dw.seq (Dw.region ?_)
  refine Dl.n (N.box rfl h rfl rfl fun b1 _ h => ?_)
  refine Dl.q (Y.asg (v := (Sl.val Sl.nil)) rfl rfl) (Dl.nil (Th.m (Dw.seq (Dw.seq (Dw.region ?_)))))
  obtain ⟨v2, hcv2, h⟩ := h
  refine Dl.q (Y.ldA rfl Try.isAgg27 Try.sizeOf27 (Dfv_len _) rfl hcv2) ?_
  refine Dl.n (N.call rfl Try.call7 rfl h ?_)
  intro r3 w h
  refine Dl.q (Y.not rfl rfl) (Dl.nil (Th.m ?_))
  refine Dw.cond rfl (fun hb31 => ?_) (fun hb31 => ?_)
  · replace h := M.iteT h hb31
    refine Dw.seq (Dw.region (Dl.q (Y.asg (v := (Sl.val Sl.nil)) rfl rfl) (Dl.nil (Th.m (Dw.ret (Th.r ?_))))))
    exact fin1 rfl ⟨_, rfl, h⟩
  · replace h := M.iteF h hb31
    refine Dw.skip (Th.m (Dw.seq (Dw.region ?_)))
    obtain ⟨v4, hcv4, h⟩ := h
    refine Dl.q (Y.ldA rfl Try.isAgg27 Try.sizeOf27 (Dfv_len _) rfl hcv4) ?_
    refine Dl.n (N.call rfl Try.call27 rfl h ?_)
    intro r5 w h
    refine Dl.q (Y.asg (v := (vP r5)) rfl rfl) (Dl.nil (Th.m (Dw.seq (Dw.seq (Dw.region (Dl.q (Y.mv (v := (vP r5)) rfl rfl) ?_))))))
    obtain ⟨a6, ha, h⟩ := h
    refine Dl.q (Y.nn rfl rfl ha) (Dl.q (Y.fa 3 rfl Try.runUnderlying52 rfl Try.sizeOf47 (by decide) rfl rfl) ?_)
    obtain ⟨x7, hcx7, h⟩ := h
    refine Dl.q (Y.ld rfl Try.isAgg47 rfl hcx7) (Dl.q (Y.len rfl Try.runUnderlying47 rfl) (Dl.q (Y.mv (v := (vI 0)) rfl rfl) (Dl.nil (Th.m (Dw.block ?_)))))
    refine Dw.loopM (fun s j r => upd (mask r j 2147352624) 17 (vI s)) h ⟨_, eqUpd rfl (eqMask (by repeat' (first | exact Off.refl _ _ | refine Off.u rfl ?_ | refine Off.m rfl ?_)))⟩ ?_
    intro I m q8 j w h
    refine Dw.seq (Dw.region (Dl.q (Y.lss rfl rfl rfl) (Dl.nil (Th.m (Dw.seq ?_)))))
    refine Dw.cond rfl (fun hb30 => ?_) (fun hb30 => ?_)
    · replace h := M.iteT h hb30
      refine Dw.skip (Th.m (Dw.seq (Dw.block (Dw.seq (Dw.region (Dl.q (Y.mv (v := (vI q8)) rfl rfl) (Dl.q (Y.asg (v := (vI q8)) rfl rfl) (Dl.nil (Th.m (Dw.seq (Dw.region (Dl.q (Y.fa 256 rfl Try.runUnderlying27 rfl Try.sizeOf3 (by decide) rfl rfl) ?_))))))))))))
      obtain ⟨x10, hcx10, h⟩ := h
      refine Dl.q (Y.ld rfl Try.isAgg3 rfl hcx10) (Dl.q (Y.mv (v := (vI 0)) rfl rfl) (Dl.nil (Th.m (Dw.block ?_))))
      refine Dw.loopM (fun s j r => upd (mask r j 1069547552) 22 (vI s)) h ⟨_, eqUpd rfl (eqMask (by repeat' (first | exact Off.refl _ _ | refine Off.u rfl ?_ | refine Off.m rfl ?_)))⟩ ?_
      intro I m q11 j w h
      refine Dw.seq (Dw.region (Dl.q (Y.lss rfl rfl rfl) (Dl.nil (Th.m (Dw.seq ?_)))))
      refine Dw.cond rfl (fun hb14 => ?_) (fun hb14 => ?_)
      · replace h := M.iteT h hb14
        refine Dw.skip (Th.m (Dw.seq (Dw.block (Dw.seq (Dw.region (Dl.q (Y.mv (v := (vI q11)) rfl rfl) (Dl.q (Y.asg (v := (vI q11)) rfl rfl) (Dl.nil (Th.m (Dw.region (Dl.q (Y.mv (v := (vP r5)) rfl rfl) (Dl.q (Y.mv (v := (vI q8)) rfl rfl) ?_))))))))))))
        refine Dl.q (Y.mv (v := (vI q11)) rfl rfl) ?_
        refine Dl.n (N.call rfl Try.call28 rfl h ?_)
        intro r13 w h
        refine Dl.nil (InB.m (Th.m (Dw.region (Dl.q (Y.add rfl rfl rfl) (Dl.q (Y.mv (v := (vI (wI (q11 + 1)))) rfl rfl) (Dl.nil ?_))))))
        exact Th.m ⟨_, h, _, eqUpd rfl (eqMask (by repeat' (first | exact Off.refl _ _ | refine Off.u rfl ?_ | refine Off.m rfl ?_)))⟩
      · replace h := M.iteF h hb14
        refine Dw.exit (Th.e (Th.e (InB.e (InB.m (Th.m (Dw.region (Dl.q (Y.add rfl rfl rfl) (Dl.q (Y.mv (v := (vI (wI (q8 + 1)))) rfl rfl) (Dl.nil ?_)))))))))
        exact Th.m ⟨_, h, _, eqUpd rfl (eqMask (by repeat' (first | exact Off.refl _ _ | refine Off.u rfl ?_ | refine Off.m rfl ?_)))⟩
    · replace h := M.iteF h hb30
      refine Dw.exit (Th.e (Th.e (InB.e (Th.m (Dw.seq (Dw.block ?_))))))
      refine Dw.loopM (fun s j r => mask r j 35182224605248) h ⟨_, eqMask (by repeat' (first | exact Off.refl _ _ | refine Off.u rfl ?_ | refine Off.m rfl ?_))⟩ ?_
      intro I m q15 j w h
      refine Dw.seq (Dw.seq (Dw.region (Dl.q (Y.mv (v := (vP r5)) rfl rfl) ?_)))
      obtain ⟨a17, ha, h⟩ := h
      refine Dl.q (Y.nn rfl rfl ha) (Dl.q (Y.fa 5 rfl Try.runUnderlying52 rfl Try.sizeOf49 (by decide) rfl rfl) ?_)
      obtain ⟨x18, hcx18, h⟩ := h
      refine Dl.q (Y.ld rfl Try.isAgg49 rfl hcx18) (Dl.q (Y.len rfl Try.runUnderlying49 rfl) (Dl.q (Y.gtr rfl rfl rfl) (Dl.nil (Th.m ?_))))
      refine Dw.cond rfl (fun hb29 => ?_) (fun hb29 => ?_)
      · replace h := M.iteT h hb29
        refine Dw.skip (Th.m (Dw.block (Dw.seq (Dw.region (Dl.q (Y.mv (v := (vP r5)) rfl rfl) ?_)))))
        refine Dl.n (N.call rfl Try.call29 rfl h ?_)
        intro r19 w h
        refine Dl.n (N.new rfl Try.zeroValue54 h (by kernel_rfl) fun b20 _ h => ?_)
        refine Dl.n (N.stA rfl Try.sizeOf54 h rfl rfl (Pr_len _) (Pr_one _) fun h => ?_)
        generalize setCells _ _ _ _ = w at h ⊢
        refine Dl.nil (Th.m (Dw.region (Dl.q (Y.mv (v := (vP r5)) rfl rfl) ?_)))
        obtain ⟨a21, hi, he, h⟩ := h
        refine Dl.q (Y.ixA rfl Try.runUnderlying54 Try.sizeOf3 rfl rfl hi he) ?_
        obtain ⟨x22, hcx22, h⟩ := h
        refine Dl.q (Y.ld rfl Try.isAgg3 rfl hcx22) ?_
        obtain ⟨a23, hi, he, h⟩ := h
        refine Dl.q (Y.ixA rfl Try.runUnderlying54 Try.sizeOf3 rfl rfl hi he) ?_
        obtain ⟨x24, hcx24, h⟩ := h
        refine Dl.q (Y.ld rfl Try.isAgg3 rfl hcx24) ?_
        refine Dl.n (N.call rfl Try.call30 rfl h ?_)
        intro r25 w h
        refine Dl.nil (InB.m ?_)
        exact Th.m ⟨_, h, _, eqMask (by repeat' (first | exact Off.refl _ _ | refine Off.u rfl ?_ | refine Off.m rfl ?_))⟩
      · replace h := M.iteF h hb29
        refine Dw.exit (Th.e (Th.e (InB.e (Th.m (Dw.seq (Dw.region (Dl.q (Y.mv (v := (vP r5)) rfl rfl) ?_)))))))
        obtain ⟨a26, ha, h⟩ := h
        refine Dl.q (Y.nn rfl rfl ha) (Dl.q (Y.fa 2 rfl Try.runUnderlying52 rfl Try.sizeOf24 (by decide) rfl rfl) ?_)
        obtain ⟨x27, hcx27, h⟩ := h
        refine Dl.q (Y.ld rfl Try.isAgg24 rfl hcx27) ?_
        refine Dl.n (N.call rfl Try.call31 rfl h ?_)
        intro r28 w h
        refine Dl.q (Y.asg (v := (Sl.val r28)) rfl rfl) (Dl.nil (Th.m (Dw.ret ?_)))
        exact fin1 rfl ⟨_, rfl, h⟩
set_option maxHeartbeats 1000000 in
set_option maxRecDepth 20000 in
theorem hopcroft_Splits {p0 : Dfv} {w : World} {R : Int → World → Prop} (h : S.hopcroft_Splits p0 w R) : Calls Try.prog 9 [(.agg (Dfv.cs p0).toArray)].toArray w (Ret vI R) := by
  refine calls_of Try.func9 rfl rfl rfl (by kernel_rfl) rfl ?_
  unfold S.hopcroft_Splits at h
  refine Dw.seq (Dw.region ?_)
  refine Dl.n (N.box rfl h rfl rfl fun b1 _ h => ?_)
  refine Dl.q (Y.asg (v := (vI 0)) rfl rfl) (Dl.nil (Th.m (Dw.seq (Dw.region ?_))))
  obtain ⟨v2, hcv2, h⟩ := h
  refine Dl.q (Y.ldA rfl Try.isAgg27 Try.sizeOf27 (Dfv_len _) rfl hcv2) ?_
  refine Dl.n (N.call rfl Try.call8 rfl h ?_)
  intro r3 w h
  refine Dl.q (Y.asg (v := (Sl.val r3)) rfl rfl) (Dl.nil (Th.m (Dw.seq (Dw.seq (Dw.region (Dl.q (Y.mv (v := (Sl.val r3)) rfl rfl) (Dl.q (Y.len rfl Try.runUnderlying24 rfl) (Dl.q (Y.eqI rfl rfl rfl) (Dl.nil (Th.m ?_))))))))))
  refine Dw.cond rfl (fun hb8 => ?_) (fun hb8 => ?_)
  · replace h := M.iteT h hb8
    refine Dw.seq (Dw.region (Dl.q (Y.asg (v := (vI (-1))) rfl rfl) (Dl.nil (Th.m (Dw.ret (Th.r ?_))))))
    exact fin1 rfl ⟨_, rfl, h⟩
  · replace h := M.iteF h hb8
    refine Dw.skip (Th.m (Dw.seq (Dw.game (by kernel_rfl) ?_)))
    replace h := M.drew_un h
    generalize World.drew _ = w at h ⊢
    refine Gm.pure 0 rfl (by kernel_rfl) (fun _ => Y.mv (v := (Sl.val r3)) rfl rfl) (Gm.pure 2 rfl (by kernel_rfl) (fun _ => Y.fa 258 rfl Try.runUnderlying27 rfl Try.sizeOf24 (by decide) rfl rfl) ?_)
    obtain ⟨x4, hcx4, h⟩ := h
    refine Gm.quiet 3 rfl (by kernel_rfl) (fun _ hw => Y.ld rfl Try.isAgg24 rfl hw) hcx4 (Gm.one' 1 rfl (by kernel_rfl) (.keep (by kernel_rfl) .nil) (N.call rfl Try.call32 rfl h ?_))
    intro r5 w h
    obtain ⟨hp6, h⟩ := h
    refine ⟨(pdC hp6 pdN), ?_⟩
    refine Gm.one' 4 rfl (by kernel_rfl) (.drop (by kernel_rfl) .nil) (N.call rfl Try.call32 rfl h ?_)
    intro r7 w h
    refine ⟨pdN, ?_⟩
    refine Gm.pure 5 rfl (by kernel_rfl) (fun _ => Y.sub rfl rfl rfl) (Gm.pure 6 rfl (by kernel_rfl) (fun _ => Y.asg (v := (vI (wI (r5 - r7)))) rfl rfl) (Gm.end (by kernel_rfl) (Th.m (Dw.ret ?_))))
    exact fin1 rfl ⟨_, rfl, h⟩
set_option maxHeartbeats 1000000 in
set_option maxRecDepth 20000 in
theorem law25_knows  {w : World} {R : Bool → World → Prop} (h : S.law25_knows  w R) : Calls Try.prog 10 [].toArray w (Ret Value.bool R) := by
  refine calls_of Try.func10 rfl rfl rfl (by kernel_rfl) rfl ?_
  unfold S.law25_knows at h
  refine Dw.seq (Dw.region (Dl.q (Y.asg (v := (Value.bool false)) rfl rfl) (Dl.nil (Th.m (Dw.seq (Dw.region ?_))))))
  refine Dl.n (N.mkS rfl Try.runUnderlying24 Try.sizeOf3 Try.zeroValue3 h rfl rfl rfl rfl rfl fun b1 _ h => ?_)
  refine Dl.n (N.mkS rfl Try.runUnderlying24 Try.sizeOf3 Try.zeroValue3 h rfl rfl rfl rfl rfl fun b2 _ h => ?_)
  refine Dl.n (N.mkS rfl Try.runUnderlying24 Try.sizeOf3 Try.zeroValue3 h rfl rfl rfl rfl rfl fun b3 _ h => ?_)
  refine Dl.n (N.mkS rfl Try.runUnderlying24 Try.sizeOf3 Try.zeroValue3 h rfl rfl rfl rfl rfl fun b4 _ h => ?_)
  refine Dl.n (N.mkS rfl Try.runUnderlying24 Try.sizeOf3 Try.zeroValue3 h rfl rfl rfl rfl rfl fun b5 _ h => ?_)
  refine Dl.n (N.mkS rfl Try.runUnderlying23 Try.sizeOf24 Try.zeroValue24 h rfl rfl rfl rfl rfl fun b6 _ h => ?_)
  refine Dl.n (N.mkS rfl Try.runUnderlying24 Try.sizeOf3 Try.zeroValue3 h rfl rfl rfl rfl rfl fun b7 _ h => ?_)
  refine Dl.n (N.mkS rfl Try.runUnderlying25 Try.sizeOf9 Try.zeroValue9 h rfl rfl rfl rfl rfl fun b8 _ h => ?_)
  refine Dl.q (Y.bld [(1, (vI 1)), (2, (Sl.val (⟨some b6, 5, 5⟩ : Sl))), (3, (Sl.val (⟨some b7, 5, 5⟩ : Sl))), (4, (Sl.val (⟨some b8, 1, 1⟩ : Sl)))] rfl rfl (Dfv_b1234 _ _ _ _ _)) ?_
  refine Dl.n (N.new rfl Try.zeroValue27 h (by kernel_rfl) fun b9 _ h => ?_)
  refine Dl.n (N.stA rfl Try.sizeOf27 h rfl rfl (Dfv_len _) (Dfv_one _) fun h => ?_)
  generalize setCells _ _ _ _ = w at h ⊢
  refine Dl.nil (Th.m (Dw.seq (Dw.region ?_)))
  obtain ⟨v10, hcv10, h⟩ := h
  refine Dl.q (Y.ldA rfl Try.isAgg27 Try.sizeOf27 (Dfv_len _) rfl hcv10) ?_
  refine Dl.n (N.call rfl Try.call6 rfl h ?_)
  intro r11 w h
  refine Dl.q (Y.mv (v := (.tuple #[(.agg (Dfv.cs r11.1).toArray), (vI r11.2)])) rfl rfl) (Dl.q (Y.ext rfl rfl rfl) (Dl.q (Y.ext rfl rfl rfl) ?_))
  refine Dl.n (N.new rfl Try.zeroValue27 h (by kernel_rfl) fun b12 _ h => ?_)
  refine Dl.n (N.stA rfl Try.sizeOf27 h rfl rfl (Dfv_len _) (Dfv_one _) fun h => ?_)
  generalize setCells _ _ _ _ = w at h ⊢
  refine Dl.q (Y.asg (v := (vI r11.2)) rfl rfl) (Dl.nil (Th.m (Dw.seq (Dw.region ?_))))
  obtain ⟨v13, hcv13, h⟩ := h
  refine Dl.q (Y.ldA rfl Try.isAgg27 Try.sizeOf27 (Dfv_len _) rfl hcv13) ?_
  refine Dl.n (N.call rfl Try.call8 rfl h ?_)
  intro r14 w h
  refine Dl.n (N.mkS rfl Try.runUnderlying24 Try.sizeOf3 Try.zeroValue3 h rfl rfl rfl rfl rfl fun b15 _ h => ?_)
  refine Dl.n (N.call rfl Try.call13 rfl h ?_)
  intro r16 w h
  refine Dl.q (Y.mv (v := (Value.bool r16)) rfl rfl) ?_
  refine M.split h (fun hb17 h => ?_) (fun hb17 h => ?_)
  · obtain ⟨v18, hcv18, h⟩ := h
    refine Dl.q (Y.ldA (wantG rfl rfl hb17) Try.isAgg27 Try.sizeOf27 (Dfv_len _) rfl hcv18) ?_
    refine Dl.n (N.call (wantG rfl rfl hb17) Try.call9 rfl h ?_)
    intro r19 w h
    refine Dl.q (Y.eqI (wantG rfl rfl hb17) rfl rfl) (Dl.q (Y.pickT (v := (Value.bool (decide (r19 = 2)))) rfl rfl hb17 rfl) (Dl.q (Y.mv (v := (Value.bool (decide (r19 = 2)))) rfl rfl) ?_))
    refine M.split h (fun hb20 h => ?_) (fun hb20 h => ?_)
    · refine Dl.q (Y.mv (v := (vI r11.2)) (wantG rfl rfl hb20) rfl) (Dl.q (Y.eqI (wantG rfl rfl hb20) rfl rfl) (Dl.q (Y.pickT (v := (Value.bool (decide (r11.2 = 0)))) rfl rfl hb20 rfl) (Dl.q (Y.mv (v := (Value.bool (decide (r11.2 = 0)))) rfl rfl) ?_)))
      refine M.split h (fun hb21 h => ?_) (fun hb21 h => ?_)
      · refine Dl.q (Y.fa 258 (wantG rfl rfl hb21) Try.runUnderlying27 rfl Try.sizeOf24 (by decide) rfl rfl) ?_
        obtain ⟨x22, hcx22, h⟩ := h
        refine Dl.q (Y.ld (wantG rfl rfl hb21) Try.isAgg24 rfl hcx22) (Dl.q (Y.len (wantG rfl rfl hb21) Try.runUnderlying24 rfl) (Dl.q (Y.eqI (wantG rfl rfl hb21) rfl rfl) (Dl.q (Y.pickT (v := (Value.bool (decide ((x22.len : Int) = 4)))) rfl rfl hb21 rfl) (Dl.q (Y.asg (v := (Value.bool (decide ((x22.len : Int) = 4)))) rfl rfl) (Dl.nil (Th.m (Dw.ret ?_)))))))
        exact fin1 rfl ⟨_, rfl, h⟩
      · refine Dl.q (Y.skip (unwantG rfl rfl hb21)) (Dl.q (Y.skip (unwantG rfl rfl hb21)) (Dl.q (Y.skip (unwantG rfl rfl hb21)) (Dl.q (Y.skip (unwantG rfl rfl hb21)) (Dl.q (Y.pickF (v := (Value.bool false)) rfl rfl hb21 rfl) (Dl.q (Y.asg (v := (Value.bool false)) rfl rfl) (Dl.nil (Th.m (Dw.ret ?_))))))))
        exact fin1 rfl ⟨_, rfl, h⟩
    · refine Dl.q (Y.skip (unwantG rfl rfl hb20)) (Dl.q (Y.skip (unwantG rfl rfl hb20)) (Dl.q (Y.pickF (v := (Value.bool false)) rfl rfl hb20 rfl) (Dl.q (Y.mv (v := (Value.bool false)) rfl rfl) (Dl.q (Y.skip (unwantG rfl rfl rfl)) (Dl.q (Y.skip (unwantG rfl rfl rfl)) (Dl.q (Y.skip (unwantG rfl rfl rfl)) (Dl.q (Y.skip (unwantG rfl rfl rfl)) (Dl.q (Y.pickF (v := (Value.bool false)) rfl rfl rfl rfl) (Dl.q (Y.asg (v := (Value.bool false)) rfl rfl) (Dl.nil (Th.m (Dw.ret ?_))))))))))))
      exact fin1 rfl ⟨_, rfl, h⟩
  · refine Dl.q (Y.skip (unwantG rfl rfl hb17)) (Dl.q (Y.skip (unwantG rfl rfl hb17)) (Dl.q (Y.skip (unwantG rfl rfl hb17)) (Dl.q (Y.pickF (v := (Value.bool false)) rfl rfl hb17 rfl) (Dl.q (Y.mv (v := (Value.bool false)) rfl rfl) (Dl.q (Y.skip (unwantG rfl rfl rfl)) (Dl.q (Y.skip (unwantG rfl rfl rfl)) (Dl.q (Y.pickF (v := (Value.bool false)) rfl rfl rfl rfl) (Dl.q (Y.mv (v := (Value.bool false)) rfl rfl) (Dl.q (Y.skip (unwantG rfl rfl rfl)) (Dl.q (Y.skip (unwantG rfl rfl rfl)) (Dl.q (Y.skip (unwantG rfl rfl rfl)) (Dl.q (Y.skip (unwantG rfl rfl rfl)) ?_))))))))))))
    refine Dl.q (Y.pickF (v := (Value.bool false)) rfl rfl rfl rfl) (Dl.q (Y.asg (v := (Value.bool false)) rfl rfl) (Dl.nil (Th.m (Dw.ret ?_))))
    exact fin1 rfl ⟨_, rfl, h⟩
set_option maxHeartbeats 1000000 in
set_option maxRecDepth 20000 in
theorem r24_Right {p0 : Dfv} {p1 : Int} {w : World} {R : Bool → World → Prop} (h : S.r24_Right p0 p1 w R) : Calls Try.prog 11 [(.agg (Dfv.cs p0).toArray), (vI p1)].toArray w (Ret Value.bool R) := by
  refine calls_of Try.func11 rfl rfl rfl (by kernel_rfl) rfl ?_
  unfold S.r24_Right at h
  refine Dw.seq (Dw.region ?_)
  refine Dl.n (N.box rfl h rfl rfl fun b1 _ h => ?_)
  refine Dl.q (Y.asg (v := (Value.bool false)) rfl rfl) (Dl.nil (Th.m (Dw.seq (Dw.region ?_))))
  obtain ⟨v2, hcv2, h⟩ := h
  refine Dl.q (Y.ldA rfl Try.isAgg27 Try.sizeOf27 (Dfv_len _) rfl hcv2) ?_
  refine Dl.n (N.call rfl Try.call33 rfl h ?_)
  intro r3 w h
  refine Dl.q (Y.mv (v := (Value.bool r3)) rfl rfl) ?_
  refine M.split h (fun hb4 h => ?_) (fun hb4 h => ?_)
  · refine Dl.q (Y.fa 258 (wantG rfl rfl hb4) Try.runUnderlying27 rfl Try.sizeOf24 (by decide) rfl rfl) ?_
    obtain ⟨x5, hcx5, h⟩ := h
    refine Dl.q (Y.ld (wantG rfl rfl hb4) Try.isAgg24 rfl hcx5) (Dl.q (Y.len (wantG rfl rfl hb4) Try.runUnderlying24 rfl) (Dl.q (Y.mv (v := (vI p1)) (wantG rfl rfl hb4) rfl) (Dl.q (Y.leq (wantG rfl rfl hb4) rfl rfl) (Dl.q (Y.pickT (v := (Value.bool (decide ((x5.len : Int) ≤ p1)))) rfl rfl hb4 rfl) (Dl.q (Y.asg (v := (Value.bool (decide ((x5.len : Int) ≤ p1)))) rfl rfl) (Dl.nil (Th.m (Dw.ret ?_))))))))
    exact fin1 rfl ⟨_, rfl, h⟩
  · refine Dl.q (Y.skip (unwantG rfl rfl hb4)) (Dl.q (Y.skip (unwantG rfl rfl hb4)) (Dl.q (Y.skip (unwantG rfl rfl hb4)) (Dl.q (Y.skip (unwantG rfl rfl hb4)) (Dl.q (Y.skip (unwantG rfl rfl hb4)) (Dl.q (Y.pickF (v := (Value.bool false)) rfl rfl hb4 rfl) (Dl.q (Y.asg (v := (Value.bool false)) rfl rfl) (Dl.nil (Th.m (Dw.ret ?_)))))))))
    exact fin1 rfl ⟨_, rfl, h⟩
set_option maxHeartbeats 1000000 in
set_option maxRecDepth 20000 in
theorem r25_Small {p0 : Dfv} {w : World} {R : (Dfv × Int) → World → Prop} (h : S.r25_Small p0 w R) : Calls Try.prog 12 [(.agg (Dfv.cs p0).toArray)].toArray w (Ret (fun x : (Dfv × Int) => .tuple #[(.agg (Dfv.cs x.1).toArray), (vI x.2)]) R) := by
  refine calls_of Try.func12 rfl rfl rfl (by kernel_rfl) rfl ?_
  unfold S.r25_Small at h
  refine Dw.seq (Dw.region ?_)
  refine Dl.n (N.box rfl h rfl rfl fun b1 _ h => ?_)
  refine Dl.n (N.new rfl Try.zeroValue27 h (by kernel_rfl) fun b2 _ h => ?_)
  refine Dl.q (Y.asg (v := (vI 0)) rfl rfl) (Dl.nil (Th.m (Dw.seq (Dw.seq (Dw.region ?_)))))
  obtain ⟨v3, hcv3, h⟩ := h
  refine Dl.q (Y.ldA rfl Try.isAgg27 Try.sizeOf27 (Dfv_len _) rfl hcv3) ?_
  refine Dl.n (N.call rfl Try.call33 rfl h ?_)
  intro r4 w h
  refine Dl.q (Y.not rfl rfl) (Dl.nil (Th.m ?_))
  refine Dw.cond rfl (fun hb15 => ?_) (fun hb15 => ?_)
  · replace h := M.iteT h hb15
    refine Dw.seq (Dw.region (Dl.q (Y.bld [] rfl rfl (Dfv_b _ )) ?_))
    refine Dl.n (N.stA rfl Try.sizeOf27 h rfl rfl (Dfv_len _) (Dfv_one _) fun h => ?_)
    generalize setCells _ _ _ _ = w at h ⊢
    refine Dl.q (Y.asg (v := (vI 6)) rfl rfl) (Dl.nil (Th.m (Dw.ret (Th.r ?_))))
    obtain ⟨v5, hc, h⟩ := h
    exact finC2 Try.isAgg27 Try.sizeOf27 (Dfv_len _) rfl rfl hc ⟨_, rfl, h⟩
  · replace h := M.iteF h hb15
    refine Dw.skip (Th.m (Dw.seq (Dw.region ?_)))
    obtain ⟨v6, hcv6, h⟩ := h
    refine Dl.q (Y.ldA rfl Try.isAgg27 Try.sizeOf27 (Dfv_len _) rfl hcv6) ?_
    refine Dl.n (N.call rfl Try.call34 rfl h ?_)
    intro r7 w h
    refine Dl.n (N.new rfl Try.zeroValue27 h (by kernel_rfl) fun b8 _ h => ?_)
    refine Dl.n (N.stA rfl Try.sizeOf27 h rfl rfl (Dfv_len _) (Dfv_one _) fun h => ?_)
    generalize setCells _ _ _ _ = w at h ⊢
    refine Dl.nil (Th.m (Dw.seq (Dw.game (by kernel_rfl) ?_)))
    replace h := M.drew_un h
    generalize World.drew _ = w at h ⊢
    obtain ⟨v9, hcv9, h⟩ := h
    refine Gm.quiet 0 rfl (by kernel_rfl) (fun _ hw => Y.ldA rfl Try.isAgg27 Try.sizeOf27 (Dfv_len _) rfl hw) hcv9 ?_
    obtain ⟨v10, hcv10, h⟩ := h
    refine Gm.quiet 1 rfl (by kernel_rfl) (fun _ hw => Y.ldA rfl Try.isAgg27 Try.sizeOf27 (Dfv_len _) rfl hw) hcv10 (Gm.one' 2 rfl (by kernel_rfl) (.drop (by kernel_rfl) (.keep (by kernel_rfl) .nil)) (N.call rfl Try.call14 rfl h ?_))
    intro r11 w h
    obtain ⟨hp12, h⟩ := h
    refine ⟨(pdC hp12 pdN), ?_⟩
    refine Gm.one' 3 rfl (by kernel_rfl) (.drop (by kernel_rfl) .nil) (N.call rfl Try.call35 rfl h ?_)
    intro r13 w h
    refine ⟨pdN, ?_⟩
    refine Gm.pure 4 rfl (by kernel_rfl) (fun _ => Y.ext rfl rfl rfl) (Gm.pure 5 rfl (by kernel_rfl) (fun _ => Y.ext rfl rfl rfl) (Gm.one' 6 rfl (by kernel_rfl) .nil ?_))
    refine N.stA rfl Try.sizeOf27 h rfl rfl (Dfv_len _) (Dfv_one _) fun h => ?_
    refine ⟨pdN, ?_⟩
    generalize setCells _ _ _ _ = w at h ⊢
    refine Gm.pure 7 rfl (by kernel_rfl) (fun _ => Y.asg (v := (vI r13.2)) rfl rfl) (Gm.end (by kernel_rfl) (Th.m (Dw.ret ?_)))
    obtain ⟨v14, hc, h⟩ := h
    exact finC2 Try.isAgg27 Try.sizeOf27 (Dfv_len _) rfl rfl hc ⟨_, rfl, h⟩
set_option maxHeartbeats 1000000 in
set_option maxRecDepth 20000 in
theorem r17_Same {p0 : Sl} {p1 : Sl} {w : World} {R : Bool → World → Prop} (h : S.r17_Same p0 p1 w R) : Calls Try.prog 13 [(Sl.val p0), (Sl.val p1)].toArray w (Ret Value.bool R) := by
  refine calls_of Try.func13 rfl rfl rfl (by kernel_rfl) rfl ?_
  unfold S.r17_Same at h
  refine Dw.seq (Dw.region (Dl.q (Y.asg (v := (Value.bool false)) rfl rfl) (Dl.nil (Th.m (Dw.seq (Dw.seq (Dw.region (Dl.q (Y.mv (v := (Sl.val p0)) rfl rfl) (Dl.q (Y.len rfl Try.runUnderlying24 rfl) (Dl.q (Y.mv (v := (Sl.val p1)) rfl rfl) (Dl.q (Y.len rfl Try.runUnderlying24 rfl) (Dl.q (Y.neI rfl rfl rfl) ?_))))))))))))
  refine Dl.nil (Th.m ?_)
  refine Dw.cond rfl (fun hb9 => ?_) (fun hb9 => ?_)
  · replace h := M.iteT h hb9
    refine Dw.seq (Dw.region (Dl.q (Y.asg (v := (Value.bool false)) rfl rfl) (Dl.nil (Th.m (Dw.ret (Th.r ?_))))))
    exact fin1 rfl ⟨_, rfl, h⟩
  · replace h := M.iteF h hb9
    refine Dw.skip (Th.m (Dw.seq (Dw.seq (Dw.region (Dl.q (Y.asg (v := (vI 0)) rfl rfl) (Dl.nil (Th.m (Dw.block ?_))))))))
    refine Dw.loopM (fun s j r => upd (mask r j 67106864) 5 (vI s)) h ⟨_, eqUpd rfl (eqMask (by repeat' (first | exact Off.refl _ _ | refine Off.u rfl ?_ | refine Off.m rfl ?_)))⟩ ?_
    intro I m q1 j w h
    refine Dw.seq (Dw.seq (Dw.region (Dl.q (Y.mv (v := (vI q1)) rfl rfl) (Dl.q (Y.mv (v := (Sl.val p0)) rfl rfl) (Dl.q (Y.len rfl Try.runUnderlying24 rfl) (Dl.q (Y.lss rfl rfl rfl) (Dl.nil (Th.m ?_))))))))
    refine Dw.cond rfl (fun hb8 => ?_) (fun hb8 => ?_)
    · replace h := M.iteT h hb8
      refine Dw.skip (Th.m (Dw.seq (Dw.block (Dw.seq (Dw.game (by kernel_rfl) ?_)))))
      replace h := M.drew_un h
      generalize World.drew _ = w at h ⊢
      refine Gm.pure 0 rfl (by kernel_rfl) (fun _ => Y.mv (v := (Sl.val p0)) rfl rfl) (Gm.pure 1 rfl (by kernel_rfl) (fun _ => Y.mv (v := (vI q1)) rfl rfl) ?_)
      obtain ⟨a3, a30, ha, hi, he, h⟩ := h
      refine Gm.pure 2 rfl (by kernel_rfl) (fun _ => Y.ix rfl Try.runUnderlying24 Try.sizeOf3 rfl rfl ha hi he) ?_
      obtain ⟨x4, hcx4, h⟩ := h
      refine Gm.quiet 3 rfl (by kernel_rfl) (fun _ hw => Y.ld rfl Try.isAgg3 rfl hw) hcx4 (Gm.pure 4 rfl (by kernel_rfl) (fun _ => Y.mv (v := (Sl.val p1)) rfl rfl) (Gm.pure 5 rfl (by kernel_rfl) (fun _ => Y.mv (v := (vI q1)) rfl rfl) ?_))
      obtain ⟨a5, a50, ha, hi, he, h⟩ := h
      refine Gm.pure 6 rfl (by kernel_rfl) (fun _ => Y.ix rfl Try.runUnderlying24 Try.sizeOf3 rfl rfl ha hi he) ?_
      obtain ⟨x6, hcx6, h⟩ := h
      refine Gm.quiet 7 rfl (by kernel_rfl) (fun _ hw => Y.ld rfl Try.isAgg3 rfl hw) hcx6 (Gm.pure 8 rfl (by kernel_rfl) (fun _ => Y.neI rfl rfl rfl) (Gm.end (by kernel_rfl) (Th.m ?_)))
      refine Dw.cond rfl (fun hb7 => ?_) (fun hb7 => ?_)
      · replace h := M.iteT h hb7
        refine Dw.seq (Dw.region (Dl.q (Y.asg (v := (Value.bool false)) rfl rfl) (Dl.nil (Th.m (Dw.ret (InB.r (Th.r (Th.r (InB.r (Th.r ?_))))))))))
        exact fin1 rfl ⟨_, rfl, h⟩
      · replace h := M.iteF h hb7
        refine Dw.skip (InB.m (Th.m (Dw.region (Dl.q (Y.mv (v := (vI q1)) rfl rfl) (Dl.q (Y.add rfl rfl rfl) (Dl.q (Y.asg (v := (vI (wI (q1 + 1)))) rfl rfl) (Dl.nil ?_)))))))
        exact Th.m ⟨_, h, _, eqUpd rfl (eqMask (by repeat' (first | exact Off.refl _ _ | refine Off.u rfl ?_ | refine Off.m rfl ?_)))⟩
    · replace h := M.iteF h hb8
      refine Dw.exit (Th.e (Th.e (InB.e (Th.m (Dw.seq (Dw.region (Dl.q (Y.asg (v := (Value.bool true)) rfl rfl) (Dl.nil (Th.m (Dw.ret ?_))))))))))
      exact fin1 rfl ⟨_, rfl, h⟩
set_option maxHeartbeats 1000000 in
set_option maxRecDepth 20000 in
theorem r24_Blocks {p0 : Dfv} {w : World} {R : Sl → World → Prop} (h : S.r24_Blocks p0 w R) : Calls Try.prog 14 [(.agg (Dfv.cs p0).toArray)].toArray w (Ret Sl.val R) := by
  refine calls_of Try.func14 rfl rfl rfl (by kernel_rfl) rfl ?_
  unfold S.r24_Blocks at h
  refine Dw.seq (Dw.region ?_)
  refine Dl.n (N.box rfl h rfl rfl fun b1 _ h => ?_)
  refine Dl.q (Y.asg (v := (Sl.val Sl.nil)) rfl rfl) (Dl.nil (Th.m (Dw.seq (Dw.region ?_))))
  obtain ⟨v2, hcv2, h⟩ := h
  refine Dl.q (Y.ldA rfl Try.isAgg27 Try.sizeOf27 (Dfv_len _) rfl hcv2) (Dl.q (Y.fa 258 rfl Try.runUnderlying27 rfl Try.sizeOf24 (by decide) rfl rfl) ?_)
  obtain ⟨x3, hcx3, h⟩ := h
  refine Dl.q (Y.ld rfl Try.isAgg24 rfl hcx3) (Dl.q (Y.len rfl Try.runUnderlying24 rfl) ?_)
  refine Dl.n (N.call rfl Try.call36 rfl h ?_)
  intro r4 w h
  refine Dl.q (Y.asg (v := (Sl.val r4)) rfl rfl) (Dl.nil (Th.m (Dw.ret ?_)))
  exact fin1 rfl ⟨_, rfl, h⟩
set_option maxHeartbeats 1000000 in
set_option maxRecDepth 20000 in
theorem r25_Splits {p0 : Dfv} {w : World} {R : Int → World → Prop} (h : S.r25_Splits p0 w R) : Calls Try.prog 15 [(.agg (Dfv.cs p0).toArray)].toArray w (Ret vI R) := by
  refine calls_of Try.func15 rfl rfl rfl (by kernel_rfl) rfl ?_
  unfold S.r25_Splits at h
  refine Dw.seq (Dw.region ?_)
  refine Dl.n (N.box rfl h rfl rfl fun b1 _ h => ?_)
  refine Dl.q (Y.asg (v := (vI 0)) rfl rfl) (Dl.nil (Th.m (Dw.seq (Dw.game (by kernel_rfl) ?_))))
  replace h := M.drew_un h
  generalize World.drew _ = w at h ⊢
  obtain ⟨v2, hcv2, h⟩ := h
  refine Gm.quiet 0 rfl (by kernel_rfl) (fun _ hw => Y.ldA rfl Try.isAgg27 Try.sizeOf27 (Dfv_len _) rfl hw) hcv2 (Gm.pure 3 rfl (by kernel_rfl) (fun _ => Y.fa 258 rfl Try.runUnderlying27 rfl Try.sizeOf24 (by decide) rfl rfl) ?_)
  obtain ⟨x3, hcx3, h⟩ := h
  refine Gm.quiet 4 rfl (by kernel_rfl) (fun _ hw => Y.ld rfl Try.isAgg24 rfl hw) hcx3 (Gm.one' 1 rfl (by kernel_rfl) (.keep (by kernel_rfl) (.drop (by kernel_rfl) .nil)) (N.call rfl Try.call14 rfl h ?_))
  intro r4 w h
  obtain ⟨hp5, h⟩ := h
  refine ⟨(pdC hp5 pdN), ?_⟩
  refine Gm.one' 2 rfl (by kernel_rfl) (.keep (by kernel_rfl) .nil) (N.call rfl Try.call37 rfl h ?_)
  intro r6 w h
  obtain ⟨hp7, h⟩ := h
  refine ⟨(pdC hp7 pdN), ?_⟩
  refine Gm.one' 5 rfl (by kernel_rfl) (.drop (by kernel_rfl) .nil) (N.call rfl Try.call37 rfl h ?_)
  intro r8 w h
  refine ⟨pdN, ?_⟩
  refine Gm.pure 6 rfl (by kernel_rfl) (fun _ => Y.sub rfl rfl rfl) (Gm.pure 7 rfl (by kernel_rfl) (fun _ => Y.asg (v := (vI (wI (r6 - r8)))) rfl rfl) (Gm.end (by kernel_rfl) (Th.m (Dw.ret ?_))))
  exact fin1 rfl ⟨_, rfl, h⟩
set_option maxHeartbeats 1000000 in
set_option maxRecDepth 20000 in
theorem r20_Same {p0 : Dfv} {p1 : Dfv} {w : World} {R : Bool → World → Prop} (h : S.r20_Same p0 p1 w R) : Calls Try.prog 16 [(.agg (Dfv.cs p0).toArray), (.agg (Dfv.cs p1).toArray)].toArray w (Ret Value.bool R) := by
  refine calls_of Try.func16 rfl rfl rfl (by kernel_rfl) rfl ?_
  unfold S.r20_Same at h
  refine Dw.seq (Dw.region ?_)
  refine Dl.n (N.box rfl h rfl rfl fun b1 _ h => ?_)
  refine Dl.n (N.box rfl h rfl rfl fun b2 _ h => ?_)
  refine Dl.q (Y.asg (v := (Value.bool false)) rfl rfl) (Dl.nil (Th.m (Dw.seq ?_)))
  refine Dw.joinM (fun s j r => upd (mask r j 8796093022144) 42 (Value.bool s)) h (fun C h => ?_) (fun q21 j w h => ?_)
  · refine Dw.region (Dl.q (Y.fa 0 rfl Try.runUnderlying27 rfl Try.sizeOf22 (by decide) rfl rfl) ?_)
    obtain ⟨v4, hcv4, h⟩ := h
    refine Dl.q (Y.ldA rfl Try.isAgg22 Try.sizeOf22 (Ar_len _) rfl hcv4) (Dl.q (Y.fa 0 rfl Try.runUnderlying27 rfl Try.sizeOf22 (by decide) rfl rfl) ?_)
    obtain ⟨v5, hcv5, h⟩ := h
    refine Dl.q (Y.ldA rfl Try.isAgg22 Try.sizeOf22 (Ar_len _) rfl hcv5) ?_
    obtain ⟨x6, hcx6, h⟩ := h
    refine Dl.q (Y.eqA rfl rfl rfl hcx6) (Dl.q (Y.mv (v := (Value.bool x6)) rfl rfl) ?_)
    refine M.split h (fun hb7 h => ?_) (fun hb7 h => ?_)
    · refine Dl.q (Y.skip (unwantG rfl rfl hb7)) (Dl.q (Y.skip (unwantG rfl rfl hb7)) (Dl.q (Y.skip (unwantG rfl rfl hb7)) (Dl.q (Y.skip (unwantG rfl rfl hb7)) (Dl.q (Y.skip (unwantG rfl rfl hb7)) (Dl.q (Y.pickT (v := (Value.bool true)) rfl rfl hb7 rfl) (Dl.q (Y.mv (v := (Value.bool true)) rfl rfl) (Dl.q (Y.skip (unwantG rfl rfl rfl)) (Dl.q (Y.skip (unwantG rfl rfl rfl)) (Dl.q (Y.skip (unwantG rfl rfl rfl)) (Dl.q (Y.skip (unwantG rfl rfl rfl)) (Dl.q (Y.skip (unwantG rfl rfl rfl)) (Dl.q (Y.skip (unwantG rfl rfl rfl)) ?_))))))))))))
      refine Dl.q (Y.skip (unwantG rfl rfl rfl)) (Dl.q (Y.pickT (v := (Value.bool true)) rfl rfl rfl rfl) (Dl.q (Y.mv (v := (Value.bool true)) rfl rfl) (Dl.q (Y.skip (unwantG rfl rfl rfl)) (Dl.q (Y.skip (unwantG rfl rfl rfl)) (Dl.q (Y.skip (unwantG rfl rfl rfl)) (Dl.q (Y.skip (unwantG rfl rfl rfl)) (Dl.q (Y.skip (unwantG rfl rfl rfl)) (Dl.q (Y.skip (unwantG rfl rfl rfl)) (Dl.q (Y.pickT (v := (Value.bool true)) rfl rfl rfl rfl) (Dl.q (Y.mv (v := (Value.bool true)) rfl rfl) (Dl.q (Y.skip (unwantG rfl rfl rfl)) (Dl.q (Y.skip (unwantG rfl rfl rfl)) ?_))))))))))))
      refine Dl.q (Y.skip (unwantG rfl rfl rfl)) (Dl.q (Y.skip (unwantG rfl rfl rfl)) (Dl.q (Y.skip (unwantG rfl rfl rfl)) (Dl.q (Y.skip (unwantG rfl rfl rfl)) (Dl.q (Y.pickT (v := (Value.bool true)) rfl rfl rfl rfl) (Dl.nil ?_)))))
      exact Th.m ⟨_, h, _, eqUpd rfl (eqMask (by repeat' (first | exact Off.refl _ _ | refine Off.u rfl ?_ | refine Off.m rfl ?_)))⟩
    · refine Dl.q (Y.fa 256 (wantG rfl rfl hb7) Try.runUnderlying27 rfl Try.sizeOf3 (by decide) rfl rfl) ?_
      obtain ⟨x8, hcx8, h⟩ := h
      refine Dl.q (Y.ld (wantG rfl rfl hb7) Try.isAgg3 rfl hcx8) (Dl.q (Y.fa 256 (wantG rfl rfl hb7) Try.runUnderlying27 rfl Try.sizeOf3 (by decide) rfl rfl) ?_)
      obtain ⟨x9, hcx9, h⟩ := h
      refine Dl.q (Y.ld (wantG rfl rfl hb7) Try.isAgg3 rfl hcx9) (Dl.q (Y.neI (wantG rfl rfl hb7) rfl rfl) (Dl.q (Y.pickF (v := (Value.bool (!decide (x8 = x9)))) rfl rfl hb7 rfl) (Dl.q (Y.mv (v := (Value.bool (!decide (x8 = x9)))) rfl rfl) ?_)))
      refine M.split h (fun hb10 h => ?_) (fun hb10 h => ?_)
      · refine Dl.q (Y.skip (unwantG rfl rfl hb10)) (Dl.q (Y.skip (unwantG rfl rfl hb10)) (Dl.q (Y.skip (unwantG rfl rfl hb10)) (Dl.q (Y.skip (unwantG rfl rfl hb10)) (Dl.q (Y.skip (unwantG rfl rfl hb10)) (Dl.q (Y.skip (unwantG rfl rfl hb10)) (Dl.q (Y.skip (unwantG rfl rfl hb10)) (Dl.q (Y.pickT (v := (Value.bool true)) rfl rfl hb10 rfl) (Dl.q (Y.mv (v := (Value.bool true)) rfl rfl) (Dl.q (Y.skip (unwantG rfl rfl rfl)) (Dl.q (Y.skip (unwantG rfl rfl rfl)) (Dl.q (Y.skip (unwantG rfl rfl rfl)) (Dl.q (Y.skip (unwantG rfl rfl rfl)) ?_))))))))))))
        refine Dl.q (Y.skip (unwantG rfl rfl rfl)) (Dl.q (Y.skip (unwantG rfl rfl rfl)) (Dl.q (Y.pickT (v := (Value.bool true)) rfl rfl rfl rfl) (Dl.q (Y.mv (v := (Value.bool true)) rfl rfl) (Dl.q (Y.skip (unwantG rfl rfl rfl)) (Dl.q (Y.skip (unwantG rfl rfl rfl)) (Dl.q (Y.skip (unwantG rfl rfl rfl)) (Dl.q (Y.skip (unwantG rfl rfl rfl)) (Dl.q (Y.skip (unwantG rfl rfl rfl)) (Dl.q (Y.skip (unwantG rfl rfl rfl)) (Dl.q (Y.pickT (v := (Value.bool true)) rfl rfl rfl rfl) (Dl.nil ?_)))))))))))
        exact Th.m ⟨_, h, _, eqUpd rfl (eqMask (by repeat' (first | exact Off.refl _ _ | refine Off.u rfl ?_ | refine Off.m rfl ?_)))⟩
      · refine Dl.q (Y.fa 257 (wantG rfl rfl hb10) Try.runUnderlying27 rfl Try.sizeOf23 (by decide) rfl rfl) ?_
        obtain ⟨x11, hcx11, h⟩ := h
        refine Dl.q (Y.ld (wantG rfl rfl hb10) Try.isAgg23 rfl hcx11) (Dl.q (Y.len (wantG rfl rfl hb10) Try.runUnderlying23 rfl) (Dl.q (Y.fa 257 (wantG rfl rfl hb10) Try.runUnderlying27 rfl Try.sizeOf23 (by decide) rfl rfl) ?_))
        obtain ⟨x12, hcx12, h⟩ := h
        refine Dl.q (Y.ld (wantG rfl rfl hb10) Try.isAgg23 rfl hcx12) (Dl.q (Y.len (wantG rfl rfl hb10) Try.runUnderlying23 rfl) (Dl.q (Y.neI (wantG rfl rfl hb10) rfl rfl) (Dl.q (Y.pickF (v := (Value.bool (!decide ((x11.len : Int) = (x12.len : Int))))) rfl rfl hb10 rfl) (Dl.q (Y.mv (v := (Value.bool (!decide ((x11.len : Int) = (x12.len : Int))))) rfl rfl) ?_))))
        refine M.split h (fun hb13 h => ?_) (fun hb13 h => ?_)
        · refine Dl.q (Y.skip (unwantG rfl rfl hb13)) (Dl.q (Y.skip (unwantG rfl rfl hb13)) (Dl.q (Y.skip (unwantG rfl rfl hb13)) (Dl.q (Y.skip (unwantG rfl rfl hb13)) (Dl.q (Y.skip (unwantG rfl rfl hb13)) (Dl.q (Y.skip (unwantG rfl rfl hb13)) (Dl.q (Y.pickT (v := (Value.bool true)) rfl rfl hb13 rfl) (Dl.q (Y.mv (v := (Value.bool true)) rfl rfl) (Dl.q (Y.skip (unwantG rfl rfl rfl)) (Dl.q (Y.skip (unwantG rfl rfl rfl)) (Dl.q (Y.skip (unwantG rfl rfl rfl)) (Dl.q (Y.skip (unwantG rfl rfl rfl)) (Dl.q (Y.skip (unwantG rfl rfl rfl)) ?_))))))))))))
          refine Dl.q (Y.skip (unwantG rfl rfl rfl)) (Dl.q (Y.pickT (v := (Value.bool true)) rfl rfl rfl rfl) (Dl.nil ?_))
          exact Th.m ⟨_, h, _, eqUpd rfl (eqMask (by repeat' (first | exact Off.refl _ _ | refine Off.u rfl ?_ | refine Off.m rfl ?_)))⟩
        · refine Dl.q (Y.fa 258 (wantG rfl rfl hb13) Try.runUnderlying27 rfl Try.sizeOf24 (by decide) rfl rfl) ?_
          obtain ⟨x14, hcx14, h⟩ := h
          refine Dl.q (Y.ld (wantG rfl rfl hb13) Try.isAgg24 rfl hcx14) (Dl.q (Y.fa 258 (wantG rfl rfl hb13) Try.runUnderlying27 rfl Try.sizeOf24 (by decide) rfl rfl) ?_)
          obtain ⟨x15, hcx15, h⟩ := h
          refine Dl.q (Y.ld (wantG rfl rfl hb13) Try.isAgg24 rfl hcx15) ?_
          refine Dl.n (N.call (wantG rfl rfl hb13) Try.call13 rfl h ?_)
          intro r16 w h
          refine Dl.q (Y.not (wantG rfl rfl hb13) rfl) (Dl.q (Y.pickF (v := (Value.bool (!r16))) rfl rfl hb13 rfl) (Dl.q (Y.mv (v := (Value.bool (!r16))) rfl rfl) ?_))
          refine M.split h (fun hb17 h => ?_) (fun hb17 h => ?_)
          · refine Dl.q (Y.skip (unwantG rfl rfl hb17)) (Dl.q (Y.skip (unwantG rfl rfl hb17)) (Dl.q (Y.skip (unwantG rfl rfl hb17)) (Dl.q (Y.skip (unwantG rfl rfl hb17)) (Dl.q (Y.skip (unwantG rfl rfl hb17)) (Dl.q (Y.skip (unwantG rfl rfl hb17)) (Dl.q (Y.pickT (v := (Value.bool true)) rfl rfl hb17 rfl) (Dl.nil ?_)))))))
            exact Th.m ⟨_, h, _, eqUpd rfl (eqMask (by repeat' (first | exact Off.refl _ _ | refine Off.u rfl ?_ | refine Off.m rfl ?_)))⟩
          · refine Dl.q (Y.fa 259 (wantG rfl rfl hb17) Try.runUnderlying27 rfl Try.sizeOf25 (by decide) rfl rfl) ?_
            obtain ⟨x18, hcx18, h⟩ := h
            refine Dl.q (Y.ld (wantG rfl rfl hb17) Try.isAgg25 rfl hcx18) (Dl.q (Y.fa 259 (wantG rfl rfl hb17) Try.runUnderlying27 rfl Try.sizeOf25 (by decide) rfl rfl) ?_)
            obtain ⟨x19, hcx19, h⟩ := h
            refine Dl.q (Y.ld (wantG rfl rfl hb17) Try.isAgg25 rfl hcx19) ?_
            refine Dl.n (N.call (wantG rfl rfl hb17) Try.call38 rfl h ?_)
            intro r20 w h
            refine Dl.q (Y.not (wantG rfl rfl hb17) rfl) (Dl.q (Y.pickF (v := (Value.bool (!r20))) rfl rfl hb17 rfl) (Dl.nil ?_))
            exact Th.m ⟨_, h, _, eqUpd rfl (eqMask (by repeat' (first | exact Off.refl _ _ | refine Off.u rfl ?_ | refine Off.m rfl ?_)))⟩
  · refine Dw.cond rfl (fun hb36 => ?_) (fun hb36 => ?_)
    · replace h := M.iteT h hb36
      refine Dw.seq (Dw.region (Dl.q (Y.asg (v := (Value.bool false)) rfl rfl) (Dl.nil (Th.m (Dw.ret (Th.r ?_))))))
      exact fin1 rfl ⟨_, rfl, h⟩
    · replace h := M.iteF h hb36
      refine Dw.skip (Th.m (Dw.seq (Dw.seq (Dw.region (Dl.q (Y.asg (v := (vI 0)) rfl rfl) (Dl.nil (Th.m (Dw.block ?_))))))))
      refine Dw.loopM (fun s j r => upd (mask r j 4611677222334365744) 5 (vI s)) h ⟨_, eqUpd rfl (eqMask (by repeat' (first | exact Off.refl _ _ | refine Off.u rfl ?_ | refine Off.m rfl ?_)))⟩ ?_
      intro I m q22 j w h
      refine Dw.seq (Dw.seq (Dw.region (Dl.q (Y.mv (v := (vI q22)) rfl rfl) (Dl.q (Y.fa 257 rfl Try.runUnderlying27 rfl Try.sizeOf23 (by decide) rfl rfl) ?_))))
      obtain ⟨x24, hcx24, h⟩ := h
      refine Dl.q (Y.ld rfl Try.isAgg23 rfl hcx24) (Dl.q (Y.len rfl Try.runUnderlying23 rfl) (Dl.q (Y.lss rfl rfl rfl) (Dl.nil (Th.m ?_))))
      refine Dw.cond rfl (fun hb35 => ?_) (fun hb35 => ?_)
      · replace h := M.iteT h hb35
        refine Dw.skip (Th.m (Dw.seq (Dw.block (Dw.seq (Dw.game (by kernel_rfl) ?_)))))
        replace h := M.drew_un h
        generalize World.drew _ = w at h ⊢
        refine Gm.pure 0 rfl (by kernel_rfl) (fun _ => Y.fa 257 rfl Try.runUnderlying27 rfl Try.sizeOf23 (by decide) rfl rfl) ?_
        obtain ⟨x25, hcx25, h⟩ := h
        refine Gm.quiet 1 rfl (by kernel_rfl) (fun _ hw => Y.ld rfl Try.isAgg23 rfl hw) hcx25 (Gm.pure 2 rfl (by kernel_rfl) (fun _ => Y.mv (v := (vI q22)) rfl rfl) ?_)
        obtain ⟨a26, a260, ha, hi, he, h⟩ := h
        refine Gm.pure 3 rfl (by kernel_rfl) (fun _ => Y.ix rfl Try.runUnderlying23 Try.sizeOf24 rfl rfl ha hi he) ?_
        obtain ⟨x27, hcx27, h⟩ := h
        refine Gm.quiet 4 rfl (by kernel_rfl) (fun _ hw => Y.ld rfl Try.isAgg24 rfl hw) hcx27 (Gm.pure 5 rfl (by kernel_rfl) (fun _ => Y.fa 257 rfl Try.runUnderlying27 rfl Try.sizeOf23 (by decide) rfl rfl) ?_)
        obtain ⟨x28, hcx28, h⟩ := h
        refine Gm.quiet 6 rfl (by kernel_rfl) (fun _ hw => Y.ld rfl Try.isAgg23 rfl hw) hcx28 (Gm.pure 7 rfl (by kernel_rfl) (fun _ => Y.mv (v := (vI q22)) rfl rfl) ?_)
        obtain ⟨a29, a290, ha, hi, he, h⟩ := h
        refine Gm.pure 8 rfl (by kernel_rfl) (fun _ => Y.ix rfl Try.runUnderlying23 Try.sizeOf24 rfl rfl ha hi he) ?_
        obtain ⟨x30, hcx30, h⟩ := h
        refine Gm.quiet 9 rfl (by kernel_rfl) (fun _ hw => Y.ld rfl Try.isAgg24 rfl hw) hcx30 (Gm.one' 10 rfl (by kernel_rfl) (.drop (by kernel_rfl) (.keep (by kernel_rfl) (.drop (by kernel_rfl) (.keep (by kernel_rfl) .nil)))) (N.call rfl Try.call13 rfl h ?_))
        intro r31 w h
        obtain ⟨hp32, h⟩ := h
        obtain ⟨hp33, h⟩ := h
        refine ⟨(pdC hp32 (pdC hp33 pdN)), ?_⟩
        refine Gm.pure 11 rfl (by kernel_rfl) (fun _ => Y.not rfl rfl) (Gm.end (by kernel_rfl) (Th.m ?_))
        refine Dw.cond rfl (fun hb34 => ?_) (fun hb34 => ?_)
        · replace h := M.iteT h hb34
          refine Dw.seq (Dw.region (Dl.q (Y.asg (v := (Value.bool false)) rfl rfl) (Dl.nil (Th.m (Dw.ret (InB.r (Th.r (Th.r (InB.r (Th.r ?_))))))))))
          exact fin1 rfl ⟨_, rfl, h⟩
        · replace h := M.iteF h hb34
          refine Dw.skip (InB.m (Th.m (Dw.region (Dl.q (Y.mv (v := (vI q22)) rfl rfl) (Dl.q (Y.add rfl rfl rfl) (Dl.q (Y.asg (v := (vI (wI (q22 + 1)))) rfl rfl) (Dl.nil ?_)))))))
          exact Th.m ⟨_, h, _, eqUpd rfl (eqMask (by repeat' (first | exact Off.refl _ _ | refine Off.u rfl ?_ | refine Off.m rfl ?_)))⟩
      · replace h := M.iteF h hb35
        refine Dw.exit (Th.e (Th.e (InB.e (Th.m (Dw.seq (Dw.region (Dl.q (Y.asg (v := (Value.bool true)) rfl rfl) (Dl.nil (Th.m (Dw.ret ?_))))))))))
        exact fin1 rfl ⟨_, rfl, h⟩
set_option maxHeartbeats 1000000 in
set_option maxRecDepth 20000 in
theorem moore_Blocks {p0 : Dfv} {w : World} {R : Sl → World → Prop} (h : S.moore_Blocks p0 w R) : Calls Try.prog 17 [(.agg (Dfv.cs p0).toArray)].toArray w (Ret Sl.val R) := by
  refine calls_of Try.func17 rfl rfl rfl (by kernel_rfl) rfl ?_
  unfold S.moore_Blocks at h
  refine Dw.seq (Dw.region ?_)
  refine Dl.n (N.box rfl h rfl rfl fun b1 _ h => ?_)
  refine Dl.q (Y.asg (v := (Sl.val Sl.nil)) rfl rfl) (Dl.nil (Th.m (Dw.seq (Dw.region ?_))))
  obtain ⟨v2, hcv2, h⟩ := h
  refine Dl.q (Y.ldA rfl Try.isAgg27 Try.sizeOf27 (Dfv_len _) rfl hcv2) ?_
  refine Dl.n (N.call rfl Try.call39 rfl h ?_)
  intro r3 w h
  refine Dl.q (Y.asg (v := (Sl.val r3)) rfl rfl) (Dl.nil (Th.m (Dw.ret ?_)))
  exact fin1 rfl ⟨_, rfl, h⟩
set_option maxHeartbeats 1000000 in
set_option maxRecDepth 20000 in
theorem dfa_Name {p0 : Dfv} {p1 : Sl} {w : World} {R : ByteArray → World → Prop} (h : S.dfa_Name p0 p1 w R) : Calls Try.prog 18 [(.agg (Dfv.cs p0).toArray), (Sl.val p1)].toArray w (Ret Value.string R) := by
  refine calls_of Try.func18 rfl rfl rfl (by kernel_rfl) rfl ?_
  unfold S.dfa_Name at h
  refine Dw.seq (Dw.region ?_)
  refine Dl.n (N.box rfl h rfl rfl fun b1 _ h => ?_)
  refine Dl.q (Y.asg (v := (Value.string (⟨#[]⟩ : ByteArray))) rfl rfl) (Dl.nil (Th.m (Dw.seq (Dw.seq (Dw.region ?_)))))
  obtain ⟨v2, hcv2, h⟩ := h
  refine Dl.q (Y.ldA rfl Try.isAgg27 Try.sizeOf27 (Dfv_len _) rfl hcv2) (Dl.q (Y.mv (v := (Sl.val p1)) rfl rfl) ?_)
  refine Dl.n (N.call rfl Try.call40 rfl h ?_)
  intro r3 w h
  refine Dl.q (Y.asg (v := (vI r3)) rfl rfl) (Dl.nil (Th.m (Dw.seq (Dw.region (Dl.q (Y.mv (v := (vI r3)) rfl rfl) (Dl.q (Y.gtr rfl rfl rfl) (Dl.nil (Th.m ?_))))))))
  refine Dw.cond rfl (fun hb7 => ?_) (fun hb7 => ?_)
  · replace h := M.iteT h hb7
    refine Dw.seq (Dw.region (Dl.q (Y.fa 259 rfl Try.runUnderlying27 rfl Try.sizeOf25 (by decide) rfl rfl) ?_))
    obtain ⟨x4, hcx4, h⟩ := h
    refine Dl.q (Y.ld rfl Try.isAgg25 rfl hcx4) (Dl.q (Y.mv (v := (vI r3)) rfl rfl) (Dl.q (Y.sub rfl rfl rfl) ?_))
    obtain ⟨a5, a50, ha, hi, he, h⟩ := h
    refine Dl.q (Y.ix rfl Try.runUnderlying25 Try.sizeOf9 rfl rfl ha hi he) ?_
    obtain ⟨x6, hcx6, h⟩ := h
    refine Dl.q (Y.ld rfl Try.isAgg9 rfl hcx6) (Dl.q (Y.asg (v := (Value.string x6)) rfl rfl) (Dl.nil (Th.m (Dw.ret (Th.r ?_)))))
    exact fin1 rfl ⟨_, rfl, h⟩
  · replace h := M.iteF h hb7
    refine Dw.skip (Th.m (Dw.seq (Dw.region (Dl.q (Y.asg (v := (Value.string (⟨#[]⟩ : ByteArray))) rfl rfl) (Dl.nil (Th.m (Dw.ret ?_)))))))
    exact fin1 rfl ⟨_, rfl, h⟩
set_option maxHeartbeats 1000000 in
set_option maxRecDepth 20000 in
theorem dfa_Same {p0 : Dfv} {p1 : Dfv} {w : World} {R : Bool → World → Prop} (h : S.dfa_Same p0 p1 w R) : Calls Try.prog 19 [(.agg (Dfv.cs p0).toArray), (.agg (Dfv.cs p1).toArray)].toArray w (Ret Value.bool R) := by
  refine calls_of Try.func19 rfl rfl rfl (by kernel_rfl) rfl ?_
  unfold S.dfa_Same at h
  refine Dw.seq (Dw.region ?_)
  refine Dl.n (N.box rfl h rfl rfl fun b1 _ h => ?_)
  refine Dl.n (N.box rfl h rfl rfl fun b2 _ h => ?_)
  refine Dl.q (Y.asg (v := (Value.bool false)) rfl rfl) (Dl.nil (Th.m (Dw.seq (Dw.region (Dl.q (Y.fa 0 rfl Try.runUnderlying27 rfl Try.sizeOf22 (by decide) rfl rfl) ?_)))))
  obtain ⟨v3, hcv3, h⟩ := h
  refine Dl.q (Y.ldA rfl Try.isAgg22 Try.sizeOf22 (Ar_len _) rfl hcv3) (Dl.q (Y.fa 0 rfl Try.runUnderlying27 rfl Try.sizeOf22 (by decide) rfl rfl) ?_)
  obtain ⟨v4, hcv4, h⟩ := h
  refine Dl.q (Y.ldA rfl Try.isAgg22 Try.sizeOf22 (Ar_len _) rfl hcv4) ?_
  obtain ⟨x5, hcx5, h⟩ := h
  refine Dl.q (Y.eqA rfl rfl rfl hcx5) (Dl.q (Y.mv (v := (Value.bool x5)) rfl rfl) ?_)
  refine M.split h (fun hb6 h => ?_) (fun hb6 h => ?_)
  · refine Dl.q (Y.fa 256 (wantG rfl rfl hb6) Try.runUnderlying27 rfl Try.sizeOf3 (by decide) rfl rfl) ?_
    obtain ⟨x7, hcx7, h⟩ := h
    refine Dl.q (Y.ld (wantG rfl rfl hb6) Try.isAgg3 rfl hcx7) (Dl.q (Y.fa 256 (wantG rfl rfl hb6) Try.runUnderlying27 rfl Try.sizeOf3 (by decide) rfl rfl) ?_)
    obtain ⟨x8, hcx8, h⟩ := h
    refine Dl.q (Y.ld (wantG rfl rfl hb6) Try.isAgg3 rfl hcx8) (Dl.q (Y.eqI (wantG rfl rfl hb6) rfl rfl) (Dl.q (Y.pickT (v := (Value.bool (decide (x7 = x8)))) rfl rfl hb6 rfl) (Dl.q (Y.mv (v := (Value.bool (decide (x7 = x8)))) rfl rfl) ?_)))
    refine M.split h (fun hb9 h => ?_) (fun hb9 h => ?_)
    · refine Dl.q (Y.fa 258 (wantG rfl rfl hb9) Try.runUnderlying27 rfl Try.sizeOf24 (by decide) rfl rfl) ?_
      obtain ⟨x10, hcx10, h⟩ := h
      refine Dl.q (Y.ld (wantG rfl rfl hb9) Try.isAgg24 rfl hcx10) (Dl.q (Y.fa 258 (wantG rfl rfl hb9) Try.runUnderlying27 rfl Try.sizeOf24 (by decide) rfl rfl) ?_)
      obtain ⟨x11, hcx11, h⟩ := h
      refine Dl.q (Y.ld (wantG rfl rfl hb9) Try.isAgg24 rfl hcx11) ?_
      refine Dl.n (N.call (wantG rfl rfl hb9) Try.call41 rfl h ?_)
      intro r12 w h
      refine Dl.q (Y.pickT (v := (Value.bool r12)) rfl rfl hb9 rfl) (Dl.q (Y.mv (v := (Value.bool r12)) rfl rfl) ?_)
      refine M.split h (fun hb13 h => ?_) (fun hb13 h => ?_)
      · refine Dl.q (Y.fa 259 (wantG rfl rfl hb13) Try.runUnderlying27 rfl Try.sizeOf25 (by decide) rfl rfl) ?_
        obtain ⟨x14, hcx14, h⟩ := h
        refine Dl.q (Y.ld (wantG rfl rfl hb13) Try.isAgg25 rfl hcx14) (Dl.q (Y.fa 259 (wantG rfl rfl hb13) Try.runUnderlying27 rfl Try.sizeOf25 (by decide) rfl rfl) ?_)
        obtain ⟨x15, hcx15, h⟩ := h
        refine Dl.q (Y.ld (wantG rfl rfl hb13) Try.isAgg25 rfl hcx15) ?_
        refine Dl.n (N.call (wantG rfl rfl hb13) Try.call42 rfl h ?_)
        intro r16 w h
        refine Dl.q (Y.pickT (v := (Value.bool r16)) rfl rfl hb13 rfl) (Dl.q (Y.mv (v := (Value.bool r16)) rfl rfl) ?_)
        refine M.split h (fun hb17 h => ?_) (fun hb17 h => ?_)
        · refine Dl.q (Y.fa 257 (wantG rfl rfl hb17) Try.runUnderlying27 rfl Try.sizeOf23 (by decide) rfl rfl) ?_
          obtain ⟨x18, hcx18, h⟩ := h
          refine Dl.q (Y.ld (wantG rfl rfl hb17) Try.isAgg23 rfl hcx18) (Dl.q (Y.fa 257 (wantG rfl rfl hb17) Try.runUnderlying27 rfl Try.sizeOf23 (by decide) rfl rfl) ?_)
          obtain ⟨x19, hcx19, h⟩ := h
          refine Dl.q (Y.ld (wantG rfl rfl hb17) Try.isAgg23 rfl hcx19) ?_
          refine Dl.n (N.call (wantG rfl rfl hb17) Try.call43 rfl h ?_)
          intro r20 w h
          refine Dl.q (Y.pickT (v := (Value.bool r20)) rfl rfl hb17 rfl) (Dl.q (Y.asg (v := (Value.bool r20)) rfl rfl) (Dl.nil (Th.m (Dw.ret ?_))))
          exact fin1 rfl ⟨_, rfl, h⟩
        · refine Dl.q (Y.skip (unwantG rfl rfl hb17)) (Dl.q (Y.skip (unwantG rfl rfl hb17)) (Dl.q (Y.skip (unwantG rfl rfl hb17)) (Dl.q (Y.skip (unwantG rfl rfl hb17)) (Dl.q (Y.skip (unwantG rfl rfl hb17)) (Dl.q (Y.pickF (v := (Value.bool false)) rfl rfl hb17 rfl) (Dl.q (Y.asg (v := (Value.bool false)) rfl rfl) (Dl.nil (Th.m (Dw.ret ?_)))))))))
          exact fin1 rfl ⟨_, rfl, h⟩
      · refine Dl.q (Y.skip (unwantG rfl rfl hb13)) (Dl.q (Y.skip (unwantG rfl rfl hb13)) (Dl.q (Y.skip (unwantG rfl rfl hb13)) (Dl.q (Y.skip (unwantG rfl rfl hb13)) (Dl.q (Y.skip (unwantG rfl rfl hb13)) (Dl.q (Y.pickF (v := (Value.bool false)) rfl rfl hb13 rfl) (Dl.q (Y.mv (v := (Value.bool false)) rfl rfl) (Dl.q (Y.skip (unwantG rfl rfl rfl)) (Dl.q (Y.skip (unwantG rfl rfl rfl)) (Dl.q (Y.skip (unwantG rfl rfl rfl)) (Dl.q (Y.skip (unwantG rfl rfl rfl)) (Dl.q (Y.skip (unwantG rfl rfl rfl)) (Dl.q (Y.pickF (v := (Value.bool false)) rfl rfl rfl rfl) ?_))))))))))))
        refine Dl.q (Y.asg (v := (Value.bool false)) rfl rfl) (Dl.nil (Th.m (Dw.ret ?_)))
        exact fin1 rfl ⟨_, rfl, h⟩
    · refine Dl.q (Y.skip (unwantG rfl rfl hb9)) (Dl.q (Y.skip (unwantG rfl rfl hb9)) (Dl.q (Y.skip (unwantG rfl rfl hb9)) (Dl.q (Y.skip (unwantG rfl rfl hb9)) (Dl.q (Y.skip (unwantG rfl rfl hb9)) (Dl.q (Y.pickF (v := (Value.bool false)) rfl rfl hb9 rfl) (Dl.q (Y.mv (v := (Value.bool false)) rfl rfl) (Dl.q (Y.skip (unwantG rfl rfl rfl)) (Dl.q (Y.skip (unwantG rfl rfl rfl)) (Dl.q (Y.skip (unwantG rfl rfl rfl)) (Dl.q (Y.skip (unwantG rfl rfl rfl)) (Dl.q (Y.skip (unwantG rfl rfl rfl)) (Dl.q (Y.pickF (v := (Value.bool false)) rfl rfl rfl rfl) ?_))))))))))))
      refine Dl.q (Y.mv (v := (Value.bool false)) rfl rfl) (Dl.q (Y.skip (unwantG rfl rfl rfl)) (Dl.q (Y.skip (unwantG rfl rfl rfl)) (Dl.q (Y.skip (unwantG rfl rfl rfl)) (Dl.q (Y.skip (unwantG rfl rfl rfl)) (Dl.q (Y.skip (unwantG rfl rfl rfl)) (Dl.q (Y.pickF (v := (Value.bool false)) rfl rfl rfl rfl) (Dl.q (Y.asg (v := (Value.bool false)) rfl rfl) (Dl.nil (Th.m (Dw.ret ?_))))))))))
      exact fin1 rfl ⟨_, rfl, h⟩
  · refine Dl.q (Y.skip (unwantG rfl rfl hb6)) (Dl.q (Y.skip (unwantG rfl rfl hb6)) (Dl.q (Y.skip (unwantG rfl rfl hb6)) (Dl.q (Y.skip (unwantG rfl rfl hb6)) (Dl.q (Y.skip (unwantG rfl rfl hb6)) (Dl.q (Y.pickF (v := (Value.bool false)) rfl rfl hb6 rfl) (Dl.q (Y.mv (v := (Value.bool false)) rfl rfl) (Dl.q (Y.skip (unwantG rfl rfl rfl)) (Dl.q (Y.skip (unwantG rfl rfl rfl)) (Dl.q (Y.skip (unwantG rfl rfl rfl)) (Dl.q (Y.skip (unwantG rfl rfl rfl)) (Dl.q (Y.skip (unwantG rfl rfl rfl)) (Dl.q (Y.pickF (v := (Value.bool false)) rfl rfl rfl rfl) ?_))))))))))))
    refine Dl.q (Y.mv (v := (Value.bool false)) rfl rfl) (Dl.q (Y.skip (unwantG rfl rfl rfl)) (Dl.q (Y.skip (unwantG rfl rfl rfl)) (Dl.q (Y.skip (unwantG rfl rfl rfl)) (Dl.q (Y.skip (unwantG rfl rfl rfl)) (Dl.q (Y.skip (unwantG rfl rfl rfl)) (Dl.q (Y.pickF (v := (Value.bool false)) rfl rfl rfl rfl) (Dl.q (Y.mv (v := (Value.bool false)) rfl rfl) (Dl.q (Y.skip (unwantG rfl rfl rfl)) (Dl.q (Y.skip (unwantG rfl rfl rfl)) (Dl.q (Y.skip (unwantG rfl rfl rfl)) (Dl.q (Y.skip (unwantG rfl rfl rfl)) (Dl.q (Y.skip (unwantG rfl rfl rfl)) ?_))))))))))))
    refine Dl.q (Y.pickF (v := (Value.bool false)) rfl rfl rfl rfl) (Dl.q (Y.asg (v := (Value.bool false)) rfl rfl) (Dl.nil (Th.m (Dw.ret ?_))))
    exact fin1 rfl ⟨_, rfl, h⟩
set_option maxHeartbeats 1000000 in
set_option maxRecDepth 20000 in
theorem dfa_Reach {p0 : Dfv} {w : World} {R : Sl → World → Prop} (h : S.dfa_Reach p0 w R) : Calls Try.prog 20 [(.agg (Dfv.cs p0).toArray)].toArray w (Ret Sl.val R) := by
  refine calls_of Try.func20 rfl rfl rfl (by kernel_rfl) rfl ?_
  unfold S.dfa_Reach at h
  refine Dw.seq (Dw.region ?_)
  refine Dl.n (N.box rfl h rfl rfl fun b1 _ h => ?_)
  refine Dl.q (Y.asg (v := (Sl.val Sl.nil)) rfl rfl) (Dl.nil (Th.m (Dw.seq (Dw.seq (Dw.region ?_)))))
  obtain ⟨v2, hcv2, h⟩ := h
  refine Dl.q (Y.ldA rfl Try.isAgg27 Try.sizeOf27 (Dfv_len _) rfl hcv2) ?_
  refine Dl.n (N.call rfl Try.call7 rfl h ?_)
  intro r3 w h
  refine Dl.q (Y.not rfl rfl) (Dl.nil (Th.m ?_))
  refine Dw.cond rfl (fun hb13 => ?_) (fun hb13 => ?_)
  · replace h := M.iteT h hb13
    refine Dw.seq (Dw.region (Dl.q (Y.asg (v := (Sl.val Sl.nil)) rfl rfl) (Dl.nil (Th.m (Dw.ret (Th.r ?_))))))
    exact fin1 rfl ⟨_, rfl, h⟩
  · replace h := M.iteF h hb13
    refine Dw.skip (Th.m (Dw.seq (Dw.region ?_)))
    refine Dl.n (N.new rfl Try.zeroValue24 h rfl fun b4 _ h => ?_)
    refine Dl.nil (Th.m (Dw.range (Dw.region (Dl.q (Y.fa 258 rfl Try.runUnderlying27 rfl Try.sizeOf24 (by decide) rfl rfl) ?_))))
    obtain ⟨x5, hcx5, h⟩ := h
    refine Dl.q (Y.ld rfl Try.isAgg24 rfl hcx5) (Dl.q (Y.len rfl Try.runUnderlying24 rfl) ?_)
    refine Dl.n (N.mkS rfl Try.runUnderlying24 Try.sizeOf3 Try.zeroValue3 h rfl rfl rfl rfl rfl fun b6 _ h => ?_)
    refine Dl.q (Y.mkF rfl rfl) ?_
    refine Dl.n (N.call rfl Try.call44 rfl h ?_)
    intro r7 w h
    refine Dl.nil ?_
    refine Th.m (RG.of h rfl rfl rfl (fun _ => rfl) (fun l y8 W C h => ?_) (fun D w3 j hD h => ?_))
    · refine Dw.region (Dl.q (Y.asg (v := (vI y8)) rfl rfl) (Dl.nil ?_))
      refine Th.m ⟨rfl, fun w hW hs => ?_⟩
      replace h := h w hW hs
      refine Dw.block (Dw.region ?_)
      obtain ⟨x9, hcx9, h⟩ := h
      refine Dl.q (Y.ld rfl Try.isAgg24 rfl hcx9) (Dl.q (Y.mv (v := (vI y8)) rfl rfl) ?_)
      refine Dl.n (N.mkS rfl Try.runUnderlying24 Try.sizeOf3 Try.zeroValue3 h rfl rfl rfl rfl rfl fun b10 _ h => ?_)
      obtain ⟨s11, w, ha, h⟩ := h
      refine Dl.n (N.blt rfl rfl (fun _ => rfl) ha ?_)
      refine Dl.n (N.st rfl Try.sizeOf24 h rfl rfl rfl rfl rfl fun h => ?_)
      refine Dl.nil (InB.m ?_)
      exact h
    · refine Dw.seq (Dw.region ?_)
      obtain ⟨x12, hcx12, h⟩ := h
      refine Dl.q (Y.ld rfl Try.isAgg24 rfl hcx12) (Dl.q (Y.asg (v := (Sl.val x12)) rfl rfl) (Dl.nil (Th.m (Dw.ret (Rt.mk hD h fun w h => ?_)))))
      exact fin1 rfl ⟨_, rfl, h⟩
set_option maxHeartbeats 1000000 in
set_option maxRecDepth 20000 in
theorem quotient_Stable {p0 : Dfv} {p1 : Sl} {w : World} {R : Bool → World → Prop} (h : S.quotient_Stable p0 p1 w R) : Calls Try.prog 21 [(.agg (Dfv.cs p0).toArray), (Sl.val p1)].toArray w (Ret Value.bool R) := by
  refine calls_of Try.func21 rfl rfl rfl (by kernel_rfl) rfl ?_
  unfold S.quotient_Stable at h
  refine Dw.seq (Dw.region ?_)
  refine Dl.n (N.box rfl h rfl rfl fun b1 _ h => ?_)
  refine Dl.q (Y.asg (v := (Value.bool false)) rfl rfl) (Dl.nil (Th.m (Dw.seq (Dw.game (by kernel_rfl) ?_))))
  replace h := M.drew_un h
  generalize World.drew _ = w at h ⊢
  obtain ⟨v2, hcv2, h⟩ := h
  refine Gm.quiet 0 rfl (by kernel_rfl) (fun _ hw => Y.ldA rfl Try.isAgg27 Try.sizeOf27 (Dfv_len _) rfl hw) hcv2 (Gm.one' 1 rfl (by kernel_rfl) (.drop (by kernel_rfl) .nil) (N.call rfl Try.call7 rfl h ?_))
  intro r3 w h
  refine ⟨pdN, ?_⟩
  refine Gm.pure 2 rfl (by kernel_rfl) (fun _ => Y.mv (v := (Value.bool r3)) rfl rfl) ?_
  refine M.split h (fun hb4 h => ?_) (fun hb4 h => ?_)
  · refine Gm.pure 3 rfl (by kernel_rfl) (fun _ => Y.mv (v := (Sl.val p1)) (wantG rfl rfl hb4) rfl) (Gm.pure 4 rfl (by kernel_rfl) (fun _ => Y.len (wantG rfl rfl hb4) Try.runUnderlying24 rfl) (Gm.pure 5 rfl (by kernel_rfl) (fun _ => Y.fa 258 (wantG rfl rfl hb4) Try.runUnderlying27 rfl Try.sizeOf24 (by decide) rfl rfl) ?_))
    obtain ⟨x5, hcx5, h⟩ := h
    refine Gm.quiet 6 rfl (by kernel_rfl) (fun _ hw => Y.ld (wantG rfl rfl hb4) Try.isAgg24 rfl hw) hcx5 (Gm.pure 7 rfl (by kernel_rfl) (fun _ => Y.len (wantG rfl rfl hb4) Try.runUnderlying24 rfl) (Gm.pure 8 rfl (by kernel_rfl) (fun _ => Y.eqI (wantG rfl rfl hb4) rfl rfl) (Gm.pure 9 rfl (by kernel_rfl) (fun _ => Y.pickT (v := (Value.bool (decide ((p1.len : Int) = (x5.len : Int))))) rfl rfl hb4 rfl) (Gm.pure 10 rfl (by kernel_rfl) (fun _ => Y.mv (v := (Value.bool (decide ((p1.len : Int) = (x5.len : Int))))) rfl rfl) ?_))))
    refine M.split h (fun hb6 h => ?_) (fun hb6 h => ?_)
    · obtain ⟨v7, hcv7, h⟩ := h
      refine Gm.quiet 11 rfl (by kernel_rfl) (fun _ hw => Y.ldA (wantG rfl rfl hb6) Try.isAgg27 Try.sizeOf27 (Dfv_len _) rfl hw) hcv7 (Gm.pure 12 rfl (by kernel_rfl) (fun _ => Y.mv (v := (Sl.val p1)) (wantG rfl rfl hb6) rfl) (Gm.one' 13 rfl (by kernel_rfl) (.keep (by kernel_rfl) (.keep (by kernel_rfl) .nil)) (N.call (wantG rfl rfl hb6) Try.call31 rfl h ?_)))
      intro r8 w h
      obtain ⟨hp9, h⟩ := h
      obtain ⟨hp10, h⟩ := h
      refine ⟨(pdC hp9 (pdC hp10 pdN)), ?_⟩
      refine Gm.one' 14 rfl (by kernel_rfl) (.drop (by kernel_rfl) (.keep (by kernel_rfl) .nil)) (N.call (wantG rfl rfl hb6) Try.call46 rfl h ?_)
      intro r11 w h
      obtain ⟨hp12, h⟩ := h
      refine ⟨(pdC hp12 pdN), ?_⟩
      refine Gm.pure 15 rfl (by kernel_rfl) (fun _ => Y.pickT (v := (Value.bool r11)) rfl rfl hb6 rfl) (Gm.pure 16 rfl (by kernel_rfl) (fun _ => Y.asg (v := (Value.bool r11)) rfl rfl) (Gm.end (by kernel_rfl) (Th.m (Dw.ret ?_))))
      exact fin1 rfl ⟨_, rfl, h⟩
    · refine Gm.pure 11 rfl (by kernel_rfl) (fun _ => Y.skip (unwantG rfl rfl hb6)) (Gm.pure 12 rfl (by kernel_rfl) (fun _ => Y.skip (unwantG rfl rfl hb6)) (Gm.pure 13 rfl (by kernel_rfl) (fun _ => Y.skip (unwantG rfl rfl hb6)) (Gm.pure 14 rfl (by kernel_rfl) (fun _ => Y.skip (unwantG rfl rfl hb6)) (Gm.pure 15 rfl (by kernel_rfl) (fun _ => Y.pickF (v := (Value.bool false)) rfl rfl hb6 rfl) (Gm.pure 16 rfl (by kernel_rfl) (fun _ => Y.asg (v := (Value.bool false)) rfl rfl) (Gm.end (by kernel_rfl) (Th.m (Dw.ret ?_))))))))
      exact fin1 rfl ⟨_, rfl, h⟩
  · refine Gm.pure 3 rfl (by kernel_rfl) (fun _ => Y.skip (unwantG rfl rfl hb4)) (Gm.pure 4 rfl (by kernel_rfl) (fun _ => Y.skip (unwantG rfl rfl hb4)) (Gm.pure 5 rfl (by kernel_rfl) (fun _ => Y.skip (unwantG rfl rfl hb4)) (Gm.pure 6 rfl (by kernel_rfl) (fun _ => Y.skip (unwantG rfl rfl hb4)) (Gm.pure 7 rfl (by kernel_rfl) (fun _ => Y.skip (unwantG rfl rfl hb4)) (Gm.pure 8 rfl (by kernel_rfl) (fun _ => Y.skip (unwantG rfl rfl hb4)) (Gm.pure 9 rfl (by kernel_rfl) (fun _ => Y.pickF (v := (Value.bool false)) rfl rfl hb4 rfl) (Gm.pure 10 rfl (by kernel_rfl) (fun _ => Y.mv (v := (Value.bool false)) rfl rfl) (Gm.pure 11 rfl (by kernel_rfl) (fun _ => Y.skip (unwantG rfl rfl rfl)) (Gm.pure 12 rfl (by kernel_rfl) (fun _ => Y.skip (unwantG rfl rfl rfl)) (Gm.pure 13 rfl (by kernel_rfl) (fun _ => Y.skip (unwantG rfl rfl rfl)) (Gm.pure 14 rfl (by kernel_rfl) (fun _ => Y.skip (unwantG rfl rfl rfl)) (Gm.pure 15 rfl (by kernel_rfl) (fun _ => Y.pickF (v := (Value.bool false)) rfl rfl rfl rfl) ?_))))))))))))
    refine Gm.pure 16 rfl (by kernel_rfl) (fun _ => Y.asg (v := (Value.bool false)) rfl rfl) (Gm.end (by kernel_rfl) (Th.m (Dw.ret ?_)))
    exact fin1 rfl ⟨_, rfl, h⟩
set_option maxHeartbeats 1000000 in
set_option maxRecDepth 20000 in
theorem dfa_Trim {p0 : Dfv} {w : World} {R : (Dfv × Int) → World → Prop} (h : S.dfa_Trim p0 w R) : Calls Try.prog 22 [(.agg (Dfv.cs p0).toArray)].toArray w (Ret (fun x : (Dfv × Int) => .tuple #[(.agg (Dfv.cs x.1).toArray), (vI x.2)]) R) := by
  refine calls_of Try.func22 rfl rfl rfl (by kernel_rfl) rfl ?_
  unfold S.dfa_Trim at h
  refine Dw.seq (Dw.region ?_)
  refine Dl.n (N.box rfl h rfl rfl fun b1 _ h => ?_)
  refine Dl.n (N.new rfl Try.zeroValue27 h (by kernel_rfl) fun b2 _ h => ?_)
  refine Dl.q (Y.asg (v := (vI 0)) rfl rfl) (Dl.nil (Th.m (Dw.seq (Dw.game (by kernel_rfl) ?_))))
  replace h := M.drew_un h
  generalize World.drew _ = w at h ⊢
  obtain ⟨v3, hcv3, h⟩ := h
  refine Gm.quiet 0 rfl (by kernel_rfl) (fun _ hw => Y.ldA rfl Try.isAgg27 Try.sizeOf27 (Dfv_len _) rfl hw) hcv3 ?_
  obtain ⟨v4, hcv4, h⟩ := h
  refine Gm.quiet 1 rfl (by kernel_rfl) (fun _ hw => Y.ldA rfl Try.isAgg27 Try.sizeOf27 (Dfv_len _) rfl hw) hcv4 (Gm.one' 2 rfl (by kernel_rfl) (.drop (by kernel_rfl) (.keep (by kernel_rfl) .nil)) (N.call rfl Try.call20 rfl h ?_))
  intro r5 w h
  obtain ⟨hp6, h⟩ := h
  refine ⟨(pdC hp6 pdN), ?_⟩
  refine Gm.one' 3 rfl (by kernel_rfl) (.drop (by kernel_rfl) .nil) (N.call rfl Try.call47 rfl h ?_)
  intro r7 w h
  refine ⟨pdN, ?_⟩
  refine Gm.pure 4 rfl (by kernel_rfl) (fun _ => Y.ext rfl rfl rfl) (Gm.pure 5 rfl (by kernel_rfl) (fun _ => Y.ext rfl rfl rfl) (Gm.one' 6 rfl (by kernel_rfl) .nil ?_))
  refine N.stA rfl Try.sizeOf27 h rfl rfl (Dfv_len _) (Dfv_one _) fun h => ?_
  refine ⟨pdN, ?_⟩
  generalize setCells _ _ _ _ = w at h ⊢
  refine Gm.pure 7 rfl (by kernel_rfl) (fun _ => Y.asg (v := (vI r7.2)) rfl rfl) (Gm.end (by kernel_rfl) (Th.m (Dw.ret ?_)))
  obtain ⟨v8, hc, h⟩ := h
  exact finC2 Try.isAgg27 Try.sizeOf27 (Dfv_len _) rfl rfl hc ⟨_, rfl, h⟩
set_option maxHeartbeats 1000000 in
set_option maxRecDepth 20000 in
theorem quotient_Of {p0 : Dfv} {p1 : Sl} {w : World} {R : (Dfv × Int) → World → Prop} (h : S.quotient_Of p0 p1 w R) : Calls Try.prog 23 [(.agg (Dfv.cs p0).toArray), (Sl.val p1)].toArray w (Ret (fun x : (Dfv × Int) => .tuple #[(.agg (Dfv.cs x.1).toArray), (vI x.2)]) R) := by
  refine calls_of Try.func23 rfl rfl rfl (by kernel_rfl) rfl ?_
  unfold S.quotient_Of at h
  refine Dw.seq (Dw.region ?_)
  refine Dl.n (N.box rfl h rfl rfl fun b1 _ h => ?_)
  refine Dl.n (N.new rfl Try.zeroValue27 h (by kernel_rfl) fun b2 _ h => ?_)
  refine Dl.q (Y.asg (v := (vI 0)) rfl rfl) (Dl.nil (Th.m (Dw.seq (Dw.block (Dw.seq (Dw.region ?_))))))
  obtain ⟨v3, hcv3, h⟩ := h
  refine Dl.q (Y.ldA rfl Try.isAgg27 Try.sizeOf27 (Dfv_len _) rfl hcv3) ?_
  refine Dl.n (N.call rfl Try.call7 rfl h ?_)
  intro r4 w h
  refine Dl.q (Y.not rfl rfl) (Dl.q (Y.asg (v := (Value.bool (!r4))) rfl rfl) (Dl.nil (Th.m ?_)))
  refine Dw.cond rfl (fun hb93 => ?_) (fun hb93 => ?_)
  · replace h := M.iteT h hb93
    refine Dw.seq (Dw.region (Dl.q (Y.bld [] rfl rfl (Dfv_b _ )) ?_))
    refine Dl.n (N.stA rfl Try.sizeOf27 h rfl rfl (Dfv_len _) (Dfv_one _) fun h => ?_)
    generalize setCells _ _ _ _ = w at h ⊢
    refine Dl.q (Y.asg (v := (vI 6)) rfl rfl) (Dl.nil (Th.m (Dw.ret (InB.r (Th.r ?_)))))
    obtain ⟨v5, hc, h⟩ := h
    exact finC2 Try.isAgg27 Try.sizeOf27 (Dfv_len _) rfl rfl hc ⟨_, rfl, h⟩
  · replace h := M.iteF h hb93
    refine Dw.seq (Dw.region ?_)
    obtain ⟨v6, hcv6, h⟩ := h
    refine Dl.q (Y.ldA rfl Try.isAgg27 Try.sizeOf27 (Dfv_len _) rfl hcv6) (Dl.q (Y.mv (v := (Sl.val p1)) rfl rfl) ?_)
    refine Dl.n (N.call rfl Try.call21 rfl h ?_)
    intro r7 w h
    refine Dl.q (Y.not rfl rfl) (Dl.q (Y.asg (v := (Value.bool (!r7))) rfl rfl) (Dl.nil (Th.m ?_)))
    refine Dw.cond rfl (fun hb92 => ?_) (fun hb92 => ?_)
    · replace h := M.iteT h hb92
      refine Dw.seq (Dw.region (Dl.q (Y.bld [] rfl rfl (Dfv_b _ )) ?_))
      refine Dl.n (N.stA rfl Try.sizeOf27 h rfl rfl (Dfv_len _) (Dfv_one _) fun h => ?_)
      generalize setCells _ _ _ _ = w at h ⊢
      refine Dl.q (Y.asg (v := (vI 1)) rfl rfl) (Dl.nil (Th.m (Dw.ret (InB.r (Th.r ?_)))))
      obtain ⟨v8, hc, h⟩ := h
      exact finC2 Try.isAgg27 Try.sizeOf27 (Dfv_len _) rfl rfl hc ⟨_, rfl, h⟩
    · replace h := M.iteF h hb92
      refine Dw.skip (InB.m (Th.m (Dw.seq (Dw.region (Dl.q (Y.mv (v := (Sl.val p1)) rfl rfl) ?_)))))
      refine Dl.n (N.call rfl Try.call31 rfl h ?_)
      intro r9 w h
      refine Dl.q (Y.asg (v := (Sl.val r9)) rfl rfl) (Dl.nil (Th.m (Dw.seq (Dw.game (by kernel_rfl) ?_))))
      replace h := M.drew_un h
      generalize World.drew _ = w at h ⊢
      refine Gm.pure 0 rfl (by kernel_rfl) (fun _ => Y.fa 0 rfl Try.runUnderlying27 rfl Try.sizeOf22 (by decide) rfl rfl) ?_
      obtain ⟨v10, hcv10, h⟩ := h
      refine Gm.quiet 1 rfl (by kernel_rfl) (fun _ hw => Y.ldA rfl Try.isAgg22 Try.sizeOf22 (Ar_len _) rfl hw) hcv10 (Gm.pure 2 rfl (by kernel_rfl) (fun _ => Y.fa 256 rfl Try.runUnderlying27 rfl Try.sizeOf3 (by decide) rfl rfl) ?_)
      obtain ⟨x11, hcx11, h⟩ := h
      refine Gm.quiet 3 rfl (by kernel_rfl) (fun _ hw => Y.ld rfl Try.isAgg3 rfl hw) hcx11 (Gm.pure 4 rfl (by kernel_rfl) (fun _ => Y.fa 259 rfl Try.runUnderlying27 rfl Try.sizeOf25 (by decide) rfl rfl) ?_)
      obtain ⟨x12, hcx12, h⟩ := h
      refine Gm.quiet 5 rfl (by kernel_rfl) (fun _ hw => Y.ld rfl Try.isAgg25 rfl hw) hcx12 ?_
      obtain ⟨h, h2⟩ := h
      refine Gm.two' 6 8 rfl rfl (by kernel_rfl) (.drop (by kernel_rfl) (.keep (by kernel_rfl) (.keep (by kernel_rfl) .nil))) (.keep (by kernel_rfl) (.keep (by kernel_rfl) (.keep (by kernel_rfl) .nil))) ?_ ?_
      · refine N.call rfl Try.call48 rfl h ?_
        intro r13 w h
        obtain ⟨hp14, h⟩ := h
        obtain ⟨hp15, h⟩ := h
        refine ⟨(pdC hp14 (pdC hp15 pdN)), ?_⟩
        refine Gm.pure 7 rfl (by kernel_rfl) (fun _ => Y.bld [(0, (.agg (Ar.cs v10).toArray)), (1, (vI x11)), (4, (Sl.val r13))] rfl rfl (Dfv_b014 _ _ _ _)) (Gm.one' 8 rfl (by kernel_rfl) (.keep (by kernel_rfl) (.keep (by kernel_rfl) .nil)) (N.new rfl Try.zeroValue27 h (by kernel_rfl) fun b16 _ h => ?_))
        obtain ⟨hp17, h⟩ := h
        obtain ⟨hp18, h⟩ := h
        refine ⟨(pdC hp17 (pdC hp18 pdN)), ?_⟩
        generalize World.alloc _ _ = w at h ⊢
        refine Gm.one' 9 rfl (by kernel_rfl) (.drop (by kernel_rfl) (.drop (by kernel_rfl) .nil)) ?_
        refine N.stA rfl Try.sizeOf27 h rfl rfl (Dfv_len _) (Dfv_one _) fun h => ?_
        refine ⟨pdN, ?_⟩
        generalize setCells _ _ _ _ = w at h ⊢
        refine Gm.end (by kernel_rfl) (Th.m (Dw.seq (Dw.seq (Dw.region (Dl.q (Y.mv (v := (Sl.val r9)) rfl rfl) ?_)))))
        refine Dl.n (N.call rfl Try.call49 rfl h ?_)
        intro r19 w h
        refine Dl.q (Y.len rfl Try.runUnderlying24 rfl) (Dl.q (Y.mv (v := (vI 0)) rfl rfl) (Dl.nil (Th.m (Dw.block ?_))))
        refine Dw.loopM (fun s j r => upd (mask r j 1208925819614491735760384) 37 (vI s)) h ⟨_, eqUpd rfl (eqMask (by repeat' (first | exact Off.refl _ _ | refine Off.u rfl ?_ | refine Off.m rfl ?_)))⟩ ?_
        intro I m q20 j w h
        refine Dw.seq (Dw.region (Dl.q (Y.lss rfl rfl rfl) (Dl.nil (Th.m (Dw.seq ?_)))))
        refine Dw.cond rfl (fun hb51 => ?_) (fun hb51 => ?_)
        · replace h := M.iteT h hb51
          refine Dw.skip (Th.m (Dw.seq (Dw.block (Dw.seq (Dw.region ?_)))))
          obtain ⟨a22, a220, ha, hi, he, h⟩ := h
          refine Dl.q (Y.ix rfl Try.runUnderlying24 Try.sizeOf3 rfl rfl ha hi he) ?_
          obtain ⟨x23, hcx23, h⟩ := h
          refine Dl.q (Y.ld rfl Try.isAgg3 rfl hcx23) (Dl.q (Y.asg (v := (vI x23)) rfl rfl) (Dl.nil (Th.m (Dw.seq (Dw.region (Dl.q (Y.fa 256 rfl Try.runUnderlying27 rfl Try.sizeOf3 (by decide) rfl rfl) ?_))))))
          obtain ⟨x24, hcx24, h⟩ := h
          refine Dl.q (Y.ld rfl Try.isAgg3 rfl hcx24) ?_
          obtain ⟨s25, w, ha, h⟩ := h
          refine Dl.n (N.of rfl rfl ha ?_)
          refine Dl.q (Y.asg (v := (Sl.val s25)) rfl rfl) (Dl.nil (Th.m (Dw.seq (Dw.seq (Dw.region (Dl.q (Y.fa 257 rfl Try.runUnderlying27 rfl Try.sizeOf23 (by decide) rfl rfl) ?_))))))
          obtain ⟨x26, hcx26, h⟩ := h
          refine Dl.q (Y.ld rfl Try.isAgg23 rfl hcx26) (Dl.q (Y.mv (v := (vI x23)) rfl rfl) ?_)
          obtain ⟨a27, a270, ha, hi, he, h⟩ := h
          refine Dl.q (Y.ix rfl Try.runUnderlying23 Try.sizeOf24 rfl rfl ha hi he) ?_
          obtain ⟨x28, hcx28, h⟩ := h
          refine Dl.q (Y.ld rfl Try.isAgg24 rfl hcx28) (Dl.q (Y.len rfl Try.runUnderlying24 rfl) (Dl.q (Y.mv (v := (vI 0)) rfl rfl) (Dl.nil (Th.m (Dw.block ?_)))))
          refine Dw.loopM (fun s j r => upd (mask r j 9222246136947939328) 50 (vI s)) h ⟨_, eqUpd rfl (eqMask (by repeat' (first | exact Off.refl _ _ | refine Off.u rfl ?_ | refine Off.m rfl ?_)))⟩ ?_
          intro I m q29 j w h
          refine Dw.seq (Dw.region (Dl.q (Y.lss rfl rfl rfl) (Dl.nil (Th.m (Dw.seq ?_)))))
          refine Dw.cond rfl (fun hb48 => ?_) (fun hb48 => ?_)
          · replace h := M.iteT h hb48
            refine Dw.skip (Th.m (Dw.seq (Dw.block (Dw.seq (Dw.region (Dl.q (Y.mv (v := (vI q29)) rfl rfl) ?_))))))
            obtain ⟨a31, a310, ha, hi, he, h⟩ := h
            refine Dl.q (Y.ix rfl Try.runUnderlying24 Try.sizeOf3 rfl rfl ha hi he) ?_
            obtain ⟨x32, hcx32, h⟩ := h
            refine Dl.q (Y.ld rfl Try.isAgg3 rfl hcx32) (Dl.q (Y.asg (v := (vI q29)) rfl rfl) (Dl.q (Y.asg (v := (vI x32)) rfl rfl) (Dl.nil (Th.m (Dw.region (Dl.q (Y.mv (v := (Sl.val s25)) rfl rfl) (Dl.q (Y.mv (v := (vI q29)) rfl rfl) (Dl.q (Y.mv (v := (Sl.val r9)) rfl rfl) (Dl.q (Y.mv (v := (vI x32)) rfl rfl) ?_)))))))))
            obtain ⟨a33, a330, ha, hi, he, h⟩ := h
            refine Dl.q (Y.ix rfl Try.runUnderlying24 Try.sizeOf3 rfl rfl ha hi he) ?_
            obtain ⟨x34, hcx34, h⟩ := h
            refine Dl.q (Y.ld rfl Try.isAgg3 rfl hcx34) ?_
            obtain ⟨a35, a350, ha, hi, he, h⟩ := h
            refine Dl.q (Y.ix rfl Try.runUnderlying24 Try.sizeOf3 rfl rfl ha hi he) ?_
            refine Dl.n (N.st rfl Try.sizeOf3 h rfl rfl rfl rfl rfl fun h => ?_)
            refine Dl.nil (InB.m (Th.m (Dw.region (Dl.q (Y.add rfl rfl rfl) (Dl.q (Y.mv (v := (vI (wI (q29 + 1)))) rfl rfl) (Dl.nil ?_))))))
            exact Th.m ⟨_, h, _, eqUpd rfl (eqMask (by repeat' (first | exact Off.refl _ _ | refine Off.u rfl ?_ | refine Off.m rfl ?_)))⟩
          · replace h := M.iteF h hb48
            refine Dw.exit (Th.e (Th.e (InB.e (Th.m (Dw.seq (Dw.region (Dl.q (Y.fa 257 rfl Try.runUnderlying27 rfl Try.sizeOf23 (by decide) rfl rfl) ?_)))))))
            obtain ⟨x36, hcx36, h⟩ := h
            refine Dl.q (Y.ld rfl Try.isAgg23 rfl hcx36) (Dl.q (Y.mv (v := (Sl.val s25)) rfl rfl) ?_)
            refine Dl.n (N.mkS rfl Try.runUnderlying23 Try.sizeOf24 Try.zeroValue24 h rfl rfl rfl rfl rfl fun b37 _ h => ?_)
            obtain ⟨s38, w, ha, h⟩ := h
            refine Dl.n (N.blt rfl rfl (fun _ => rfl) ha ?_)
            refine Dl.q (Y.fa 257 rfl Try.runUnderlying27 rfl Try.sizeOf23 (by decide) rfl rfl) ?_
            refine Dl.n (N.st rfl Try.sizeOf23 h rfl rfl rfl rfl rfl fun h => ?_)
            refine Dl.nil (Th.m (Dw.game (by kernel_rfl) ?_))
            replace h := M.drew_un h
            generalize World.drew _ = w at h ⊢
            refine Gm.pure 0 rfl (by kernel_rfl) (fun _ => Y.fa 258 rfl Try.runUnderlying27 rfl Try.sizeOf24 (by decide) rfl rfl) ?_
            obtain ⟨x39, hcx39, h⟩ := h
            refine Gm.quiet 1 rfl (by kernel_rfl) (fun _ hw => Y.ld rfl Try.isAgg24 rfl hw) hcx39 (Gm.pure 2 rfl (by kernel_rfl) (fun _ => Y.fa 258 rfl Try.runUnderlying27 rfl Try.sizeOf24 (by decide) rfl rfl) ?_)
            obtain ⟨x40, hcx40, h⟩ := h
            refine Gm.quiet 3 rfl (by kernel_rfl) (fun _ hw => Y.ld rfl Try.isAgg24 rfl hw) hcx40 (Gm.pure 4 rfl (by kernel_rfl) (fun _ => Y.mv (v := (vI x23)) rfl rfl) ?_)
            obtain ⟨a41, a410, ha, hi, he, h⟩ := h
            refine Gm.pure 5 rfl (by kernel_rfl) (fun _ => Y.ix rfl Try.runUnderlying24 Try.sizeOf3 rfl rfl ha hi he) ?_
            obtain ⟨x42, hcx42, h⟩ := h
            refine Gm.quiet 6 rfl (by kernel_rfl) (fun _ hw => Y.ld rfl Try.isAgg3 rfl hw) hcx42 (Gm.one' 7 rfl (by kernel_rfl) (.drop (by kernel_rfl) (.keep (by kernel_rfl) (.keep (by kernel_rfl) .nil))) (N.mkS rfl Try.runUnderlying24 Try.sizeOf3 Try.zeroValue3 h rfl rfl rfl rfl rfl fun b43 _ h => ?_))
            obtain ⟨hp44, h⟩ := h
            obtain ⟨hp45, h⟩ := h
            refine ⟨(pdC hp44 (pdC hp45 pdN)), ?_⟩
            generalize World.alloc _ _ = w at h ⊢
            refine Gm.one' 8 rfl (by kernel_rfl) (.keep (by kernel_rfl) (.drop (by kernel_rfl) .nil)) ?_
            obtain ⟨s46, w, ha, h⟩ := h
            refine N.blt rfl rfl (fun _ => rfl) ha ?_
            obtain ⟨hp47, h⟩ := h
            refine ⟨(pdC hp47 pdN), ?_⟩
            refine Gm.pure 9 rfl (by kernel_rfl) (fun _ => Y.fa 258 rfl Try.runUnderlying27 rfl Try.sizeOf24 (by decide) rfl rfl) (Gm.one' 10 rfl (by kernel_rfl) (.drop (by kernel_rfl) .nil) ?_)
            refine N.st rfl Try.sizeOf24 h rfl rfl rfl rfl rfl fun h => ?_
            refine ⟨pdN, ?_⟩
            generalize World.setCell _ _ _ = w at h ⊢
            refine Gm.end (by kernel_rfl) (InB.m (Th.m (Dw.region (Dl.q (Y.add rfl rfl rfl) (Dl.q (Y.mv (v := (vI (wI (q20 + 1)))) rfl rfl) (Dl.nil ?_))))))
            exact Th.m ⟨_, h, _, eqUpd rfl (eqMask (by repeat' (first | exact Off.refl _ _ | refine Off.u rfl ?_ | refine Off.m rfl ?_)))⟩
        · replace h := M.iteF h hb51
          refine Dw.exit (Th.e (Th.e (InB.e (Th.m (Dw.seq (Dw.region ?_))))))
          obtain ⟨v49, hcv49, h⟩ := h
          refine Dl.q (Y.ldA rfl Try.isAgg27 Try.sizeOf27 (Dfv_len _) rfl hcv49) ?_
          refine Dl.n (N.stA rfl Try.sizeOf27 h rfl rfl (Dfv_len _) (Dfv_one _) fun h => ?_)
          generalize setCells _ _ _ _ = w at h ⊢
          refine Dl.q (Y.asg (v := (vI 0)) rfl rfl) (Dl.nil (Th.m (Dw.ret ?_)))
          obtain ⟨v50, hc, h⟩ := h
          exact finC2 Try.isAgg27 Try.sizeOf27 (Dfv_len _) rfl rfl hc ⟨_, rfl, h⟩
      · replace h := h2
        refine N.new rfl Try.zeroValue27 h (by kernel_rfl) fun b52 _ h => ?_
        obtain ⟨hp53, h⟩ := h
        obtain ⟨hp54, h⟩ := h
        obtain ⟨hp55, h⟩ := h
        refine ⟨(pdC hp53 (pdC hp54 (pdC hp55 pdN))), ?_⟩
        generalize World.alloc _ _ = w at h ⊢
        refine Gm.one' 6 rfl (by kernel_rfl) (.drop (by kernel_rfl) (.keep (by kernel_rfl) (.keep (by kernel_rfl) .nil))) (N.call rfl Try.call48 rfl h ?_)
        intro r56 w h
        obtain ⟨hp57, h⟩ := h
        obtain ⟨hp58, h⟩ := h
        refine ⟨(pdC hp57 (pdC hp58 pdN)), ?_⟩
        refine Gm.pure 7 rfl (by kernel_rfl) (fun _ => Y.bld [(0, (.agg (Ar.cs v10).toArray)), (1, (vI x11)), (4, (Sl.val r56))] rfl rfl (Dfv_b014 _ _ _ _)) (Gm.one' 9 rfl (by kernel_rfl) (.drop (by kernel_rfl) (.drop (by kernel_rfl) .nil)) ?_)
        refine N.stA rfl Try.sizeOf27 h rfl rfl (Dfv_len _) (Dfv_one _) fun h => ?_
        refine ⟨pdN, ?_⟩
        generalize setCells _ _ _ _ = w at h ⊢
        refine Gm.end (by kernel_rfl) (Th.m (Dw.seq (Dw.seq (Dw.region (Dl.q (Y.mv (v := (Sl.val r9)) rfl rfl) ?_)))))
        refine Dl.n (N.call rfl Try.call49 rfl h ?_)
        intro r59 w h
        refine Dl.q (Y.len rfl Try.runUnderlying24 rfl) (Dl.q (Y.mv (v := (vI 0)) rfl rfl) (Dl.nil (Th.m (Dw.block ?_))))
        refine Dw.loopM (fun s j r => upd (mask r j 1208925819614491735760384) 37 (vI s)) h ⟨_, eqUpd rfl (eqMask (by repeat' (first | exact Off.refl _ _ | refine Off.u rfl ?_ | refine Off.m rfl ?_)))⟩ ?_
        intro I m q60 j w h
        refine Dw.seq (Dw.region (Dl.q (Y.lss rfl rfl rfl) (Dl.nil (Th.m (Dw.seq ?_)))))
        refine Dw.cond rfl (fun hb91 => ?_) (fun hb91 => ?_)
        · replace h := M.iteT h hb91
          refine Dw.skip (Th.m (Dw.seq (Dw.block (Dw.seq (Dw.region ?_)))))
          obtain ⟨a62, a620, ha, hi, he, h⟩ := h
          refine Dl.q (Y.ix rfl Try.runUnderlying24 Try.sizeOf3 rfl rfl ha hi he) ?_
          obtain ⟨x63, hcx63, h⟩ := h
          refine Dl.q (Y.ld rfl Try.isAgg3 rfl hcx63) (Dl.q (Y.asg (v := (vI x63)) rfl rfl) (Dl.nil (Th.m (Dw.seq (Dw.region (Dl.q (Y.fa 256 rfl Try.runUnderlying27 rfl Try.sizeOf3 (by decide) rfl rfl) ?_))))))
          obtain ⟨x64, hcx64, h⟩ := h
          refine Dl.q (Y.ld rfl Try.isAgg3 rfl hcx64) ?_
          obtain ⟨s65, w, ha, h⟩ := h
          refine Dl.n (N.of rfl rfl ha ?_)
          refine Dl.q (Y.asg (v := (Sl.val s65)) rfl rfl) (Dl.nil (Th.m (Dw.seq (Dw.seq (Dw.region (Dl.q (Y.fa 257 rfl Try.runUnderlying27 rfl Try.sizeOf23 (by decide) rfl rfl) ?_))))))
          obtain ⟨x66, hcx66, h⟩ := h
          refine Dl.q (Y.ld rfl Try.isAgg23 rfl hcx66) (Dl.q (Y.mv (v := (vI x63)) rfl rfl) ?_)
          obtain ⟨a67, a670, ha, hi, he, h⟩ := h
          refine Dl.q (Y.ix rfl Try.runUnderlying23 Try.sizeOf24 rfl rfl ha hi he) ?_
          obtain ⟨x68, hcx68, h⟩ := h
          refine Dl.q (Y.ld rfl Try.isAgg24 rfl hcx68) (Dl.q (Y.len rfl Try.runUnderlying24 rfl) (Dl.q (Y.mv (v := (vI 0)) rfl rfl) (Dl.nil (Th.m (Dw.block ?_)))))
          refine Dw.loopM (fun s j r => upd (mask r j 9222246136947939328) 50 (vI s)) h ⟨_, eqUpd rfl (eqMask (by repeat' (first | exact Off.refl _ _ | refine Off.u rfl ?_ | refine Off.m rfl ?_)))⟩ ?_
          intro I m q69 j w h
          refine Dw.seq (Dw.region (Dl.q (Y.lss rfl rfl rfl) (Dl.nil (Th.m (Dw.seq ?_)))))
          refine Dw.cond rfl (fun hb88 => ?_) (fun hb88 => ?_)
          · replace h := M.iteT h hb88
            refine Dw.skip (Th.m (Dw.seq (Dw.block (Dw.seq (Dw.region (Dl.q (Y.mv (v := (vI q69)) rfl rfl) ?_))))))
            obtain ⟨a71, a710, ha, hi, he, h⟩ := h
            refine Dl.q (Y.ix rfl Try.runUnderlying24 Try.sizeOf3 rfl rfl ha hi he) ?_
            obtain ⟨x72, hcx72, h⟩ := h
            refine Dl.q (Y.ld rfl Try.isAgg3 rfl hcx72) (Dl.q (Y.asg (v := (vI q69)) rfl rfl) (Dl.q (Y.asg (v := (vI x72)) rfl rfl) (Dl.nil (Th.m (Dw.region (Dl.q (Y.mv (v := (Sl.val s65)) rfl rfl) (Dl.q (Y.mv (v := (vI q69)) rfl rfl) (Dl.q (Y.mv (v := (Sl.val r9)) rfl rfl) (Dl.q (Y.mv (v := (vI x72)) rfl rfl) ?_)))))))))
            obtain ⟨a73, a730, ha, hi, he, h⟩ := h
            refine Dl.q (Y.ix rfl Try.runUnderlying24 Try.sizeOf3 rfl rfl ha hi he) ?_
            obtain ⟨x74, hcx74, h⟩ := h
            refine Dl.q (Y.ld rfl Try.isAgg3 rfl hcx74) ?_
            obtain ⟨a75, a750, ha, hi, he, h⟩ := h
            refine Dl.q (Y.ix rfl Try.runUnderlying24 Try.sizeOf3 rfl rfl ha hi he) ?_
            refine Dl.n (N.st rfl Try.sizeOf3 h rfl rfl rfl rfl rfl fun h => ?_)
            refine Dl.nil (InB.m (Th.m (Dw.region (Dl.q (Y.add rfl rfl rfl) (Dl.q (Y.mv (v := (vI (wI (q69 + 1)))) rfl rfl) (Dl.nil ?_))))))
            exact Th.m ⟨_, h, _, eqUpd rfl (eqMask (by repeat' (first | exact Off.refl _ _ | refine Off.u rfl ?_ | refine Off.m rfl ?_)))⟩
          · replace h := M.iteF h hb88
            refine Dw.exit (Th.e (Th.e (InB.e (Th.m (Dw.seq (Dw.region (Dl.q (Y.fa 257 rfl Try.runUnderlying27 rfl Try.sizeOf23 (by decide) rfl rfl) ?_)))))))
            obtain ⟨x76, hcx76, h⟩ := h
            refine Dl.q (Y.ld rfl Try.isAgg23 rfl hcx76) (Dl.q (Y.mv (v := (Sl.val s65)) rfl rfl) ?_)
            refine Dl.n (N.mkS rfl Try.runUnderlying23 Try.sizeOf24 Try.zeroValue24 h rfl rfl rfl rfl rfl fun b77 _ h => ?_)
            obtain ⟨s78, w, ha, h⟩ := h
            refine Dl.n (N.blt rfl rfl (fun _ => rfl) ha ?_)
            refine Dl.q (Y.fa 257 rfl Try.runUnderlying27 rfl Try.sizeOf23 (by decide) rfl rfl) ?_
            refine Dl.n (N.st rfl Try.sizeOf23 h rfl rfl rfl rfl rfl fun h => ?_)
            refine Dl.nil (Th.m (Dw.game (by kernel_rfl) ?_))
            replace h := M.drew_un h
            generalize World.drew _ = w at h ⊢
            refine Gm.pure 0 rfl (by kernel_rfl) (fun _ => Y.fa 258 rfl Try.runUnderlying27 rfl Try.sizeOf24 (by decide) rfl rfl) ?_
            obtain ⟨x79, hcx79, h⟩ := h
            refine Gm.quiet 1 rfl (by kernel_rfl) (fun _ hw => Y.ld rfl Try.isAgg24 rfl hw) hcx79 (Gm.pure 2 rfl (by kernel_rfl) (fun _ => Y.fa 258 rfl Try.runUnderlying27 rfl Try.sizeOf24 (by decide) rfl rfl) ?_)
            obtain ⟨x80, hcx80, h⟩ := h
            refine Gm.quiet 3 rfl (by kernel_rfl) (fun _ hw => Y.ld rfl Try.isAgg24 rfl hw) hcx80 (Gm.pure 4 rfl (by kernel_rfl) (fun _ => Y.mv (v := (vI x63)) rfl rfl) ?_)
            obtain ⟨a81, a810, ha, hi, he, h⟩ := h
            refine Gm.pure 5 rfl (by kernel_rfl) (fun _ => Y.ix rfl Try.runUnderlying24 Try.sizeOf3 rfl rfl ha hi he) ?_
            obtain ⟨x82, hcx82, h⟩ := h
            refine Gm.quiet 6 rfl (by kernel_rfl) (fun _ hw => Y.ld rfl Try.isAgg3 rfl hw) hcx82 (Gm.one' 7 rfl (by kernel_rfl) (.drop (by kernel_rfl) (.keep (by kernel_rfl) (.keep (by kernel_rfl) .nil))) (N.mkS rfl Try.runUnderlying24 Try.sizeOf3 Try.zeroValue3 h rfl rfl rfl rfl rfl fun b83 _ h => ?_))
            obtain ⟨hp84, h⟩ := h
            obtain ⟨hp85, h⟩ := h
            refine ⟨(pdC hp84 (pdC hp85 pdN)), ?_⟩
            generalize World.alloc _ _ = w at h ⊢
            refine Gm.one' 8 rfl (by kernel_rfl) (.keep (by kernel_rfl) (.drop (by kernel_rfl) .nil)) ?_
            obtain ⟨s86, w, ha, h⟩ := h
            refine N.blt rfl rfl (fun _ => rfl) ha ?_
            obtain ⟨hp87, h⟩ := h
            refine ⟨(pdC hp87 pdN), ?_⟩
            refine Gm.pure 9 rfl (by kernel_rfl) (fun _ => Y.fa 258 rfl Try.runUnderlying27 rfl Try.sizeOf24 (by decide) rfl rfl) (Gm.one' 10 rfl (by kernel_rfl) (.drop (by kernel_rfl) .nil) ?_)
            refine N.st rfl Try.sizeOf24 h rfl rfl rfl rfl rfl fun h => ?_
            refine ⟨pdN, ?_⟩
            generalize World.setCell _ _ _ = w at h ⊢
            refine Gm.end (by kernel_rfl) (InB.m (Th.m (Dw.region (Dl.q (Y.add rfl rfl rfl) (Dl.q (Y.mv (v := (vI (wI (q60 + 1)))) rfl rfl) (Dl.nil ?_))))))
            exact Th.m ⟨_, h, _, eqUpd rfl (eqMask (by repeat' (first | exact Off.refl _ _ | refine Off.u rfl ?_ | refine Off.m rfl ?_)))⟩
        · replace h := M.iteF h hb91
          refine Dw.exit (Th.e (Th.e (InB.e (Th.m (Dw.seq (Dw.region ?_))))))
          obtain ⟨v89, hcv89, h⟩ := h
          refine Dl.q (Y.ldA rfl Try.isAgg27 Try.sizeOf27 (Dfv_len _) rfl hcv89) ?_
          refine Dl.n (N.stA rfl Try.sizeOf27 h rfl rfl (Dfv_len _) (Dfv_one _) fun h => ?_)
          generalize setCells _ _ _ _ = w at h ⊢
          refine Dl.q (Y.asg (v := (vI 0)) rfl rfl) (Dl.nil (Th.m (Dw.ret ?_)))
          obtain ⟨v90, hc, h⟩ := h
          exact finC2 Try.isAgg27 Try.sizeOf27 (Dfv_len _) rfl rfl hc ⟨_, rfl, h⟩
set_option maxHeartbeats 1000000 in
set_option maxRecDepth 20000 in
theorem parts_Right {p0 : (Nat → Int)} {p1 : Int} {w : World} {R : Bool → World → Prop} (h : S.parts_Right p0 p1 w R) : Calls Try.prog 24 [(.agg (Ar.cs p0).toArray), (vI p1)].toArray w (Ret Value.bool R) := by
  refine calls_of Try.func24 rfl rfl rfl (by kernel_rfl) rfl ?_
  unfold S.parts_Right at h
  refine Dw.seq (Dw.region ?_)
  refine Dl.n (N.box rfl h rfl rfl fun b1 _ h => ?_)
  refine Dl.q (Y.asg (v := (Value.bool false)) rfl rfl) (Dl.nil (Th.m (Dw.seq (Dw.region ?_))))
  obtain ⟨v2, hcv2, h⟩ := h
  refine Dl.q (Y.ldA rfl Try.isAgg22 Try.sizeOf22 (Ar_len _) rfl hcv2) ?_
  refine Dl.n (N.call rfl Try.call50 rfl h ?_)
  intro r3 w h
  refine Dl.q (Y.mv (v := (.tuple #[(.agg (Ar.cs r3.1).toArray), (vI r3.2)])) rfl rfl) (Dl.q (Y.ext rfl rfl rfl) (Dl.q (Y.ext rfl rfl rfl) ?_))
  refine Dl.n (N.new rfl Try.zeroValue22 h (by kernel_rfl) fun b4 _ h => ?_)
  refine Dl.n (N.stA rfl Try.sizeOf22 h rfl rfl (Ar_len _) (Ar_one _) fun h => ?_)
  generalize setCells _ _ _ _ = w at h ⊢
  refine Dl.q (Y.asg (v := (vI r3.2)) rfl rfl) (Dl.nil (Th.m (Dw.seq (Dw.region ?_))))
  obtain ⟨v5, hcv5, h⟩ := h
  refine Dl.q (Y.ldA rfl Try.isAgg22 Try.sizeOf22 (Ar_len _) rfl hcv5) ?_
  obtain ⟨v6, hcv6, h⟩ := h
  refine Dl.q (Y.ldA rfl Try.isAgg22 Try.sizeOf22 (Ar_len _) rfl hcv6) ?_
  obtain ⟨x7, hcx7, h⟩ := h
  refine Dl.q (Y.eqA rfl rfl rfl hcx7) (Dl.q (Y.mv (v := (Value.bool x7)) rfl rfl) ?_)
  refine M.split h (fun hb8 h => ?_) (fun hb8 h => ?_)
  · refine Dl.q (Y.mv (v := (vI r3.2)) (wantG rfl rfl hb8) rfl) (Dl.q (Y.mv (v := (vI p1)) (wantG rfl rfl hb8) rfl) (Dl.q (Y.eqI (wantG rfl rfl hb8) rfl rfl) (Dl.q (Y.pickT (v := (Value.bool (decide (r3.2 = p1)))) rfl rfl hb8 rfl) (Dl.q (Y.asg (v := (Value.bool (decide (r3.2 = p1)))) rfl rfl) (Dl.nil (Th.m (Dw.ret ?_)))))))
    exact fin1 rfl ⟨_, rfl, h⟩
  · refine Dl.q (Y.skip (unwantG rfl rfl hb8)) (Dl.q (Y.skip (unwantG rfl rfl hb8)) (Dl.q (Y.skip (unwantG rfl rfl hb8)) (Dl.q (Y.pickF (v := (Value.bool false)) rfl rfl hb8 rfl) (Dl.q (Y.asg (v := (Value.bool false)) rfl rfl) (Dl.nil (Th.m (Dw.ret ?_)))))))
    exact fin1 rfl ⟨_, rfl, h⟩
set_option maxHeartbeats 1000000 in
set_option maxRecDepth 20000 in
theorem dfa_names {p0 : Sl} {w : World} {R : Bool → World → Prop} (h : S.dfa_names p0 w R) : Calls Try.prog 25 [(Sl.val p0)].toArray w (Ret Value.bool R) := by
  refine calls_of Try.func25 rfl rfl rfl (by kernel_rfl) rfl ?_
  unfold S.dfa_names at h
  refine Dw.seq (Dw.region (Dl.q (Y.asg (v := (Value.bool false)) rfl rfl) (Dl.nil (Th.m (Dw.seq (Dw.seq (Dw.region (Dl.q (Y.mv (v := (Sl.val p0)) rfl rfl) (Dl.q (Y.len rfl Try.runUnderlying25 rfl) (Dl.q (Y.gtr rfl rfl rfl) (Dl.nil (Th.m ?_))))))))))))
  refine Dw.cond rfl (fun hb13 => ?_) (fun hb13 => ?_)
  · replace h := M.iteT h hb13
    refine Dw.seq (Dw.region (Dl.q (Y.asg (v := (Value.bool false)) rfl rfl) (Dl.nil (Th.m (Dw.ret (Th.r ?_))))))
    exact fin1 rfl ⟨_, rfl, h⟩
  · replace h := M.iteF h hb13
    refine Dw.skip (Th.m (Dw.seq (Dw.seq (Dw.region (Dl.q (Y.mv (v := (Sl.val p0)) rfl rfl) (Dl.q (Y.len rfl Try.runUnderlying25 rfl) (Dl.q (Y.mv (v := (vI 0)) rfl rfl) (Dl.nil (Th.m (Dw.block ?_))))))))))
    refine Dw.loopM (fun s j r => upd (mask r j 67107868) 10 (vI s)) h ⟨_, eqUpd rfl (eqMask (by repeat' (first | exact Off.refl _ _ | refine Off.u rfl ?_ | refine Off.m rfl ?_)))⟩ ?_
    intro I m q1 j w h
    refine Dw.seq (Dw.region (Dl.q (Y.lss rfl rfl rfl) (Dl.nil (Th.m (Dw.seq ?_)))))
    refine Dw.cond rfl (fun hb12 => ?_) (fun hb12 => ?_)
    · replace h := M.iteT h hb12
      refine Dw.skip (Th.m (Dw.seq (Dw.block (Dw.seq (Dw.region (Dl.q (Y.mv (v := (vI q1)) rfl rfl) ?_))))))
      obtain ⟨a3, a30, ha, hi, he, h⟩ := h
      refine Dl.q (Y.ix rfl Try.runUnderlying25 Try.sizeOf9 rfl rfl ha hi he) ?_
      obtain ⟨x4, hcx4, h⟩ := h
      refine Dl.q (Y.ld rfl Try.isAgg9 rfl hcx4) (Dl.q (Y.asg (v := (vI q1)) rfl rfl) (Dl.q (Y.asg (v := (Value.string x4)) rfl rfl) (Dl.nil (Th.m ?_))))
      refine Dw.joinM (fun s j r => upd (mask r j 33521664) 24 (Value.bool s)) h (fun C h => ?_) (fun q10 j w h => ?_)
      · refine Dw.region (Dl.q (Y.mv (v := (Value.string x4)) rfl rfl) ?_)
        refine Dl.n (N.call rfl Try.call51 rfl h ?_)
        intro r6 w h
        refine Dl.q (Y.not rfl rfl) (Dl.q (Y.mv (v := (Value.bool (!r6))) rfl rfl) ?_)
        refine M.split h (fun hb7 h => ?_) (fun hb7 h => ?_)
        · refine Dl.q (Y.skip (unwantG rfl rfl hb7)) (Dl.q (Y.skip (unwantG rfl rfl hb7)) (Dl.q (Y.skip (unwantG rfl rfl hb7)) (Dl.q (Y.skip (unwantG rfl rfl hb7)) (Dl.q (Y.skip (unwantG rfl rfl hb7)) (Dl.q (Y.pickT (v := (Value.bool true)) rfl rfl hb7 rfl) (Dl.nil ?_))))))
          exact Th.m ⟨_, h, _, eqUpd rfl (eqMask (by repeat' (first | exact Off.refl _ _ | refine Off.u rfl ?_ | refine Off.m rfl ?_)))⟩
        · refine Dl.q (Y.mv (v := (Sl.val p0)) (wantG rfl rfl hb7) rfl) (Dl.q (Y.mv (v := (vI q1)) (wantG rfl rfl hb7) rfl) ?_)
          obtain ⟨s8, hi, he, h⟩ := h
          refine Dl.q (Y.cut010 (wantG rfl rfl hb7) Try.runUnderlying25 rfl Try.sizeOf9 rfl hi he) (Dl.q (Y.mv (v := (Value.string x4)) (wantG rfl rfl hb7) rfl) ?_)
          refine Dl.n (N.call (wantG rfl rfl hb7) Try.call52 rfl h ?_)
          intro r9 w h
          refine Dl.q (Y.pickF (v := (Value.bool r9)) rfl rfl hb7 rfl) (Dl.nil ?_)
          exact Th.m ⟨_, h, _, eqUpd rfl (eqMask (by repeat' (first | exact Off.refl _ _ | refine Off.u rfl ?_ | refine Off.m rfl ?_)))⟩
      · refine Dw.cond rfl (fun hb11 => ?_) (fun hb11 => ?_)
        · replace h := M.iteT h hb11
          refine Dw.seq (Dw.region (Dl.q (Y.asg (v := (Value.bool false)) rfl rfl) (Dl.nil (Th.m (Dw.ret (InB.r (Th.r (Th.r (InB.r (Th.r ?_))))))))))
          exact fin1 rfl ⟨_, rfl, h⟩
        · replace h := M.iteF h hb11
          refine Dw.skip (InB.m (Th.m (Dw.region (Dl.q (Y.add rfl rfl rfl) (Dl.q (Y.mv (v := (vI (wI (q1 + 1)))) rfl rfl) (Dl.nil ?_))))))
          exact Th.m ⟨_, h, _, eqUpd rfl (eqMask (by repeat' (first | exact Off.refl _ _ | refine Off.u rfl ?_ | refine Off.m rfl ?_)))⟩
    · replace h := M.iteF h hb12
      refine Dw.exit (Th.e (Th.e (InB.e (Th.m (Dw.seq (Dw.region (Dl.q (Y.asg (v := (Value.bool true)) rfl rfl) (Dl.nil (Th.m (Dw.ret ?_))))))))))
      exact fin1 rfl ⟨_, rfl, h⟩
set_option maxHeartbeats 1000000 in
set_option maxRecDepth 20000 in
theorem dfa_rows {p0 : Dfv} {w : World} {R : Bool → World → Prop} (h : S.dfa_rows p0 w R) : Calls Try.prog 26 [(.agg (Dfv.cs p0).toArray)].toArray w (Ret Value.bool R) := by
  refine calls_of Try.func26 rfl rfl rfl (by kernel_rfl) rfl ?_
  unfold S.dfa_rows at h
  refine Dw.seq (Dw.region ?_)
  refine Dl.n (N.box rfl h rfl rfl fun b1 _ h => ?_)
  refine Dl.q (Y.asg (v := (Value.bool false)) rfl rfl) (Dl.nil (Th.m (Dw.seq (Dw.region (Dl.q (Y.fa 258 rfl Try.runUnderlying27 rfl Try.sizeOf24 (by decide) rfl rfl) ?_)))))
  obtain ⟨x2, hcx2, h⟩ := h
  refine Dl.q (Y.ld rfl Try.isAgg24 rfl hcx2) (Dl.q (Y.len rfl Try.runUnderlying24 rfl) (Dl.q (Y.asg (v := (vI (x2.len : Int))) rfl rfl) (Dl.nil (Th.m (Dw.seq (Dw.seq (Dw.region (Dl.q (Y.fa 257 rfl Try.runUnderlying27 rfl Try.sizeOf23 (by decide) rfl rfl) ?_))))))))
  obtain ⟨x3, hcx3, h⟩ := h
  refine Dl.q (Y.ld rfl Try.isAgg23 rfl hcx3) (Dl.q (Y.len rfl Try.runUnderlying23 rfl) (Dl.q (Y.mv (v := (vI 0)) rfl rfl) (Dl.nil (Th.m (Dw.block ?_)))))
  refine Dw.loopM (fun s j r => upd (mask r j 288230376151695540) 14 (vI s)) h ⟨_, eqUpd rfl (eqMask (by repeat' (first | exact Off.refl _ _ | refine Off.u rfl ?_ | refine Off.m rfl ?_)))⟩ ?_
  intro I m q4 j w h
  refine Dw.seq (Dw.region (Dl.q (Y.lss rfl rfl rfl) (Dl.nil (Th.m (Dw.seq ?_)))))
  refine Dw.cond rfl (fun hb30 => ?_) (fun hb30 => ?_)
  · replace h := M.iteT h hb30
    refine Dw.skip (Th.m (Dw.seq (Dw.block (Dw.seq (Dw.region (Dl.q (Y.mv (v := (vI q4)) rfl rfl) ?_))))))
    obtain ⟨a6, a60, ha, hi, he, h⟩ := h
    refine Dl.q (Y.ix rfl Try.runUnderlying23 Try.sizeOf24 rfl rfl ha hi he) ?_
    obtain ⟨x7, hcx7, h⟩ := h
    refine Dl.q (Y.ld rfl Try.isAgg24 rfl hcx7) (Dl.q (Y.asg (v := (vI q4)) rfl rfl) (Dl.q (Y.asg (v := (Sl.val x7)) rfl rfl) (Dl.nil (Th.m (Dw.seq ?_)))))
    refine Dw.joinM (fun s j r => upd (mask r j 8796092497920) 42 (Value.bool s)) h (fun C h => ?_) (fun q19 j w h => ?_)
    · refine Dw.game (by kernel_rfl) ?_
      replace h := M.drew_un h
      generalize World.drew _ = w at h ⊢
      refine Gm.pure 0 rfl (by kernel_rfl) (fun _ => Y.mv (v := (Sl.val x7)) rfl rfl) (Gm.pure 1 rfl (by kernel_rfl) (fun _ => Y.len rfl Try.runUnderlying24 rfl) (Gm.pure 2 rfl (by kernel_rfl) (fun _ => Y.fa 256 rfl Try.runUnderlying27 rfl Try.sizeOf3 (by decide) rfl rfl) ?_))
      obtain ⟨x9, hcx9, h⟩ := h
      refine Gm.quiet 3 rfl (by kernel_rfl) (fun _ hw => Y.ld rfl Try.isAgg3 rfl hw) hcx9 (Gm.pure 4 rfl (by kernel_rfl) (fun _ => Y.neI rfl rfl rfl) (Gm.pure 5 rfl (by kernel_rfl) (fun _ => Y.mv (v := (Value.bool (!decide ((x7.len : Int) = x9)))) rfl rfl) ?_))
      refine M.split h (fun hb10 h => ?_) (fun hb10 h => ?_)
      · refine Gm.pure 6 rfl (by kernel_rfl) (fun _ => Y.skip (unwantG rfl rfl hb10)) (Gm.pure 7 rfl (by kernel_rfl) (fun _ => Y.skip (unwantG rfl rfl hb10)) (Gm.pure 8 rfl (by kernel_rfl) (fun _ => Y.skip (unwantG rfl rfl hb10)) (Gm.pure 9 rfl (by kernel_rfl) (fun _ => Y.skip (unwantG rfl rfl hb10)) (Gm.pure 10 rfl (by kernel_rfl) (fun _ => Y.skip (unwantG rfl rfl hb10)) (Gm.pure 11 rfl (by kernel_rfl) (fun _ => Y.skip (unwantG rfl rfl hb10)) (Gm.pure 12 rfl (by kernel_rfl) (fun _ => Y.pickT (v := (Value.bool true)) rfl rfl hb10 rfl) (Gm.pure 13 rfl (by kernel_rfl) (fun _ => Y.mv (v := (Value.bool true)) rfl rfl) (Gm.pure 14 rfl (by kernel_rfl) (fun _ => Y.skip (unwantG rfl rfl rfl)) (Gm.pure 15 rfl (by kernel_rfl) (fun _ => Y.skip (unwantG rfl rfl rfl)) (Gm.pure 16 rfl (by kernel_rfl) (fun _ => Y.skip (unwantG rfl rfl rfl)) (Gm.pure 17 rfl (by kernel_rfl) (fun _ => Y.skip (unwantG rfl rfl rfl)) (Gm.pure 18 rfl (by kernel_rfl) (fun _ => Y.skip (unwantG rfl rfl rfl)) ?_))))))))))))
        refine Gm.pure 19 rfl (by kernel_rfl) (fun _ => Y.skip (unwantG rfl rfl rfl)) (Gm.pure 20 rfl (by kernel_rfl) (fun _ => Y.skip (unwantG rfl rfl rfl)) (Gm.pure 21 rfl (by kernel_rfl) (fun _ => Y.skip (unwantG rfl rfl rfl)) (Gm.pure 22 rfl (by kernel_rfl) (fun _ => Y.skip (unwantG rfl rfl rfl)) (Gm.pure 23 rfl (by kernel_rfl) (fun _ => Y.pickT (v := (Value.bool true)) rfl rfl rfl rfl) (Gm.end (by kernel_rfl) ?_)))))
        exact Th.m ⟨_, h, _, eqUpd rfl (eqMask (by repeat' (first | exact Off.refl _ _ | refine Off.u rfl ?_ | refine Off.m rfl ?_)))⟩
      · refine Gm.pure 6 rfl (by kernel_rfl) (fun _ => Y.fa 258 (wantG rfl rfl hb10) Try.runUnderlying27 rfl Try.sizeOf24 (by decide) rfl rfl) ?_
        obtain ⟨x11, hcx11, h⟩ := h
        refine Gm.quiet 7 rfl (by kernel_rfl) (fun _ hw => Y.ld (wantG rfl rfl hb10) Try.isAgg24 rfl hw) hcx11 (Gm.pure 8 rfl (by kernel_rfl) (fun _ => Y.mv (v := (vI q4)) (wantG rfl rfl hb10) rfl) ?_)
        obtain ⟨a12, a120, ha, hi, he, h⟩ := h
        refine Gm.pure 9 rfl (by kernel_rfl) (fun _ => Y.ix (wantG rfl rfl hb10) Try.runUnderlying24 Try.sizeOf3 rfl rfl ha hi he) ?_
        obtain ⟨x13, hcx13, h⟩ := h
        refine Gm.quiet 10 rfl (by kernel_rfl) (fun _ hw => Y.ld (wantG rfl rfl hb10) Try.isAgg3 rfl hw) hcx13 (Gm.pure 11 rfl (by kernel_rfl) (fun _ => Y.lss (wantG rfl rfl hb10) rfl rfl) (Gm.pure 12 rfl (by kernel_rfl) (fun _ => Y.pickF (v := (Value.bool (decide (x13 < 0)))) rfl rfl hb10 rfl) (Gm.pure 13 rfl (by kernel_rfl) (fun _ => Y.mv (v := (Value.bool (decide (x13 < 0)))) rfl rfl) ?_)))
        refine M.split h (fun hb14 h => ?_) (fun hb14 h => ?_)
        · refine Gm.pure 14 rfl (by kernel_rfl) (fun _ => Y.skip (unwantG rfl rfl hb14)) (Gm.pure 15 rfl (by kernel_rfl) (fun _ => Y.skip (unwantG rfl rfl hb14)) (Gm.pure 16 rfl (by kernel_rfl) (fun _ => Y.skip (unwantG rfl rfl hb14)) (Gm.pure 17 rfl (by kernel_rfl) (fun _ => Y.skip (unwantG rfl rfl hb14)) (Gm.pure 18 rfl (by kernel_rfl) (fun _ => Y.skip (unwantG rfl rfl hb14)) (Gm.pure 19 rfl (by kernel_rfl) (fun _ => Y.skip (unwantG rfl rfl hb14)) (Gm.pure 20 rfl (by kernel_rfl) (fun _ => Y.skip (unwantG rfl rfl hb14)) (Gm.pure 21 rfl (by kernel_rfl) (fun _ => Y.skip (unwantG rfl rfl hb14)) (Gm.pure 22 rfl (by kernel_rfl) (fun _ => Y.skip (unwantG rfl rfl hb14)) (Gm.pure 23 rfl (by kernel_rfl) (fun _ => Y.pickT (v := (Value.bool true)) rfl rfl hb14 rfl) (Gm.end (by kernel_rfl) ?_))))))))))
          exact Th.m ⟨_, h, _, eqUpd rfl (eqMask (by repeat' (first | exact Off.refl _ _ | refine Off.u rfl ?_ | refine Off.m rfl ?_)))⟩
        · refine Gm.pure 14 rfl (by kernel_rfl) (fun _ => Y.fa 258 (wantG rfl rfl hb14) Try.runUnderlying27 rfl Try.sizeOf24 (by decide) rfl rfl) ?_
          obtain ⟨x15, hcx15, h⟩ := h
          refine Gm.quiet 15 rfl (by kernel_rfl) (fun _ hw => Y.ld (wantG rfl rfl hb14) Try.isAgg24 rfl hw) hcx15 (Gm.pure 16 rfl (by kernel_rfl) (fun _ => Y.mv (v := (vI q4)) (wantG rfl rfl hb14) rfl) ?_)
          obtain ⟨a16, a160, ha, hi, he, h⟩ := h
          refine Gm.pure 17 rfl (by kernel_rfl) (fun _ => Y.ix (wantG rfl rfl hb14) Try.runUnderlying24 Try.sizeOf3 rfl rfl ha hi he) ?_
          obtain ⟨x17, hcx17, h⟩ := h
          refine Gm.quiet 18 rfl (by kernel_rfl) (fun _ hw => Y.ld (wantG rfl rfl hb14) Try.isAgg3 rfl hw) hcx17 (Gm.pure 19 rfl (by kernel_rfl) (fun _ => Y.fa 259 (wantG rfl rfl hb14) Try.runUnderlying27 rfl Try.sizeOf25 (by decide) rfl rfl) ?_)
          obtain ⟨x18, hcx18, h⟩ := h
          refine Gm.quiet 20 rfl (by kernel_rfl) (fun _ hw => Y.ld (wantG rfl rfl hb14) Try.isAgg25 rfl hw) hcx18 (Gm.pure 21 rfl (by kernel_rfl) (fun _ => Y.len (wantG rfl rfl hb14) Try.runUnderlying25 rfl) (Gm.pure 22 rfl (by kernel_rfl) (fun _ => Y.gtr (wantG rfl rfl hb14) rfl rfl) (Gm.pure 23 rfl (by kernel_rfl) (fun _ => Y.pickF (v := (Value.bool (decide ((x18.len : Int) < x17)))) rfl rfl hb14 rfl) (Gm.end (by kernel_rfl) ?_))))
          exact Th.m ⟨_, h, _, eqUpd rfl (eqMask (by repeat' (first | exact Off.refl _ _ | refine Off.u rfl ?_ | refine Off.m rfl ?_)))⟩
    · refine Dw.cond rfl (fun hb29 => ?_) (fun hb29 => ?_)
      · replace h := M.iteT h hb29
        refine Dw.seq (Dw.region (Dl.q (Y.asg (v := (Value.bool false)) rfl rfl) (Dl.nil (Th.m (Dw.ret (Th.r (InB.r (Th.r (Th.r (InB.r (Th.r ?_)))))))))))
        exact fin1 rfl ⟨_, rfl, h⟩
      · replace h := M.iteF h hb29
        refine Dw.skip (Th.m (Dw.seq (Dw.region (Dl.q (Y.mv (v := (Sl.val x7)) rfl rfl) (Dl.q (Y.len rfl Try.runUnderlying24 rfl) (Dl.q (Y.mv (v := (vI 0)) rfl rfl) (Dl.nil (Th.m (Dw.block ?_)))))))))
        refine Dw.loopM (fun s j r => upd (mask r j 144080003703767172) 45 (vI s)) h ⟨_, eqUpd rfl (eqMask (by repeat' (first | exact Off.refl _ _ | refine Off.u rfl ?_ | refine Off.m rfl ?_)))⟩ ?_
        intro I m q20 j w h
        refine Dw.seq (Dw.region (Dl.q (Y.lss rfl rfl rfl) (Dl.nil (Th.m (Dw.seq ?_)))))
        refine Dw.cond rfl (fun hb28 => ?_) (fun hb28 => ?_)
        · replace h := M.iteT h hb28
          refine Dw.skip (Th.m (Dw.seq (Dw.block (Dw.seq (Dw.region ?_)))))
          obtain ⟨a22, a220, ha, hi, he, h⟩ := h
          refine Dl.q (Y.ix rfl Try.runUnderlying24 Try.sizeOf3 rfl rfl ha hi he) ?_
          obtain ⟨x23, hcx23, h⟩ := h
          refine Dl.q (Y.ld rfl Try.isAgg3 rfl hcx23) (Dl.q (Y.asg (v := (vI x23)) rfl rfl) (Dl.nil (Th.m ?_)))
          refine Dw.joinM (fun s j r => upd (mask r j 71494644084506624) 55 (Value.bool s)) h (fun C h => ?_) (fun q26 j w h => ?_)
          · refine Dw.region (Dl.q (Y.mv (v := (vI x23)) rfl rfl) (Dl.q (Y.lss rfl rfl rfl) (Dl.q (Y.mv (v := (Value.bool (decide (x23 < 0)))) rfl rfl) ?_)))
            refine M.split h (fun hb25 h => ?_) (fun hb25 h => ?_)
            · refine Dl.q (Y.skip (unwantG rfl rfl hb25)) (Dl.q (Y.skip (unwantG rfl rfl hb25)) (Dl.q (Y.skip (unwantG rfl rfl hb25)) (Dl.q (Y.pickT (v := (Value.bool true)) rfl rfl hb25 rfl) (Dl.nil ?_))))
              exact Th.m ⟨_, h, _, eqUpd rfl (eqMask (by repeat' (first | exact Off.refl _ _ | refine Off.u rfl ?_ | refine Off.m rfl ?_)))⟩
            · refine Dl.q (Y.mv (v := (vI x23)) (wantG rfl rfl hb25) rfl) (Dl.q (Y.mv (v := (vI (x2.len : Int))) (wantG rfl rfl hb25) rfl) (Dl.q (Y.geq (wantG rfl rfl hb25) rfl rfl) (Dl.q (Y.pickF (v := (Value.bool (decide ((x2.len : Int) ≤ x23)))) rfl rfl hb25 rfl) (Dl.nil ?_))))
              exact Th.m ⟨_, h, _, eqUpd rfl (eqMask (by repeat' (first | exact Off.refl _ _ | refine Off.u rfl ?_ | refine Off.m rfl ?_)))⟩
          · refine Dw.cond rfl (fun hb27 => ?_) (fun hb27 => ?_)
            · replace h := M.iteT h hb27
              refine Dw.seq (Dw.region (Dl.q (Y.asg (v := (Value.bool false)) rfl rfl) (Dl.nil (Th.m (Dw.ret (InB.r (Th.r (Th.r (InB.r (InB.r (Th.r (Th.r ?_))))))))))))
              refine InB.r (Th.r ?_)
              exact fin1 rfl ⟨_, rfl, h⟩
            · replace h := M.iteF h hb27
              refine Dw.skip (InB.m (Th.m (Dw.region (Dl.q (Y.add rfl rfl rfl) (Dl.q (Y.mv (v := (vI (wI (q20 + 1)))) rfl rfl) (Dl.nil ?_))))))
              exact Th.m ⟨_, h, _, eqUpd rfl (eqMask (by repeat' (first | exact Off.refl _ _ | refine Off.u rfl ?_ | refine Off.m rfl ?_)))⟩
        · replace h := M.iteF h hb28
          refine Dw.exit (Th.e (Th.e (InB.e (InB.m (Th.m (Dw.region (Dl.q (Y.add rfl rfl rfl) (Dl.q (Y.mv (v := (vI (wI (q4 + 1)))) rfl rfl) (Dl.nil ?_)))))))))
          exact Th.m ⟨_, h, _, eqUpd rfl (eqMask (by repeat' (first | exact Off.refl _ _ | refine Off.u rfl ?_ | refine Off.m rfl ?_)))⟩
  · replace h := M.iteF h hb30
    refine Dw.exit (Th.e (Th.e (InB.e (Th.m (Dw.seq (Dw.region (Dl.q (Y.asg (v := (Value.bool true)) rfl rfl) (Dl.nil (Th.m (Dw.ret ?_))))))))))
    exact fin1 rfl ⟨_, rfl, h⟩
set_option maxHeartbeats 1000000 in
set_option maxRecDepth 20000 in
theorem hopcroft_newParter {p0 : Dfv} {w : World} {R : Option Addr → World → Prop} (h : S.hopcroft_newParter p0 w R) : Calls Try.prog 27 [(.agg (Dfv.cs p0).toArray)].toArray w (Ret vP R) := by
  refine calls_of Try.func27 rfl rfl rfl (by kernel_rfl) rfl ?_
  unfold S.hopcroft_newParter at h
  refine Dw.seq (Dw.region ?_)
  refine Dl.n (N.box rfl h rfl rfl fun b1 _ h => ?_)
  refine Dl.q (Y.asg (v := (vP none)) rfl rfl) (Dl.nil (Th.m (Dw.seq (Dw.region (Dl.q (Y.fa 258 rfl Try.runUnderlying27 rfl Try.sizeOf24 (by decide) rfl rfl) ?_)))))
  obtain ⟨x2, hcx2, h⟩ := h
  refine Dl.q (Y.ld rfl Try.isAgg24 rfl hcx2) (Dl.q (Y.len rfl Try.runUnderlying24 rfl) (Dl.q (Y.asg (v := (vI (x2.len : Int))) rfl rfl) (Dl.nil (Th.m (Dw.seq ?_)))))
  refine Dw.deep (by kernel_rfl) h ⟨rfl, rfl, trivial⟩ (fun q3 j w h => ?_)
  refine Th.m (Dw.seq (Dw.seq (Dw.region (Dl.q (Y.mv (v := (vI (x2.len : Int))) rfl rfl) (Dl.q (Y.mv (v := (vI 0)) rfl rfl) (Dl.nil (Th.m (Dw.block ?_))))))))
  refine Dw.loopM (fun s j r => upd (mask r j 549487378464) 28 (vI s)) h ⟨_, eqUpd rfl (eqMask (by repeat' (first | exact Off.refl _ _ | refine Off.u rfl ?_ | refine Off.m rfl ?_)))⟩ ?_
  intro I m q4 j w h
  refine Dw.seq (Dw.region (Dl.q (Y.lss rfl rfl rfl) (Dl.nil (Th.m (Dw.seq ?_)))))
  refine Dw.cond rfl (fun hb119 => ?_) (fun hb119 => ?_)
  · replace h := M.iteT h hb119
    refine Dw.skip (Th.m (Dw.seq (Dw.block (Dw.seq (Dw.region (Dl.q (Y.mv (v := (vI q4)) rfl rfl) (Dl.q (Y.asg (v := (vI q4)) rfl rfl) (Dl.nil (Th.m (Dw.region ?_))))))))))
    obtain ⟨x6, hcx6, h⟩ := h
    refine Dl.q (Y.ld rfl Try.isAgg45 rfl hcx6) ?_
    obtain ⟨a7, ha, h⟩ := h
    refine Dl.q (Y.nn rfl rfl ha) (Dl.q (Y.fa 0 rfl Try.runUnderlying52 rfl Try.sizeOf24 (by decide) rfl rfl) ?_)
    obtain ⟨x8, hcx8, h⟩ := h
    refine Dl.q (Y.ld rfl Try.isAgg24 rfl hcx8) (Dl.q (Y.mv (v := (vI q4)) rfl rfl) (Dl.q (Y.mv (v := (vI q4)) rfl rfl) ?_))
    obtain ⟨a9, a90, ha, hi, he, h⟩ := h
    refine Dl.q (Y.ix rfl Try.runUnderlying24 Try.sizeOf3 rfl rfl ha hi he) ?_
    refine Dl.n (N.st rfl Try.sizeOf3 h rfl rfl rfl rfl rfl fun h => ?_)
    refine Dl.nil (InB.m (Th.m (Dw.region (Dl.q (Y.add rfl rfl rfl) (Dl.q (Y.mv (v := (vI (wI (q4 + 1)))) rfl rfl) (Dl.nil ?_))))))
    exact Th.m ⟨_, h, _, eqUpd rfl (eqMask (by repeat' (first | exact Off.refl _ _ | refine Off.u rfl ?_ | refine Off.m rfl ?_)))⟩
  · replace h := M.iteF h hb119
    refine Dw.exit (Th.e (Th.e (InB.e (Th.m (Dw.seq (Dw.region ?_))))))
    obtain ⟨x10, hcx10, h⟩ := h
    refine Dl.q (Y.ld rfl Try.isAgg45 rfl hcx10) ?_
    obtain ⟨a11, ha, h⟩ := h
    refine Dl.q (Y.nn rfl rfl ha) (Dl.q (Y.fa 0 rfl Try.runUnderlying52 rfl Try.sizeOf24 (by decide) rfl rfl) ?_)
    obtain ⟨x12, hcx12, h⟩ := h
    refine Dl.q (Y.ld rfl Try.isAgg24 rfl hcx12) (Dl.q (Y.mkF rfl rfl) ?_)
    refine Dl.n (N.call rfl Try.call53 rfl h ?_)
    intro r13 w h
    refine Dl.nil (Th.m (Dw.seq (Dw.seq (Dw.region ?_))))
    obtain ⟨x14, hcx14, h⟩ := h
    refine Dl.q (Y.ld rfl Try.isAgg45 rfl hcx14) ?_
    obtain ⟨a15, ha, h⟩ := h
    refine Dl.q (Y.nn rfl rfl ha) (Dl.q (Y.fa 0 rfl Try.runUnderlying52 rfl Try.sizeOf24 (by decide) rfl rfl) ?_)
    obtain ⟨x16, hcx16, h⟩ := h
    refine Dl.q (Y.ld rfl Try.isAgg24 rfl hcx16) (Dl.q (Y.len rfl Try.runUnderlying24 rfl) (Dl.q (Y.mv (v := (vI 0)) rfl rfl) (Dl.nil (Th.m (Dw.block ?_)))))
    refine Dw.loopM (fun s j r => upd (mask r j 81129638414606680569889098301888) 50 (vI s)) h ⟨_, eqUpd rfl (eqMask (by repeat' (first | exact Off.refl _ _ | refine Off.u rfl ?_ | refine Off.m rfl ?_)))⟩ ?_
    intro I m q17 j w h
    refine Dw.seq (Dw.region (Dl.q (Y.lss rfl rfl rfl) (Dl.nil (Th.m (Dw.seq ?_)))))
    refine Dw.cond rfl (fun hb118 => ?_) (fun hb118 => ?_)
    · replace h := M.iteT h hb118
      refine Dw.skip (Th.m (Dw.seq (Dw.block (Dw.seq (Dw.region (Dl.q (Y.mv (v := (vI q17)) rfl rfl) ?_))))))
      obtain ⟨a19, a190, ha, hi, he, h⟩ := h
      refine Dl.q (Y.ix rfl Try.runUnderlying24 Try.sizeOf3 rfl rfl ha hi he) ?_
      obtain ⟨x20, hcx20, h⟩ := h
      refine Dl.q (Y.ld rfl Try.isAgg3 rfl hcx20) (Dl.q (Y.asg (v := (vI q17)) rfl rfl) (Dl.q (Y.asg (v := (vI x20)) rfl rfl) (Dl.nil (Th.m (Dw.seq (Dw.region ?_))))))
      obtain ⟨x21, hcx21, h⟩ := h
      refine Dl.q (Y.ld rfl Try.isAgg45 rfl hcx21) ?_
      obtain ⟨a22, ha, h⟩ := h
      refine Dl.q (Y.nn rfl rfl ha) (Dl.q (Y.fa 1 rfl Try.runUnderlying52 rfl Try.sizeOf24 (by decide) rfl rfl) ?_)
      obtain ⟨x23, hcx23, h⟩ := h
      refine Dl.q (Y.ld rfl Try.isAgg24 rfl hcx23) (Dl.q (Y.mv (v := (vI x20)) rfl rfl) (Dl.q (Y.mv (v := (vI q17)) rfl rfl) ?_))
      obtain ⟨a24, a240, ha, hi, he, h⟩ := h
      refine Dl.q (Y.ix rfl Try.runUnderlying24 Try.sizeOf3 rfl rfl ha hi he) ?_
      refine Dl.n (N.st rfl Try.sizeOf3 h rfl rfl rfl rfl rfl fun h => ?_)
      refine Dl.nil (Th.m ?_)
      refine Dw.joinM (fun s j r => mask r j 309485005209659050297393408) h (fun C h => ?_) (fun q47 j w h => ?_)
      · refine Dw.seq (Dw.region ?_)
        obtain ⟨x26, hcx26, h⟩ := h
        refine Dl.q (Y.ld rfl Try.isAgg45 rfl hcx26) ?_
        obtain ⟨a27, ha, h⟩ := h
        refine Dl.q (Y.nn rfl rfl ha) (Dl.q (Y.fa 2 rfl Try.runUnderlying52 rfl Try.sizeOf24 (by decide) rfl rfl) ?_)
        obtain ⟨x28, hcx28, h⟩ := h
        refine Dl.q (Y.ld rfl Try.isAgg24 rfl hcx28) (Dl.q (Y.mv (v := (vI x20)) rfl rfl) ?_)
        obtain ⟨a29, a290, ha, hi, he, h⟩ := h
        refine Dl.q (Y.ix rfl Try.runUnderlying24 Try.sizeOf3 rfl rfl ha hi he) ?_
        obtain ⟨x30, hcx30, h⟩ := h
        refine Dl.q (Y.ld rfl Try.isAgg3 rfl hcx30) (Dl.q (Y.asg (v := (vI x30)) rfl rfl) (Dl.nil (Th.m (Dw.seq (Dw.region (Dl.q (Y.mv (v := (vI x30)) rfl rfl) ?_))))))
        obtain ⟨x31, hcx31, h⟩ := h
        refine Dl.q (Y.ld rfl Try.isAgg45 rfl hcx31) ?_
        obtain ⟨a32, ha, h⟩ := h
        refine Dl.q (Y.nn rfl rfl ha) (Dl.q (Y.fa 3 rfl Try.runUnderlying52 rfl Try.sizeOf47 (by decide) rfl rfl) ?_)
        obtain ⟨x33, hcx33, h⟩ := h
        refine Dl.q (Y.ld rfl Try.isAgg47 rfl hcx33) (Dl.q (Y.len rfl Try.runUnderlying47 rfl) (Dl.q (Y.eqI rfl rfl rfl) (Dl.nil (Th.m ?_))))
        refine Dw.cond rfl (fun hb46 => ?_) (fun hb46 => ?_)
        · replace h := M.iteT h hb46
          refine Dw.game (by kernel_rfl) ?_
          replace h := M.drew_un h
          generalize World.drew _ = w at h ⊢
          obtain ⟨x34, hcx34, h⟩ := h
          refine Gm.quiet 0 rfl (by kernel_rfl) (fun _ hw => Y.ld rfl Try.isAgg45 rfl hw) hcx34 ?_
          obtain ⟨x35, hcx35, h⟩ := h
          refine Gm.quiet 1 rfl (by kernel_rfl) (fun _ hw => Y.ld rfl Try.isAgg45 rfl hw) hcx35 ?_
          obtain ⟨a36, ha, h⟩ := h
          refine Gm.pure 2 rfl (by kernel_rfl) (fun _ => Y.nn rfl rfl ha) (Gm.pure 3 rfl (by kernel_rfl) (fun _ => Y.fa 3 rfl Try.runUnderlying52 rfl Try.sizeOf47 (by decide) rfl rfl) ?_)
          obtain ⟨x37, hcx37, h⟩ := h
          refine Gm.quiet 4 rfl (by kernel_rfl) (fun _ hw => Y.ld rfl Try.isAgg47 rfl hw) hcx37 (Gm.pure 5 rfl (by kernel_rfl) (fun _ => Y.mv (v := (vI q17)) rfl rfl) (Gm.pure 6 rfl (by kernel_rfl) (fun _ => Y.mv (v := (vI q17)) rfl rfl) (Gm.pure 7 rfl (by kernel_rfl) (fun _ => Y.bld [(0, (vI q17)), (1, (vI q17))] rfl rfl (Spv_b01 _ _ _)) (Gm.one' 8 rfl (by kernel_rfl) (.keep (by kernel_rfl) (.keep (by kernel_rfl) (.keep (by kernel_rfl) .nil))) (N.mkSA [(Spv.cs (⟨q17, q17, 0⟩ : Spv))] rfl Try.runUnderlying47 Try.sizeOf75 Try.zeroValue75 h rfl rfl rfl (fun _ hq => by simp at hq; subst hq; rfl) rfl rfl fun b38 _ h => ?_)))))
          obtain ⟨hp39, h⟩ := h
          obtain ⟨hp40, h⟩ := h
          obtain ⟨hp41, h⟩ := h
          refine ⟨(pdC hp39 (pdC hp40 (pdC hp41 pdN))), ?_⟩
          generalize World.alloc _ _ = w at h ⊢
          refine Gm.one' 9 rfl (by kernel_rfl) (.drop (by kernel_rfl) (.keep (by kernel_rfl) (.keep (by kernel_rfl) .nil))) ?_
          obtain ⟨s42, w, ha, h⟩ := h
          refine N.blt rfl rfl (fun _ => rfl) ha ?_
          obtain ⟨hp43, h⟩ := h
          obtain ⟨hp44, h⟩ := h
          refine ⟨(pdC hp43 (pdC hp44 pdN)), ?_⟩
          obtain ⟨a45, ha, h⟩ := h
          refine Gm.pure 10 rfl (by kernel_rfl) (fun _ => Y.nn rfl rfl ha) (Gm.pure 11 rfl (by kernel_rfl) (fun _ => Y.fa 3 rfl Try.runUnderlying52 rfl Try.sizeOf47 (by decide) rfl rfl) (Gm.one' 12 rfl (by kernel_rfl) (.drop (by kernel_rfl) (.drop (by kernel_rfl) .nil)) ?_))
          refine N.st rfl Try.sizeOf47 h rfl rfl rfl rfl rfl fun h => ?_
          refine ⟨pdN, ?_⟩
          generalize World.setCell _ _ _ = w at h ⊢
          refine Gm.end (by kernel_rfl) ?_
          exact Th.m ⟨_, h, _, eqMask (by repeat' (first | exact Off.refl _ _ | refine Off.u rfl ?_ | refine Off.m rfl ?_))⟩
        · replace h := M.iteF h hb46
          refine Dw.skip ?_
          exact Th.m ⟨_, h, _, eqMask (by repeat' (first | exact Off.refl _ _ | refine Off.u rfl ?_ | refine Off.m rfl ?_))⟩
      · refine Dw.game (by kernel_rfl) ?_
        replace h := M.drew_un h
        generalize World.drew _ = w at h ⊢
        obtain ⟨x48, hcx48, h⟩ := h
        refine Gm.quiet 0 rfl (by kernel_rfl) (fun _ hw => Y.ld rfl Try.isAgg45 rfl hw) hcx48 ?_
        obtain ⟨a49, ha, h⟩ := h
        refine Gm.pure 1 rfl (by kernel_rfl) (fun _ => Y.nn rfl rfl ha) (Gm.pure 2 rfl (by kernel_rfl) (fun _ => Y.fa 3 rfl Try.runUnderlying52 rfl Try.sizeOf47 (by decide) rfl rfl) ?_)
        obtain ⟨x50, hcx50, h⟩ := h
        refine Gm.quiet 3 rfl (by kernel_rfl) (fun _ hw => Y.ld rfl Try.isAgg47 rfl hw) hcx50 ?_
        obtain ⟨x51, hcx51, h⟩ := h
        refine Gm.quiet 4 rfl (by kernel_rfl) (fun _ hw => Y.ld rfl Try.isAgg45 rfl hw) hcx51 ?_
        obtain ⟨a52, ha, h⟩ := h
        refine Gm.pure 5 rfl (by kernel_rfl) (fun _ => Y.nn rfl rfl ha) (Gm.pure 6 rfl (by kernel_rfl) (fun _ => Y.fa 2 rfl Try.runUnderlying52 rfl Try.sizeOf24 (by decide) rfl rfl) ?_)
        obtain ⟨x53, hcx53, h⟩ := h
        refine Gm.quiet 7 rfl (by kernel_rfl) (fun _ hw => Y.ld rfl Try.isAgg24 rfl hw) hcx53 (Gm.pure 8 rfl (by kernel_rfl) (fun _ => Y.mv (v := (vI x20)) rfl rfl) ?_)
        obtain ⟨a54, a540, ha, hi, he, h⟩ := h
        refine Gm.pure 9 rfl (by kernel_rfl) (fun _ => Y.ix rfl Try.runUnderlying24 Try.sizeOf3 rfl rfl ha hi he) ?_
        obtain ⟨x55, hcx55, h⟩ := h
        refine Gm.quiet 10 rfl (by kernel_rfl) (fun _ hw => Y.ld rfl Try.isAgg3 rfl hw) hcx55 ?_
        obtain ⟨a56, a560, ha, hi, he, h⟩ := h
        refine Gm.pure 11 rfl (by kernel_rfl) (fun _ => Y.ix rfl Try.runUnderlying47 Try.sizeOf75 rfl rfl ha hi he) (Gm.pure 12 rfl (by kernel_rfl) (fun _ => Y.fa 1 rfl Try.runUnderlying75 rfl Try.sizeOf3 (by decide) rfl rfl) ?_)
        obtain ⟨x57, hcx57, h⟩ := h
        refine Gm.quiet 13 rfl (by kernel_rfl) (fun _ hw => Y.ld rfl Try.isAgg3 rfl hw) hcx57 (Gm.pure 14 rfl (by kernel_rfl) (fun _ => Y.add rfl rfl rfl) ?_)
        obtain ⟨a58, a580, ha, hi, he, h⟩ := h
        refine Gm.pure 15 rfl (by kernel_rfl) (fun _ => Y.ix rfl Try.runUnderlying47 Try.sizeOf75 rfl rfl ha hi he) (Gm.pure 16 rfl (by kernel_rfl) (fun _ => Y.fa 1 rfl Try.runUnderlying75 rfl Try.sizeOf3 (by decide) rfl rfl) (Gm.one' 17 rfl (by kernel_rfl) (.drop (by kernel_rfl) (.drop (by kernel_rfl) (.drop (by kernel_rfl) (.drop (by kernel_rfl) (.drop (by kernel_rfl) (.drop (by kernel_rfl) .nil)))))) ?_))
        refine N.st rfl Try.sizeOf3 h rfl rfl rfl rfl rfl fun h => ?_
        refine ⟨pdN, ?_⟩
        generalize World.setCell _ _ _ = w at h ⊢
        refine Gm.end (by kernel_rfl) (InB.m (Th.m (Dw.region (Dl.q (Y.add rfl rfl rfl) (Dl.q (Y.mv (v := (vI (wI (q17 + 1)))) rfl rfl) (Dl.nil ?_))))))
        exact Th.m ⟨_, h, _, eqUpd rfl (eqMask (by repeat' (first | exact Off.refl _ _ | refine Off.u rfl ?_ | refine Off.m rfl ?_)))⟩
    · replace h := M.iteF h hb118
      refine Dw.exit (Th.e (Th.e (InB.e (Th.m (Dw.seq (Dw.game (by kernel_rfl) ?_))))))
      replace h := M.drew_un h
      generalize World.drew _ = w at h ⊢
      obtain ⟨x59, hcx59, h⟩ := h
      refine Gm.quiet 0 rfl (by kernel_rfl) (fun _ hw => Y.ld rfl Try.isAgg45 rfl hw) hcx59 (Gm.pure 1 rfl (by kernel_rfl) (fun _ => Y.fa 256 rfl Try.runUnderlying27 rfl Try.sizeOf3 (by decide) rfl rfl) ?_)
      obtain ⟨x60, hcx60, h⟩ := h
      refine Gm.quiet 2 rfl (by kernel_rfl) (fun _ hw => Y.ld rfl Try.isAgg3 rfl hw) hcx60 (Gm.one' 3 rfl (by kernel_rfl) (.drop (by kernel_rfl) (.keep (by kernel_rfl) .nil)) ?_)
      obtain ⟨s61, w, ha, h⟩ := h
      refine N.of rfl rfl ha ?_
      obtain ⟨hp62, h⟩ := h
      refine ⟨(pdC hp62 pdN), ?_⟩
      obtain ⟨a63, ha, h⟩ := h
      refine Gm.pure 4 rfl (by kernel_rfl) (fun _ => Y.nn rfl rfl ha) (Gm.pure 5 rfl (by kernel_rfl) (fun _ => Y.fa 4 rfl Try.runUnderlying52 rfl Try.sizeOf48 (by decide) rfl rfl) (Gm.one' 6 rfl (by kernel_rfl) (.drop (by kernel_rfl) .nil) ?_))
      refine N.st rfl Try.sizeOf48 h rfl rfl rfl rfl rfl fun h => ?_
      refine ⟨pdN, ?_⟩
      generalize World.setCell _ _ _ = w at h ⊢
      refine Gm.end (by kernel_rfl) (Th.m (Dw.seq (Dw.seq (Dw.region (Dl.q (Y.fa 256 rfl Try.runUnderlying27 rfl Try.sizeOf3 (by decide) rfl rfl) ?_)))))
      obtain ⟨x64, hcx64, h⟩ := h
      refine Dl.q (Y.ld rfl Try.isAgg3 rfl hcx64) (Dl.q (Y.mv (v := (vI 0)) rfl rfl) (Dl.nil (Th.m (Dw.block ?_))))
      refine Dw.loopM (fun s j r => upd (mask r j 11692013098647202576442044522419750035262143467008) 114 (vI s)) h ⟨_, eqUpd rfl (eqMask (by repeat' (first | exact Off.refl _ _ | refine Off.u rfl ?_ | refine Off.m rfl ?_)))⟩ ?_
      intro I m q65 j w h
      refine Dw.seq (Dw.region (Dl.q (Y.lss rfl rfl rfl) (Dl.nil (Th.m (Dw.seq ?_)))))
      refine Dw.cond rfl (fun hb117 => ?_) (fun hb117 => ?_)
      · replace h := M.iteT h hb117
        refine Dw.skip (Th.m (Dw.seq (Dw.block (Dw.seq (Dw.region (Dl.q (Y.mv (v := (vI q65)) rfl rfl) (Dl.q (Y.asg (v := (vI q65)) rfl rfl) (Dl.nil (Th.m (Dw.seq (Dw.game (by kernel_rfl) ?_)))))))))))
        replace h := M.drew_un h
        generalize World.drew _ = w at h ⊢
        obtain ⟨x67, hcx67, h⟩ := h
        refine Gm.quiet 0 rfl (by kernel_rfl) (fun _ hw => Y.ld rfl Try.isAgg45 rfl hw) hcx67 ?_
        obtain ⟨a68, ha, h⟩ := h
        refine Gm.pure 1 rfl (by kernel_rfl) (fun _ => Y.nn rfl rfl ha) (Gm.pure 2 rfl (by kernel_rfl) (fun _ => Y.fa 4 rfl Try.runUnderlying52 rfl Try.sizeOf48 (by decide) rfl rfl) ?_)
        obtain ⟨x69, hcx69, h⟩ := h
        refine Gm.quiet 3 rfl (by kernel_rfl) (fun _ hw => Y.ld rfl Try.isAgg48 rfl hw) hcx69 (Gm.pure 4 rfl (by kernel_rfl) (fun _ => Y.mv (v := (vI q65)) rfl rfl) (Gm.pure 5 rfl (by kernel_rfl) (fun _ => Y.mv (v := (vI (x2.len : Int))) rfl rfl) (Gm.one' 6 rfl (by kernel_rfl) (.keep (by kernel_rfl) (.keep (by kernel_rfl) .nil)) ?_)))
        obtain ⟨s70, w, ha, h⟩ := h
        refine N.of rfl rfl ha ?_
        obtain ⟨hp71, h⟩ := h
        obtain ⟨hp72, h⟩ := h
        refine ⟨(pdC hp71 (pdC hp72 pdN)), ?_⟩
        obtain ⟨a73, a730, ha, hi, he, h⟩ := h
        refine Gm.pure 7 rfl (by kernel_rfl) (fun _ => Y.ix rfl Try.runUnderlying48 Try.sizeOf23 rfl rfl ha hi he) (Gm.one' 8 rfl (by kernel_rfl) (.drop (by kernel_rfl) (.drop (by kernel_rfl) .nil)) ?_)
        refine N.st rfl Try.sizeOf23 h rfl rfl rfl rfl rfl fun h => ?_
        refine ⟨pdN, ?_⟩
        generalize World.setCell _ _ _ = w at h ⊢
        refine Gm.end (by kernel_rfl) (Th.m (Dw.seq (Dw.region (Dl.q (Y.fa 257 rfl Try.runUnderlying27 rfl Try.sizeOf23 (by decide) rfl rfl) ?_))))
        obtain ⟨x74, hcx74, h⟩ := h
        refine Dl.q (Y.ld rfl Try.isAgg23 rfl hcx74) (Dl.q (Y.len rfl Try.runUnderlying23 rfl) (Dl.q (Y.mv (v := (vI 0)) rfl rfl) (Dl.nil (Th.m (Dw.block ?_)))))
        refine Dw.loopM (fun s j r => upd (mask r j 5846006548983329305893800867401757471191961963520) 128 (vI s)) h ⟨_, eqUpd rfl (eqMask (by repeat' (first | exact Off.refl _ _ | refine Off.u rfl ?_ | refine Off.m rfl ?_)))⟩ ?_
        intro I m q75 j w h
        refine Dw.seq (Dw.region (Dl.q (Y.lss rfl rfl rfl) (Dl.nil (Th.m (Dw.seq ?_)))))
        refine Dw.cond rfl (fun hb115 => ?_) (fun hb115 => ?_)
        · replace h := M.iteT h hb115
          refine Dw.skip (Th.m (Dw.seq (Dw.block (Dw.seq (Dw.region (Dl.q (Y.mv (v := (vI q75)) rfl rfl) ?_))))))
          obtain ⟨a77, a770, ha, hi, he, h⟩ := h
          refine Dl.q (Y.ix rfl Try.runUnderlying23 Try.sizeOf24 rfl rfl ha hi he) ?_
          obtain ⟨x78, hcx78, h⟩ := h
          refine Dl.q (Y.ld rfl Try.isAgg24 rfl hcx78) (Dl.q (Y.asg (v := (vI q75)) rfl rfl) (Dl.q (Y.asg (v := (Sl.val x78)) rfl rfl) (Dl.nil (Th.m (Dw.game (by kernel_rfl) ?_)))))
          replace h := M.drew_un h
          generalize World.drew _ = w at h ⊢
          obtain ⟨x79, hcx79, h⟩ := h
          refine Gm.quiet 0 rfl (by kernel_rfl) (fun _ hw => Y.ld rfl Try.isAgg45 rfl hw) hcx79 ?_
          obtain ⟨a80, ha, h⟩ := h
          refine Gm.pure 1 rfl (by kernel_rfl) (fun _ => Y.nn rfl rfl ha) (Gm.pure 2 rfl (by kernel_rfl) (fun _ => Y.fa 4 rfl Try.runUnderlying52 rfl Try.sizeOf48 (by decide) rfl rfl) ?_)
          obtain ⟨x81, hcx81, h⟩ := h
          refine Gm.quiet 3 rfl (by kernel_rfl) (fun _ hw => Y.ld rfl Try.isAgg48 rfl hw) hcx81 (Gm.pure 4 rfl (by kernel_rfl) (fun _ => Y.mv (v := (vI q65)) rfl rfl) ?_)
          obtain ⟨a82, a820, ha, hi, he, h⟩ := h
          refine Gm.pure 5 rfl (by kernel_rfl) (fun _ => Y.ix rfl Try.runUnderlying48 Try.sizeOf23 rfl rfl ha hi he) ?_
          obtain ⟨x83, hcx83, h⟩ := h
          refine Gm.quiet 6 rfl (by kernel_rfl) (fun _ hw => Y.ld rfl Try.isAgg23 rfl hw) hcx83 (Gm.pure 7 rfl (by kernel_rfl) (fun _ => Y.mv (v := (Sl.val x78)) rfl rfl) (Gm.pure 8 rfl (by kernel_rfl) (fun _ => Y.mv (v := (vI q65)) rfl rfl) ?_))
          obtain ⟨a84, a840, ha, hi, he, h⟩ := h
          refine Gm.pure 9 rfl (by kernel_rfl) (fun _ => Y.ix rfl Try.runUnderlying24 Try.sizeOf3 rfl rfl ha hi he) ?_
          obtain ⟨x85, hcx85, h⟩ := h
          refine Gm.quiet 10 rfl (by kernel_rfl) (fun _ hw => Y.ld rfl Try.isAgg3 rfl hw) hcx85 ?_
          obtain ⟨x86, hcx86, h⟩ := h
          refine Gm.quiet 11 rfl (by kernel_rfl) (fun _ hw => Y.ld rfl Try.isAgg45 rfl hw) hcx86 ?_
          obtain ⟨a87, ha, h⟩ := h
          refine Gm.pure 12 rfl (by kernel_rfl) (fun _ => Y.nn rfl rfl ha) (Gm.pure 13 rfl (by kernel_rfl) (fun _ => Y.fa 4 rfl Try.runUnderlying52 rfl Try.sizeOf48 (by decide) rfl rfl) ?_)
          obtain ⟨x88, hcx88, h⟩ := h
          refine Gm.quiet 14 rfl (by kernel_rfl) (fun _ hw => Y.ld rfl Try.isAgg48 rfl hw) hcx88 (Gm.pure 15 rfl (by kernel_rfl) (fun _ => Y.mv (v := (vI q65)) rfl rfl) ?_)
          obtain ⟨a89, a890, ha, hi, he, h⟩ := h
          refine Gm.pure 16 rfl (by kernel_rfl) (fun _ => Y.ix rfl Try.runUnderlying48 Try.sizeOf23 rfl rfl ha hi he) ?_
          obtain ⟨x90, hcx90, h⟩ := h
          refine Gm.quiet 17 rfl (by kernel_rfl) (fun _ hw => Y.ld rfl Try.isAgg23 rfl hw) hcx90 (Gm.pure 18 rfl (by kernel_rfl) (fun _ => Y.mv (v := (Sl.val x78)) rfl rfl) (Gm.pure 19 rfl (by kernel_rfl) (fun _ => Y.mv (v := (vI q65)) rfl rfl) ?_))
          obtain ⟨a91, a910, ha, hi, he, h⟩ := h
          refine Gm.pure 20 rfl (by kernel_rfl) (fun _ => Y.ix rfl Try.runUnderlying24 Try.sizeOf3 rfl rfl ha hi he) ?_
          obtain ⟨x92, hcx92, h⟩ := h
          refine Gm.quiet 21 rfl (by kernel_rfl) (fun _ hw => Y.ld rfl Try.isAgg3 rfl hw) hcx92 ?_
          obtain ⟨a93, a930, ha, hi, he, h⟩ := h
          refine Gm.pure 22 rfl (by kernel_rfl) (fun _ => Y.ix rfl Try.runUnderlying23 Try.sizeOf24 rfl rfl ha hi he) ?_
          obtain ⟨x94, hcx94, h⟩ := h
          refine Gm.quiet 23 rfl (by kernel_rfl) (fun _ hw => Y.ld rfl Try.isAgg24 rfl hw) hcx94 (Gm.pure 24 rfl (by kernel_rfl) (fun _ => Y.mv (v := (vI q75)) rfl rfl) (Gm.one' 25 rfl (by kernel_rfl) (.keep (by kernel_rfl) (.keep (by kernel_rfl) (.keep (by kernel_rfl) (.keep (by kernel_rfl) (.keep (by kernel_rfl) (.keep (by kernel_rfl) (.keep (by kernel_rfl) (.keep (by kernel_rfl) (.keep (by kernel_rfl) .nil))))))))) (N.mkS rfl Try.runUnderlying24 Try.sizeOf3 Try.zeroValue3 h rfl rfl rfl rfl rfl fun b95 _ h => ?_)))
          obtain ⟨hp96, h⟩ := h
          obtain ⟨hp97, h⟩ := h
          obtain ⟨hp98, h⟩ := h
          obtain ⟨hp99, h⟩ := h
          obtain ⟨hp100, h⟩ := h
          obtain ⟨hp101, h⟩ := h
          obtain ⟨hp102, h⟩ := h
          obtain ⟨hp103, h⟩ := h
          obtain ⟨hp104, h⟩ := h
          refine ⟨(pdC hp96 (pdC hp97 (pdC hp98 (pdC hp99 (pdC hp100 (pdC hp101 (pdC hp102 (pdC hp103 (pdC hp104 pdN))))))))), ?_⟩
          generalize World.alloc _ _ = w at h ⊢
          refine Gm.one' 26 rfl (by kernel_rfl) (.drop (by kernel_rfl) (.keep (by kernel_rfl) (.keep (by kernel_rfl) (.keep (by kernel_rfl) (.keep (by kernel_rfl) (.keep (by kernel_rfl) (.keep (by kernel_rfl) (.keep (by kernel_rfl) (.keep (by kernel_rfl) .nil))))))))) ?_
          obtain ⟨s105, w, ha, h⟩ := h
          refine N.blt rfl rfl (fun _ => rfl) ha ?_
          obtain ⟨hp106, h⟩ := h
          obtain ⟨hp107, h⟩ := h
          obtain ⟨hp108, h⟩ := h
          obtain ⟨hp109, h⟩ := h
          obtain ⟨hp110, h⟩ := h
          obtain ⟨hp111, h⟩ := h
          obtain ⟨hp112, h⟩ := h
          obtain ⟨hp113, h⟩ := h
          refine ⟨(pdC hp106 (pdC hp107 (pdC hp108 (pdC hp109 (pdC hp110 (pdC hp111 (pdC hp112 (pdC hp113 pdN)))))))), ?_⟩
          obtain ⟨a114, a1140, ha, hi, he, h⟩ := h
          refine Gm.pure 27 rfl (by kernel_rfl) (fun _ => Y.ix rfl Try.runUnderlying23 Try.sizeOf24 rfl rfl ha hi he) (Gm.one' 28 rfl (by kernel_rfl) (.drop (by kernel_rfl) (.drop (by kernel_rfl) (.drop (by kernel_rfl) (.drop (by kernel_rfl) (.drop (by kernel_rfl) (.drop (by kernel_rfl) (.drop (by kernel_rfl) (.drop (by kernel_rfl) .nil)))))))) ?_)
          refine N.st rfl Try.sizeOf24 h rfl rfl rfl rfl rfl fun h => ?_
          refine ⟨pdN, ?_⟩
          generalize World.setCell _ _ _ = w at h ⊢
          refine Gm.end (by kernel_rfl) (InB.m (Th.m (Dw.region (Dl.q (Y.add rfl rfl rfl) (Dl.q (Y.mv (v := (vI (wI (q75 + 1)))) rfl rfl) (Dl.nil ?_))))))
          exact Th.m ⟨_, h, _, eqUpd rfl (eqMask (by repeat' (first | exact Off.refl _ _ | refine Off.u rfl ?_ | refine Off.m rfl ?_)))⟩
        · replace h := M.iteF h hb115
          refine Dw.exit (Th.e (Th.e (InB.e (InB.m (Th.m (Dw.region (Dl.q (Y.add rfl rfl rfl) (Dl.q (Y.mv (v := (vI (wI (q65 + 1)))) rfl rfl) (Dl.nil ?_)))))))))
          exact Th.m ⟨_, h, _, eqUpd rfl (eqMask (by repeat' (first | exact Off.refl _ _ | refine Off.u rfl ?_ | refine Off.m rfl ?_)))⟩
      · replace h := M.iteF h hb117
        refine Dw.exit (Th.e (Th.e (InB.e (Th.m (Dw.seq (Dw.region ?_))))))
        obtain ⟨x116, hcx116, h⟩ := h
        refine Dl.q (Y.ld rfl Try.isAgg45 rfl hcx116) (Dl.q (Y.asg (v := (vP x116)) rfl rfl) (Dl.nil (Th.m (Dw.ret ?_))))
        exact fin1 rfl ⟨_, rfl, h⟩
set_option maxHeartbeats 1000000 in
set_option maxRecDepth 20000 in
theorem hopcroft_parter_ask {p0 : Option Addr} {p1 : Int} {p2 : Int} {w : World} {R : Unit → World → Prop} (h : S.hopcroft_parter_ask p0 p1 p2 w R) : Calls Try.prog 28 [(vP p0), (vI p1), (vI p2)].toArray w (Ret vUnit R) := by
  refine calls_of Try.func28 rfl rfl rfl (by kernel_rfl) rfl ?_
  unfold S.hopcroft_parter_ask at h
  refine Dw.seq (Dw.region (Dl.q (Y.mv (v := (vP p0)) rfl rfl) ?_))
  obtain ⟨a1, ha, h⟩ := h
  refine Dl.q (Y.nn rfl rfl ha) (Dl.q (Y.fa 6 rfl Try.runUnderlying52 rfl Try.sizeOf50 (by decide) rfl rfl) ?_)
  obtain ⟨x2, hcx2, h⟩ := h
  refine Dl.q (Y.ld rfl Try.isAgg50 rfl hcx2) (Dl.q (Y.mv (v := (vI p1)) rfl rfl) (Dl.q (Y.mv (v := (vI p2)) rfl rfl) (Dl.q (Y.bld [(0, (vI p1)), (1, (vI p2))] rfl rfl (Pr_b01 _ _ _)) ?_)))
  obtain ⟨x3, hcx3, h⟩ := h
  refine Dl.q (Y.run rfl rfl hcx3) (Dl.q (Y.eqI rfl rfl rfl) (Dl.nil (Th.m ?_)))
  refine Dw.cond rfl (fun hb11 => ?_) (fun hb11 => ?_)
  · replace h := M.iteT h hb11
    refine Dw.seq (Dw.region (Dl.q (Y.mv (v := (vP p0)) rfl rfl) ?_))
    obtain ⟨a4, ha, h⟩ := h
    refine Dl.q (Y.nn rfl rfl ha) (Dl.q (Y.fa 6 rfl Try.runUnderlying52 rfl Try.sizeOf50 (by decide) rfl rfl) ?_)
    obtain ⟨x5, hcx5, h⟩ := h
    refine Dl.q (Y.ld rfl Try.isAgg50 rfl hcx5) (Dl.q (Y.mv (v := (vI p1)) rfl rfl) (Dl.q (Y.mv (v := (vI p2)) rfl rfl) (Dl.q (Y.bld [(0, (vI p1)), (1, (vI p2))] rfl rfl (Pr_b01 _ _ _)) ?_)))
    obtain ⟨w, ha, h⟩ := h
    refine Dl.n (N.ofU rfl rfl ha ?_)
    refine Dl.nil (Th.m (Dw.region (Dl.q (Y.mv (v := (vP p0)) rfl rfl) (Dl.q (Y.mv (v := (vP p0)) rfl rfl) ?_))))
    obtain ⟨a6, ha, h⟩ := h
    refine Dl.q (Y.nn rfl rfl ha) (Dl.q (Y.fa 5 rfl Try.runUnderlying52 rfl Try.sizeOf49 (by decide) rfl rfl) ?_)
    obtain ⟨x7, hcx7, h⟩ := h
    refine Dl.q (Y.ld rfl Try.isAgg49 rfl hcx7) (Dl.q (Y.mv (v := (vI p1)) rfl rfl) (Dl.q (Y.mv (v := (vI p2)) rfl rfl) (Dl.q (Y.bld [(0, (vI p1)), (1, (vI p2))] rfl rfl (Pr_b01 _ _ _)) ?_)))
    refine Dl.n (N.mkSA [(Pr.cs (⟨p1, p2⟩ : (Int × Int)))] rfl Try.runUnderlying49 Try.sizeOf54 Try.zeroValue54 h rfl rfl rfl (fun _ hq => by simp at hq; subst hq; rfl) rfl rfl fun b8 _ h => ?_)
    obtain ⟨s9, w, ha, h⟩ := h
    refine Dl.n (N.blt rfl rfl (fun _ => rfl) ha ?_)
    obtain ⟨a10, ha, h⟩ := h
    refine Dl.q (Y.nn rfl rfl ha) (Dl.q (Y.fa 5 rfl Try.runUnderlying52 rfl Try.sizeOf49 (by decide) rfl rfl) ?_)
    refine Dl.n (N.st rfl Try.sizeOf49 h rfl rfl rfl rfl rfl fun h => ?_)
    refine Dl.nil ?_
    exact fin0 ⟨(), rfl, h⟩
  · replace h := M.iteF h hb11
    refine Dw.skip ?_
    exact fin0 ⟨(), rfl, h⟩
set_option maxHeartbeats 1000000 in
set_option maxRecDepth 20000 in
theorem hopcroft_parter_take {p0 : Option Addr} {w : World} {R : (Int × Int) → World → Prop} (h : S.hopcroft_parter_take p0 w R) : Calls Try.prog 29 [(vP p0)].toArray w (Ret (fun x : (Int × Int) => .agg (Pr.cs x).toArray) R) := by
  refine calls_of Try.func29 rfl rfl rfl (by kernel_rfl) rfl ?_
  unfold S.hopcroft_parter_take at h
  refine Dw.seq (Dw.region ?_)
  refine Dl.n (N.new rfl Try.zeroValue54 h (by kernel_rfl) fun b1 _ h => ?_)
  refine Dl.nil (Th.m (Dw.seq (Dw.region (Dl.q (Y.mv (v := (vP p0)) rfl rfl) ?_))))
  obtain ⟨a2, ha, h⟩ := h
  refine Dl.q (Y.nn rfl rfl ha) (Dl.q (Y.fa 5 rfl Try.runUnderlying52 rfl Try.sizeOf49 (by decide) rfl rfl) ?_)
  obtain ⟨x3, hcx3, h⟩ := h
  refine Dl.q (Y.ld rfl Try.isAgg49 rfl hcx3) (Dl.q (Y.len rfl Try.runUnderlying49 rfl) (Dl.q (Y.sub rfl rfl rfl) (Dl.q (Y.asg (v := (vI (wI ((x3.len : Int) - 1)))) rfl rfl) (Dl.nil (Th.m (Dw.seq (Dw.region (Dl.q (Y.mv (v := (vP p0)) rfl rfl) ?_))))))))
  obtain ⟨a4, ha, h⟩ := h
  refine Dl.q (Y.nn rfl rfl ha) (Dl.q (Y.fa 5 rfl Try.runUnderlying52 rfl Try.sizeOf49 (by decide) rfl rfl) ?_)
  obtain ⟨x5, hcx5, h⟩ := h
  refine Dl.q (Y.ld rfl Try.isAgg49 rfl hcx5) (Dl.q (Y.mv (v := (vI (wI ((x3.len : Int) - 1)))) rfl rfl) ?_)
  obtain ⟨a6, a60, ha, hi, he, h⟩ := h
  refine Dl.q (Y.ix rfl Try.runUnderlying49 Try.sizeOf54 rfl rfl ha hi he) ?_
  obtain ⟨v7, hcv7, h⟩ := h
  refine Dl.q (Y.ldA rfl Try.isAgg54 Try.sizeOf54 (Pr_len _) rfl hcv7) ?_
  refine Dl.n (N.new rfl Try.zeroValue54 h (by kernel_rfl) fun b8 _ h => ?_)
  refine Dl.n (N.stA rfl Try.sizeOf54 h rfl rfl (Pr_len _) (Pr_one _) fun h => ?_)
  generalize setCells _ _ _ _ = w at h ⊢
  refine Dl.nil (Th.m (Dw.seq (Dw.region (Dl.q (Y.mv (v := (vP p0)) rfl rfl) (Dl.q (Y.mv (v := (vP p0)) rfl rfl) ?_)))))
  obtain ⟨a9, ha, h⟩ := h
  refine Dl.q (Y.nn rfl rfl ha) (Dl.q (Y.fa 5 rfl Try.runUnderlying52 rfl Try.sizeOf49 (by decide) rfl rfl) ?_)
  obtain ⟨x10, hcx10, h⟩ := h
  refine Dl.q (Y.ld rfl Try.isAgg49 rfl hcx10) (Dl.q (Y.mv (v := (vI (wI ((x3.len : Int) - 1)))) rfl rfl) (Dl.q (Y.mv (v := (vI (wI ((x3.len : Int) - 1)))) rfl rfl) ?_))
  obtain ⟨s11, hi, he, h⟩ := h
  refine Dl.q (Y.cut011 rfl Try.runUnderlying49 rfl Try.sizeOf54 rfl rfl hi he) ?_
  obtain ⟨a12, ha, h⟩ := h
  refine Dl.q (Y.nn rfl rfl ha) (Dl.q (Y.fa 5 rfl Try.runUnderlying52 rfl Try.sizeOf49 (by decide) rfl rfl) ?_)
  refine Dl.n (N.st rfl Try.sizeOf49 h rfl rfl rfl rfl rfl fun h => ?_)
  refine Dl.nil (Th.m (Dw.seq (Dw.game (by kernel_rfl) ?_)))
  replace h := M.drew_un h
  generalize World.drew _ = w at h ⊢
  refine Gm.pure 0 rfl (by kernel_rfl) (fun _ => Y.mv (v := (vP p0)) rfl rfl) ?_
  obtain ⟨a13, ha, h⟩ := h
  refine Gm.pure 1 rfl (by kernel_rfl) (fun _ => Y.nn rfl rfl ha) (Gm.pure 2 rfl (by kernel_rfl) (fun _ => Y.fa 6 rfl Try.runUnderlying52 rfl Try.sizeOf50 (by decide) rfl rfl) ?_)
  obtain ⟨x14, hcx14, h⟩ := h
  refine Gm.quiet 3 rfl (by kernel_rfl) (fun _ hw => Y.ld rfl Try.isAgg50 rfl hw) hcx14 ?_
  obtain ⟨v15, hcv15, h⟩ := h
  refine Gm.quiet 4 rfl (by kernel_rfl) (fun _ hw => Y.ldA rfl Try.isAgg54 Try.sizeOf54 (Pr_len _) rfl hw) hcv15 (Gm.one' 5 rfl (by kernel_rfl) (.drop (by kernel_rfl) (.drop (by kernel_rfl) .nil)) ?_)
  obtain ⟨w, ha, h⟩ := h
  refine N.ofU rfl rfl ha ?_
  refine ⟨pdN, ?_⟩
  refine Gm.end (by kernel_rfl) (Th.m (Dw.seq (Dw.region ?_)))
  obtain ⟨v16, hcv16, h⟩ := h
  refine Dl.q (Y.ldA rfl Try.isAgg54 Try.sizeOf54 (Pr_len _) rfl hcv16) ?_
  refine Dl.n (N.stA rfl Try.sizeOf54 h rfl rfl (Pr_len _) (Pr_one _) fun h => ?_)
  generalize setCells _ _ _ _ = w at h ⊢
  refine Dl.nil (Th.m (Dw.ret ?_))
  obtain ⟨v17, hc, h⟩ := h
  exact finC Try.isAgg54 Try.sizeOf54 (Pr_len _) rfl hc ⟨_, rfl, h⟩
set_option maxHeartbeats 1000000 in
set_option maxRecDepth 20000 in
theorem hopcroft_parter_by {p0 : Option Addr} {p1 : Int} {p2 : Int} {w : World} {R : Unit → World → Prop} (h : S.hopcroft_parter_by p0 p1 p2 w R) : Calls Try.prog 30 [(vP p0), (vI p1), (vI p2)].toArray w (Ret vUnit R) := by
  refine calls_of Try.func30 rfl rfl rfl (by kernel_rfl) rfl ?_
  unfold S.hopcroft_parter_by at h
  refine Dw.seq (Dw.region (Dl.q (Y.asg (v := (Sl.val Sl.nil)) rfl rfl) (Dl.nil (Th.m (Dw.seq (Dw.seq (Dw.region (Dl.q (Y.mv (v := (vP p0)) rfl rfl) (Dl.q (Y.mv (v := (vI p1)) rfl rfl) ?_)))))))))
  refine Dl.n (N.call rfl Try.call55 rfl h ?_)
  intro r1 w h
  refine Dl.q (Y.len rfl Try.runUnderlying24 rfl) (Dl.q (Y.mv (v := (vI 0)) rfl rfl) (Dl.nil (Th.m (Dw.block ?_))))
  refine Dw.loopM (fun s j r => upd (upd (mask r j 137437905216) 6 (Sl.val s.1)) 20 (vI s.2)) h ⟨_, eqUpd rfl (eqUpd rfl (eqMask (by repeat' (first | exact Off.refl _ _ | refine Off.u rfl ?_ | refine Off.m rfl ?_))))⟩ ?_
  intro I m q2 j w h
  refine Dw.seq (Dw.region (Dl.q (Y.lss rfl rfl rfl) (Dl.nil (Th.m (Dw.seq ?_)))))
  refine Dw.cond rfl (fun hb49 => ?_) (fun hb49 => ?_)
  · replace h := M.iteT h hb49
    refine Dw.skip (Th.m (Dw.seq (Dw.block (Dw.seq (Dw.region ?_)))))
    obtain ⟨a4, a40, ha, hi, he, h⟩ := h
    refine Dl.q (Y.ix rfl Try.runUnderlying24 Try.sizeOf3 rfl rfl ha hi he) ?_
    obtain ⟨x5, hcx5, h⟩ := h
    refine Dl.q (Y.ld rfl Try.isAgg3 rfl hcx5) (Dl.q (Y.asg (v := (vI x5)) rfl rfl) (Dl.nil (Th.m (Dw.region (Dl.q (Y.mv (v := (Sl.val q2.1)) rfl rfl) (Dl.q (Y.mv (v := (vP p0)) rfl rfl) ?_))))))
    obtain ⟨a6, ha, h⟩ := h
    refine Dl.q (Y.nn rfl rfl ha) (Dl.q (Y.fa 4 rfl Try.runUnderlying52 rfl Try.sizeOf48 (by decide) rfl rfl) ?_)
    obtain ⟨x7, hcx7, h⟩ := h
    refine Dl.q (Y.ld rfl Try.isAgg48 rfl hcx7) (Dl.q (Y.mv (v := (vI p2)) rfl rfl) ?_)
    obtain ⟨a8, a80, ha, hi, he, h⟩ := h
    refine Dl.q (Y.ix rfl Try.runUnderlying48 Try.sizeOf23 rfl rfl ha hi he) ?_
    obtain ⟨x9, hcx9, h⟩ := h
    refine Dl.q (Y.ld rfl Try.isAgg23 rfl hcx9) (Dl.q (Y.mv (v := (vI x5)) rfl rfl) ?_)
    obtain ⟨a10, a100, ha, hi, he, h⟩ := h
    refine Dl.q (Y.ix rfl Try.runUnderlying23 Try.sizeOf24 rfl rfl ha hi he) ?_
    obtain ⟨x11, hcx11, h⟩ := h
    refine Dl.q (Y.ld rfl Try.isAgg24 rfl hcx11) ?_
    obtain ⟨s12, w, ha, h⟩ := h
    refine Dl.n (N.blt rfl rfl (fun _ => rfl) ha ?_)
    refine Dl.q (Y.asg (v := (Sl.val s12)) rfl rfl) (Dl.nil (InB.m (Th.m (Dw.region (Dl.q (Y.add rfl rfl rfl) (Dl.q (Y.mv (v := (vI (wI (q2.2 + 1)))) rfl rfl) (Dl.nil ?_)))))))
    exact Th.m ⟨_, h, _, eqUpd rfl (eqUpd rfl (eqMask (by repeat' (first | exact Off.refl _ _ | refine Off.u rfl ?_ | refine Off.m rfl ?_))))⟩
  · replace h := M.iteF h hb49
    refine Dw.exit (Th.e (Th.e (InB.e (Th.m (Dw.seq (Dw.region (Dl.q (Y.asg (v := (Sl.val Sl.nil)) rfl rfl) (Dl.nil (Th.m (Dw.seq (Dw.seq (Dw.region ?_))))))))))))
    refine Dl.q (Y.mv (v := (Sl.val q2.1)) rfl rfl) (Dl.q (Y.len rfl Try.runUnderlying24 rfl) (Dl.q (Y.mv (v := (vI 0)) rfl rfl) (Dl.nil (Th.m (Dw.block ?_)))))
    refine Dw.loopM (fun s j r => upd (upd (mask r j 4722366482319889402368) 9 (Sl.val s.1)) 39 (vI s.2)) h ⟨_, eqUpd rfl (eqUpd rfl (eqMask (by repeat' (first | exact Off.refl _ _ | refine Off.u rfl ?_ | refine Off.m rfl ?_))))⟩ ?_
    intro I m q13 j w h
    refine Dw.seq (Dw.region (Dl.q (Y.lss rfl rfl rfl) (Dl.nil (Th.m (Dw.seq ?_)))))
    refine Dw.cond rfl (fun hb48 => ?_) (fun hb48 => ?_)
    · replace h := M.iteT h hb48
      refine Dw.skip (Th.m (Dw.seq (Dw.block (Dw.seq (Dw.region ?_)))))
      obtain ⟨a15, a150, ha, hi, he, h⟩ := h
      refine Dl.q (Y.ix rfl Try.runUnderlying24 Try.sizeOf3 rfl rfl ha hi he) ?_
      obtain ⟨x16, hcx16, h⟩ := h
      refine Dl.q (Y.ld rfl Try.isAgg3 rfl hcx16) (Dl.q (Y.asg (v := (vI x16)) rfl rfl) (Dl.nil (Th.m ?_)))
      refine Dw.joinM (fun s j r => upd (mask r j 295147896383259804160) 9 (Sl.val s)) h (fun C h => ?_) (fun q33 j w h => ?_)
      · refine Dw.seq (Dw.game (by kernel_rfl) ?_)
        replace h := M.drew_un h
        generalize World.drew _ = w at h ⊢
        refine Gm.pure 0 rfl (by kernel_rfl) (fun _ => Y.mv (v := (vP p0)) rfl rfl) ?_
        obtain ⟨a18, ha, h⟩ := h
        refine Gm.pure 1 rfl (by kernel_rfl) (fun _ => Y.nn rfl rfl ha) (Gm.pure 2 rfl (by kernel_rfl) (fun _ => Y.fa 3 rfl Try.runUnderlying52 rfl Try.sizeOf47 (by decide) rfl rfl) ?_)
        obtain ⟨x19, hcx19, h⟩ := h
        refine Gm.quiet 3 rfl (by kernel_rfl) (fun _ hw => Y.ld rfl Try.isAgg47 rfl hw) hcx19 (Gm.pure 4 rfl (by kernel_rfl) (fun _ => Y.mv (v := (vP p0)) rfl rfl) ?_)
        obtain ⟨a20, ha, h⟩ := h
        refine Gm.pure 5 rfl (by kernel_rfl) (fun _ => Y.nn rfl rfl ha) (Gm.pure 6 rfl (by kernel_rfl) (fun _ => Y.fa 2 rfl Try.runUnderlying52 rfl Try.sizeOf24 (by decide) rfl rfl) ?_)
        obtain ⟨x21, hcx21, h⟩ := h
        refine Gm.quiet 7 rfl (by kernel_rfl) (fun _ hw => Y.ld rfl Try.isAgg24 rfl hw) hcx21 (Gm.pure 8 rfl (by kernel_rfl) (fun _ => Y.mv (v := (vI x16)) rfl rfl) ?_)
        obtain ⟨a22, a220, ha, hi, he, h⟩ := h
        refine Gm.pure 9 rfl (by kernel_rfl) (fun _ => Y.ix rfl Try.runUnderlying24 Try.sizeOf3 rfl rfl ha hi he) ?_
        obtain ⟨x23, hcx23, h⟩ := h
        refine Gm.quiet 10 rfl (by kernel_rfl) (fun _ hw => Y.ld rfl Try.isAgg3 rfl hw) hcx23 ?_
        obtain ⟨a24, a240, ha, hi, he, h⟩ := h
        refine Gm.pure 11 rfl (by kernel_rfl) (fun _ => Y.ix rfl Try.runUnderlying47 Try.sizeOf75 rfl rfl ha hi he) (Gm.pure 12 rfl (by kernel_rfl) (fun _ => Y.fa 2 rfl Try.runUnderlying75 rfl Try.sizeOf3 (by decide) rfl rfl) ?_)
        obtain ⟨x25, hcx25, h⟩ := h
        refine Gm.quiet 13 rfl (by kernel_rfl) (fun _ hw => Y.ld rfl Try.isAgg3 rfl hw) hcx25 (Gm.pure 14 rfl (by kernel_rfl) (fun _ => Y.eqI rfl rfl rfl) (Gm.end (by kernel_rfl) (Th.m ?_)))
        refine Dw.cond rfl (fun hb32 => ?_) (fun hb32 => ?_)
        · replace h := M.iteT h hb32
          refine Dw.region (Dl.q (Y.mv (v := (Sl.val q13.1)) rfl rfl) (Dl.q (Y.mv (v := (vP p0)) rfl rfl) ?_))
          obtain ⟨a26, ha, h⟩ := h
          refine Dl.q (Y.nn rfl rfl ha) (Dl.q (Y.fa 2 rfl Try.runUnderlying52 rfl Try.sizeOf24 (by decide) rfl rfl) ?_)
          obtain ⟨x27, hcx27, h⟩ := h
          refine Dl.q (Y.ld rfl Try.isAgg24 rfl hcx27) (Dl.q (Y.mv (v := (vI x16)) rfl rfl) ?_)
          obtain ⟨a28, a280, ha, hi, he, h⟩ := h
          refine Dl.q (Y.ix rfl Try.runUnderlying24 Try.sizeOf3 rfl rfl ha hi he) ?_
          obtain ⟨x29, hcx29, h⟩ := h
          refine Dl.q (Y.ld rfl Try.isAgg3 rfl hcx29) ?_
          refine Dl.n (N.mkS rfl Try.runUnderlying24 Try.sizeOf3 Try.zeroValue3 h rfl rfl rfl rfl rfl fun b30 _ h => ?_)
          obtain ⟨s31, w, ha, h⟩ := h
          refine Dl.n (N.blt rfl rfl (fun _ => rfl) ha ?_)
          refine Dl.q (Y.asg (v := (Sl.val s31)) rfl rfl) (Dl.nil ?_)
          exact Th.m ⟨_, h, _, eqUpd rfl (eqMask (by repeat' (first | exact Off.refl _ _ | refine Off.u rfl ?_ | refine Off.m rfl ?_)))⟩
        · replace h := M.iteF h hb32
          refine Dw.skip ?_
          exact Th.m ⟨_, h, _, eqUpd rfl (eqMask (by repeat' (first | exact Off.refl _ _ | refine Off.u rfl ?_ | refine Off.m rfl ?_)))⟩
      · refine Dw.region (Dl.q (Y.mv (v := (vP p0)) rfl rfl) (Dl.q (Y.mv (v := (vI x16)) rfl rfl) ?_))
        refine Dl.n (N.call rfl Try.call56 rfl h ?_)
        intro r34 w h
        refine Dl.nil (InB.m (Th.m (Dw.region (Dl.q (Y.add rfl rfl rfl) (Dl.q (Y.mv (v := (vI (wI (q13.2 + 1)))) rfl rfl) (Dl.nil ?_))))))
        exact Th.m ⟨_, h, _, eqUpd rfl (eqUpd rfl (eqMask (by repeat' (first | exact Off.refl _ _ | refine Off.u rfl ?_ | refine Off.m rfl ?_))))⟩
    · replace h := M.iteF h hb48
      refine Dw.exit (Th.e (Th.e (InB.e (Th.m (Dw.seq (Dw.region (Dl.q (Y.mv (v := (Sl.val q13.1)) rfl rfl) (Dl.q (Y.len rfl Try.runUnderlying24 rfl) (Dl.q (Y.mv (v := (vI 0)) rfl rfl) (Dl.nil (Th.m (Dw.block ?_))))))))))))
      refine Dw.loopM (fun s j r => upd (mask r j 158456306139062743708507103232) 74 (vI s)) h ⟨_, eqUpd rfl (eqMask (by repeat' (first | exact Off.refl _ _ | refine Off.u rfl ?_ | refine Off.m rfl ?_)))⟩ ?_
      intro I m q35 j w h
      refine Dw.seq (Dw.region (Dl.q (Y.lss rfl rfl rfl) (Dl.nil (Th.m (Dw.seq ?_)))))
      refine Dw.cond rfl (fun hb47 => ?_) (fun hb47 => ?_)
      · replace h := M.iteT h hb47
        refine Dw.skip (Th.m (Dw.seq (Dw.block (Dw.seq (Dw.region ?_)))))
        obtain ⟨a37, a370, ha, hi, he, h⟩ := h
        refine Dl.q (Y.ix rfl Try.runUnderlying24 Try.sizeOf3 rfl rfl ha hi he) ?_
        obtain ⟨x38, hcx38, h⟩ := h
        refine Dl.q (Y.ld rfl Try.isAgg3 rfl hcx38) (Dl.q (Y.asg (v := (vI x38)) rfl rfl) (Dl.nil (Th.m (Dw.seq (Dw.region (Dl.q (Y.mv (v := (vP p0)) rfl rfl) (Dl.q (Y.mv (v := (vI x38)) rfl rfl) ?_)))))))
        refine Dl.n (N.call rfl Try.call57 rfl h ?_)
        intro r39 w h
        refine Dl.q (Y.asg (v := (vI r39)) rfl rfl) (Dl.nil (Th.m (Dw.seq (Dw.seq (Dw.region (Dl.q (Y.mv (v := (vI r39)) rfl rfl) (Dl.q (Y.lss rfl rfl rfl) (Dl.nil (Th.m ?_)))))))))
        refine Dw.cond rfl (fun hb46 => ?_) (fun hb46 => ?_)
        · replace h := M.iteT h hb46
          refine Dw.exit (Th.e (InB.e (Th.m (Dw.region (Dl.q (Y.add rfl rfl rfl) (Dl.q (Y.mv (v := (vI (wI (q35 + 1)))) rfl rfl) (Dl.nil ?_)))))))
          exact Th.m ⟨_, h, _, eqUpd rfl (eqMask (by repeat' (first | exact Off.refl _ _ | refine Off.u rfl ?_ | refine Off.m rfl ?_)))⟩
        · replace h := M.iteF h hb46
          refine Dw.skip (Th.m (Dw.seq (Dw.region (Dl.q (Y.mv (v := (vP p0)) rfl rfl) ?_))))
          obtain ⟨a40, ha, h⟩ := h
          refine Dl.q (Y.nn rfl rfl ha) (Dl.q (Y.fa 7 rfl Try.runUnderlying52 rfl Try.sizeOf3 (by decide) rfl rfl) ?_)
          obtain ⟨x41, hcx41, h⟩ := h
          refine Dl.q (Y.ld rfl Try.isAgg3 rfl hcx41) (Dl.q (Y.mv (v := (vI 0)) rfl rfl) (Dl.nil (Th.m (Dw.block ?_))))
          refine Dw.loopM (fun s j r => upd (mask r j 79073420009353665059181592576) 87 (vI s)) h ⟨_, eqUpd rfl (eqMask (by repeat' (first | exact Off.refl _ _ | refine Off.u rfl ?_ | refine Off.m rfl ?_)))⟩ ?_
          intro I m q42 j w h
          refine Dw.seq (Dw.region (Dl.q (Y.lss rfl rfl rfl) (Dl.nil (Th.m (Dw.seq ?_)))))
          refine Dw.cond rfl (fun hb45 => ?_) (fun hb45 => ?_)
          · replace h := M.iteT h hb45
            refine Dw.skip (Th.m (Dw.seq (Dw.block (Dw.seq (Dw.region (Dl.q (Y.mv (v := (vI q42)) rfl rfl) (Dl.q (Y.asg (v := (vI q42)) rfl rfl) (Dl.nil (Th.m (Dw.region (Dl.q (Y.mv (v := (vP p0)) rfl rfl) (Dl.q (Y.mv (v := (vI x38)) rfl rfl) ?_))))))))))))
            refine Dl.q (Y.mv (v := (vI r39)) rfl rfl) (Dl.q (Y.mv (v := (vI q42)) rfl rfl) ?_)
            refine Dl.n (N.call rfl Try.call58 rfl h ?_)
            intro r44 w h
            refine Dl.nil (InB.m (Th.m (Dw.region (Dl.q (Y.add rfl rfl rfl) (Dl.q (Y.mv (v := (vI (wI (q42 + 1)))) rfl rfl) (Dl.nil ?_))))))
            exact Th.m ⟨_, h, _, eqUpd rfl (eqMask (by repeat' (first | exact Off.refl _ _ | refine Off.u rfl ?_ | refine Off.m rfl ?_)))⟩
          · replace h := M.iteF h hb45
            refine Dw.exit (Th.e (Th.e (InB.e (InB.m (Th.m (Dw.region (Dl.q (Y.add rfl rfl rfl) (Dl.q (Y.mv (v := (vI (wI (q35 + 1)))) rfl rfl) (Dl.nil ?_)))))))))
            exact Th.m ⟨_, h, _, eqUpd rfl (eqMask (by repeat' (first | exact Off.refl _ _ | refine Off.u rfl ?_ | refine Off.m rfl ?_)))⟩
      · replace h := M.iteF h hb47
        refine Dw.exit (Th.e (Th.e (InB.e ?_)))
        exact fin0 ⟨(), rfl, h⟩
set_option maxHeartbeats 1000000 in
set_option maxRecDepth 20000 in
theorem quotient_Norm {p0 : Sl} {w : World} {R : Sl → World → Prop} (h : S.quotient_Norm p0 w R) : Calls Try.prog 31 [(Sl.val p0)].toArray w (Ret Sl.val R) := by
  refine calls_of Try.func31 rfl rfl rfl (by kernel_rfl) rfl ?_
  unfold S.quotient_Norm at h
  refine Dw.seq (Dw.region ?_)
  refine Dl.n (N.box rfl h rfl rfl fun b1 _ h => ?_)
  refine Dl.q (Y.asg (v := (Sl.val Sl.nil)) rfl rfl) (Dl.nil (Th.m (Dw.seq (Dw.region ?_))))
  obtain ⟨x2, hcx2, h⟩ := h
  refine Dl.q (Y.ld rfl Try.isAgg24 rfl hcx2) (Dl.q (Y.len rfl Try.runUnderlying24 rfl) (Dl.q (Y.mkF rfl rfl) ?_))
  refine Dl.n (N.call rfl Try.call59 rfl h ?_)
  intro r3 w h
  refine Dl.q (Y.asg (v := (Sl.val r3)) rfl rfl) (Dl.nil (Th.m (Dw.ret ?_)))
  exact fin1 rfl ⟨_, rfl, h⟩
set_option maxHeartbeats 1000000 in
set_option maxRecDepth 20000 in
theorem hopcroft_many {p0 : Sl} {w : World} {R : Int → World → Prop} (h : S.hopcroft_many p0 w R) : Calls Try.prog 32 [(Sl.val p0)].toArray w (Ret vI R) := by
  refine calls_of Try.func32 rfl rfl rfl (by kernel_rfl) rfl ?_
  unfold S.hopcroft_many at h
  refine Dw.seq (Dw.region (Dl.q (Y.asg (v := (vI 0)) rfl rfl) (Dl.nil (Th.m (Dw.seq (Dw.region (Dl.q (Y.mv (v := (Sl.val p0)) rfl rfl) ?_)))))))
  refine Dl.n (N.call rfl Try.call31 rfl h ?_)
  intro r1 w h
  refine Dl.n (N.call rfl Try.call61 rfl h ?_)
  intro r2 w h
  refine Dl.q (Y.add rfl rfl rfl) (Dl.q (Y.asg (v := (vI (wI (r2 + 1)))) rfl rfl) (Dl.nil (Th.m (Dw.ret ?_))))
  exact fin1 rfl ⟨_, rfl, h⟩
set_option maxHeartbeats 1000000 in
set_option maxRecDepth 20000 in
theorem r20_Right {p0 : Dfv} {w : World} {R : Bool → World → Prop} (h : S.r20_Right p0 w R) : Calls Try.prog 33 [(.agg (Dfv.cs p0).toArray)].toArray w (Ret Value.bool R) := by
  refine calls_of Try.func33 rfl rfl rfl (by kernel_rfl) rfl ?_
  unfold S.r20_Right at h
  refine Dw.seq (Dw.region ?_)
  refine Dl.n (N.box rfl h rfl rfl fun b1 _ h => ?_)
  refine Dl.q (Y.asg (v := (Value.bool false)) rfl rfl) (Dl.nil (Th.m (Dw.seq (Dw.region (Dl.q (Y.fa 258 rfl Try.runUnderlying27 rfl Try.sizeOf24 (by decide) rfl rfl) ?_)))))
  obtain ⟨x2, hcx2, h⟩ := h
  refine Dl.q (Y.ld rfl Try.isAgg24 rfl hcx2) (Dl.q (Y.len rfl Try.runUnderlying24 rfl) (Dl.q (Y.asg (v := (vI (x2.len : Int))) rfl rfl) (Dl.nil (Th.m (Dw.seq ?_)))))
  refine Dw.joinM (fun s j r => upd (mask r j 274877904896) 37 (Value.bool s)) h (fun C h => ?_) (fun q13 j w h => ?_)
  · refine Dw.region (Dl.q (Y.mv (v := (vI (x2.len : Int))) rfl rfl) (Dl.q (Y.lss rfl rfl rfl) (Dl.q (Y.mv (v := (Value.bool (decide ((x2.len : Int) < 1)))) rfl rfl) ?_)))
    refine M.split h (fun hb4 h => ?_) (fun hb4 h => ?_)
    · refine Dl.q (Y.skip (unwantG rfl rfl hb4)) (Dl.q (Y.skip (unwantG rfl rfl hb4)) (Dl.q (Y.pickT (v := (Value.bool true)) rfl rfl hb4 rfl) (Dl.q (Y.mv (v := (Value.bool true)) rfl rfl) (Dl.q (Y.skip (unwantG rfl rfl rfl)) (Dl.q (Y.skip (unwantG rfl rfl rfl)) (Dl.q (Y.skip (unwantG rfl rfl rfl)) (Dl.q (Y.skip (unwantG rfl rfl rfl)) (Dl.q (Y.skip (unwantG rfl rfl rfl)) (Dl.q (Y.pickT (v := (Value.bool true)) rfl rfl rfl rfl) (Dl.q (Y.mv (v := (Value.bool true)) rfl rfl) (Dl.q (Y.skip (unwantG rfl rfl rfl)) (Dl.q (Y.skip (unwantG rfl rfl rfl)) ?_))))))))))))
      refine Dl.q (Y.skip (unwantG rfl rfl rfl)) (Dl.q (Y.skip (unwantG rfl rfl rfl)) (Dl.q (Y.pickT (v := (Value.bool true)) rfl rfl rfl rfl) (Dl.q (Y.mv (v := (Value.bool true)) rfl rfl) (Dl.q (Y.skip (unwantG rfl rfl rfl)) (Dl.q (Y.skip (unwantG rfl rfl rfl)) (Dl.q (Y.skip (unwantG rfl rfl rfl)) (Dl.q (Y.skip (unwantG rfl rfl rfl)) (Dl.q (Y.skip (unwantG rfl rfl rfl)) (Dl.q (Y.skip (unwantG rfl rfl rfl)) (Dl.q (Y.pickT (v := (Value.bool true)) rfl rfl rfl rfl) (Dl.nil ?_)))))))))))
      exact Th.m ⟨_, h, _, eqUpd rfl (eqMask (by repeat' (first | exact Off.refl _ _ | refine Off.u rfl ?_ | refine Off.m rfl ?_)))⟩
    · refine Dl.q (Y.mv (v := (vI (x2.len : Int))) (wantG rfl rfl hb4) rfl) (Dl.q (Y.gtr (wantG rfl rfl hb4) rfl rfl) (Dl.q (Y.pickF (v := (Value.bool (decide (65536 < (x2.len : Int))))) rfl rfl hb4 rfl) (Dl.q (Y.mv (v := (Value.bool (decide (65536 < (x2.len : Int))))) rfl rfl) ?_)))
      refine M.split h (fun hb5 h => ?_) (fun hb5 h => ?_)
      · refine Dl.q (Y.skip (unwantG rfl rfl hb5)) (Dl.q (Y.skip (unwantG rfl rfl hb5)) (Dl.q (Y.skip (unwantG rfl rfl hb5)) (Dl.q (Y.skip (unwantG rfl rfl hb5)) (Dl.q (Y.skip (unwantG rfl rfl hb5)) (Dl.q (Y.pickT (v := (Value.bool true)) rfl rfl hb5 rfl) (Dl.q (Y.mv (v := (Value.bool true)) rfl rfl) (Dl.q (Y.skip (unwantG rfl rfl rfl)) (Dl.q (Y.skip (unwantG rfl rfl rfl)) (Dl.q (Y.skip (unwantG rfl rfl rfl)) (Dl.q (Y.skip (unwantG rfl rfl rfl)) (Dl.q (Y.pickT (v := (Value.bool true)) rfl rfl rfl rfl) (Dl.q (Y.mv (v := (Value.bool true)) rfl rfl) ?_))))))))))))
        refine Dl.q (Y.skip (unwantG rfl rfl rfl)) (Dl.q (Y.skip (unwantG rfl rfl rfl)) (Dl.q (Y.skip (unwantG rfl rfl rfl)) (Dl.q (Y.skip (unwantG rfl rfl rfl)) (Dl.q (Y.skip (unwantG rfl rfl rfl)) (Dl.q (Y.skip (unwantG rfl rfl rfl)) (Dl.q (Y.pickT (v := (Value.bool true)) rfl rfl rfl rfl) (Dl.nil ?_)))))))
        exact Th.m ⟨_, h, _, eqUpd rfl (eqMask (by repeat' (first | exact Off.refl _ _ | refine Off.u rfl ?_ | refine Off.m rfl ?_)))⟩
      · refine Dl.q (Y.fa 257 (wantG rfl rfl hb5) Try.runUnderlying27 rfl Try.sizeOf23 (by decide) rfl rfl) ?_
        obtain ⟨x6, hcx6, h⟩ := h
        refine Dl.q (Y.ld (wantG rfl rfl hb5) Try.isAgg23 rfl hcx6) (Dl.q (Y.len (wantG rfl rfl hb5) Try.runUnderlying23 rfl) (Dl.q (Y.mv (v := (vI (x2.len : Int))) (wantG rfl rfl hb5) rfl) (Dl.q (Y.neI (wantG rfl rfl hb5) rfl rfl) (Dl.q (Y.pickF (v := (Value.bool (!decide ((x6.len : Int) = (x2.len : Int))))) rfl rfl hb5 rfl) (Dl.q (Y.mv (v := (Value.bool (!decide ((x6.len : Int) = (x2.len : Int))))) rfl rfl) ?_)))))
        refine M.split h (fun hb7 h => ?_) (fun hb7 h => ?_)
        · refine Dl.q (Y.skip (unwantG rfl rfl hb7)) (Dl.q (Y.skip (unwantG rfl rfl hb7)) (Dl.q (Y.skip (unwantG rfl rfl hb7)) (Dl.q (Y.skip (unwantG rfl rfl hb7)) (Dl.q (Y.pickT (v := (Value.bool true)) rfl rfl hb7 rfl) (Dl.q (Y.mv (v := (Value.bool true)) rfl rfl) (Dl.q (Y.skip (unwantG rfl rfl rfl)) (Dl.q (Y.skip (unwantG rfl rfl rfl)) (Dl.q (Y.skip (unwantG rfl rfl rfl)) (Dl.q (Y.skip (unwantG rfl rfl rfl)) (Dl.q (Y.skip (unwantG rfl rfl rfl)) (Dl.q (Y.skip (unwantG rfl rfl rfl)) (Dl.q (Y.pickT (v := (Value.bool true)) rfl rfl rfl rfl) ?_))))))))))))
          refine Dl.nil ?_
          exact Th.m ⟨_, h, _, eqUpd rfl (eqMask (by repeat' (first | exact Off.refl _ _ | refine Off.u rfl ?_ | refine Off.m rfl ?_)))⟩
        · refine Dl.q (Y.fa 259 (wantG rfl rfl hb7) Try.runUnderlying27 rfl Try.sizeOf25 (by decide) rfl rfl) ?_
          obtain ⟨x8, hcx8, h⟩ := h
          refine Dl.q (Y.ld (wantG rfl rfl hb7) Try.isAgg25 rfl hcx8) (Dl.q (Y.len (wantG rfl rfl hb7) Try.runUnderlying25 rfl) (Dl.q (Y.gtr (wantG rfl rfl hb7) rfl rfl) (Dl.q (Y.pickF (v := (Value.bool (decide (64 < (x8.len : Int))))) rfl rfl hb7 rfl) (Dl.q (Y.mv (v := (Value.bool (decide (64 < (x8.len : Int))))) rfl rfl) ?_))))
          refine M.split h (fun hb9 h => ?_) (fun hb9 h => ?_)
          · refine Dl.q (Y.skip (unwantG rfl rfl hb9)) (Dl.q (Y.skip (unwantG rfl rfl hb9)) (Dl.q (Y.skip (unwantG rfl rfl hb9)) (Dl.q (Y.skip (unwantG rfl rfl hb9)) (Dl.q (Y.skip (unwantG rfl rfl hb9)) (Dl.q (Y.skip (unwantG rfl rfl hb9)) (Dl.q (Y.pickT (v := (Value.bool true)) rfl rfl hb9 rfl) (Dl.nil ?_)))))))
            exact Th.m ⟨_, h, _, eqUpd rfl (eqMask (by repeat' (first | exact Off.refl _ _ | refine Off.u rfl ?_ | refine Off.m rfl ?_)))⟩
          · refine Dl.q (Y.fa 0 (wantG rfl rfl hb9) Try.runUnderlying27 rfl Try.sizeOf22 (by decide) rfl rfl) ?_
            obtain ⟨v10, hcv10, h⟩ := h
            refine Dl.q (Y.ldA (wantG rfl rfl hb9) Try.isAgg22 Try.sizeOf22 (Ar_len _) rfl hcv10) (Dl.q (Y.fa 256 (wantG rfl rfl hb9) Try.runUnderlying27 rfl Try.sizeOf3 (by decide) rfl rfl) ?_)
            obtain ⟨x11, hcx11, h⟩ := h
            refine Dl.q (Y.ld (wantG rfl rfl hb9) Try.isAgg3 rfl hcx11) ?_
            refine Dl.n (N.call (wantG rfl rfl hb9) Try.call62 rfl h ?_)
            intro r12 w h
            refine Dl.q (Y.not (wantG rfl rfl hb9) rfl) (Dl.q (Y.pickF (v := (Value.bool (!r12))) rfl rfl hb9 rfl) (Dl.nil ?_))
            exact Th.m ⟨_, h, _, eqUpd rfl (eqMask (by repeat' (first | exact Off.refl _ _ | refine Off.u rfl ?_ | refine Off.m rfl ?_)))⟩
  · refine Dw.cond rfl (fun hb70 => ?_) (fun hb70 => ?_)
    · replace h := M.iteT h hb70
      refine Dw.seq (Dw.region (Dl.q (Y.asg (v := (Value.bool false)) rfl rfl) (Dl.nil (Th.m (Dw.ret (Th.r ?_))))))
      exact fin1 rfl ⟨_, rfl, h⟩
    · replace h := M.iteF h hb70
      refine Dw.skip (Th.m (Dw.seq (Dw.seq (Dw.region (Dl.q (Y.asg (v := (vI 0)) rfl rfl) (Dl.nil (Th.m (Dw.block ?_))))))))
      refine Dw.loopM (fun s j r => upd (mask r j 295147904904474918964) 4 (vI s)) h ⟨_, eqUpd rfl (eqMask (by repeat' (first | exact Off.refl _ _ | refine Off.u rfl ?_ | refine Off.m rfl ?_)))⟩ ?_
      intro I m q14 j w h
      refine Dw.seq (Dw.seq (Dw.region (Dl.q (Y.mv (v := (vI q14)) rfl rfl) (Dl.q (Y.fa 259 rfl Try.runUnderlying27 rfl Try.sizeOf25 (by decide) rfl rfl) ?_))))
      obtain ⟨x16, hcx16, h⟩ := h
      refine Dl.q (Y.ld rfl Try.isAgg25 rfl hcx16) (Dl.q (Y.len rfl Try.runUnderlying25 rfl) (Dl.q (Y.lss rfl rfl rfl) (Dl.nil (Th.m ?_))))
      refine Dw.cond rfl (fun hb69 => ?_) (fun hb69 => ?_)
      · replace h := M.iteT h hb69
        refine Dw.skip (Th.m (Dw.seq (Dw.block (Dw.seq (Dw.seq (Dw.region (Dl.q (Y.fa 259 rfl Try.runUnderlying27 rfl Try.sizeOf25 (by decide) rfl rfl) ?_)))))))
        obtain ⟨x17, hcx17, h⟩ := h
        refine Dl.q (Y.ld rfl Try.isAgg25 rfl hcx17) (Dl.q (Y.mv (v := (vI q14)) rfl rfl) ?_)
        obtain ⟨a18, a180, ha, hi, he, h⟩ := h
        refine Dl.q (Y.ix rfl Try.runUnderlying25 Try.sizeOf9 rfl rfl ha hi he) ?_
        obtain ⟨x19, hcx19, h⟩ := h
        refine Dl.q (Y.ld rfl Try.isAgg9 rfl hcx19) ?_
        refine Dl.n (N.call rfl Try.call63 rfl h ?_)
        intro r20 w h
        refine Dl.q (Y.not rfl rfl) (Dl.nil (Th.m ?_))
        refine Dw.cond rfl (fun hb31 => ?_) (fun hb31 => ?_)
        · replace h := M.iteT h hb31
          refine Dw.seq (Dw.region (Dl.q (Y.asg (v := (Value.bool false)) rfl rfl) (Dl.nil (Th.m (Dw.ret (Th.r (InB.r (Th.r (Th.r (InB.r (Th.r ?_)))))))))))
          exact fin1 rfl ⟨_, rfl, h⟩
        · replace h := M.iteF h hb31
          refine Dw.skip (Th.m (Dw.seq (Dw.region (Dl.q (Y.asg (v := (vI 0)) rfl rfl) (Dl.nil (Th.m (Dw.block ?_)))))))
          refine Dw.loopM (fun s j r => upd (mask r j 295143401579725455396) 5 (vI s)) h ⟨_, eqUpd rfl (eqMask (by repeat' (first | exact Off.refl _ _ | refine Off.u rfl ?_ | refine Off.m rfl ?_)))⟩ ?_
          intro I m q21 j w h
          refine Dw.seq (Dw.seq (Dw.region (Dl.q (Y.mv (v := (vI q21)) rfl rfl) (Dl.q (Y.mv (v := (vI q14)) rfl rfl) (Dl.q (Y.lss rfl rfl rfl) (Dl.nil (Th.m ?_)))))))
          refine Dw.cond rfl (fun hb30 => ?_) (fun hb30 => ?_)
          · replace h := M.iteT h hb30
            refine Dw.skip (Th.m (Dw.seq (Dw.block (Dw.seq (Dw.game (by kernel_rfl) ?_)))))
            replace h := M.drew_un h
            generalize World.drew _ = w at h ⊢
            refine Gm.pure 0 rfl (by kernel_rfl) (fun _ => Y.fa 259 rfl Try.runUnderlying27 rfl Try.sizeOf25 (by decide) rfl rfl) ?_
            obtain ⟨x23, hcx23, h⟩ := h
            refine Gm.quiet 1 rfl (by kernel_rfl) (fun _ hw => Y.ld rfl Try.isAgg25 rfl hw) hcx23 (Gm.pure 2 rfl (by kernel_rfl) (fun _ => Y.mv (v := (vI q21)) rfl rfl) ?_)
            obtain ⟨a24, a240, ha, hi, he, h⟩ := h
            refine Gm.pure 3 rfl (by kernel_rfl) (fun _ => Y.ix rfl Try.runUnderlying25 Try.sizeOf9 rfl rfl ha hi he) ?_
            obtain ⟨x25, hcx25, h⟩ := h
            refine Gm.quiet 4 rfl (by kernel_rfl) (fun _ hw => Y.ld rfl Try.isAgg9 rfl hw) hcx25 (Gm.pure 5 rfl (by kernel_rfl) (fun _ => Y.fa 259 rfl Try.runUnderlying27 rfl Try.sizeOf25 (by decide) rfl rfl) ?_)
            obtain ⟨x26, hcx26, h⟩ := h
            refine Gm.quiet 6 rfl (by kernel_rfl) (fun _ hw => Y.ld rfl Try.isAgg25 rfl hw) hcx26 (Gm.pure 7 rfl (by kernel_rfl) (fun _ => Y.mv (v := (vI q14)) rfl rfl) ?_)
            obtain ⟨a27, a270, ha, hi, he, h⟩ := h
            refine Gm.pure 8 rfl (by kernel_rfl) (fun _ => Y.ix rfl Try.runUnderlying25 Try.sizeOf9 rfl rfl ha hi he) ?_
            obtain ⟨x28, hcx28, h⟩ := h
            refine Gm.quiet 9 rfl (by kernel_rfl) (fun _ hw => Y.ld rfl Try.isAgg9 rfl hw) hcx28 (Gm.pure 10 rfl (by kernel_rfl) (fun _ => Y.eqS rfl rfl rfl) (Gm.end (by kernel_rfl) (Th.m ?_)))
            refine Dw.cond rfl (fun hb29 => ?_) (fun hb29 => ?_)
            · replace h := M.iteT h hb29
              refine Dw.seq (Dw.region (Dl.q (Y.asg (v := (Value.bool false)) rfl rfl) (Dl.nil (Th.m (Dw.ret (InB.r (Th.r (Th.r (InB.r (InB.r (Th.r (Th.r ?_))))))))))))
              refine InB.r (Th.r ?_)
              exact fin1 rfl ⟨_, rfl, h⟩
            · replace h := M.iteF h hb29
              refine Dw.skip (InB.m (Th.m (Dw.region (Dl.q (Y.mv (v := (vI q21)) rfl rfl) (Dl.q (Y.add rfl rfl rfl) (Dl.q (Y.asg (v := (vI (wI (q21 + 1)))) rfl rfl) (Dl.nil ?_)))))))
              exact Th.m ⟨_, h, _, eqUpd rfl (eqMask (by repeat' (first | exact Off.refl _ _ | refine Off.u rfl ?_ | refine Off.m rfl ?_)))⟩
          · replace h := M.iteF h hb30
            refine Dw.exit (Th.e (Th.e (InB.e (InB.m (Th.m (Dw.region (Dl.q (Y.mv (v := (vI q14)) rfl rfl) (Dl.q (Y.add rfl rfl rfl) (Dl.q (Y.asg (v := (vI (wI (q14 + 1)))) rfl rfl) (Dl.nil ?_))))))))))
            exact Th.m ⟨_, h, _, eqUpd rfl (eqMask (by repeat' (first | exact Off.refl _ _ | refine Off.u rfl ?_ | refine Off.m rfl ?_)))⟩
      · replace h := M.iteF h hb69
        refine Dw.exit (Th.e (Th.e (InB.e (Th.m (Dw.seq (Dw.seq (Dw.region (Dl.q (Y.asg (v := (vI 0)) rfl rfl) (Dl.nil (Th.m (Dw.block ?_)))))))))))
        refine Dw.loopM (fun s j r => upd (mask r j 340282366920938463168226702252415385796) 6 (vI s)) h ⟨_, eqUpd rfl (eqMask (by repeat' (first | exact Off.refl _ _ | refine Off.u rfl ?_ | refine Off.m rfl ?_)))⟩ ?_
        intro I m q32 j w h
        refine Dw.seq (Dw.seq (Dw.region (Dl.q (Y.mv (v := (vI q32)) rfl rfl) (Dl.q (Y.mv (v := (vI (x2.len : Int))) rfl rfl) (Dl.q (Y.lss rfl rfl rfl) (Dl.nil (Th.m ?_)))))))
        refine Dw.cond rfl (fun hb68 => ?_) (fun hb68 => ?_)
        · replace h := M.iteT h hb68
          refine Dw.skip (Th.m (Dw.seq (Dw.block (Dw.seq ?_))))
          refine Dw.joinM (fun s j r => upd (mask r j 2535301191011725837254115983360) 100 (Value.bool s)) h (fun C h => ?_) (fun q48 j w h => ?_)
          · refine Dw.game (by kernel_rfl) ?_
            replace h := M.drew_un h
            generalize World.drew _ = w at h ⊢
            refine Gm.pure 0 rfl (by kernel_rfl) (fun _ => Y.fa 257 rfl Try.runUnderlying27 rfl Try.sizeOf23 (by decide) rfl rfl) ?_
            obtain ⟨x35, hcx35, h⟩ := h
            refine Gm.quiet 1 rfl (by kernel_rfl) (fun _ hw => Y.ld rfl Try.isAgg23 rfl hw) hcx35 (Gm.pure 2 rfl (by kernel_rfl) (fun _ => Y.mv (v := (vI q32)) rfl rfl) ?_)
            obtain ⟨a36, a360, ha, hi, he, h⟩ := h
            refine Gm.pure 3 rfl (by kernel_rfl) (fun _ => Y.ix rfl Try.runUnderlying23 Try.sizeOf24 rfl rfl ha hi he) ?_
            obtain ⟨x37, hcx37, h⟩ := h
            refine Gm.quiet 4 rfl (by kernel_rfl) (fun _ hw => Y.ld rfl Try.isAgg24 rfl hw) hcx37 (Gm.pure 5 rfl (by kernel_rfl) (fun _ => Y.len rfl Try.runUnderlying24 rfl) (Gm.pure 6 rfl (by kernel_rfl) (fun _ => Y.fa 256 rfl Try.runUnderlying27 rfl Try.sizeOf3 (by decide) rfl rfl) ?_))
            obtain ⟨x38, hcx38, h⟩ := h
            refine Gm.quiet 7 rfl (by kernel_rfl) (fun _ hw => Y.ld rfl Try.isAgg3 rfl hw) hcx38 (Gm.pure 8 rfl (by kernel_rfl) (fun _ => Y.neI rfl rfl rfl) (Gm.pure 9 rfl (by kernel_rfl) (fun _ => Y.mv (v := (Value.bool (!decide ((x37.len : Int) = x38)))) rfl rfl) ?_))
            refine M.split h (fun hb39 h => ?_) (fun hb39 h => ?_)
            · refine Gm.pure 10 rfl (by kernel_rfl) (fun _ => Y.skip (unwantG rfl rfl hb39)) (Gm.pure 11 rfl (by kernel_rfl) (fun _ => Y.skip (unwantG rfl rfl hb39)) (Gm.pure 12 rfl (by kernel_rfl) (fun _ => Y.skip (unwantG rfl rfl hb39)) (Gm.pure 13 rfl (by kernel_rfl) (fun _ => Y.skip (unwantG rfl rfl hb39)) (Gm.pure 14 rfl (by kernel_rfl) (fun _ => Y.skip (unwantG rfl rfl hb39)) (Gm.pure 15 rfl (by kernel_rfl) (fun _ => Y.skip (unwantG rfl rfl hb39)) (Gm.pure 16 rfl (by kernel_rfl) (fun _ => Y.pickT (v := (Value.bool true)) rfl rfl hb39 rfl) (Gm.pure 17 rfl (by kernel_rfl) (fun _ => Y.mv (v := (Value.bool true)) rfl rfl) (Gm.pure 18 rfl (by kernel_rfl) (fun _ => Y.skip (unwantG rfl rfl rfl)) (Gm.pure 19 rfl (by kernel_rfl) (fun _ => Y.skip (unwantG rfl rfl rfl)) (Gm.pure 20 rfl (by kernel_rfl) (fun _ => Y.skip (unwantG rfl rfl rfl)) (Gm.pure 21 rfl (by kernel_rfl) (fun _ => Y.skip (unwantG rfl rfl rfl)) (Gm.pure 22 rfl (by kernel_rfl) (fun _ => Y.skip (unwantG rfl rfl rfl)) ?_))))))))))))
              refine Gm.pure 23 rfl (by kernel_rfl) (fun _ => Y.skip (unwantG rfl rfl rfl)) (Gm.pure 24 rfl (by kernel_rfl) (fun _ => Y.skip (unwantG rfl rfl rfl)) (Gm.pure 25 rfl (by kernel_rfl) (fun _ => Y.skip (unwantG rfl rfl rfl)) (Gm.pure 26 rfl (by kernel_rfl) (fun _ => Y.skip (unwantG rfl rfl rfl)) (Gm.pure 27 rfl (by kernel_rfl) (fun _ => Y.pickT (v := (Value.bool true)) rfl rfl rfl rfl) (Gm.end (by kernel_rfl) ?_)))))
              exact Th.m ⟨_, h, _, eqUpd rfl (eqMask (by repeat' (first | exact Off.refl _ _ | refine Off.u rfl ?_ | refine Off.m rfl ?_)))⟩
            · refine Gm.pure 10 rfl (by kernel_rfl) (fun _ => Y.fa 258 (wantG rfl rfl hb39) Try.runUnderlying27 rfl Try.sizeOf24 (by decide) rfl rfl) ?_
              obtain ⟨x40, hcx40, h⟩ := h
              refine Gm.quiet 11 rfl (by kernel_rfl) (fun _ hw => Y.ld (wantG rfl rfl hb39) Try.isAgg24 rfl hw) hcx40 (Gm.pure 12 rfl (by kernel_rfl) (fun _ => Y.mv (v := (vI q32)) (wantG rfl rfl hb39) rfl) ?_)
              obtain ⟨a41, a410, ha, hi, he, h⟩ := h
              refine Gm.pure 13 rfl (by kernel_rfl) (fun _ => Y.ix (wantG rfl rfl hb39) Try.runUnderlying24 Try.sizeOf3 rfl rfl ha hi he) ?_
              obtain ⟨x42, hcx42, h⟩ := h
              refine Gm.quiet 14 rfl (by kernel_rfl) (fun _ hw => Y.ld (wantG rfl rfl hb39) Try.isAgg3 rfl hw) hcx42 (Gm.pure 15 rfl (by kernel_rfl) (fun _ => Y.lss (wantG rfl rfl hb39) rfl rfl) (Gm.pure 16 rfl (by kernel_rfl) (fun _ => Y.pickF (v := (Value.bool (decide (x42 < 0)))) rfl rfl hb39 rfl) (Gm.pure 17 rfl (by kernel_rfl) (fun _ => Y.mv (v := (Value.bool (decide (x42 < 0)))) rfl rfl) ?_)))
              refine M.split h (fun hb43 h => ?_) (fun hb43 h => ?_)
              · refine Gm.pure 18 rfl (by kernel_rfl) (fun _ => Y.skip (unwantG rfl rfl hb43)) (Gm.pure 19 rfl (by kernel_rfl) (fun _ => Y.skip (unwantG rfl rfl hb43)) (Gm.pure 20 rfl (by kernel_rfl) (fun _ => Y.skip (unwantG rfl rfl hb43)) (Gm.pure 21 rfl (by kernel_rfl) (fun _ => Y.skip (unwantG rfl rfl hb43)) (Gm.pure 22 rfl (by kernel_rfl) (fun _ => Y.skip (unwantG rfl rfl hb43)) (Gm.pure 23 rfl (by kernel_rfl) (fun _ => Y.skip (unwantG rfl rfl hb43)) (Gm.pure 24 rfl (by kernel_rfl) (fun _ => Y.skip (unwantG rfl rfl hb43)) (Gm.pure 25 rfl (by kernel_rfl) (fun _ => Y.skip (unwantG rfl rfl hb43)) (Gm.pure 26 rfl (by kernel_rfl) (fun _ => Y.skip (unwantG rfl rfl hb43)) (Gm.pure 27 rfl (by kernel_rfl) (fun _ => Y.pickT (v := (Value.bool true)) rfl rfl hb43 rfl) (Gm.end (by kernel_rfl) ?_))))))))))
                exact Th.m ⟨_, h, _, eqUpd rfl (eqMask (by repeat' (first | exact Off.refl _ _ | refine Off.u rfl ?_ | refine Off.m rfl ?_)))⟩
              · refine Gm.pure 18 rfl (by kernel_rfl) (fun _ => Y.fa 258 (wantG rfl rfl hb43) Try.runUnderlying27 rfl Try.sizeOf24 (by decide) rfl rfl) ?_
                obtain ⟨x44, hcx44, h⟩ := h
                refine Gm.quiet 19 rfl (by kernel_rfl) (fun _ hw => Y.ld (wantG rfl rfl hb43) Try.isAgg24 rfl hw) hcx44 (Gm.pure 20 rfl (by kernel_rfl) (fun _ => Y.mv (v := (vI q32)) (wantG rfl rfl hb43) rfl) ?_)
                obtain ⟨a45, a450, ha, hi, he, h⟩ := h
                refine Gm.pure 21 rfl (by kernel_rfl) (fun _ => Y.ix (wantG rfl rfl hb43) Try.runUnderlying24 Try.sizeOf3 rfl rfl ha hi he) ?_
                obtain ⟨x46, hcx46, h⟩ := h
                refine Gm.quiet 22 rfl (by kernel_rfl) (fun _ hw => Y.ld (wantG rfl rfl hb43) Try.isAgg3 rfl hw) hcx46 (Gm.pure 23 rfl (by kernel_rfl) (fun _ => Y.fa 259 (wantG rfl rfl hb43) Try.runUnderlying27 rfl Try.sizeOf25 (by decide) rfl rfl) ?_)
                obtain ⟨x47, hcx47, h⟩ := h
                refine Gm.quiet 24 rfl (by kernel_rfl) (fun _ hw => Y.ld (wantG rfl rfl hb43) Try.isAgg25 rfl hw) hcx47 (Gm.pure 25 rfl (by kernel_rfl) (fun _ => Y.len (wantG rfl rfl hb43) Try.runUnderlying25 rfl) (Gm.pure 26 rfl (by kernel_rfl) (fun _ => Y.gtr (wantG rfl rfl hb43) rfl rfl) (Gm.pure 27 rfl (by kernel_rfl) (fun _ => Y.pickF (v := (Value.bool (decide ((x47.len : Int) < x46)))) rfl rfl hb43 rfl) (Gm.end (by kernel_rfl) ?_))))
                exact Th.m ⟨_, h, _, eqUpd rfl (eqMask (by repeat' (first | exact Off.refl _ _ | refine Off.u rfl ?_ | refine Off.m rfl ?_)))⟩
          · refine Dw.cond rfl (fun hb67 => ?_) (fun hb67 => ?_)
            · replace h := M.iteT h hb67
              refine Dw.seq (Dw.region (Dl.q (Y.asg (v := (Value.bool false)) rfl rfl) (Dl.nil (Th.m (Dw.ret (Th.r (InB.r (Th.r (Th.r (InB.r (Th.r ?_)))))))))))
              exact fin1 rfl ⟨_, rfl, h⟩
            · replace h := M.iteF h hb67
              refine Dw.skip (Th.m (Dw.seq (Dw.region (Dl.q (Y.asg (v := (vI 0)) rfl rfl) (Dl.nil (Th.m (Dw.block ?_)))))))
              refine Dw.loopM (fun s j r => upd (mask r j 340282364385637263006915804438361800836) 7 (vI s)) h ⟨_, eqUpd rfl (eqMask (by repeat' (first | exact Off.refl _ _ | refine Off.u rfl ?_ | refine Off.m rfl ?_)))⟩ ?_
              intro I m q49 j w h
              refine Dw.seq (Dw.seq (Dw.region (Dl.q (Y.mv (v := (vI q49)) rfl rfl) (Dl.q (Y.fa 256 rfl Try.runUnderlying27 rfl Try.sizeOf3 (by decide) rfl rfl) ?_))))
              obtain ⟨x51, hcx51, h⟩ := h
              refine Dl.q (Y.ld rfl Try.isAgg3 rfl hcx51) (Dl.q (Y.lss rfl rfl rfl) (Dl.nil (Th.m ?_)))
              refine Dw.cond rfl (fun hb66 => ?_) (fun hb66 => ?_)
              · replace h := M.iteT h hb66
                refine Dw.skip (Th.m (Dw.seq (Dw.block ?_)))
                refine Dw.joinM (fun s j r => upd (mask r j 340282204661661634250011215853757923328) 127 (Value.bool s)) h (fun C h => ?_) (fun q64 j w h => ?_)
                · refine Dw.region (Dl.q (Y.fa 257 rfl Try.runUnderlying27 rfl Try.sizeOf23 (by decide) rfl rfl) ?_)
                  obtain ⟨x53, hcx53, h⟩ := h
                  refine Dl.q (Y.ld rfl Try.isAgg23 rfl hcx53) (Dl.q (Y.mv (v := (vI q32)) rfl rfl) ?_)
                  obtain ⟨a54, a540, ha, hi, he, h⟩ := h
                  refine Dl.q (Y.ix rfl Try.runUnderlying23 Try.sizeOf24 rfl rfl ha hi he) ?_
                  obtain ⟨x55, hcx55, h⟩ := h
                  refine Dl.q (Y.ld rfl Try.isAgg24 rfl hcx55) (Dl.q (Y.mv (v := (vI q49)) rfl rfl) ?_)
                  obtain ⟨a56, a560, ha, hi, he, h⟩ := h
                  refine Dl.q (Y.ix rfl Try.runUnderlying24 Try.sizeOf3 rfl rfl ha hi he) ?_
                  obtain ⟨x57, hcx57, h⟩ := h
                  refine Dl.q (Y.ld rfl Try.isAgg3 rfl hcx57) (Dl.q (Y.lss rfl rfl rfl) (Dl.q (Y.mv (v := (Value.bool (decide (x57 < 0)))) rfl rfl) ?_))
                  refine M.split h (fun hb58 h => ?_) (fun hb58 h => ?_)
                  · refine Dl.q (Y.skip (unwantG rfl rfl hb58)) (Dl.q (Y.skip (unwantG rfl rfl hb58)) (Dl.q (Y.skip (unwantG rfl rfl hb58)) (Dl.q (Y.skip (unwantG rfl rfl hb58)) (Dl.q (Y.skip (unwantG rfl rfl hb58)) (Dl.q (Y.skip (unwantG rfl rfl hb58)) (Dl.q (Y.skip (unwantG rfl rfl hb58)) (Dl.q (Y.skip (unwantG rfl rfl hb58)) (Dl.q (Y.skip (unwantG rfl rfl hb58)) (Dl.q (Y.skip (unwantG rfl rfl hb58)) (Dl.q (Y.pickT (v := (Value.bool true)) rfl rfl hb58 rfl) (Dl.nil ?_)))))))))))
                    exact Th.m ⟨_, h, _, eqUpd rfl (eqMask (by repeat' (first | exact Off.refl _ _ | refine Off.u rfl ?_ | refine Off.m rfl ?_)))⟩
                  · refine Dl.q (Y.fa 257 (wantG rfl rfl hb58) Try.runUnderlying27 rfl Try.sizeOf23 (by decide) rfl rfl) ?_
                    obtain ⟨x59, hcx59, h⟩ := h
                    refine Dl.q (Y.ld (wantG rfl rfl hb58) Try.isAgg23 rfl hcx59) (Dl.q (Y.mv (v := (vI q32)) (wantG rfl rfl hb58) rfl) ?_)
                    obtain ⟨a60, a600, ha, hi, he, h⟩ := h
                    refine Dl.q (Y.ix (wantG rfl rfl hb58) Try.runUnderlying23 Try.sizeOf24 rfl rfl ha hi he) ?_
                    obtain ⟨x61, hcx61, h⟩ := h
                    refine Dl.q (Y.ld (wantG rfl rfl hb58) Try.isAgg24 rfl hcx61) (Dl.q (Y.mv (v := (vI q49)) (wantG rfl rfl hb58) rfl) ?_)
                    obtain ⟨a62, a620, ha, hi, he, h⟩ := h
                    refine Dl.q (Y.ix (wantG rfl rfl hb58) Try.runUnderlying24 Try.sizeOf3 rfl rfl ha hi he) ?_
                    obtain ⟨x63, hcx63, h⟩ := h
                    refine Dl.q (Y.ld (wantG rfl rfl hb58) Try.isAgg3 rfl hcx63) (Dl.q (Y.mv (v := (vI (x2.len : Int))) (wantG rfl rfl hb58) rfl) (Dl.q (Y.geq (wantG rfl rfl hb58) rfl rfl) (Dl.q (Y.pickF (v := (Value.bool (decide ((x2.len : Int) ≤ x63)))) rfl rfl hb58 rfl) (Dl.nil ?_))))
                    exact Th.m ⟨_, h, _, eqUpd rfl (eqMask (by repeat' (first | exact Off.refl _ _ | refine Off.u rfl ?_ | refine Off.m rfl ?_)))⟩
                · refine Dw.cond rfl (fun hb65 => ?_) (fun hb65 => ?_)
                  · replace h := M.iteT h hb65
                    refine Dw.seq (Dw.region (Dl.q (Y.asg (v := (Value.bool false)) rfl rfl) (Dl.nil (Th.m (Dw.ret (InB.r (Th.r (Th.r (InB.r (InB.r (Th.r (Th.r ?_))))))))))))
                    refine InB.r (Th.r ?_)
                    exact fin1 rfl ⟨_, rfl, h⟩
                  · replace h := M.iteF h hb65
                    refine Dw.skip (InB.m (Th.m (Dw.region (Dl.q (Y.mv (v := (vI q49)) rfl rfl) (Dl.q (Y.add rfl rfl rfl) (Dl.q (Y.asg (v := (vI (wI (q49 + 1)))) rfl rfl) (Dl.nil ?_)))))))
                    exact Th.m ⟨_, h, _, eqUpd rfl (eqMask (by repeat' (first | exact Off.refl _ _ | refine Off.u rfl ?_ | refine Off.m rfl ?_)))⟩
              · replace h := M.iteF h hb66
                refine Dw.exit (Th.e (Th.e (InB.e (InB.m (Th.m (Dw.region (Dl.q (Y.mv (v := (vI q32)) rfl rfl) (Dl.q (Y.add rfl rfl rfl) (Dl.q (Y.asg (v := (vI (wI (q32 + 1)))) rfl rfl) (Dl.nil ?_))))))))))
                exact Th.m ⟨_, h, _, eqUpd rfl (eqMask (by repeat' (first | exact Off.refl _ _ | refine Off.u rfl ?_ | refine Off.m rfl ?_)))⟩
        · replace h := M.iteF h hb68
          refine Dw.exit (Th.e (Th.e (InB.e (Th.m (Dw.seq (Dw.region (Dl.q (Y.asg (v := (Value.bool true)) rfl rfl) (Dl.nil (Th.m (Dw.ret ?_))))))))))
          exact fin1 rfl ⟨_, rfl, h⟩
set_option maxHeartbeats 1000000 in
set_option maxRecDepth 20000 in
theorem r20_Trim {p0 : Dfv} {w : World} {R : Dfv → World → Prop} (h : S.r20_Trim p0 w R) : Calls Try.prog 34 [(.agg (Dfv.cs p0).toArray)].toArray w (Ret (fun x : Dfv => .agg (Dfv.cs x).toArray) R) := by
  refine calls_of Try.func34 rfl rfl rfl (by kernel_rfl) rfl ?_
  unfold S.r20_Trim at h
  refine Dw.seq (Dw.region ?_)
  refine Dl.n (N.box rfl h rfl rfl fun b1 _ h => ?_)
  refine Dl.n (N.new rfl Try.zeroValue27 h (by kernel_rfl) fun b2 _ h => ?_)
  refine Dl.nil (Th.m (Dw.seq (Dw.game (by kernel_rfl) ?_)))
  replace h := M.drew_un h
  generalize World.drew _ = w at h ⊢
  obtain ⟨v3, hcv3, h⟩ := h
  refine Gm.quiet 0 rfl (by kernel_rfl) (fun _ hw => Y.ldA rfl Try.isAgg27 Try.sizeOf27 (Dfv_len _) rfl hw) hcv3 ?_
  obtain ⟨v4, hcv4, h⟩ := h
  refine Gm.quiet 1 rfl (by kernel_rfl) (fun _ hw => Y.ldA rfl Try.isAgg27 Try.sizeOf27 (Dfv_len _) rfl hw) hcv4 ?_
  obtain ⟨h, h2⟩ := h
  refine Gm.two' 2 7 rfl rfl (by kernel_rfl) (.drop (by kernel_rfl) (.keep (by kernel_rfl) .nil)) (.keep (by kernel_rfl) (.keep (by kernel_rfl) .nil)) ?_ ?_
  · refine N.call rfl Try.call65 rfl h ?_
    intro r5 w h
    obtain ⟨hp6, h⟩ := h
    refine ⟨(pdC hp6 pdN), ?_⟩
    obtain ⟨h, h2⟩ := h
    refine Gm.two' 3 7 rfl rfl (by kernel_rfl) (.drop (by kernel_rfl) .nil) (.keep (by kernel_rfl) .nil) ?_ ?_
    · refine N.call rfl Try.call64 rfl h ?_
      intro r7 w h
      refine ⟨pdN, ?_⟩
      refine Gm.pure 4 rfl (by kernel_rfl) (fun _ => Y.mv (v := (.tuple #[(.agg (Dfv.cs r7.1).toArray), (vI r7.2)])) rfl rfl) (Gm.pure 5 rfl (by kernel_rfl) (fun _ => Y.ext rfl rfl rfl) (Gm.pure 6 rfl (by kernel_rfl) (fun _ => Y.ext rfl rfl rfl) (Gm.one' 7 rfl (by kernel_rfl) .nil (N.new rfl Try.zeroValue27 h (by kernel_rfl) fun b8 _ h => ?_))))
      refine ⟨pdN, ?_⟩
      generalize World.alloc _ _ = w at h ⊢
      refine Gm.one' 8 rfl (by kernel_rfl) .nil ?_
      refine N.stA rfl Try.sizeOf27 h rfl rfl (Dfv_len _) (Dfv_one _) fun h => ?_
      refine ⟨pdN, ?_⟩
      generalize setCells _ _ _ _ = w at h ⊢
      refine Gm.pure 9 rfl (by kernel_rfl) (fun _ => Y.asg (v := (vI r7.2)) rfl rfl) (Gm.end (by kernel_rfl) (Th.m (Dw.seq (Dw.region ?_))))
      obtain ⟨v9, hcv9, h⟩ := h
      refine Dl.q (Y.ldA rfl Try.isAgg27 Try.sizeOf27 (Dfv_len _) rfl hcv9) ?_
      refine Dl.n (N.stA rfl Try.sizeOf27 h rfl rfl (Dfv_len _) (Dfv_one _) fun h => ?_)
      generalize setCells _ _ _ _ = w at h ⊢
      refine Dl.nil (Th.m (Dw.ret ?_))
      obtain ⟨v10, hc, h⟩ := h
      exact finC Try.isAgg27 Try.sizeOf27 (Dfv_len _) rfl hc ⟨_, rfl, h⟩
    · replace h := h2
      refine N.new rfl Try.zeroValue27 h (by kernel_rfl) fun b11 _ h => ?_
      obtain ⟨hp12, h⟩ := h
      refine ⟨(pdC hp12 pdN), ?_⟩
      generalize World.alloc _ _ = w at h ⊢
      refine Gm.one' 3 rfl (by kernel_rfl) (.drop (by kernel_rfl) .nil) (N.call rfl Try.call64 rfl h ?_)
      intro r13 w h
      refine ⟨pdN, ?_⟩
      refine Gm.pure 4 rfl (by kernel_rfl) (fun _ => Y.mv (v := (.tuple #[(.agg (Dfv.cs r13.1).toArray), (vI r13.2)])) rfl rfl) (Gm.pure 5 rfl (by kernel_rfl) (fun _ => Y.ext rfl rfl rfl) (Gm.pure 6 rfl (by kernel_rfl) (fun _ => Y.ext rfl rfl rfl) (Gm.one' 8 rfl (by kernel_rfl) .nil ?_)))
      refine N.stA rfl Try.sizeOf27 h rfl rfl (Dfv_len _) (Dfv_one _) fun h => ?_
      refine ⟨pdN, ?_⟩
      generalize setCells _ _ _ _ = w at h ⊢
      refine Gm.pure 9 rfl (by kernel_rfl) (fun _ => Y.asg (v := (vI r13.2)) rfl rfl) (Gm.end (by kernel_rfl) (Th.m (Dw.seq (Dw.region ?_))))
      obtain ⟨v14, hcv14, h⟩ := h
      refine Dl.q (Y.ldA rfl Try.isAgg27 Try.sizeOf27 (Dfv_len _) rfl hcv14) ?_
      refine Dl.n (N.stA rfl Try.sizeOf27 h rfl rfl (Dfv_len _) (Dfv_one _) fun h => ?_)
      generalize setCells _ _ _ _ = w at h ⊢
      refine Dl.nil (Th.m (Dw.ret ?_))
      obtain ⟨v15, hc, h⟩ := h
      exact finC Try.isAgg27 Try.sizeOf27 (Dfv_len _) rfl hc ⟨_, rfl, h⟩
  · replace h := h2
    refine N.new rfl Try.zeroValue27 h (by kernel_rfl) fun b16 _ h => ?_
    obtain ⟨hp17, h⟩ := h
    obtain ⟨hp18, h⟩ := h
    refine ⟨(pdC hp17 (pdC hp18 pdN)), ?_⟩
    generalize World.alloc _ _ = w at h ⊢
    refine Gm.one' 2 rfl (by kernel_rfl) (.drop (by kernel_rfl) (.keep (by kernel_rfl) .nil)) (N.call rfl Try.call65 rfl h ?_)
    intro r19 w h
    obtain ⟨hp20, h⟩ := h
    refine ⟨(pdC hp20 pdN), ?_⟩
    refine Gm.one' 3 rfl (by kernel_rfl) (.drop (by kernel_rfl) .nil) (N.call rfl Try.call64 rfl h ?_)
    intro r21 w h
    refine ⟨pdN, ?_⟩
    refine Gm.pure 4 rfl (by kernel_rfl) (fun _ => Y.mv (v := (.tuple #[(.agg (Dfv.cs r21.1).toArray), (vI r21.2)])) rfl rfl) (Gm.pure 5 rfl (by kernel_rfl) (fun _ => Y.ext rfl rfl rfl) (Gm.pure 6 rfl (by kernel_rfl) (fun _ => Y.ext rfl rfl rfl) (Gm.one' 8 rfl (by kernel_rfl) .nil ?_)))
    refine N.stA rfl Try.sizeOf27 h rfl rfl (Dfv_len _) (Dfv_one _) fun h => ?_
    refine ⟨pdN, ?_⟩
    generalize setCells _ _ _ _ = w at h ⊢
    refine Gm.pure 9 rfl (by kernel_rfl) (fun _ => Y.asg (v := (vI r21.2)) rfl rfl) (Gm.end (by kernel_rfl) (Th.m (Dw.seq (Dw.region ?_))))
    obtain ⟨v22, hcv22, h⟩ := h
    refine Dl.q (Y.ldA rfl Try.isAgg27 Try.sizeOf27 (Dfv_len _) rfl hcv22) ?_
    refine Dl.n (N.stA rfl Try.sizeOf27 h rfl rfl (Dfv_len _) (Dfv_one _) fun h => ?_)
    generalize setCells _ _ _ _ = w at h ⊢
    refine Dl.nil (Th.m (Dw.ret ?_))
    obtain ⟨v23, hc, h⟩ := h
    exact finC Try.isAgg27 Try.sizeOf27 (Dfv_len _) rfl hc ⟨_, rfl, h⟩
set_option maxHeartbeats 1000000 in
set_option maxRecDepth 20000 in
theorem r23_Of {p0 : Dfv} {p1 : Sl} {w : World} {R : (Dfv × Int) → World → Prop} (h : S.r23_Of p0 p1 w R) : Calls Try.prog 35 [(.agg (Dfv.cs p0).toArray), (Sl.val p1)].toArray w (Ret (fun x : (Dfv × Int) => .tuple #[(.agg (Dfv.cs x.1).toArray), (vI x.2)]) R) := by
  refine calls_of Try.func35 rfl rfl rfl (by kernel_rfl) rfl ?_
  unfold S.r23_Of at h
  refine Dw.seq (Dw.region ?_)
  refine Dl.n (N.box rfl h rfl rfl fun b1 _ h => ?_)
  refine Dl.n (N.new rfl Try.zeroValue27 h (by kernel_rfl) fun b2 _ h => ?_)
  refine Dl.q (Y.asg (v := (vI 0)) rfl rfl) (Dl.nil (Th.m (Dw.seq (Dw.seq (Dw.region ?_)))))
  obtain ⟨v3, hcv3, h⟩ := h
  refine Dl.q (Y.ldA rfl Try.isAgg27 Try.sizeOf27 (Dfv_len _) rfl hcv3) ?_
  refine Dl.n (N.call rfl Try.call33 rfl h ?_)
  intro r4 w h
  refine Dl.q (Y.not rfl rfl) (Dl.nil (Th.m ?_))
  refine Dw.cond rfl (fun hb50 => ?_) (fun hb50 => ?_)
  · replace h := M.iteT h hb50
    refine Dw.seq (Dw.region (Dl.q (Y.bld [] rfl rfl (Dfv_b _ )) ?_))
    refine Dl.n (N.stA rfl Try.sizeOf27 h rfl rfl (Dfv_len _) (Dfv_one _) fun h => ?_)
    generalize setCells _ _ _ _ = w at h ⊢
    refine Dl.q (Y.asg (v := (vI 6)) rfl rfl) (Dl.nil (Th.m (Dw.ret (Th.r ?_))))
    obtain ⟨v5, hc, h⟩ := h
    exact finC2 Try.isAgg27 Try.sizeOf27 (Dfv_len _) rfl rfl hc ⟨_, rfl, h⟩
  · replace h := M.iteF h hb50
    refine Dw.skip (Th.m (Dw.seq (Dw.seq (Dw.region ?_))))
    obtain ⟨v6, hcv6, h⟩ := h
    refine Dl.q (Y.ldA rfl Try.isAgg27 Try.sizeOf27 (Dfv_len _) rfl hcv6) (Dl.q (Y.mv (v := (Sl.val p1)) rfl rfl) ?_)
    refine Dl.n (N.call rfl Try.call66 rfl h ?_)
    intro r7 w h
    refine Dl.q (Y.not rfl rfl) (Dl.nil (Th.m ?_))
    refine Dw.cond rfl (fun hb49 => ?_) (fun hb49 => ?_)
    · replace h := M.iteT h hb49
      refine Dw.seq (Dw.region (Dl.q (Y.bld [] rfl rfl (Dfv_b _ )) ?_))
      refine Dl.n (N.stA rfl Try.sizeOf27 h rfl rfl (Dfv_len _) (Dfv_one _) fun h => ?_)
      generalize setCells _ _ _ _ = w at h ⊢
      refine Dl.q (Y.asg (v := (vI 1)) rfl rfl) (Dl.nil (Th.m (Dw.ret (Th.r ?_))))
      obtain ⟨v8, hc, h⟩ := h
      exact finC2 Try.isAgg27 Try.sizeOf27 (Dfv_len _) rfl rfl hc ⟨_, rfl, h⟩
    · replace h := M.iteF h hb49
      refine Dw.skip (Th.m (Dw.seq (Dw.region (Dl.q (Y.mv (v := (Sl.val p1)) rfl rfl) ?_))))
      refine Dl.n (N.call rfl Try.call67 rfl h ?_)
      intro r9 w h
      refine Dl.q (Y.asg (v := (Sl.val r9)) rfl rfl) (Dl.nil (Th.m (Dw.seq (Dw.region (Dl.q (Y.fa 0 rfl Try.runUnderlying27 rfl Try.sizeOf22 (by decide) rfl rfl) ?_)))))
      obtain ⟨v10, hcv10, h⟩ := h
      refine Dl.q (Y.ldA rfl Try.isAgg22 Try.sizeOf22 (Ar_len _) rfl hcv10) (Dl.q (Y.fa 256 rfl Try.runUnderlying27 rfl Try.sizeOf3 (by decide) rfl rfl) ?_)
      obtain ⟨x11, hcx11, h⟩ := h
      refine Dl.q (Y.ld rfl Try.isAgg3 rfl hcx11) (Dl.q (Y.fa 259 rfl Try.runUnderlying27 rfl Try.sizeOf25 (by decide) rfl rfl) ?_)
      obtain ⟨x12, hcx12, h⟩ := h
      refine Dl.q (Y.ld rfl Try.isAgg25 rfl hcx12) (Dl.q (Y.bld [(0, (.agg (Ar.cs v10).toArray)), (1, (vI x11)), (4, (Sl.val x12))] rfl rfl (Dfv_b014 _ _ _ _)) ?_)
      refine Dl.n (N.new rfl Try.zeroValue27 h (by kernel_rfl) fun b13 _ h => ?_)
      refine Dl.n (N.stA rfl Try.sizeOf27 h rfl rfl (Dfv_len _) (Dfv_one _) fun h => ?_)
      generalize setCells _ _ _ _ = w at h ⊢
      refine Dl.nil (Th.m (Dw.seq (Dw.seq (Dw.region (Dl.q (Y.asg (v := (vI 0)) rfl rfl) (Dl.nil (Th.m (Dw.block ?_))))))))
      refine Dw.loopM (fun s j r => upd (mask r j 1208925819614628637837056) 8 (vI s)) h ⟨_, eqUpd rfl (eqMask (by repeat' (first | exact Off.refl _ _ | refine Off.u rfl ?_ | refine Off.m rfl ?_)))⟩ ?_
      intro I m q14 j w h
      refine Dw.seq (Dw.seq (Dw.region (Dl.q (Y.mv (v := (vI q14)) rfl rfl) (Dl.q (Y.mv (v := (Sl.val r9)) rfl rfl) (Dl.q (Y.len rfl Try.runUnderlying24 rfl) (Dl.q (Y.lss rfl rfl rfl) (Dl.nil (Th.m ?_))))))))
      refine Dw.cond rfl (fun hb48 => ?_) (fun hb48 => ?_)
      · replace h := M.iteT h hb48
        refine Dw.skip (Th.m (Dw.seq (Dw.block (Dw.seq (Dw.seq (Dw.game (by kernel_rfl) ?_))))))
        replace h := M.drew_un h
        generalize World.drew _ = w at h ⊢
        refine Gm.pure 0 rfl (by kernel_rfl) (fun _ => Y.mv (v := (Sl.val r9)) rfl rfl) (Gm.pure 1 rfl (by kernel_rfl) (fun _ => Y.mv (v := (vI q14)) rfl rfl) ?_)
        obtain ⟨a16, a160, ha, hi, he, h⟩ := h
        refine Gm.pure 2 rfl (by kernel_rfl) (fun _ => Y.ix rfl Try.runUnderlying24 Try.sizeOf3 rfl rfl ha hi he) ?_
        obtain ⟨x17, hcx17, h⟩ := h
        refine Gm.quiet 3 rfl (by kernel_rfl) (fun _ hw => Y.ld rfl Try.isAgg3 rfl hw) hcx17 (Gm.pure 4 rfl (by kernel_rfl) (fun _ => Y.fa 258 rfl Try.runUnderlying27 rfl Try.sizeOf24 (by decide) rfl rfl) ?_)
        obtain ⟨x18, hcx18, h⟩ := h
        refine Gm.quiet 5 rfl (by kernel_rfl) (fun _ hw => Y.ld rfl Try.isAgg24 rfl hw) hcx18 (Gm.pure 6 rfl (by kernel_rfl) (fun _ => Y.len rfl Try.runUnderlying24 rfl) (Gm.pure 7 rfl (by kernel_rfl) (fun _ => Y.neI rfl rfl rfl) (Gm.end (by kernel_rfl) (Th.m ?_))))
        refine Dw.cond rfl (fun hb45 => ?_) (fun hb45 => ?_)
        · replace h := M.iteT h hb45
          refine Dw.exit (Th.e (InB.e (Th.m (Dw.region (Dl.q (Y.mv (v := (vI q14)) rfl rfl) (Dl.q (Y.add rfl rfl rfl) (Dl.q (Y.asg (v := (vI (wI (q14 + 1)))) rfl rfl) (Dl.nil ?_))))))))
          exact Th.m ⟨_, h, _, eqUpd rfl (eqMask (by repeat' (first | exact Off.refl _ _ | refine Off.u rfl ?_ | refine Off.m rfl ?_)))⟩
        · replace h := M.iteF h hb45
          refine Dw.skip (Th.m (Dw.seq (Dw.region ?_)))
          refine Dl.n (N.mkS rfl Try.runUnderlying24 Try.sizeOf3 Try.zeroValue3 h rfl rfl rfl rfl rfl fun b19 _ h => ?_)
          refine Dl.q (Y.asg (v := (Sl.val (⟨some b19, 0, 0⟩ : Sl))) rfl rfl) (Dl.nil (Th.m (Dw.seq (Dw.seq (Dw.region (Dl.q (Y.asg (v := (vI 0)) rfl rfl) (Dl.nil (Th.m (Dw.block ?_)))))))))
          refine Dw.loopM (fun s j r => upd (upd (mask r j 18446726481523508736) 9 (Sl.val s.1)) 10 (vI s.2)) h ⟨_, eqUpd rfl (eqUpd rfl (eqMask (by repeat' (first | exact Off.refl _ _ | refine Off.u rfl ?_ | refine Off.m rfl ?_))))⟩ ?_
          intro I m q20 j w h
          refine Dw.seq (Dw.seq (Dw.region (Dl.q (Y.mv (v := (vI q20.2)) rfl rfl) (Dl.q (Y.fa 256 rfl Try.runUnderlying27 rfl Try.sizeOf3 (by decide) rfl rfl) ?_))))
          obtain ⟨x22, hcx22, h⟩ := h
          refine Dl.q (Y.ld rfl Try.isAgg3 rfl hcx22) (Dl.q (Y.lss rfl rfl rfl) (Dl.nil (Th.m ?_)))
          refine Dw.cond rfl (fun hb44 => ?_) (fun hb44 => ?_)
          · replace h := M.iteT h hb44
            refine Dw.skip (Th.m (Dw.seq (Dw.block (Dw.region (Dl.q (Y.mv (v := (Sl.val q20.1)) rfl rfl) (Dl.q (Y.mv (v := (Sl.val r9)) rfl rfl) (Dl.q (Y.fa 257 rfl Try.runUnderlying27 rfl Try.sizeOf23 (by decide) rfl rfl) ?_)))))))
            obtain ⟨x23, hcx23, h⟩ := h
            refine Dl.q (Y.ld rfl Try.isAgg23 rfl hcx23) (Dl.q (Y.mv (v := (vI q14)) rfl rfl) ?_)
            obtain ⟨a24, a240, ha, hi, he, h⟩ := h
            refine Dl.q (Y.ix rfl Try.runUnderlying23 Try.sizeOf24 rfl rfl ha hi he) ?_
            obtain ⟨x25, hcx25, h⟩ := h
            refine Dl.q (Y.ld rfl Try.isAgg24 rfl hcx25) (Dl.q (Y.mv (v := (vI q20.2)) rfl rfl) ?_)
            obtain ⟨a26, a260, ha, hi, he, h⟩ := h
            refine Dl.q (Y.ix rfl Try.runUnderlying24 Try.sizeOf3 rfl rfl ha hi he) ?_
            obtain ⟨x27, hcx27, h⟩ := h
            refine Dl.q (Y.ld rfl Try.isAgg3 rfl hcx27) ?_
            obtain ⟨a28, a280, ha, hi, he, h⟩ := h
            refine Dl.q (Y.ix rfl Try.runUnderlying24 Try.sizeOf3 rfl rfl ha hi he) ?_
            obtain ⟨x29, hcx29, h⟩ := h
            refine Dl.q (Y.ld rfl Try.isAgg3 rfl hcx29) ?_
            refine Dl.n (N.mkS rfl Try.runUnderlying24 Try.sizeOf3 Try.zeroValue3 h rfl rfl rfl rfl rfl fun b30 _ h => ?_)
            obtain ⟨s31, w, ha, h⟩ := h
            refine Dl.n (N.blt rfl rfl (fun _ => rfl) ha ?_)
            refine Dl.q (Y.asg (v := (Sl.val s31)) rfl rfl) (Dl.nil (InB.m (Th.m (Dw.region (Dl.q (Y.mv (v := (vI q20.2)) rfl rfl) (Dl.q (Y.add rfl rfl rfl) (Dl.q (Y.asg (v := (vI (wI (q20.2 + 1)))) rfl rfl) (Dl.nil ?_))))))))
            exact Th.m ⟨_, h, _, eqUpd rfl (eqUpd rfl (eqMask (by repeat' (first | exact Off.refl _ _ | refine Off.u rfl ?_ | refine Off.m rfl ?_))))⟩
          · replace h := M.iteF h hb44
            refine Dw.exit (Th.e (Th.e (InB.e (Th.m (Dw.seq (Dw.region (Dl.q (Y.fa 257 rfl Try.runUnderlying27 rfl Try.sizeOf23 (by decide) rfl rfl) ?_)))))))
            obtain ⟨x32, hcx32, h⟩ := h
            refine Dl.q (Y.ld rfl Try.isAgg23 rfl hcx32) (Dl.q (Y.mv (v := (Sl.val q20.1)) rfl rfl) ?_)
            refine Dl.n (N.mkS rfl Try.runUnderlying23 Try.sizeOf24 Try.zeroValue24 h rfl rfl rfl rfl rfl fun b33 _ h => ?_)
            obtain ⟨s34, w, ha, h⟩ := h
            refine Dl.n (N.blt rfl rfl (fun _ => rfl) ha ?_)
            refine Dl.q (Y.fa 257 rfl Try.runUnderlying27 rfl Try.sizeOf23 (by decide) rfl rfl) ?_
            refine Dl.n (N.st rfl Try.sizeOf23 h rfl rfl rfl rfl rfl fun h => ?_)
            refine Dl.nil (Th.m (Dw.game (by kernel_rfl) ?_))
            replace h := M.drew_un h
            generalize World.drew _ = w at h ⊢
            refine Gm.pure 0 rfl (by kernel_rfl) (fun _ => Y.fa 258 rfl Try.runUnderlying27 rfl Try.sizeOf24 (by decide) rfl rfl) ?_
            obtain ⟨x35, hcx35, h⟩ := h
            refine Gm.quiet 1 rfl (by kernel_rfl) (fun _ hw => Y.ld rfl Try.isAgg24 rfl hw) hcx35 (Gm.pure 2 rfl (by kernel_rfl) (fun _ => Y.fa 258 rfl Try.runUnderlying27 rfl Try.sizeOf24 (by decide) rfl rfl) ?_)
            obtain ⟨x36, hcx36, h⟩ := h
            refine Gm.quiet 3 rfl (by kernel_rfl) (fun _ hw => Y.ld rfl Try.isAgg24 rfl hw) hcx36 (Gm.pure 4 rfl (by kernel_rfl) (fun _ => Y.mv (v := (vI q14)) rfl rfl) ?_)
            obtain ⟨a37, a370, ha, hi, he, h⟩ := h
            refine Gm.pure 5 rfl (by kernel_rfl) (fun _ => Y.ix rfl Try.runUnderlying24 Try.sizeOf3 rfl rfl ha hi he) ?_
            obtain ⟨x38, hcx38, h⟩ := h
            refine Gm.quiet 6 rfl (by kernel_rfl) (fun _ hw => Y.ld rfl Try.isAgg3 rfl hw) hcx38 (Gm.one' 7 rfl (by kernel_rfl) (.drop (by kernel_rfl) (.keep (by kernel_rfl) (.keep (by kernel_rfl) .nil))) (N.mkS rfl Try.runUnderlying24 Try.sizeOf3 Try.zeroValue3 h rfl rfl rfl rfl rfl fun b39 _ h => ?_))
            obtain ⟨hp40, h⟩ := h
            obtain ⟨hp41, h⟩ := h
            refine ⟨(pdC hp40 (pdC hp41 pdN)), ?_⟩
            generalize World.alloc _ _ = w at h ⊢
            refine Gm.one' 8 rfl (by kernel_rfl) (.keep (by kernel_rfl) (.drop (by kernel_rfl) .nil)) ?_
            obtain ⟨s42, w, ha, h⟩ := h
            refine N.blt rfl rfl (fun _ => rfl) ha ?_
            obtain ⟨hp43, h⟩ := h
            refine ⟨(pdC hp43 pdN), ?_⟩
            refine Gm.pure 9 rfl (by kernel_rfl) (fun _ => Y.fa 258 rfl Try.runUnderlying27 rfl Try.sizeOf24 (by decide) rfl rfl) (Gm.one' 10 rfl (by kernel_rfl) (.drop (by kernel_rfl) .nil) ?_)
            refine N.st rfl Try.sizeOf24 h rfl rfl rfl rfl rfl fun h => ?_
            refine ⟨pdN, ?_⟩
            generalize World.setCell _ _ _ = w at h ⊢
            refine Gm.end (by kernel_rfl) (InB.m (Th.m (Dw.region (Dl.q (Y.mv (v := (vI q14)) rfl rfl) (Dl.q (Y.add rfl rfl rfl) (Dl.q (Y.asg (v := (vI (wI (q14 + 1)))) rfl rfl) (Dl.nil ?_)))))))
            exact Th.m ⟨_, h, _, eqUpd rfl (eqMask (by repeat' (first | exact Off.refl _ _ | refine Off.u rfl ?_ | refine Off.m rfl ?_)))⟩
      · replace h := M.iteF h hb48
        refine Dw.exit (Th.e (Th.e (InB.e (Th.m (Dw.seq (Dw.region ?_))))))
        obtain ⟨v46, hcv46, h⟩ := h
        refine Dl.q (Y.ldA rfl Try.isAgg27 Try.sizeOf27 (Dfv_len _) rfl hcv46) ?_
        refine Dl.n (N.stA rfl Try.sizeOf27 h rfl rfl (Dfv_len _) (Dfv_one _) fun h => ?_)
        generalize setCells _ _ _ _ = w at h ⊢
        refine Dl.q (Y.asg (v := (vI 0)) rfl rfl) (Dl.nil (Th.m (Dw.ret ?_)))
        obtain ⟨v47, hc, h⟩ := h
        exact finC2 Try.isAgg27 Try.sizeOf27 (Dfv_len _) rfl rfl hc ⟨_, rfl, h⟩
end L
end Go.Proofs.Ythepabefikobpaa
