/- The statement HopcroftBlocks is proved: whatever the machine, the law answers true and the machine reads as before. No condition. -/
import Derived.Test.YthepabefikobpaaC27
import Derived.Test.YthepabefikobpaaOpen1
import Derived.Test.YthepabefikobpaaLiftF3
namespace Go.Proofs.Ythepabefikobpaa
open Go Go.Sh Go.Sp
namespace Mx
theorem IsSm.uniq {m q q' : Mc} (h : IsSm m q) (h' : IsSm m q') : q = q' := by
  obtain ⟨l, hl, rfl⟩ := h
  obtain ⟨l', hl', rfl⟩ := h'
  rw [hl.eq hl' fun _ _ _ _ => Iff.rfl]
theorem IsSm.size {m q : Mc} (ho : Ok m) (h : IsSm m q) : q.next.length ≤ 65536 ∧ q.label.length ≤ 65536 ∧ q.names.length ≤ 65536 ∧ ∀ r ∈ q.next, r.length ≤ 65536 := by
  obtain ⟨l, hl, rfl⟩ := h
  have h1 := hl.len
  have h2 := (trim_ok ho).n2
  have h3 := fo_length_le l
  have h4 : (hdN l).length ≤ 65536 := by rw [hdN, List.length_map]; omega
  have h5 := (trim_ok ho).k2
  refine ⟨by simp [quo]; omega, by simp [quo]; omega, ?_, fun r hr => ?_⟩
  · have := ho.names
    rw [C.namesB, Bool.and_eq_true, decide_eq_true_eq] at this
    show m.names.length ≤ 65536
    omega
  · simp only [quo, List.mem_map] at hr
    obtain ⟨s, _, rfl⟩ := hr
    simp only [List.length_map, List.length_range]
    omega
end Mx
namespace C
theorem hopcroftBlocks {w : World} {d : Dfv} {m : Mc} (h : DfaAt w d m) :
    Calls Try.prog 3 [.agg (Dfv.cs d).toArray].toArray w (Ret Value.bool fun r w' => r = true ∧ Grow w w') := by
  apply L.law25_HopcroftBlocks
  unfold S.law25_HopcroftBlocks
  refine M.new_of fun b1 w1 hb1 hB1 hg1 hs1 => M.ldA0 hB1 rfl (M.call_of (hopcroft_Small (h.chg hg1)) ?_)
  rintro r3 w2 ⟨hr3, hg2⟩
  have hB1 := hB1.g hg2
  have hG2 := hg1.trans hg2
  have hsz2 := hg2.size
  refine M.new_of fun b4 w3 hb4 hB4 hg3 hs3 => M.stA_of hB4 (by simp [Dfv_len]) fun w4 hB4 hc4 hs4 => ?_
  have hg24 : Grow w2 w4 := Chg.fresh hg3 hc4 fun b hb => by omega
  have hG4 := hG2.trans hg24
  have hB1 := hB1.g hg24
  refine M.ldA0 hB1 rfl (M.call_of (dfa_Right (h.chg hG4)) ?_)
  rintro _ w5 ⟨rfl, hg5⟩
  have hB1 := hB1.g hg5
  have hB4 := hB4.g hg5
  have hG5 := hG4.trans hg5
  refine M.ifb (fun h1 => ?_) (fun h1 => ?_)
  · have h1 : rightB m = false := by simpa using h1
    rcases hr3 with ⟨_, rfl⟩ | ⟨h0, _⟩
    rotate_left
    · rw [h1] at h0; cases h0
    refine M.ldA0 hB1 rfl (M.call_of (hopcroft_Blocks (h.chg hG5)) ?_)
    rintro r8 w6 ⟨hr8, hg6⟩
    rcases hr8 with ⟨_, rfl⟩ | ⟨h0, _⟩
    rotate_left
    · rw [h1] at h0; cases h0
    have hB1 := hB1.g hg6
    have hB4 := hB4.g hg6
    have hG6 := hG5.trans hg6
    refine M.if_ (fun _ => M.ldA0 hB1 rfl (M.call_of (hopcroft_Splits (h.chg hG6)) ?_)) (fun h0 => absurd rfl h0)
    rintro r11 w7 ⟨hr11, hg7⟩
    rcases hr11 with ⟨_, rfl⟩ | ⟨h0, _⟩
    rotate_left
    · rw [h1] at h0; cases h0
    have hB4 := hB4.g hg7
    refine M.if_ (fun _ => M.if_ (fun _ => M.ldB 258 hB4 (Dfv_258 _) (M.if_ (fun _ => M.call_of knows ?_) (fun h0 => absurd rfl h0))) (fun h0 => absurd rfl h0)) (fun h0 => absurd rfl h0)
    rintro r16 w8 ⟨rfl, hg8⟩
    exact ⟨rfl, (hG6.trans hg7).trans hg8⟩
  have h1 : rightB m = true := by simpa using h1
  have ho := Mx.ok_of h1
  rcases hr3 with ⟨h0, _⟩ | ⟨_, he, q, hq, hD⟩
  · rw [h1] at h0; cases h0
  have hD := ((hD.lt.g hg3).chg hc4 fun y hy e => by omega).at
  refine M.ldA0 hB1 rfl (M.call_of (r24_Right (n := 40) (h.chg hG5)) ?_)
  rintro r18 w6 ⟨hr18, hg6⟩
  have hB1 := hB1.g hg6
  have hB4 := hB4.g hg6
  have hG6 := hG5.trans hg6
  refine M.ifb (fun _ => M.call_of knows ?_) (fun _ => ?_)
  · rintro r19 w7 ⟨rfl, hg7⟩
    exact ⟨rfl, hG6.trans hg7⟩
  refine M.ldA0 hB1 rfl (M.call_of (r25_Small (h.chg hG6)) ?_)
  rintro r21 w7 ⟨hr21, hg7⟩
  rcases hr21 with ⟨h0, _⟩ | ⟨_, he', q', hq', hD'⟩
  · rw [h1] at h0; cases h0
  have hqq := hq'.uniq hq
  subst hqq
  have hB1 := hB1.g hg7
  have hB4 := hB4.g hg7
  have hG7 := hG6.trans hg7
  have hsz7 := hg7.size
  have hD'' := hD'.old
  refine M.new_of fun b22 w8 hb22 hB22 hg8 hs8 => M.stA_of hB22 (by simp [Dfv_len]) fun w9 hB22 hc9 hs9 => M.drew_of fun w10 _ hg10 => ?_
  have hg710 : Grow w7 w10 := (Chg.fresh hg8 hc9 fun b hb => by omega : Grow w7 w9).trans hg10
  have hG10 := hG7.trans hg710
  have hB1 := hB1.g hg710
  have hB4 := hB4.g hg710
  have hB22 := hB22.g hg10
  refine M.ldA0 hB1 rfl (M.ldA0 hB1 rfl (M.call_of (hopcroft_Blocks (h.chg hG10)) ?_))
  rintro r25 w11 ⟨hr25, hg11⟩
  rcases hr25 with ⟨h0, _⟩ | ⟨_, l, hl, hr25⟩
  · rw [h1] at h0; cases h0
  refine ⟨(hB1.g hg11).cells, M.call_of (r24_Blocks (h.chg (hG10.trans hg11)) ho) ?_⟩
  rintro r27 w12 ⟨⟨l', hl', hr27⟩, hg12⟩
  have e := hl'.eq hl fun _ _ _ _ => Iff.rfl
  subst e
  have hll := hl.len
  have hn2 := ho.n2
  refine M.call_of (r17_Same ((hr25.g hg12).rd (S := fun _ => True) fun _ _ => trivial) (hr27.rd fun _ _ => trivial) (by simp only [Big]; omega)) ?_
  rintro r28 w13 ⟨rfl, hg13⟩
  have hg1013 := (hg11.trans hg12).trans hg13
  have hB1 := hB1.g hg1013
  have hG13 := hG10.trans hg1013
  refine M.ifb (fun _ => ?_) (fun h0 => by simp at h0)
  refine M.ldA0 hB1 rfl (M.ldA0 hB1 rfl (M.call_of (hopcroft_Splits (h.chg hG13)) ?_))
  rintro r32 w14 ⟨hr32, hg14⟩
  rcases hr32 with ⟨h0, _⟩ | ⟨_, l2, hl2, rfl⟩
  · rw [h1] at h0; cases h0
  refine ⟨(hB1.g hg14).cells, M.call_of (r25_Splits (h.chg (hG13.trans hg14)) ho) ?_⟩
  rintro r34 w15 ⟨⟨l3, hl3, rfl⟩, hg15⟩
  have e := hl3.eq hl2 fun _ _ _ _ => Iff.rfl
  subst e
  have hg1315 := hg14.trans hg15
  have hg1015 := hg1013.trans hg1315
  refine M.if_ (fun _ => M.if_ (fun _ => ?_) (fun h0 => absurd (he.trans he'.symm) h0)) (fun h0 => absurd rfl h0)
  obtain ⟨z1, z2, z3, z4⟩ := hq.size ho
  refine M.ldA0 (hB4.g hg1015) rfl (M.ldA0 (hB22.g hg1015) rfl (M.call_of (r20_Same (hD.chg (((hg5.trans hg6).trans hg7).trans (hg710.trans hg1015))) (((hD''.g hg8).chg hc9 fun y hy e => by omega).at.chg (hg10.trans hg1015)) z1 z2 z3 z4) ?_))
  rintro r39 w16 ⟨rfl, hg16⟩
  refine M.ifb (fun _ => M.call_of knows ?_) (fun h0 => by cases h0)
  rintro r41 w17 ⟨rfl, hg17⟩
  exact ⟨rfl, ((hG10.trans hg1015).trans hg16).trans hg17⟩
end C
open Go.ChangeShapes Go.WideShapes Go.ChangeAt Go.RowKit
theorem Try.own3 : ownKnob Try.prog.godebug = none := by kernel_rfl
theorem Try.laidOut3 : laidOutB Try.prog = true := by kernel_rfl
set_option maxRecDepth 100000 in
theorem hopcroftBlocks_lifted (os : Os) (started : os.Started) (H : Type) (enc : TypeId × Value → H) :
    ReturnsInHanded {} Try.checked os 3 .any (Rows.hopcroftBlocksSpec.pre6 enc Try.prog Try.f3 Rows.hopcroftBlocksRow.domain false) (Rows.hopcroftBlocksSpec.post enc Try.prog Try.f3 false true false false) := by
  refine returnsInHanded_of_change (C := Try.checked) Try.own3 started (by kernel_rfl) Try.func3
    (ChangeSpec.witness6 (enc := enc) (C := Try.checked) false ⟨#[], #[.agg (Dfv.cs zeroD).toArray], []⟩ 8 (by kernel_rfl) (by kernel_rfl) (by kernel_rfl) (by kernel_rfl)) ?_
  intro W base args ds gs before hval0 hW hcnd _
  have hval : ∀ (j : Nat) t v, Try.f3.params[j]? = some t → args[j]? = some v → Value.okWide Try.prog W .any base t v := hval0
  have hW' := hW
  obtain ⟨p, q, hA0, hV, rfl, hfz, hnd⟩ := hW
  have hA : DataW.TrodAll enc Try.prog W 0 (fun _ => true) true Try.f3.params.toList args.toList ds p := hA0
  rw [Try.params3] at hA hval
  obtain ⟨v0, vs0, d0, ds0, p0, q0, hargs, rfl, rfl, h0, r0⟩ := trodAll_cons hA
  obtain ⟨rfl, rfl, rfl⟩ := trodAll_nil r0
  obtain rfl : args = #[v0] := by cases args; simp_all
  obtain ⟨rfl, rfl⟩ := trodVars_none hV
  have k0 := h0
  have lt0 : ∀ x ∈ p0, x.block < W.heap.size := by obtain ⟨m, hm⟩ := k0; exact DataW.trod_lt m _ _ _ hm
  obtain ⟨d, m, rfl, hd⟩ := open_dfa (hval 0 27 v0 rfl rfl) h0
  clear hA0 hval0
  refine (C.hopcroftBlocks hd).mono fun e W' ⟨r, he, hr, hg⟩ => ?_
  subst hr
  subst he
  have bel := hg.below
  exact ⟨_, rfl, _, _, _, [], _, [], hW', trodAll_mk1 (shut_bool Try.underlying4 _), (trodAll_cons_mk (Below.trod Try.laidOut3 (by kernel_rfl) (of_decide_eq_true (by kernel_rfl)) k0 bel lt0) trodAll_mk0), rfl, bel.frame _, fun h => by cases h⟩
theorem hopcroftBlocks_over : Rows.hopcroftBlocksRow.holds Try.pinned (OpenSpec.ofChange Rows.hopcroftBlocksSpec) :=
  OpenClaim.holds_of_wide 3 Try.f3 rfl rfl rfl rfl rfl rfl rfl ⟨rfl, rfl, rfl, rfl, rfl⟩ rfl rfl rfl rfl rfl (by kernel_rfl) Try.func3 (by kernel_rfl)
    (of_decide_eq_true (by kernel_rfl)) (by unfold Func.isWrapper; first | (rw [if_pos (by decide +kernel)]; kernel_rfl) | (rw [if_neg (by decide +kernel)]; exact ⟨rfl, rfl⟩))
    (fun os started H enc _ => hopcroftBlocks_lifted os started H enc)
theorem hopcroftBlocks_holds : Rows.HopcroftBlocksSaid := hopcroftBlocks_over
#print axioms hopcroftBlocks_holds
end Go.Proofs.Ythepabefikobpaa
