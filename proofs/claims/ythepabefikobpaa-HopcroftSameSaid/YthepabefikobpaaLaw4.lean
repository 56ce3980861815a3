/- The statement HopcroftSame is proved: whatever the machine, the law answers true and the machine reads as before. No condition. -/
import Derived.Test.YthepabefikobpaaOpen1
namespace Go.Proofs.Ythepabefikobpaa
open Go Go.Sh Go.Sp
namespace C
theorem hopcroftSame {w : World} {d : Dfv} {m : Mc} (h : DfaAt w d m) :
    Calls Try.prog 4 [.agg (Dfv.cs d).toArray].toArray w (Ret Value.bool fun r w' => r = true ∧ Grow w w') := by
  apply L.law25_HopcroftSame
  unfold S.law25_HopcroftSame
  refine M.new_of fun b1 w1 hb1 hB1 hg1 hs1 => M.drew_of fun w2 _ hg2 => ?_
  have hB1 := hB1.g hg2
  have hG2 := hg1.trans hg2
  refine M.ldA0 hB1 rfl (M.call_of (r24_Right (n := 500) (h.chg hG2)) ?_)
  rintro r3 w3 ⟨hr3, hg3⟩
  have hB1 := hB1.g hg3
  have hG3 := hG2.trans hg3
  refine M.ifb (fun _ => ⟨rfl, hG3⟩) (fun hr => ?_)
  refine M.ldA0 hB1 rfl (M.ldA0 hB1 rfl (M.call_of (hopcroft_Blocks (h.chg hG3)) ?_))
  rintro r7 w4 ⟨hr7, hg4⟩
  have hB1 := hB1.g hg4
  have hG4 := hG3.trans hg4
  refine ⟨hB1.cells, M.call_of (moore_Blocks (h.chg hG4)) ?_⟩
  rintro r9 w5 ⟨hr9, hg5⟩
  have hG5 := hG4.trans hg5
  obtain ⟨l, hb, h7, h9⟩ : ∃ l : List Int, l.length ≤ Big ∧ Rd 1 (fun _ => True) w5 r7 (l.map vI) ∧ Rd 1 (fun _ => True) w5 r9 (l.map vI) := by
    rcases hr7 with ⟨h0, rfl⟩ | ⟨h1, l, hl, h7⟩ <;> rcases hr9 with ⟨h0', rfl⟩ | ⟨h1', l', hl', h9⟩
    · exact ⟨[], by simp, Rd.nil _ _ _ _ rfl, Rd.nil _ _ _ _ rfl⟩
    · rw [h0] at h1'; cases h1'
    · rw [h0'] at h1; cases h1
    · have e := hl.eq hl' fun _ _ _ _ => Iff.rfl
      subst e
      have := hl.len
      have := (Mx.ok_of h1).n2
      exact ⟨l, by simp only [Big]; omega, (h7.g hg5).rd fun _ _ => trivial, h9⟩
  refine M.call_of (r17_Same h7 h9 hb) ?_
  rintro r10 w6 ⟨rfl, hg6⟩
  refine M.ifb (fun _ => M.call_of knows ?_) (fun hr => by simp at hr)
  rintro r12 w7 ⟨rfl, hg7⟩
  exact ⟨rfl, (hG5.trans hg6).trans hg7⟩
end C
open Go.ChangeShapes Go.WideShapes Go.ChangeAt Go.RowKit
theorem Try.own : ownKnob Try.prog.godebug = none := by kernel_rfl
theorem Try.laidOut : laidOutB Try.prog = true := by kernel_rfl
set_option maxRecDepth 100000 in
theorem hopcroftSame_lifted (os : Os) (started : os.Started) (H : Type) (enc : TypeId × Value → H) :
    ReturnsInHanded {} Try.checked os 4 .any (Rows.hopcroftSameSpec.pre6 enc Try.prog Try.f4 Rows.hopcroftSameRow.domain false) (Rows.hopcroftSameSpec.post enc Try.prog Try.f4 false true false false) := by
  refine returnsInHanded_of_change (C := Try.checked) Try.own started (by kernel_rfl) Try.func4
    (ChangeSpec.witness6 (enc := enc) (C := Try.checked) false ⟨#[], #[.agg (Dfv.cs zeroD).toArray], []⟩ 8 (by kernel_rfl) (by kernel_rfl) (by kernel_rfl) (by kernel_rfl)) ?_
  intro W base args ds gs before hval0 hW hcnd _
  have hval : ∀ (j : Nat) t v, Try.f4.params[j]? = some t → args[j]? = some v → Value.okWide Try.prog W .any base t v := hval0
  have hW' := hW
  obtain ⟨p, q, hA0, hV, rfl, hfz, hnd⟩ := hW
  have hA : DataW.TrodAll enc Try.prog W 0 (fun _ => true) true Try.f4.params.toList args.toList ds p := hA0
  rw [Try.params4] at hA hval
  obtain ⟨v0, vs0, d0, ds0, p0, q0, hargs, rfl, rfl, h0, r0⟩ := trodAll_cons hA
  obtain ⟨rfl, rfl, rfl⟩ := trodAll_nil r0
  obtain rfl : args = #[v0] := by cases args; simp_all
  obtain ⟨rfl, rfl⟩ := trodVars_none hV
  have k0 := h0
  have lt0 : ∀ x ∈ p0, x.block < W.heap.size := by obtain ⟨m, hm⟩ := k0; exact DataW.trod_lt m _ _ _ hm
  obtain ⟨d, m, rfl, hd⟩ := open_dfa (hval 0 27 v0 rfl rfl) h0
  clear hA0 hval0
  refine (C.hopcroftSame hd).mono fun e W' ⟨r, he, hr, hg⟩ => ?_
  subst hr
  subst he
  have bel := hg.below
  exact ⟨_, rfl, _, _, _, [], _, [], hW', trodAll_mk1 (shut_bool Try.underlying4 _), (trodAll_cons_mk (Below.trod Try.laidOut (by kernel_rfl) (of_decide_eq_true (by kernel_rfl)) k0 bel lt0) trodAll_mk0), rfl, bel.frame _, fun h => by cases h⟩
theorem hopcroftSame_over : Rows.hopcroftSameRow.holds Try.pinned (OpenSpec.ofChange Rows.hopcroftSameSpec) :=
  OpenClaim.holds_of_wide 4 Try.f4 rfl rfl rfl rfl rfl rfl rfl ⟨rfl, rfl, rfl, rfl, rfl⟩ rfl rfl rfl rfl rfl (by kernel_rfl) Try.func4 (by kernel_rfl)
    (of_decide_eq_true (by kernel_rfl)) (by unfold Func.isWrapper; first | (rw [if_pos (by decide +kernel)]; kernel_rfl) | (rw [if_neg (by decide +kernel)]; exact ⟨rfl, rfl⟩))
    (fun os started H enc _ => hopcroftSame_lifted os started H enc)
theorem hopcroftSame_holds : Rows.HopcroftSameSaid := hopcroftSame_over
#print axioms hopcroftSame_holds
end Go.Proofs.Ythepabefikobpaa
