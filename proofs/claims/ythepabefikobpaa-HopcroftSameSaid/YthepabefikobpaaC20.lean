/- Contracts: dfa.Trim, hopcroft.Small. Conditions: as each states. -/
import Derived.Test.YthepabefikobpaaC19
namespace Go.Sh
open Go
theorem Rd.lt {m : Nat} {S : Nat → Prop} {w : World} {s : Sl} {vs : List Value} (hm : 0 < m) (h : Rd m S w s vs) : Rd m (fun b => S b ∧ b < w.heap.size) w s vs :=
  h.mono2 hm fun _ hb hs => ⟨hs, hb⟩
theorem RdIn.lt {S : Nat → Prop} {w : World} {s : Sl} {L : List (List Int)} (h : RdIn S w s L) : RdIn (fun b => S b ∧ b < w.heap.size) w s L := by
  obtain ⟨ss, h1, h2, h3⟩ := h
  exact ⟨ss, h1.lt (by decide), h2, fun i t r hi hr => (h3 i t r hi hr).lt (by decide)⟩
theorem DfaIn.lt {S : Nat → Prop} {w : World} {d : Dfv} {m : Mc} (h : DfaIn S w d m) : DfaIn (fun b => S b ∧ b < w.heap.size) w d m :=
  ⟨h.of, h.byte, h.width, h.next.lt, h.label.lt (by decide), h.names.lt (by decide), h.size⟩
end Go.Sh
namespace Go.Proofs.Ythepabefikobpaa
open Go Go.Sh Go.Sp
namespace Mx
theorem num_stab {m : Mc} (ho : Ok m) {l : List Int} (h : C.IsNum (Alk m) (n m) l) : (decide (l.length = n m) && stabB m l) = true := by
  have hl := h.len
  rw [Bool.and_eq_true, decide_eq_true_eq]
  refine ⟨hl, ?_⟩
  rw [stabB, List.all_eq_true]
  intro s hs
  have hs := List.mem_range.1 hs
  have h2 := hd_lt (l := l) (s := s) (by omega)
  have h3 := (h.at (x := hd l s) (y := s) (by omega) hs).1 (hd_get (by omega))
  rw [Bool.and_eq_true, decide_eq_true_eq, List.all_eq_true]
  refine ⟨(alk_lab (h3 0)).symm, fun c hc => ?_⟩
  have hc := List.mem_range.1 hc
  rw [decide_eq_true_eq, h.at (ho.nx s c hs hc).1 (ho.nx _ c (by omega) hc).1]
  exact fun j => alk_symm (Alk_next h3 hc j)
/-- The least machine's blocks: numbered so that states are alike just where they have one number. -/
def IsSm (m q : Mc) : Prop := ∃ L : List Int, C.IsNum (Alk (trim m)) (n (trim m)) L ∧ q = quo (trim m) L
end Mx
namespace C
theorem dfa_Trim {w : World} {d : Dfv} {m : Mc} (h : DfaAt w d m) :
    Calls Try.prog 22 [.agg (Dfv.cs d).toArray].toArray w (Ret (fun x : (Dfv × Int) => .tuple #[(.agg (Dfv.cs x.1).toArray), (vI x.2)]) fun r w' =>
      ((rightB m = false ∧ r = (zeroD, 6)) ∨ (rightB m = true ∧ r.2 = 0 ∧ DfaIn (fun b => w.heap.size ≤ b) w' r.1 (Mx.trim m))) ∧ Grow w w') := by
  apply L.dfa_Trim
  unfold S.dfa_Trim
  refine M.new_of fun b1 w1 hb1 hB1 hg1 hs1 => M.new_of fun b2 w2 hb2 hB2 hg2 hs2 => M.drew_of fun w3 _ hg3 => ?_
  have hG := (hg1.trans hg2).trans hg3
  have hB1 := hB1.g (hg2.trans hg3)
  have hB2 := hB2.g hg3
  have hl1 := hB1.lt
  have hl2 := hB2.lt
  refine M.ldA0 hB1 rfl (M.ldA0 hB1 rfl (M.call_of (dfa_Reach (h.chg hG)) ?_))
  rintro r5 w4 ⟨hr, hg4⟩
  have hG4 := hG.trans hg4
  have hsz4 := hg4.size
  refine ⟨(hB1.g hg4).cells, M.call_of (dfa_Keep (F := fun _ => True) (l := Mx.reach m) (h.chg hG4) fun h1 => ?_) ?_⟩
  · rcases hr with ⟨h0, _⟩ | ⟨_, hr⟩
    · rw [h1] at h0; cases h0
    · exact ⟨Mx.reach_kp (Mx.ok_of h1), hr⟩
  rintro r7 w5 ⟨hr7, hg5⟩
  have hG5 := hG4.trans hg5
  have hszG := hG4.size
  refine M.stA_of (hB2.g (hg4.trans hg5)) (by simp [Dfv_len]) fun w6 hB6 hc6 hs6 => M.ldA0 hB6 rfl ⟨?_, Chg.fresh hG5 hc6 fun b hb => by have := hg1.size; omega⟩
  rcases hr7 with ⟨h0, rfl⟩ | ⟨h1, h2, h3⟩
  · exact .inl ⟨h0, rfl⟩
  · exact .inr ⟨h1, h2, (h3.chg hc6 fun b hb e => by omega).mono fun b hb => by omega⟩
theorem hopcroft_Small {w : World} {d : Dfv} {m : Mc} (h : DfaAt w d m) :
    Calls Try.prog 6 [.agg (Dfv.cs d).toArray].toArray w (Ret (fun x : (Dfv × Int) => .tuple #[(.agg (Dfv.cs x.1).toArray), (vI x.2)]) fun r w' =>
      ((rightB m = false ∧ r = (zeroD, 6)) ∨ (rightB m = true ∧ r.2 = 0 ∧ ∃ q, Mx.IsSm m q ∧ DfaIn (fun b => w.heap.size ≤ b) w' r.1 q)) ∧ Grow w w') := by
  apply L.hopcroft_Small
  unfold S.hopcroft_Small
  refine M.new_of fun b1 w1 hb1 hB1 hg1 hs1 => M.new_of fun b2 w2 hb2 hB2 hg2 hs2 => ?_
  have hG := hg1.trans hg2
  have hB1 := hB1.g hg2
  have hl1 := hB1.lt
  have hl2 := hB2.lt
  have hszG := hG.size
  refine M.ldA0 hB1 rfl (M.call_of (dfa_Trim (h.chg hG)) ?_)
  rintro r4 w3 ⟨hr4, hg3⟩
  have hsz3 := hg3.size
  refine M.new_of fun b5 w4 hb5 hB5 hg4 hs4 => M.stA_of hB5 (by simp [Dfv_len]) fun w5 hB5 hc5 hs5 => ?_
  have hg25 : Grow w2 w5 := Chg.fresh (hg3.trans hg4) hc5 fun b hb => by omega
  have hG5 := hG.trans hg25
  have hB2 := hB2.g hg25
  have hl5 := hB5.lt
  rcases hr4 with ⟨h0, rfl⟩ | ⟨h1, h2, h3⟩
  · refine M.ifn (fun h => by simp at h) (fun _ => M.stA_of hB2 (by simp [Dfv_len]) fun w6 hB6 hc6 hs6 => M.ldA0 (x := zeroD) hB6 rfl ⟨.inl ⟨h0, rfl⟩, Chg.fresh hG5 hc6 fun b hb => by have := hg1.size; omega⟩)
  refine M.ifn (fun _ => ?_) (fun hn => absurd h2 hn)
  have ho := Mx.trim_ok (Mx.ok_of h1)
  have h3 := (h3.lt.g hg4).chg hc5 fun b hb e => by omega
  refine M.drew_of fun w6 _ hg6 => ?_
  have hB5 := hB5.g hg6
  have h3 := h3.g hg6
  refine M.ldA0 hB5 rfl (M.ldA0 hB5 rfl (M.call_of (hopcroft_Blocks h3.at) ?_))
  rintro r9 w7 ⟨hr9, hg7⟩
  rcases hr9 with ⟨h0, _⟩ | ⟨_, Ls, hN, hLs⟩
  · rw [Mx.right_of ho] at h0; cases h0
  refine ⟨(hB5.g hg7).cells, M.call_of (quotient_Of (h3.g hg7).at (hLs.rd (S := fun _ => True) fun _ _ => trivial)) ?_⟩
  rintro r11 w8 ⟨hr11, hg8⟩
  have hg58 := (hg6.trans hg7).trans hg8
  have hG8 := hG5.trans hg58
  have hsz7 := ((hg25.trans hg6).trans hg7).size
  refine M.stA_of (hB2.g hg58) (by simp [Dfv_len]) fun w9 hB9 hc9 hs9 => M.ldA0 hB9 rfl ⟨?_, Chg.fresh hG8 hc9 fun b hb => by have := hg1.size; omega⟩
  rw [Mx.num_stab ho hN, Mx.right_of ho] at hr11
  rcases hr11 with ⟨h0, _⟩ | ⟨_, h0, _⟩ | ⟨_, _, h4, h5⟩
  · cases h0
  · cases h0
  · exact .inr ⟨h1, h4, _, ⟨Ls, hN, rfl⟩, (h5.chg hc9 fun b hb e => by omega).mono fun b hb => by omega⟩
end C
end Go.Proofs.Ythepabefikobpaa
