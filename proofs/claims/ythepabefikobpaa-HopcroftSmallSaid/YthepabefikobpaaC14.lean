/- Contracts: hopcroft.Blocks, Splits. Conditions: as each states. -/
import Derived.Test.YthepabefikobpaaHop4
namespace Go.Proofs.Ythepabefikobpaa
open Go Go.Sh Go.Sp
namespace C
/-- The numbers of blocks. -/
def IsNum (P : Nat → Nat → Prop) (N : Nat) (l : List Int) : Prop := ∃ bl : Nat → Nat, l = numI ((List.range N).map bl) ∧ ∀ x y, x < N → y < N → (bl x = bl y ↔ P x y)
theorem IsNum.len {P : Nat → Nat → Prop} {N : Nat} {l : List Int} (h : IsNum P N l) : l.length = N := by
  obtain ⟨bl, rfl, _⟩ := h
  rw [numI_length]; simp
theorem IsNum.eq {P P' : Nat → Nat → Prop} {N : Nat} {l l' : List Int} (h : IsNum P N l) (h' : IsNum P' N l') (hp : ∀ x y, x < N → y < N → (P x y ↔ P' x y)) : l = l' := by
  obtain ⟨bl, rfl, h1⟩ := h
  obtain ⟨bl', rfl, h2⟩ := h'
  have : num ((List.range N).map bl) = num ((List.range N).map bl') := by
    refine num_congr _ _ (by simp) fun i j hi hj => ?_
    simp only [List.length_map, List.length_range] at hi hj
    simp only [List.getElem?_map, List.getElem?_range hi, List.getElem?_range hj, Option.map_some, Option.some.injEq]
    rw [h1 i j hi hj, h2 i j hi hj]
    exact hp i j hi hj
  simp only [numI, this]
theorem IsNum.of_list {α : Type} [DecidableEq α] {P : Nat → Nat → Prop} {N : Nat} {l : List α} (hl : l.length = N) (h : ∀ x y, x < N → y < N → (l[x]? = l[y]? ↔ P x y)) : IsNum P N (numI l) := by
  refine ⟨fun x => (num l).getD x 0, ?_, fun x y hx hy => by rw [num_same l (by omega) (by omega)]; exact h x y hx hy⟩
  have : num l = num ((List.range N).map fun x => (num l).getD x 0) := by
    refine num_congr _ _ (by simp [hl]) fun i j hi hj => ?_
    simp only [List.getElem?_map, List.getElem?_range (show i < N by omega), List.getElem?_range (show j < N by omega), Option.map_some, Option.some.injEq]
    exact (num_same l hi hj).symm
  show List.map Int.ofNat (num l) = _
  conv => lhs; rw [this]
  rfl
theorem hopcroft_Blocks {w : World} {d : Dfv} {m : Mc} (h : DfaAt w d m) :
    Calls Try.prog 8 [.agg (Dfv.cs d).toArray].toArray w (Ret Sl.val fun r w' => ((rightB m = false ∧ r = Sl.nil) ∨ (rightB m = true ∧ ∃ L : List Int, IsNum (Mx.Alk m) (Mx.n m) L ∧ Own w.heap.size w' r 3 1 (L.map vI))) ∧ Grow w w') := by
  apply L.hopcroft_Blocks
  unfold S.hopcroft_Blocks
  refine M.new_of fun b1 w1 hb1 hB1 hg1 hs1 => M.ldA0 hB1 rfl (M.call_of (dfa_Right (h.chg hg1)) ?_)
  rintro _ w2 ⟨rfl, hg2⟩
  have hG2 := hg1.trans hg2
  refine M.ifb (fun h1 => ⟨.inl ⟨by simpa using h1, rfl⟩, hG2⟩) (fun h1 => ?_)
  have h1 : rightB m = true := by simpa using h1
  have ho := Mx.ok_of h1
  have hn2 := ho.n2
  have hk2 := ho.k2
  have hB2 := hB1.g hg2
  refine M.ldA0 hB2 rfl (M.call_of (newParter (h.chg hG2) ho) ?_)
  rintro r w3 ⟨⟨n0, b, tag, p, s, hn0, rfl, hP, hPI, hmd, hW0, hrel⟩, hg3⟩
  have hG3 := hG2.trans hg3
  have hB3 := hB2.g hg3
  have hBN := hPI.le
  have hspl : p.spans.len = s.B := by have := hP.sp.len; rw [spc_len] at this; omega
  refine M.nn_of (M.ldB 3 hP.blk rfl ?_)
  rw [hspl]
  have hge := hP.ge
  have hszw := hG2.size
  have hgrow : ∀ {w' : World}, Chg (Pt tag) w3 w' → Grow w w' := fun hc => Chg.fresh hG3 hc fun y hy => by have := hge y hy.1 hy.2; omega
  have hb1c : ∀ {w' : World}, Chg (Pt tag) w3 w' → Blk w' b1 27 (Dfv.cs d) := fun hc => hB3.chg hc fun e => by have := hge b1 e.1 e.2; have := hB2.lt; omega
  have hKB : Mx.k m * s.B ≤ 256 * 65536 := Nat.mul_le_mul hk2 (by omega)
  have hwk : d.width = (Mx.k m : Int) := h.width.trans ho.width
  -- all blocks are asked for, by all classes
  refine M.loop_at (fun q w' => Chg (Pt tag) w3 w' ∧ ∃ (i : Nat) (tg : Nat → Nat) (p' : Ptv) (W : List (Nat × Nat)), q = (i : Int) ∧ i ≤ s.B ∧ (∀ x, x < w3.heap.size → tg x = tag x) ∧ PM n0 (Mx.n m) (Mx.k m) (bkOf m) w' tg b p' { s with W := W } ∧ W.Nodup ∧ (∀ q ∈ W, q.1 < i ∧ q.2 < Mx.k m) ∧ (∀ e c, e < i → c < Mx.k m → (e, c) ∈ W) ∧ W.length ≤ Mx.k m * i) (fun q _ => ((s.B : Int) - q).toNat)
    ⟨Chg.refl _ _, 0, tag, p, [], rfl, by omega, fun _ _ => rfl, by rw [← hW0]; exact hP, by simp, by simp, fun e c he => by omega, by simp⟩ ?_
  rintro _ w4 ⟨hc4, i, tg, p4, W, rfl, hi, htg, hP4, g1, g2, g3, g4⟩
  have hB4 := hb1c hc4
  refine M.if_ (fun hlt => ?_) (fun hge2 => ?_)
  · have hlt : i < s.B := by omega
    have hKi : Mx.k m * (i + 1) ≤ Mx.k m * s.B := Nat.mul_le_mul_left _ hlt
    rw [Nat.mul_add, Nat.mul_one] at hKi
    refine M.ldB 256 hB4 (Dfv_256 d) ?_
    rw [hwk]
    refine M.loop_at (fun q w' => Chg (Pt tag) w3 w' ∧ ∃ (c : Nat) (tg : Nat → Nat) (p' : Ptv) (W : List (Nat × Nat)), q = (c : Int) ∧ c ≤ Mx.k m ∧ (∀ x, x < w3.heap.size → tg x = tag x) ∧ PM n0 (Mx.n m) (Mx.k m) (bkOf m) w' tg b p' { s with W := W } ∧ W.Nodup ∧ (∀ q ∈ W, q.1 < i + 1 ∧ q.2 < Mx.k m) ∧ (∀ e z, e < i → z < Mx.k m → (e, z) ∈ W) ∧ (∀ z, z < c → (i, z) ∈ W) ∧ W.length ≤ Mx.k m * i + c) (fun q _ => ((Mx.k m : Int) - q).toNat)
      ⟨hc4, 0, tg, p4, W, rfl, by omega, htg, hP4, g1, fun q hq => by have := g2 q hq; omega, g3, fun z hz => by omega, by omega⟩ ?_
    clear hc4 hP4 g1 g2 g3 g4 htg hB4
    rintro _ w5 ⟨hc5, c, tg, p5, W, rfl, hc, htg, hP5, g1, g2, g3, g4, g5⟩
    refine M.if_ (fun hlt2 => ?_) (fun hge3 => ?_)
    · have hlt2 : c < Mx.k m := by omega
      refine M.call_of (parter_ask (x := (i, c)) hP5 (by simp only; omega)) ?_
      rintro _ w6 ⟨⟨tg6, p6, htg6, hP6⟩, hc6⟩
      rw [wI_succ (by simp only [Big]; omega)]
      have haW : ∀ q, q ∈ askW W (i, c) ↔ q ∈ W ∨ q = (i, c) := fun q => by
        rw [askW]
        split
        · rename_i hxW
          exact ⟨.inl, fun h => h.elim id fun e => e ▸ hxW⟩
        · simp
      have hsz := hc5.size
      refine ⟨⟨hc5.trans hc6 fun y hy e => by simp only [Pt] at e ⊢; rw [← htg y hy]; exact e, c + 1, tg6, p6, askW W (i, c), rfl, hlt2, fun y hy => by rw [htg6 y (by omega), htg y hy], hP6, ?_, fun q hq => ?_, fun e z he hz => (haW _).2 (.inl (g3 e z he hz)), fun z hz => ?_, ?_⟩, by omega⟩
      · rw [askW]
        split
        · exact g1
        · rename_i hxW
          rw [List.nodup_append]
          exact ⟨g1, by simp, fun a ha y hy e => by rw [List.mem_singleton] at hy; subst hy; subst e; exact hxW ha⟩
      · rcases (haW q).1 hq with h7 | h7
        · exact g2 q h7
        · rw [h7]; simp only; omega
      · by_cases e : z = c
        · subst e; exact (haW _).2 (.inr rfl)
        · exact (haW _).2 (.inl (g4 z (by omega)))
      · rw [askW]
        split
        · omega
        · rw [List.length_append, List.length_singleton]; omega
    · obtain rfl : c = Mx.k m := by omega
      rw [wI_succ (by simp only [Big]; omega)]
      refine ⟨⟨hc5, i + 1, tg, p5, W, rfl, hlt, htg, hP5, g1, g2, fun e z he hz => ?_, by rw [Nat.mul_add, Nat.mul_one]; exact g5⟩, by omega⟩
      by_cases h7 : e = i
      · subst h7; exact g4 z hz
      · exact g3 e z (by omega) hz
  obtain rfl : i = s.B := by omega
  have hHp : Mx.Hp m { s with W := W } := ⟨hPI.withW W, hmd, g1, g2, g4, fun x y hx hy e => (hrel x y hx hy).1 e, fun x y hx hy e => (hrel x y hx hy).2 (e 0), fun x y c hx hy hc _ _ => .inl (g3 _ c (hPI.bl_lt _ (ho.nx x c hx hc).1) hc)⟩
  -- as long as something waits
  refine M.loop_g (τ := (Nat → Nat) × Ptv × PS) (fun g _ w' => Chg (Pt tag) w3 w' ∧ (∀ x, x < w3.heap.size → g.1 x = tag x) ∧ PM n0 (Mx.n m) (Mx.k m) (bkOf m) w' g.1 b g.2.1 g.2.2 ∧ Mx.Hp m g.2.2) (fun g => Mx.Hp.μ m g.2.2) (tg, p4, _) ⟨hc4, htg, hP4, hHp⟩ ?_
  clear hc4 htg hP4 hHp g1 g2 g3 g4 hge2 hB4 W p4 tg w4
  rintro μ hμ ⟨tg, p4, s4⟩ _ w4 ⟨hc4, htg, hP4, hHp⟩ hmu
  simp only at hc4 htg hP4 hHp hmu
  have hB4 := hb1c hc4
  have hwl : p4.waits.len = s4.W.length := by have := hP4.wt.rd.len; rw [flat_prc] at this; omega
  have hP4N := hHp.pi.le
  have hKB4 : Mx.k m * s4.B ≤ 256 * 65536 := Nat.mul_le_mul hk2 (by omega)
  have hW4 := hHp.Wl
  have hsz4 := hc4.size
  refine M.nn_of (M.ldB 5 hP4.blk rfl (M.if_ (fun hlt => ?_) (fun hge2 => ?_)))
  · have hne : s4.W ≠ [] := by intro e; rw [e] at hwl; simp at hwl; omega
    refine M.call_of (parter_take hP4 (by omega) hne hHp.Wn) ?_
    rintro _ w5 ⟨rfl, ⟨tg5, p5, htg5, hP5⟩, hc5⟩
    have hlast := hHp.Wr _ (List.getLast_mem hne)
    have hnext := fun s' => Mx.Hp.next ho (s' := s') hHp hne
    have hdl : s4.W.dropLast.length ≤ s4.W.length := by simp
    have hnd : s4.W.dropLast.Nodup := hHp.Wn.sublist (List.dropLast_sublist _)
    have hrr : ∀ q ∈ s4.W.dropLast, q.1 < s4.B ∧ q.2 < Mx.k m := fun q hq => hHp.Wr q (List.dropLast_subset _ hq)
    generalize s4.W.getLast hne = q0 at hlast hnext
    refine M.new_of fun b20 w6 hb20 hB20 hg6 hs6 => M.stA_of hB20 (by simp [Pr_len]) fun w7 hB20 hc7 hs7 => ?_
    refine M.ixA_of (i := 0) (by omega) (M.ldB (x := ((q0.1 : Nat) : Int)) (0 * 1) hB20 rfl (M.ixA_of (i := 1) (by omega) (M.ldB (x := ((q0.2 : Nat) : Int)) (1 * 1) hB20 rfl ?_)))
    have hg57 : Grow w5 w7 := Chg.fresh hg6 hc7 fun y hy => by omega
    have hP7 := hP5.g hg57
    have hc45 : Chg (Pt tag) w3 w5 := hc4.trans hc5 fun y hy e => by simp only [Pt] at e ⊢; rw [← htg y hy]; exact e
    have hsz5 := hc45.size
    refine M.call_of (parter_by (nx := fun x => Mx.nx m x q0.2) hP7 (hHp.pi.withW _) hHp.md0 hn2 hk2 hlast.1 hlast.2 (by simp only; omega) hrr hnd (fun t ht => ⟨fun x => mem_bkOf, ?_⟩) fun x hx => (ho.nx x _ hx hlast.2).1) ?_
    · rw [bkOf]
      have := List.length_filter_le (fun x => decide (Mx.nx m x q0.2 = t)) (List.range (Mx.n m))
      simpa using this
    rintro _ w8 ⟨⟨tg8, p8, s8, htg8, hP8, hBy⟩, hc8⟩
    obtain ⟨n1, n2⟩ := hnext s8 hBy
    have htg3 : ∀ x, x < w3.heap.size → tg5 x = tag x := fun x hx => by rw [htg5 x (by omega), htg x hx]
    have hsz7 := hg57.size
    have hI : Chg (Pt tag) w3 w8 ∧ (∀ x, x < w3.heap.size → tg8 x = tag x) ∧ PM n0 (Mx.n m) (Mx.k m) (bkOf m) w8 tg8 b p8 s8 ∧ Mx.Hp m s8 :=
      ⟨(hc45.g hg57).trans hc8 fun y hy e => by simp only [Pt] at e ⊢; rw [← htg3 y hy]; exact e, fun x hx => by rw [htg8 x (by omega), htg3 x hx], hP8, n1⟩
    refine ⟨⟨(tg8, p8, s8), hI⟩, ?_⟩
    have := hμ (tg8, p8, s8) () w8 hI
    simp only at this
    omega
  · have hW0 : s4.W = [] := List.length_eq_zero_iff.1 (by omega)
    refine M.nn_of (M.ldB 2 hP4.blk rfl (M.call_of (quotient_Norm (Own.rd hP4.bl (S := fun _ => True) fun _ _ => trivial) (by simp; omega)) ?_))
    rintro r w5 ⟨ho5, hg5⟩
    have hgw4 := hgrow hc4
    refine ⟨.inr ⟨h1, _, ⟨s4.bl, ?_, hHp.done ho hW0⟩, ho5.base hgw4.size⟩, hgw4.trans hg5⟩
    have : num ((List.range (Mx.n m)).map (nI s4.bl)) = num ((List.range (Mx.n m)).map s4.bl) := by
      refine num_congr _ _ (by simp) fun i j hi hj => ?_
      simp only [List.length_map, List.length_range] at hi hj
      simp only [List.getElem?_map, List.getElem?_range hi, List.getElem?_range hj, Option.map_some, Option.some.injEq, nI]
      omega
    simp only [numI, this]
theorem hopcroft_Splits {w : World} {d : Dfv} {m : Mc} (h : DfaAt w d m) :
    Calls Try.prog 9 [.agg (Dfv.cs d).toArray].toArray w (Ret vI fun r w' => ((rightB m = false ∧ r = -1) ∨ (rightB m = true ∧ ∃ L : List Int, IsNum (Mx.Alk m) (Mx.n m) L ∧ r = ((fo L).length : Int) - ((fo m.label).length : Int))) ∧ Grow w w') := by
  apply L.hopcroft_Splits
  unfold S.hopcroft_Splits
  refine M.new_of fun b1 w1 hb1 hB1 hg1 hs1 => M.ldA0 hB1 rfl (M.call_of (hopcroft_Blocks (h.chg hg1)) ?_)
  rintro r w2 ⟨hr, hg2⟩
  have hG2 := hg1.trans hg2
  have hll : m.label.length = d.label.len := by simpa using h.label.len
  rcases hr with ⟨h1, rfl⟩ | ⟨h1, L, hL, hown⟩
  · exact M.if_ (fun _ => ⟨.inl ⟨h1, rfl⟩, hG2⟩) (fun h0 => (h0 rfl).elim)
  have ho := Mx.ok_of h1
  have hn1 := ho.n1
  have hn2 := ho.n2
  have hn : Mx.n m = m.label.length := rfl
  have hLl := hL.len
  have hrl := hown.len
  simp only [List.length_map, Nat.mul_one] at hrl
  refine M.if_ (fun h0 => by omega) (fun h0 => M.drew_of fun w3 _ hg3 => ?_)
  have hG3 := hG2.trans hg3
  have hB3 := hB1.g (hg2.trans hg3)
  refine M.ldB 258 hB3 (Dfv_258 d) (M.call_of (hopcroft_many ((hown.g hg3).rd (S := fun _ => True) fun _ _ => trivial) (by omega) (by omega)) ?_)
  rintro _ w4 ⟨rfl, hg4⟩
  refine ⟨(hB3.g hg4).cell (Dfv_258 d), M.call_of (hopcroft_many (h.label.g (hG3.trans hg4)) (by omega) (by omega)) ?_⟩
  rintro _ w5 ⟨rfl, hg5⟩
  have := fo_length_le L
  have := fo_length_le m.label
  exact ⟨.inr ⟨h1, L, hL, wI_id (by omega) (by omega)⟩, (hG3.trans hg4).trans hg5⟩
end C
end Go.Proofs.Ythepabefikobpaa
