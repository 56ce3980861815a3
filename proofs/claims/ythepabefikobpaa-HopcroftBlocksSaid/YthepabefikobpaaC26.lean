/- Tables of bools that a call makes and turns; rounds of telling states apart. No condition. -/
import Derived.Test.YthepabefikobpaaC24
namespace Go.Proofs.Ythepabefikobpaa
open Go Go.Sh Go.Sp
/-- A table of n rows of N bools; the rows lie at ss. -/
structure Mat (n0 : Nat) (w : World) (s : Sl) (n N : Nat) (ss : Nat → Sl) (A : Nat → Nat → Bool) : Prop where
  out : Own n0 w s 82 1 ((List.range n).map fun i => (ss i).val)
  row : ∀ i, i < n → Own n0 w (ss i) 4 1 (((List.range N).map (A i)).map Value.bool)
  off : ∀ i, i < n → ∀ b, ownb (ss i) b → ¬ ownb s b
  apart : ∀ i j, i < n → j < n → i ≠ j → ∀ b, ownb (ss i) b → ¬ ownb (ss j) b
section
variable {γ : Type} {k : γ → World → Prop} {w w' : World} {n0 n N : Nat} {s : Sl} {ss : Nat → Sl} {A A' : Nat → Nat → Bool}
theorem Mat.chg {p : Nat → Prop} (h : Mat n0 w s n N ss A) (hc : Chg p w w') (hp : ∀ b, n0 ≤ b → b < w.heap.size → ¬ p b) : Mat n0 w' s n N ss A :=
  ⟨h.out.chg hc fun b hb => hp b (h.out.ge hb).1 (h.out.ge hb).2, fun i hi => (h.row i hi).chg hc fun b hb => hp b ((h.row i hi).ge hb).1 ((h.row i hi).ge hb).2, h.off, h.apart⟩
theorem Mat.g (h : Mat n0 w s n N ss A) (hc : Grow w w') : Mat n0 w' s n N ss A := h.chg hc fun _ _ _ x => x
theorem Mat.congr (h : Mat n0 w s n N ss A) (hA : ∀ i j, i < n → j < N → A i j = A' i j) : Mat n0 w s n N ss A' :=
  ⟨h.out, fun i hi => by
    have e : (List.range N).map (A i) = (List.range N).map (A' i) := List.map_congr_left fun j hj => hA i j hi (List.mem_range.1 hj)
    rw [← e]; exact h.row i hi, h.off, h.apart⟩
theorem Mat.len (h : Mat n0 w s n N ss A) : s.len = n := by have := h.out.len; simp at this; omega
theorem Mat.set (h : Mat n0 w s n N ss A) {i j : Nat} {v : Bool} (hi : i < n) (hr : Own n0 w' (ss i) 4 1 ((((List.range N).map (A i)).set j v).map Value.bool)) (hc : Chg (ownb (ss i)) w w') :
    Mat n0 w' s n N ss (ups A i (ups (A i) j v)) := by
  refine ⟨h.out.chg hc fun b hb e => h.off i hi b e hb, fun i' hi' => ?_, h.off, h.apart⟩
  by_cases e : i' = i
  · subst e
    rw [set_range_map] at hr
    simpa [ups] using hr
  · have : ups A i (ups (A i) j v) i' = A i' := by simp [ups, e]
    rw [this]
    exact (h.row i' hi').chg hc fun b hb => h.apart i' i hi' hi e b hb
/-- A row more. -/
theorem M.mApp {w1 : World} {tr : Sl} {a : Nat → Bool} {f : Sl → M γ} (h : Mat n0 w1 s n N ss A) (hg : Grow w1 w) (hr : Own w1.heap.size w tr 4 1 (((List.range N).map a).map Value.bool)) (hn : n0 ≤ w1.heap.size) (hb : n ≤ 65536)
    (hf : ∀ q w', Mat n0 w' q (n + 1) N (ups ss n tr) (ups A n a) → Chg (fun y => n0 ≤ y) w w' → f q w' k) :
    M.new 82 [Sl.val tr] (fun b => M.run Try.prog (Builtin.append_ #[80, 80] 80 #[s.val, Sl.val ⟨some b, 1, 1⟩]) Sl.val f) w k := by
  have hl := h.len
  have hsz := hg.size
  have h' := h.g hg
  refine M.app (s := s) Try.underlying80 (T := 82) (info := Try.t82) (z := Sl.nil.val) (m := 1) (bytes := 24) (by kernel_rfl) rfl rfl rfl rfl (by decide) h'.out rfl (by simp [one1, Sl.val]) (by omega) (by omega) (by omega) fun q w2 hq hql hc2 hq2 => ?_
  have hnew : ∀ b, ownb tr b → w1.heap.size ≤ b := fun b hb => (hr.ge hb).1
  have hold : ∀ i, i < n → ∀ b, ownb (ss i) b → b < w1.heap.size := fun i hi b hb => ((h.row i hi).ge hb).2
  have hso : ∀ b, ownb s b → b < w1.heap.size := fun b hb => (h.out.ge hb).2
  have hq3 : ∀ b, ownb q b → ownb s b ∨ w.heap.size ≤ b := hq2
  refine hf q w2 ⟨?_, fun i hi => ?_, fun i hi b hb e => ?_, fun i j hi hj hij b hb e => ?_⟩ (hc2.mono fun y _ hy => (h.out.ge hy).1)
  · have e1 : ((List.range (n + 1)).map fun i => (ups ss n tr i).val) = ((List.range n).map fun i => (ss i).val) ++ [tr.val] := by
      rw [List.range_succ, List.map_append]
      congr 1
      · refine List.map_congr_left fun i hi => ?_
        have := List.mem_range.1 hi
        simp only [ups]; rw [if_neg (by omega)]
      · simp [ups]
    rw [e1]; exact hq
  · by_cases e : i = n
    · subst e
      simp only [ups, if_true]
      exact (hr.base hn).chg hc2 fun b hb e => by have := hnew b hb; have := hso b e; omega
    · simp only [ups, if_neg e]
      exact (h'.row i (by omega)).chg hc2 fun b hb => h.off i (by omega) b hb
  · by_cases e2 : i = n
    · subst e2
      simp only [ups, if_true] at hb
      have h1 := hnew b hb
      have h2 := (hr.ge hb).2
      rcases hq3 b e with h3 | h3
      · have := hso b h3; omega
      · omega
    · simp only [ups, if_neg e2] at hb
      rcases hq3 b e with h3 | h3
      · exact h.off i (by omega) b hb h3
      · have := hold i (by omega) b hb; omega
  · simp only [ups] at hb e
    by_cases e1 : i = n
    · rw [if_pos e1] at hb
      rw [if_neg (by omega)] at e
      have := hnew b hb
      have := hold j (by omega) b e
      omega
    · rw [if_neg e1] at hb
      by_cases e2 : j = n
      · rw [if_pos e2] at e
        have := hnew b e
        have := hold i (by omega) b hb
        omega
      · rw [if_neg e2] at e
        exact h.apart i j (by omega) (by omega) hij b hb e
theorem Mat.base {n1 : Nat} (h : Mat n0 w s n N ss A) (hn : n1 ≤ n0) : Mat n1 w s n N ss A := ⟨h.out.base hn, fun i hi => (h.row i hi).base hn, h.off, h.apart⟩
theorem M.mrow {f : Sl → M γ} (h : Mat n0 w s n N ss A) {i : Nat} (hi : i < n) (hf : f (ss i) w k) : M.ix s (i : Int) 1 (fun a => M.ld Sl.val a f) w k := by
  have := h.out
  rw [show ((List.range n).map fun i => (ss i).val) = ((List.range n).map ss).map Sl.val by rw [List.map_map]; rfl] at this
  exact M.rd (this.rd (S := fun _ => True) fun _ _ => trivial) (by omega) (by simp [hi]) hf
theorem M.mget {f : Bool → M γ} (h : Mat n0 w s n N ss A) {i j : Nat} (hi : i < n) (hj : j < N) (hf : f (A i j) w k) : M.ix (ss i) (j : Int) 1 (fun a => M.ld Value.bool a f) w k :=
  M.rd ((h.row i hi).rd (S := fun _ => True) fun _ _ => trivial) (by omega) (by simp [hj]) hf
theorem M.mset {f : M γ} (h : Mat n0 w s n N ss A) {i j : Nat} {v : Bool} (hi : i < n) (hj : j < N) (hf : ∀ w', Mat n0 w' s n N ss (ups A i (ups (A i) j v)) → Chg (ownb (ss i)) w w' → f w' k) : M.ix (ss i) (j : Int) 1 (fun a => M.st a (Value.bool v) f) w k :=
  M.wr (h.row i hi) (by simpa using hj) fun w' hr hc _ => hf w' (h.set hi hr hc) hc
end
namespace Mx
/-- Are two states told apart by the first c ways? -/
def tB (m : Mc) (z i j c : Nat) : Bool := !alkB m z i j || (List.range c).any fun c' => !alkB m z (nx m i c') (nx m j c')
theorem tB_0 (m : Mc) (z i j : Nat) : tB m z i j 0 = !alkB m z i j := by simp [tB]
theorem tB_succ (m : Mc) (z i j c : Nat) : tB m z i j (c + 1) = (tB m z i j c || !alkB m z (nx m i c) (nx m j c)) := by
  simp [tB, List.range_succ, List.any_append, Bool.or_assoc]
theorem tB_end {m : Mc} {z i j c : Nat} (hc : c ≤ k m) (h : c = k m ∨ tB m z i j c = true) : tB m z i j c = !alkB m (z + 1) i j := by
  rw [Bool.eq_iff_iff]
  constructor
  · intro h2
    rw [Bool.not_eq_true', ← Bool.not_eq_true, alkB_iff]
    intro h3
    rw [tB, Bool.or_eq_true, Bool.not_eq_true', ← Bool.not_eq_true, alkB_iff, List.any_eq_true] at h2
    rcases h2 with h2 | ⟨c', hc', h2⟩
    · exact h2 (alk_less h3)
    · rw [Bool.not_eq_true', ← Bool.not_eq_true, alkB_iff] at h2
      exact h2 (h3.2 c' (by have := List.mem_range.1 hc'; omega))
  · intro h2
    rcases h with rfl | h
    · apply Classical.byContradiction
      intro h3
      rw [tB, Bool.or_eq_true, Bool.not_eq_true', ← Bool.not_eq_true, alkB_iff, List.any_eq_true, not_or] at h3
      obtain ⟨h3, h4⟩ := h3
      rw [Bool.not_eq_true', ← Bool.not_eq_true, alkB_iff] at h2
      have h3 := Classical.not_not.1 h3
      refine h2 ⟨alk_lab h3, fun c hc => ?_⟩
      apply Classical.byContradiction
      intro h5
      refine h4 ⟨c, List.mem_range.2 hc, ?_⟩
      rw [Bool.not_eq_true', ← Bool.not_eq_true, alkB_iff]
      exact h5
    · exact h
/-- The table in the midst of a round. -/
def cur (m : Mc) (z i j c : Nat) : Nat → Nat → Bool := fun i' j' => if i' < i ∨ (i' = i ∧ j' < j) then !alkB m (z + 1) i' j' else if i' = i ∧ j' = j then tB m z i j c else !alkB m z i' j'
theorem cur_at (m : Mc) (z i j c : Nat) : cur m z i j c i j = tB m z i j c := by simp [cur]
theorem cur_c (m : Mc) (z i j c : Nat) (v : Bool) (hv : v = tB m z i j (c + 1)) : ups (cur m z i j c) i (ups (cur m z i j c i) j v) = cur m z i j (c + 1) := by
  funext i' j'
  by_cases h1 : i' = i
  · subst h1
    by_cases h2 : j' = j
    · subst h2; simp [ups, cur, hv]
    · simp [ups, cur, h2]
  · simp [ups, cur, h1]
theorem cur_same {m : Mc} {z i j c c' : Nat} (h : tB m z i j c' = tB m z i j c) : cur m z i j c' = cur m z i j c := by
  funext i' j'
  simp only [cur, h]
theorem cur_j {m : Mc} {z i j c : Nat} (h : tB m z i j c = !alkB m (z + 1) i j) : cur m z i j c = cur m z i (j + 1) 0 := by
  funext i' j'
  simp only [cur]
  by_cases h1 : i' = i
  · subst h1
    by_cases h2 : j' = j
    · subst h2; simp [h]
    · by_cases h3 : j' < j
      · simp [h3, show j' < j + 1 by omega]
      · by_cases h4 : j' = j + 1
        · subst h4; simp [tB_0]; intro h; omega
        · simp [h2, h3, h4, show ¬ j' < j + 1 by omega]
  · simp [h1]
theorem cur_i (m : Mc) (z i N i' j' : Nat) (hj : j' < N) : cur m z i N 0 i' j' = cur m z (i + 1) 0 0 i' j' := by
  simp only [cur]
  by_cases h1 : i' = i
  · subst h1; simp [hj]
  · by_cases h2 : i' < i
    · simp [h2, show i' < i + 1 by omega]
    · by_cases h3 : i' = i + 1
      · subst h3
        by_cases h4 : j' = 0
        · subst h4; simp [tB_0]; intro h; omega
        · simp [h4]; intro h; omega
      · simp [h1, h2, h3, show ¬ i' < i + 1 by omega]
theorem cur_00 (m : Mc) (z : Nat) : cur m z 0 0 0 = fun i j => !alkB m z i j := by
  funext i' j'
  simp only [cur]
  by_cases h : i' = 0 ∧ j' = 0
  · obtain ⟨rfl, rfl⟩ := h; simp [tB_0]
  · by_cases h1 : i' = 0
    · simp [h1] at h ⊢; simp [h]
    · simp [h1]
theorem cur_n (m : Mc) (z N i' j' : Nat) (hi : i' < N) : cur m z N 0 0 i' j' = !alkB m (z + 1) i' j' := by simp [cur, hi]
end Mx
end Go.Proofs.Ythepabefikobpaa
/- Contract: doubletref24 apart. Conditions: as it states. -/
namespace Go.Proofs.Ythepabefikobpaa
open Go Go.Sh Go.Sp
namespace C
theorem range_app {α : Type} (f : Nat → α) (j : Nat) : (List.range (j + 1)).map f = (List.range j).map f ++ [f j] := by rw [List.range_succ]; simp
theorem lab_ne (m : Mc) (i j : Nat) : (!decide (Mx.lab m i = Mx.lab m j)) = !Mx.alkB m 0 i j := rfl
set_option maxRecDepth 20000 in
theorem r24_apart {w : World} {d : Dfv} {m : Mc} (h : DfaAt w d m) (ho : Mx.Ok m) :
    Calls Try.prog 68 [.agg (Dfv.cs d).toArray, vI (Mx.n m)].toArray w (Ret Sl.val fun r w' => (∃ ss, Mat w.heap.size w' r (Mx.n m) (Mx.n m) ss fun i j => !Mx.alkB m (Mx.n m) i j) ∧ Grow w w') := by
  apply L.r24_apart
  unfold S.r24_apart
  have hll : m.label.length = d.label.len := by simpa using h.label.len
  have hn : Mx.n m = m.label.length := rfl
  have hn1 := ho.n1
  have hn2 := ho.n2
  have hk2 := ho.k2
  have hnx := ho.next
  obtain ⟨n, hnn⟩ : ∃ n, n = Mx.n m := ⟨_, rfl⟩
  have hnl : d.label.len = n := by omega
  rw [← hnn] at hn1 hn2 hnx ⊢
  obtain ⟨Z, hZ⟩ : ∃ Z : Nat, n ≤ Z := ⟨_, Nat.le_refl _⟩
  refine M.new_of fun b1 w1 hb1 hB1 hg1 hs1 => M.ldB 258 hB1 (Dfv_258 d) (M.new_of fun b3 w2 hb3 hB3 hg2 hs2 => ?_)
  have hG2 := hg1.trans hg2
  have hB1 := hB1.g hg2
  have hM0 : Mat w1.heap.size w2 ⟨some ⟨b3, 0, none⟩, 0, 0⟩ 0 n (fun _ => Sl.nil) fun i j => !Mx.alkB m 0 i j :=
    ⟨Own.mk (b := b3) (cs := []) rfl (by omega) hB3 (Nat.le_refl _) (by simp [maxLen]) (by simp) (by simp), fun _ h => absurd h (by omega), fun _ h => absurd h (by omega), fun _ _ h => absurd h (by omega)⟩
  rw [hnl]
  refine M.loop_at (fun q w' => Grow w1 w' ∧ Blk w' b1 27 (Dfv.cs d) ∧ ∃ (i : Nat) (ss : Nat → Sl), q.2 = i ∧ i ≤ n ∧ Mat w1.heap.size w' q.1 i n ss fun i j => !Mx.alkB m 0 i j) (fun q _ => (Z - q.2).toNat)
    ⟨hg2, hB1, 0, _, rfl, by omega, hM0⟩ ?_
  rintro ⟨s, qi⟩ w3 ⟨hg3, hB1, i, ss, rfl, hi, hM⟩
  dsimp only at hM ⊢
  refine M.if_ (fun hlt => ?_) (fun hge => ?_)
  · have hlt : i < n := by omega
    have hsz3 := hg3.size
    refine M.new_of fun b6 w4 hb6 hB6 hg4 hs4 => ?_
    have hacc : Own w3.heap.size w4 ⟨some ⟨b6, 0, none⟩, 0, 0⟩ 4 1 (((List.range 0).map fun j => !Mx.alkB m 0 i j).map Value.bool) := Own.mk (b := b6) (cs := []) rfl (by omega) hB6 (Nat.le_refl _) (by simp [maxLen]) (by simp) (by simp)
    refine M.loop_at (fun q w' => Grow w3 w' ∧ ∃ j : Nat, q.2 = j ∧ j ≤ n ∧ Own w3.heap.size w' q.1 4 1 (((List.range j).map fun j => !Mx.alkB m 0 i j).map Value.bool)) (fun q _ => (Z - q.2).toNat) ⟨hg4, 0, rfl, by omega, hacc⟩ ?_
    rintro ⟨acc, qj⟩ w5 ⟨hg5, j, rfl, hj, hacc⟩
    dsimp only at hacc ⊢
    have hB1 := hB1.g hg5
    have hsz5 := hg5.size
    refine M.if_ (fun hlt2 => ?_) (fun hge2 => ?_)
    · have hlt2 : j < n := by omega
      refine M.drew_of fun w6 _ hg6 => ?_
      have hB1 := hB1.g hg6
      have hacc := hacc.g hg6
      have hg36 := hg5.trans hg6
      have hG6 := (hg1.trans hg3).trans hg36
      have hsz6 := hg6.size
      refine M.ldB 258 hB1 (Dfv_258 d) (M.rdc h.label hG6 (by omega) (x := Mx.lab m i) (toNat_some (z := 0) (by omega)) fun a10 ha10 hc10 => M.ldB 258 hB1 (Dfv_258 d) (M.rdc h.label hG6 (by omega) (x := Mx.lab m j) (toNat_some (z := 0) (by omega)) fun a13 ha13 hc13 => ?_))
      have hal := Grow.alloc w6 (.cells [Value.bool (!decide (Mx.lab m i = Mx.lab m j))].toArray 4)
      have hacl : acc.len = j := by have := hacc.len; simp at this; omega
      refine ⟨hal.cell (fun e => e) hc13, (hB1.g hal).cell (Dfv_258 d), hal.cell (fun e => e) hc10, (hB1.g hal).cell (Dfv_258 d), ?_⟩
      have key := M.app (P := Try.prog) (k := fun s' w' => Chg (ownb acc) w6 w' ∧ Own w3.heap.size w' s' 4 1 (((List.range (j + 1)).map fun j => !Mx.alkB m 0 i j).map Value.bool)) (f := fun s w k => k s w) (ty := 82) Try.underlying82 (T := 4) (info := Try.t4) (z := .bool false) (m := 1) (bytes := 1) (by kernel_rfl) rfl rfl rfl rfl (by decide) hacc (cs := [Value.bool (!decide (Mx.lab m i = Mx.lab m j))]) rfl (by simp [one1]) (by omega) (by omega) (by omega) fun r w7 ho7 hl7 hc7 hb7 => ⟨hc7, ?_⟩
      · obtain ⟨s', w', h1, h2, h3⟩ := key
        refine ⟨s', w', h1, ?_⟩
        have hlow : ∀ {y}, y < w3.heap.size → ¬ ownb acc y := fun hy e => by have := (hacc.ge e).1; omega
        have hw1 := hg1.size
        refine ⟨h2.cell (hlow (by omega)) hc13, (hB1.chg h2 (hlow (by omega))).cell (Dfv_258 d), h2.cell (hlow (by omega)) hc10, (hB1.chg h2 (hlow (by omega))).cell (Dfv_258 d), ?_⟩
        rw [wI_succ (by simp only [Big]; omega)]
        exact ⟨⟨Chg.fresh hg36 h2 fun b hb => (hacc.ge hb).1, j + 1, rfl, hlt2, h3⟩, by (try simp only); omega⟩
      · rw [range_app, List.map_append]
        exact ho7
    · have hjn : j = n := by omega
      subst hjn
      refine M.mApp hM hg5 hacc hsz3 (by omega) fun q w6 hM6 hc6 => ?_
      rw [wI_succ (by simp only [Big]; omega)]
      have hup : (ups (fun i j => !Mx.alkB m 0 i j) i fun j => !Mx.alkB m 0 i j) = fun i j => !Mx.alkB m 0 i j := by
        funext i' j'
        simp only [ups]
        split
        · rename_i e; rw [e]
        · rfl
      rw [hup] at hM6
      exact ⟨⟨Chg.fresh (hg3.trans hg5) hc6 fun b hb => hb, hB1.chg hc6 (by omega), i + 1, _, rfl, hlt, hM6⟩, by (try simp only); omega⟩
  have hin : i = n := by omega
  subst hin
  -- the rounds
  have hW := ho.width
  refine M.loop_at (fun q w' => Grow w1 w' ∧ Blk w' b1 27 (Dfv.cs d) ∧ ∃ z : Nat, q = z ∧ z ≤ i ∧ Mat w1.heap.size w' s i i ss fun i j => !Mx.alkB m z i j) (fun q _ => (Z - q).toNat)
    ⟨hg3, hB1, 0, rfl, by omega, hM⟩ ?_
  rintro _ w4 ⟨hg4, hB1, z, rfl, hz, hM⟩
  have hb1 : b1 < w1.heap.size := by omega
  have hsz4 := hg4.size
  refine M.if_ (fun hlt => ?_) (fun hge => ?_)
  · have hlt : z < i := by omega
    have hub : ∀ x, x < i → ∀ b, ownb (ss x) b → w1.heap.size ≤ b ∧ b < w4.heap.size := fun x hx b hb => (hM.row x hx).ge hb
    refine M.new_of fun b30 w5 hb30 hB30 hg5 hs5 => ?_
    have hO0 : Mat w4.heap.size w5 ⟨some ⟨b30, 0, none⟩, 0, 0⟩ 0 i (fun _ => Sl.nil) fun x y => !Mx.alkB m z x y :=
      ⟨Own.mk (b := b30) (cs := []) rfl (by omega) hB30 (Nat.le_refl _) (by simp [maxLen]) (by simp) (by simp), fun _ h => absurd h (by omega), fun _ h => absurd h (by omega), fun _ _ h => absurd h (by omega)⟩
    refine M.loop_at (fun q w' => Grow w4 w' ∧ ∃ (x : Nat) (tt : Nat → Sl), q.2 = x ∧ x ≤ i ∧ Mat w4.heap.size w' q.1 x i tt fun x y => !Mx.alkB m z x y) (fun q _ => (Z - q.2).toNat) ⟨hg5, 0, _, rfl, by omega, hO0⟩ ?_
    rintro ⟨old, qx⟩ w6 ⟨hg6, x, tt, rfl, hx, hO⟩
    dsimp only at hO ⊢
    have hsz6 := hg6.size
    refine M.if_ (fun hlt2 => ?_) (fun hge2 => ?_)
    · have hlt2 : x < i := by omega
      refine M.new_of fun b33 w7 hb33 hB33 hg7 hs7 => M.mrow ((hM.g hg6).g hg7) hlt2 ?_
      have hrow := ((hM.g hg6).g hg7).row x hlt2
      have hne : (ss x).addr ≠ none := by
        rcases hrow.out.2 with e | ⟨b, cs, e, _⟩
        · have := hrow.len; rw [e] at this; simp at this; omega
        · rw [e]; simp
      have hrl : (ss x).len = i := by have := hrow.len; simp at this; omega
      have hown : Own w6.heap.size w7 ⟨some ⟨b33, 0, none⟩, 0, 0⟩ 4 1 [] := Own.mk (b := b33) (cs := []) rfl (by omega) hB33 (Nat.le_refl _) (by simp [maxLen]) (by simp) (by simp)
      refine M.appN Try.underlying82 (T := 4) (info := Try.t4) (z := .bool false) (m := 1) (bytes := 1) (by kernel_rfl) rfl rfl rfl rfl (by decide) hown (hrow.rd (S := fun _ => True) fun _ _ => trivial) hne (by simp [one1]) (by omega) (by simp only; omega) (by simp only; omega) fun r w8 ho8 hl8 hc8 hb8 _ => ?_
      have hg68 : Grow w6 w8 := Chg.fresh hg7 hc8 fun b hb => (hown.ge hb).1
      rw [List.nil_append] at ho8
      refine M.mApp hO hg68 ho8 hsz6 (by omega) fun q w9 hM9 hc9 => ?_
      rw [wI_succ (by simp only [Big]; omega)]
      have hup : (ups (fun x y => !Mx.alkB m z x y) x fun y => !Mx.alkB m z x y) = fun x y => !Mx.alkB m z x y := by
        funext i' j'
        simp only [ups]
        split
        · rename_i e; rw [e]
        · rfl
      rw [hup] at hM9
      exact ⟨⟨Chg.fresh (hg6.trans hg68) hc9 fun b hb => hb, x + 1, _, rfl, hlt2, hM9⟩, by (try simp only); omega⟩
    have hxi : x = i := by omega
    subst hxi
    obtain ⟨Y, hYd⟩ : ∃ Y : Nat → Prop, Y = fun b => ∃ y, y < x ∧ ownb (ss y) b := ⟨_, rfl⟩
    have hYi : ∀ y, y < x → ∀ b, ownb (ss y) b → Y b := fun y hy b hb => by rw [hYd]; exact ⟨y, hy, hb⟩
    have hYub : ∀ b, Y b → w1.heap.size ≤ b ∧ b < w4.heap.size := fun b hb => by rw [hYd] at hb; obtain ⟨y, hy, hb⟩ := hb; exact hub y hy b hb
    have hM6 := hM.g hg6
    have hB1 := hB1.g hg6
    have hg16 := hg4.trans hg6
    rw [← Mx.cur_00] at hM6
    refine M.loop_at (fun q w' => Chg Y w6 w' ∧ ∃ i : Nat, q.2 = i ∧ i ≤ x ∧ Mat w1.heap.size w' s x x ss (Mx.cur m z i 0 0) ∧ (q.1 = false → ∀ y y', y < x → y' < x → Mx.cur m z i 0 0 y y' = !Mx.alkB m z y y')) (fun q _ => (Z - q.2).toNat)
      ⟨Chg.refl _ _, 0, rfl, by omega, hM6, fun _ y y' _ _ => by rw [Mx.cur_00]⟩ ?_
    rintro ⟨fl, qi⟩ w7 ⟨hc7, i, rfl, hi, hM7, hfl⟩
    dsimp only at hfl ⊢
    refine M.if_ (fun hlt2 => ?_) (fun hge2 => ?_)
    · have hlt2 : i < x := by omega
      refine M.loop_at (fun q w' => Chg Y w6 w' ∧ ∃ j : Nat, q.2 = j ∧ j ≤ x ∧ Mat w1.heap.size w' s x x ss (Mx.cur m z i j 0) ∧ (q.1 = false → ∀ y y', y < x → y' < x → Mx.cur m z i j 0 y y' = !Mx.alkB m z y y')) (fun q _ => (Z - q.2).toNat)
        ⟨hc7, 0, rfl, by omega, hM7, hfl⟩ ?_
      rintro ⟨fl, qj⟩ w8 ⟨hc8, j, rfl, hj, hM8, hfl⟩
      dsimp only at hfl ⊢
      refine M.if_ (fun hlt3 => ?_) (fun hge3 => ?_)
      · have hlt3 : j < x := by omega
        refine M.loop_at (fun q w' => Chg Y w6 w' ∧ ∃ c : Nat, q.2 = c ∧ c ≤ Mx.k m ∧ Mat w1.heap.size w' s x x ss (Mx.cur m z i j c) ∧ (q.1 = false → ∀ y y', y < x → y' < x → Mx.cur m z i j c y y' = !Mx.alkB m z y y')) (fun q _ => (256 - q.2).toNat)
          ⟨hc8, 0, rfl, by omega, hM8, hfl⟩ ?_
        rintro ⟨fl, qc⟩ w9 ⟨hc9, c, rfl, hc, hM9, hfl⟩
        dsimp only at hfl ⊢
        have hB1 := hB1.chg hc9 fun e => by have := hYub _ e; omega
        have next : (c = Mx.k m ∨ Mx.tB m z i j c = true) → Chg Y w6 w9 ∧ ∃ j' : Nat, wI ((j : Int) + 1) = j' ∧ j' ≤ x ∧ Mat w1.heap.size w9 s x x ss (Mx.cur m z i j' 0) ∧ (fl = false → ∀ y y', y < x → y' < x → Mx.cur m z i j' 0 y y' = !Mx.alkB m z y y') := by
          intro he
          have e := Mx.cur_j (Mx.tB_end hc he)
          exact ⟨hc9, j + 1, wI_succ (by simp only [Big]; omega), hlt3, e ▸ hM9, fun h => e ▸ hfl h⟩
        refine M.join_in (M.ldB 256 hB1 (Dfv_256 d) ?_)
        rw [h.width, ho.width]
        refine M.if_ (fun hlt4 => ?_) (fun hge4 => M.ifb (fun h0 => by cases h0) (fun _ => ⟨next (.inl (by omega)), by rw [wI_succ (by simp only [Big]; omega)]; (try simp only); omega⟩))
        have hlt4 : c < Mx.k m := by omega
        refine M.mrow hM9 hlt2 (M.mget hM9 hlt2 hlt3 ?_)
        rw [Mx.cur_at]
        refine M.ifb (fun ht => ?_) (fun ht => ⟨next (.inr (by simpa using ht)), by rw [wI_succ (by simp only [Big]; omega)]; (try simp only); omega⟩)
        have ht : Mx.tB m z i j c = false := by simpa using ht
        refine M.drew_of fun w10 _ hg10 => ?_
        have hc10 := hc9.g hg10
        have hM10 := hM9.g hg10
        have hB1 := hB1.g hg10
        have hG10 : Grow w w10 := Chg.fresh (hg1.trans hg16) hc10 fun b hb => by have := (hYub b hb).1; have := hg1.size; omega
        have n1 := (ho.nx i c (by omega) hlt4).1
        have n2 := (ho.nx j c (by omega) hlt4).1
        have hO10 : Mat w4.heap.size w10 old x x tt fun x y => !Mx.alkB m z x y := hO.chg hc10 fun b hb _ e => by have := hYub b e; omega
        refine M.mrow hM10 hlt2 (M.ldB 257 hB1 (Dfv_257 d) (M.rdrd h.next hG10 (by omega) (toNat_some (z := []) (by omega)) fun t1 ht1 => ?_))
        rw [ho.rowEq (by omega)] at ht1
        refine M.rd (ht1.g hG10) (by omega) (x := ((Mx.nx m i c : Nat) : Int)) (by simp [hlt4]) (M.mrow hO10 (by omega) (M.ldB 257 hB1 (Dfv_257 d) (M.rdrd h.next hG10 (by omega) (toNat_some (z := []) (by omega)) fun t2 ht2 => ?_)))
        rw [ho.rowEq (by omega)] at ht2
        refine M.rd (ht2.g hG10) (by omega) (x := ((Mx.nx m j c : Nat) : Int)) (by simp [hlt4]) (M.mget hO10 (by omega) (by omega) (M.mset hM10 hlt2 hlt3 fun w11 hM11 hc11 => ?_))
        have hv : (!Mx.alkB m z (Mx.nx m i c) (Mx.nx m j c)) = Mx.tB m z i j (c + 1) := by rw [Mx.tB_succ, ht, Bool.false_or]
        rw [Mx.cur_c _ _ _ _ _ _ hv] at hM11
        have hc11' : Chg Y w6 w11 := hc10.c (hc11.mono fun b _ hb => hYi i hlt2 b hb)
        rw [wI_succ (by simp only [Big]; omega)]
        refine M.ifb (fun hf => ?_) (fun hf => ?_)
        · exact ⟨⟨hc11', c + 1, rfl, hlt4, hM11, fun h0 => by cases h0⟩, by (try simp only); omega⟩
        · refine M.mrow hM11 hlt2 (M.mget hM11 hlt2 hlt3 ?_)
          refine ⟨⟨hc11', c + 1, rfl, hlt4, hM11, fun h0 => ?_⟩, by (try simp only); omega⟩
          rw [Mx.cur_at] at h0
          rw [Mx.cur_same (h0.trans ht.symm)]
          exact hfl hf
      · have hjx : j = x := by omega
        subst hjx
        rw [wI_succ (by simp only [Big]; omega)]
        exact ⟨⟨hc8, i + 1, rfl, hlt2, hM8.congr fun y y' _ hy' => Mx.cur_i m z i j y y' hy', fun h0 y y' hy hy' => by rw [← Mx.cur_i m z i j y y' hy']; exact hfl h0 y y' hy hy'⟩, by (try simp only); omega⟩
    · have hix : i = x := by omega
      subst hix
      have hM8 : Mat w1.heap.size w7 s i i ss fun x y => !Mx.alkB m (z + 1) x y := hM7.congr fun y y' hy _ => Mx.cur_n m z i y y' hy
      have hg17 : Grow w1 w7 := Chg.fresh hg16 hc7 fun b hb => (hYub b hb).1
      refine M.ifb (fun hf => ?_) (fun hf => ?_)
      · have hf : fl = false := by simpa using hf
        refine ⟨⟨ss, (hM8.congr fun y y' hy hy' => ?_).base hg1.size⟩, hg1.trans hg17⟩
        have hst : ∀ y y', y < Mx.n m → y' < Mx.n m → Mx.alk m z y y' → Mx.alk m (z + 1) y y' := by
          intro y y' hy hy' ha
          have e := hfl hf y y' (by omega) (by omega)
          rw [Mx.cur_n m z i y y' (by omega), Bool.not_inj_iff] at e
          rw [← Mx.alkB_iff, e, Mx.alkB_iff]
          exact ha
        have e1 := hfl hf y y' hy hy'
        rw [Mx.cur_n m z i y y' hy] at e1
        rw [e1]
        congr 1
        rw [Bool.eq_iff_iff, Mx.alkB_iff, Mx.alkB_iff]
        exact ⟨Mx.alk_stable ho hst i y y' (by omega) (by omega), Mx.alk_le (by omega)⟩
      · rw [wI_succ (by simp only [Big]; omega)]
        exact ⟨⟨hg17, (hB1.chg hc7 fun e => by have := hYub _ e; omega), z + 1, rfl, hlt, hM8⟩, by (try simp only); omega⟩
  · have hzi : z = i := by omega
    subst hzi
    exact ⟨⟨ss, hM.base hg1.size⟩, hg1.trans hg4⟩
end C
end Go.Proofs.Ythepabefikobpaa
