/- Plain: blocks are counted along a sorted row of states. No condition. -/
import Derived.Test.YthepabefikobpaaHop1
namespace Go.Sp
theorem Sw.surj {a b : Nat} {f g : Nat → Int} (h : Sw a b f g) {v : Int} (hv : ∃ i, a ≤ i ∧ i < b ∧ f i = v) : ∃ i, a ≤ i ∧ i < b ∧ g i = v := by
  induction h with
  | refl => exact hv
  | step i j _ a1 a2 a3 a4 ih =>
    obtain ⟨x, h1, h2, h3⟩ := ih
    by_cases e : x = i
    · exact ⟨j, a3, a4, by show (if j = j then _ else _) = v; rw [if_pos rfl, ← e]; exact h3⟩
    · by_cases e2 : x = j
      · by_cases e3 : i = j
        · omega
        · exact ⟨i, a1, a2, by show (if i = j then _ else if i = i then _ else _) = v; rw [if_neg e3, if_pos rfl, ← e2]; exact h3⟩
      · exact ⟨x, h1, h2, by simp only [swp]; rw [if_neg e2, if_neg e]; exact h3⟩
end Go.Sp
namespace Go.Sh
open Go Go.Sp
/-- So many of the states have been counted. -/
structure Cnt (st bl : Nat → Nat) (i : Nat) (pos : Nat → Nat) (B : Nat) (lo hi : Nat → Nat) : Prop where
  pos_st : ∀ j, j < i → pos (st j) = j
  B0 : i = 0 → B = 0
  B1 : 0 < i → B = bl (st (i - 1)) + 1
  rng : ∀ v, v < B → lo v < hi v ∧ hi v ≤ i
  last : 0 < i → hi (B - 1) = i
  inb : ∀ j, j < i → lo (bl (st j)) ≤ j ∧ j < hi (bl (st j))
  blk : ∀ v j, v < B → lo v ≤ j → j < hi v → bl (st j) = v
section
variable {N : Nat} {st bl pos lo hi : Nat → Nat} {i B : Nat}
theorem Cnt.next (h : Cnt st bl i pos B lo hi) (hi' : i < N) (hs : ∀ i j, i ≤ j → j < N → bl (st i) ≤ bl (st j)) (hst : ∀ i, i < N → st i < N) (hsur : ∀ x, x < N → ∃ j, j < N ∧ st j = x) (hnorm : ∀ x v, x < N → v < bl x → ∃ y, y < N ∧ bl y = v) :
    bl (st i) = B ∨ (0 < i ∧ 0 < B ∧ bl (st i) = B - 1) := by
  have hc : ∀ v, v < bl (st i) → ∃ j, j < i ∧ bl (st j) = v := fun v hv => by
    obtain ⟨y, hy, rfl⟩ := hnorm _ v (hst i hi') hv
    obtain ⟨j, hj, rfl⟩ := hsur y hy
    refine ⟨j, ?_, rfl⟩
    rcases Nat.lt_or_ge j i with h1 | h1
    · exact h1
    · have := hs i j h1 hj; omega
  by_cases h0 : i = 0
  · left
    subst h0
    rw [h.B0 rfl]
    rcases Nat.eq_zero_or_pos (bl (st 0)) with h1 | h1
    · exact h1
    · obtain ⟨j, hj, _⟩ := hc 0 h1; omega
  · have hB := h.B1 (by omega)
    have h1 := hs (i - 1) i (by omega) hi'
    rcases Nat.lt_or_ge (bl (st i)) B with h2 | h2
    · exact .inr ⟨by omega, by omega, by omega⟩
    · left
      apply Classical.byContradiction
      intro hne
      obtain ⟨j, hj, hbj⟩ := hc B (by omega)
      have := hs j (i - 1) (by omega) (by omega)
      omega
theorem Cnt.same (h : Cnt st bl i pos B lo hi) (hi' : i < N) (hinj : ∀ i j, i < N → j < N → st i = st j → i = j) (h0 : 0 < i) (hB : 0 < B) (hc : bl (st i) = B - 1) : Cnt st bl (i + 1) (ups pos (st i) i) B lo (ups hi (bl (st i)) (i + 1)) where
  pos_st := fun j hj => by
    simp only [ups]
    by_cases e : st j = st i
    · rw [if_pos e]; exact (hinj j i (by omega) hi' e).symm
    · rw [if_neg e]; exact h.pos_st j (by have : j ≠ i := fun e' => e (by rw [e']); omega)
  B0 := fun e => by omega
  B1 := fun _ => by rw [Nat.add_sub_cancel]; omega
  rng := fun v hv => by
    have := h.rng v hv
    simp only [ups]
    split <;> omega
  last := fun _ => by simp only [ups]; rw [if_pos hc.symm]
  inb := fun j hj => by
    simp only [ups]
    by_cases e : j = i
    · subst e
      rw [if_pos rfl, hc]
      have := h.rng (B - 1) (by omega)
      omega
    · have := h.inb j (by omega)
      split <;> omega
  blk := fun v j hv h1 h2 => by
    simp only [ups] at h2
    by_cases e : v = bl (st i)
    · rw [if_pos e] at h2
      by_cases e2 : j = i
      · rw [e2, e]
      · have hl := h.last h0
        exact h.blk v j hv h1 (by rw [e, hc, hl]; omega)
    · rw [if_neg e] at h2; exact h.blk v j hv h1 h2
theorem Cnt.fresh (h : Cnt st bl i pos B lo hi) (hi' : i < N) (hinj : ∀ i j, i < N → j < N → st i = st j → i = j) (hc : bl (st i) = B) (hlt : ∀ j, j < i → bl (st j) < B) : Cnt st bl (i + 1) (ups pos (st i) i) (B + 1) (ups lo B i) (ups (ups hi B i) B (i + 1)) where
  pos_st := fun j hj => by
    simp only [ups]
    by_cases e : st j = st i
    · rw [if_pos e]; exact (hinj j i (by omega) hi' e).symm
    · rw [if_neg e]; exact h.pos_st j (by have : j ≠ i := fun e' => e (by rw [e']); omega)
  B0 := fun e => by omega
  B1 := fun _ => by rw [Nat.add_sub_cancel, hc]
  rng := fun v hv => by
    simp only [ups]
    by_cases e : v = B
    · rw [if_pos e, if_pos e]; omega
    · rw [if_neg e, if_neg e, if_neg e]; have := h.rng v (by omega); omega
  last := fun _ => by simp [ups]
  inb := fun j hj => by
    simp only [ups]
    by_cases e : j = i
    · subst e
      rw [if_pos hc, if_pos hc]; omega
    · have h1 := hlt j (by omega)
      rw [if_neg (by omega), if_neg (by omega), if_neg (by omega)]
      exact h.inb j (by omega)
  blk := fun v j hv h1 h2 => by
    simp only [ups] at h1 h2
    by_cases e : v = B
    · rw [if_pos e] at h1 h2
      have : j = i := by omega
      rw [this, hc, e]
    · rw [if_neg e] at h1
      rw [if_neg e, if_neg e] at h2
      exact h.blk v j (by omega) h1 h2
theorem Cnt.lt (h : Cnt st bl i pos B lo hi) (hi' : i ≤ N) (hs : ∀ i j, i ≤ j → j < N → bl (st i) ≤ bl (st j)) : ∀ j, j < i → bl (st j) < B := fun j hj => by
  have := h.B1 (by omega)
  have := hs j (i - 1) (by omega) (by omega)
  omega
theorem Cnt.pi (h : Cnt st bl N pos B lo hi) (hs : ∀ i j, i ≤ j → j < N → bl (st i) ≤ bl (st j)) (hst : ∀ i, i < N → st i < N) (hsur : ∀ x, x < N → ∃ j, j < N ∧ st j = x) (W : List (Nat × Nat)) :
    PI N ⟨st, pos, bl, B, lo, hi, fun _ => 0, W⟩ := by
  refine ⟨hst, fun x hx => ?_, fun x hx => ?_, h.pos_st, fun x hx => ?_, fun c hc => ?_, fun c hc => ?_, fun x hx => ?_, h.blk⟩
  · obtain ⟨j, hj, rfl⟩ := hsur x hx
    simp only; rw [h.pos_st j hj]; exact hj
  · obtain ⟨j, hj, rfl⟩ := hsur x hx
    simp only; rw [h.pos_st j hj]
  · obtain ⟨j, hj, rfl⟩ := hsur x hx
    exact h.lt (Nat.le_refl _) hs j hj
  · exact h.rng c hc
  · have := h.rng c hc; simp only; omega
  · obtain ⟨j, hj, rfl⟩ := hsur x hx
    simp only; rw [h.pos_st j hj]
    exact h.inb j hj
end
theorem num_norm {α : Type} [DecidableEq α] (l : List α) {x v : Nat} (hx : x < l.length) (hv : v < (num l).getD x 0) : ∃ y, y < l.length ∧ (num l).getD y 0 = v := by
  have hg : ∀ y, y < l.length → (num l).getD y 0 < (fo l).length := fun y hy => by
    have h1 : y < (num l).length := by rw [num_length]; exact hy
    refine num_lt l _ ?_
    rw [List.getD_eq_getElem?_getD, List.getElem?_eq_getElem h1]
    exact List.getElem_mem h1
  have h1 := hg x hx
  have hvf : v < (fo l).length := by omega
  have hm : (fo l)[v] ∈ l := (mem_fo l _).1 (List.getElem_mem hvf)
  obtain ⟨y, hy, he⟩ := List.getElem_of_mem hm
  refine ⟨y, hy, ?_⟩
  simp only [num, List.getD_eq_getElem?_getD, List.getElem?_map, List.getElem?_eq_getElem hy, Option.map_some, Option.getD_some, he]
  exact (nodup_fo l).idxOf_getElem v hvf
theorem num_same {α : Type} [DecidableEq α] (l : List α) {x y : Nat} (hx : x < l.length) (hy : y < l.length) : (num l).getD x 0 = (num l).getD y 0 ↔ l[x]? = l[y]? := by
  rw [← num_eq l x y hx hy]
  have h1 : x < (num l).length := by rw [num_length]; exact hx
  have h2 : y < (num l).length := by rw [num_length]; exact hy
  rw [List.getD_eq_getElem?_getD, List.getD_eq_getElem?_getD, List.getElem?_eq_getElem h1, List.getElem?_eq_getElem h2]
  simp
end Go.Sh
