/- Plain: the states that a machine comes to, in the order in which they are come upon; the machine of the kept states. No condition. -/
import Derived.Test.YthepabefikobpaaC16
namespace Go.Proofs.Ythepabefikobpaa
open Go Go.Sh Go.Sp
namespace Mx
variable {m : Mc}
def ext (row a : List Nat) : List Nat := row.foldl (fun a x => if x ∈ a then a else a ++ [x]) a
theorem ext_nil (a : List Nat) : ext [] a = a := rfl
theorem ext_snoc (row a : List Nat) (x : Nat) : ext (row ++ [x]) a = if x ∈ ext row a then ext row a else ext row a ++ [x] := by
  rw [ext, List.foldl_append]; rfl
theorem ext_pre (row a : List Nat) : a <+: ext row a := by
  induction row using list_snoc_ind with
  | h0 => exact List.prefix_refl _
  | hs l x ih =>
    rw [ext_snoc]
    split
    · exact ih
    · exact ih.trans (List.prefix_append _ _)
theorem ext_mem (row a : List Nat) (y : Nat) : y ∈ ext row a ↔ y ∈ a ∨ y ∈ row := by
  induction row using list_snoc_ind with
  | h0 => simp [ext]
  | hs l x ih =>
    rw [ext_snoc]
    split
    · rename_i h
      rw [ih, List.mem_append, List.mem_singleton]
      constructor
      · rintro (h | h)
        · exact .inl h
        · exact .inr (.inl h)
      · rintro (h1 | h1 | rfl)
        · exact .inl h1
        · exact .inr h1
        · exact ih.1 h
    · rw [List.mem_append, ih, List.mem_append, List.mem_singleton, or_assoc]
theorem ext_nodup (row a : List Nat) (h : a.Nodup) : (ext row a).Nodup := by
  induction row using list_snoc_ind with
  | h0 => exact h
  | hs l x ih =>
    rw [ext_snoc]
    split
    · exact ih
    · rename_i hx
      rw [List.nodup_append]
      exact ⟨ih, by simp, fun y hy z hz => by rw [List.mem_singleton] at hz; subst hz; rintro rfl; exact hx hy⟩
def row (m : Mc) (s : Nat) : List Nat := (List.range (k m)).map (nx m s)
def bf (m : Mc) : Nat → List Nat
  | 0 => [0]
  | j + 1 => if j < (bf m j).length then ext (row m ((bf m j).getD j 0)) (bf m j) else bf m j
def reach (m : Mc) : List Nat := bf m (n m)
theorem bf_lt (ho : Ok m) : ∀ j, ∀ x ∈ bf m j, x < n m
  | 0, x, h => by rw [bf, List.mem_singleton] at h; subst h; exact ho.n1
  | j + 1, x, h => by
    rw [bf] at h
    split at h
    · rename_i hj
      rw [ext_mem] at h
      rcases h with h | h
      · exact bf_lt ho j x h
      · rw [row, List.mem_map] at h
        obtain ⟨c, hc, rfl⟩ := h
        refine (ho.nx _ c (bf_lt ho j _ ?_) (List.mem_range.1 hc)).1
        rw [List.getD_eq_getElem?_getD, List.getElem?_eq_getElem hj]
        exact List.getElem_mem _
    · exact bf_lt ho j x h
theorem bf_nodup : ∀ j, (bf m j).Nodup
  | 0 => by simp [bf]
  | j + 1 => by
    rw [bf]
    split
    · exact ext_nodup _ _ (bf_nodup j)
    · exact bf_nodup j
theorem bf_le (ho : Ok m) (j : Nat) : (bf m j).length ≤ n m := nodup_le _ _ (bf_nodup j) (bf_lt ho j)
theorem bf_pre1 (j : Nat) : bf m j <+: bf m (j + 1) := by
  rw [bf]
  split
  · exact ext_pre _ _
  · exact List.prefix_refl _
theorem bf_pre {i j : Nat} (h : i ≤ j) : bf m i <+: bf m j := by
  obtain ⟨d, rfl⟩ : ∃ d, j = i + d := ⟨j - i, by omega⟩
  clear h
  induction d with
  | zero => exact List.prefix_refl _
  | succ d ih => exact ih.trans (bf_pre1 _)
theorem bf_stop {i : Nat} (h : (bf m i).length ≤ i) : ∀ j, i ≤ j → bf m j = bf m i := by
  intro j hj
  obtain ⟨d, rfl⟩ : ∃ d, j = i + d := ⟨j - i, by omega⟩
  clear hj
  induction d with
  | zero => rfl
  | succ d ih => rw [← Nat.add_assoc, bf, if_neg (by rw [ih]; omega), ih]
theorem bf_end (ho : Ok m) {i : Nat} (h : (bf m i).length ≤ i) : bf m i = reach m := by
  rw [reach]
  rcases Nat.le_total i (n m) with h1 | h1
  · exact (bf_stop h _ h1).symm
  · exact bf_stop (bf_le ho _) _ h1
theorem reach_lt (ho : Ok m) : ∀ x ∈ reach m, x < n m := bf_lt ho _
theorem reach_nodup : (reach m).Nodup := bf_nodup _
theorem reach_le (ho : Ok m) : (reach m).length ≤ n m := bf_le ho _
theorem reach_0 (m : Mc) : (reach m)[0]? = some 0 := by
  have := bf_pre (m := m) (Nat.zero_le (n m))
  obtain ⟨t, ht⟩ := this
  rw [reach, ← ht, List.getElem?_append_left (by simp [bf])]
  rfl
theorem reach_pos (m : Mc) : 0 < (reach m).length := (List.getElem?_eq_some_iff.1 (reach_0 m)).1
theorem reach_closed (ho : Ok m) {x c : Nat} (hx : x ∈ reach m) (hc : c < k m) : nx m x c ∈ reach m := by
  obtain ⟨i, hi, rfl⟩ := List.getElem_of_mem hx
  have hle := reach_le ho
  have hlt : i < (bf m i).length := by
    rcases Nat.lt_or_ge i (bf m i).length with h | h
    · exact h
    · have := bf_end ho h
      rw [this] at h; omega
  have hp : bf m i <+: reach m := by
    rcases Nat.le_total i (n m) with h | h
    · exact bf_pre h
    · omega
  have e : (bf m i).getD i 0 = (reach m)[i] := by
    obtain ⟨t, ht⟩ := hp
    rw [List.getD_eq_getElem?_getD, List.getElem?_eq_getElem hlt]
    simp only [← ht, Option.getD_some]
    rw [List.getElem_append_left hlt]
  have h1 : nx m ((reach m)[i]) c ∈ bf m (i + 1) := by
    rw [bf, if_pos hlt, ext_mem, e]
    exact .inr (List.mem_map.2 ⟨c, List.mem_range.2 hc, rfl⟩)
  exact (bf_pre (show i + 1 ≤ n m by omega)).subset h1
/-- The machine of the kept states. -/
def keepM (m : Mc) (L : List Nat) : Mc :=
  ⟨m.of, m.width, L.map fun s => (List.range (k m)).map fun c => ((L.idxOf (nx m s c) : Nat) : Int), L.map (lab m), m.names⟩
def trim (m : Mc) : Mc := keepM m (reach m)
/-- A list of states that may be kept. -/
structure Kp (m : Mc) (L : List Nat) : Prop where
  nd : L.Nodup
  lt : ∀ x ∈ L, x < n m
  zero : L[0]? = some 0
  cl : ∀ x c, x ∈ L → c < k m → nx m x c ∈ L
theorem Kp.le {L : List Nat} (h : Kp m L) : L.length ≤ n m := nodup_le _ _ h.nd h.lt
theorem Kp.pos {L : List Nat} (h : Kp m L) : 0 < L.length := (List.getElem?_eq_some_iff.1 h.zero).1
theorem reach_kp (ho : Ok m) : Kp m (reach m) := ⟨reach_nodup, reach_lt ho, reach_0 m, fun _ _ hx hc => reach_closed ho hx hc⟩
theorem keep_n (L : List Nat) : n (keepM m L) = L.length := by simp [n, keepM]
theorem keep_k (L : List Nat) : k (keepM m L) = k m := rfl
theorem keep_row {L : List Nat} {s : Nat} (hs : s < L.length) : (keepM m L).next.getD s [] = (List.range (k m)).map fun c => ((L.idxOf (nx m (L.getD s 0) c) : Nat) : Int) := by
  simp [keepM, List.getD_eq_getElem?_getD, List.getElem?_map, List.getElem?_eq_getElem hs]
theorem keep_nx {L : List Nat} {s c : Nat} (hs : s < L.length) (hc : c < k m) : nx (keepM m L) s c = L.idxOf (nx m (L.getD s 0) c) := by
  rw [nx, keep_row hs]
  simp [List.getD_eq_getElem?_getD, hc]
theorem keep_lab {L : List Nat} {s : Nat} (hs : s < L.length) : lab (keepM m L) s = lab m (L.getD s 0) := by
  simp [lab, keepM, List.getD_eq_getElem?_getD, hs]
theorem getD_mem {L : List Nat} {s : Nat} (hs : s < L.length) : L.getD s 0 ∈ L := by
  rw [List.getD_eq_getElem?_getD, List.getElem?_eq_getElem hs]
  exact List.getElem_mem _
theorem keep_ok (ho : Ok m) {L : List Nat} (h : Kp m L) : Ok (keepM m L) := by
  have h1 := h.le
  have h2 := h.pos
  have h3 := ho.n2
  refine { n1 := ?_, n2 := ?_, next := ?_, k2 := ho.k2, width := ho.width, row := ?_, nx := ?_, lab := ?_, names := ho.names, of := ho.of }
  all_goals try rw [keep_n]
  · omega
  · omega
  · simp [keepM]
  · intro s hs
    rw [keep_row hs]; simp [keep_k]
  · intro s c hs hc
    rw [keep_nx (m := m) hs hc, keep_row hs]
    refine ⟨List.idxOf_lt_length_of_mem (h.cl _ _ (getD_mem hs) hc), ?_⟩
    have hc : c < k m := hc
    simp [hc]
  · intro s hs
    rw [keep_lab hs]
    exact ho.lab _ (h.lt _ (getD_mem hs))
theorem trim_ok (ho : Ok m) : Ok (trim m) := keep_ok ho (reach_kp ho)
end Mx
end Go.Proofs.Ythepabefikobpaa
