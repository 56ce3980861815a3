/- Plain lists: numbers in the order of first occurrence. No condition. -/
namespace Go.Sp
section
variable {α : Type} [DecidableEq α]
/-- Each thing once, in the order in which they come. -/
def fo (l : List α) : List α := l.foldl (fun acc x => if x ∈ acc then acc else acc ++ [x]) []
theorem fo_nil : fo ([] : List α) = [] := rfl
theorem fo_snoc (l : List α) (x : α) : fo (l ++ [x]) = if x ∈ fo l then fo l else fo l ++ [x] := by
  unfold fo; rw [List.foldl_append]; rfl
omit [DecidableEq α] in
theorem list_snoc_ind {p : List α → Prop} (h0 : p []) (hs : ∀ l x, p l → p (l ++ [x])) (l : List α) : p l := by
  have : ∀ n (l : List α), l.length = n → p l := by
    intro n
    induction n with
    | zero => intro l hl; obtain rfl : l = [] := by simpa using hl
              exact h0
    | succ n ih =>
      intro l hl
      have hne : l ≠ [] := by intro h; subst h; simp at hl
      rw [← List.dropLast_concat_getLast hne]
      exact hs _ _ (ih _ (by simp [hl]))
  exact this _ l rfl
theorem mem_fo (l : List α) (x : α) : x ∈ fo l ↔ x ∈ l := by
  refine list_snoc_ind (p := fun l => x ∈ fo l ↔ x ∈ l) (by simp [fo_nil]) (fun l y ih => ?_) l
  rw [fo_snoc]
  split
  · rename_i h
    rw [ih, List.mem_append, List.mem_singleton]
    refine ⟨.inl, ?_⟩
    rintro (h' | rfl)
    · exact h'
    · exact ih.1 h
  · rw [List.mem_append, List.mem_append, ih]
theorem nodup_fo (l : List α) : (fo l).Nodup := by
  refine list_snoc_ind (p := fun l => (fo l).Nodup) (by simp [fo_nil]) (fun l y ih => ?_) l
  rw [fo_snoc]
  split
  · exact ih
  · rename_i h
    rw [List.nodup_append]
    exact ⟨ih, by simp, fun a ha b hb => by rw [List.mem_singleton] at hb; subst hb; rintro rfl; exact h ha⟩
/-- The numbers of a list's things. -/
def num (l : List α) : List Nat := l.map fun x => (fo l).idxOf x
theorem num_length (l : List α) : (num l).length = l.length := by simp [num]
theorem idxOf_fo_snoc (l : List α) (x y : α) (h : y ∈ l) : (fo (l ++ [x])).idxOf y = (fo l).idxOf y := by
  rw [fo_snoc]
  split
  · rfl
  · rw [List.idxOf_append, if_pos ((mem_fo l y).2 h)]
theorem num_snoc (l : List α) (x : α) : num (l ++ [x]) = num l ++ [(fo (l ++ [x])).idxOf x] := by
  simp only [num, List.map_append, List.map_cons, List.map_nil]
  congr 1
  exact List.map_congr_left fun y hy => idxOf_fo_snoc l x y hy
theorem assoc_like (l : List α) (x : α) : ((fo l).zipIdx.find? (fun p => decide (p.1 = x))).map (·.2) = if x ∈ fo l then some ((fo l).idxOf x) else none := by
  have key : ∀ (m : List α) (k : Nat), ((m.zipIdx k).find? (fun p => decide (p.1 = x))).map (·.2) = if x ∈ m then some (k + m.idxOf x) else none := by
    intro m
    induction m with
    | nil => intro k; simp
    | cons y m ih =>
      intro k
      rw [List.zipIdx_cons, List.find?_cons]
      by_cases h : y = x
      · subst h; simp
      · simp only [h, decide_false]
        rw [ih (k + 1)]
        have h' : ¬ x = y := fun e => h e.symm
        have hb : (y == x) = false := by simpa using h
        by_cases hm : x ∈ m
        · simp [hm, List.idxOf_cons, hb]; omega
        · simp [hm, h']
  simpa using key (fo l) 0
theorem fo_length_le (l : List α) : (fo l).length ≤ l.length := by
  refine list_snoc_ind (p := fun l => (fo l).length ≤ l.length) (by simp [fo_nil]) (fun l y ih => ?_) l
  rw [fo_snoc]
  split <;> simp <;> omega
theorem idxOf_lt (l : List α) (x : α) (h : x ∈ l) : (fo l).idxOf x < (fo l).length := List.idxOf_lt_length_of_mem ((mem_fo l x).2 h)
/-- The numbers, as Go's. -/
def numI (l : List α) : List Int := (num l).map Int.ofNat
theorem numI_length (l : List α) : (numI l).length = l.length := by simp [numI, num_length]
theorem numI_nil : numI ([] : List α) = [] := rfl
theorem numI_snoc (l : List α) (x : α) : numI (l ++ [x]) = numI l ++ [((fo (l ++ [x])).idxOf x : Int)] := by simp [numI, num_snoc]
theorem num_lt (l : List α) (n : Nat) (h : n ∈ num l) : n < (fo l).length := by
  rw [num, List.mem_map] at h
  obtain ⟨x, hx, rfl⟩ := h
  exact idxOf_lt l x hx
theorem num_eq (l : List α) (i j : Nat) (hi : i < l.length) (hj : j < l.length) : ((num l)[i]? = (num l)[j]?) ↔ l[i]? = l[j]? := by
  simp only [num, List.getElem?_map, List.getElem?_eq_getElem hi, List.getElem?_eq_getElem hj, Option.map_some, Option.some.injEq]
  refine ⟨fun h => ?_, fun h => by rw [h]⟩
  have h1 := List.getElem_idxOf (idxOf_lt l l[i] (List.getElem_mem hi))
  have h2 := List.getElem_idxOf (idxOf_lt l l[j] (List.getElem_mem hj))
  rw [← h1, ← h2]
  simp only [h]
end
end Go.Sp
