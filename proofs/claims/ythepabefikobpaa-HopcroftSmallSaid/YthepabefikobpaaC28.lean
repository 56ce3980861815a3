/- Plain: maps between machines; the small machine is the same for machines with a map between them. No condition. -/
import Derived.Test.YthepabefikobpaaC19
namespace Go.Proofs.Ythepabefikobpaa
open Go Go.Sh Go.Sp
namespace Mx
/-- A map between machines. -/
structure Hom (m m' : Mc) (f : Nat → Nat) : Prop where
  zero : f 0 = 0
  lt : ∀ x, x < n m → f x < n m'
  nx : ∀ x c, x < n m → c < k m → f (nx m x c) = nx m' (f x) c
  lab : ∀ x, x < n m → lab m x = lab m' (f x)
  of : m.of = m'.of
  width : m.width = m'.width
  names : m.names = m'.names
theorem Hom.k {m m' : Mc} {f : Nat → Nat} (h : Hom m m' f) : k m = k m' := by rw [Mx.k, Mx.k, h.width]
theorem Hom.alk {m m' : Mc} {f : Nat → Nat} (h : Hom m m' f) (ho : Ok m) : ∀ j x y, x < n m → y < n m → (alk m j x y ↔ alk m' j (f x) (f y))
  | 0, x, y, hx, hy => by rw [Mx.alk, Mx.alk, h.lab x hx, h.lab y hy]
  | j + 1, x, y, hx, hy => by
    rw [Mx.alk, Mx.alk, h.lab x hx, h.lab y hy, ← h.k]
    refine and_congr Iff.rfl ⟨fun h2 c hc => ?_, fun h2 c hc => ?_⟩
    · rw [← h.nx x c hx hc, ← h.nx y c hy hc]
      exact (h.alk ho j _ _ (ho.nx x c hx hc).1 (ho.nx y c hy hc).1).1 (h2 c hc)
    · have := h2 c hc
      rw [← h.nx x c hx hc, ← h.nx y c hy hc] at this
      exact (h.alk ho j _ _ (ho.nx x c hx hc).1 (ho.nx y c hy hc).1).2 this
theorem Hom.Alk {m m' : Mc} {f : Nat → Nat} (h : Hom m m' f) (ho : Ok m) {x y : Nat} (hx : x < n m) (hy : y < n m) : Alk m x y ↔ Alk m' (f x) (f y) :=
  ⟨fun h2 j => (h.alk ho j x y hx hy).1 (h2 j), fun h2 j => (h.alk ho j x y hx hy).2 (h2 j)⟩
theorem fo_app_new {α : Type} [DecidableEq α] (l : List α) (x : α) : fo (l ++ [x]) = if x ∈ fo l then fo l else fo l ++ [x] := fo_snoc l x
theorem fo_ext (f : Nat → Nat) (a : List Nat) (row : List Nat) : fo ((ext row a).map f) = ext (row.map f) (fo (a.map f)) := by
  induction row using list_snoc_ind with
  | h0 => rfl
  | hs l x ih =>
    rw [List.map_append, List.map_singleton, ext_snoc, ext_snoc, ← ih]
    by_cases h : x ∈ ext l a
    · rw [if_pos h, if_pos]
      rw [mem_fo]
      exact List.mem_map_of_mem h
    · rw [if_neg h, List.map_append, List.map_singleton, fo_snoc]
theorem ext_same {row a : List Nat} (h : ∀ x ∈ row, x ∈ a) : ext row a = a := by
  induction row using list_snoc_ind with
  | h0 => rfl
  | hs l x ih =>
    have h1 := ih fun y hy => h y (List.mem_append_left _ hy)
    rw [ext_snoc, h1, if_pos (h x (List.mem_append_right _ List.mem_cons_self))]
theorem Hom.row {m m' : Mc} {f : Nat → Nat} (h : Hom m m' f) {x : Nat} (hx : x < n m) : (row m x).map f = row m' (f x) := by
  rw [Mx.row, Mx.row, List.map_map, ← h.k]
  exact List.map_congr_left fun c hc => h.nx x c hx (List.mem_range.1 hc)
theorem fo_take_pre {α : Type} [DecidableEq α] (l : List α) (i : Nat) : fo (l.take i) <+: fo l := by
  conv => rhs; rw [← List.take_append_drop i l]
  induction (l.drop i) using list_snoc_ind with
  | h0 => rw [List.append_nil]; exact List.prefix_refl _
  | hs t x ih =>
    rw [← List.append_assoc, fo_snoc]
    split
    · exact ih
    · exact ih.trans (List.prefix_append _ _)
theorem Hom.bf {m m' : Mc} {f : Nat → Nat} (h : Hom m m' f) (ho : Ok m) : ∀ j, j ≤ (Mx.bf m j).length → fo ((Mx.bf m j).map f) = Mx.bf m' (fo (((Mx.bf m j).take j).map f)).length ∧ ∀ x ∈ (Mx.bf m j).take j, ∀ c, c < Mx.k m → f (Mx.nx m x c) ∈ (Mx.bf m j).map f
  | 0, _ => by
    refine ⟨?_, fun x hx => by simp at hx⟩
    show fo [f 0] = [0]
    rw [h.zero]; rfl
  | j + 1, hj1 => by
    have hj : j < (Mx.bf m j).length := by
      rcases Nat.lt_or_ge j (Mx.bf m j).length with h1 | h1
      · exact h1
      · rw [Mx.bf, if_neg (by omega)] at hj1; omega
    obtain ⟨ih1, ih2⟩ := Hom.bf h ho j (by omega)
    have hx0 := bf_lt ho j _ (getD_mem hj)
    obtain ⟨x, hx⟩ : ∃ x, x = (Mx.bf m j).getD j 0 := ⟨_, rfl⟩
    rw [← hx] at hx0
    have hget : (Mx.bf m j)[j]? = some x := by rw [hx]; exact getD_some hj
    have hbs : Mx.bf m (j + 1) = ext (Mx.row m x) (Mx.bf m j) := by rw [Mx.bf, if_pos hj, ← hx]
    have htk : (Mx.bf m (j + 1)).take (j + 1) = (Mx.bf m j).take j ++ [x] := by
      obtain ⟨t, ht⟩ := bf_pre1 (m := m) j
      rw [← ht, List.take_append_of_le_length (by omega), List.take_add_one, hget]; rfl
    have hpre : fo (((Mx.bf m j).take j ++ [x]).map f) <+: fo ((Mx.bf m j).map f) := by
      have := fo_take_pre ((Mx.bf m j).map f) (j + 1)
      rwa [← List.map_take, List.take_add_one, hget] at this
    rw [htk, hbs, fo_ext, h.row hx0]
    rw [List.map_append, List.map_singleton, fo_snoc] at hpre ⊢
    refine ⟨?_, fun y hy c hc => ?_⟩
    · by_cases hin : f x ∈ fo (((Mx.bf m j).take j).map f)
      · rw [if_pos hin, ← ih1]
        refine ext_same fun y hy => ?_
        rw [Mx.row, List.mem_map] at hy
        obtain ⟨c, hc, rfl⟩ := hy
        have hc := List.mem_range.1 hc
        rw [← h.k] at hc
        rw [mem_fo, List.mem_map] at hin
        obtain ⟨x0, hx0m, e⟩ := hin
        have h1 := ih2 x0 hx0m c hc
        rw [h.nx x0 c (bf_lt ho j _ (List.mem_of_mem_take hx0m)) hc, e] at h1
        exact (mem_fo _ _).2 h1
      · rw [if_neg hin] at hpre ⊢
        rw [List.length_append, List.length_singleton]
        obtain ⟨t, ht⟩ := hpre
        have hlen : (fo (((Mx.bf m j).take j).map f)).length < (Mx.bf m' (fo (((Mx.bf m j).take j).map f)).length).length := by
          rw [← ih1, ← ht]; simp
        rw [Mx.bf, if_pos hlen]
        have hg : (Mx.bf m' (fo (((Mx.bf m j).take j).map f)).length).getD (fo (((Mx.bf m j).take j).map f)).length 0 = f x := by
          rw [← ih1, ← ht]; simp [List.getD_eq_getElem?_getD]
        rw [hg, ← ih1]
    · rw [List.mem_append, List.mem_singleton] at hy
      rcases hy with hy | rfl
      · have := ih2 y hy c hc
        rw [List.mem_map] at this ⊢
        obtain ⟨z, hz, e⟩ := this
        exact ⟨z, (ext_mem _ _ _).2 (.inl hz), e⟩
      · exact List.mem_map_of_mem ((ext_mem _ _ _).2 (.inr (List.mem_map.2 ⟨c, List.mem_range.2 hc, rfl⟩)))
theorem Hom.reach {m m' : Mc} {f : Nat → Nat} (h : Hom m m' f) (ho : Ok m) (ho' : Ok m') : fo ((Mx.reach m).map f) = Mx.reach m' := by
  have hle := reach_le ho
  have h1 : Mx.bf m (Mx.reach m).length = Mx.reach m := bf_end ho ((bf_pre (show (Mx.reach m).length ≤ n m from hle)).length_le)
  obtain ⟨h2, _⟩ := h.bf ho (Mx.reach m).length (by rw [h1]; exact Nat.le_refl _)
  rw [h1, List.take_of_length_le (Nat.le_refl _)] at h2
  rw [h2]
  refine bf_end ho' ?_
  rw [← h2]; exact Nat.le_refl _
/-- The word's way. -/
def run (m : Mc) (w : List Nat) : Nat := w.foldl (fun s b => nx m s (m.of b).toNat) 0
theorem run_snoc (m : Mc) (w : List Nat) (b : Nat) : run m (w ++ [b]) = nx m (run m w) (m.of b).toNat := by simp [run]
theorem run_lt {m : Mc} (ho : Ok m) (hk : ∀ b, b < 256 → (m.of b).toNat < k m) (w : List Nat) (hw : ∀ b ∈ w, b < 256) : run m w < n m := by
  induction w using list_snoc_ind with
  | h0 => exact ho.n1
  | hs l b ih =>
    rw [run_snoc]
    exact (ho.nx _ _ (ih fun x hx => hw x (List.mem_append_left _ hx)) (hk b (hw b (List.mem_append_right _ List.mem_cons_self)))).1
theorem Hom.run {m m' : Mc} {f : Nat → Nat} (h : Hom m m' f) (ho : Ok m) (hk : ∀ b, b < 256 → (m.of b).toNat < Mx.k m) (w : List Nat) (hw : ∀ b ∈ w, b < 256) : Mx.run m' w = f (Mx.run m w) := by
  induction w using list_snoc_ind with
  | h0 => exact h.zero.symm
  | hs l b ih =>
    have h1 := fun x hx => hw x (List.mem_append_left _ hx)
    have hb := hk b (hw b (List.mem_append_right _ List.mem_cons_self))
    rw [run_snoc, run_snoc, ih h1, h.nx _ _ (run_lt ho hk l h1) hb, h.of]
end Mx
end Go.Proofs.Ythepabefikobpaa
/- Plain: the small machine by its classes; machines with a map between them have one small machine. No condition. -/
namespace Go.Proofs.Ythepabefikobpaa
open Go Go.Sh Go.Sp
namespace Mx
theorem numI_num {α : Type} [DecidableEq α] (R : List α) : numI (numI R) = numI R := by
  have h1 : C.IsNum (fun i j => R[i]? = R[j]?) R.length (numI R) := C.IsNum.of_list rfl fun _ _ _ _ => Iff.rfl
  have h2 : C.IsNum (fun i j => (numI R)[i]? = (numI R)[j]?) R.length (numI (numI R)) := C.IsNum.of_list (numI_length R) fun _ _ _ _ => Iff.rfl
  refine h2.eq h1 fun x y hx hy => ?_
  have := h1.at hx hy
  rw [← this, getD_some (l := numI R) (i := x) (z := 0) (by rw [numI_length]; exact hx), getD_some (l := numI R) (i := y) (z := 0) (by rw [numI_length]; exact hy), Option.some.injEq]
theorem hdN_num {α : Type} [DecidableEq α] (R : List α) : hdN (numI R) = (fo R).map R.idxOf := by
  have h1 := C.hds_hdN (numI R)
  rw [numI_num, C.hds_numI] at h1
  have h2 : ((fo R).map R.idxOf).map Int.ofNat = (hdN (numI R)).map Int.ofNat := by rw [← h1, List.map_map]; rfl
  exact ((List.map_inj_right (fun a b e => by have e : (a : Int) = b := e; omega)).1 h2).symm
theorem numI_getD {α : Type} [DecidableEq α] {R : List α} {i : Nat} {x : α} (hx : R[i]? = some x) : (numI R).getD i 0 = (((fo R).idxOf x : Nat) : Int) := by
  rw [List.getD_eq_getElem?_getD, numI_map, List.getElem?_map, hx]; rfl
theorem quo_at {t : Mc} {l : List Int} (ho : Ok t) (h : C.IsNum (Alk t) (n t) l) {x : Nat} (hx : x < n t) :
    (quo t l).label[(l.getD x 0).toNat]? = some (lab t x) ∧ (quo t l).next[(l.getD x 0).toNat]? = some ((List.range (k t)).map fun c => l.getD (nx t x c) 0) := by
  have hat := fun {a b} (ha : a < n t) (hb : b < n t) => h.at (x := a) (y := b) ha hb
  obtain ⟨bl, rfl, hb⟩ := h
  obtain ⟨R, hR⟩ : ∃ R, R = (List.range (n t)).map bl := ⟨_, rfl⟩
  rw [← hR] at hat ⊢
  have hRx : ∀ y, y < n t → R[y]? = some (bl y) := fun y hy => by rw [hR]; simp [hy]
  have hmem : bl x ∈ R := List.mem_of_getElem? (hRx x hx)
  have hfo : bl x ∈ fo R := (mem_fo _ _).2 hmem
  have hlt := List.idxOf_lt_length_of_mem hfo
  have hge : (fo R)[(fo R).idxOf (bl x)]? = some (bl x) := by rw [List.getElem?_eq_getElem hlt, List.getElem_idxOf]
  obtain ⟨i0, hi0⟩ : ∃ i0, i0 = R.idxOf (bl x) := ⟨_, rfl⟩
  have hi0l : i0 < n t := by
    have := List.idxOf_lt_length_of_mem hmem
    rw [hi0]; rw [hR] at this ⊢; simpa using this
  have hbl0 : bl i0 = bl x := by
    have h1 := hRx i0 hi0l
    have h2 : R[R.idxOf (bl x)]? = some (bl x) := by rw [List.getElem?_eq_getElem (List.idxOf_lt_length_of_mem hmem), List.getElem_idxOf]
    rw [← hi0, h1] at h2
    exact Option.some.inj h2
  have ha := (hb i0 x hi0l hx).1 hbl0
  rw [numI_getD (hRx x hx), Int.toNat_natCast]
  simp only [quo, hdN_num, List.getElem?_map, hge, Option.map_some, ← hi0]
  refine ⟨by rw [alk_lab (ha 0)], ?_⟩
  congr 1
  refine List.map_congr_left fun c hc => ?_
  have hc := List.mem_range.1 hc
  rw [numI_num]
  exact (hat (ho.nx i0 c hi0l hc).1 (ho.nx x c hx hc).1).2 (Alk_next ha hc)
theorem quo_n {t : Mc} {l : List Int} : n (quo t l) = (fo l).length := by simp [n, quo, hdN]
theorem num_val {t : Mc} {l : List Int} (h : C.IsNum (Alk t) (n t) l) {x : Nat} (hx : x < n t) : l.getD x 0 = ((l.getD x 0).toNat : Int) ∧ (l.getD x 0).toNat < (fo l).length := by
  obtain ⟨bl, rfl, hb⟩ := h
  have hRx : ((List.range (n t)).map bl)[x]? = some (bl x) := by simp [hx]
  rw [numI_getD hRx, Int.toNat_natCast]
  refine ⟨rfl, ?_⟩
  have h1 := hdN_num ((List.range (n t)).map bl)
  have h2 : (fo (numI ((List.range (n t)).map bl))).length = (fo ((List.range (n t)).map bl)).length := by
    have := congrArg List.length h1
    simpa [hdN] using this
  rw [h2]
  exact idxOf_lt _ _ (List.mem_of_getElem? hRx)
theorem quo_hom {t : Mc} {l : List Int} (ho : Ok t) (h : C.IsNum (Alk t) (n t) l) : Hom t (quo t l) fun i => (l.getD i 0).toNat where
  zero := by
    obtain ⟨bl, rfl, hb⟩ := h
    have h1 := ho.n1
    have hRx : ((List.range (n t)).map bl)[0]? = some (bl 0) := by rw [List.getElem?_map, List.getElem?_range (by omega)]; rfl
    rw [numI_getD hRx, Int.toNat_natCast]
    obtain ⟨j, hj⟩ : ∃ j, n t = j + 1 := ⟨n t - 1, by omega⟩
    have hpre := fo_take_pre ((List.range (n t)).map bl) 1
    have htk : ((List.range (n t)).map bl).take 1 = [bl 0] := by rw [List.take_add_one, hRx]; simp
    rw [htk] at hpre
    obtain ⟨u, hu⟩ := hpre
    rw [← hu]
    show (List.idxOf (bl 0) ([bl 0] ++ u)) = 0
    simp
  lt x hx := by rw [quo_n]; exact (num_val h hx).2
  nx x c hx hc := by
    have h1 := (quo_at ho h hx).2
    show _ = (((quo t l).next.getD _ []).getD c 0).toNat
    have h2 : ((List.range (k t)).map fun c => l.getD (Mx.nx t x c) 0).getD c 0 = l.getD (Mx.nx t x c) 0 := by simp [List.getD_eq_getElem?_getD, hc]
    rw [List.getD_eq_getElem?_getD (l := (quo t l).next), h1, Option.getD_some, h2]
  lab x hx := by
    have h1 := (quo_at ho h hx).1
    show _ = (quo t l).label.getD _ 0
    rw [List.getD_eq_getElem?_getD, h1]; rfl
  of := rfl
  width := rfl
  names := rfl
theorem trim_hom {m : Mc} (ho : Ok m) : Hom (trim m) m fun i => (reach m).getD i 0 where
  zero := by rw [List.getD_eq_getElem?_getD, reach_0]; rfl
  lt x hx := by
    have hx : x < (reach m).length := by rwa [trim, keep_n] at hx
    exact reach_lt ho _ (getD_mem hx)
  nx x c hx hc := by
    have hx : x < (reach m).length := by rwa [trim, keep_n] at hx
    have hc : c < k m := hc
    have h1 := reach_closed ho (getD_mem hx) hc
    rw [trim, keep_nx hx hc, List.getD_eq_getElem?_getD, List.getElem?_eq_getElem (List.idxOf_lt_length_of_mem h1), List.getElem_idxOf]
    rfl
  lab x hx := by
    have hx : x < (reach m).length := by rwa [trim, keep_n] at hx
    rw [trim, keep_lab hx]
  of := rfl
  width := rfl
  names := rfl
end Mx
end Go.Proofs.Ythepabefikobpaa
/- Plain: machines with a map between them have one small machine; the small machine is one that may be. No condition. -/
namespace Go.Proofs.Ythepabefikobpaa
open Go Go.Sh Go.Sp
namespace Mx
theorem fo_num_len {α : Type} [DecidableEq α] (R : List α) : (fo (numI R)).length = (fo R).length := by
  have := congrArg List.length (hdN_num R)
  simpa [hdN] using this
theorem fo_map_fo {α β : Type} [DecidableEq α] [DecidableEq β] (g : α → β) (l : List α) : fo ((fo l).map g) = fo (l.map g) := by
  induction l using list_snoc_ind with
  | h0 => rfl
  | hs l x ih =>
    rw [List.map_append, List.map_singleton, fo_snoc, fo_snoc]
    by_cases h : x ∈ fo l
    · rw [if_pos h, ih, if_pos]
      rw [mem_fo] at h ⊢
      exact List.mem_map_of_mem h
    · rw [if_neg h, List.map_append, List.map_singleton, fo_snoc, ih]
theorem small_char {m q : Mc} (ho : Ok m) (h : IsSm m q) {cl : Nat → Nat} (hcl : ∀ x y, x < n m → y < n m → (cl x = cl y ↔ Alk m x y)) :
    q.label.length = (fo ((reach m).map cl)).length ∧ q.next.length = (fo ((reach m).map cl)).length ∧ ∀ x ∈ reach m, q.label[(fo ((reach m).map cl)).idxOf (cl x)]? = some (lab m x) ∧
      q.next[(fo ((reach m).map cl)).idxOf (cl x)]? = some ((List.range (k m)).map fun c => (((fo ((reach m).map cl)).idxOf (cl (nx m x c)) : Nat) : Int)) := by
  obtain ⟨l, hl, rfl⟩ := h
  have hot := trim_ok ho
  have hnt : n (trim m) = (reach m).length := keep_n _
  have hth := trim_hom ho
  have hget : ∀ i, i < (reach m).length → ((reach m).map cl)[i]? = some (cl ((reach m).getD i 0)) := fun i hi => by rw [List.getElem?_map, getD_some (z := 0) hi]; rfl
  have hl2 : C.IsNum (Alk (trim m)) (n (trim m)) (numI ((reach m).map cl)) := C.IsNum.of_list (by rw [List.length_map, hnt]) fun x y hx hy => by
    rw [hget x (by omega), hget y (by omega), Option.some.injEq, hcl _ _ (hth.lt x hx) (hth.lt y hy), hth.Alk hot hx hy]
  have e := hl.eq hl2 fun _ _ _ _ => Iff.rfl
  subst e
  refine ⟨?_, ?_, fun x hx => ?_⟩
  · have := quo_n (t := trim m) (l := numI ((reach m).map cl))
    rw [fo_num_len] at this; exact this
  · simp [quo, hdN, fo_num_len]
  · obtain ⟨i, hi, rfl⟩ := List.getElem_of_mem hx
    have e : (reach m).getD i 0 = (reach m)[i] := by rw [List.getD_eq_getElem?_getD, List.getElem?_eq_getElem hi]; rfl
    obtain ⟨h1, h2⟩ := quo_at hot hl2 (x := i) (by omega)
    rw [numI_getD (hget i hi), Int.toNat_natCast, e] at h1 h2
    refine ⟨by rw [h1, hth.lab i (by omega), e], ?_⟩
    rw [h2]
    congr 1
    refine List.map_congr_left fun c hc => ?_
    have hc : c < k m := List.mem_range.1 hc
    have h3 := (hot.nx i c (by omega) hc).1
    have h4 := hth.nx i c (by omega) hc
    rw [numI_getD (hget _ (by omega)), h4, e]
theorem cls_ex {m : Mc} : ∃ g : Nat → Nat, ∀ x y, x < n m → y < n m → (g x = g y ↔ Alk m x y) := by
  have hf : ∀ x, ∃ y, Alk m x y ∧ ∀ z, z < y → ¬ Alk m x z := by
    intro x
    have key : ∀ k, ∀ y, y ≤ k → Alk m x y → ∃ y, y ≤ k ∧ Alk m x y ∧ ∀ z, z < y → ¬ Alk m x z := by
      intro k
      induction k with
      | zero => exact fun y hy ha => ⟨y, hy, ha, fun z hz => by omega⟩
      | succ k ih =>
        intro y hy ha
        by_cases hz : ∃ z, z < y ∧ Alk m x z
        · obtain ⟨z, hz, hza⟩ := hz
          obtain ⟨y', h1, h2, h3⟩ := ih z (by omega) hza
          exact ⟨y', by omega, h2, h3⟩
        · exact ⟨y, hy, ha, fun z hz' hza => hz ⟨z, hz', hza⟩⟩
    obtain ⟨y, _, h1, h2⟩ := key x x (Nat.le_refl _) fun j => alk_refl m j x
    exact ⟨y, h1, h2⟩
  obtain ⟨g, hg⟩ := Classical.axiomOfChoice hf
  refine ⟨g, fun x y _ _ => ?_⟩
  obtain ⟨a2, a3⟩ := hg x
  obtain ⟨b2, b3⟩ := hg y
  constructor
  · intro he
    exact fun z => alk_trans (a2 z) (he ▸ alk_symm (b2 z))
  · intro ha
    have h1 : Alk m x (g y) := fun z => alk_trans (ha z) (b2 z)
    have h2 : Alk m y (g x) := fun z => alk_trans (alk_symm (ha z)) (a2 z)
    rcases Nat.lt_trichotomy (g x) (g y) with h | h | h
    · exact absurd h2 (b3 _ h)
    · exact h
    · exact absurd h1 (a3 _ h)
theorem IsSm.parts {m q : Mc} (h : IsSm m q) : q.of = m.of ∧ q.width = m.width ∧ q.names = m.names := by
  obtain ⟨l, _, rfl⟩ := h
  exact ⟨rfl, rfl, rfl⟩
theorem Mc_ext {q q' : Mc} (h1 : q.of = q'.of) (h2 : q.width = q'.width) (h3 : q.next = q'.next) (h4 : q.label = q'.label) (h5 : q.names = q'.names) : q = q' := by
  cases q; cases q'; simp_all
/-- Machines with a map between them have one small machine. -/
theorem Hom.small {m m' : Mc} {f : Nat → Nat} (h : Hom m m' f) (ho : Ok m) (ho' : Ok m') {q q' : Mc} (hq : IsSm m q) (hq' : IsSm m' q') : q = q' := by
  obtain ⟨g, hg⟩ := cls_ex (m := m')
  have hg' : ∀ x y, x < n m → y < n m → (g (f x) = g (f y) ↔ Mx.Alk m x y) := fun x y hx hy => by rw [hg _ _ (h.lt x hx) (h.lt y hy), h.Alk ho hx hy]
  obtain ⟨a1, a2, a3⟩ := small_char ho hq (cl := fun x => g (f x)) hg'
  obtain ⟨b1, b2, b3⟩ := small_char ho' hq' hg
  have hC : fo ((Mx.reach m).map fun x => g (f x)) = fo ((Mx.reach m').map g) := by
    rw [← h.reach ho ho', fo_map_fo, List.map_map]; rfl
  rw [hC] at a1 a2 a3
  obtain ⟨p1, p2, p3⟩ := hq.parts
  obtain ⟨r1, r2, r3⟩ := hq'.parts
  have hsurj : ∀ i, i < (fo ((Mx.reach m').map g)).length → ∃ x ∈ Mx.reach m, (fo ((Mx.reach m').map g)).idxOf (g (f x)) = i ∧ f x ∈ Mx.reach m' := by
    intro i hi
    obtain ⟨z, hz⟩ : ∃ z, (fo ((Mx.reach m').map g))[i]? = some z := ⟨_, List.getElem?_eq_getElem hi⟩
    have h1 := List.mem_of_getElem? hz
    rw [← hC, mem_fo, List.mem_map] at h1
    obtain ⟨x, hx, rfl⟩ := h1
    refine ⟨x, hx, ?_, ?_⟩
    · exact (C.idxOf_iff (nodup_fo _) hi).1 (List.getElem?_eq_some_iff.1 hz).2
    · rw [← h.reach ho ho', mem_fo]; exact List.mem_map_of_mem hx
  refine Mc_ext (by rw [p1, r1, h.of]) (by rw [p2, r2, h.width]) ?_ ?_ (by rw [p3, r3, h.names])
  · apply List.ext_getElem?
    intro i
    by_cases hi : i < (fo ((Mx.reach m').map g)).length
    · obtain ⟨x, hx, rfl, hfx⟩ := hsurj i hi
      rw [(a3 x hx).2, (b3 _ hfx).2, ← h.k]
      congr 1
      refine List.map_congr_left fun c hc => ?_
      rw [h.nx x c (reach_lt ho x hx) (List.mem_range.1 hc)]
    · rw [List.getElem?_eq_none (by omega), List.getElem?_eq_none (by omega)]
  · apply List.ext_getElem?
    intro i
    by_cases hi : i < (fo ((Mx.reach m').map g)).length
    · obtain ⟨x, hx, rfl, hfx⟩ := hsurj i hi
      rw [(a3 x hx).1, (b3 _ hfx).1, h.lab x (reach_lt ho x hx)]
    · rw [List.getElem?_eq_none (by omega), List.getElem?_eq_none (by omega)]
theorem quo_surj {t : Mc} {l : List Int} (h : C.IsNum (Alk t) (n t) l) {s : Nat} (hs : s < (fo l).length) : ∃ x, x < n t ∧ (l.getD x 0).toNat = s := by
  have hlen := h.len
  obtain ⟨bl, rfl, hb⟩ := h
  rw [fo_num_len] at hs
  obtain ⟨R, hR⟩ : ∃ R, R = (List.range (n t)).map bl := ⟨_, rfl⟩
  rw [← hR] at hs ⊢
  have hm : (fo R)[s] ∈ R := (mem_fo _ _).1 (List.getElem_mem hs)
  have hlt := List.idxOf_lt_length_of_mem hm
  refine ⟨R.idxOf (fo R)[s], ?_, ?_⟩
  · have e : R.length = n t := by rw [hR]; simp
    omega
  · rw [numI_getD (x := (fo R)[s]) (by rw [List.getElem?_eq_getElem hlt, List.getElem_idxOf]), Int.toNat_natCast]
    exact (C.idxOf_iff (nodup_fo _) hs).1 rfl
theorem quo_ok {t : Mc} {l : List Int} (ho : Ok t) (h : C.IsNum (Alk t) (n t) l) : Ok (quo t l) := by
  have hh := quo_hom ho h
  have h0 := (num_val h ho.n1).2
  have hlen := h.len
  have hfl := fo_length_le l
  have hn2 := ho.n2
  refine { n1 := ?_, n2 := ?_, next := ?_, k2 := ho.k2, width := ho.width, row := ?_, nx := ?_, lab := ?_, names := ho.names, of := ho.of }
  · rw [quo_n]; omega
  · rw [quo_n]; omega
  · rw [quo_n]; simp [quo, hdN]
  · intro s hs
    rw [quo_n] at hs
    obtain ⟨x, hx, rfl⟩ := quo_surj h hs
    rw [List.getD_eq_getElem?_getD (l := (quo t l).next), (quo_at ho h hx).2]
    simp [Mx.k, quo]
  · intro s c hs hc
    rw [quo_n] at hs
    have hc : c < k t := hc
    obtain ⟨x, hx, rfl⟩ := quo_surj h hs
    have hnx := hh.nx x c hx hc
    have hy := (ho.nx x c hx hc).1
    have hv := num_val h hy
    rw [← hnx, quo_n, List.getD_eq_getElem?_getD (l := (quo t l).next), (quo_at ho h hx).2]
    refine ⟨hv.2, ?_⟩
    simp only [Option.getD_some, List.getElem?_map, List.getElem?_range hc, Option.map_some]
    rw [← hv.1]
  · intro s hs
    rw [quo_n] at hs
    obtain ⟨x, hx, rfl⟩ := quo_surj h hs
    rw [← hh.lab x hx]
    exact ho.lab x hx
theorem IsSm.ok {m q : Mc} (ho : Ok m) (h : IsSm m q) : Ok q := by
  obtain ⟨l, hl, rfl⟩ := h
  exact quo_ok (trim_ok ho) hl
/-- The small machine of a small machine is itself. -/
theorem IsSm.again {m q r : Mc} (ho : Ok m) (h : IsSm m q) (hr : IsSm q r) : r = q := by
  have hoq := h.ok ho
  have hsm := h
  obtain ⟨l, hl, rfl⟩ := h
  have hot := trim_ok ho
  obtain ⟨l2, hl2⟩ : ∃ l2, C.IsNum (Alk (trim (trim m))) (n (trim (trim m))) l2 := by
    obtain ⟨g, hg⟩ := cls_ex (m := trim (trim m))
    exact ⟨_, g, rfl, hg⟩
  have ht : IsSm (trim m) (quo (trim (trim m)) l2) := ⟨l2, hl2, rfl⟩
  rw [← (quo_hom hot hl).small hot hoq ht hr]
  exact (trim_hom ho).small hot ho ht hsm
/-- What is told of a word is the same. -/
theorem IsSm.tells {m q : Mc} (ho : Ok m) (h : IsSm m q) (hk : ∀ b, b < 256 → (m.of b).toNat < k m) (w : List Nat) (hw : ∀ b ∈ w, b < 256) : lab q (run q w) = lab m (run m w) := by
  obtain ⟨l, hl, rfl⟩ := h
  have hot := trim_ok ho
  have h1 := (quo_hom hot hl)
  have h2 := (trim_hom ho)
  have hr := run_lt hot hk w hw
  rw [h1.run hot hk w hw, ← h1.lab _ hr, h2.run hot hk w hw, h2.lab _ hr]
theorem IsSm.le {m q : Mc} (ho : Ok m) (h : IsSm m q) : q.label.length ≤ (reach m).length := by
  obtain ⟨l, hl, rfl⟩ := h
  have h1 := quo_n (t := trim m) (l := l)
  have h2 := hl.len
  have h3 := fo_length_le l
  have h4 : n (trim m) = (reach m).length := keep_n _
  have h5 : n (quo (trim m) l) = (quo (trim m) l).label.length := rfl
  omega
/-- No two states of a small machine are alike. -/
theorem IsSm.blocks {m q : Mc} (ho : Ok m) (h : IsSm m q) {l : List Int} (hl : C.IsNum (Alk q) (n q) l) : l = (List.range (n q)).map Int.ofNat := by
  obtain ⟨l1, hl1, rfl⟩ := h
  have hot := trim_ok ho
  have hh := quo_hom hot hl1
  have hid : C.IsNum (Alk (quo (trim m) l1)) (n (quo (trim m) l1)) (numI ((List.range (n (quo (trim m) l1))).map fun x => x)) := by
    refine ⟨fun x => x, rfl, fun x y hx hy => ⟨fun e j => by have e : x = y := e; subst e; exact alk_refl _ j x, fun ha => ?_⟩⟩
    rw [quo_n] at hx hy
    obtain ⟨a, ha1, rfl⟩ := quo_surj hl1 hx
    obtain ⟨b, hb1, rfl⟩ := quo_surj hl1 hy
    have h1 := (hh.Alk hot ha1 hb1).2 ha
    rw [(hl1.at ha1 hb1).2 h1]
  rw [hl.eq hid fun _ _ _ _ => Iff.rfl, List.map_id'', numI_map]
  · refine List.map_congr_left fun x hx => ?_
    have hx := List.mem_range.1 hx
    have : ∀ N, fo (List.range N) = List.range N := by
      intro N
      induction N with
      | zero => rfl
      | succ N ih => rw [List.range_succ, fo_snoc, ih, if_neg (by simp)]
    rw [this]
    have : (List.range (n (quo (trim m) l1))).idxOf x = x := (C.idxOf_iff List.nodup_range (by simpa using hx)).1 (by simp)
    rw [this]; rfl
  · intro x; rfl
end Mx
end Go.Proofs.Ythepabefikobpaa
/- Contracts: dfa.Run, Tell, Name, Same. Conditions: as each states. -/
namespace Go.Proofs.Ythepabefikobpaa
open Go Go.Sh Go.Sp
namespace Mx
theorem Ok.of_lt {m : Mc} (ho : Ok m) {b : Nat} (hb : b < 256) : (m.of b).toNat < k m ∧ m.of b = ((m.of b).toNat : Int) := by
  have h := ho.of
  rw [C.ofB, Bool.and_eq_true, decide_eq_true_eq, allEq_iff] at h
  have h1 := h.1 b hb
  have h2 : m.of b ∈ fo (C.rowOf m.of) := by
    rw [mem_fo, C.rowOf]
    exact List.mem_map.2 ⟨b, List.mem_range.2 hb, rfl⟩
  have h3 := List.idxOf_lt_length_of_mem h2
  have h4 : C.cntF m.of = (fo (C.rowOf m.of)).length := rfl
  rw [C.normF] at h1
  have h5 := h.2
  rw [Mx.k]
  omega
/-- What a machine tells of a word. -/
def tell (m : Mc) (w : List Nat) : Int := lab m (run m w)
def nameOf (m : Mc) (w : List Nat) : ByteArray := if 0 < tell m w then m.names.getD (tell m w - 1).toNat ⟨#[]⟩ else ⟨#[]⟩
end Mx
theorem wI_succ2 {i : Nat} (h : i < 9223372036854775807) : wI ((i : Int) + 1) = ((i + 1 : Nat) : Int) := by
  rw [wI_id] <;> omega
namespace C
theorem dfa_Run {F : Nat → Prop} {w : World} {d : Dfv} {m : Mc} {s : Sl} {l : List Nat} (h : DfaAt w d m) (ho : Mx.Ok m) (hs : Rd 1 F w s ((l.map Int.ofNat).map vU8)) (hl : ∀ b ∈ l, b < 256) (hb : l.length ≤ maxLen) :
    Calls Try.prog 70 [.agg (Dfv.cs d).toArray, s.val].toArray w (Ret vI fun r w' => r = (Mx.run m l : Int) ∧ Grow w w') := by
  apply L.dfa_Run
  unfold S.dfa_Run
  have hsl : l.length = s.len := by simpa using hs.len
  refine M.new_of fun b1 w1 hb1 hB1 hg1 hs1 => M.ldA0 hB1 rfl (M.call_of (dfa_Right (h.chg hg1)) ?_)
  rintro r w2 ⟨hr, hg2⟩
  rw [Mx.right_of ho] at hr
  subst hr
  have hB1 := hB1.g hg2
  have hG2 := hg1.trans hg2
  refine M.ifb (fun h0 => by cases h0) (fun _ => ?_)
  obtain ⟨Z, hZ⟩ : ∃ Z : Nat, l.length ≤ Z := ⟨_, Nat.le_refl _⟩
  refine M.loop_at (fun q w' => Grow w w' ∧ Blk w' b1 27 (Dfv.cs d) ∧ ∃ i : Nat, q = ((Mx.run m (l.take i) : Int), (i : Int)) ∧ i ≤ l.length) (fun q _ => (Z - q.2).toNat) ⟨hG2, hB1, 0, rfl, by omega⟩ ?_
  rintro _ w3 ⟨hg3, hB1, i, rfl, hi⟩
  dsimp only
  refine M.if_ (fun hlt => ?_) (fun hge => ?_)
  · have hlt : i < l.length := by omega
    obtain ⟨b, hbx⟩ : ∃ b, l[i]? = some b := ⟨_, List.getElem?_eq_getElem hlt⟩
    have hb256 := hl b (List.mem_of_getElem? hbx)
    have hof := ho.of_lt hb256
    have hrl := Mx.run_lt ho (fun b hb => (ho.of_lt hb).1) (l.take i) fun x hx => hl x (List.mem_of_mem_take hx)
    refine M.rd (hs.g hg3) (by omega) (x := (b : Int)) (by simp [hbx]) (M.drew_of fun w4 _ hg4 => ?_)
    have hB1 := hB1.g hg4
    have hG4 := hg3.trans hg4
    refine M.ldB 257 hB1 (Dfv_257 d) (M.rdrd h.next hG4 (by omega) (toNat_some (z := []) (by rw [ho.next]; exact hrl)) fun t1 ht1 => ?_)
    rw [ho.rowEq hrl] at ht1
    have hofd : d.of b = ((m.of b).toNat : Int) := by rw [h.of]; exact hof.2
    refine M.ixA_of (i := b) hb256 ?_
    rw [add_add _ rfl, Nat.zero_add, Nat.mul_one]
    refine M.ldB b hB1 (x := ((m.of b).toNat : Int)) (by rw [Dfv_of d hb256, hofd]) ?_
    have hget : ((List.range (Mx.k m)).map fun c => ((Mx.nx m (Mx.run m (l.take i)) c : Nat) : Int))[(((m.of b).toNat : Nat) : Int).toNat]? = some ((Mx.nx m (Mx.run m (l.take i)) (m.of b).toNat : Nat) : Int) := by
      rw [Int.toNat_natCast, List.getElem?_map, List.getElem?_range hof.1]; rfl
    refine M.rd (ht1.g hG4) (by omega) hget ?_
    rw [wI_succ2 (by simp only [maxLen] at hb; omega)]
    refine ⟨⟨hG4, hB1, i + 1, ?_, hlt⟩, by (try simp only); omega⟩
    rw [List.take_add_one, hbx, show l.take i ++ (some b).toList = l.take i ++ [b] from rfl, Mx.run_snoc]
  · rw [List.take_of_length_le (by omega)]
    exact ⟨rfl, hg3⟩
theorem dfa_Tell {F : Nat → Prop} {w : World} {d : Dfv} {m : Mc} {s : Sl} {l : List Nat} (h : DfaAt w d m) (ho : Mx.Ok m) (hs : Rd 1 F w s ((l.map Int.ofNat).map vU8)) (hl : ∀ b ∈ l, b < 256) (hb : l.length ≤ maxLen) :
    Calls Try.prog 40 [.agg (Dfv.cs d).toArray, s.val].toArray w (Ret vI fun r w' => r = Mx.tell m l ∧ Grow w w') := by
  apply L.dfa_Tell
  unfold S.dfa_Tell
  refine M.new_of fun b1 w1 hb1 hB1 hg1 hs1 => M.ldA0 hB1 rfl (M.call_of (dfa_Run (h.chg hg1) ho (hs.g hg1) hl hb) ?_)
  rintro r w2 ⟨rfl, hg2⟩
  have hB1 := hB1.g hg2
  have hG2 := hg1.trans hg2
  have hrl := Mx.run_lt ho (fun b hb => (ho.of_lt hb).1) l hl
  exact M.if_ (fun h0 => by omega) (fun _ => M.ldB 258 hB1 (Dfv_258 d) (M.rd (h.label.g hG2) (by omega) (x := Mx.lab m (Mx.run m l)) (toNat_some (z := 0) hrl) ⟨rfl, hG2⟩))
theorem dfa_Name {F : Nat → Prop} {w : World} {d : Dfv} {m : Mc} {s : Sl} {l : List Nat} (h : DfaAt w d m) (ho : Mx.Ok m) (hs : Rd 1 F w s ((l.map Int.ofNat).map vU8)) (hl : ∀ b ∈ l, b < 256) (hb : l.length ≤ maxLen) :
    Calls Try.prog 18 [.agg (Dfv.cs d).toArray, s.val].toArray w (Ret Value.string fun r w' => r = Mx.nameOf m l ∧ Grow w w') := by
  apply L.dfa_Name
  unfold S.dfa_Name
  refine M.new_of fun b1 w1 hb1 hB1 hg1 hs1 => M.ldA0 hB1 rfl (M.call_of (dfa_Tell (h.chg hg1) ho (hs.g hg1) hl hb) ?_)
  rintro r w2 ⟨rfl, hg2⟩
  have hB1 := hB1.g hg2
  have hG2 := hg1.trans hg2
  have hrl := Mx.run_lt ho (fun b hb => (ho.of_lt hb).1) l hl
  have hlab := ho.lab _ hrl
  have ht : Mx.tell m l = Mx.lab m (Mx.run m l) := rfl
  have hnm := ho.names
  rw [namesB, Bool.and_eq_true, decide_eq_true_eq] at hnm
  refine M.if_ (fun h0 => ?_) (fun h0 => ⟨by rw [Mx.nameOf, if_neg h0], hG2⟩)
  rw [wI_id (by omega) (by omega)]
  refine M.ldB 259 hB1 (Dfv_259 d) (M.rd (h.names.g hG2) (by omega) (x := m.names.getD (Mx.tell m l - 1).toNat ⟨#[]⟩) (getD_some (by omega)) ⟨by rw [Mx.nameOf, if_pos h0], hG2⟩)
theorem slices_Equal_str {F F' : Nat → Prop} {w : World} {s t : Sl} {l : List ByteArray} (h : Rd 1 F w s (l.map Value.string)) (h' : Rd 1 F' w t (l.map Value.string)) (hb : l.length ≤ 65536) :
    Calls Try.prog 42 [s.val, t.val].toArray w (Ret Value.bool fun r w' => r = true ∧ Grow w w') := by
  apply L.slices_Equal_Lstringstring
  unfold S.slices_Equal_Lstringstring
  have hl : l.length = s.len := by simpa using h.len
  have hl' : l.length = t.len := by simpa using h'.len
  refine M.ifn (fun _ => ?_) (fun h0 => absurd (by omega) h0)
  obtain ⟨Z, hZ⟩ : ∃ Z : Nat, l.length ≤ Z := ⟨_, Nat.le_refl _⟩
  refine M.loop_at (fun q w' => Grow w w' ∧ ∃ i : Nat, q = i ∧ i ≤ l.length) (fun q _ => (Z - q).toNat) ⟨Chg.refl _ _, 0, rfl, by omega⟩ ?_
  rintro _ w1 ⟨hg1, i, rfl, hi⟩
  refine M.if_ (fun hlt => ?_) (fun hge => ⟨rfl, hg1⟩)
  have hlt : i < l.length := by omega
  refine M.drew_of fun w2 _ hg2 => ?_
  have hG := hg1.trans hg2
  refine M.rd (h.g hG) (by omega) (x := l[i]) (by simp [hlt]) (M.rd (h'.g hG) (by omega) (x := l[i]) (by simp [hlt]) ?_)
  rw [bytes_eq]
  refine M.ifn (fun _ => ?_) (fun h0 => absurd rfl h0)
  rw [wI_succ (by simp only [Big]; omega)]
  exact ⟨⟨hG, i + 1, rfl, hlt⟩, by omega⟩
theorem EqualFunc_rows {w : World} {s t : Sl} {a : List (List Int)} (h : RdRd w s a) (h' : RdRd w t a) (hb : a.length ≤ 65536) (hr : ∀ r ∈ a, r.length ≤ 65536) :
    Calls Try.prog 43 [s.val, t.val, .func (.func 41) #[] #[]].toArray w (Ret Value.bool fun r w' => r = true ∧ Grow w w') := by
  apply L.slices_EqualFunc_LLintLLintLintLint
  unfold S.slices_EqualFunc_LLintLLintLintLint
  have hl := h.len
  have hl' := h'.len
  refine M.ifn (fun _ => ?_) (fun h0 => absurd (by omega) h0)
  obtain ⟨Z, hZ⟩ : ∃ Z : Nat, a.length ≤ Z := ⟨_, Nat.le_refl _⟩
  refine M.loop_at (fun q w' => Grow w w' ∧ ∃ i : Nat, q = i ∧ i ≤ a.length) (fun q _ => (Z - q).toNat) ⟨Chg.refl _ _, 0, rfl, by omega⟩ ?_
  rintro _ w1 ⟨hg1, i, rfl, hi⟩
  refine M.if_ (fun hlt => ?_) (fun hge => ⟨rfl, hg1⟩)
  have hlt : i < a.length := by omega
  have hrl := hr _ (List.getElem_mem hlt)
  refine M.rdrd h hg1 (by omega) (r := a[i]) (by simp [hlt]) fun t1 ht1 => M.rdrd h' hg1 (by omega) (r := a[i]) (by simp [hlt]) fun t2 ht2 => ?_
  refine M.callv_of (inv_of (cs := []) (args := [t1.val, t2.val]) Try.call41 (slices_Equal_int (ht1.g hg1) (ht2.g hg1) (by simp only [Big]; omega)) fun r w' hr => ⟨r, rfl, hr⟩) ?_
  rintro r w2 ⟨rfl, hg2⟩
  refine M.ifb (fun h0 => by simp at h0) (fun _ => ?_)
  rw [wI_succ (by simp only [Big]; omega)]
  exact ⟨⟨hg1.trans hg2, i + 1, rfl, hlt⟩, by omega⟩
theorem dfa_Same {w : World} {d d' : Dfv} {m : Mc} (h : DfaAt w d m) (h' : DfaAt w d' m) (hn : m.next.length ≤ 65536) (hl : m.label.length ≤ 65536) (hm : m.names.length ≤ 65536) (hr : ∀ r ∈ m.next, r.length ≤ 65536) :
    Calls Try.prog 19 [.agg (Dfv.cs d).toArray, .agg (Dfv.cs d').toArray].toArray w (Ret Value.bool fun r w' => r = true ∧ Grow w w') := by
  apply L.dfa_Same
  unfold S.dfa_Same
  refine M.new_of fun b1 w1 hb1 hB1 hg1 hs1 => M.new_of fun b2 w2 hb2 hB2 hg2 hs2 => ?_
  have hG2 := hg1.trans hg2
  have hB1 := hB1.g hg2
  refine M.ldA_at (x := d.of) 0 hB1 (Ar_part d) (M.ldA_at (x := d'.of) 0 hB2 (Ar_part d') ⟨_, Ar_eq _ _ _, ?_⟩)
  have e0 : allEq d.of d'.of 0 256 = true := by rw [allEq_iff, h.of, h'.of]; exact fun _ _ => rfl
  rw [e0]
  refine M.ifb (fun _ => M.ldB 256 hB1 (Dfv_256 d) (M.ldB 256 hB2 (Dfv_256 d') (M.if_ (fun _ => ?_) (fun h0 => absurd (h.width.trans h'.width.symm) h0)))) (fun h0 => by cases h0)
  refine M.ldB 258 hB1 (Dfv_258 d) (M.ldB 258 hB2 (Dfv_258 d') (M.call_of (slices_Equal_int (h.label.g hG2) (h'.label.g hG2) (by simp only [Big]; omega)) ?_))
  rintro r16 w3 ⟨rfl, hg3⟩
  have hB1 := hB1.g hg3
  have hB2 := hB2.g hg3
  have hG3 := hG2.trans hg3
  refine M.ifb (fun _ => M.ldB 259 hB1 (Dfv_259 d) (M.ldB 259 hB2 (Dfv_259 d') (M.call_of (slices_Equal_str (h.names.g hG3) (h'.names.g hG3) hm) ?_))) (fun h0 => by simp at h0)
  rintro r20 w4 ⟨rfl, hg4⟩
  have hB1 := hB1.g hg4
  have hB2 := hB2.g hg4
  have hG4 := hG3.trans hg4
  refine M.ifb (fun _ => M.ldB 257 hB1 (Dfv_257 d) (M.ldB 257 hB2 (Dfv_257 d') (M.call_of (EqualFunc_rows (h.next.chg hG4) (h'.next.chg hG4) hn hr) ?_))) (fun h0 => by cases h0)
  rintro r w5 ⟨rfl, hg5⟩
  exact ⟨rfl, hG4.trans hg5⟩
end C
end Go.Proofs.Ythepabefikobpaa
/- Plain: a machine that has some of its states twice. No condition. -/
namespace Go.Proofs.Ythepabefikobpaa
open Go Go.Sh Go.Sp
namespace Mx
/-- Of which state a state is. -/
def orig (m : Mc) (X : List Nat) (q : Nat) : Nat := if q < n m then q else X.getD (q - n m) 0 % n m
def nxd (m : Mc) (X : List Nat) (q c : Nat) : Nat :=
  if 0 < X.length ∧ q % X.length = c ∧ X.getD (q % X.length) 0 % n m = nx m (orig m X q) c then n m + q % X.length else nx m (orig m X q) c
def dblM (m : Mc) (X : List Nat) : Mc :=
  ⟨m.of, m.width, (List.range (n m + X.length)).map fun q => (List.range (k m)).map fun c => ((nxd m X q c : Nat) : Int), (List.range (n m + X.length)).map fun q => lab m (orig m X q), m.names⟩
theorem orig_lt {m : Mc} (ho : Ok m) (X : List Nat) (q : Nat) : orig m X q < n m := by
  have := ho.n1
  rw [orig]
  split
  · assumption
  · exact Nat.mod_lt _ (by omega)
theorem nxd_lt {m : Mc} (ho : Ok m) (X : List Nat) {q c : Nat} (hc : c < k m) : nxd m X q c < n m + X.length := by
  rw [nxd]
  split
  · rename_i h
    have := Nat.mod_lt q h.1
    omega
  · have := (ho.nx _ c (orig_lt ho X q) hc).1
    omega
theorem orig_nxd {m : Mc} (ho : Ok m) (X : List Nat) {q c : Nat} (hc : c < k m) : orig m X (nxd m X q c) = nx m (orig m X q) c := by
  have hn := (ho.nx _ c (orig_lt ho X q) hc).1
  rw [nxd]
  split
  · rename_i h
    rw [orig, if_neg (by omega), Nat.add_sub_cancel_left]
    exact h.2.2
  · rw [orig, if_pos hn]
theorem dbl_n (m : Mc) (X : List Nat) : n (dblM m X) = n m + X.length := by simp [n, dblM]
theorem dbl_k (m : Mc) (X : List Nat) : k (dblM m X) = k m := rfl
theorem dbl_row {m : Mc} {X : List Nat} {q : Nat} (hq : q < n m + X.length) : (dblM m X).next.getD q [] = (List.range (k m)).map fun c => ((nxd m X q c : Nat) : Int) := by
  simp [dblM, List.getD_eq_getElem?_getD, hq]
theorem dbl_nx {m : Mc} {X : List Nat} {q c : Nat} (hq : q < n m + X.length) (hc : c < k m) : nx (dblM m X) q c = nxd m X q c := by
  rw [nx, dbl_row hq]
  simp [List.getD_eq_getElem?_getD, hc]
theorem dbl_lab {m : Mc} {X : List Nat} {q : Nat} (hq : q < n m + X.length) : lab (dblM m X) q = lab m (orig m X q) := by
  simp [lab, dblM, List.getD_eq_getElem?_getD, hq]
theorem dbl_ok {m : Mc} (ho : Ok m) (X : List Nat) (hX : n m + X.length ≤ 65536) : Ok (dblM m X) := by
  refine { n1 := ?_, n2 := ?_, next := ?_, k2 := ho.k2, width := ho.width, row := ?_, nx := ?_, lab := ?_, names := ho.names, of := ho.of }
  all_goals try rw [dbl_n]
  · have := ho.n1; omega
  · exact hX
  · simp [dblM]
  · intro q hq
    rw [dbl_row hq]; simp [dbl_k]
  · intro q c hq hc
    have hc : c < k m := hc
    rw [dbl_nx hq hc, dbl_row hq]
    exact ⟨nxd_lt ho X hc, by simp [hc]⟩
  · intro q hq
    rw [dbl_lab hq]
    exact ho.lab _ (orig_lt ho X q)
theorem dbl_hom {m : Mc} (ho : Ok m) (X : List Nat) : Hom (dblM m X) m (orig m X) where
  zero := by rw [orig, if_pos (show 0 < n m from ho.n1)]
  lt q _ := orig_lt ho X q
  nx q c hq hc := by
    rw [dbl_n] at hq
    have hc : c < Mx.k m := hc
    rw [dbl_nx hq hc, orig_nxd ho X hc]
  lab q hq := by rw [dbl_n] at hq; exact dbl_lab hq
  of := rfl
  width := rfl
  names := rfl
end Mx
end Go.Proofs.Ythepabefikobpaa
