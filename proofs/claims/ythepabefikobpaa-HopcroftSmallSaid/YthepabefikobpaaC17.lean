/- Plain: the states that a machine comes to, in the order in which they are come upon; the machine of the kept states. No condition. -/
import Derived.Test.YthepabefikobpaaC16
import Derived.Laws.CopyRow
namespace Go.Proofs.Ythepabefikobpaa
open Go Go.Sh Go.Sp
namespace Mx
variable {m : Mc}
def ext (row a : List Nat) : List Nat := row.foldl (fun a x => if x ∈ a then a else a ++ [x]) a
theorem ext_nil (a : List Nat) : ext [] a = a := rfl
theorem ext_snoc (row a : List Nat) (x : Nat) : ext (row ++ [x]) a = if x ∈ ext row a then ext row a else ext row a ++ [x] := by
  rw [ext, List.foldl_append]; rfl
theorem ext_pre (row a : List Nat) : a <+: ext row a := by
  induction row using list_snoc_ind with
  | h0 => exact List.prefix_refl _
  | hs l x ih =>
    rw [ext_snoc]
    split
    · exact ih
    · exact ih.trans (List.prefix_append _ _)
theorem ext_mem (row a : List Nat) (y : Nat) : y ∈ ext row a ↔ y ∈ a ∨ y ∈ row := by
  induction row using list_snoc_ind with
  | h0 => simp [ext]
  | hs l x ih =>
    rw [ext_snoc]
    split
    · rename_i h
      rw [ih, List.mem_append, List.mem_singleton]
      constructor
      · rintro (h | h)
        · exact .inl h
        · exact .inr (.inl h)
      · rintro (h1 | h1 | rfl)
        · exact .inl h1
        · exact .inr h1
        · exact ih.1 h
    · rw [List.mem_append, ih, List.mem_append, List.mem_singleton, or_assoc]
theorem ext_nodup (row a : List Nat) (h : a.Nodup) : (ext row a).Nodup := by
  induction row using list_snoc_ind with
  | h0 => exact h
  | hs l x ih =>
    rw [ext_snoc]
    split
    · exact ih
    · rename_i hx
      rw [List.nodup_append]
      exact ⟨ih, by simp, fun y hy z hz => by rw [List.mem_singleton] at hz; subst hz; rintro rfl; exact hx hy⟩
def row (m : Mc) (s : Nat) : List Nat := (List.range (k m)).map (nx m s)
def bf (m : Mc) : Nat → List Nat
  | 0 => [0]
  | j + 1 => if j < (bf m j).length then ext (row m ((bf m j).getD j 0)) (bf m j) else bf m j
def reach (m : Mc) : List Nat := bf m (n m)
theorem bf_lt (ho : Ok m) : ∀ j, ∀ x ∈ bf m j, x < n m
  | 0, x, h => by rw [bf, List.mem_singleton] at h; subst h; exact ho.n1
  | j + 1, x, h => by
    rw [bf] at h
    split at h
    · rename_i hj
      rw [ext_mem] at h
      rcases h with h | h
      · exact bf_lt ho j x h
      · rw [row, List.mem_map] at h
        obtain ⟨c, hc, rfl⟩ := h
        refine (ho.nx _ c (bf_lt ho j _ ?_) (List.mem_range.1 hc)).1
        rw [List.getD_eq_getElem?_getD, List.getElem?_eq_getElem hj]
        exact List.getElem_mem _
    · exact bf_lt ho j x h
theorem bf_nodup : ∀ j, (bf m j).Nodup
  | 0 => by simp [bf]
  | j + 1 => by
    rw [bf]
    split
    · exact ext_nodup _ _ (bf_nodup j)
    · exact bf_nodup j
theorem bf_le (ho : Ok m) (j : Nat) : (bf m j).length ≤ n m := nodup_le _ _ (bf_nodup j) (bf_lt ho j)
theorem bf_pre1 (j : Nat) : bf m j <+: bf m (j + 1) := by
  rw [bf]
  split
  · exact ext_pre _ _
  · exact List.prefix_refl _
theorem bf_pre {i j : Nat} (h : i ≤ j) : bf m i <+: bf m j := by
  obtain ⟨d, rfl⟩ : ∃ d, j = i + d := ⟨j - i, by omega⟩
  clear h
  induction d with
  | zero => exact List.prefix_refl _
  | succ d ih => exact ih.trans (bf_pre1 _)
theorem bf_stop {i : Nat} (h : (bf m i).length ≤ i) : ∀ j, i ≤ j → bf m j = bf m i := by
  intro j hj
  obtain ⟨d, rfl⟩ : ∃ d, j = i + d := ⟨j - i, by omega⟩
  clear hj
  induction d with
  | zero => rfl
  | succ d ih => rw [← Nat.add_assoc, bf, if_neg (by rw [ih]; omega), ih]
theorem bf_end (ho : Ok m) {i : Nat} (h : (bf m i).length ≤ i) : bf m i = reach m := by
  rw [reach]
  rcases Nat.le_total i (n m) with h1 | h1
  · exact (bf_stop h _ h1).symm
  · exact bf_stop (bf_le ho _) _ h1
theorem reach_lt (ho : Ok m) : ∀ x ∈ reach m, x < n m := bf_lt ho _
theorem reach_nodup : (reach m).Nodup := bf_nodup _
theorem reach_le (ho : Ok m) : (reach m).length ≤ n m := bf_le ho _
theorem reach_0 (m : Mc) : (reach m)[0]? = some 0 := by
  have := bf_pre (m := m) (Nat.zero_le (n m))
  obtain ⟨t, ht⟩ := this
  rw [reach, ← ht, List.getElem?_append_left (by simp [bf])]
  rfl
theorem reach_pos (m : Mc) : 0 < (reach m).length := (List.getElem?_eq_some_iff.1 (reach_0 m)).1
theorem reach_closed (ho : Ok m) {x c : Nat} (hx : x ∈ reach m) (hc : c < k m) : nx m x c ∈ reach m := by
  obtain ⟨i, hi, rfl⟩ := List.getElem_of_mem hx
  have hle := reach_le ho
  have hlt : i < (bf m i).length := by
    rcases Nat.lt_or_ge i (bf m i).length with h | h
    · exact h
    · have := bf_end ho h
      rw [this] at h; omega
  have hp : bf m i <+: reach m := by
    rcases Nat.le_total i (n m) with h | h
    · exact bf_pre h
    · omega
  have e : (bf m i).getD i 0 = (reach m)[i] := by
    obtain ⟨t, ht⟩ := hp
    rw [List.getD_eq_getElem?_getD, List.getElem?_eq_getElem hlt]
    simp only [← ht, Option.getD_some]
    rw [List.getElem_append_left hlt]
  have h1 : nx m ((reach m)[i]) c ∈ bf m (i + 1) := by
    rw [bf, if_pos hlt, ext_mem, e]
    exact .inr (List.mem_map.2 ⟨c, List.mem_range.2 hc, rfl⟩)
  exact (bf_pre (show i + 1 ≤ n m by omega)).subset h1
/-- The machine of the kept states. -/
def keepM (m : Mc) (L : List Nat) : Mc :=
  ⟨m.of, m.width, L.map fun s => (List.range (k m)).map fun c => ((L.idxOf (nx m s c) : Nat) : Int), L.map (lab m), m.names⟩
def trim (m : Mc) : Mc := keepM m (reach m)
/-- A list of states that may be kept. -/
structure Kp (m : Mc) (L : List Nat) : Prop where
  nd : L.Nodup
  lt : ∀ x ∈ L, x < n m
  zero : L[0]? = some 0
  cl : ∀ x c, x ∈ L → c < k m → nx m x c ∈ L
theorem Kp.le {L : List Nat} (h : Kp m L) : L.length ≤ n m := nodup_le _ _ h.nd h.lt
theorem Kp.pos {L : List Nat} (h : Kp m L) : 0 < L.length := (List.getElem?_eq_some_iff.1 h.zero).1
theorem reach_kp (ho : Ok m) : Kp m (reach m) := ⟨reach_nodup, reach_lt ho, reach_0 m, fun _ _ hx hc => reach_closed ho hx hc⟩
theorem keep_n (L : List Nat) : n (keepM m L) = L.length := by simp [n, keepM]
theorem keep_k (L : List Nat) : k (keepM m L) = k m := rfl
theorem keep_row {L : List Nat} {s : Nat} (hs : s < L.length) : (keepM m L).next.getD s [] = (List.range (k m)).map fun c => ((L.idxOf (nx m (L.getD s 0) c) : Nat) : Int) := by
  simp [keepM, List.getD_eq_getElem?_getD, List.getElem?_map, List.getElem?_eq_getElem hs]
theorem keep_nx {L : List Nat} {s c : Nat} (hs : s < L.length) (hc : c < k m) : nx (keepM m L) s c = L.idxOf (nx m (L.getD s 0) c) := by
  rw [nx, keep_row hs]
  simp [List.getD_eq_getElem?_getD, hc]
theorem keep_lab {L : List Nat} {s : Nat} (hs : s < L.length) : lab (keepM m L) s = lab m (L.getD s 0) := by
  simp [lab, keepM, List.getD_eq_getElem?_getD, hs]
theorem getD_mem {L : List Nat} {s : Nat} (hs : s < L.length) : L.getD s 0 ∈ L := by
  rw [List.getD_eq_getElem?_getD, List.getElem?_eq_getElem hs]
  exact List.getElem_mem _
theorem keep_ok (ho : Ok m) {L : List Nat} (h : Kp m L) : Ok (keepM m L) := by
  have h1 := h.le
  have h2 := h.pos
  have h3 := ho.n2
  refine { n1 := ?_, n2 := ?_, next := ?_, k2 := ho.k2, width := ho.width, row := ?_, nx := ?_, lab := ?_, names := ho.names, of := ho.of }
  all_goals try rw [keep_n]
  · omega
  · omega
  · simp [keepM]
  · intro s hs
    rw [keep_row hs]; simp [keep_k]
  · intro s c hs hc
    rw [keep_nx (m := m) hs hc, keep_row hs]
    refine ⟨List.idxOf_lt_length_of_mem (h.cl _ _ (getD_mem hs) hc), ?_⟩
    have hc : c < k m := hc
    simp [hc]
  · intro s hs
    rw [keep_lab hs]
    exact ho.lab _ (h.lt _ (getD_mem hs))
theorem trim_ok (ho : Ok m) : Ok (trim m) := keep_ok ho (reach_kp ho)
end Mx
end Go.Proofs.Ythepabefikobpaa
/- Contracts: a copy of a list of numbers; the states that are come upon (dfa.Reach). Conditions: as each states. -/
namespace Go.Proofs.Ythepabefikobpaa
open Go Go.Sh Go.Sp
namespace C
theorem Clone_int {F : Nat → Prop} {w : World} {s : Sl} {l : List Int} (h : Rd 1 F w s (l.map vI)) (hb : l.length ≤ 65536) :
    Calls Try.prog 72 [s.val].toArray w (Ret Sl.val fun r w' => Own w.heap.size w' r 3 1 (l.map vI) ∧ Grow w w') := by
  apply L.slices_Clone_Lintint
  unfold S.slices_Clone_Lintint
  have hl : l.length = s.len := by simpa using h.len
  refine M.ifb (fun h1 => ?_) (fun h1 => ?_)
  · have hn : s.addr = none := by simpa using h1
    have h0 : s.len = 0 := by
      by_cases h0 : s.len = 0
      · exact h0
      · obtain ⟨a, g, _⟩ := h.read h0
        rw [hn] at g; cases g
    have : l = [] := List.length_eq_zero_iff.1 (by omega)
    subst this
    exact ⟨Own.nil _ _ _ _, Chg.refl _ _⟩
  · have hn : s.addr ≠ none := by intro e; rw [e] at h1; cases h1
    refine M.new_of fun b w1 hb1 hblk hg hs1 => ?_
    have hown : Own w.heap.size w1 ⟨some ⟨b, 0, none⟩, 0, 0⟩ 3 1 [] := Own.mk (b := b) (cs := []) rfl (by omega) hblk (Nat.le_refl _) (by simp [maxLen]) (by simp) (by simp)
    refine M.appN Try.underlying24 (T := 3) (info := Try.t3) (z := vI 0) (m := 1) (bytes := 8) (by kernel_rfl) rfl rfl rfl rfl (by decide) hown (h.chg hg fun _ _ x => x) hn (by simp [one1]) (by omega) (by simp only; omega) (by simp only; omega) fun r w2 ho2 hl2 hc2 hb2 _ => ⟨?_, ?_⟩
    · simpa using ho2
    · exact Chg.fresh hg hc2 (fun b' hb' => (hown.ge hb').1)
theorem Reach_c1 {w0 w : World} {d : Dfv} {m : Mc} {b s : Nat} (hB : Blk w b 27 (Dfv.cs d)) (h : DfaAt w0 d m) (hg : Grow w0 w) (ho : Mx.Ok m) (hs : s < Mx.n m) :
    Calls Try.prog 45 [vI s, vA ⟨b, 0, none⟩].toArray w (Ret Sl.val fun r w' => Rd 1 (fun _ => True) w0 r (((Mx.row m s).map Int.ofNat).map vI) ∧ w' = w) := by
  apply L.dfa_Reach_c1
  unfold S.dfa_Reach_c1
  refine M.ldB 257 hB (Dfv_257 d) (M.rdrd h.next hg (by omega) (toNat_some (z := []) (by rw [ho.next]; exact hs)) fun t1 ht1 => ?_)
  rw [ho.rowEq hs] at ht1
  refine ⟨?_, rfl⟩
  rw [Mx.row, List.map_map (f := Mx.nx m s)]
  exact ht1
theorem seen_set {N : Nat} {acc : List Nat} {x : Nat} : ((List.range N).map fun y => decide (y ∈ acc)).set x true = (List.range N).map fun y => decide (y ∈ acc ++ [x]) := by
  rw [set_range_map]
  refine List.map_congr_left fun y _ => ?_
  simp only [ups]
  by_cases h : y = x
  · subst h; simp
  · simp [h]
set_option maxRecDepth 20000 in
theorem dfa_Reach {w : World} {d : Dfv} {m : Mc} (h : DfaAt w d m) :
    Calls Try.prog 20 [.agg (Dfv.cs d).toArray].toArray w (Ret Sl.val fun r w' => ((rightB m = false ∧ r = Sl.nil) ∨ (rightB m = true ∧ Rd 1 (fun _ => True) w' r (((Mx.reach m).map Int.ofNat).map vI))) ∧ Grow w w') := by
  apply L.dfa_Reach
  unfold S.dfa_Reach
  refine M.new_of fun b1 w1 hb1 hB1 hg1 hs1 => M.ldA0 hB1 rfl (M.call_of (dfa_Right (h.chg hg1)) ?_)
  rintro _ w2 ⟨rfl, hg2⟩
  have hG2 := hg1.trans hg2
  have hB1 := hB1.g hg2
  have hb14 := hB1.lt
  refine M.ifb (fun h1 => ⟨.inl ⟨by simpa using h1, rfl⟩, hG2⟩) (fun h1 => ?_)
  have h1 : rightB m = true := by simpa using h1
  have ho := Mx.ok_of h1
  have hn2 := ho.n2
  have hll : m.label.length = d.label.len := by simpa using h.label.len
  have hnL : d.label.len = Mx.n m := hll.symm
  refine M.new_of fun b4 w3 hb4 hB4 hg3 hs3 => M.ldB 258 (hB1.g hg3) (Dfv_258 d) (M.new_of fun b6 w4 hb6 hB6 hg4 hs4 => ?_)
  have hB1 := hB1.g (hg3.trans hg4)
  have hB4 := hB4.g hg4
  have hG4 := (hG2.trans hg3).trans hg4
  rw [hnL]
  refine M.call_of (e := fun v : Value => v) (R := fun v w' => ∃ c0 c1 c2, v = .func (.func 71) #[] #[vA ⟨c0, 0, none⟩, vA ⟨c1, 0, none⟩, vA ⟨c2, 0, none⟩] ∧ Blk w' c0 3 [vI (Mx.n m)] ∧ Blk w' c1 24 [Sl.val ⟨some ⟨b6, 0, none⟩, 1, 1⟩] ∧ Blk w' c2 66 [.func (.func 45) #[] #[vA ⟨b1, 0, none⟩]] ∧ w4.heap.size ≤ c0 ∧ w4.heap.size ≤ c1 ∧ w4.heap.size ≤ c2 ∧ Grow w4 w') ?_ ?_
  · apply L.dfa_walk
    unfold S.dfa_walk
    refine M.new_of fun c0 v1 hc0 hC0 hv1 hz1 => M.new_of fun c1 v2 hc1 hC1 hv2 hz2 => ⟨rfl, M.new_of fun c2 v3 hc2 hC2 hv3 hz3 => ?_⟩
    exact ⟨c0, c1, c2, rfl, hC0.g (hv2.trans hv3), hC1.g hv3, hC2, by omega, by omega, by omega, (hv1.trans hv2).trans hv3⟩
  rintro _ w5 ⟨c0, c1, c2, rfl, hC0, hC1, hC2, hc0, hc1, hc2, hg5⟩
  have hG5 := hG4.trans hg5
  have hB1 := hB1.g hg5
  have hB4 := hB4.g hg5
  have hB6 := hB6.g hg5
  have hl1 := hB1.lt
  have hl4 := hB4.lt
  have hl6 := hB6.lt
  have hlc0 := hC0.lt
  have hlc1 := hC1.lt
  have hlc2 := hC2.lt
  have hsz2 := hG2.size
  refine ⟨71, #[vA ⟨c0, 0, none⟩, vA ⟨c1, 0, none⟩, vA ⟨c2, 0, none⟩], rfl, Try.call71, fun yv l D Rdy w6 hD hl hg6 hs6 hstab hr0 hyield => ?_⟩
  have hG6 := hG5.trans hg6
  have hB1 := hB1.g hg6
  have hB4 := hB4.g hg6
  have hB6 := hB6.g hg6
  have hC0 := hC0.g hg6
  have hC1 := hC1.g hg6
  have hC2 := hC2.g hg6
  -- what the walk may change of what is there when it begins
  obtain ⟨Y, hY⟩ : ∃ Y : Nat → Prop, Y = fun y => y = l ∨ y = b4 := ⟨_, rfl⟩
  have hYl : ∀ y, y = l → Y y := fun y e => by rw [hY]; exact .inl e
  have hY4 : ∀ y, y = b4 → Y y := fun y e => by rw [hY]; exact .inr e
  have hYn : ∀ {y}, Y y → y = l ∨ y = b4 := fun e => by rw [hY] at e; exact e
  have hYb : ∀ {y}, y ≠ l → y ≠ b4 → ¬ Y y := fun h1 h2 e => by rcases hYn e with e | e <;> omega
  have hgrow : ∀ {v v' : World}, Grow w v → Chg Y v v' → Grow w v' := fun hg hc => Chg.fresh hg hc fun y hy => by rcases hYn hy with e | e <;> omega
  -- one state is told
  have hy : ∀ (x : Nat) (acc : List Nat) (sl : Sl) (v : World), Rdy none v → Chg Y w6 v → acc.length ≤ 65536 → Blk v b4 24 [sl.val] → Own w6.heap.size v sl 3 1 ((acc.map Int.ofNat).map vI) →
      Inv Try.prog yv [vI x] v fun u v' => ∃ q : Bool, u = .bool q ∧ (q = true ∧ Rdy none v' ∧ ∃ sl' : Sl, Chg (fun y => Y y ∨ ownb sl y) v v' ∧ Blk v' b4 24 [sl'.val] ∧ Own w6.heap.size v' sl' 3 1 (((acc ++ [x]).map Int.ofNat).map vI) ∧ ∀ b, ownb sl' b → ownb sl b ∨ v.heap.size ≤ b) := by
    intro x acc sl v hr hc hi hb ha
    have hvs := hc.size
    refine hyield (x : Int) v _ hr fun W1 hW hs => ?_
    have hnl : ∀ b, ownb sl b → ¬ b = l := fun b hb e => by have := (ha.ge hb).1; omega
    have ha1 := ha.chg hW hnl
    have hb1 := hb.chg hW fun e => by omega
    have hlen : sl.len = acc.length := by have := ha.len; simp at this; omega
    refine M.ld0 hb1 rfl (M.app Try.underlying24 (T := 3) (info := Try.t3) (z := vI 0) (m := 1) (bytes := 8) (by kernel_rfl) rfl rfl rfl rfl (by decide) ha1 rfl (by simp [one1]) (by omega) (by omega) (by omega) fun r w7 ho7 hl7 hc7 hb7 => ?_)
    have hb7' := hb1.chg hc7 fun e => by have := (ha.ge e).1; omega
    refine M.st0 hb7' (by simp) fun w8 hB8 hc8 hs8 => ?_
    have hB8 : Blk w8 b4 24 [r.val] := hB8
    have hnr : ∀ b, ownb r b → ¬ b = b4 := fun b hb e => by have := (ho7.ge hb).1; omega
    have ho8 := ho7.chg hc8 hnr
    have hW18 : Chg (fun y => y = b4 ∨ ownb sl y) W1 w8 := (hc7.mono fun y _ e => Or.inr e).c (hc8.mono fun y _ e => Or.inl e)
    refine ⟨⟨_, hW18, fun e => ?_⟩, fun W3 hc3 hs3 hr3 => ⟨true, rfl, rfl, hr3, r, ?_, hB8.chg hc3 fun e => by omega, ?_, fun b hb => ?_⟩⟩
    · rcases e with e | e
      · omega
      · exact hnl _ e rfl
    · exact ((hW.mono fun y _ e => Or.inl (hYl y e)).c (hW18.mono fun y _ e => e.imp (hY4 y) id)).c (hc3.mono fun y _ e => Or.inl (hYl y e))
    · have := ho8.chg hc3 fun b hb e => by have := (ho8.ge hb).1; omega
      simpa using this
    · rcases hb7 b hb with e | e
      · exact .inl e
      · right; omega
  have hc := L.dfa_walk_c1 (p0 := yv) (c0 := ⟨c0, 0, none⟩) (c1 := ⟨c1, 0, none⟩) (c2 := ⟨c2, 0, none⟩) (w := w6) (R := fun _ w2 => Chg Y w6 w2 ∧ Rdy none w2 ∧ ∃ sl : Sl, Blk w2 b4 24 [sl.val] ∧ Own w6.heap.size w2 sl 3 1 (((Mx.reach m).map Int.ofNat).map vI)) ?_
  · refine Calls.mono hc ?_
    rintro _ w9 ⟨_, rfl, hc9, hj, sl, hb, ho⟩
    refine ⟨⟨_, rfl⟩, ⟨Y, hc9, hYb (by omega) (by omega)⟩, none, hj, fun w10 hc10 hs10 => ?_⟩
    have hb := hb.chg hc10 fun e => by omega
    have ho := ho.chg hc10 fun b hb e => by have := (ho.ge hb).1; omega
    have hg10 : Grow w w10 := hgrow hG6 (hc9.c (hc10.mono fun y _ e => hYl y e))
    refine M.ld0 hb rfl ⟨⟨_, Chg.refl (fun _ => False) _, fun e => e⟩, fun w12 hc12 hs12 => ⟨.inr ⟨h1, ?_⟩, Chg.fresh hg10 hc12 fun y hy => by omega⟩⟩
    exact (ho.chg hc12 fun b hb e => by have := (ho.ge hb).1; omega).rd fun _ _ => trivial
  unfold S.dfa_walk_c1
  refine M.ld0 hC0 rfl ?_
  refine M.mkSl Try.underlying82 (T := 4) (info := Try.t4) (z := .bool false) (by kernel_rfl) rfl rfl rfl (by simp only [Try.t4]; omega) (by simp only [maxLen]; omega) fun s2 w7 hs2 hs2l hs2b hg7 => ?_
  refine M.ld0 (hC1.g hg7) rfl (M.call_of (Clone_int (F := fun _ => True) (l := [0]) ?_ (by simp)) ?_)
  · have := (hB6.g hg7)
    exact ⟨rfl, Nat.le_refl _, fun _ => ⟨_, rfl, rfl, trivial, fun i v hv => this.cell (by simpa using hv)⟩⟩
  rintro r4 w8 ⟨ho4, hg8⟩
  have hg78 := hg7.trans hg8
  have hlt7 : ∀ b, ownb s2 b → b < w7.heap.size := fun b hb => (hs2.ge hb).2
  have hs2 := hs2.g hg8
  have hsz7 := hg7.size
  have hn24 : ∀ b, ownb s2 b → b = w6.heap.size := hs2b
  have hr4b : ∀ b, ownb r4 b → w7.heap.size ≤ b := fun b hb => (ho4.ge hb).1
  have hnpos := ho.n1
  have hw67 : w6.heap.size < w7.heap.size := by
    rcases (hs2.chg (Chg.refl (fun _ => False) _) fun _ _ x => x).out.2 with e | ⟨b, cs, e1, e2, _⟩
    · rw [e] at hs2l; simp [Sl.nil] at hs2l; omega
    · have := hs2b b ⟨_, e1, rfl⟩
      have := hlt7 b ⟨_, e1, rfl⟩
      omega
  refine M.ld0 (hC1.g hg78) rfl ?_
  have hB6' := hB6.g hg78
  have hd0 : ∀ b, ownb s2 b → ¬ ownb r4 b := fun b hb e => by have := hs2b b hb; have := hr4b b e; omega
  have hs20 : Own w6.heap.size w8 s2 4 1 (((List.range (Mx.n m)).map fun y => decide (y ∈ ([0] : List Nat).take 0)).map Value.bool) := by
    simpa [rep_range, Function.comp_def] using hs2
  refine M.loop_at (fun q w' => Chg (ownb s2) w8 w' ∧ ∃ i : Nat, q = i ∧ i ≤ 1 ∧ Own w6.heap.size w' s2 4 1 (((List.range (Mx.n m)).map fun y => decide (y ∈ ([0] : List Nat).take i)).map Value.bool)) (fun q _ => (1 - q).toNat)
    ⟨Chg.refl _ _, 0, rfl, by omega, hs20⟩ ?_
  rintro _ w9 ⟨hc9, i, rfl, hi, hs9⟩
  dsimp only
  refine M.if_ (fun hlt => ?_) (fun hge => ?_)
  · have : i = 0 := by omega
    subst this
    have hB9 := hB6'.chg hc9 fun e => by have := hs2b _ e; omega
    refine M.rd (S := fun _ => True) (L := [(0 : Int)]) ⟨rfl, Nat.le_refl _, fun _ => ⟨_, rfl, rfl, trivial, fun i v hv => hB9.cell (by simpa using hv)⟩⟩ (by omega) (x := 0) rfl ?_
    refine M.wr (i := 0) (x := true) hs9 (by simp; omega) fun w10 hs10 hc10 _ => ?_
    rw [seen_set] at hs10
    rw [wI_succ (by simp only [Big]; omega)]
    exact ⟨⟨hc9.c hc10, 1, rfl, by omega, by simpa using hs10⟩, by (try simp only); omega⟩
  have : i = 1 := by omega
  subst this
  have hg9 : Grow w6 w9 := Chg.fresh hg78 hc9 fun b hb => by have := hs2b b hb; omega
  have hr49 := (ho4.chg hc9 fun b hb e => hd0 b e hb).base (n' := w6.heap.size) (by omega)
  have hsz69 := hg9.size
  obtain ⟨Z, hZ⟩ : ∃ Z : Nat, Mx.n m ≤ Z := ⟨_, Nat.le_refl _⟩
  refine M.loop_at (fun q w' => Chg Y w6 w' ∧ ∃ (i : Nat) (sl : Sl), q.2 = i ∧ i ≤ (Mx.bf m i).length ∧ Rdy none w' ∧ Blk w' b4 24 [sl.val] ∧ Own w6.heap.size w' sl 3 1 ((((Mx.bf m i).take i).map Int.ofNat).map vI) ∧
      Own w6.heap.size w' s2 4 1 (((List.range (Mx.n m)).map fun y => decide (y ∈ Mx.bf m i)).map Value.bool) ∧ Own w6.heap.size w' q.1 3 1 (((Mx.bf m i).map Int.ofNat).map vI) ∧
      (∀ b, ownb s2 b → ¬ ownb q.1 b ∧ ¬ ownb sl b) ∧ ∀ b, ownb q.1 b → ¬ ownb sl b) (fun q _ => (Z - q.2).toNat)
    ⟨hg9.any, 0, Sl.nil, rfl, by omega, hstab _ _ _ _ hr0 hg9 (fun e => e), hB4.g hg9, Own.nil _ _ _ _, by simpa [Mx.bf] using hs9, by simpa [Mx.bf] using hr49, fun b hb => ⟨hd0 b hb, fun ⟨_, e, _⟩ => by cases e⟩, fun b _ ⟨_, e, _⟩ => by cases e⟩ ?_
  rintro ⟨out, qi⟩ w10 ⟨hc10, i, sl, rfl, hi, hr10, hb4', hsl, hsn, hout, hd1, hd2⟩
  dsimp only at hout hd1 hd2 ⊢
  have hle := Mx.bf_le ho i
  have hol : (Mx.bf m i).length = out.len := by simpa using hout.len
  refine M.if_ (fun hlt => ?_) (fun hge => ?_)
  · have hlt : i < (Mx.bf m i).length := by omega
    have hx := Mx.bf_lt ho i _ (Mx.getD_mem hlt)
    obtain ⟨x, hxe⟩ : ∃ x, x = (Mx.bf m i).getD i 0 := ⟨_, rfl⟩
    have hget : (Mx.bf m i)[i]? = some x := by rw [hxe]; exact getD_some hlt
    rw [← hxe] at hx
    have hgetI : ((Mx.bf m i).map Int.ofNat)[(i : Int).toNat]? = some (x : Int) := by simp [hget]
    refine M.rd (hout.rd (S := fun _ => True) fun _ _ => trivial) (by omega) hgetI ?_
    refine M.callv_of (hy x _ sl w10 hr10 hc10 (by rw [List.length_take]; omega) hb4' hsl) ?_
    have hoz : ∀ b, ownb out b → b < w10.heap.size := fun b hb => (hout.ge hb).2
    have hsz : ∀ b, ownb s2 b → b < w10.heap.size := fun b hb => (hsn.ge hb).2
    have hsz10 := hc10.size
    rintro _ w11 ⟨rfl, hr11, sl2, hc11, hb11, hsl2, hdn⟩
    have hn10 : ∀ b, w6.heap.size ≤ b → ¬ Y b := fun b hb => hYb (by omega) (by omega)
    have hcY11 : Chg Y w6 w11 := hc10.trans hc11 fun b hb e => e.elim id fun e => by have := (hsl.ge e).1; omega
    have hsn := hsn.chg hc11 fun b hb e => e.elim (hn10 b (hsn.ge hb).1) (hd1 b hb).2
    have hout := hout.chg hc11 fun b hb e => e.elim (hn10 b (hout.ge hb).1) (hd2 b hb)
    have hsz10 := hc10.size
    have hd1' : ∀ b, ownb s2 b → ¬ ownb out b ∧ ¬ ownb sl2 b := fun b hb => ⟨(hd1 b hb).1, fun e => by
      rcases hdn b e with e | e
      · exact (hd1 b hb).2 e
      · have := hsz b hb; omega⟩
    have hd2' : ∀ b, ownb out b → ¬ ownb sl2 b := fun b hb e => by
      rcases hdn b e with e | e
      · exact hd2 b hb e
      · have := hoz b hb; omega
    refine M.ifb (fun h => by cases h) (fun _ => M.drew_of fun w12 _ hg12 => ?_)
    have hc12 := hcY11.g hg12
    have hout := hout.g hg12
    refine M.ld0 (hC2.chg hc12 (hYb (by omega) (by omega))) rfl (M.rd (hout.rd (S := fun _ => True) fun _ _ => trivial) (by omega) hgetI ?_)
    have hB1' := hB1.chg hc12 (hYb (by omega) (by omega))
    have hG12 := hgrow hG6 hc12
    refine M.callv_of (inv_of (cs := [vA ⟨b1, 0, none⟩]) (args := [vI x]) Try.call45 (Reach_c1 hB1' h hG12 ho hx) fun r w' hr => ⟨r, rfl, hr⟩) ?_
    rintro r19 w12' ⟨hrow, hw⟩
    have hw := hw.symm
    subst hw
    have hrl : (Mx.row m x).length = r19.len := by simpa using hrow.len
    have hsn := hsn.g hg12
    have hrl2 : (Mx.row m x).length ≤ 256 := by rw [Mx.row, List.length_map, List.length_range]; exact ho.k2
    have hext : ∀ j, (Mx.ext ((Mx.row m x).take j) (Mx.bf m i)).Nodup ∧ ∀ y ∈ Mx.ext ((Mx.row m x).take j) (Mx.bf m i), y < Mx.n m := by
      intro j
      refine ⟨Mx.ext_nodup _ _ (Mx.bf_nodup i), fun y hy => ?_⟩
      rw [Mx.ext_mem] at hy
      rcases hy with hy | hy
      · exact Mx.bf_lt ho i y hy
      · have := List.mem_of_mem_take hy
        rw [Mx.row, List.mem_map] at this
        obtain ⟨c, hc, rfl⟩ := this
        exact (ho.nx x c hx (List.mem_range.1 hc)).1
    have hsz12 := hc12.size
    have hsz1012 := (hc11.g hg12).size
    refine M.loop_at (fun q w' => Chg (fun b => ownb s2 b ∨ ownb out b) w12 w' ∧ ∃ j : Nat, q.2 = j ∧ j ≤ (Mx.row m x).length ∧
        Own w6.heap.size w' s2 4 1 (((List.range (Mx.n m)).map fun y => decide (y ∈ Mx.ext ((Mx.row m x).take j) (Mx.bf m i))).map Value.bool) ∧ Own w6.heap.size w' q.1 3 1 (((Mx.ext ((Mx.row m x).take j) (Mx.bf m i)).map Int.ofNat).map vI) ∧
        ∀ b, ownb q.1 b → ownb out b ∨ w12.heap.size ≤ b) (fun q _ => (256 - q.2).toNat)
      ⟨Chg.refl _ _, 0, rfl, by omega, hsn, hout, fun b hb => .inl hb⟩ ?_
    rintro ⟨acc, qj⟩ w13 ⟨hc13, j, rfl, hj, hsn, hacc, hda⟩
    dsimp only at hacc hda ⊢
    have hs2w : ∀ b, ownb s2 b → b < w12.heap.size := fun b hb => by have := hsz b hb; omega
    have hda2 : ∀ b, ownb s2 b → ¬ ownb acc b := fun b hb e => by
      rcases hda b e with e | e
      · exact (hd1 b hb).1 e
      · have := hs2w b hb; omega
    refine M.if_ (fun hlt2 => ?_) (fun hge2 => ?_)
    · have hlt2 : j < (Mx.row m x).length := by omega
      obtain ⟨z, hz⟩ : ∃ z, (Mx.row m x)[j]? = some z := ⟨_, List.getElem?_eq_getElem hlt2⟩
      have hzn : z < Mx.n m := by
        have := List.mem_of_getElem? hz
        rw [Mx.row, List.mem_map] at this
        obtain ⟨c, hc, rfl⟩ := this
        exact (ho.nx x c hx (List.mem_range.1 hc)).1
      have htk : Mx.ext ((Mx.row m x).take (j + 1)) (Mx.bf m i) = if z ∈ Mx.ext ((Mx.row m x).take j) (Mx.bf m i) then Mx.ext ((Mx.row m x).take j) (Mx.bf m i) else Mx.ext ((Mx.row m x).take j) (Mx.bf m i) ++ [z] := by
        rw [List.take_add_one, hz]; exact Mx.ext_snoc _ _ _
      have hro : ∀ b, ownb s2 b ∨ ownb out b → w6.heap.size ≤ b := fun b hb => hb.elim (fun hb => by have := hs2b b hb; omega) fun hb => (hout.ge hb).1
      have hrow13 : Rd 1 (fun _ => True) w13 r19 (((Mx.row m x).map Int.ofNat).map vI) := hrow.chg (hgrow hG6 (hc12.trans hc13 fun b hb e => by have := hro b e; omega)) fun _ _ x => x
      refine M.rd hrow13 (by omega) (x := (z : Int)) (by simp [hz]) ?_
      refine M.rd (hsn.rd (S := fun _ => True) fun _ _ => trivial) (by omega) (x := decide (z ∈ Mx.ext ((Mx.row m x).take j) (Mx.bf m i))) (by simp [hzn]) ?_
      refine M.if_ (fun hin => ?_) (fun hin => ?_)
      · rw [wI_succ (by simp only [Big]; omega)]
        refine ⟨⟨hc13, j + 1, rfl, by omega, ?_, ?_, hda⟩, by (try simp only); omega⟩
        all_goals rw [htk, if_pos hin]
        · exact hsn
        · exact hacc
      · refine M.wr (i := z) (x := true) hsn (by simp; omega) fun w14 hs14 hc14 hz14 => ?_
        rw [seen_set] at hs14
        have hacc := hacc.chg hc14 fun b hb e => hda2 b e hb
        have hacl : acc.len = (Mx.ext ((Mx.row m x).take j) (Mx.bf m i)).length := by have := hacc.len; simp at this; omega
        have haln := nodup_le _ _ (hext j).1 (hext j).2
        have hsz13 := hc13.size
        refine M.app Try.underlying24 (T := 3) (info := Try.t3) (z := vI 0) (m := 1) (bytes := 8) (by kernel_rfl) rfl rfl rfl rfl (by decide) hacc rfl (by simp [one1]) (by omega) (by omega) (by omega) fun r w15 ho15 hl15 hc15 hb15 => ?_
        rw [wI_succ (by simp only [Big]; omega)]
        refine ⟨⟨?_, j + 1, rfl, by omega, ?_, ?_, fun b hb => ?_⟩, by (try simp only); omega⟩
        · refine hc13.trans ((hc14.mono (q := fun b => ownb s2 b ∨ ownb acc b) fun b _ hb => Or.inl hb).c (hc15.mono fun b _ hb => Or.inr hb)) fun b hb e => e.imp id fun e => ?_
          rcases hda b e with e | e
          · exact e
          · omega
        · rw [htk, if_neg hin]
          exact hs14.chg hc15 fun b hb e => hda2 b hb e
        · rw [htk, if_neg hin]
          simpa using ho15
        · rcases hb15 b hb with e | e
          · exact hda b e
          · right; omega
    · have hjl : j = (Mx.row m x).length := by omega
      subst hjl
      rw [List.take_of_length_le (Nat.le_refl _)] at hsn hacc
      have hbs : Mx.bf m (i + 1) = Mx.ext (Mx.row m x) (Mx.bf m i) := by rw [Mx.bf, if_pos hlt, ← hxe]
      rw [← hbs] at hsn hacc
      rw [wI_succ (by simp only [Big]; omega)]
      have hc1213 : Chg Y w6 w13 := hc12.trans hc13 fun b hb e => e.elim (fun e => by have := hs2b b e; omega) fun e => by have := (hout.ge e).1; omega
      have hno : ∀ b, b < w6.heap.size → ¬ (ownb s2 b ∨ ownb out b) := fun b hb e => e.elim (fun e => by have := hs2b b e; omega) fun e => by have := (hout.ge e).1; omega
      have hi1 : i + 1 ≤ (Mx.bf m (i + 1)).length := by
        have := (Mx.bf_pre1 (m := m) i).length_le
        omega
      have hsl2n : ∀ b, ownb sl2 b → ¬ (ownb s2 b ∨ ownb out b) := fun b hb e => e.elim (fun e => (hd1' b e).2 hb) fun e => hd2' b e hb
      refine ⟨⟨hc1213, i + 1, sl2, rfl, hi1, ?_, ?_, ?_, hsn, hacc, fun b hb => ⟨hda2 b hb, (hd1' b hb).2⟩, fun b hb e => ?_⟩, by (try simp only); omega⟩
      · exact hstab _ _ _ _ (hstab _ _ _ _ hr11 hg12 (fun e => e)) hc13 (hno l (by omega))
      · exact (hb11.g hg12).chg hc13 (hno b4 (by omega))
      · have h5 := (hsl2.g hg12).chg hc13 hsl2n
        have e : (Mx.bf m (i + 1)).take (i + 1) = (Mx.bf m i).take i ++ [x] := by
          obtain ⟨t, ht⟩ := Mx.bf_pre1 (m := m) i
          rw [← ht, List.take_append_of_le_length (by omega), List.take_add_one, hget]; rfl
        rw [e]
        exact h5
      · rcases hda b hb with h6 | h6
        · exact hd2' b h6 e
        · have := (hsl2.ge e).2; have := hg12.size; omega
  · have he : Mx.bf m i = Mx.reach m := Mx.bf_end ho (by omega)
    refine ⟨hc10, hr10, sl, hb4', ?_⟩
    have e : (Mx.bf m i).take i = Mx.reach m := by rw [List.take_of_length_le (by omega), he]
    rw [e] at hsl
    exact hsl
end C
end Go.Proofs.Ythepabefikobpaa
/- Contracts: a product of words, a list made of one number (slices.Repeat), the places of kept states. Conditions: as each states. -/
namespace Go.Sh
open Go
theorem add0 (b i : Nat) : (⟨b, 0, none⟩ : Addr).add i = ⟨b, i, none⟩ := by unfold Addr.add; split <;> simp_all
section
variable {γ : Type} {k : γ → World → Prop} {w : World}
/-- Cells are copied into a block. -/
theorem M.cpy {P : Program} {t t2 ty T T' b lo : Nat} {d s : Sl} {a : Addr} {cur cs : List Value} {f : Int → M γ} (ht : P.underlying t = some (.slice T)) (hs : (P.info? T).map (·.size) = some 1)
    (hb : Blk w b T' cur) (hd : d.addr = some ⟨b, lo, none⟩) (hsa : s.addr = some a) (hn : cs.length = Nat.min s.len d.len)
    (hsrc : ∀ j v, cs[j]? = some v → w.cell? (a.add j) = some v) (hfit : lo + cs.length ≤ cur.length) (h1 : ∀ v ∈ cs, one1 v = true)
    (hf : ∀ w', Blk w' b T' (cur.take lo ++ cs ++ cur.drop (lo + cs.length)) → Chg (fun x => x = b) w w' → w'.heap.size = w.heap.size → f cs.length w' k) :
    M.run P (Builtin.copy_ #[t, t2] ty #[d.val, s.val]) vI f w k := by
  have hr := run_copy_row (P := P) w t t2 ty T b lo d.len d.cap a s.len s.cap cur.toArray T' cs ht hs hb hn hsrc (by simpa using hfit) (fun u hu => by have := h1 u hu; cases u <;> simp_all [one1, Value.oneCell'])
  have e1 : d.val = .slice (some ⟨b, lo, none⟩) d.len d.cap := by rw [Sl.val, hd]
  have e2 : s.val = .slice (some a) s.len s.cap := by rw [Sl.val, hsa]
  refine ⟨(cs.length : Int), _, by rw [e1, e2]; exact hr, hf _ ?_ ?_ (by simp)⟩
  · have := setRow_heap w b _ (cur.take lo ++ cs ++ cur.drop (lo + cs.length)).toArray T' (0, 0) hb
    simpa [Blk] using this
  · refine ⟨⟨rfl, rfl, rfl⟩, by simp, fun c _ hn => ?_⟩
    simp only [World.setRow]
    rw [Array.getElem?_modify]
    simp [Ne.symm (show c ≠ b from hn)]
end
end Go.Sh
namespace Go.Proofs.Ythepabefikobpaa
open Go Go.Sh Go.Sp
namespace C
section
variable {P : Program} {T : TypeId} (w : World) {a b : Nat}
theorem run_andm (ha : a < 4294967296) : (binOp .and T (.int .u64 a) (.int .u64 4294967295)).run P w = .ok (.int .u64 (a : Int)) w := by
  have : (BitVec.ofInt 64 (a : Int) &&& BitVec.ofInt 64 4294967295).toNat = a := by
    have e : BitVec.ofInt 64 4294967295 = BitVec.ofNat 64 (2 ^ 32 - 1) := by decide
    rw [e, BitVec.toNat_and, BitVec.toNat_ofNat, Nat.mod_eq_of_lt (a := 2 ^ 32 - 1) (by decide), Nat.and_two_pow_sub_one_eq_mod]
    simp
    omega
  have h2 : a < 2 ^ 64 := by omega
  rw [← wrap64 h2]
  conv => rhs; rw [← this]
  rw [wrap64 h2]
  rfl
end
theorem mul_one {w : World} {n : Nat} (hn : n ≤ 65536) :
    Calls Try.prog 96 [.int .u64 1, .int .u64 n].toArray w (Ret (fun x : (Int × Int) => .tuple #[((Value.int .u64) x.1), ((Value.int .u64) x.2)]) fun r w' => r = (0, (n : Int)) ∧ w' = w) := by
  apply L.math_bits_Mul
  unfold S.math_bits_Mul
  have e0 : ((1 : Nat) : Int) = 1 := rfl
  have wz : IntKind.u64.wrap 0 = 0 := by decide
  have wn : IntKind.u64.wrap (n : Int) = n := wrap64 (by omega)
  have hs : n >>> 32 = 0 := by rw [Nat.shiftRight_eq_div_pow]; exact Nat.div_eq_of_lt (by omega)
  refine M.call_of (e := fun x : (Int × Int) => .tuple #[((Value.int .u64) x.1), ((Value.int .u64) x.2)]) (R := fun r w' => r = (0, (n : Int)) ∧ w' = w) ?_ ?_
  · apply L.math_bits_Mul64
    unfold S.math_bits_Mul64
    refine ⟨1, run_andm (a := 1) w (by omega), 0, run_shr64 (a := 1) (b := 32) w (by omega), (n : Int), run_andm w (by omega), 0, ?_, 0, ?_, 0, ?_, 0, ?_, 0, ?_, ?_, rfl⟩
    · have := run_shr64 (P := Try.prog) (T := 118) (a := n) (b := 32) w (by omega)
      rw [hs] at this
      exact this
    · have := run_shr64 (P := Try.prog) (T := 118) (a := n) (b := 32) w (by omega)
      rw [hs] at this
      rw [Int.one_mul, wn]
      exact this
    · rw [Int.zero_mul, wz]
      exact run_andm (a := 0) w (by omega)
    · rw [Int.zero_mul, wz]
      exact run_shr64 (a := 0) (b := 32) w (by omega)
    · simp only [Int.mul_zero, wz]
      exact run_shr64 (a := 0) (b := 32) w (by omega)
    · simp only [Int.mul_zero, wz, Int.one_mul, wn, Int.add_zero]
  · rintro _ _ ⟨rfl, rfl⟩
    exact ⟨rfl, rfl⟩
theorem Repeat_one {F : Nat → Prop} {w : World} {s : Sl} {x : Int} {n : Nat} (h : Rd 1 F w s ([x].map vI)) (h1 : 1 ≤ n) (hn : n ≤ 65536) :
    Calls Try.prog 88 [s.val, vI n].toArray w (Ret Sl.val fun r w' => Own w.heap.size w' r 3 1 ((List.replicate n x).map vI) ∧ Grow w w') := by
  apply L.slices_Repeat_Lintint
  unfold S.slices_Repeat_Lintint
  have hl : s.len = 1 := by simpa using h.len.symm
  obtain ⟨a, ha, _, _, hr⟩ := h.read (by omega)
  refine M.if_ (fun h0 => by omega) (fun _ => ?_)
  have wn : IntKind.u64.wrap (n : Int) = n := wrap64 (by omega)
  have w1 : IntKind.u64.wrap ((1 : Nat) : Int) = 1 := by decide
  rw [hl, wn, w1]
  refine M.call_of (mul_one hn) ?_
  rintro r0 w0 ⟨e1, e2⟩
  subst e1
  have e2 := e2.symm
  subst e2
  refine M.join_in (M.if_ (fun h0 => by omega) (fun _ => M.if_ (fun h0 => by omega) (fun _ => ?_)))
  dsimp only
  rw [wI_id (by omega) (by omega)]
  refine M.mkSl Try.underlying24 (T := 3) (info := Try.t3) (z := vI 0) (by kernel_rfl) rfl rfl rfl (by simp only [Try.t3]; omega) (by simp only [maxLen]; omega) fun s5 w2 hs5 hs5l hs5b hg2 => ?_
  rcases hs5.out.2 with rfl | ⟨b, cs, hb2, hb3, hb4, hb5, hb6, hb7, hb8⟩
  · simp [Sl.nil] at hs5l; omega
  have hcl : cs.length = s5.cap := by omega
  refine M.cpy (lo := 0) (cs := [vI x]) Try.underlying24 (T := 3) (by kernel_rfl) hb4 hb2 ha (by rw [hl, hs5l]; show 1 = min 1 n; omega) (fun j v hv => ?_) (by simp; omega) (by simp [one1]) fun w3 hB3 hc3 hz3 => ?_
  · have := hr j v hv
    exact hg2.cell (fun e => e) this
  have hx0 : ([x].map vI)[0]? = some (vI x) := rfl
  have hlen1 : (([vI x] : List Value).length : Int) = ((1 : Nat) : Int) := rfl
  rw [hlen1]
  refine M.loop_at (fun q w' => ∃ (j : Nat) (cur : List Value), q = j ∧ 1 ≤ j ∧ j ≤ n ∧ Blk w' b 3 cur ∧ cur.length = s5.cap ∧ cur.take j = List.replicate j (vI x) ∧ Grow w w') (fun q _ => (n - q).toNat)
    ⟨1, _, rfl, by omega, h1, hB3, by simp; omega, by simp, Chg.fresh hg2 hc3 fun b' hb' => by omega⟩ ?_
  rintro _ w4 ⟨j, cur, rfl, hj1, hj, hB4, hcul, hcut, hg4⟩
  refine M.if_ (fun hlt => ?_) (fun hge => ?_)
  · have hlt : j < n := by omega
    refine M.drew_of fun w5 _ hg5 => ⟨_, ⟨by omega, by omega, by omega, by omega⟩, rfl, _, ⟨by omega, by omega, by omega, by omega⟩, rfl, ?_⟩
    have hB5 := hB4.g hg5
    obtain ⟨c, hc⟩ : ∃ c, c = Nat.min j (n - j) := ⟨_, rfl⟩
    have hc1 : c ≤ j := by rw [hc]; exact Nat.min_le_left _ _
    have hc2 : c ≤ n - j := by rw [hc]; exact Nat.min_le_right _ _
    have hc3 : 1 ≤ c := by rw [hc]; exact Nat.le_min.2 ⟨hj1, by omega⟩
    have hrep : ∀ i, i < j → cur[i]? = some (vI x) := fun i hi => by
      have : (cur.take j)[i]? = some (vI x) := by rw [hcut]; simp [hi]
      rwa [List.getElem?_take, if_pos hi] at this
    refine M.cpy (lo := j) (b := b) (a := ⟨b, 0, none⟩) (cs := List.replicate c (vI x)) Try.underlying24 (T := 3) (by kernel_rfl) hB5 ?_ ?_ ?_ (fun i v hv => ?_) (by simp; omega) (by simp [one1]) fun w6 hB6 hc6 hz6 => ?_
    · simp only [Sl.cut, Int.toNat_natCast, hb2, Option.map_some, Nat.mul_one]
      rw [if_neg (by omega), add0]
    · simp only [Sl.cut, Int.toNat_natCast, hb2, Option.map_some, Nat.mul_one]
      rw [if_neg (by simp; omega)]
      simp [add0]
    · simp only [Sl.cut, Int.toNat_natCast, List.length_replicate, hs5l]
      simpa using hc
    · have hi : i < c := by
        by_cases hi : i < c
        · exact hi
        · rw [List.getElem?_eq_none (by simp; omega)] at hv; cases hv
      rw [List.getElem?_replicate, if_pos hi] at hv
      cases hv
      exact hB5.cell (hrep i (by omega))
    · rw [List.length_replicate, show ((j : Int) + (c : Int)) = ((j + c : Nat) : Int) by omega, wI_id (by omega) (by omega)]
      refine ⟨⟨j + c, _, rfl, by omega, by omega, hB6, by simp; omega, ?_, Chg.fresh (hg4.trans hg5) hc6 fun b' hb' => by omega⟩, by (try simp only); omega⟩
      rw [hcut, List.take_append_of_le_length (by simp), List.take_of_length_le (by simp), List.replicate_append_replicate]
  · have : j = n := by omega
    subst this
    refine ⟨Own.mk hb2 hb3 hB4 hb5 hb6 (by omega) ?_, hg4⟩
    rw [hs5l, Nat.mul_one, hcut]
    simp
/-- Where a kept state stands. -/
def pl (L : List Nat) (i x : Nat) : Int := if x ∈ L.take i then (L.idxOf x : Int) else -1
theorem pl_succ {L : List Nat} (hd : L.Nodup) {i z : Nat} (hz : L[i]? = some z) : ups (pl L i) z (i : Int) = pl L (i + 1) := by
  funext x
  obtain ⟨hi, hzi⟩ := List.getElem?_eq_some_iff.1 hz
  have hix : L.idxOf z = i := (idxOf_iff hd hi).1 hzi
  simp only [ups, pl, List.take_add_one, hz, Option.toList_some, List.mem_append, List.mem_singleton]
  by_cases h : x = z
  · subst h; simp [hix]
  · simp [h]
theorem dfa_places {F : Nat → Prop} {w : World} {m : Mc} {s : Sl} {Ks : List Nat} (ho : Mx.Ok m) (hk : Mx.Kp m Ks) (h : Rd 1 F w s ((Ks.map Int.ofNat).map vI)) :
    Calls Try.prog 75 [vI (Mx.n m), s.val].toArray w (Ret (fun x : (Sl × Bool) => .tuple #[(Sl.val x.1), (Value.bool x.2)]) fun r w' => r.2 = true ∧ Own w.heap.size w' r.1 3 1 (((List.range (Mx.n m)).map (pl Ks Ks.length)).map vI) ∧ Grow w w') := by
  apply L.dfa_places
  unfold S.dfa_places
  have hl : Ks.length = s.len := by simpa using h.len
  have hle := hk.le
  have hpos := hk.pos
  have h1 := ho.n1
  have h2 := ho.n2
  have h := h.any
  refine M.new_of fun b1 w1 hb1 hB1 hg1 hs1 => M.call_of (Repeat_one (F := fun _ => True) (x := -1) ⟨rfl, Nat.le_refl _, fun _ => ⟨_, rfl, rfl, trivial, fun i v hv => hB1.cell hv⟩⟩ h1 h2) ?_
  rintro r2 w2 ⟨hr2, hg2⟩
  have hG2 := hg1.trans hg2
  have e0 : List.replicate (Mx.n m) (-1 : Int) = (List.range (Mx.n m)).map (pl Ks 0) := by
    rw [rep_range]; exact List.map_congr_left fun x _ => by simp [pl]
  rw [e0] at hr2
  have hr2 := hr2.base (n' := w.heap.size) (by omega)
  refine M.loop_at (fun q w' => ∃ i : Nat, q = i ∧ i ≤ Ks.length ∧ Own w.heap.size w' r2 3 1 (((List.range (Mx.n m)).map (pl Ks i)).map vI) ∧ Grow w w') (fun q _ => (Ks.length - q).toNat)
    ⟨0, rfl, by omega, hr2, hG2⟩ ?_
  rintro _ w3 ⟨i, rfl, hi, hr, hg3⟩
  refine M.if_ (fun hlt => ?_) (fun hge => ?_)
  · have hlt : i < Ks.length := by omega
    obtain ⟨z, hz⟩ : ∃ z, Ks[i]? = some z := ⟨_, List.getElem?_eq_getElem hlt⟩
    have hzn := hk.lt z (List.mem_of_getElem? hz)
    have hnot : z ∉ Ks.take i := not_mem_take hk.nd hz
    refine M.rd (h.g hg3) (by omega) (x := (z : Int)) (by simp [hz]) (M.join_in (M.if_ (fun h0 => by omega) (fun _ => M.if_ (fun h0 => by omega) (fun _ => ?_))))
    refine M.rd (hr.rd (S := fun _ => True) fun _ _ => trivial) (by omega) (x := -1) (by simp [hzn, pl, hnot]) (M.if_ (fun h0 => by omega) (fun _ => ?_))
    refine M.wr (i := z) (x := (i : Int)) hr (by simp; omega) fun w4 hr4 hc4 _ => ?_
    rw [set_range_map, pl_succ hk.nd hz] at hr4
    rw [wI_succ (by simp only [Big]; omega)]
    exact ⟨⟨i + 1, rfl, hlt, hr4, Chg.fresh hg3 hc4 fun b hb => (hr.ge hb).1⟩, by (try simp only); omega⟩
  · have : i = Ks.length := by omega
    subst this
    refine M.drew_of fun w4 _ hg4 => M.if_ (fun _ => ?_) (fun h0 => by omega)
    refine M.rd ((h.g hg3).g hg4) (by omega) (x := 0) (by simp [hk.zero]) ⟨by simp, hr.g hg4, hg3.trans hg4⟩
end C
end Go.Proofs.Ythepabefikobpaa
