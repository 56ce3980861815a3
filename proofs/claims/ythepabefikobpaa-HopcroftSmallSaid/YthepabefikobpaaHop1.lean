/- Plain: what marking and parting do to blocks of states. No condition. -/
import Derived.Test.YthepabefikobpaaC10
namespace Go.Sh
open Go Go.Sp
/-- A nodup list of numbers below m has at most m of them. -/
theorem nodup_le : ∀ (m : Nat) (l : List Nat), l.Nodup → (∀ x ∈ l, x < m) → l.length ≤ m
  | 0, l, _, hb => by
    cases l with
    | nil => exact Nat.le_refl _
    | cons x l => exact absurd (hb x List.mem_cons_self) (by omega)
  | m + 1, l, hd, hb => by
    by_cases hm : m ∈ l
    · have := nodup_le m (l.erase m) (hd.erase m) fun x hx => by
        have h1 := hb x (List.mem_of_mem_erase hx)
        have h2 := (hd.mem_erase_iff.1 hx).1
        omega
      rw [List.length_erase_of_mem hm] at this
      omega
    · have := nodup_le m l hd fun x hx => by
        have h1 := hb x hx
        have h2 : x ≠ m := fun e => hm (e ▸ hx)
        omega
      omega
theorem inj_le {B N : Nat} (f : Nat → Nat) (hf : ∀ i, i < B → f i < N) (hi : ∀ i j, i < B → j < B → f i = f j → i = j) : B ≤ N := by
  have h1 : ((List.range B).map f).Nodup := by
    rw [List.Nodup, List.pairwise_map]
    refine List.Pairwise.imp_of_mem (fun {a b} ha hb hlt e => ?_) List.pairwise_lt_range
    have := hi a b (List.mem_range.1 ha) (List.mem_range.1 hb) e
    omega
  have := nodup_le N _ h1 fun x hx => by
    rw [List.mem_map] at hx
    obtain ⟨i, hi, rfl⟩ := hx
    exact hf i (List.mem_range.1 hi)
  simpa using this
/-- States stand block by block. -/
structure PI (N : Nat) (s : PS) : Prop where
  st_lt : ∀ i, i < N → s.st i < N
  pos_lt : ∀ x, x < N → s.pos x < N
  st_pos : ∀ x, x < N → s.st (s.pos x) = x
  pos_st : ∀ i, i < N → s.pos (s.st i) = i
  bl_lt : ∀ x, x < N → s.bl x < s.B
  rng : ∀ c, c < s.B → s.lo c < s.hi c ∧ s.hi c ≤ N
  md_le : ∀ c, c < s.B → s.lo c + s.md c ≤ s.hi c
  inb : ∀ x, x < N → s.lo (s.bl x) ≤ s.pos x ∧ s.pos x < s.hi (s.bl x)
  blk : ∀ c i, c < s.B → s.lo c ≤ i → i < s.hi c → s.bl (s.st i) = c
theorem PI.le {N : Nat} {s : PS} (h : PI N s) : s.B ≤ N := inj_le s.lo (fun i hi => by have := h.rng i hi; omega) fun i j hi hj e => by
  have h1 := h.blk i (s.lo i) hi (Nat.le_refl _) (h.rng i hi).1
  have h2 := h.blk j (s.lo j) hj (Nat.le_refl _) (h.rng j hj).1
  rw [← h1, e, h2]
def PS.mkd (s : PS) (x : Nat) : Prop := s.pos x < s.lo (s.bl x) + s.md (s.bl x)
theorem PI.mkd_ex {N : Nat} {s : PS} (h : PI N s) {c : Nat} (hc : c < s.B) (hm : 0 < s.md c) : ∃ x, x < N ∧ s.bl x = c ∧ s.mkd x := by
  have h1 := h.rng c hc
  have hb := h.blk c (s.lo c) hc (Nat.le_refl _) h1.1
  refine ⟨s.st (s.lo c), h.st_lt _ (by omega), hb, ?_⟩
  rw [PS.mkd, hb, h.pos_st _ (by omega)]
  omega
theorem PI.mkd_pos {N : Nat} {s : PS} (h : PI N s) {x : Nat} (hx : x < N) (hm : s.mkd x) : 0 < s.md (s.bl x) := by
  have h1 := (h.inb x hx).1
  rw [PS.mkd] at hm
  omega
theorem PI.notall {N : Nat} {s : PS} (h : PI N s) {c : Nat} (hc : c < s.B) : s.md c ≠ s.hi c - s.lo c ↔ ∃ x, x < N ∧ s.bl x = c ∧ ¬ s.mkd x := by
  have h1 := h.rng c hc
  have h2 := h.md_le c hc
  constructor
  · intro hne
    have hb := h.blk c (s.lo c + s.md c) hc (by omega) (by omega)
    refine ⟨s.st (s.lo c + s.md c), h.st_lt _ (by omega), hb, ?_⟩
    rw [PS.mkd, hb, h.pos_st _ (by omega)]
    omega
  · rintro ⟨x, hx, rfl, hm⟩ he
    have := h.inb x hx
    rw [PS.mkd] at hm
    omega
theorem mark_same (s : PS) (x : Nat) : (s.mark x).bl = s.bl ∧ (s.mark x).B = s.B ∧ (s.mark x).lo = s.lo ∧ (s.mark x).hi = s.hi ∧ (s.mark x).W = s.W := by
  unfold PS.mark
  split <;> exact ⟨rfl, rfl, rfl, rfl, rfl⟩
theorem PI.mark {N : Nat} {s : PS} (h : PI N s) {x : Nat} (hx : x < N) :
    PI N (s.mark x) ∧ (∀ y, y < N → ((s.mark x).mkd y ↔ s.mkd y ∨ y = x)) ∧ (s.mkd x → s.mark x = s) ∧ (¬ s.mkd x → (s.mark x).md = ups s.md (s.bl x) (s.md (s.bl x) + 1)) := by
  by_cases hm : s.mkd x
  · have hm1 := hm
    rw [PS.mkd] at hm1
    have e : s.mark x = s := by rw [PS.mark, if_pos hm1]
    rw [e]
    refine ⟨h, fun y hy => ⟨.inl, ?_⟩, fun _ => rfl, fun h => (h hm).elim⟩
    rintro (h1 | rfl)
    · exact h1
    · exact hm
  have hm' := hm
  rw [PS.mkd] at hm
  obtain ⟨pl, hpl⟩ : ∃ pl, pl = s.lo (s.bl x) + s.md (s.bl x) := ⟨_, rfl⟩
  obtain ⟨t, ht⟩ : ∃ t, t = s.st pl := ⟨_, rfl⟩
  have e : s.mark x = { s with st := ups (ups s.st pl x) (s.pos x) t, pos := ups (ups s.pos t (s.pos x)) x pl, md := ups s.md (s.bl x) (s.md (s.bl x) + 1) } := by
    rw [PS.mark, if_neg hm, ht, hpl]
  rw [← hpl] at hm
  have hc := h.bl_lt x hx
  have hin := h.inb x hx
  have hr := h.rng _ hc
  have hpl1 : s.lo (s.bl x) ≤ pl := by omega
  have hpl2 : pl < s.hi (s.bl x) := by omega
  have htb : s.bl t = s.bl x := by rw [ht]; exact h.blk _ pl hc hpl1 hpl2
  have htN : t < N := by rw [ht]; exact h.st_lt _ (by omega)
  have htp : s.pos t = pl := by rw [ht]; exact h.pos_st _ (by omega)
  have hxp := h.st_pos x hx
  have hxt : pl = s.pos x → t = x := fun e => by rw [ht, e, hxp]
  have htx : t = x → pl = s.pos x := fun e => by rw [← htp, e]
  have hst : ∀ i, ups (ups s.st pl x) (s.pos x) t i = if i = s.pos x then t else if i = pl then x else s.st i := fun i => rfl
  have hpos : ∀ y, ups (ups s.pos t (s.pos x)) x pl y = if y = x then pl else if y = t then s.pos x else s.pos y := fun y => rfl
  rw [e]
  refine ⟨⟨fun i hi => ?_, fun y hy => ?_, fun y hy => ?_, fun i hi => ?_, h.bl_lt, h.rng, fun c hcB => ?_, fun y hy => ?_, fun c i hcB h1 h2 => ?_⟩, fun y hy => ?_, fun h => (hm' h).elim, fun _ => rfl⟩
  · simp only [hst]
    split
    · exact htN
    · split
      · exact hx
      · exact h.st_lt i hi
  · simp only [hpos]
    split
    · omega
    · split
      · exact h.pos_lt x hx
      · exact h.pos_lt y hy
  · simp only [hpos]
    by_cases h1 : y = x
    · rw [if_pos h1, hst]
      by_cases h2 : pl = s.pos x
      · rw [if_pos h2, hxt h2, h1]
      · rw [if_neg h2, if_pos rfl, h1]
    · rw [if_neg h1]
      by_cases h2 : y = t
      · rw [if_pos h2, hst, if_pos rfl, h2]
      · rw [if_neg h2, hst]
        have h3 : s.pos y ≠ s.pos x := fun e => h1 (by rw [← h.st_pos y hy, e, hxp])
        have h4 : s.pos y ≠ pl := fun e => h2 (by rw [← h.st_pos y hy, e, ht])
        rw [if_neg h3, if_neg h4, h.st_pos y hy]
  · simp only [hst]
    by_cases h1 : i = s.pos x
    · rw [if_pos h1, hpos]
      by_cases h2 : t = x
      · rw [if_pos h2, h1, htx h2]
      · rw [if_neg h2, if_pos rfl, h1]
    · rw [if_neg h1]
      by_cases h2 : i = pl
      · rw [if_pos h2, hpos, if_pos rfl, h2]
      · rw [if_neg h2, hpos]
        have h3 : s.st i ≠ x := fun e => h1 (by rw [← h.pos_st i hi, e])
        have h4 : s.st i ≠ t := fun e => h2 (by rw [← h.pos_st i hi, e, htp])
        rw [if_neg h3, if_neg h4, h.pos_st i hi]
  · simp only [ups]
    by_cases h1 : c = s.bl x
    · rw [if_pos h1, h1]; omega
    · rw [if_neg h1]; exact h.md_le c hcB
  · simp only [hpos]
    by_cases h1 : y = x
    · rw [if_pos h1, h1]; omega
    · rw [if_neg h1]
      by_cases h2 : y = t
      · rw [if_pos h2, h2, htb]; exact hin
      · rw [if_neg h2]; exact h.inb y hy
  · have h3 := h.blk c i hcB h1 h2
    simp only [hst]
    by_cases h4 : i = s.pos x
    · rw [if_pos h4, htb, ← h3, h4, hxp]
    · rw [if_neg h4]
      by_cases h5 : i = pl
      · rw [if_pos h5, ← h3, h5, ← ht, htb]
      · rw [if_neg h5]; exact h3
  · simp only [PS.mkd, hpos, ups]
    by_cases h1 : y = x
    · subst h1
      simp only [if_true, or_true, iff_true]
      omega
    · rw [if_neg h1]
      simp only [h1, or_false]
      by_cases h2 : y = t
      · have h3 : pl ≠ s.pos x := fun e => h1 (h2.trans (hxt e))
        rw [if_pos h2, h2, htb, if_pos rfl, htp]
        omega
      · rw [if_neg h2]
        by_cases h3 : s.bl y = s.bl x
        · have h4 : s.pos y ≠ pl := fun e => h2 (by rw [← h.st_pos y hy, e, ht])
          rw [if_pos h3, h3]
          omega
        · rw [if_neg h3]
theorem PI.part {N : Nat} {s : PS} (h : PI N s) {c : Nat} (hc : c < s.B) (hm : 0 < s.md c) (hne : s.md c ≠ s.hi c - s.lo c) :
    PI N (s.part c) ∧ (∀ y, y < N → ((s.bl y = c ∧ s.mkd y) → (s.part c).bl y = s.B) ∧ (¬ (s.bl y = c ∧ s.mkd y) → (s.part c).bl y = s.bl y)) := by
  have hr := h.rng c hc
  have hmd := h.md_le c hc
  have e : s.part c = { s with B := s.B + 1, lo := ups (ups s.lo s.B (s.lo c)) c (s.lo c + s.md c), hi := ups s.hi s.B (s.lo c + s.md c), md := ups (ups s.md s.B 0) c 0, bl := fun x => if s.lo c ≤ s.pos x ∧ s.pos x < s.lo c + s.md c then s.B else s.bl x } := by rw [PS.part, if_neg hne]
  have key : ∀ y, y < N → ((s.lo c ≤ s.pos y ∧ s.pos y < s.lo c + s.md c) ↔ (s.bl y = c ∧ s.mkd y)) := fun y hy => by
    constructor
    · rintro ⟨h1, h2⟩
      have h3 := h.blk c (s.pos y) hc h1 (by omega)
      rw [h.st_pos y hy] at h3
      exact ⟨h3, by rw [PS.mkd, h3]; exact h2⟩
    · rintro ⟨rfl, h2⟩
      exact ⟨(h.inb y hy).1, h2⟩
  have hcB : c ≠ s.B := by omega
  have elo : ∀ d, ups (ups s.lo s.B (s.lo c)) c (s.lo c + s.md c) d = if d = c then s.lo c + s.md c else if d = s.B then s.lo c else s.lo d := fun _ => rfl
  have ehi : ∀ d, ups s.hi s.B (s.lo c + s.md c) d = if d = s.B then s.lo c + s.md c else s.hi d := fun _ => rfl
  have emd : ∀ d, ups (ups s.md s.B 0) c 0 d = if d = c then 0 else if d = s.B then 0 else s.md d := fun _ => rfl
  rw [e]
  refine ⟨⟨h.st_lt, h.pos_lt, h.st_pos, h.pos_st, fun y hy => ?_, fun d hd => ?_, fun d hd => ?_, fun y hy => ?_, fun d i hd h1 h2 => ?_⟩, fun y hy => ⟨fun h1 => ?_, fun h1 => ?_⟩⟩
  · simp only
    split
    · omega
    · have := h.bl_lt y hy; omega
  · simp only [elo, ehi] at hd ⊢
    by_cases h1 : d = c
    · rw [if_pos h1, if_neg (by omega), h1]; omega
    · rw [if_neg h1]
      by_cases h2 : d = s.B
      · rw [if_pos h2, if_pos h2]; omega
      · rw [if_neg h2, if_neg h2]; exact h.rng d (by omega)
  · simp only [elo, ehi, emd] at hd ⊢
    by_cases h1 : d = c
    · rw [if_pos h1, if_pos h1, if_neg (by omega), h1]; omega
    · rw [if_neg h1, if_neg h1]
      by_cases h2 : d = s.B
      · rw [if_pos h2, if_pos h2, if_pos h2]; omega
      · rw [if_neg h2, if_neg h2, if_neg h2]; exact h.md_le d (by omega)
  · simp only [elo, ehi]
    have h1 := h.inb y hy
    by_cases h2 : s.lo c ≤ s.pos y ∧ s.pos y < s.lo c + s.md c
    · rw [if_pos h2, if_neg (by omega), if_pos rfl, if_pos rfl]; omega
    · rw [if_neg h2]
      have h3 := h.bl_lt y hy
      by_cases h4 : s.bl y = c
      · rw [if_pos h4, if_neg (by omega)]
        rw [h4] at h1 ⊢
        omega
      · rw [if_neg h4, if_neg (by omega), if_neg (by omega)]; exact h1
  · simp only [elo, ehi] at hd h1 h2 ⊢
    have hiN : i < N := by
      by_cases h3 : d = s.B
      · rw [if_pos h3] at h2; omega
      · rw [if_neg h3] at h2; have := (h.rng d (by omega)).2; omega
    rw [h.pos_st i hiN]
    by_cases h3 : d = c
    · rw [if_pos h3] at h1
      rw [if_neg (by omega)] at h2
      rw [if_neg (by omega)]
      subst h3
      exact h.blk d i hc (by omega) h2
    · rw [if_neg h3] at h1
      by_cases h4 : d = s.B
      · rw [if_pos h4] at h1 h2
        rw [if_pos (by omega), h4]
      · rw [if_neg h4] at h1 h2
        have h5 := h.blk d i (by omega) h1 h2
        rw [if_neg (fun h6 => h3 ?_), h5]
        rw [← h5, h.blk c i hc h6.1 (by omega)]
  · simp only; rw [if_pos ((key y hy).2 h1)]
  · simp only; rw [if_neg (fun h2 => h1 ((key y hy).1 h2))]
theorem PI.part0 {N : Nat} {s : PS} (h : PI N s) {c : Nat} (hc : c < s.B) (he : s.md c = s.hi c - s.lo c) : PI N (s.part c) := by
  have e : s.part c = { s with md := ups s.md c 0 } := by rw [PS.part, if_pos he]
  rw [e]
  refine ⟨h.st_lt, h.pos_lt, h.st_pos, h.pos_st, h.bl_lt, h.rng, fun d hd => ?_, h.inb, h.blk⟩
  simp only [ups]
  by_cases h1 : d = c
  · rw [if_pos h1, h1]; have := h.rng c hc; omega
  · rw [if_neg h1]; exact h.md_le d hd
end Go.Sh
/- Plain: blocks are parted one after another, by what is marked. No condition. -/
namespace Go.Sh
open Go Go.Sp
theorem PI.withW {N : Nat} {s : PS} (h : PI N s) (W : List (Nat × Nat)) : PI N { s with W := W } :=
  ⟨h.st_lt, h.pos_lt, h.st_pos, h.pos_st, h.bl_lt, h.rng, h.md_le, h.inb, h.blk⟩
/-- So many of the blocks that were met have been parted. -/
structure SpI (N K : Nat) (s0 : PS) (M : List Nat) (i : Nat) (s : PS) : Prop where
  pi : PI N s
  st : s.st = s0.st
  pos : s.pos = s0.pos
  leB : s0.B ≤ s.B
  un : ∀ c, c < s0.B → c ∉ M.take i → s.lo c = s0.lo c ∧ s.hi c = s0.hi c ∧ s.md c = s0.md c
  md0 : ∀ c, c < s.B → (c ∈ M.take i ∨ s0.B ≤ c) → s.md c = 0
  old : ∀ y, y < N → s.bl y < s0.B → s.bl y = s0.bl y
  new : ∀ y, y < N → s0.B ≤ s.bl y → s0.bl y ∈ M.take i
  rel : ∀ x y, x < N → y < N → (s.bl x = s.bl y ↔ s0.bl x = s0.bl y ∧ (s0.bl x ∈ M.take i → (s0.mkd x ↔ s0.mkd y)))
  Wn : s.W.Nodup
  Wr : ∀ q ∈ s.W, q.1 < s.B ∧ q.2 < K
  Wl : s.W.length + K * s0.B ≤ s0.W.length + K * s.B
  Wo : ∀ x c', x < N → (s0.bl x, c') ∈ s0.W → (s.bl x, c') ∈ s.W
  Wd : ∀ x y c', x < N → y < N → c' < K → s0.bl x = s0.bl y → s.bl x ≠ s.bl y → (s.bl x, c') ∈ s.W ∨ (s.bl y, c') ∈ s.W
theorem SpI.start {N K : Nat} {s : PS} (M : List Nat) (h : PI N s) (h1 : s.W.Nodup) (h2 : ∀ q ∈ s.W, q.1 < s.B ∧ q.2 < K) : SpI N K s M 0 s where
  pi := h
  st := rfl
  pos := rfl
  leB := Nat.le_refl _
  un := fun _ _ _ => ⟨rfl, rfl, rfl⟩
  md0 := fun c hc h => by
    rcases h with h | h
    · simp at h
    · omega
  old := fun _ _ _ => rfl
  new := fun y hy h' => by have := h.bl_lt y hy; omega
  rel := fun x y _ _ => ⟨fun e => ⟨e, fun h => by simp at h⟩, fun h => h.1⟩
  Wn := h1
  Wr := h2
  Wl := Nat.le_refl _
  Wo := fun _ _ _ h => h
  Wd := fun x y c' _ _ _ h1 h2 => (h2 h1).elim
section
variable {N K i c : Nat} {s0 s : PS} {M : List Nat}
theorem SpI.here (h : SpI N K s0 M i s) (hc : c < s0.B) (hni : c ∉ M.take i) {y : Nat} (hy : y < N) : s.bl y = c ↔ s0.bl y = c := by
  constructor
  · intro e
    have := h.old y hy (by omega)
    omega
  · intro e
    rcases Nat.lt_or_ge (s.bl y) s0.B with h1 | h1
    · rw [h.old y hy h1, e]
    · exact absurd (e ▸ h.new y hy h1) hni
theorem SpI.mkd (h : SpI N K s0 M i s) (hc : c < s0.B) (hni : c ∉ M.take i) {y : Nat} (hy : y < N) (hb : s.bl y = c) : s.mkd y ↔ s0.mkd y := by
  have hb0 := (h.here hc hni hy).1 hb
  obtain ⟨h1, h2, h3⟩ := h.un c hc hni
  rw [PS.mkd, PS.mkd, hb, hb0, h.pos, h1, h3]
theorem mem_take_succ {α : Type} {M : List α} {i : Nat} {c x : α} (h : M[i]? = some c) : x ∈ M.take (i + 1) ↔ x ∈ M.take i ∨ x = c := by
  rw [List.take_add_one, h, List.mem_append]
  simp
theorem not_mem_take {α : Type} {M : List α} {i : Nat} {c : α} (hd : M.Nodup) (h : M[i]? = some c) : c ∉ M.take i := by
  intro hm
  obtain ⟨j, hj, he⟩ := List.getElem_of_mem hm
  simp only [List.length_take] at hj
  rw [List.getElem_take] at he
  obtain ⟨hi, rfl⟩ := List.getElem?_eq_some_iff.1 h
  exact List.pairwise_iff_getElem.1 hd j i (by omega) hi (by omega) he
/-- All of the block is marked. -/
theorem SpI.all (h : SpI N K s0 M i s) (h0 : PI N s0) (hd : M.Nodup) (hM : M[i]? = some c) (hc : c < s0.B) (he : s.md c = s.hi c - s.lo c) : SpI N K s0 M (i + 1) (s.part c) := by
  have hni := not_mem_take hd hM
  have hcs : c < s.B := by have := h.leB; omega
  have hpi := h.pi.part0 hcs he
  obtain ⟨u1, u2, u3⟩ := h.un c hc hni
  have hall : ∀ x, x < N → s0.bl x = c → s0.mkd x := fun x hx hb => by
    apply Classical.byContradiction
    intro hn
    exact (h0.notall hc).2 ⟨x, hx, hb, hn⟩ (by omega)
  have e : s.part c = { s with md := ups s.md c 0 } := by rw [PS.part, if_pos he]
  rw [e] at hpi ⊢
  refine ⟨hpi, h.st, h.pos, h.leB, fun d hd hn => ?_, fun d hd hn => ?_, h.old, fun y hy hb => (mem_take_succ hM).2 (.inl (h.new y hy hb)), fun x y hx hy => ?_, h.Wn, h.Wr, h.Wl, h.Wo, h.Wd⟩
  · rw [mem_take_succ hM, not_or] at hn
    obtain ⟨g1, g2, g3⟩ := h.un d hd hn.1
    exact ⟨g1, g2, by simp only [ups]; rw [if_neg hn.2]; exact g3⟩
  · simp only [ups]
    by_cases h1 : d = c
    · rw [if_pos h1]
    · rw [if_neg h1]
      refine h.md0 d hd (hn.imp_left fun hn => ?_)
      exact ((mem_take_succ hM).1 hn).resolve_right h1
  · rw [show ({ s with md := ups s.md c 0 } : PS).bl = s.bl from rfl, h.rel x y hx hy]
    refine and_congr_right fun hxy => ⟨fun h1 h2 => ?_, fun h1 h2 => h1 ((mem_take_succ hM).2 (.inl h2))⟩
    rcases (mem_take_succ hM).1 h2 with h3 | h3
    · exact h1 h3
    · exact ⟨fun _ => hall y hy (hxy ▸ h3), fun _ => hall x hx h3⟩
/-- The block is parted; both of its parts are asked for as they must be. -/
theorem SpI.some (h : SpI N K s0 M i s) (hd : M.Nodup) (hM : M[i]? = some c) (hc : c < s0.B) (hm : 0 < s0.md c) (hne : s.md c ≠ s.hi c - s.lo c) {W : List (Nat × Nat)}
    (hWn : W.Nodup) (hWs : ∀ q ∈ s.W, q ∈ W) (hWr : ∀ q ∈ W, q ∈ s.W ∨ ((q.1 = c ∨ q.1 = s.B) ∧ q.2 < K)) (hWl : W.length ≤ s.W.length + K) (hA : ∀ c', c' < K → ((c, c') ∈ s.W → (s.B, c') ∈ W) ∧ ((c, c') ∈ W ∨ (s.B, c') ∈ W)) :
    SpI N K s0 M (i + 1) { s.part c with W := W } := by
  have hni := not_mem_take hd hM
  have hleB := h.leB
  have hcs : c < s.B := by omega
  obtain ⟨u1, u2, u3⟩ := h.un c hc hni
  obtain ⟨hpi, hbl⟩ := h.pi.part hcs (by omega) hne
  have e : s.part c = { s with B := s.B + 1, lo := ups (ups s.lo s.B (s.lo c)) c (s.lo c + s.md c), hi := ups s.hi s.B (s.lo c + s.md c), md := ups (ups s.md s.B 0) c 0, bl := fun x => if s.lo c ≤ s.pos x ∧ s.pos x < s.lo c + s.md c then s.B else s.bl x } := by rw [PS.part, if_neg hne]
  have eB : (s.part c).B = s.B + 1 := by rw [e]
  have est : (s.part c).st = s.st := by rw [e]
  have epos : (s.part c).pos = s.pos := by rw [e]
  have elo : (s.part c).lo = ups (ups s.lo s.B (s.lo c)) c (s.lo c + s.md c) := by rw [e]
  have ehi : (s.part c).hi = ups s.hi s.B (s.lo c + s.md c) := by rw [e]
  have emd : (s.part c).md = ups (ups s.md s.B 0) c 0 := by rw [e]
  clear e
  -- a state's new block
  have hnb : ∀ y, y < N → (s0.bl y = c ∧ s0.mkd y → (s.part c).bl y = s.B) ∧ (¬ (s0.bl y = c ∧ s0.mkd y) → (s.part c).bl y = s.bl y) := fun y hy => by
    have hiff : (s.bl y = c ∧ s.mkd y) ↔ (s0.bl y = c ∧ s0.mkd y) := by
      constructor
      · rintro ⟨h1, h2⟩; exact ⟨(h.here hc hni hy).1 h1, (h.mkd hc hni hy h1).1 h2⟩
      · rintro ⟨h1, h2⟩
        have h3 := (h.here hc hni hy).2 h1
        exact ⟨h3, (h.mkd hc hni hy h3).2 h2⟩
    exact ⟨fun h1 => (hbl y hy).1 (hiff.2 h1), fun h1 => (hbl y hy).2 fun h2 => h1 (hiff.1 h2)⟩
  have hsB : ∀ y, y < N → s.bl y ≠ s.B := fun y hy e => by have := h.pi.bl_lt y hy; omega
  refine ⟨hpi.withW W, by rw [← h.st]; exact est, by rw [← h.pos]; exact epos, ?_, fun d hd hn => ?_, fun d hd hn => ?_, fun y hy hlt => ?_, fun y hy hge => ?_, fun x y hx hy => ?_, hWn, fun q hq => ?_, ?_, fun x c' hx hW => ?_, fun x y c' hx hy hc' he hn => ?_⟩
  · simp only [eB]; omega
  · rw [mem_take_succ hM, not_or] at hn
    obtain ⟨g1, g2, g3⟩ := h.un d hd hn.1
    simp only [elo, ehi, emd, ups]
    rw [if_neg hn.2, if_neg (by omega), if_neg (by omega), if_neg hn.2, if_neg (by omega)]
    exact ⟨g1, g2, g3⟩
  · simp only [emd, ups, eB] at hd ⊢
    by_cases h1 : d = c
    · rw [if_pos h1]
    · rw [if_neg h1]
      by_cases h2 : d = s.B
      · rw [if_pos h2]
      · rw [if_neg h2]
        refine h.md0 d (by omega) (hn.imp_left fun hn => ?_)
        exact ((mem_take_succ hM).1 hn).resolve_right h1
  · by_cases h1 : s0.bl y = c ∧ s0.mkd y
    · have h2 : (s.part c).bl y < s0.B := hlt
      rw [(hnb y hy).1 h1] at h2; omega
    · have h2 : (s.part c).bl y < s0.B := hlt
      show (s.part c).bl y = _
      rw [(hnb y hy).2 h1] at h2 ⊢
      exact h.old y hy h2
  · rw [mem_take_succ hM]
    by_cases h1 : s0.bl y = c ∧ s0.mkd y
    · exact .inr h1.1
    · have h2 : s0.B ≤ (s.part c).bl y := hge
      rw [(hnb y hy).2 h1] at h2
      exact .inl (h.new y hy h2)
  · show (s.part c).bl x = (s.part c).bl y ↔ _
    rw [mem_take_succ hM]
    by_cases h1 : s0.bl x = c ∧ s0.mkd x
    · rw [(hnb x hx).1 h1]
      by_cases h2 : s0.bl y = c ∧ s0.mkd y
      · rw [(hnb y hy).1 h2]
        exact ⟨fun _ => ⟨by rw [h1.1, h2.1], fun _ => ⟨fun _ => h2.2, fun _ => h1.2⟩⟩, fun _ => rfl⟩
      · rw [(hnb y hy).2 h2]
        refine ⟨fun e => (hsB y hy e.symm).elim, fun ⟨e1, e2⟩ => ?_⟩
        exact (h2 ⟨by rw [← e1, h1.1], (e2 (.inr h1.1)).1 h1.2⟩).elim
    · rw [(hnb x hx).2 h1]
      by_cases h2 : s0.bl y = c ∧ s0.mkd y
      · rw [(hnb y hy).1 h2]
        refine ⟨fun e => (hsB x hx e).elim, fun ⟨e1, e2⟩ => ?_⟩
        have h3 : s0.bl x = c := by rw [e1, h2.1]
        exact (h1 ⟨h3, (e2 (.inr h3)).2 h2.2⟩).elim
      · rw [(hnb y hy).2 h2, h.rel x y hx hy]
        refine and_congr_right fun hxy => ⟨fun h3 h4 => ?_, fun h3 h4 => h3 (.inl h4)⟩
        rcases h4 with h4 | h4
        · exact h3 h4
        · exact ⟨fun h5 => (h1 ⟨h4, h5⟩).elim, fun h5 => (h2 ⟨hxy ▸ h4, h5⟩).elim⟩
  · simp only [eB]
    rcases hWr q hq with h1 | ⟨h1, h2⟩
    · have := h.Wr q h1; omega
    · omega
  · simp only [eB]
    have := h.Wl
    rw [Nat.mul_add, Nat.mul_one]
    omega
  · have hW0 := h.Wo x c' hx hW
    show ((s.part c).bl x, c') ∈ W
    by_cases h1 : s0.bl x = c ∧ s0.mkd x
    · rw [(hnb x hx).1 h1]
      have h2 := (h.here hc hni hx).2 h1.1
      rw [h2] at hW0
      exact (hA c' (h.Wr _ hW0).2).1 hW0
    · rw [(hnb x hx).2 h1]
      exact hWs _ hW0
  · have hn : (s.part c).bl x ≠ (s.part c).bl y := hn
    show ((s.part c).bl x, c') ∈ W ∨ ((s.part c).bl y, c') ∈ W
    by_cases h1 : s0.bl x = c ∧ s0.mkd x
    · rw [(hnb x hx).1 h1] at hn ⊢
      by_cases h2 : s0.bl y = c ∧ s0.mkd y
      · rw [(hnb y hy).1 h2] at hn; exact (hn rfl).elim
      · rw [(hnb y hy).2 h2]
        have h3 : s.bl y = c := (h.here hc hni hy).2 (by rw [← he, h1.1])
        rw [h3]
        exact (hA c' hc').2.symm
    · rw [(hnb x hx).2 h1] at hn ⊢
      by_cases h2 : s0.bl y = c ∧ s0.mkd y
      · rw [(hnb y hy).1 h2]
        have h3 : s.bl x = c := (h.here hc hni hx).2 (by rw [he, h2.1])
        rw [h3]
        exact (hA c' hc').2
      · rw [(hnb y hy).2 h2] at hn ⊢
        exact (h.Wd x y c' hx hy hc' he hn).imp (hWs _) (hWs _)
end
/-- What a parting of all blocks by some states comes to. -/
structure ByR (N K : Nat) (S : Nat → Prop) (s s' : PS) : Prop where
  pi : PI N s'
  md0 : ∀ c, c < s'.B → s'.md c = 0
  leB : s.B ≤ s'.B
  rel : ∀ x y, x < N → y < N → (s'.bl x = s'.bl y ↔ s.bl x = s.bl y ∧ (S x ↔ S y))
  Wn : s'.W.Nodup
  Wr : ∀ q ∈ s'.W, q.1 < s'.B ∧ q.2 < K
  Wl : s'.W.length + K * s.B ≤ s.W.length + K * s'.B
  Wo : ∀ x c', x < N → (s.bl x, c') ∈ s.W → (s'.bl x, c') ∈ s'.W
  Wd : ∀ x y c', x < N → y < N → c' < K → s.bl x = s.bl y → s'.bl x ≠ s'.bl y → (s'.bl x, c') ∈ s'.W ∨ (s'.bl y, c') ∈ s'.W
theorem SpI.by {N K : Nat} {S : Nat → Prop} {s s0 s' : PS} {M : List Nat} (h : SpI N K s0 M M.length s') (hb : s0.bl = s.bl) (hB : s0.B = s.B) (hW : s0.W = s.W) (hS : ∀ y, y < N → (s0.mkd y ↔ S y)) (hM : ∀ c, c ∈ M ↔ c < s0.B ∧ 0 < s0.md c) (h0 : PI N s0) : ByR N K S s s' := by
  have ht : M.take M.length = M := List.take_length
  refine ⟨h.pi, fun c hc => ?_, by have := h.leB; omega, fun x y hx hy => ?_, h.Wn, h.Wr, by rw [← hB, ← hW]; exact h.Wl, by rw [← hb, ← hW]; exact h.Wo, by rw [← hb]; exact h.Wd⟩
  · by_cases h1 : c < s0.B
    · by_cases h2 : c ∈ M
      · exact h.md0 c hc (.inl (by rw [ht]; exact h2))
      · have h3 := (h.un c h1 (by rw [ht]; exact h2)).2.2
        rw [h3]
        have := mt (hM c).2 h2
        omega
    · exact h.md0 c hc (.inr (by omega))
  · rw [h.rel x y hx hy, ht, hb, ← hS x hx, ← hS y hy]
    refine and_congr_right fun hxy => ⟨fun h1 => ?_, fun h1 _ => h1⟩
    by_cases h2 : s.bl x ∈ M
    · exact h1 h2
    · have hz : ∀ z, z < N → s.bl z = s.bl x → ¬ s0.mkd z := fun z hz e hm => by
        have h3 := h0.mkd_pos hz hm
        have h4 := h0.bl_lt z hz
        rw [hb] at h3 h4
        rw [e] at h3 h4
        exact h2 ((hM _).2 ⟨h4, h3⟩)
      exact ⟨fun h3 => (hz x hx rfl h3).elim, fun h3 => (hz y hy hxy.symm h3).elim⟩
end Go.Sh
