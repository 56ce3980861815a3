/- Plain: what marking and parting do to blocks of states. No condition. -/
import Derived.Test.YthepabefikobpaaC10
namespace Go.Sh
open Go Go.Sp
/-- A nodup list of numbers below m has at most m of them. -/
theorem nodup_le : ∀ (m : Nat) (l : List Nat), l.Nodup → (∀ x ∈ l, x < m) → l.length ≤ m
  | 0, l, _, hb => by
    cases l with
    | nil => exact Nat.le_refl _
    | cons x l => exact absurd (hb x List.mem_cons_self) (by omega)
  | m + 1, l, hd, hb => by
    by_cases hm : m ∈ l
    · have := nodup_le m (l.erase m) (hd.erase m) fun x hx => by
        have h1 := hb x (List.mem_of_mem_erase hx)
        have h2 := (hd.mem_erase_iff.1 hx).1
        omega
      rw [List.length_erase_of_mem hm] at this
      omega
    · have := nodup_le m l hd fun x hx => by
        have h1 := hb x hx
        have h2 : x ≠ m := fun e => hm (e ▸ hx)
        omega
      omega
theorem inj_le {B N : Nat} (f : Nat → Nat) (hf : ∀ i, i < B → f i < N) (hi : ∀ i j, i < B → j < B → f i = f j → i = j) : B ≤ N := by
  have h1 : ((List.range B).map f).Nodup := by
    rw [List.Nodup, List.pairwise_map]
    refine List.Pairwise.imp_of_mem (fun {a b} ha hb hlt e => ?_) List.pairwise_lt_range
    have := hi a b (List.mem_range.1 ha) (List.mem_range.1 hb) e
    omega
  have := nodup_le N _ h1 fun x hx => by
    rw [List.mem_map] at hx
    obtain ⟨i, hi, rfl⟩ := hx
    exact hf i (List.mem_range.1 hi)
  simpa using this
/-- States stand block by block. -/
structure PI (N : Nat) (s : PS) : Prop where
  st_lt : ∀ i, i < N → s.st i < N
  pos_lt : ∀ x, x < N → s.pos x < N
  st_pos : ∀ x, x < N → s.st (s.pos x) = x
  pos_st : ∀ i, i < N → s.pos (s.st i) = i
  bl_lt : ∀ x, x < N → s.bl x < s.B
  rng : ∀ c, c < s.B → s.lo c < s.hi c ∧ s.hi c ≤ N
  md_le : ∀ c, c < s.B → s.lo c + s.md c ≤ s.hi c
  inb : ∀ x, x < N → s.lo (s.bl x) ≤ s.pos x ∧ s.pos x < s.hi (s.bl x)
  blk : ∀ c i, c < s.B → s.lo c ≤ i → i < s.hi c → s.bl (s.st i) = c
theorem PI.le {N : Nat} {s : PS} (h : PI N s) : s.B ≤ N := inj_le s.lo (fun i hi => by have := h.rng i hi; omega) fun i j hi hj e => by
  have h1 := h.blk i (s.lo i) hi (Nat.le_refl _) (h.rng i hi).1
  have h2 := h.blk j (s.lo j) hj (Nat.le_refl _) (h.rng j hj).1
  rw [← h1, e, h2]
def PS.mkd (s : PS) (x : Nat) : Prop := s.pos x < s.lo (s.bl x) + s.md (s.bl x)
theorem PI.mkd_ex {N : Nat} {s : PS} (h : PI N s) {c : Nat} (hc : c < s.B) (hm : 0 < s.md c) : ∃ x, x < N ∧ s.bl x = c ∧ s.mkd x := by
  have h1 := h.rng c hc
  have hb := h.blk c (s.lo c) hc (Nat.le_refl _) h1.1
  refine ⟨s.st (s.lo c), h.st_lt _ (by omega), hb, ?_⟩
  rw [PS.mkd, hb, h.pos_st _ (by omega)]
  omega
theorem PI.mkd_pos {N : Nat} {s : PS} (h : PI N s) {x : Nat} (hx : x < N) (hm : s.mkd x) : 0 < s.md (s.bl x) := by
  have h1 := (h.inb x hx).1
  rw [PS.mkd] at hm
  omega
theorem PI.notall {N : Nat} {s : PS} (h : PI N s) {c : Nat} (hc : c < s.B) : s.md c ≠ s.hi c - s.lo c ↔ ∃ x, x < N ∧ s.bl x = c ∧ ¬ s.mkd x := by
  have h1 := h.rng c hc
  have h2 := h.md_le c hc
  constructor
  · intro hne
    have hb := h.blk c (s.lo c + s.md c) hc (by omega) (by omega)
    refine ⟨s.st (s.lo c + s.md c), h.st_lt _ (by omega), hb, ?_⟩
    rw [PS.mkd, hb, h.pos_st _ (by omega)]
    omega
  · rintro ⟨x, hx, rfl, hm⟩ he
    have := h.inb x hx
    rw [PS.mkd] at hm
    omega
theorem mark_same (s : PS) (x : Nat) : (s.mark x).bl = s.bl ∧ (s.mark x).B = s.B ∧ (s.mark x).lo = s.lo ∧ (s.mark x).hi = s.hi ∧ (s.mark x).W = s.W := by
  unfold PS.mark
  split <;> exact ⟨rfl, rfl, rfl, rfl, rfl⟩
theorem PI.mark {N : Nat} {s : PS} (h : PI N s) {x : Nat} (hx : x < N) :
    PI N (s.mark x) ∧ (∀ y, y < N → ((s.mark x).mkd y ↔ s.mkd y ∨ y = x)) ∧ (s.mkd x → s.mark x = s) ∧ (¬ s.mkd x → (s.mark x).md = ups s.md (s.bl x) (s.md (s.bl x) + 1)) := by
  by_cases hm : s.mkd x
  · have hm1 := hm
    rw [PS.mkd] at hm1
    have e : s.mark x = s := by rw [PS.mark, if_pos hm1]
    rw [e]
    refine ⟨h, fun y hy => ⟨.inl, ?_⟩, fun _ => rfl, fun h => (h hm).elim⟩
    rintro (h1 | rfl)
    · exact h1
    · exact hm
  have hm' := hm
  rw [PS.mkd] at hm
  obtain ⟨pl, hpl⟩ : ∃ pl, pl = s.lo (s.bl x) + s.md (s.bl x) := ⟨_, rfl⟩
  obtain ⟨t, ht⟩ : ∃ t, t = s.st pl := ⟨_, rfl⟩
  have e : s.mark x = { s with st := ups (ups s.st pl x) (s.pos x) t, pos := ups (ups s.pos t (s.pos x)) x pl, md := ups s.md (s.bl x) (s.md (s.bl x) + 1) } := by
    rw [PS.mark, if_neg hm, ht, hpl]
  rw [← hpl] at hm
  have hc := h.bl_lt x hx
  have hin := h.inb x hx
  have hr := h.rng _ hc
  have hpl1 : s.lo (s.bl x) ≤ pl := by omega
  have hpl2 : pl < s.hi (s.bl x) := by omega
  have htb : s.bl t = s.bl x := by rw [ht]; exact h.blk _ pl hc hpl1 hpl2
  have htN : t < N := by rw [ht]; exact h.st_lt _ (by omega)
  have htp : s.pos t = pl := by rw [ht]; exact h.pos_st _ (by omega)
  have hxp := h.st_pos x hx
  have hxt : pl = s.pos x → t = x := fun e => by rw [ht, e, hxp]
  have htx : t = x → pl = s.pos x := fun e => by rw [← htp, e]
  have hst : ∀ i, ups (ups s.st pl x) (s.pos x) t i = if i = s.pos x then t else if i = pl then x else s.st i := fun i => rfl
  have hpos : ∀ y, ups (ups s.pos t (s.pos x)) x pl y = if y = x then pl else if y = t then s.pos x else s.pos y := fun y => rfl
  rw [e]
  refine ⟨⟨fun i hi => ?_, fun y hy => ?_, fun y hy => ?_, fun i hi => ?_, h.bl_lt, h.rng, fun c hcB => ?_, fun y hy => ?_, fun c i hcB h1 h2 => ?_⟩, fun y hy => ?_, fun h => (hm' h).elim, fun _ => rfl⟩
  · simp only [hst]
    split
    · exact htN
    · split
      · exact hx
      · exact h.st_lt i hi
  · simp only [hpos]
    split
    · omega
    · split
      · exact h.pos_lt x hx
      · exact h.pos_lt y hy
  · simp only [hpos]
    by_cases h1 : y = x
    · rw [if_pos h1, hst]
      by_cases h2 : pl = s.pos x
      · rw [if_pos h2, hxt h2, h1]
      · rw [if_neg h2, if_pos rfl, h1]
    · rw [if_neg h1]
      by_cases h2 : y = t
      · rw [if_pos h2, hst, if_pos rfl, h2]
      · rw [if_neg h2, hst]
        have h3 : s.pos y ≠ s.pos x := fun e => h1 (by rw [← h.st_pos y hy, e, hxp])
        have h4 : s.pos y ≠ pl := fun e => h2 (by rw [← h.st_pos y hy, e, ht])
        rw [if_neg h3, if_neg h4, h.st_pos y hy]
  · simp only [hst]
    by_cases h1 : i = s.pos x
    · rw [if_pos h1, hpos]
      by_cases h2 : t = x
      · rw [if_pos h2, h1, htx h2]
      · rw [if_neg h2, if_pos rfl, h1]
    · rw [if_neg h1]
      by_cases h2 : i = pl
      · rw [if_pos h2, hpos, if_pos rfl, h2]
      · rw [if_neg h2, hpos]
        have h3 : s.st i ≠ x := fun e => h1 (by rw [← h.pos_st i hi, e])
        have h4 : s.st i ≠ t := fun e => h2 (by rw [← h.pos_st i hi, e, htp])
        rw [if_neg h3, if_neg h4, h.pos_st i hi]
  · simp only [ups]
    by_cases h1 : c = s.bl x
    · rw [if_pos h1, h1]; omega
    · rw [if_neg h1]; exact h.md_le c hcB
  · simp only [hpos]
    by_cases h1 : y = x
    · rw [if_pos h1, h1]; omega
    · rw [if_neg h1]
      by_cases h2 : y = t
      · rw [if_pos h2, h2, htb]; exact hin
      · rw [if_neg h2]; exact h.inb y hy
  · have h3 := h.blk c i hcB h1 h2
    simp only [hst]
    by_cases h4 : i = s.pos x
    · rw [if_pos h4, htb, ← h3, h4, hxp]
    · rw [if_neg h4]
      by_cases h5 : i = pl
      · rw [if_pos h5, ← h3, h5, ← ht, htb]
      · rw [if_neg h5]; exact h3
  · simp only [PS.mkd, hpos, ups]
    by_cases h1 : y = x
    · subst h1
      simp only [if_true, or_true, iff_true]
      omega
    · rw [if_neg h1]
      simp only [h1, or_false]
      by_cases h2 : y = t
      · have h3 : pl ≠ s.pos x := fun e => h1 (h2.trans (hxt e))
        rw [if_pos h2, h2, htb, if_pos rfl, htp]
        omega
      · rw [if_neg h2]
        by_cases h3 : s.bl y = s.bl x
        · have h4 : s.pos y ≠ pl := fun e => h2 (by rw [← h.st_pos y hy, e, ht])
          rw [if_pos h3, h3]
          omega
        · rw [if_neg h3]
theorem PI.part {N : Nat} {s : PS} (h : PI N s) {c : Nat} (hc : c < s.B) (hm : 0 < s.md c) (hne : s.md c ≠ s.hi c - s.lo c) :
    PI N (s.part c) ∧ (∀ y, y < N → ((s.bl y = c ∧ s.mkd y) → (s.part c).bl y = s.B) ∧ (¬ (s.bl y = c ∧ s.mkd y) → (s.part c).bl y = s.bl y)) := by
  have hr := h.rng c hc
  have hmd := h.md_le c hc
  have e : s.part c = { s with B := s.B + 1, lo := ups (ups s.lo s.B (s.lo c)) c (s.lo c + s.md c), hi := ups s.hi s.B (s.lo c + s.md c), md := ups (ups s.md s.B 0) c 0, bl := fun x => if s.lo c ≤ s.pos x ∧ s.pos x < s.lo c + s.md c then s.B else s.bl x } := by rw [PS.part, if_neg hne]
  have key : ∀ y, y < N → ((s.lo c ≤ s.pos y ∧ s.pos y < s.lo c + s.md c) ↔ (s.bl y = c ∧ s.mkd y)) := fun y hy => by
    constructor
    · rintro ⟨h1, h2⟩
      have h3 := h.blk c (s.pos y) hc h1 (by omega)
      rw [h.st_pos y hy] at h3
      exact ⟨h3, by rw [PS.mkd, h3]; exact h2⟩
    · rintro ⟨rfl, h2⟩
      exact ⟨(h.inb y hy).1, h2⟩
  have hcB : c ≠ s.B := by omega
  have elo : ∀ d, ups (ups s.lo s.B (s.lo c)) c (s.lo c + s.md c) d = if d = c then s.lo c + s.md c else if d = s.B then s.lo c else s.lo d := fun _ => rfl
  have ehi : ∀ d, ups s.hi s.B (s.lo c + s.md c) d = if d = s.B then s.lo c + s.md c else s.hi d := fun _ => rfl
  have emd : ∀ d, ups (ups s.md s.B 0) c 0 d = if d = c then 0 else if d = s.B then 0 else s.md d := fun _ => rfl
  rw [e]
  refine ⟨⟨h.st_lt, h.pos_lt, h.st_pos, h.pos_st, fun y hy => ?_, fun d hd => ?_, fun d hd => ?_, fun y hy => ?_, fun d i hd h1 h2 => ?_⟩, fun y hy => ⟨fun h1 => ?_, fun h1 => ?_⟩⟩
  · simp only
    split
    · omega
    · have := h.bl_lt y hy; omega
  · simp only [elo, ehi] at hd ⊢
    by_cases h1 : d = c
    · rw [if_pos h1, if_neg (by omega), h1]; omega
    · rw [if_neg h1]
      by_cases h2 : d = s.B
      · rw [if_pos h2, if_pos h2]; omega
      · rw [if_neg h2, if_neg h2]; exact h.rng d (by omega)
  · simp only [elo, ehi, emd] at hd ⊢
    by_cases h1 : d = c
    · rw [if_pos h1, if_pos h1, if_neg (by omega), h1]; omega
    · rw [if_neg h1, if_neg h1]
      by_cases h2 : d = s.B
      · rw [if_pos h2, if_pos h2, if_pos h2]; omega
      · rw [if_neg h2, if_neg h2, if_neg h2]; exact h.md_le d (by omega)
  · simp only [elo, ehi]
    have h1 := h.inb y hy
    by_cases h2 : s.lo c ≤ s.pos y ∧ s.pos y < s.lo c + s.md c
    · rw [if_pos h2, if_neg (by omega), if_pos rfl, if_pos rfl]; omega
    · rw [if_neg h2]
      have h3 := h.bl_lt y hy
      by_cases h4 : s.bl y = c
      · rw [if_pos h4, if_neg (by omega)]
        rw [h4] at h1 ⊢
        omega
      · rw [if_neg h4, if_neg (by omega), if_neg (by omega)]; exact h1
  · simp only [elo, ehi] at hd h1 h2 ⊢
    have hiN : i < N := by
      by_cases h3 : d = s.B
      · rw [if_pos h3] at h2; omega
      · rw [if_neg h3] at h2; have := (h.rng d (by omega)).2; omega
    rw [h.pos_st i hiN]
    by_cases h3 : d = c
    · rw [if_pos h3] at h1
      rw [if_neg (by omega)] at h2
      rw [if_neg (by omega)]
      subst h3
      exact h.blk d i hc (by omega) h2
    · rw [if_neg h3] at h1
      by_cases h4 : d = s.B
      · rw [if_pos h4] at h1 h2
        rw [if_pos (by omega), h4]
      · rw [if_neg h4] at h1 h2
        have h5 := h.blk d i (by omega) h1 h2
        rw [if_neg (fun h6 => h3 ?_), h5]
        rw [← h5, h.blk c i hc h6.1 (by omega)]
  · simp only; rw [if_pos ((key y hy).2 h1)]
  · simp only; rw [if_neg (fun h2 => h1 ((key y hy).1 h2))]
theorem PI.part0 {N : Nat} {s : PS} (h : PI N s) {c : Nat} (hc : c < s.B) (he : s.md c = s.hi c - s.lo c) : PI N (s.part c) := by
  have e : s.part c = { s with md := ups s.md c 0 } := by rw [PS.part, if_pos he]
  rw [e]
  refine ⟨h.st_lt, h.pos_lt, h.st_pos, h.pos_st, h.bl_lt, h.rng, fun d hd => ?_, h.inb, h.blk⟩
  simp only [ups]
  by_cases h1 : d = c
  · rw [if_pos h1, h1]; have := h.rng c hc; omega
  · rw [if_neg h1]; exact h.md_le d hd
end Go.Sh
