/- Contracts: whether blocks are stable; the machine of blocks. Conditions: as each states. -/
import Derived.Test.YthepabefikobpaaC6
namespace Go.Proofs.Ythepabefikobpaa
open Go Go.Sh Go.Sp
namespace Mx
/-- The first state that is in a state's block. -/
def hd (l : List Int) (s : Nat) : Nat := l.idxOf (l.getD s 0)
/-- Can states be put together so? -/
def stabB (m : Mc) (l : List Int) : Bool :=
  (List.range (n m)).all fun s => decide (lab m s = lab m (hd l s)) && (List.range (k m)).all fun c => decide (l.getD (nx m s c) 0 = l.getD (nx m (hd l s) c) 0)
theorem hd_lt {l : List Int} {s : Nat} (h : s < l.length) : hd l s < l.length := by
  rw [hd, List.getD_eq_getElem?_getD, List.getElem?_eq_getElem h]
  exact List.idxOf_lt_length_of_mem (List.getElem_mem h)
theorem hd_get {l : List Int} {s : Nat} (h : s < l.length) : l.getD (hd l s) 0 = l.getD s 0 := by
  have h2 := hd_lt h
  have e : l.getD s 0 = l[s] := by rw [List.getD_eq_getElem?_getD, List.getElem?_eq_getElem h]; rfl
  rw [List.getD_eq_getElem?_getD, List.getElem?_eq_getElem h2, Option.getD_some]
  simp only [hd]
  exact List.getElem_idxOf _
theorem idxOf_map {α β : Type} [DecidableEq α] [DecidableEq β] (g : α → β) (y : α) : ∀ (l : List α), (∀ x ∈ l, g x = g y → x = y) → (l.map g).idxOf (g y) = l.idxOf y
  | [], _ => rfl
  | x :: l, h => by
    rw [List.map_cons, List.idxOf_cons, List.idxOf_cons]
    by_cases hx : x = y
    · subst hx; simp
    · have h1 : (x == y) = false := by simpa using hx
      have h2 : (g x == g y) = false := by
        rw [beq_eq_false_iff_ne]
        exact fun e => hx (h x (List.mem_cons_self ..) e)
      rw [h1, h2, idxOf_map g y l fun z hz => h z (List.mem_cons_of_mem _ hz)]
theorem numI_map {α : Type} [DecidableEq α] (l : List α) : numI l = l.map fun x => ((fo l).idxOf x : Int) := by
  simp [numI, num, List.map_map, Function.comp_def]
theorem numI_inj {α : Type} [DecidableEq α] (l : List α) {x y : α} (hx : x ∈ l) (h : ((fo l).idxOf x : Int) = ((fo l).idxOf y : Int)) : x = y := by
  have h1 := List.getElem_idxOf (List.idxOf_lt_length_of_mem ((mem_fo l x).2 hx))
  by_cases hy : y ∈ l
  · have h2 := List.getElem_idxOf (List.idxOf_lt_length_of_mem ((mem_fo l y).2 hy))
    rw [← h1, ← h2]
    have : (fo l).idxOf x = (fo l).idxOf y := by omega
    simp only [this]
  · have h3 := List.idxOf_lt_length_of_mem ((mem_fo l x).2 hx)
    have h4 : (fo l).idxOf y = (fo l).length := by
      exact List.idxOf_eq_length (fun e => hy ((mem_fo l y).1 e))
    omega
theorem hd_num {l : List Int} {s : Nat} (h : s < l.length) : hd (numI l) s = l.idxOf l[s] := by
  have e : (numI l).getD s 0 = ((fo l).idxOf l[s] : Int) := by
    rw [List.getD_eq_getElem?_getD, numI_map, List.getElem?_map, List.getElem?_eq_getElem h]; rfl
  rw [hd, e]
  conv => lhs; rw [numI_map]
  exact idxOf_map (fun x => ((fo l).idxOf x : Int)) l[s] l fun x hx he => numI_inj l hx he
theorem hd_raw {l : List Int} {s : Nat} (h : s < l.length) : hd l s = l.idxOf l[s] := by
  rw [hd, List.getD_eq_getElem?_getD, List.getElem?_eq_getElem h]; rfl
theorem Ok.rowEq {m : Mc} (h : Ok m) {s : Nat} (hs : s < n m) : m.next.getD s [] = (List.range (Mx.k m)).map fun c => ((Mx.nx m s c : Nat) : Int) := by
  apply List.ext_getElem?
  intro c
  by_cases hc : c < Mx.k m
  · rw [(h.nx s c hs hc).2]; simp [hc]
  · rw [List.getElem?_eq_none (by rw [h.row s hs]; omega), List.getElem?_eq_none (by simp; omega)]
theorem eqf_row {R : Int → Int → Bool} {f g : Nat → Int} (j : Nat) : C.eqfB R ((List.range j).map f) ((List.range j).map g) = (List.range j).all fun c => R (f c) (g c) := by
  rw [C.eqfB, List.zip_map, List.all_map]
  simp [Function.comp_def]
  rw [Bool.eq_iff_iff, List.all_eq_true, List.all_eq_true]
  constructor
  · intro h c hc
    exact h (c, c) (by
      rw [List.mem_iff_getElem?]
      exact ⟨c, by rw [List.getElem?_zip_eq_some]; simp [List.mem_range.1 hc]⟩)
  · intro h p hp
    rw [List.mem_iff_getElem?] at hp
    obtain ⟨c, hc⟩ := hp
    rw [List.getElem?_zip_eq_some] at hc
    have hlt : c < j := by
      have := (List.getElem?_eq_some_iff.1 hc.1).1
      simpa using this
    rw [List.getElem?_range hlt] at hc
    have h1 : p.1 = c := (Option.some.inj hc.1).symm
    have h2 : p.2 = c := (Option.some.inj hc.2).symm
    rw [h1, h2]
    exact h c (List.mem_range.2 hlt)
end Mx
namespace C
theorem hds_numI {α : Type} [DecidableEq α] (l : List α) : hds (numI l) = (fo l).map fun x => (l.idxOf x : Int) := by
  refine list_snoc_ind (p := fun l : List α => hds (numI l) = (fo l).map fun x => (l.idxOf x : Int)) (by simp [numI, num, fo, hds]) (fun l x ih => ?_) l
  have hmap : ∀ y ∈ fo l, (((l ++ [x]).idxOf y : Nat) : Int) = (l.idxOf y : Int) := fun y hy => by
    rw [List.idxOf_append, if_pos ((mem_fo l y).1 hy)]
  rw [numI_snoc, hds_snoc, ih, List.length_map, numI_length, fo_snoc]
  by_cases hx : x ∈ fo l
  · rw [if_pos hx]
    have := List.idxOf_lt_length_of_mem hx
    rw [if_neg (by omega)]
    exact (List.map_congr_left hmap).symm
  · rw [if_neg hx, List.idxOf_append, if_neg hx, List.idxOf_cons_self, if_pos (by omega), List.map_append, List.map_congr_left hmap]
    have : (l ++ [x]).idxOf x = l.length := by
      rw [List.idxOf_append, if_neg (fun h => hx ((mem_fo l x).2 h)), List.idxOf_cons_self]; omega
    simp [this]
/-- The head of a state's block, by the block's number. -/
theorem hds_at {α : Type} [DecidableEq α] {l : List α} {s : Nat} (h : s < l.length) : ∃ b : Nat, (numI l)[s]? = some (b : Int) ∧ b < (fo l).length ∧ (hds (numI l))[b]? = some ((l.idxOf l[s] : Nat) : Int) := by
  have hm : l[s] ∈ fo l := (mem_fo l _).2 (List.getElem_mem h)
  refine ⟨(fo l).idxOf l[s], by simp [numI, num, h], List.idxOf_lt_length_of_mem hm, ?_⟩
  rw [hds_numI, List.getElem?_map, List.getElem?_eq_getElem (List.idxOf_lt_length_of_mem hm), List.getElem_idxOf]
  rfl
theorem stable_c1 {w : World} {b : Nat} {s : Sl} {l : List Int} {x y : Int} (hb : Blk w b 24 [s.val]) (h : Rd 1 (fun _ => True) w s (l.map vI)) (hx : 0 ≤ x ∧ x < l.length) (hy : 0 ≤ y ∧ y < l.length) :
    Calls Try.prog 73 [vI x, vI y, vA ⟨b, 0, none⟩].toArray w (Ret Value.bool fun r w' => r = decide (l.getD x.toNat 0 = l.getD y.toNat 0) ∧ Grow w w') := by
  apply L.quotient_stable_c1
  unfold S.quotient_stable_c1
  refine M.drew_of fun w1 _ hg => M.ld0 (hb.chg hg fun x => x) rfl (M.rd (h.chg hg fun _ _ x => x) hx.1 (getD_some (z := 0) (by omega)) (M.ld0 (hb.chg hg fun x => x) rfl (M.rd (h.chg hg fun _ _ x => x) hy.1 (getD_some (z := 0) (by omega)) ⟨rfl, hg⟩)))
theorem quotient_stable {F : Nat → Prop} {w : World} {d : Dfv} {m : Mc} {s : Sl} {l : List Int} (h : DfaAt w d m) (ho : Mx.Ok m) (hs : Rd 1 F w s ((numI l).map vI)) (hl : l.length = Mx.n m) :
    Calls Try.prog 46 [.agg (Dfv.cs d).toArray, s.val].toArray w (Ret Value.bool fun r w' => r = Mx.stabB m (numI l) ∧ Grow w w') := by
  apply L.quotient_stable
  unfold S.quotient_stable
  have hs := hs.mono (S' := fun _ => True) fun _ _ => trivial
  have hnl := h.next.len
  have hn2 := ho.n2
  have hnn := ho.next
  have hnl2 := numI_length l
  refine M.new_of fun b1 w1 hb1 hblk1 hg1 hs1 => M.new_of fun b2 w2 hb2 hblk2 hg2 hs2 => M.ld0 hblk2 rfl ?_
  have hG := hg1.trans hg2
  refine M.call_of (quotient_heads (hs.chg hG fun _ _ x => x) (by omega)) ?_
  rintro r w3 ⟨hr, hg3⟩
  have hG3 := hG.trans hg3
  have hB1 := (hblk1.chg hg2 fun x => x).chg hg3 fun x => x
  have hB2 := hblk2.chg hg3 fun x => x
  have hr := hr.rd (S := fun _ => True) fun _ _ => trivial
  refine M.ldB 257 hB1 (Dfv_257 d) ?_
  refine M.loop_at (fun q w' => Grow w w' ∧ Grow w3 w' ∧ ∃ i : Nat, q = i ∧ i ≤ Mx.n m ∧ ∀ s, s < i → Mx.lab m s = Mx.lab m (Mx.hd (numI l) s) ∧ ∀ c, c < Mx.k m → (numI l).getD (Mx.nx m s c) 0 = (numI l).getD (Mx.nx m (Mx.hd (numI l) s) c) 0) (fun q _ => (Mx.n m - q).toNat)
    ⟨hG3, Chg.refl _ _, 0, rfl, by omega, fun s hs => by omega⟩ ?_
  rintro _ w4 ⟨hg4, hg34, i, rfl, hi, hall⟩
  refine M.if_ (fun hlt => ?_) (fun hge => ⟨?_, hg4⟩)
  · have hlt : i < Mx.n m := by omega
    have hil : i < l.length := by omega
    obtain ⟨b, hb1', hb2', hb3'⟩ := hds_at hil
    have hlab : m.label.length = Mx.n m := rfl
    have hhd : l.idxOf l[i] = Mx.hd (numI l) i := (Mx.hd_num hil).symm
    rw [hhd] at hb3'
    have ht : Mx.hd (numI l) i < Mx.n m := by have := Mx.hd_lt (l := numI l) (s := i) (by omega); omega
    have hno : ∀ w', Grow w w' → ¬ (Mx.lab m i = Mx.lab m (Mx.hd (numI l) i) ∧ ∀ c, c < Mx.k m → (numI l).getD (Mx.nx m i c) 0 = (numI l).getD (Mx.nx m (Mx.hd (numI l) i) c) 0) → false = Mx.stabB m (numI l) ∧ Grow w w' := by
      intro w' hg hb
      refine ⟨?_, hg⟩
      symm
      rw [Bool.eq_false_iff]
      intro ht
      simp only [Mx.stabB, List.all_eq_true, List.mem_range, Bool.and_eq_true, decide_eq_true_eq] at ht
      exact hb (ht i hlt)
    generalize hte : Mx.hd (numI l) i = t at hb3' ht hno
    refine M.rdrd h.next hg4 (by omega) (toNat_some (z := []) (by omega)) fun t1 ht1 => ?_
    refine M.ld0 (hB2.chg hg34 fun x => x) rfl (M.rd (hs.chg hg4 fun _ _ x => x) (by omega) (x := (b : Int)) (by rw [Int.toNat_natCast]; exact hb1') (M.rd (hr.chg hg34 fun _ _ x => x) (by omega) (x := (t : Int)) (by rw [Int.toNat_natCast]; exact hb3') ?_))
    refine M.join_at (fun q w' => Grow w w' ∧ Grow w3 w' ∧ q = !(decide (Mx.lab m i = Mx.lab m t) && (List.range (Mx.k m)).all fun c => decide ((numI l).getD (Mx.nx m i c) 0 = (numI l).getD (Mx.nx m t c) 0))) ?_ ?_
    · refine M.drew_of fun w5 _ hg5 => ?_
      have hg45 := hg4.trans hg5
      have hg35 := hg34.trans hg5
      have hB15 := hB1.chg hg35 fun x => x
      have hlr := h.label.chg hg45 fun _ _ x => x
      have hgi : m.label[(i : Int).toNat]? = some (Mx.lab m i) := toNat_some (by omega)
      have hgt : m.label[(t : Int).toNat]? = some (Mx.lab m t) := toNat_some (by omega)
      refine M.ldB 258 hB15 (Dfv_258 d) (M.ix_at hlr (by omega) (by have := hlr.len; simp at this; omega) fun a17 _ hc17 => ?_)
      have hc17 := hc17 0 (vI (Mx.lab m i)) (by simpa using hgi) (by omega)
      simp only [Addr.add, if_true] at hc17
      refine ⟨_, hc17, M.ldB 258 hB15 (Dfv_258 d) (M.ix_at hlr (by omega) (by have := hlr.len; simp at this; omega) fun a20 _ hc20 => ?_)⟩
      have hc20 := hc20 0 (vI (Mx.lab m t)) (by simpa using hgt) (by omega)
      simp only [Addr.add, if_true] at hc20
      refine ⟨_, hc20, M.ifn (fun he => ?_) (fun hne => ⟨hg45, hg35, ?_⟩)⟩
      · rw [decide_eq_true he, Bool.true_and]
        refine M.ldB 257 hB15 (Dfv_257 d) (M.rdrd h.next hg45 (by omega) (toNat_some (z := []) (by omega)) fun t2 ht2 => ?_)
        refine M.call_of (EqualFunc_int (w0 := w5) (D := fun x => 0 ≤ x ∧ x < l.length) (R := fun x y => decide ((numI l).getD x.toNat 0 = (numI l).getD y.toNat 0)) (ht1.chg hg45 fun _ _ x => x) (ht2.chg hg45 fun _ _ x => x) (by rw [ho.row i hlt]; have := ho.k2; simp only [Big]; omega) ?_ (Chg.refl _ _) ?_ ?_) ?_
        · intro w6 x y hg6 hx hy
          refine inv_of (cs := [vA ⟨b2, 0, none⟩]) (args := [vI x, vI y]) Try.call73 (stable_c1 ((hB2.chg hg35 fun x => x).chg hg6 fun x => x) ((hs.chg hg45 fun _ _ x => x).chg hg6 fun _ _ x => x) (by rw [numI_length]; exact hx) (by rw [numI_length]; exact hy)) ?_
          rintro r w7 ⟨rfl, hg7⟩
          exact ⟨_, rfl, rfl, hg7⟩
        · intro x hx
          rw [ho.rowEq hlt, List.mem_map] at hx
          obtain ⟨c, hc, rfl⟩ := hx
          have := (ho.nx i c hlt (List.mem_range.1 hc)).1
          omega
        · intro x hx
          rw [ho.rowEq ht, List.mem_map] at hx
          obtain ⟨c, hc, rfl⟩ := hx
          have := (ho.nx t c ht (List.mem_range.1 hc)).1
          omega
        · rintro r w6 ⟨rfl, hg6⟩
          have cell : ∀ {a : Addr} {v : Value}, w5.cell? a = some v → w6.cell? a = some v := by
            intro a v hc
            rw [cell_block (hg6.heap _ (World.block_lt_of_cell? _ _ hc) fun x => x)]
            exact hc
          have hB16 := hB15.chg hg6 fun x => x
          refine ⟨hB16.cell (Dfv_257 d), cell hc20, hB16.cell (Dfv_258 d), cell hc17, hB16.cell (Dfv_258 d), hg45.trans hg6, hg35.trans hg6, ?_⟩
          rw [ho.rowEq hlt, ho.rowEq ht, Mx.eqf_row]
          simp
      · rw [decide_eq_false hne]; rfl
    · rintro q w5 ⟨hg5, hg35, rfl⟩
      refine M.ifb (fun h1 => hno _ hg5 fun hp => ?_) (fun h1 => ?_)
      · rw [decide_eq_true hp.1, List.all_eq_true.2 (fun c hc => decide_eq_true (hp.2 c (List.mem_range.1 hc)))] at h1
        cases h1
      · rw [wI_succ (by simp only [Big]; omega)]
        refine ⟨⟨hg5, hg35, i + 1, rfl, by omega, fun s hs => ?_⟩, by omega⟩
        by_cases hsi : s = i
        · subst hsi
          rw [hte]
          simp only [Bool.not_eq_false', Bool.and_eq_true, decide_eq_true_eq, List.all_eq_true, List.mem_range] at h1
          exact h1
        · exact hall s (by omega)
  · have : i = Mx.n m := by omega
    subst this
    symm
    simp only [Mx.stabB, List.all_eq_true, List.mem_range, Bool.and_eq_true, decide_eq_true_eq]
    exact hall
theorem stabB_num {m : Mc} (ho : Mx.Ok m) {l : List Int} (hl : l.length = Mx.n m) : Mx.stabB m (numI l) = Mx.stabB m l := by
  have key : ∀ x y, x < l.length → y < l.length → ((numI l).getD x 0 = (numI l).getD y 0 ↔ l.getD x 0 = l.getD y 0) := by
    intro x y hx hy
    have e : ∀ z, z < l.length → (numI l).getD z 0 = ((fo l).idxOf (l.getD z 0) : Int) := by
      intro z hz
      rw [List.getD_eq_getElem?_getD, Mx.numI_map, List.getElem?_map, List.getElem?_eq_getElem hz, List.getD_eq_getElem?_getD, List.getElem?_eq_getElem hz]; rfl
    have hmx : l.getD x 0 ∈ l := by rw [List.getD_eq_getElem?_getD, List.getElem?_eq_getElem hx]; exact List.getElem_mem hx
    rw [e x hx, e y hy]
    exact ⟨fun h => Mx.numI_inj l hmx h, fun h => by rw [h]⟩
  rw [Bool.eq_iff_iff]
  simp only [Mx.stabB, List.all_eq_true, List.mem_range, Bool.and_eq_true, decide_eq_true_eq]
  refine forall_congr' fun s => forall_congr' fun hs => ?_
  have hsl : s < l.length := by omega
  rw [Mx.hd_num hsl, Mx.hd_raw hsl]
  have ht : l.idxOf l[s] < Mx.n m := by rw [← hl]; exact List.idxOf_lt_length_of_mem (List.getElem_mem hsl)
  refine and_congr Iff.rfl (forall_congr' fun c => forall_congr' fun hc => key _ _ ?_ ?_)
  · rw [hl]; exact (ho.nx s c hs hc).1
  · rw [hl]; exact (ho.nx _ c ht hc).1
theorem quotient_Stable {F : Nat → Prop} {w : World} {d : Dfv} {m : Mc} {s : Sl} {l : List Int} (h : DfaAt w d m) (hs : Rd 1 F w s (l.map vI)) :
    Calls Try.prog 21 [.agg (Dfv.cs d).toArray, s.val].toArray w (Ret Value.bool fun r w' => r = (rightB m && (decide (l.length = Mx.n m) && Mx.stabB m l)) ∧ Grow w w') := by
  apply L.quotient_Stable
  unfold S.quotient_Stable
  have hs := hs.mono (S' := fun _ => True) fun _ _ => trivial
  have hll : m.label.length = d.label.len := by simpa using h.label.len
  have hsl : l.length = s.len := by simpa using hs.len
  refine M.new_of fun b1 w1 hb1 hblk1 hg1 hs1 => M.drew_of fun w2 _ hg2 => ?_
  have hG := hg1.trans hg2
  refine M.ldA0 (hblk1.chg hg2 fun x => x) rfl (M.call_of (dfa_Right (h.chg hG)) ?_)
  rintro r w3 ⟨rfl, hg3⟩
  refine M.ifb (fun h1 => ?_) (fun h1 => ⟨by rw [h1, Bool.false_and], hG.trans hg3⟩)
  have ho := Mx.ok_of h1
  have hn2 := ho.n2
  have hn : Mx.n m = m.label.length := rfl
  rw [h1, Bool.true_and]
  have hB3 := (hblk1.chg hg2 fun x => x).chg hg3 fun x => x
  refine M.ldB 258 hB3 (Dfv_258 d) (M.if_ (fun he => ?_) (fun hne => ⟨by rw [decide_eq_false (by omega), Bool.false_and], hG.trans hg3⟩))
  have hG3 := hG.trans hg3
  refine M.ldA0 hB3 rfl (M.call_of (quotient_Norm (hs.chg hG3 fun _ _ x => x) (by omega)) ?_)
  rintro r w4 ⟨ho4, hg4⟩
  have hB4 := hB3.chg hg4 fun x => x
  have hle : l.length = Mx.n m := by omega
  refine ⟨hB4.cells, hB4.cell (Dfv_258 d), M.call_of (quotient_stable (h.chg (hG3.trans hg4)) ho (ho4.rd (S := fun _ => True) fun _ _ => trivial) hle) ?_⟩
  rintro r w5 ⟨rfl, hg5⟩
  refine ⟨(hB4.chg hg5 fun x => x).cell (Dfv_258 d), ?_, (hG3.trans hg4).trans hg5⟩
  rw [decide_eq_true hle, Bool.true_and, stabB_num ho hle]
end C
end Go.Proofs.Ythepabefikobpaa
