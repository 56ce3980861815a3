/- Contracts: doubletref23 Norm, Stable, Of. Conditions: as each states. -/
import Derived.Test.YthepabefikobpaaC22
namespace Go.Sp
section
variable {α : Type} [DecidableEq α]
theorem idxOf_fo_app (l t : List α) (y : α) (h : y ∈ l) : (fo (l ++ t)).idxOf y = (fo l).idxOf y := by
  induction t using list_snoc_ind with
  | h0 => rw [List.append_nil]
  | hs t x ih => rw [← List.append_assoc, idxOf_fo_snoc _ _ _ (List.mem_append_left _ h), ih]
theorem idxOf_fo_take {l : List α} {i : Nat} {y : α} (h : y ∈ l.take i) : (fo l).idxOf y = (fo (l.take i)).idxOf y := by
  conv => lhs; rw [← List.take_append_drop i l]
  exact idxOf_fo_app _ _ _ h
theorem fo_take_succ {l : List α} {i : Nat} {x : α} (hx : l[i]? = some x) : fo (l.take (i + 1)) = if x ∈ l.take i then fo (l.take i) else fo (l.take i) ++ [x] := by
  rw [List.take_add_one, hx]
  have := fo_snoc (l.take i) x
  rw [show l.take i ++ (some x).toList = l.take i ++ [x] from rfl, this]
  by_cases h : x ∈ l.take i
  · rw [if_pos h, if_pos ((mem_fo _ _).2 h)]
  · rw [if_neg h, if_neg fun e => h ((mem_fo _ _).1 e)]
theorem idxOf_new {l : List α} {i : Nat} {x : α} (hx : l[i]? = some x) (h : x ∉ l.take i) : (fo l).idxOf x = (fo (l.take i)).length ∧ l.idxOf x = i := by
  obtain ⟨hi, hxi⟩ := List.getElem?_eq_some_iff.1 hx
  constructor
  · have h1 : x ∈ l.take (i + 1) := by
      rw [List.take_add_one, hx]; simp
    rw [idxOf_fo_take h1, fo_take_succ hx, if_neg h, List.idxOf_append, if_neg fun e => h ((mem_fo _ _).1 e), List.idxOf_cons_self, Nat.zero_add]
  · conv => lhs; rw [← List.take_append_drop i l]
    rw [List.idxOf_append, if_neg h, List.drop_eq_getElem_cons hi, hxi, List.idxOf_cons_self, List.length_take]
    omega
theorem idxOf_old {l : List α} {i : Nat} {x : α} (h : x ∈ l.take i) : l.idxOf x = (l.take i).idxOf x ∧ l.idxOf x < i := by
  have e : l.idxOf x = (l.take i).idxOf x := by
    conv => lhs; rw [← List.take_append_drop i l]
    rw [List.idxOf_append, if_pos h]
  refine ⟨e, ?_⟩
  rw [e]
  have := List.idxOf_lt_length_of_mem h
  rw [List.length_take] at this
  omega
end
end Go.Sp
namespace Go.Proofs.Ythepabefikobpaa
open Go Go.Sh Go.Sp
namespace C
theorem r23_Norm {F : Nat → Prop} {w : World} {s : Sl} {l : List Int} (h : Rd 1 F w s (l.map vI)) (hb : l.length ≤ 65536) :
    Calls Try.prog 67 [s.val].toArray w (Ret Sl.val fun r w' => Own w.heap.size w' r 3 1 ((numI l).map vI) ∧ Grow w w') := by
  apply L.r23_Norm
  unfold S.r23_Norm
  have hl : l.length = s.len := by simpa using h.len
  refine M.new_of fun b1 w1 hb1 hB1 hg1 hs1 => ?_
  have hacc : Own w.heap.size w1 ⟨some ⟨b1, 0, none⟩, 0, 0⟩ 3 1 ((numI (l.take 0)).map vI) := Own.mk (b := b1) (cs := []) rfl (by omega) hB1 (Nat.le_refl _) (by simp [maxLen]) (by simp) (by simp [numI_nil])
  obtain ⟨Z, hZ⟩ : ∃ Z : Nat, l.length ≤ Z := ⟨_, Nat.le_refl _⟩
  refine M.loop_at (fun q w' => Grow w w' ∧ ∃ i : Nat, q.2 = (((fo (l.take i)).length : Int), (i : Int)) ∧ i ≤ l.length ∧ Own w.heap.size w' q.1 3 1 ((numI (l.take i)).map vI)) (fun q _ => (Z - q.2.2).toNat) ⟨hg1, 0, rfl, by omega, hacc⟩ ?_
  rintro ⟨out, q2⟩ w2 ⟨hg2, i, rfl, hi, hout⟩
  dsimp only at hout ⊢
  have hol : (numI (l.take i)).length = out.len := by simpa using hout.len
  rw [numI_length, List.length_take] at hol
  have hfl := fo_length_le (l.take i)
  rw [List.length_take] at hfl
  have hsz2 := hg2.size
  refine M.if_ (fun hlt => ?_) (fun hge => ?_)
  · have hlt : i < l.length := by omega
    obtain ⟨x, hx⟩ : ∃ x, l[i]? = some x := ⟨_, List.getElem?_eq_getElem hlt⟩
    have hmem := List.mem_of_getElem? hx
    have htk : l.take (i + 1) = l.take i ++ [x] := by rw [List.take_add_one, hx]; rfl
    refine M.rd (h.g hg2) (by omega) (x := x) (by simp [hx]) (M.call_of (r23_first (n := x) (h.g hg2) (by simp only [Big]; omega)) ?_)
    rintro r w3 ⟨hr, hw⟩
    have hw := hw.symm
    subst hw
    rw [if_pos hmem] at hr
    subst hr
    refine M.if_ (fun he => ?_) (fun hne => ?_)
    · have he : l.idxOf x = i := by omega
      have hnew : x ∉ l.take i := fun e => by have := (idxOf_old e).2; omega
      refine M.app Try.underlying24 (T := 3) (info := Try.t3) (z := vI 0) (m := 1) (bytes := 8) (by kernel_rfl) rfl rfl rfl rfl (by decide) hout rfl (by simp [one1]) (by omega) (by omega) (by omega) fun r w4 ho4 hl4 hc4 hb4 => ?_
      rw [wI_succ (by simp only [Big]; omega), wI_succ (by simp only [Big]; omega)]
      have e1 : (fo (l.take (i + 1))).length = (fo (l.take i)).length + 1 := by rw [fo_take_succ hx, if_neg hnew]; simp
      refine ⟨⟨Chg.fresh hg2 hc4 fun b hb => (hout.ge hb).1, i + 1, by rw [e1], by omega, ?_⟩, by (try simp only); omega⟩
      have e2 : (fo (l.take i ++ [x])).idxOf x = (fo (l.take i)).length := by
        rw [← htk, fo_take_succ hx, if_neg hnew, List.idxOf_append, if_neg fun e => hnew ((mem_fo _ _).1 e), List.idxOf_cons_self, Nat.zero_add]
      rw [htk, numI_snoc, e2]
      simpa using ho4
    · have hold : x ∈ l.take i := by
        by_cases e : x ∈ l.take i
        · exact e
        · have := (idxOf_new hx e).2; omega
      obtain ⟨ho1, ho2⟩ := idxOf_old hold
      have hget : (numI (l.take i))[((l.idxOf x : Nat) : Int).toNat]? = some (((fo (l.take i)).idxOf x : Nat) : Int) := by
        rw [Mx.numI_map, Int.toNat_natCast, ho1, List.getElem?_map, List.getElem?_eq_getElem (List.idxOf_lt_length_of_mem hold), Option.map_some, List.getElem_idxOf]
      refine M.rd (hout.rd (S := fun _ => True) fun _ _ => trivial) (by omega) hget ?_
      refine M.app Try.underlying24 (T := 3) (info := Try.t3) (z := vI 0) (m := 1) (bytes := 8) (by kernel_rfl) rfl rfl rfl rfl (by decide) hout rfl (by simp [one1]) (by omega) (by omega) (by omega) fun r w4 ho4 hl4 hc4 hb4 => ?_
      rw [wI_succ (by simp only [Big]; omega)]
      have e1 : (fo (l.take (i + 1))).length = (fo (l.take i)).length := by rw [fo_take_succ hx, if_pos hold]
      refine ⟨⟨Chg.fresh hg2 hc4 fun b hb => (hout.ge hb).1, i + 1, by rw [e1], by omega, ?_⟩, by (try simp only); omega⟩
      rw [htk, numI_snoc, idxOf_fo_snoc _ _ _ hold]
      simpa using ho4
  · rw [List.take_of_length_le (by omega)] at hout
    exact ⟨hout, hg2⟩
theorem r23_Stable {F : Nat → Prop} {w : World} {d : Dfv} {m : Mc} {s : Sl} {l : List Int} (h : DfaAt w d m) (hs : Rd 1 F w s (l.map vI)) (ho : Mx.Ok m) (hl : l.length = Mx.n m) (hst : Mx.stabB m l = true) :
    Calls Try.prog 66 [.agg (Dfv.cs d).toArray, s.val].toArray w (Ret Value.bool fun r w' => r = true ∧ Grow w w') := by
  apply L.r23_Stable
  unfold S.r23_Stable
  have hn2 := ho.n2
  have hk2 := ho.k2
  have hnx := ho.next
  have hn : Mx.n m = m.label.length := rfl
  have hll : m.label.length = d.label.len := by simpa using h.label.len
  have hsl : l.length = s.len := by simpa using hs.len
  refine M.new_of fun b1 w1 hb1 hB1 hg1 hs1 => M.join_in (M.ldA0 hB1 rfl (M.call_of (r20_Right (h.chg hg1)) ?_))
  rintro r w2 ⟨hr, hg2⟩
  rw [Mx.right_of ho] at hr
  subst hr
  have hB1 := hB1.g hg2
  have hG2 := hg1.trans hg2
  refine M.ifb (fun h0 => by cases h0) (fun _ => M.ldB 258 hB1 (Dfv_258 d) (M.ifn (fun _ => ?_) (fun h0 => absurd (by omega) h0)))
  have hst' : ∀ x, x < Mx.n m → Mx.lab m x = Mx.lab m (Mx.hd l x) ∧ ∀ c, c < Mx.k m → l.getD (Mx.nx m x c) 0 = l.getD (Mx.nx m (Mx.hd l x) c) 0 := by
    intro x hx
    rw [Mx.stabB, List.all_eq_true] at hst
    have := hst x (List.mem_range.2 hx)
    rw [Bool.and_eq_true, decide_eq_true_eq, List.all_eq_true] at this
    exact ⟨this.1, fun c hc => by simpa using this.2 c (List.mem_range.2 hc)⟩
  obtain ⟨Z, hZ⟩ : ∃ Z : Nat, l.length ≤ Z := ⟨_, Nat.le_refl _⟩
  refine M.loop_at (fun q w' => Grow w w' ∧ Blk w' b1 27 (Dfv.cs d) ∧ ∃ i : Nat, q = i ∧ i ≤ l.length) (fun q _ => (Z - q).toNat) ⟨hG2, hB1, 0, rfl, by omega⟩ ?_
  rintro _ w3 ⟨hg3, hB1, i, rfl, hi⟩
  refine M.if_ (fun hlt => ?_) (fun hge => ⟨rfl, hg3⟩)
  have hlt : i < l.length := by omega
  have hin : i < Mx.n m := by omega
  obtain ⟨h1, h2⟩ := hst' i hin
  have hhd := Mx.hd_lt (l := l) hlt
  have hhe := Mx.hd_raw (l := l) hlt
  have hx : l[i]? = some l[i] := List.getElem?_eq_getElem hlt
  generalize l[i] = x at hx hhe
  have hmem := List.mem_of_getElem? hx
  refine M.rd (hs.g hg3) (by omega) (x := x) (by simp [hx]) (M.call_of (r23_first (n := x) (hs.g hg3) (by simp only [Big]; omega)) ?_)
  rintro r w4 ⟨hr, hw⟩
  have hw := hw.symm
  subst hw
  rw [if_pos hmem, ← hhe] at hr
  subst hr
  refine M.drew_of fun w4 _ hg4 => ?_
  have hg4' := hg3.trans hg4
  have hB1 := hB1.g hg4
  have lab := h.label.g hg4'
  refine M.ldB 258 hB1 (Dfv_258 d) (M.rd lab (by omega) (x := Mx.lab m i) (toNat_some (z := 0) (by omega)) (M.ldB 258 hB1 (Dfv_258 d) (M.rd lab (by omega) (x := Mx.lab m (Mx.hd l i)) (toNat_some (z := 0) (by omega)) (M.ifn (fun _ => ?_) (fun h0 => absurd h1 h0)))))
  refine M.loop_at (fun q w' => Grow w w' ∧ Blk w' b1 27 (Dfv.cs d) ∧ ∃ c : Nat, q = c ∧ c ≤ Mx.k m) (fun q _ => (256 - q).toNat) ⟨hg4', hB1, 0, rfl, by omega⟩ ?_
  rintro _ w5 ⟨hg5, hB1, c, rfl, hc⟩
  refine M.ldB 256 hB1 (Dfv_256 d) ?_
  rw [h.width, ho.width]
  refine M.if_ (fun hlt2 => ?_) (fun hge2 => ?_)
  · have hlt2 : c < Mx.k m := by omega
    refine M.drew_of fun w6 _ hg6 => ?_
    have hg6' := hg5.trans hg6
    have hB1 := hB1.g hg6
    have hy : Mx.hd l i < Mx.n m := by omega
    have n1 := (ho.nx i c hin hlt2).1
    have n2 := (ho.nx _ c hy hlt2).1
    refine M.ldB 257 hB1 (Dfv_257 d) (M.rdrd h.next hg6' (by omega) (toNat_some (z := []) (by omega)) fun t1 ht1 => ?_)
    rw [ho.rowEq hin] at ht1
    refine M.rd (ht1.g hg6') (by omega) (x := ((Mx.nx m i c : Nat) : Int)) (by simp [hlt2]) (M.rd (hs.g hg6') (by omega) (toNat_some (z := 0) (by omega)) ?_)
    refine M.ldB 257 hB1 (Dfv_257 d) (M.rdrd h.next hg6' (by omega) (toNat_some (z := []) (by omega)) fun t2 ht2 => ?_)
    rw [ho.rowEq hy] at ht2
    refine M.rd (ht2.g hg6') (by omega) (x := ((Mx.nx m (Mx.hd l i) c : Nat) : Int)) (by simp [hlt2]) (M.rd (hs.g hg6') (by omega) (toNat_some (z := 0) (by omega)) ?_)
    refine M.ifn (fun _ => ?_) (fun h0 => absurd (h2 c hlt2) h0)
    rw [wI_succ (by simp only [Big]; omega)]
    exact ⟨⟨hg6', hB1, c + 1, rfl, hlt2⟩, by omega⟩
  · rw [wI_succ (by simp only [Big]; omega)]
    exact ⟨⟨hg5, hB1, i + 1, rfl, hlt⟩, by omega⟩
end C
end Go.Proofs.Ythepabefikobpaa
/- Contract: doubletref23 Of. Conditions: as it states. -/
namespace Go.Proofs.Ythepabefikobpaa
open Go Go.Sh Go.Sp
namespace C
set_option maxRecDepth 20000 in
theorem r23_Of {F V : Nat → Prop} {w : World} {d : Dfv} {m : Mc} {s : Sl} {l : List Int} (h : DfaIn V w d m) (hs : Rd 1 F w s (l.map vI)) (ho : Mx.Ok m) (hst : (decide (l.length = Mx.n m) && Mx.stabB m l) = true) :
    Calls Try.prog 35 [.agg (Dfv.cs d).toArray, s.val].toArray w (Ret (fun x : (Dfv × Int) => .tuple #[(.agg (Dfv.cs x.1).toArray), (vI x.2)]) fun r w' =>
      r.2 = 0 ∧ DfaIn (fun b => V b ∨ w.heap.size ≤ b) w' r.1 (Mx.quo m l) ∧ Grow w w') := by
  apply L.r23_Of
  unfold S.r23_Of
  rw [Bool.and_eq_true, decide_eq_true_eq] at hst
  obtain ⟨hl, hst⟩ := hst
  have hd := h.at
  have hll : m.label.length = d.label.len := by simpa using hd.label.len
  have hn : Mx.n m = m.label.length := rfl
  have hn2 := ho.n2
  have hk2 := ho.k2
  have hnx := ho.next
  have hsl : l.length = s.len := by simpa using hs.len
  refine M.new_of fun b1 w1 hb1 hB1 hg1 hs1 => M.new_of fun b2 w2 hb2 hB2 hg2 hs2 => ?_
  have hG2 := hg1.trans hg2
  have hB1 := hB1.g hg2
  have hb1n := hB1.lt
  have hb2n := hB2.lt
  refine M.ldA0 hB1 rfl (M.call_of (r20_Right (hd.chg hG2)) ?_)
  rintro r4 w3 ⟨hr4, hg3⟩
  rw [Mx.right_of ho] at hr4
  subst hr4
  have hB1 := hB1.g hg3
  have hG3 := hG2.trans hg3
  refine M.ifb (fun h0 => by cases h0) (fun _ => M.ldA0 hB1 rfl (M.call_of (r23_Stable (hd.chg hG3) (hs.g hG3) ho hl hst) ?_))
  rintro r7 w4 ⟨hr7, hg4⟩
  subst hr7
  have hB1 := hB1.g hg4
  have hG4 := hG3.trans hg4
  refine M.ifb (fun h0 => by cases h0) (fun _ => M.call_of (r23_Norm (hs.g hG4) (by omega)) ?_)
  rintro r9 w5 ⟨hr9, hg5⟩
  have hB1 := hB1.g hg5
  have hG5 := hG4.trans hg5
  have hB2 := ((hB2.g hg3).g hg4).g hg5
  have h9l : (numI l).length = r9.len := by simpa using hr9.len
  rw [numI_length] at h9l
  have h9 := (hr9.rd (S := fun _ => True) fun _ _ => trivial).old (by decide)
  have hsz5 := ((hg3.trans hg4).trans hg5).size
  have hszG := hG2.size
  refine M.ldA_at (x := d.of) 0 hB1 (Ar_part d) (M.ldB 256 hB1 (Dfv_256 d) (M.ldB 259 hB1 (Dfv_259 d) (M.new_of fun b13 w6 hb13 hB13 hg6 hs6 => M.stA_of hB13 (by simp [Dfv_len]) fun w7 hB13 hc7 hs7 => ?_)))
  have hg57 : Grow w5 w7 := Chg.fresh hg6 hc7 fun b hb => by omega
  have hG7 := hG5.trans hg57
  have hB1 := hB1.g hg57
  have hB2 := hB2.g hg57
  have h9 := h9.g hg57
  have hl13 := hB13.lt
  obtain ⟨Z, hZ⟩ : ∃ Z : Nat, l.length ≤ Z := ⟨_, Nat.le_refl _⟩
  obtain ⟨rw', hrw⟩ : ∃ rw' : Int → List Int, rw' = fun y => (List.range (Mx.k m)).map fun c => (numI l).getD (Mx.nx m (l.idxOf y) c) 0 := ⟨_, rfl⟩
  obtain ⟨lw, hlw⟩ : ∃ lw : Int → Int, lw = fun y => Mx.lab m (l.idxOf y) := ⟨_, rfl⟩
  have hrwl : ∀ y, (rw' y).length = Mx.k m := fun y => by rw [hrw]; simp
  have hBld : Bld w7.heap.size b13 w7 d.of d.width d.names ((fo (l.take 0)).map rw') ((fo (l.take 0)).map lw) := Bld.new (by omega) hB13
  have hbn : b13 ≠ b1 ∧ b13 ≠ b2 := by omega
  refine M.loop_at (fun q w' => Chg (fun y => y = b13) w7 w' ∧ ∃ i : Nat, q = i ∧ i ≤ l.length ∧ Bld w7.heap.size b13 w' d.of d.width d.names ((fo (l.take i)).map rw') ((fo (l.take i)).map lw)) (fun q _ => (Z - q).toNat)
    ⟨Chg.refl _ _, 0, rfl, by omega, hBld⟩ ?_
  rintro _ w8 ⟨hc8, i, rfl, hi, hbld⟩
  have hG8 : Grow w w8 := Chg.fresh hG7 hc8 fun b hb => by omega
  have hsz8 := hc8.size
  refine M.if_ (fun hlt => ?_) (fun hge => ?_)
  · have hlt : i < l.length := by omega
    have hin : i < Mx.n m := by omega
    obtain ⟨x, hx⟩ : ∃ x, l[i]? = some x := ⟨_, List.getElem?_eq_getElem hlt⟩
    have hmem := List.mem_of_getElem? hx
    have hfl := fo_length_le (l.take i)
    rw [List.length_take] at hfl
    refine M.drew_of fun w9 _ hg9 => ?_
    have hc9 := hc8.g hg9
    have hG9 := hG8.trans hg9
    have hbld := hbld.g hg9
    have hB1 := hB1.chg hc9 fun e => by omega
    have h9 := h9.chg hc9 fun y hy e => by omega
    have hsz9 := hc9.size
    have h9i : (numI l)[(i : Int).toNat]? = some (((fo l).idxOf x : Nat) : Int) := by rw [Mx.numI_map, Int.toNat_natCast, List.getElem?_map, hx]; rfl
    obtain ⟨lb, hlbl, hlbc, _⟩ := Bld.cell (γ := Unit) hbld
    rw [List.length_map] at hlbl
    refine M.rd h9 (by omega) h9i ⟨lb, hlbc, ?_⟩
    refine M.ifn (fun he => ?_) (fun hne => ?_)
    · have hnew : x ∉ l.take i := fun e => by
        have h1 := idxOf_fo_take e
        have h2 := idxOf_lt _ _ e
        omega
      obtain ⟨h1, h2⟩ := idxOf_new hx hnew
      obtain ⟨row, hrow⟩ : ∃ row : List Int, row = rw' x := ⟨_, rfl⟩
      have hrl : row.length = Mx.k m := by rw [hrow, hrwl]
      have hrc : ∀ c, c < Mx.k m → row[c]? = some ((numI l).getD (Mx.nx m i c) 0) := fun c hc => by rw [hrow, hrw]; simp [hc, h2]
      have e1 : (fo (l.take (i + 1))).map rw' = (fo (l.take i)).map rw' ++ [row] := by rw [fo_take_succ hx, if_neg hnew, hrow]; simp
      have e2 : (fo (l.take (i + 1))).map lw = (fo (l.take i)).map lw ++ [Mx.lab m i] := by rw [fo_take_succ hx, if_neg hnew, hlw]; simp [h2]
      refine M.new_of fun b19 w10 hb19 hB19 hg10 hs10 => ?_
      have hacc : Own w9.heap.size w10 ⟨some ⟨b19, 0, none⟩, 0, 0⟩ 3 1 ((row.take 0).map vI) := Own.mk (b := b19) (cs := []) rfl (by omega) hB19 (Nat.le_refl _) (by simp [maxLen]) (by simp) (by simp)
      refine M.loop_at (fun q w' => Grow w9 w' ∧ ∃ c : Nat, q.2 = c ∧ c ≤ Mx.k m ∧ Own w9.heap.size w' q.1 3 1 ((row.take c).map vI)) (fun q _ => (256 - q.2).toNat) ⟨hg10, 0, rfl, by omega, hacc⟩ ?_
      rintro ⟨acc, qc⟩ w11 ⟨hg11, c, rfl, hc, hacc⟩
      dsimp only at hacc ⊢
      have hB1 := hB1.g hg11
      have hG11 := hG9.trans hg11
      refine M.ldB 256 hB1 (Dfv_256 d) ?_
      rw [h.width, ho.width]
      refine M.if_ (fun hlt2 => ?_) (fun hge2 => ?_)
      · have hlt2 : c < Mx.k m := by omega
        refine M.ldB 257 hB1 (Dfv_257 d) (M.rdrd hd.next hG11 (by omega) (toNat_some (z := []) (by omega)) fun t1 ht1 => ?_)
        rw [ho.rowEq hin] at ht1
        have n1 := (ho.nx i c hin hlt2).1
        refine M.rd (ht1.g hG11) (by omega) (x := ((Mx.nx m i c : Nat) : Int)) (by simp [hlt2]) (M.rd (h9.g hg11) (by omega) (by rw [Int.toNat_natCast]; exact numI_at l (by omega)) ?_)
        have hacl : acc.len = c := by have := hacc.len; simp at this; omega
        have hsz11 := hg11.size
        refine M.app Try.underlying24 (T := 3) (info := Try.t3) (z := vI 0) (m := 1) (bytes := 8) (by kernel_rfl) rfl rfl rfl rfl (by decide) hacc rfl (by simp [one1]) (by omega) (by omega) (by omega) fun r w12 ho12 hl12 hc12 hb12 => ?_
        rw [wI_succ (by simp only [Big]; omega)]
        refine ⟨⟨Chg.fresh hg11 hc12 fun b hb => (hacc.ge hb).1, c + 1, rfl, by omega, ?_⟩, by (try simp only); omega⟩
        rw [List.take_add_one, hrc c hlt2]
        simpa using ho12
      · rw [List.take_of_length_le (by omega)] at hacc
        refine M.bRow hbld hg11 hacc (by rw [List.length_map]; omega) (by omega) fun w12 hbld hc12 => M.drew_of fun w13 _ hg13 => ?_
        rw [← e1] at hbld
        have hbld := hbld.g hg13
        have hsz11 := hg11.size
        have hsz12 := hc12.size
        have hsz13 := hg13.size
        have hc913 : Chg (fun y => y = b13 ∨ w7.heap.size ≤ y) w9 w13 := (hg11.any.c hc12).g hg13
        have hc713 : Chg (fun y => y = b13) w7 w13 := hc9.trans hc913 fun y hy e => e.elim id fun e => by omega
        have hG13 : Grow w w13 := Chg.fresh hG7 hc713 fun b hb => by omega
        have hB1 := (hB1.chg hc12 fun e => by omega).g hg13
        obtain ⟨lb, hlbl, hlbc, happ⟩ := hbld.cell
        refine ⟨lb, hlbc, M.ldB 258 hB1 (Dfv_258 d) (M.rd (hd.label.g hG13) (by omega) (x := Mx.lab m i) (toNat_some (z := 0) hin) ?_)⟩
        have hal := Grow.alloc w13 (.cells [vI (Mx.lab m i)].toArray 3)
        refine ⟨(hB1.g hal).cell (Dfv_258 d), hal.cell (fun e => e) hlbc, happ (by omega) (by rw [List.length_map]; omega) fun s14 w14 hmid hc14 => ?_⟩
        rw [← e2] at hmid
        refine ⟨(hB1.chg hc14 (by omega)).cell (Dfv_258 d), hmid.st fun w15 hbld hc15 => ?_⟩
        rw [wI_succ (by simp only [Big]; omega)]
        rw [h.width, ho.width] at hbld
        exact ⟨⟨hc713.trans ((hc14.mono fun y _ hy => Or.inr hy).c (hc15.mono fun y _ hy => Or.inl hy) : Chg (fun y => y = b13 ∨ w7.heap.size ≤ y) w13 w15) fun y hy e => e.elim id fun e => by omega, i + 1, rfl, hlt, hbld⟩, by omega⟩
    · have hold : x ∈ l.take i := by
        by_cases e : x ∈ l.take i
        · exact e
        · have := (idxOf_new hx e).1; exact absurd (by omega) hne
      rw [wI_succ (by simp only [Big]; omega)]
      refine ⟨⟨hc9, i + 1, rfl, hlt, ?_⟩, by omega⟩
      rw [fo_take_succ hx, if_pos hold]
      exact hbld
  · have hil : i = l.length := by omega
    rw [List.take_of_length_le (by omega)] at hbld
    have h2 := (h.lt).g hG8
    have q1 : (fo l).map rw' = (Mx.quo m l).next := by rw [Mx.quo, Mx.hdN, List.map_map, hrw]; rfl
    have q2 : (fo l).map lw = (Mx.quo m l).label := by rw [hlw]; simp only [Mx.quo, Mx.hdN, List.map_map]; rfl
    obtain ⟨d', hB, hD⟩ := hbld.done (m := Mx.quo m l) (S := fun y => (V y ∧ y < w.heap.size) ∨ w7.heap.size ≤ y) h.of h.byte h.width q1 q2 (h2.names.mono fun y hy => .inl hy) h.size fun y hy => .inr hy
    have hB2 := hB2.chg hc8 fun e => by omega
    refine M.ldA0 hB rfl (M.stA_of hB2 (by simp [Dfv_len]) fun w9 hb9 hc9 hs9 => M.ldA0 hb9 rfl ⟨rfl, (hD.chg hc9 fun y hy e => ?_).mono fun y hy => ?_, Chg.fresh hG8 hc9 fun b hb => by omega⟩)
    · rcases hy with hy | hy <;> omega
    · rcases hy with hy | hy
      · exact .inl hy.1
      · right; have := hG7.size; omega
end C
end Go.Proofs.Ythepabefikobpaa
