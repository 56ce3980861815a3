/- Contracts: which states are alike, in rounds (moore). Conditions: as each states. -/
import Derived.Test.YthepabefikobpaaHop5
namespace Go.Proofs.Ythepabefikobpaa
open Go Go.Sh Go.Sp
namespace C
theorem slices_Equal_int {F F' : Nat → Prop} {w : World} {s t : Sl} {l m : List Int} (h : Rd 1 F w s (l.map vI)) (h' : Rd 1 F' w t (m.map vI)) (hb : l.length ≤ Big) :
    Calls Try.prog 41 [s.val, t.val].toArray w (Ret Value.bool fun r w' => r = decide (l = m) ∧ Grow w w') := by
  apply L.slices_Equal_Lintint
  unfold S.slices_Equal_Lintint
  have hl : l.length = s.len := by simpa using h.len
  have hm : m.length = t.len := by simpa using h'.len
  refine M.ifn (fun he => ?_) (fun hne => ?_)
  · refine M.loop_at (fun q w' => Grow w w' ∧ ∃ i : Nat, q = i ∧ i ≤ l.length ∧ l.take i = m.take i) (fun q _ => (l.length - q).toNat) ⟨Chg.refl _ _, 0, rfl, by omega, by simp⟩ ?_
    rintro _ w1 ⟨hg, i, rfl, hi, hn⟩
    refine M.if_ (fun hlt => ?_) (fun hge => ?_)
    · have hlt : i < l.length := by omega
      have hlt' : i < m.length := by omega
      refine M.drew_of fun w2 _ hg2 => ?_
      have hg' := hg.trans hg2
      refine M.rd (h.g hg') (by omega) (x := l[i]) (by simp [hlt]) (M.rd (h'.g hg') (by omega) (x := m[i]) (by simp [hlt']) ?_)
      refine M.ifn (fun he => ?_) (fun hne => ?_)
      · rw [wI_succ (by omega)]
        refine ⟨⟨hg', i + 1, rfl, by omega, ?_⟩, by omega⟩
        rw [List.take_succ_eq_append_getElem hlt, List.take_succ_eq_append_getElem hlt', hn, he]
      · refine ⟨?_, hg'⟩
        symm; rw [decide_eq_false_iff_not]
        rintro rfl
        exact hne rfl
    · refine ⟨?_, hg⟩
      have e1 : l.take i = l := List.take_of_length_le (by omega)
      have e2 : m.take i = m := List.take_of_length_le (by omega)
      symm; rw [decide_eq_true_iff, ← e1, ← e2, hn]
  · refine ⟨?_, Chg.refl _ _⟩
    symm; rw [decide_eq_false_iff_not]
    rintro rfl
    omega
/-- What is behind each state, by a class. -/
def behind (m : Mc) (l : List Int) (c : Nat) : List Int := (List.range (Mx.n m)).map fun x => l.getD (Mx.nx m x c) 0
theorem moore_round_c1 {w : World} {d : Dfv} {m : Mc} {b1 b2 c : Nat} {s : Sl} {l : List Int} (hB1 : Blk w b1 27 (Dfv.cs d)) (hB2 : Blk w b2 24 [s.val]) (h : DfaAt w d m) (ho : Mx.Ok m) (hs : Rd 1 (fun _ => True) w s (l.map vI)) (hl : l.length = Mx.n m) (hc : c < Mx.k m) :
    Calls Try.prog 100 [vI c, vA ⟨b2, 0, none⟩, vA ⟨b1, 0, none⟩].toArray w (Ret Sl.val fun r w' => Own w.heap.size w' r 3 1 ((behind m l c).map vI) ∧ Grow w w') := by
  apply L.moore_round_c1
  unfold S.moore_round_c1
  have hn2 := ho.n2
  have hnx := ho.next
  have hnl := h.next.len
  have hsl : l.length = s.len := by simpa using hs.len
  refine M.ld0 hB2 rfl ?_
  rw [← hsl, hl]
  refine M.mkSl Try.underlying24 (T := 3) (info := Try.t3) (z := vI 0) (by kernel_rfl) rfl rfl rfl (by simp only [Try.t3]; omega) (by simp only [maxLen]; omega) fun r w1 hr hrl hrb hg1 => ?_
  have hr : Arr w.heap.size w1 r (Mx.n m) (fun x => if x < 0 then l.getD (Mx.nx m x c) 0 else 0) := by
    unfold Arr; simpa [rep_range, Function.comp_def] using hr
  refine M.ldB 257 (hB1.g hg1) (Dfv_257 d) ?_
  refine M.loop_at (fun q w' => Grow w w' ∧ ∃ i : Nat, q = (i : Int) ∧ i ≤ Mx.n m ∧ Arr w.heap.size w' r (Mx.n m) (fun x => if x < i then l.getD (Mx.nx m x c) 0 else 0)) (fun q _ => ((Mx.n m : Int) - q).toNat)
    ⟨hg1, 0, rfl, by omega, hr⟩ ?_
  rintro _ w2 ⟨hg2, i, rfl, hi, ha⟩
  refine M.if_ (fun hlt => ?_) (fun hge => ?_)
  · have hlt : i < Mx.n m := by omega
    obtain ⟨x1, x2⟩ := ho.nx i c hlt hc
    refine M.rdrd h.next hg2 (by omega) (toNat_some (z := []) (by omega)) fun t1 ht1 => M.drew_of fun w3 _ hg3 => ?_
    have hG := hg2.trans hg3
    refine M.ld0 (hB2.g hG) rfl (M.rd (ht1.g hG) (by omega) (x := ((Mx.nx m i c : Nat) : Int)) (by simpa using x2) (M.rd (hs.g hG) (by omega) (x := l.getD (Mx.nx m i c) 0) (toNat_some (by omega)) (M.arW (ha.g hg3) i rfl hlt fun w4 ha4 hc4 _ => ?_)))
    rw [wI_succ (by simp only [Big]; omega)]
    refine ⟨⟨Chg.fresh hG hc4 fun y hy => (Own.ge ha hy).1, i + 1, rfl, by omega, ha4.congr fun x _ => ?_⟩, by omega⟩
    simp only [ups]
    by_cases e : x = i
    · subst e; rw [if_pos rfl, if_pos (by omega)]
    · rw [if_neg e]
      by_cases e2 : x < i
      · rw [if_pos e2, if_pos (by omega)]
      · rw [if_neg e2, if_neg (by omega)]
  · obtain rfl : i = Mx.n m := by omega
    have := ha.congr (f' := fun x => l.getD (Mx.nx m x c) 0) fun x hx => by rw [if_pos hx]
    exact ⟨this, hg2⟩
theorem behind_at {m : Mc} {l : List Int} {c x : Nat} (hx : x < Mx.n m) : (behind m l c)[x]? = some (l.getD (Mx.nx m x c) 0) := by simp [behind, hx]
/-- Alike by some blocks, and so is what is behind, by the first so many classes. -/
def Rn (m : Mc) (Q : Nat → Nat → Prop) (j x y : Nat) : Prop := Q x y ∧ ∀ c, c < j → Q (Mx.nx m x c) (Mx.nx m y c)
theorem IsNum.at {P : Nat → Nat → Prop} {N : Nat} {l : List Int} (h : IsNum P N l) {x y : Nat} (hx : x < N) (hy : y < N) : l.getD x 0 = l.getD y 0 ↔ P x y := by
  obtain ⟨bl, rfl, h1⟩ := h
  rw [← h1 x y hx hy]
  have e : ∀ z, z < N → (numI ((List.range N).map bl)).getD z 0 = (((num ((List.range N).map bl)).getD z 0 : Nat) : Int) := fun z hz => by
    simp [numI, List.getD_eq_getElem?_getD, List.getElem?_map]
    cases (num ((List.range N).map bl))[z]? <;> rfl
  have := num_same ((List.range N).map bl) (x := x) (y := y) (by simpa using hx) (by simpa using hy)
  rw [e x hx, e y hy]
  rw [List.getElem?_map, List.getElem?_map, List.getElem?_range hx, List.getElem?_range hy] at this
  simp only [Option.map_some, Option.some.injEq] at this
  rw [← this]
  omega
theorem moore_round {F : Nat → Prop} {w : World} {d : Dfv} {m : Mc} {s : Sl} {l : List Int} {Q : Nat → Nat → Prop} (h : DfaAt w d m) (ho : Mx.Ok m) (hs : Rd 1 F w s (l.map vI)) (hl : IsNum Q (Mx.n m) l) :
    Calls Try.prog 95 [.agg (Dfv.cs d).toArray, s.val].toArray w (Ret Sl.val fun r w' => (∃ l', Rd 1 (fun b => F b ∨ w.heap.size ≤ b) w' r (l'.map vI) ∧ IsNum (Rn m Q (Mx.k m)) (Mx.n m) l') ∧ Grow w w') := by
  apply L.moore_round
  unfold S.moore_round
  have hs0 := hs.mono (S' := fun b => F b ∨ w.heap.size ≤ b) fun b hb => .inl hb
  have hs := hs.any
  have hn2 := ho.n2
  have hwk : d.width = (Mx.k m : Int) := h.width.trans ho.width
  refine M.new_of fun b1 w1 hb1 hB1 hg1 hs1 => M.new_of fun b2 w2 hb2 hB2 hg2 hs2 => ?_
  have hG2 := hg1.trans hg2
  have hB1 := hB1.g hg2
  refine M.ld0 hB2 rfl (M.ldB 256 hB1 (Dfv_256 d) ?_)
  rw [hwk]
  refine M.loop_at (fun q w' => Grow w2 w' ∧ ∃ (j : Nat) (o : Sl) (O : List Int), q = (o, (j : Int)) ∧ j ≤ Mx.k m ∧ Rd 1 (fun b => F b ∨ w.heap.size ≤ b) w' o (O.map vI) ∧ IsNum (Rn m Q j) (Mx.n m) O) (fun q _ => ((Mx.k m : Int) - q.2).toNat)
    ⟨Chg.refl _ _, 0, s, l, rfl, by omega, hs0.g hG2, ?_⟩ ?_
  · obtain ⟨bl, e, h1⟩ := hl
    exact ⟨bl, e, fun x y hx hy => (h1 x y hx hy).trans ⟨fun h => ⟨h, fun c hc => by omega⟩, fun h => h.1⟩⟩
  rintro _ w3 ⟨hg3, j, o, O, rfl, hj, hO, hN⟩
  dsimp only
  have hG3 := hG2.trans hg3
  refine M.if_ (fun hlt => ?_) (fun hge => ?_)
  · have hlt : j < Mx.k m := by omega
    refine M.callv_of (inv_of (cs := [vA ⟨b2, 0, none⟩, vA ⟨b1, 0, none⟩]) (args := [vI j]) Try.call100 (moore_round_c1 (hB1.g hg3) (hB2.g hg3) (h.chg hG3) ho (hs.g hG3) hl.len hlt) fun r w' hr => ⟨r, rfl, hr⟩) ?_
    rintro r w4 ⟨ho4, hg4⟩
    refine M.call_of (quotient_Join (hO.g hg4) (ho4.rd (S := fun _ => True) fun _ _ => trivial) (by rw [hN.len]; omega)) ?_
    rintro r5 w5 ⟨ho5, hg5⟩
    have hk2 := ho.k2
    rw [wI_succ (by simp only [Big]; omega)]
    refine ⟨⟨(hg3.trans hg4).trans hg5, j + 1, r5, _, rfl, by omega, ho5.rd fun y hy => .inr (by have := (ho5.ge hy).1; have := hG3.size; have := hg4.size; omega), ?_⟩, by (try simp only); omega⟩
    have hOl := hN.len
    have hbl : (behind m l j).length = Mx.n m := by simp [behind]
    refine IsNum.of_list (by rw [List.length_zip]; omega) fun x y hx hy => ?_
    have hz : ∀ z, z < Mx.n m → (O.zip (behind m l j))[z]? = some (O.getD z 0, l.getD (Mx.nx m z j) 0) := fun z hz => by
      rw [List.getElem?_zip_eq_some]
      exact ⟨getD_some (by omega), behind_at hz⟩
    rw [hz x hx, hz y hy, Option.some.injEq, Prod.mk.injEq, hN.at hx hy, hl.at (ho.nx x j hx hlt).1 (ho.nx y j hy hlt).1]
    constructor
    · rintro ⟨⟨h1, h2⟩, h3⟩
      refine ⟨h1, fun c hc => ?_⟩
      by_cases e : c = j
      · subst e; exact h3
      · exact h2 c (by omega)
    · rintro ⟨h1, h2⟩
      exact ⟨⟨h1, fun c hc => h2 c (by omega)⟩, h2 j (by omega)⟩
  · obtain rfl : j = Mx.k m := by omega
    exact ⟨⟨O, hO, hN⟩, hG3⟩
end C
end Go.Proofs.Ythepabefikobpaa
