/- Contracts: moore.last with the most rounds, After, Blocks. Conditions: as each states. -/
import Derived.Test.YthepabefikobpaaC15
namespace Go.Proofs.Ythepabefikobpaa
open Go Go.Sh Go.Sp
namespace C
theorem Rn_alk {m : Mc} (j x y : Nat) : Rn m (Mx.alk m j) (Mx.k m) x y ↔ Mx.alk m (j + 1) x y :=
  ⟨fun h => ⟨Mx.alk_lab h.1, h.2⟩, fun h => ⟨Mx.alk_less h, h.2⟩⟩
theorem moore_last {w : World} {d : Dfv} {m : Mc} (h : DfaAt w d m) :
    Calls Try.prog 69 [.agg (Dfv.cs d).toArray, vI 65536].toArray w (Ret (fun x : (Int × Sl) => .tuple #[(vI x.1), (Sl.val x.2)]) fun r w' => ((rightB m = false ∧ r.2 = Sl.nil) ∨ (rightB m = true ∧ ∃ L : List Int, IsNum (Mx.Alk m) (Mx.n m) L ∧ Rd 1 (fun _ => True) w' r.2 (L.map vI))) ∧ Grow w w') := by
  apply L.moore_last
  unfold S.moore_last
  refine M.new_of fun b1 w1 hb1 hB1 hg1 hs1 => M.new_of fun b2 w2 hb2 hB2 hg2 hs2 => M.new_of fun b3 w3 hb3 hB3 hg3 hs3 => M.st0 hB3 (by simp) fun w4 hB3 hc4 hs4 => M.new_of fun b4 w5 hb4 hB4 hg5 hs5 => ?_
  have hB3 : Blk w4 b3 3 [vI (-1)] := hB3
  have hg35 : Grow w2 w5 := (Chg.fresh hg3 hc4 fun y hy => by omega).trans hg5
  have hG5 := (hg1.trans hg2).trans hg35
  have hB1 := hB1.g (hg2.trans hg35)
  have hB2 := hB2.g hg35
  have hB3 := hB3.g hg5
  refine M.ldA0 hB1 rfl (M.call_of (dfa_Right (h.chg hG5)) ?_)
  rintro _ w6 ⟨rfl, hg6⟩
  have hG6 := hG5.trans hg6
  have hB1 := hB1.g hg6
  have hB2 := hB2.g hg6
  have hB3 := hB3.g hg6
  have hB4 := hB4.g hg6
  refine M.ifb (fun h1 => ?_) (fun h1 => ?_)
  · refine M.drew_of fun w7 _ hg7 => M.ld0 (hB3.g hg7) rfl (M.ld0 (x := Sl.nil) (hB4.g hg7) rfl ⟨.inl ⟨by simpa using h1, rfl⟩, hG6.trans hg7⟩)
  have h1 : rightB m = true := by simpa using h1
  have ho := Mx.ok_of h1
  have hn2 := ho.n2
  refine M.ldA0 hB1 rfl (M.call_of (e := fun v : Value => v) (R := fun v w' => ∃ b0, v = .func (.func 94) #[] #[vA ⟨b0, 0, none⟩] ∧ Blk w' b0 27 (Dfv.cs d) ∧ w6.heap.size ≤ b0 ∧ Grow w6 w') ?_ ?_)
  · apply L.moore_rounds
    unfold S.moore_rounds
    exact M.new_of fun b0 w7 hb0 hB0 hg7 _ => ⟨b0, rfl, hB0, by omega, hg7⟩
  rintro _ w7 ⟨b0, rfl, hB0, hb0, hg7⟩
  have hG7 := hG6.trans hg7
  have hB2 := hB2.g hg7
  have hB3 := hB3.g hg7
  have hB4 := hB4.g hg7
  have hl0 := hB0.lt
  have hl2 := hB2.lt
  have hl3 := hB3.lt
  have hl4 := hB4.lt
  have hsz6 := hg6.size
  have hsz := (hg1.trans hg2).size
  refine ⟨94, #[vA ⟨b0, 0, none⟩], rfl, Try.call94, fun yv l D Rdy w8 hD hl hg8 hs8 hstab hr0 hyield => ?_⟩
  have hG8 := hG7.trans hg8
  have hB0 := hB0.g hg8
  have hB2 := hB2.g hg8
  have hB3 := hB3.g hg8
  have hB4 := hB4.g hg8
  -- what the rounds' caller may change
  obtain ⟨Y, hY⟩ : ∃ Y : Nat → Prop, Y = fun y => y = l ∨ y = b3 ∨ y = b4 := ⟨_, rfl⟩
  have hYl : ∀ y, y = l → Y y := fun y e => by rw [hY]; exact .inl e
  have hY3 : ∀ y, y = b3 → Y y := fun y e => by rw [hY]; exact .inr (.inl e)
  have hY4 : ∀ y, y = b4 → Y y := fun y e => by rw [hY]; exact .inr (.inr e)
  have hYn : ∀ {y}, Y y → y = l ∨ y = b3 ∨ y = b4 := fun e => by rw [hY] at e; exact e
  have hY0 : ¬ Y b0 := fun e => by rcases hYn e with e | e | e <;> omega
  have hY2 : ¬ Y b2 := fun e => by rcases hYn e with e | e | e <;> omega
  have hYD : ¬ Y D := fun e => by rcases hYn e with e | e | e <;> omega
  have hYw : ∀ y, y < w.heap.size → ¬ Y y := fun y hy e => by rcases hYn e with e | e | e <;> omega
  have hgrow : ∀ {v v' : World}, Grow w v → Chg Y v v' → Grow w v' := fun hg hc => Chg.fresh hg hc fun y hy => by
    by_cases e : y < w.heap.size
    · exact (hYw y e hy).elim
    · omega
  -- one round's end
  have hy : ∀ (i : Nat) (sl : Sl) (v : World), Rdy none v → Chg Y w8 v → i ≤ 65536 → (∃ x, Blk v b3 3 [x]) → (∃ x, Blk v b4 24 [x]) →
      Inv Try.prog yv [vI i, sl.val] v fun u v' => ∃ q : Bool, u = .bool q ∧ (q = decide (i < 65536) ∧ Chg Y v v' ∧ Blk v' b3 3 [vI i] ∧ Blk v' b4 24 [sl.val] ∧ Rdy (if q then none else some 0) v') := by
    intro i sl v hr hc hi ⟨x3, c3⟩ ⟨x4, c4⟩
    refine hyield ((i : Int), sl) v _ hr fun W1 hW hs => ?_
    have hW1 : Chg Y w8 W1 := hc.c (hW.mono fun y _ e => hYl y e)
    have c3 := c3.chg hW fun e => by omega
    have c4 := c4.chg hW fun e => by omega
    refine M.st0 c3 (by simp) fun W2 c3' hc2 hs2 => M.st0 (c4.chg hc2 fun e => by omega) (by simp) fun W3 c4' hc3 hs3 => ?_
    have c4' : Blk W3 b4 24 [sl.val] := c4'
    have c3' : Blk W3 b3 3 [vI i] := c3'.chg hc3 fun e => by omega
    have hW13 : Chg (fun y => y = b3 ∨ y = b4) W1 W3 := (hc2.mono fun y _ e => Or.inl e).c (hc3.mono fun y _ e => Or.inr e)
    have hB23 := hB2.chg (hW1.c (hW13.mono fun y _ e => e.elim (hY3 y) (hY4 y))) hY2
    refine M.ld0 hB23 rfl (M.if_ (fun h65 => ⟨⟨_, hW13, fun e => by omega⟩, fun W4 hc4 hs4 hr4 => ⟨false, rfl, by symm; simp; omega, ?_, c3'.chg hc4 (fun e => by omega), c4'.chg hc4 (fun e => by omega), hr4⟩⟩) (fun h65 => ⟨⟨_, hW13, fun e => by omega⟩, fun W4 hc4 hs4 hr4 => ⟨true, rfl, by symm; simp; omega, ?_, c3'.chg hc4 (fun e => by omega), c4'.chg hc4 (fun e => by omega), hr4⟩⟩))
    all_goals exact ((hW.mono fun y _ e => hYl y e).c (hW13.mono fun y _ e => e.elim (hY3 y) (hY4 y))).c (hc4.mono fun y _ e => hYl y e)
  have hc := L.moore_rounds_c1 (p0 := yv) (c0 := ⟨b0, 0, none⟩) (w := w8) (R := fun _ w2 => (∃ p, Chg p w8 w2 ∧ ¬ p D) ∧ ∃ j, Rdy j w2 ∧ ∃ (i : Int) (sl : Sl) (O : List Int), Grow w w2 ∧ Blk w2 b3 3 [vI i] ∧ Blk w2 b4 24 [sl.val] ∧ Rd 1 (fun b => ¬ Y b ∧ b ≠ D) w2 sl (O.map vI) ∧ IsNum (Mx.Alk m) (Mx.n m) O) ?_
  · refine Calls.mono hc ?_
    rintro _ w9 ⟨_, rfl, hD9, j, hj, i, sl, O, hg9, c3, c4, hO, hN⟩
    refine ⟨⟨_, rfl⟩, hD9, j, hj, fun w10 hc10 hs10 => M.drew_of fun w11 _ hg11 => ?_⟩
    have hc11 := hc10.g hg11
    have c3 := c3.chg hc11 fun e => by omega
    have c4 := c4.chg hc11 fun e => by omega
    have hO := hO.chg hc11 fun y hy e => hy.1 (hYl y e)
    have hg11' : Grow w w11 := hgrow hg9 (hc11.mono fun y _ e => hYl y e)
    refine M.ld0 c3 rfl (M.ld0 c4 rfl ⟨⟨_, hg11, fun e => e⟩, fun w12 hc12 hs12 => ⟨.inr ⟨h1, O, hN, (hO.chg hc12 fun y hy e => hy.2 e).any⟩, Chg.fresh hg11' hc12 fun y hy => by omega⟩⟩)
  -- the rounds themselves
  obtain ⟨Z, hZ⟩ : ∃ Z : Nat, 65536 ≤ Z := ⟨_, Nat.le_refl _⟩
  unfold S.moore_rounds_c1
  have hYge : ∀ {v : World}, Chg Y w8 v → ∀ y, w8.heap.size ≤ y → ¬ Y y ∧ y ≠ D := fun _ y hy => ⟨fun e => by rcases hYn e with e | e | e <;> omega, by omega⟩
  refine M.ldB 258 hB0 (Dfv_258 d) (M.call_of (quotient_Norm (h.chg hG8).label (by have : Mx.n m = m.label.length := rfl; omega)) ?_)
  rintro r2 w9 ⟨ho9, hg9⟩
  have hN0 : IsNum (Mx.alk m 0) (Mx.n m) (numI m.label) := IsNum.of_list rfl fun x y hx hy => by
    have e : ∀ z, z < Mx.n m → m.label[z]? = some (Mx.lab m z) := fun z hz => getD_some hz
    rw [e x hx, e y hy, Option.some.injEq]; rfl
  refine M.loop_at (fun q w' => Chg Y w8 w' ∧ ∃ (i : Nat) (sl : Sl) (O : List Int), q = (sl, (i : Int)) ∧ i ≤ 65536 ∧ Rdy none w' ∧ (∃ x, Blk w' b3 3 [x]) ∧ (∃ x, Blk w' b4 24 [x]) ∧ Rd 1 (fun b => ¬ Y b ∧ b ≠ D) w' sl (O.map vI) ∧ IsNum (Mx.alk m i) (Mx.n m) O) (fun q _ => ((Z : Int) - q.2).toNat)
    ⟨hg9.any, 0, r2, _, rfl, by omega, hstab _ _ _ _ hr0 hg9 (fun e => e), ⟨_, hB3.g hg9⟩, ⟨_, hB4.g hg9⟩, ho9.rd fun y hy => hYge (Chg.refl _ _) y (ho9.ge hy).1, hN0⟩ ?_
  rintro _ w10 ⟨hc10, i, sl, O, rfl, hi, hr10, hx3, hx4, hO, hN⟩
  dsimp only
  refine M.callv_of (hy i sl w10 hr10 hc10 hi hx3 hx4) ?_
  rintro _ w11 ⟨rfl, hc11, c3, c4, hr11⟩
  have hc811 := hc10.c hc11
  have hO11 := hO.chg hc11 fun y hy e => hy.1 e
  have hg811 : Grow w w11 := hgrow hG8 hc811
  have hsz11 := hc811.size
  -- where the blocks are those of states that are alike
  have hend : ∀ (w12 : World), Grow w11 w12 → (Rdy none w11 ∨ Rdy (some 0) w11) → (∀ x y, x < Mx.n m → y < Mx.n m → Mx.alk m i x y → Mx.Alk m x y) → (∃ p, Chg p w8 w12 ∧ ¬ p D) ∧ ∃ j, Rdy j w12 ∧ ∃ (i : Int) (sl : Sl) (O : List Int), Grow w w12 ∧ Blk w12 b3 3 [vI i] ∧ Blk w12 b4 24 [sl.val] ∧ Rd 1 (fun b => ¬ Y b ∧ b ≠ D) w12 sl (O.map vI) ∧ IsNum (Mx.Alk m) (Mx.n m) O := by
    intro w12 hg12 hr hA
    have hrest : ∃ (i : Int) (sl : Sl) (O : List Int), Grow w w12 ∧ Blk w12 b3 3 [vI i] ∧ Blk w12 b4 24 [sl.val] ∧ Rd 1 (fun b => ¬ Y b ∧ b ≠ D) w12 sl (O.map vI) ∧ IsNum (Mx.Alk m) (Mx.n m) O := by
      refine ⟨i, sl, O, hg811.trans hg12, c3.g hg12, c4.g hg12, hO11.g hg12, ?_⟩
      obtain ⟨bl, e, hb⟩ := hN
      exact ⟨bl, e, fun x y hx hy => (hb x y hx hy).trans ⟨hA x y hx hy, fun hh => hh i⟩⟩
    refine ⟨⟨Y, hc811.g hg12, hYD⟩, ?_⟩
    rcases hr with hr | hr
    · exact ⟨none, hstab _ _ _ _ hr hg12 (fun e => e), hrest⟩
    · exact ⟨some 0, hstab _ _ _ _ hr hg12 (fun e => e), hrest⟩
  refine M.if_ (fun hlt => ?_) (fun hge => ?_)
  · rw [decide_eq_true hlt] at hr11
    have hr11 : Rdy none w11 := hr11
    have hB0 := hB0.chg hc811 hY0
    refine M.ldA0 hB0 rfl (M.call_of (moore_round (h.chg hg811) ho hO11 hN) ?_)
    rintro r7 w12 ⟨⟨O', hO', hN'⟩, hg12⟩
    have hOl := hN.len
    have hOl' := hN'.len
    refine M.call_of (slices_Equal_int hO' (hO11.g hg12) (by simp only [Big]; omega)) ?_
    rintro _ w13 ⟨rfl, hg13⟩
    have hg1113 := hg12.trans hg13
    refine M.if_ (fun he => ?_) (fun hne => ?_)
    · subst he
      refine hend w13 hg1113 (.inl hr11) fun x y hx hy hxy => fun z => Mx.alk_stable ho (fun x y hx hy hxy => ?_) z x y hx hy hxy
      exact (Rn_alk i x y).1 ((hN'.at hx hy).1 ((hN.at hx hy).2 hxy))
    · rw [wI_succ (by simp only [Big]; omega)]
      refine ⟨⟨hc811.g hg1113, i + 1, r7, O', rfl, by omega, hstab _ _ _ _ hr11 hg1113 (fun e => e), ⟨_, c3.g hg1113⟩, ⟨_, c4.g hg1113⟩, (hO'.g hg13).mono fun y hy => ?_, ?_⟩, by (try simp only); omega⟩
      · rcases hy with hy | hy
        · exact hy
        · exact hYge hc811 y (by omega)
      · obtain ⟨bl, e, hb⟩ := hN'
        exact ⟨bl, e, fun x y hx hy => (hb x y hx hy).trans (Rn_alk i x y)⟩
  · rw [decide_eq_false hge] at hr11
    have hr11 : Rdy (some 0) w11 := hr11
    exact hend w11 (Chg.refl _ _) (.inr hr11) fun x y hx hy hxy => Mx.Alk_n ho (by omega) hx hy hxy
set_option maxRecDepth 20000 in
theorem moore_Blocks {w : World} {d : Dfv} {m : Mc} (h : DfaAt w d m) :
    Calls Try.prog 17 [.agg (Dfv.cs d).toArray].toArray w (Ret Sl.val fun r w' => ((rightB m = false ∧ r = Sl.nil) ∨ (rightB m = true ∧ ∃ L : List Int, IsNum (Mx.Alk m) (Mx.n m) L ∧ Rd 1 (fun _ => True) w' r (L.map vI))) ∧ Grow w w') := by
  apply L.moore_Blocks
  unfold S.moore_Blocks
  refine M.new_of fun b1 w1 hb1 hB1 hg1 hs1 => M.ldA0 hB1 rfl (M.call_of (e := Sl.val) (R := fun r w' => ((rightB m = false ∧ r = Sl.nil) ∨ (rightB m = true ∧ ∃ L : List Int, IsNum (Mx.Alk m) (Mx.n m) L ∧ Rd 1 (fun _ => True) w' r (L.map vI))) ∧ Grow w1 w') ?_ ?_)
  · apply L.moore_After
    unfold S.moore_After
    refine M.new_of fun b2 w2 hb2 hB2 hg2 hs2 => M.ldA0 hB2 rfl (M.call_of (moore_last (h.chg (hg1.trans hg2))) ?_)
    rintro r w3 ⟨hr, hg3⟩
    exact ⟨hr, hg2.trans hg3⟩
  · rintro r w2 ⟨hr, hg2⟩
    exact ⟨hr, hg1.trans hg2⟩
end C
end Go.Proofs.Ythepabefikobpaa
