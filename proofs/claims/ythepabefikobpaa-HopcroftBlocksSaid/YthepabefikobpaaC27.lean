/- Contracts: doubletref24 After, Blocks; doubletref25 many, Splits, Small; doubletref20 Texts, Same. Conditions: as each states. -/
import Derived.Test.YthepabefikobpaaC26
namespace Go.Proofs.Ythepabefikobpaa
open Go Go.Sh Go.Sp
namespace C
theorem r24_After {w : World} {d : Dfv} {m : Mc} (h : DfaAt w d m) (ho : Mx.Ok m) :
    Calls Try.prog 36 [.agg (Dfv.cs d).toArray, vI (Mx.n m)].toArray w (Ret Sl.val fun r w' => (∃ l, IsNum (Mx.Alk m) (Mx.n m) l ∧ Own w.heap.size w' r 3 1 (l.map vI)) ∧ Grow w w') := by
  apply L.r24_After
  unfold S.r24_After
  have hll : m.label.length = d.label.len := by simpa using h.label.len
  have hn : Mx.n m = m.label.length := rfl
  have hn2 := ho.n2
  have hiff : ∀ x y, x < Mx.n m → y < Mx.n m → (Mx.alkB m (Mx.n m) x y = true ↔ Mx.Alk m x y) := fun x y hx hy => by
    rw [Mx.alkB_iff]
    exact ⟨Mx.Alk_n ho (Nat.le_refl _) hx hy, fun hh => hh _⟩
  refine M.new_of fun b1 w1 hb1 hB1 hg1 hs1 => M.ldA0 hB1 rfl (M.call_of (r24_apart (h.chg hg1) ho) ?_)
  rintro r3 w2 ⟨⟨ss, hM⟩, hg2⟩
  have hB1 := hB1.g hg2
  have hG2 := hg1.trans hg2
  refine M.new_of fun b4 w3 hb4 hB4 hg3 hs3 => ?_
  -- the first state that is alike
  have hf : ∀ x, x < Mx.n m → ∃ y, y ≤ x ∧ Mx.Alk m x y ∧ ∀ z, z < y → ¬ Mx.Alk m x z := by
    intro x _
    have key : ∀ k, ∀ y, y ≤ k → Mx.Alk m x y → ∃ y, y ≤ k ∧ Mx.Alk m x y ∧ ∀ z, z < y → ¬ Mx.Alk m x z := by
      intro k
      induction k with
      | zero => exact fun y hy ha => ⟨y, hy, ha, fun z hz => by omega⟩
      | succ k ih =>
        intro y hy ha
        by_cases hz : ∃ z, z < y ∧ Mx.Alk m x z
        · obtain ⟨z, hz, hza⟩ := hz
          obtain ⟨y', h1, h2, h3⟩ := ih z (by omega) hza
          exact ⟨y', by omega, h2, h3⟩
        · exact ⟨y, hy, ha, fun z hz' hza => hz ⟨z, hz', hza⟩⟩
    exact key x x (Nat.le_refl _) fun j => Mx.alk_refl m j x
  obtain ⟨g, hg⟩ := Classical.axiomOfChoice (r := fun (x : Nat) (y : Nat) => x < Mx.n m → y ≤ x ∧ Mx.Alk m x y ∧ ∀ z, z < y → ¬ Mx.Alk m x z) fun x => by
    by_cases hx : x < Mx.n m
    · obtain ⟨y, hy⟩ := hf x hx
      exact ⟨y, fun _ => hy⟩
    · exact ⟨0, fun hx' => absurd hx' hx⟩
  have hacc : Own w2.heap.size w3 ⟨some ⟨b4, 0, none⟩, 0, 0⟩ 3 1 (((List.range 0).map fun x => (g x : Int)).map vI) := Own.mk (b := b4) (cs := []) rfl (by omega) hB4 (Nat.le_refl _) (by simp [maxLen]) (by simp) (by simp)
  obtain ⟨Z, hZ⟩ : ∃ Z : Nat, Mx.n m ≤ Z := ⟨_, Nat.le_refl _⟩
  refine M.loop_at (fun q w' => Grow w2 w' ∧ ∃ i : Nat, q.2 = i ∧ i ≤ Mx.n m ∧ Own w2.heap.size w' q.1 3 1 (((List.range i).map fun x => (g x : Int)).map vI)) (fun q _ => (Z - q.2).toNat) ⟨hg3, 0, rfl, by omega, hacc⟩ ?_
  rintro ⟨out, qi⟩ w4 ⟨hg4, i, rfl, hi, hout⟩
  dsimp only at hout ⊢
  have hB1 := hB1.g hg4
  have hM := hM.g hg4
  have hsz4 := hg4.size
  refine M.ldB 258 hB1 (Dfv_258 d) (M.if_ (fun hlt => ?_) (fun hge => ?_))
  · have hlt : i < Mx.n m := by omega
    obtain ⟨g1, g2, g3⟩ := hg i hlt
    refine M.loop_at (fun q w' => w' = w4 ∧ ∃ j : Nat, q = j ∧ j ≤ g i) (fun q _ => (Z - q).toNat) ⟨rfl, 0, rfl, by omega⟩ ?_
    rintro _ _ ⟨rfl, j, rfl, hj⟩
    refine M.mrow hM hlt (M.mget hM hlt (by omega) (M.ifb (fun ht => ?_) (fun ht => ?_)))
    · have hna : ¬ Mx.Alk m i j := by
        rw [← hiff i j hlt (by omega)]
        simpa using ht
      have : j ≠ g i := fun e => hna (e ▸ g2)
      rw [wI_succ (by simp only [Big]; omega)]
      exact ⟨⟨rfl, j + 1, rfl, by omega⟩, by omega⟩
    · have ha : Mx.Alk m i j := by
        rw [← hiff i j hlt (by omega)]
        simpa using ht
      have hjg : j = g i := by
        rcases Nat.lt_or_ge j (g i) with h1 | h1
        · exact absurd ha (g3 j h1)
        · omega
      have hol : out.len = i := by have := hout.len; simp at this; omega
      refine M.app Try.underlying24 (T := 3) (info := Try.t3) (z := vI 0) (m := 1) (bytes := 8) (by kernel_rfl) rfl rfl rfl rfl (by decide) hout rfl (by simp [one1]) (by omega) (by omega) (by omega) fun r w5 ho5 hl5 hc5 hb5 => ?_
      rw [wI_succ (by simp only [Big]; omega)]
      refine ⟨⟨Chg.fresh hg4 hc5 fun b hb => (hout.ge hb).1, i + 1, rfl, hlt, ?_⟩, by (try simp only); omega⟩
      rw [range_app, List.map_append, ← hjg]
      exact ho5
  · have hin : i = Mx.n m := by omega
    subst hin
    refine M.call_of (r23_Norm (hout.rd (S := fun _ => True) fun _ _ => trivial) (by simp; omega)) ?_
    rintro r17 w5 ⟨hr, hg5⟩
    refine ⟨⟨_, IsNum.of_list (by simp) fun x y hx hy => ?_, hr.base (by have := hG2.size; omega)⟩, (hG2.trans hg4).trans hg5⟩
    have e : ∀ z, z < Mx.n m → ((List.range (Mx.n m)).map fun x => (g x : Int))[z]? = some (g z : Int) := fun z hz => by simp [hz]
    rw [e x hx, e y hy, Option.some.injEq]
    obtain ⟨a1, a2, a3⟩ := hg x hx
    obtain ⟨b1, b2, b3⟩ := hg y hy
    constructor
    · intro he
      have he : g x = g y := by omega
      exact fun z => Mx.alk_trans (a2 z) (he ▸ Mx.alk_symm (b2 z))
    · intro ha
      have h1 : Mx.Alk m x (g y) := fun z => Mx.alk_trans (ha z) (b2 z)
      have h2 : Mx.Alk m y (g x) := fun z => Mx.alk_trans (Mx.alk_symm (ha z)) (a2 z)
      rcases Nat.lt_trichotomy (g x) (g y) with h | h | h
      · exact absurd h2 (b3 _ h)
      · omega
      · exact absurd h1 (a3 _ h)
theorem r24_Blocks {w : World} {d : Dfv} {m : Mc} (h : DfaAt w d m) (ho : Mx.Ok m) :
    Calls Try.prog 14 [.agg (Dfv.cs d).toArray].toArray w (Ret Sl.val fun r w' => (∃ l, IsNum (Mx.Alk m) (Mx.n m) l ∧ Own w.heap.size w' r 3 1 (l.map vI)) ∧ Grow w w') := by
  apply L.r24_Blocks
  unfold S.r24_Blocks
  have hll : m.label.length = d.label.len := by simpa using h.label.len
  have hn : Mx.n m = m.label.length := rfl
  refine M.new_of fun b1 w1 hb1 hB1 hg1 hs1 => M.ldA0 hB1 rfl (M.ldB 258 hB1 (Dfv_258 d) ?_)
  rw [← hll, ← hn]
  refine M.call_of (r24_After (h.chg hg1) ho) ?_
  rintro r w2 ⟨⟨l, h1, h2⟩, hg2⟩
  exact ⟨⟨l, h1, h2.base hg1.size⟩, hg1.trans hg2⟩
theorem r25_many {F : Nat → Prop} {w : World} {s : Sl} {l : List Int} (h : Rd 1 F w s (l.map vI)) (hb : l.length ≤ 65536) :
    Calls Try.prog 37 [s.val].toArray w (Ret vI fun r w' => r = ((fo l).length : Int) ∧ Grow w w') := by
  apply L.r25_many
  unfold S.r25_many
  refine M.call_of (r23_Norm h hb) ?_
  rintro r1 w1 ⟨h1, hg1⟩
  have hl1 : (numI l).length = r1.len := by simpa using h1.len
  rw [numI_length] at hl1
  obtain ⟨Z, hZ⟩ : ∃ Z : Nat, l.length ≤ Z := ⟨_, Nat.le_refl _⟩
  refine M.loop_at (fun q w' => w' = w1 ∧ ∃ i : Nat, q = (((fo (l.take i)).length : Int) - 1, (i : Int)) ∧ i ≤ l.length) (fun q _ => (Z - q.2).toNat) ⟨rfl, 0, rfl, by omega⟩ ?_
  rintro _ _ ⟨rfl, i, rfl, hi⟩
  dsimp only
  have hfl := fo_length_le (l.take i)
  rw [List.length_take] at hfl
  refine M.if_ (fun hlt => ?_) (fun hge => ?_)
  · have hlt : i < l.length := by omega
    obtain ⟨x, hx⟩ : ∃ x, l[i]? = some x := ⟨_, List.getElem?_eq_getElem hlt⟩
    have hget : (numI l)[(i : Int).toNat]? = some (((fo l).idxOf x : Nat) : Int) := by rw [Mx.numI_map, Int.toNat_natCast, List.getElem?_map, hx]; rfl
    refine M.rd (h1.rd (S := fun _ => True) fun _ _ => trivial) (by omega) hget ?_
    rw [wI_succ (by simp only [Big]; omega)]
    refine ⟨⟨rfl, i + 1, ?_, hlt⟩, by (try simp only); omega⟩
    rw [fo_take_succ hx]
    by_cases he : x ∈ l.take i
    · have e1 := idxOf_fo_take he
      have e2 := idxOf_lt _ _ he
      rw [if_pos he, if_neg (by omega)]
    · have e1 := (idxOf_new hx he).1
      rw [if_neg he, if_pos (by omega), List.length_append, List.length_singleton, e1]
      congr 1
      omega
  · rw [List.take_of_length_le (by omega)]
    refine ⟨?_, hg1⟩
    have := fo_length_le l
    rw [Int.sub_add_cancel, wI_id (by omega) (by omega)]
theorem r25_Splits {w : World} {d : Dfv} {m : Mc} (h : DfaAt w d m) (ho : Mx.Ok m) :
    Calls Try.prog 15 [.agg (Dfv.cs d).toArray].toArray w (Ret vI fun r w' => (∃ l : List Int, IsNum (Mx.Alk m) (Mx.n m) l ∧ r = ((fo l).length : Int) - ((fo m.label).length : Int)) ∧ Grow w w') := by
  apply L.r25_Splits
  unfold S.r25_Splits
  have hn : Mx.n m = m.label.length := rfl
  have hn2 := ho.n2
  refine M.new_of fun b1 w1 hb1 hB1 hg1 hs1 => M.drew_of fun w2 _ hg2 => ?_
  have hB1 := hB1.g hg2
  have hG2 := hg1.trans hg2
  refine M.ldA0 hB1 rfl (M.ldB 258 hB1 (Dfv_258 d) (M.call_of (r24_Blocks (h.chg hG2) ho) ?_))
  rintro r4 w3 ⟨⟨l, hl, hr4⟩, hg3⟩
  have hB1 := hB1.g hg3
  have hll := hl.len
  refine ⟨hB1.cell (Dfv_258 d), M.call_of (r25_many (hr4.rd (S := fun _ => True) fun _ _ => trivial) (by omega)) ?_⟩
  rintro r6 w4 ⟨rfl, hg4⟩
  have hG4 := (hG2.trans hg3).trans hg4
  refine ⟨(hB1.g hg4).cell (Dfv_258 d), M.call_of (r25_many (h.label.g hG4) (by omega)) ?_⟩
  rintro r8 w5 ⟨rfl, hg5⟩
  have h1 := fo_length_le l
  have h2 := fo_length_le m.label
  exact ⟨⟨l, hl, by rw [wI_id (by omega) (by omega)]⟩, hG4.trans hg5⟩
theorem r25_Small {w : World} {d : Dfv} {m : Mc} (h : DfaAt w d m) :
    Calls Try.prog 12 [.agg (Dfv.cs d).toArray].toArray w (Ret (fun x : (Dfv × Int) => .tuple #[(.agg (Dfv.cs x.1).toArray), (vI x.2)]) fun r w' =>
      ((rightB m = false ∧ r = (zeroD, 6)) ∨ (rightB m = true ∧ r.2 = 0 ∧ ∃ q, Mx.IsSm m q ∧ DfaAt w' r.1 q)) ∧ Grow w w') := by
  apply L.r25_Small
  unfold S.r25_Small
  refine M.new_of fun b1 w1 hb1 hB1 hg1 hs1 => M.new_of fun b2 w2 hb2 hB2 hg2 hs2 => ?_
  have hG2 := hg1.trans hg2
  have hB1 := hB1.g hg2
  refine M.ldA0 hB1 rfl (M.call_of (r20_Right (h.chg hG2)) ?_)
  rintro r4 w3 ⟨rfl, hg3⟩
  have hB1 := hB1.g hg3
  have hB2 := hB2.g hg3
  have hG3 := hG2.trans hg3
  refine M.ifb (fun h1 => ?_) (fun h1 => ?_)
  · exact M.stA_of hB2 (by simp [Dfv_len]) fun w4 hb4 hc4 hs4 => M.ldA0 (x := zeroD) hb4 rfl ⟨.inl ⟨by simpa using h1, rfl⟩, Chg.fresh hG3 hc4 (fun b hb => by omega)⟩
  have h1 : rightB m = true := by simpa using h1
  have ho := Mx.ok_of h1
  have hot := Mx.trim_ok ho
  have hl2 := hB2.lt
  have hsz3 := hg3.size
  have hszG := hG2.size
  have hb2n : b2 < w2.heap.size := by omega
  refine M.ldA0 hB1 rfl (M.call_of (r20_Trim (F := fun _ => True) (h.old.g hG3) ho) ?_)
  rintro r7 w4 ⟨h7, hg4⟩
  have hsz4 := hg4.size
  refine M.new_of fun b8 w5 hb8 hB8 hg5 hs5 => M.stA_of hB8 (by simp [Dfv_len]) fun w6 hB8 hc6 hs6 => M.drew_of fun w7 _ hg7 => ?_
  have hg36 : Grow w3 w6 := Chg.fresh (hg4.trans hg5) hc6 fun b hb => by omega
  have hg37 := hg36.trans hg7
  have hB8 := hB8.g hg7
  have h7 := ((h7.lt.g hg5).chg hc6 fun y hy e => by omega).g hg7
  refine M.ldA0 hB8 rfl (M.ldA0 hB8 rfl (M.call_of (r24_Blocks h7.at hot) ?_))
  rintro r11 w8 ⟨⟨l, hl, hr11⟩, hg8⟩
  refine ⟨(hB8.g hg8).cells, M.call_of (r23_Of (F := fun _ => True) (h7.g hg8) (hr11.rd fun _ _ => trivial) hot (Mx.num_stab hot hl)) ?_⟩
  rintro r13 w9 ⟨h1', h2, hg9⟩
  have hg39 := (hg37.trans hg8).trans hg9
  have hsz8 := (hg37.trans hg8).size
  refine M.stA_of (hB2.g hg39) (by simp [Dfv_len]) fun w10 hb10 hc10 hs10 => M.ldA0 hb10 rfl ⟨.inr ⟨h1, h1', _, ⟨l, hl, rfl⟩, ?_⟩, Chg.fresh (hG3.trans hg39) hc10 fun b hb => by omega⟩
  refine (h2.chg hc10 fun y hy e => ?_).at
  rcases hy with ⟨hy, _⟩ | hy
  · rcases hy with hy | hy <;> omega
  · omega
theorem r20_Texts {F F' : Nat → Prop} {w : World} {s t : Sl} {l : List ByteArray} (h : Rd 1 F w s (l.map Value.string)) (h' : Rd 1 F' w t (l.map Value.string)) (hb : l.length ≤ 65536) :
    Calls Try.prog 38 [s.val, t.val].toArray w (Ret Value.bool fun r w' => r = true ∧ Grow w w') := by
  apply L.r20_Texts
  unfold S.r20_Texts
  have hl : l.length = s.len := by simpa using h.len
  have hl' : l.length = t.len := by simpa using h'.len
  refine M.ifn (fun _ => ?_) (fun h0 => absurd (by omega) h0)
  obtain ⟨Z, hZ⟩ : ∃ Z : Nat, l.length ≤ Z := ⟨_, Nat.le_refl _⟩
  refine M.loop_at (fun q w' => Grow w w' ∧ ∃ i : Nat, q = i ∧ i ≤ l.length) (fun q _ => (Z - q).toNat) ⟨Chg.refl _ _, 0, rfl, by omega⟩ ?_
  rintro _ w1 ⟨hg1, i, rfl, hi⟩
  refine M.if_ (fun hlt => ?_) (fun hge => ⟨rfl, hg1⟩)
  have hlt : i < l.length := by omega
  refine M.drew_of fun w2 _ hg2 => ?_
  have hG := hg1.trans hg2
  refine M.rd (h.g hG) (by omega) (x := l[i]) (by simp [hlt]) (M.rd (h'.g hG) (by omega) (x := l[i]) (by simp [hlt]) ?_)
  rw [bytes_eq]
  refine M.ifn (fun _ => ?_) (fun h0 => absurd rfl h0)
  rw [wI_succ (by simp only [Big]; omega)]
  exact ⟨⟨hG, i + 1, rfl, hlt⟩, by omega⟩
theorem r20_Same {w : World} {d d' : Dfv} {m : Mc} (h : DfaAt w d m) (h' : DfaAt w d' m) (hn : m.next.length ≤ 65536) (hl : m.label.length ≤ 65536) (hm : m.names.length ≤ 65536) (hr : ∀ r ∈ m.next, r.length ≤ 65536) :
    Calls Try.prog 16 [.agg (Dfv.cs d).toArray, .agg (Dfv.cs d').toArray].toArray w (Ret Value.bool fun r w' => r = true ∧ Grow w w') := by
  apply L.r20_Same
  unfold S.r20_Same
  have e1 := h.next.len
  have e2 := h'.next.len
  refine M.new_of fun b1 w1 hb1 hB1 hg1 hs1 => M.new_of fun b2 w2 hb2 hB2 hg2 hs2 => ?_
  have hG2 := hg1.trans hg2
  have hB1 := hB1.g hg2
  refine M.join_in (M.ldA_at (x := d.of) 0 hB1 (Ar_part d) (M.ldA_at (x := d'.of) 0 hB2 (Ar_part d') ⟨_, Ar_ne _ _ _, ?_⟩))
  have e0 : allEq d.of d'.of 0 256 = true := by rw [allEq_iff, h.of, h'.of]; exact fun _ _ => rfl
  rw [e0]
  refine M.ifb (fun h0 => by cases h0) (fun _ => M.ldB 256 hB1 (Dfv_256 d) (M.ldB 256 hB2 (Dfv_256 d') (M.ifn (fun _ => ?_) (fun h0 => absurd (h.width.trans h'.width.symm) h0))))
  refine M.ldB 257 hB1 (Dfv_257 d) (M.ldB 257 hB2 (Dfv_257 d') (M.ifn (fun _ => ?_) (fun h0 => absurd (by omega) h0)))
  refine M.ldB 258 hB1 (Dfv_258 d) (M.ldB 258 hB2 (Dfv_258 d') (M.call_of (r17_Same (h.label.g hG2) (h'.label.g hG2) (by simp only [Big]; omega)) ?_))
  rintro r16 w3 ⟨rfl, hg3⟩
  have hB1 := hB1.g hg3
  have hB2 := hB2.g hg3
  have hG3 := hG2.trans hg3
  refine M.ifb (fun h0 => by simp at h0) (fun _ => M.ldB 259 hB1 (Dfv_259 d) (M.ldB 259 hB2 (Dfv_259 d') (M.call_of (r20_Texts (h.names.g hG3) (h'.names.g hG3) hm) ?_)))
  rintro r20 w4 ⟨rfl, hg4⟩
  have hB1 := hB1.g hg4
  have hB2 := hB2.g hg4
  have hG4 := hG3.trans hg4
  refine M.ifb (fun h0 => by cases h0) (fun _ => ?_)
  obtain ⟨Z, hZ⟩ : ∃ Z : Nat, m.next.length ≤ Z := ⟨_, Nat.le_refl _⟩
  refine M.loop_at (fun q w' => Grow w w' ∧ Blk w' b1 27 (Dfv.cs d) ∧ Blk w' b2 27 (Dfv.cs d') ∧ ∃ i : Nat, q = i ∧ i ≤ m.next.length) (fun q _ => (Z - q).toNat) ⟨hG4, hB1, hB2, 0, rfl, by omega⟩ ?_
  rintro _ w5 ⟨hg5, hB1, hB2, i, rfl, hi⟩
  refine M.ldB 257 hB1 (Dfv_257 d) (M.if_ (fun hlt => ?_) (fun hge => ⟨rfl, hg5⟩))
  have hlt : i < m.next.length := by omega
  refine M.drew_of fun w6 _ hg6 => ?_
  have hB1 := hB1.g hg6
  have hB2 := hB2.g hg6
  have hG6 := hg5.trans hg6
  have hrl := hr _ (List.getElem_mem hlt)
  refine M.ldB 257 hB1 (Dfv_257 d) (M.rdrd h.next hG6 (by omega) (r := m.next[i]) (by simp [hlt]) fun t1 ht1 => M.ldB 257 hB2 (Dfv_257 d') (M.rdrd h'.next hG6 (by omega) (r := m.next[i]) (by simp [hlt]) fun t2 ht2 => M.call_of (r17_Same (ht1.g hG6) (ht2.g hG6) (by simp only [Big]; omega)) ?_))
  rintro r31 w7 ⟨rfl, hg7⟩
  have hB1 := hB1.g hg7
  have hB2 := hB2.g hg7
  refine ⟨hB2.cell (Dfv_257 d'), hB1.cell (Dfv_257 d), M.ifb (fun h0 => by simp at h0) (fun _ => ?_)⟩
  rw [wI_succ (by simp only [Big]; omega)]
  exact ⟨⟨hG6.trans hg7, hB1, hB2, i + 1, rfl, hlt⟩, by omega⟩
end C
end Go.Proofs.Ythepabefikobpaa
