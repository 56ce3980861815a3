/- Contracts: a copy of a list of numbers; the states that are come upon (dfa.Reach). Conditions: as each states. -/
import Derived.Test.YthepabefikobpaaBfs
namespace Go.Proofs.Ythepabefikobpaa
open Go Go.Sh Go.Sp
namespace C
theorem Clone_int {F : Nat → Prop} {w : World} {s : Sl} {l : List Int} (h : Rd 1 F w s (l.map vI)) (hb : l.length ≤ 65536) :
    Calls Try.prog 72 [s.val].toArray w (Ret Sl.val fun r w' => Own w.heap.size w' r 3 1 (l.map vI) ∧ Grow w w') := by
  apply L.slices_Clone_Lintint
  unfold S.slices_Clone_Lintint
  have hl : l.length = s.len := by simpa using h.len
  refine M.ifb (fun h1 => ?_) (fun h1 => ?_)
  · have hn : s.addr = none := by simpa using h1
    have h0 : s.len = 0 := by
      by_cases h0 : s.len = 0
      · exact h0
      · obtain ⟨a, g, _⟩ := h.read h0
        rw [hn] at g; cases g
    have : l = [] := List.length_eq_zero_iff.1 (by omega)
    subst this
    exact ⟨Own.nil _ _ _ _, Chg.refl _ _⟩
  · have hn : s.addr ≠ none := by intro e; rw [e] at h1; cases h1
    refine M.new_of fun b w1 hb1 hblk hg hs1 => ?_
    have hown : Own w.heap.size w1 ⟨some ⟨b, 0, none⟩, 0, 0⟩ 3 1 [] := Own.mk (b := b) (cs := []) rfl (by omega) hblk (Nat.le_refl _) (by simp [maxLen]) (by simp) (by simp)
    refine M.appN Try.underlying24 (T := 3) (info := Try.t3) (z := vI 0) (m := 1) (bytes := 8) (by kernel_rfl) rfl rfl rfl rfl (by decide) hown (h.chg hg fun _ _ x => x) hn (by simp [one1]) (by omega) (by simp only; omega) (by simp only; omega) fun r w2 ho2 hl2 hc2 hb2 _ => ⟨?_, ?_⟩
    · simpa using ho2
    · exact Chg.fresh hg hc2 (fun b' hb' => (hown.ge hb').1)
theorem Reach_c1 {w0 w : World} {d : Dfv} {m : Mc} {b s : Nat} (hB : Blk w b 27 (Dfv.cs d)) (h : DfaAt w0 d m) (hg : Grow w0 w) (ho : Mx.Ok m) (hs : s < Mx.n m) :
    Calls Try.prog 45 [vI s, vA ⟨b, 0, none⟩].toArray w (Ret Sl.val fun r w' => Rd 1 (fun _ => True) w0 r (((Mx.row m s).map Int.ofNat).map vI) ∧ w' = w) := by
  apply L.dfa_Reach_c1
  unfold S.dfa_Reach_c1
  refine M.ldB 257 hB (Dfv_257 d) (M.rdrd h.next hg (by omega) (toNat_some (z := []) (by rw [ho.next]; exact hs)) fun t1 ht1 => ?_)
  rw [ho.rowEq hs] at ht1
  refine ⟨?_, rfl⟩
  rw [Mx.row, List.map_map (f := Mx.nx m s)]
  exact ht1
theorem seen_set {N : Nat} {acc : List Nat} {x : Nat} : ((List.range N).map fun y => decide (y ∈ acc)).set x true = (List.range N).map fun y => decide (y ∈ acc ++ [x]) := by
  rw [set_range_map]
  refine List.map_congr_left fun y _ => ?_
  simp only [ups]
  by_cases h : y = x
  · subst h; simp
  · simp [h]
set_option maxRecDepth 20000 in
theorem dfa_Reach {w : World} {d : Dfv} {m : Mc} (h : DfaAt w d m) :
    Calls Try.prog 20 [.agg (Dfv.cs d).toArray].toArray w (Ret Sl.val fun r w' => ((rightB m = false ∧ r = Sl.nil) ∨ (rightB m = true ∧ Rd 1 (fun _ => True) w' r (((Mx.reach m).map Int.ofNat).map vI))) ∧ Grow w w') := by
  apply L.dfa_Reach
  unfold S.dfa_Reach
  refine M.new_of fun b1 w1 hb1 hB1 hg1 hs1 => M.ldA0 hB1 rfl (M.call_of (dfa_Right (h.chg hg1)) ?_)
  rintro _ w2 ⟨rfl, hg2⟩
  have hG2 := hg1.trans hg2
  have hB1 := hB1.g hg2
  have hb14 := hB1.lt
  refine M.ifb (fun h1 => ⟨.inl ⟨by simpa using h1, rfl⟩, hG2⟩) (fun h1 => ?_)
  have h1 : rightB m = true := by simpa using h1
  have ho := Mx.ok_of h1
  have hn2 := ho.n2
  have hll : m.label.length = d.label.len := by simpa using h.label.len
  have hnL : d.label.len = Mx.n m := hll.symm
  refine M.new_of fun b4 w3 hb4 hB4 hg3 hs3 => M.ldB 258 (hB1.g hg3) (Dfv_258 d) (M.new_of fun b6 w4 hb6 hB6 hg4 hs4 => ?_)
  have hB1 := hB1.g (hg3.trans hg4)
  have hB4 := hB4.g hg4
  have hG4 := (hG2.trans hg3).trans hg4
  rw [hnL]
  refine M.call_of (e := fun v : Value => v) (R := fun v w' => ∃ c0 c1 c2, v = .func (.func 71) #[] #[vA ⟨c0, 0, none⟩, vA ⟨c1, 0, none⟩, vA ⟨c2, 0, none⟩] ∧ Blk w' c0 3 [vI (Mx.n m)] ∧ Blk w' c1 24 [Sl.val ⟨some ⟨b6, 0, none⟩, 1, 1⟩] ∧ Blk w' c2 66 [.func (.func 45) #[] #[vA ⟨b1, 0, none⟩]] ∧ w4.heap.size ≤ c0 ∧ w4.heap.size ≤ c1 ∧ w4.heap.size ≤ c2 ∧ Grow w4 w') ?_ ?_
  · apply L.dfa_walk
    unfold S.dfa_walk
    refine M.new_of fun c0 v1 hc0 hC0 hv1 hz1 => M.new_of fun c1 v2 hc1 hC1 hv2 hz2 => ⟨rfl, M.new_of fun c2 v3 hc2 hC2 hv3 hz3 => ?_⟩
    exact ⟨c0, c1, c2, rfl, hC0.g (hv2.trans hv3), hC1.g hv3, hC2, by omega, by omega, by omega, (hv1.trans hv2).trans hv3⟩
  rintro _ w5 ⟨c0, c1, c2, rfl, hC0, hC1, hC2, hc0, hc1, hc2, hg5⟩
  have hG5 := hG4.trans hg5
  have hB1 := hB1.g hg5
  have hB4 := hB4.g hg5
  have hB6 := hB6.g hg5
  have hl1 := hB1.lt
  have hl4 := hB4.lt
  have hl6 := hB6.lt
  have hlc0 := hC0.lt
  have hlc1 := hC1.lt
  have hlc2 := hC2.lt
  have hsz2 := hG2.size
  refine ⟨71, #[vA ⟨c0, 0, none⟩, vA ⟨c1, 0, none⟩, vA ⟨c2, 0, none⟩], rfl, Try.call71, fun yv l D Rdy w6 hD hl hg6 hs6 hstab hr0 hyield => ?_⟩
  have hG6 := hG5.trans hg6
  have hB1 := hB1.g hg6
  have hB4 := hB4.g hg6
  have hB6 := hB6.g hg6
  have hC0 := hC0.g hg6
  have hC1 := hC1.g hg6
  have hC2 := hC2.g hg6
  -- what the walk may change of what is there when it begins
  obtain ⟨Y, hY⟩ : ∃ Y : Nat → Prop, Y = fun y => y = l ∨ y = b4 := ⟨_, rfl⟩
  have hYl : ∀ y, y = l → Y y := fun y e => by rw [hY]; exact .inl e
  have hY4 : ∀ y, y = b4 → Y y := fun y e => by rw [hY]; exact .inr e
  have hYn : ∀ {y}, Y y → y = l ∨ y = b4 := fun e => by rw [hY] at e; exact e
  have hYb : ∀ {y}, y ≠ l → y ≠ b4 → ¬ Y y := fun h1 h2 e => by rcases hYn e with e | e <;> omega
  have hgrow : ∀ {v v' : World}, Grow w v → Chg Y v v' → Grow w v' := fun hg hc => Chg.fresh hg hc fun y hy => by rcases hYn hy with e | e <;> omega
  -- one state is told
  have hy : ∀ (x : Nat) (acc : List Nat) (sl : Sl) (v : World), Rdy none v → Chg Y w6 v → acc.length ≤ 65536 → Blk v b4 24 [sl.val] → Own w6.heap.size v sl 3 1 ((acc.map Int.ofNat).map vI) →
      Inv Try.prog yv [vI x] v fun u v' => ∃ q : Bool, u = .bool q ∧ (q = true ∧ Rdy none v' ∧ ∃ sl' : Sl, Chg (fun y => Y y ∨ ownb sl y) v v' ∧ Blk v' b4 24 [sl'.val] ∧ Own w6.heap.size v' sl' 3 1 (((acc ++ [x]).map Int.ofNat).map vI) ∧ ∀ b, ownb sl' b → ownb sl b ∨ v.heap.size ≤ b) := by
    intro x acc sl v hr hc hi hb ha
    have hvs := hc.size
    refine hyield (x : Int) v _ hr fun W1 hW hs => ?_
    have hnl : ∀ b, ownb sl b → ¬ b = l := fun b hb e => by have := (ha.ge hb).1; omega
    have ha1 := ha.chg hW hnl
    have hb1 := hb.chg hW fun e => by omega
    have hlen : sl.len = acc.length := by have := ha.len; simp at this; omega
    refine M.ld0 hb1 rfl (M.app Try.underlying24 (T := 3) (info := Try.t3) (z := vI 0) (m := 1) (bytes := 8) (by kernel_rfl) rfl rfl rfl rfl (by decide) ha1 rfl (by simp [one1]) (by omega) (by omega) (by omega) fun r w7 ho7 hl7 hc7 hb7 => ?_)
    have hb7' := hb1.chg hc7 fun e => by have := (ha.ge e).1; omega
    refine M.st0 hb7' (by simp) fun w8 hB8 hc8 hs8 => ?_
    have hB8 : Blk w8 b4 24 [r.val] := hB8
    have hnr : ∀ b, ownb r b → ¬ b = b4 := fun b hb e => by have := (ho7.ge hb).1; omega
    have ho8 := ho7.chg hc8 hnr
    have hW18 : Chg (fun y => y = b4 ∨ ownb sl y) W1 w8 := (hc7.mono fun y _ e => Or.inr e).c (hc8.mono fun y _ e => Or.inl e)
    refine ⟨⟨_, hW18, fun e => ?_⟩, fun W3 hc3 hs3 hr3 => ⟨true, rfl, rfl, hr3, r, ?_, hB8.chg hc3 fun e => by omega, ?_, fun b hb => ?_⟩⟩
    · rcases e with e | e
      · omega
      · exact hnl _ e rfl
    · exact ((hW.mono fun y _ e => Or.inl (hYl y e)).c (hW18.mono fun y _ e => e.imp (hY4 y) id)).c (hc3.mono fun y _ e => Or.inl (hYl y e))
    · have := ho8.chg hc3 fun b hb e => by have := (ho8.ge hb).1; omega
      simpa using this
    · rcases hb7 b hb with e | e
      · exact .inl e
      · right; omega
  have hc := L.dfa_walk_c1 (p0 := yv) (c0 := ⟨c0, 0, none⟩) (c1 := ⟨c1, 0, none⟩) (c2 := ⟨c2, 0, none⟩) (w := w6) (R := fun _ w2 => Chg Y w6 w2 ∧ Rdy none w2 ∧ ∃ sl : Sl, Blk w2 b4 24 [sl.val] ∧ Own w6.heap.size w2 sl 3 1 (((Mx.reach m).map Int.ofNat).map vI)) ?_
  · refine Calls.mono hc ?_
    rintro _ w9 ⟨_, rfl, hc9, hj, sl, hb, ho⟩
    refine ⟨⟨_, rfl⟩, ⟨Y, hc9, hYb (by omega) (by omega)⟩, none, hj, fun w10 hc10 hs10 => ?_⟩
    have hb := hb.chg hc10 fun e => by omega
    have ho := ho.chg hc10 fun b hb e => by have := (ho.ge hb).1; omega
    have hg10 : Grow w w10 := hgrow hG6 (hc9.c (hc10.mono fun y _ e => hYl y e))
    refine M.ld0 hb rfl ⟨⟨_, Chg.refl (fun _ => False) _, fun e => e⟩, fun w12 hc12 hs12 => ⟨.inr ⟨h1, ?_⟩, Chg.fresh hg10 hc12 fun y hy => by omega⟩⟩
    exact (ho.chg hc12 fun b hb e => by have := (ho.ge hb).1; omega).rd fun _ _ => trivial
  unfold S.dfa_walk_c1
  refine M.ld0 hC0 rfl ?_
  refine M.mkSl Try.underlying82 (T := 4) (info := Try.t4) (z := .bool false) (by kernel_rfl) rfl rfl rfl (by simp only [Try.t4]; omega) (by simp only [maxLen]; omega) fun s2 w7 hs2 hs2l hs2b hg7 => ?_
  refine M.ld0 (hC1.g hg7) rfl (M.call_of (Clone_int (F := fun _ => True) (l := [0]) ?_ (by simp)) ?_)
  · have := (hB6.g hg7)
    exact ⟨rfl, Nat.le_refl _, fun _ => ⟨_, rfl, rfl, trivial, fun i v hv => this.cell (by simpa using hv)⟩⟩
  rintro r4 w8 ⟨ho4, hg8⟩
  have hg78 := hg7.trans hg8
  have hlt7 : ∀ b, ownb s2 b → b < w7.heap.size := fun b hb => (hs2.ge hb).2
  have hs2 := hs2.g hg8
  have hsz7 := hg7.size
  have hn24 : ∀ b, ownb s2 b → b = w6.heap.size := hs2b
  have hr4b : ∀ b, ownb r4 b → w7.heap.size ≤ b := fun b hb => (ho4.ge hb).1
  have hnpos := ho.n1
  have hw67 : w6.heap.size < w7.heap.size := by
    rcases (hs2.chg (Chg.refl (fun _ => False) _) fun _ _ x => x).out.2 with e | ⟨b, cs, e1, e2, _⟩
    · rw [e] at hs2l; simp [Sl.nil] at hs2l; omega
    · have := hs2b b ⟨_, e1, rfl⟩
      have := hlt7 b ⟨_, e1, rfl⟩
      omega
  refine M.ld0 (hC1.g hg78) rfl ?_
  have hB6' := hB6.g hg78
  have hd0 : ∀ b, ownb s2 b → ¬ ownb r4 b := fun b hb e => by have := hs2b b hb; have := hr4b b e; omega
  have hs20 : Own w6.heap.size w8 s2 4 1 (((List.range (Mx.n m)).map fun y => decide (y ∈ ([0] : List Nat).take 0)).map Value.bool) := by
    simpa [rep_range, Function.comp_def] using hs2
  refine M.loop_at (fun q w' => Chg (ownb s2) w8 w' ∧ ∃ i : Nat, q = i ∧ i ≤ 1 ∧ Own w6.heap.size w' s2 4 1 (((List.range (Mx.n m)).map fun y => decide (y ∈ ([0] : List Nat).take i)).map Value.bool)) (fun q _ => (1 - q).toNat)
    ⟨Chg.refl _ _, 0, rfl, by omega, hs20⟩ ?_
  rintro _ w9 ⟨hc9, i, rfl, hi, hs9⟩
  dsimp only
  refine M.if_ (fun hlt => ?_) (fun hge => ?_)
  · have : i = 0 := by omega
    subst this
    have hB9 := hB6'.chg hc9 fun e => by have := hs2b _ e; omega
    refine M.rd (S := fun _ => True) (L := [(0 : Int)]) ⟨rfl, Nat.le_refl _, fun _ => ⟨_, rfl, rfl, trivial, fun i v hv => hB9.cell (by simpa using hv)⟩⟩ (by omega) (x := 0) rfl ?_
    refine M.wr (i := 0) (x := true) hs9 (by simp; omega) fun w10 hs10 hc10 _ => ?_
    rw [seen_set] at hs10
    rw [wI_succ (by simp only [Big]; omega)]
    exact ⟨⟨hc9.c hc10, 1, rfl, by omega, by simpa using hs10⟩, by (try simp only); omega⟩
  have : i = 1 := by omega
  subst this
  have hg9 : Grow w6 w9 := Chg.fresh hg78 hc9 fun b hb => by have := hs2b b hb; omega
  have hr49 := (ho4.chg hc9 fun b hb e => hd0 b e hb).base (n' := w6.heap.size) (by omega)
  have hsz69 := hg9.size
  obtain ⟨Z, hZ⟩ : ∃ Z : Nat, Mx.n m ≤ Z := ⟨_, Nat.le_refl _⟩
  refine M.loop_at (fun q w' => Chg Y w6 w' ∧ ∃ (i : Nat) (sl : Sl), q.2 = i ∧ i ≤ (Mx.bf m i).length ∧ Rdy none w' ∧ Blk w' b4 24 [sl.val] ∧ Own w6.heap.size w' sl 3 1 ((((Mx.bf m i).take i).map Int.ofNat).map vI) ∧
      Own w6.heap.size w' s2 4 1 (((List.range (Mx.n m)).map fun y => decide (y ∈ Mx.bf m i)).map Value.bool) ∧ Own w6.heap.size w' q.1 3 1 (((Mx.bf m i).map Int.ofNat).map vI) ∧
      (∀ b, ownb s2 b → ¬ ownb q.1 b ∧ ¬ ownb sl b) ∧ ∀ b, ownb q.1 b → ¬ ownb sl b) (fun q _ => (Z - q.2).toNat)
    ⟨hg9.any, 0, Sl.nil, rfl, by omega, hstab _ _ _ _ hr0 hg9 (fun e => e), hB4.g hg9, Own.nil _ _ _ _, by simpa [Mx.bf] using hs9, by simpa [Mx.bf] using hr49, fun b hb => ⟨hd0 b hb, fun ⟨_, e, _⟩ => by cases e⟩, fun b _ ⟨_, e, _⟩ => by cases e⟩ ?_
  rintro ⟨out, qi⟩ w10 ⟨hc10, i, sl, rfl, hi, hr10, hb4', hsl, hsn, hout, hd1, hd2⟩
  dsimp only at hout hd1 hd2 ⊢
  have hle := Mx.bf_le ho i
  have hol : (Mx.bf m i).length = out.len := by simpa using hout.len
  refine M.if_ (fun hlt => ?_) (fun hge => ?_)
  · have hlt : i < (Mx.bf m i).length := by omega
    have hx := Mx.bf_lt ho i _ (Mx.getD_mem hlt)
    obtain ⟨x, hxe⟩ : ∃ x, x = (Mx.bf m i).getD i 0 := ⟨_, rfl⟩
    have hget : (Mx.bf m i)[i]? = some x := by rw [hxe]; exact getD_some hlt
    rw [← hxe] at hx
    have hgetI : ((Mx.bf m i).map Int.ofNat)[(i : Int).toNat]? = some (x : Int) := by simp [hget]
    refine M.rd (hout.rd (S := fun _ => True) fun _ _ => trivial) (by omega) hgetI ?_
    refine M.callv_of (hy x _ sl w10 hr10 hc10 (by rw [List.length_take]; omega) hb4' hsl) ?_
    have hoz : ∀ b, ownb out b → b < w10.heap.size := fun b hb => (hout.ge hb).2
    have hsz : ∀ b, ownb s2 b → b < w10.heap.size := fun b hb => (hsn.ge hb).2
    have hsz10 := hc10.size
    rintro _ w11 ⟨rfl, hr11, sl2, hc11, hb11, hsl2, hdn⟩
    have hn10 : ∀ b, w6.heap.size ≤ b → ¬ Y b := fun b hb => hYb (by omega) (by omega)
    have hcY11 : Chg Y w6 w11 := hc10.trans hc11 fun b hb e => e.elim id fun e => by have := (hsl.ge e).1; omega
    have hsn := hsn.chg hc11 fun b hb e => e.elim (hn10 b (hsn.ge hb).1) (hd1 b hb).2
    have hout := hout.chg hc11 fun b hb e => e.elim (hn10 b (hout.ge hb).1) (hd2 b hb)
    have hsz10 := hc10.size
    have hd1' : ∀ b, ownb s2 b → ¬ ownb out b ∧ ¬ ownb sl2 b := fun b hb => ⟨(hd1 b hb).1, fun e => by
      rcases hdn b e with e | e
      · exact (hd1 b hb).2 e
      · have := hsz b hb; omega⟩
    have hd2' : ∀ b, ownb out b → ¬ ownb sl2 b := fun b hb e => by
      rcases hdn b e with e | e
      · exact hd2 b hb e
      · have := hoz b hb; omega
    refine M.ifb (fun h => by cases h) (fun _ => M.drew_of fun w12 _ hg12 => ?_)
    have hc12 := hcY11.g hg12
    have hout := hout.g hg12
    refine M.ld0 (hC2.chg hc12 (hYb (by omega) (by omega))) rfl (M.rd (hout.rd (S := fun _ => True) fun _ _ => trivial) (by omega) hgetI ?_)
    have hB1' := hB1.chg hc12 (hYb (by omega) (by omega))
    have hG12 := hgrow hG6 hc12
    refine M.callv_of (inv_of (cs := [vA ⟨b1, 0, none⟩]) (args := [vI x]) Try.call45 (Reach_c1 hB1' h hG12 ho hx) fun r w' hr => ⟨r, rfl, hr⟩) ?_
    rintro r19 w12' ⟨hrow, hw⟩
    have hw := hw.symm
    subst hw
    have hrl : (Mx.row m x).length = r19.len := by simpa using hrow.len
    have hsn := hsn.g hg12
    have hrl2 : (Mx.row m x).length ≤ 256 := by rw [Mx.row, List.length_map, List.length_range]; exact ho.k2
    have hext : ∀ j, (Mx.ext ((Mx.row m x).take j) (Mx.bf m i)).Nodup ∧ ∀ y ∈ Mx.ext ((Mx.row m x).take j) (Mx.bf m i), y < Mx.n m := by
      intro j
      refine ⟨Mx.ext_nodup _ _ (Mx.bf_nodup i), fun y hy => ?_⟩
      rw [Mx.ext_mem] at hy
      rcases hy with hy | hy
      · exact Mx.bf_lt ho i y hy
      · have := List.mem_of_mem_take hy
        rw [Mx.row, List.mem_map] at this
        obtain ⟨c, hc, rfl⟩ := this
        exact (ho.nx x c hx (List.mem_range.1 hc)).1
    have hsz12 := hc12.size
    have hsz1012 := (hc11.g hg12).size
    refine M.loop_at (fun q w' => Chg (fun b => ownb s2 b ∨ ownb out b) w12 w' ∧ ∃ j : Nat, q.2 = j ∧ j ≤ (Mx.row m x).length ∧
        Own w6.heap.size w' s2 4 1 (((List.range (Mx.n m)).map fun y => decide (y ∈ Mx.ext ((Mx.row m x).take j) (Mx.bf m i))).map Value.bool) ∧ Own w6.heap.size w' q.1 3 1 (((Mx.ext ((Mx.row m x).take j) (Mx.bf m i)).map Int.ofNat).map vI) ∧
        ∀ b, ownb q.1 b → ownb out b ∨ w12.heap.size ≤ b) (fun q _ => (256 - q.2).toNat)
      ⟨Chg.refl _ _, 0, rfl, by omega, hsn, hout, fun b hb => .inl hb⟩ ?_
    rintro ⟨acc, qj⟩ w13 ⟨hc13, j, rfl, hj, hsn, hacc, hda⟩
    dsimp only at hacc hda ⊢
    have hs2w : ∀ b, ownb s2 b → b < w12.heap.size := fun b hb => by have := hsz b hb; omega
    have hda2 : ∀ b, ownb s2 b → ¬ ownb acc b := fun b hb e => by
      rcases hda b e with e | e
      · exact (hd1 b hb).1 e
      · have := hs2w b hb; omega
    refine M.if_ (fun hlt2 => ?_) (fun hge2 => ?_)
    · have hlt2 : j < (Mx.row m x).length := by omega
      obtain ⟨z, hz⟩ : ∃ z, (Mx.row m x)[j]? = some z := ⟨_, List.getElem?_eq_getElem hlt2⟩
      have hzn : z < Mx.n m := by
        have := List.mem_of_getElem? hz
        rw [Mx.row, List.mem_map] at this
        obtain ⟨c, hc, rfl⟩ := this
        exact (ho.nx x c hx (List.mem_range.1 hc)).1
      have htk : Mx.ext ((Mx.row m x).take (j + 1)) (Mx.bf m i) = if z ∈ Mx.ext ((Mx.row m x).take j) (Mx.bf m i) then Mx.ext ((Mx.row m x).take j) (Mx.bf m i) else Mx.ext ((Mx.row m x).take j) (Mx.bf m i) ++ [z] := by
        rw [List.take_add_one, hz]; exact Mx.ext_snoc _ _ _
      have hro : ∀ b, ownb s2 b ∨ ownb out b → w6.heap.size ≤ b := fun b hb => hb.elim (fun hb => by have := hs2b b hb; omega) fun hb => (hout.ge hb).1
      have hrow13 : Rd 1 (fun _ => True) w13 r19 (((Mx.row m x).map Int.ofNat).map vI) := hrow.chg (hgrow hG6 (hc12.trans hc13 fun b hb e => by have := hro b e; omega)) fun _ _ x => x
      refine M.rd hrow13 (by omega) (x := (z : Int)) (by simp [hz]) ?_
      refine M.rd (hsn.rd (S := fun _ => True) fun _ _ => trivial) (by omega) (x := decide (z ∈ Mx.ext ((Mx.row m x).take j) (Mx.bf m i))) (by simp [hzn]) ?_
      refine M.if_ (fun hin => ?_) (fun hin => ?_)
      · rw [wI_succ (by simp only [Big]; omega)]
        refine ⟨⟨hc13, j + 1, rfl, by omega, ?_, ?_, hda⟩, by (try simp only); omega⟩
        all_goals rw [htk, if_pos hin]
        · exact hsn
        · exact hacc
      · refine M.wr (i := z) (x := true) hsn (by simp; omega) fun w14 hs14 hc14 hz14 => ?_
        rw [seen_set] at hs14
        have hacc := hacc.chg hc14 fun b hb e => hda2 b e hb
        have hacl : acc.len = (Mx.ext ((Mx.row m x).take j) (Mx.bf m i)).length := by have := hacc.len; simp at this; omega
        have haln := nodup_le _ _ (hext j).1 (hext j).2
        have hsz13 := hc13.size
        refine M.app Try.underlying24 (T := 3) (info := Try.t3) (z := vI 0) (m := 1) (bytes := 8) (by kernel_rfl) rfl rfl rfl rfl (by decide) hacc rfl (by simp [one1]) (by omega) (by omega) (by omega) fun r w15 ho15 hl15 hc15 hb15 => ?_
        rw [wI_succ (by simp only [Big]; omega)]
        refine ⟨⟨?_, j + 1, rfl, by omega, ?_, ?_, fun b hb => ?_⟩, by (try simp only); omega⟩
        · refine hc13.trans ((hc14.mono (q := fun b => ownb s2 b ∨ ownb acc b) fun b _ hb => Or.inl hb).c (hc15.mono fun b _ hb => Or.inr hb)) fun b hb e => e.imp id fun e => ?_
          rcases hda b e with e | e
          · exact e
          · omega
        · rw [htk, if_neg hin]
          exact hs14.chg hc15 fun b hb e => hda2 b hb e
        · rw [htk, if_neg hin]
          simpa using ho15
        · rcases hb15 b hb with e | e
          · exact hda b e
          · right; omega
    · have hjl : j = (Mx.row m x).length := by omega
      subst hjl
      rw [List.take_of_length_le (Nat.le_refl _)] at hsn hacc
      have hbs : Mx.bf m (i + 1) = Mx.ext (Mx.row m x) (Mx.bf m i) := by rw [Mx.bf, if_pos hlt, ← hxe]
      rw [← hbs] at hsn hacc
      rw [wI_succ (by simp only [Big]; omega)]
      have hc1213 : Chg Y w6 w13 := hc12.trans hc13 fun b hb e => e.elim (fun e => by have := hs2b b e; omega) fun e => by have := (hout.ge e).1; omega
      have hno : ∀ b, b < w6.heap.size → ¬ (ownb s2 b ∨ ownb out b) := fun b hb e => e.elim (fun e => by have := hs2b b e; omega) fun e => by have := (hout.ge e).1; omega
      have hi1 : i + 1 ≤ (Mx.bf m (i + 1)).length := by
        have := (Mx.bf_pre1 (m := m) i).length_le
        omega
      have hsl2n : ∀ b, ownb sl2 b → ¬ (ownb s2 b ∨ ownb out b) := fun b hb e => e.elim (fun e => (hd1' b e).2 hb) fun e => hd2' b e hb
      refine ⟨⟨hc1213, i + 1, sl2, rfl, hi1, ?_, ?_, ?_, hsn, hacc, fun b hb => ⟨hda2 b hb, (hd1' b hb).2⟩, fun b hb e => ?_⟩, by (try simp only); omega⟩
      · exact hstab _ _ _ _ (hstab _ _ _ _ hr11 hg12 (fun e => e)) hc13 (hno l (by omega))
      · exact (hb11.g hg12).chg hc13 (hno b4 (by omega))
      · have h5 := (hsl2.g hg12).chg hc13 hsl2n
        have e : (Mx.bf m (i + 1)).take (i + 1) = (Mx.bf m i).take i ++ [x] := by
          obtain ⟨t, ht⟩ := Mx.bf_pre1 (m := m) i
          rw [← ht, List.take_append_of_le_length (by omega), List.take_add_one, hget]; rfl
        rw [e]
        exact h5
      · rcases hda b hb with h6 | h6
        · exact hd2' b h6 e
        · have := (hsl2.ge e).2; have := hg12.size; omega
  · have he : Mx.bf m i = Mx.reach m := Mx.bf_end ho (by omega)
    refine ⟨hc10, hr10, sl, hb4', ?_⟩
    have e : (Mx.bf m i).take i = Mx.reach m := by rw [List.take_of_length_le (by omega), he]
    rw [e] at hsl
    exact hsl
end C
end Go.Proofs.Ythepabefikobpaa
