/- Contract: a parter of the states of one label (hopcroft.newParter). Conditions: as it states. -/
import Derived.Test.YthepabefikobpaaC12
import Derived.Test.YthepabefikobpaaHop3
namespace Go.Proofs.Ythepabefikobpaa
open Go Go.Sh Go.Sp
namespace C
/-- From which states one is behind, by a class. -/
def bkOf (m : Mc) (k t : Nat) : List Nat := (List.range (Mx.n m)).filter fun s => decide (Mx.nx m s k = t)
theorem mem_bkOf {m : Mc} {k t x : Nat} : x ∈ bkOf m k t ↔ x < Mx.n m ∧ Mx.nx m x k = t := by simp [bkOf]
theorem cmp_c1 {n0 N b b4 : Nat} {w : World} {p : Ptv} {bl : Nat → Nat} {x y : Nat} (hb : Blk w b 52 (Ptv.cs p)) (hbl : Arr n0 w p.block N (nI bl)) (hb4 : Blk w b4 45 [vA ⟨b, 0, none⟩]) (hx : x < N) (hy : y < N) (hlt : ∀ z, z < N → bl z ≤ 65536) :
    Calls Try.prog 54 [vI x, vI y, vA ⟨b4, 0, none⟩].toArray w (Ret vI fun r w' => (r < 0 ↔ bl x < bl y) ∧ Grow w w') := by
  apply L.hopcroft_newParter_c1
  unfold S.hopcroft_newParter_c1
  refine M.drew_of fun w1 _ hg1 => ?_
  have hb := hb.g hg1
  have hbl := hbl.g hg1
  have hb4 := hb4.g hg1
  have h1 := hlt x hx
  have h2 := hlt y hy
  refine M.ld0 (x := some ⟨b, 0, none⟩) hb4 rfl (M.nn_of (M.ldB 2 hb rfl (M.arR hbl x rfl hx (M.ld0 (x := some ⟨b, 0, none⟩) hb4 rfl (M.nn_of (M.ldB 2 hb rfl (M.arR hbl y rfl hy ⟨?_, hg1⟩)))))))
  simp only [nI]
  rw [wI_id (by omega) (by omega)]
  omega
theorem M.new_chk {γ : Type} {k : γ → World → Prop} {w : World} {T : TypeId} {cs : List Value} {p : World → Prop} {g : Addr → M γ} (hp : ∀ w', Grow w w' → p w') (h : M.new T cs g w k) : M.new T cs (fun b => M.chk p (g b)) w k := ⟨hp _ (Grow.alloc w _), h⟩
/-- One row of what is behind. -/
def BkRow (S : Nat → Prop) (w : World) (s : Sl) (N : Nat) (f : Nat → List Nat) : Prop :=
  ∃ tt : List Sl, Rd 1 S w s (tt.map Sl.val) ∧ tt.length = N ∧ ∀ (i : Nat) (u : Sl), tt[i]? = some u → Rd 1 S w u (((f i).map Int.ofNat).map vI)
theorem BkRow.chg {S p : Nat → Prop} {w w' : World} {s : Sl} {N : Nat} {f : Nat → List Nat} (h : BkRow S w s N f) (hc : Chg p w w') (hp : ∀ b, S b → ¬ p b) : BkRow S w' s N f := by
  obtain ⟨tt, g1, g2, g3⟩ := h
  exact ⟨tt, g1.chg hc hp, g2, fun i u hu => (g3 i u hu).chg hc hp⟩
theorem BkRow.mono2 {S S' : Nat → Prop} {w : World} {s : Sl} {N : Nat} {f : Nat → List Nat} (h : BkRow S w s N f) (hs : ∀ b, b < w.heap.size → S b → S' b) : BkRow S' w s N f := by
  obtain ⟨tt, g1, g2, g3⟩ := h
  exact ⟨tt, g1.mono2 (by decide) hs, g2, fun i u hu => (g3 i u hu).mono2 (by decide) hs⟩
theorem newParter {d : Dfv} {m : Mc} {w : World} (h : DfaAt w d m) (ho : Mx.Ok m) :
    Calls Try.prog 27 [.agg (Dfv.cs d).toArray].toArray w (Ret vP fun r w' => (∃ n0 b tag p s, w.heap.size ≤ n0 ∧ r = some ⟨b, 0, none⟩ ∧ PM n0 (Mx.n m) (Mx.k m) (bkOf m) w' tag b p s ∧ PI (Mx.n m) s ∧ (∀ c, c < s.B → s.md c = 0) ∧ s.W = [] ∧ (∀ x y, x < Mx.n m → y < Mx.n m → (s.bl x = s.bl y ↔ Mx.lab m x = Mx.lab m y))) ∧ Grow w w') := by
  apply L.hopcroft_newParter
  unfold S.hopcroft_newParter
  have hn2 := ho.n2
  have hnl := h.next.len
  have hll : m.label.length = d.label.len := by simpa using h.label.len
  have hn : Mx.n m = m.label.length := rfl
  have hkk := ho.k2
  have hwk : d.width = (Mx.k m : Int) := h.width.trans ho.width
  refine M.new_of fun b1 w1 hb1 hB1 hg1 hs1 => M.ldB 258 hB1 (Dfv_258 d) ?_
  have hlen : ((d.label.len : Nat) : Int) = ((Mx.n m : Nat) : Int) := by omega
  rw [hlen]
  refine np_region hB1 (h.label.g hg1) rfl hn2 fun tag b4 b p w2 hg2 h0 hb4 ht4 hb htb hp => ?_
  obtain ⟨⟨p1, p2⟩, ⟨p3, p4⟩, ⟨p5, p6⟩, ⟨mp, p7, p8, p9⟩, p10, p11, p12, p13⟩ := hp
  have hN0 : Mx.n m = m.label.length := rfl
  obtain ⟨N, hN⟩ : ∃ N, N = Mx.n m := ⟨_, rfl⟩
  rw [← hN] at p1 p3 ⊢
  -- the blocks that the labels give
  obtain ⟨bl, hbl⟩ : ∃ bl : Nat → Nat, bl = fun x => (num m.label).getD x 0 := ⟨_, rfl⟩
  have hblN : ∀ x, x < N → bl x < (fo m.label).length := fun x hx => by
    have h1 : x < (num m.label).length := by rw [num_length]; omega
    refine num_lt m.label _ ?_
    rw [hbl]
    simp only [List.getD_eq_getElem?_getD, List.getElem?_eq_getElem h1, Option.getD_some]
    exact List.getElem_mem h1
  have hfl := fo_length_le m.label
  have hblA : Arr w1.heap.size w2 p.block N (nI bl) := by
    have e : numI m.label = (List.range N).map (nI bl) := by
      apply List.ext_getElem?
      intro i
      by_cases hi : i < N
      · have h1 : i < (num m.label).length := by rw [num_length]; omega
        simp only [numI, List.getElem?_map, List.getElem?_range hi, Option.map_some, nI, hbl, List.getElem?_eq_getElem h1, List.getD_eq_getElem?_getD, Option.getD_some]
        rfl
      · rw [List.getElem?_eq_none (by rw [numI_length]; omega), List.getElem?_eq_none (by simp; omega)]
    unfold Arr
    rw [← e]
    exact p5
  have hrep : (List.replicate N (vI 0)) = (((List.range N).map (nI fun _ => 0)).map vI) := by
    rw [rep_range, List.map_map]; rfl
  have hge : ∀ x, 1 ≤ tag x → tag x ≤ 7 → w1.heap.size ≤ x := fun x h1 _ => by
    by_cases hx : x < w1.heap.size
    · have := h0 x hx; omega
    · omega
  have hA : PMb w1.heap.size N (Mx.k m) w2 tag b p ⟨fun _ => 0, fun _ => 0, bl, 0, fun _ => 0, fun _ => 0, fun _ => 0, []⟩ := {
    nz := hg2.size
    blk := hb
    tb := htb
    st := by unfold Arr; rw [← hrep]; exact p1
    tst := p2
    pos := by unfold Arr; rw [← hrep]; exact p3
    tpos := p4
    bl := hblA
    tbl := p6
    sp := by rw [p10]; exact Own.nil _ _ _ _
    tsp := by rw [p10]; rintro x ⟨a, e, _⟩; cases e
    wt := by rw [p12]; exact .inl ⟨Own.nil _ _ _ _, by rintro x ⟨a, e, _⟩; cases e⟩
    ask := ⟨mp, [], p7, p9, p8, by simp, fun q => by simp [assoc]⟩
    width := by rw [p13, hwk]
    ge := hge }
  have hb4b : b4 ≠ b := fun e => by rw [e, htb] at ht4; omega
  have hblk : ∀ {w' : World} {q : Nat → Prop}, Chg q w2 w' → (∀ y, q y → tag y ≠ 9) → Blk w' b4 45 [vA ⟨b, 0, none⟩] := fun hc hq => hb4.chg hc fun e => hq _ e ht4
  have hgw2 := hg1.trans hg2
  have hltB := hB1.lt
  clear p1 p2 p3 p4 p5 p6 p7 p8 p9 hb hblA hrep
  -- the states, one by one
  refine M.loop_at (fun q w' => Chg (ownb p.states) w2 w' ∧ ∃ i : Nat, q = (i : Int) ∧ i ≤ N ∧ Arr w1.heap.size w' p.states N (nI fun x => if x < i then x else 0)) (fun q _ => ((N : Int) - q).toNat)
    ⟨Chg.refl _ _, 0, rfl, by omega, hA.st.congr fun x _ => by simp [nI]⟩ ?_
  rintro _ w3 ⟨hc3, i, rfl, hi, ha3⟩
  have hA3 := PMb.setSt hA hc3 ha3
  have hb43 := hblk hc3 fun y hy => by rw [hA.tst y hy]; omega
  refine M.if_ (fun hlt => ?_) (fun hge2 => ?_)
  · have hlt : i < N := by omega
    refine M.ld0 (x := some ⟨b, 0, none⟩) hb43 rfl (M.nn_of (M.ldB 0 hA3.blk rfl (M.arW ha3 i rfl hlt fun w4 ha4 hc4 _ => ?_)))
    rw [wI_succ (by simp only [Big]; omega)]
    refine ⟨⟨hc3.c hc4, i + 1, rfl, by omega, ha4.congr fun x _ => ?_⟩, by omega⟩
    simp only [ups, nI]
    by_cases e : x = i
    · rw [if_pos e, if_pos (by omega), e]
    · rw [if_neg e]
      by_cases e2 : x < i
      · rw [if_pos e2, if_pos (by omega)]
      · rw [if_neg e2, if_neg (by omega)]
  obtain rfl : i = N := by omega
  have hA3' : Arr w1.heap.size w3 p.states i (fun x => (x : Int)) := ha3.congr fun x hx => by simp only [nI]; rw [if_pos hx]
  refine M.ld0 (x := some ⟨b, 0, none⟩) hb43 rfl (M.nn_of (M.ldB 0 hA3.blk rfl ?_))
  -- they are sorted
  refine M.call_of (slices_SortStable (κ := fun v => (bl v.toNat : Int)) (D := fun v => ∃ x : Nat, x < i ∧ v = x) hA3' (by omega) ?_ fun x hx => ⟨x, hx, rfl⟩) ?_
  · rintro w' _ _ hc ⟨x, hx, rfl⟩ ⟨y, hy, rfl⟩
    have hne : ∀ {y j : Nat}, tag y = j → j ≠ 2 → ¬ ownb p.states y := fun h1 h2 e => by have := hA.tst _ e; omega
    have hb4' := hb43.chg hc (hne ht4 (by omega))
    refine inv_of (cs := [vA ⟨b4, 0, none⟩]) (args := [vI x, vI y]) Try.call54 (cmp_c1 (bl := bl) (hA3.blk.chg hc (hne htb (by omega))) (hA3.bl.chg hc fun y hy => hne (hA.tbl y hy) (by omega)) hb4' hx hy fun z hz => by have := hblN z hz; omega) ?_
    rintro r w'' ⟨g1, g2⟩
    exact ⟨r, rfl, by simpa using g1, g2⟩
  rintro _ w4 ⟨f, ha4, hsw, hsr, hc4⟩
  -- what the sorted row is
  generalize hNi : i = N' at *
  clear hNi i
  have hfv : ∀ x, x < N' → ∃ y, y < N' ∧ f x = ((y : Nat) : Int) := hsw.allN (Nat.le_refl _) (p := fun v => ∃ y : Nat, y < N' ∧ v = (y : Int)) fun x hx => ⟨x, hx, rfl⟩
  obtain ⟨st, hstd⟩ : ∃ st : Nat → Nat, st = fun x => (f x).toNat := ⟨_, rfl⟩
  have hfst : ∀ x, x < N' → f x = (st x : Int) := fun x hx => by
    obtain ⟨y, _, e⟩ := hfv x hx
    rw [hstd]; simp only; rw [e]; rfl
  have hst : ∀ x, x < N' → st x < N' := fun x hx => by
    obtain ⟨y, hy, e⟩ := hfv x hx
    rw [hstd]; simp only; rw [e]; simpa using hy
  have hinj : ∀ x y, x < N' → y < N' → st x = st y → x = y := fun x y hx hy e =>
    hsw.inj (Nat.le_refl _) (fun x y _ _ e => by omega) x y hx hy (by rw [hfst x hx, hfst y hy, e])
  have hsur : ∀ x, x < N' → ∃ j, j < N' ∧ st j = x := fun x hx => by
    obtain ⟨j, _, hj, e⟩ := hsw.surj (v := (x : Int)) ⟨x, Nat.zero_le _, hx, rfl⟩
    exact ⟨j, hj, by rw [hfst j hj] at e; omega⟩
  have hsrt : ∀ i j, i ≤ j → j < N' → bl (st i) ≤ bl (st j) := fun i j hij hj => by
    have := hsr i j (Nat.zero_le _) hij hj
    rw [hfst i (by omega), hfst j hj] at this
    simpa using this
  have hnorm : ∀ x v, x < N' → v < bl x → ∃ y, y < N' ∧ bl y = v := fun x v hx hv => by
    rw [hbl] at hv ⊢
    obtain ⟨y, hy, e⟩ := num_norm m.label (x := x) (v := v) (by omega) hv
    exact ⟨y, by omega, e⟩
  have hA4 := PMb.setSt (st := st) hA (hc3.c hc4) (ha4.congr fun x hx => hfst x hx)
  clear hsw hsr hfv ha3 hA3 hA3' hge2 hi ha4
  have hcP4 : Chg (Pt tag) w2 w4 := (hc3.c hc4).mono fun y _ hy => by have := hA.tst y hy; constructor <;> omega
  have hb44 := hblk (hc3.c hc4) fun y hy => by rw [hA.tst y hy]; omega
  clear hc3 hb43 hc4 w3
  refine M.ld0 (x := some ⟨b, 0, none⟩) hb44 rfl (M.nn_of (M.ldB 0 hA4.blk rfl ?_))
  have hstl : p.states.len = N' := hA4.st.len
  have hlt2 := hA.blk.lt
  have hblk2 : ∀ {w' : World}, Chg (Pt tag) w2 w' → Blk w' b4 45 [vA ⟨b, 0, none⟩] := fun hc => hblk hc fun y hy => by simp only [Pt] at hy; omega
  -- the blocks are counted
  refine M.loop_at (fun q w' => Chg (Pt tag) w2 w' ∧ ∃ (i : Nat) (pos : Nat → Nat) (B : Nat) (lo hi : Nat → Nat) (tg : Nat → Nat) (r : Sl), q = (i : Int) ∧ i ≤ N' ∧ (∀ x, x < w2.heap.size → tg x = tag x) ∧ PMb w1.heap.size N' (Mx.k m) w' tg b { p with spans := r } ⟨st, pos, bl, B, lo, hi, fun _ => 0, []⟩ ∧ Cnt st bl i pos B lo hi) (fun q _ => ((N' : Int) - q).toNat)
    ⟨hcP4, 0, fun _ => 0, 0, fun _ => 0, fun _ => 0, tag, p.spans, rfl, by omega, fun _ _ => rfl, hA4, ⟨fun j hj => by omega, fun _ => rfl, fun h => by omega, fun v hv => by omega, fun h => by omega, fun j hj => by omega, fun v j hv => by omega⟩⟩ ?_
  clear hcP4 hA4 hb44 w4
  rintro _ w4 ⟨hc4, i, pos, B, lo, hi, tg, r, rfl, hi', htg, h4, hcnt⟩
  have hb44 := hblk2 hc4
  have hsz4 := hc4.size
  refine M.if_ (fun hlt => ?_) (fun hge2 => ?_)
  · have hlt : i < N' := by omega
    have hsi := hst i hlt
    refine M.arR h4.st i rfl hlt (M.ld0 (x := some ⟨b, 0, none⟩) hb44 rfl (M.nn_of (M.ldB 1 h4.blk rfl (M.arW h4.pos (st i) rfl hsi fun w5 ha5 hc5 _ => ?_))))
    have h5 := PMb.setPos (pos := ups pos (st i) i) h4 hc5 (by rw [nI_ups]; exact ha5)
    have hc25 : Chg (Pt tag) w2 w5 := hc4.trans hc5 fun y hy e => by
      have h6 := h4.tpos y e
      rw [htg y hy] at h6
      constructor <;> omega
    have hb45 := hblk2 hc25
    have hsz5 := hc5.size
    have hnx := hcnt.next hlt hsrt hst hsur hnorm
    have hble := hblN _ hsi
    have hspl : r.len = B := by have := h5.sp.len; rw [spc_len] at this; simp only at this; omega
    have hB16 : B ≤ 65536 := by
      rcases Nat.eq_zero_or_pos i with h6 | h6
      · rw [hcnt.B0 h6]; omega
      · have h7 := hcnt.B1 h6
        have := hblN _ (hst (i - 1) (by omega))
        omega
    refine M.join_at (fun _ w' => Chg (Pt tag) w2 w' ∧ ∃ (B : Nat) (lo hi : Nat → Nat) (tg : Nat → Nat) (r : Sl), (∀ x, x < w2.heap.size → tg x = tag x) ∧ PMb w1.heap.size N' (Mx.k m) w' tg b { p with spans := r } ⟨st, ups pos (st i) i, bl, B, lo, hi, fun _ => 0, []⟩ ∧ bl (st i) < B ∧ hi (bl (st i)) = i ∧ Cnt st bl (i + 1) (ups pos (st i) i) B lo (ups hi (bl (st i)) (i + 1))) ?_ ?_
    · refine M.ld0 (x := some ⟨b, 0, none⟩) hb45 rfl (M.nn_of (M.ldB 2 h5.blk rfl (M.arR h5.bl (st i) rfl hsi (M.ld0 (x := some ⟨b, 0, none⟩) hb45 rfl (M.nn_of (M.ldB 3 h5.blk rfl ?_))))))
      refine M.if_ (fun he => ?_) (fun hne => ?_)
      · have he : bl (st i) = B := by simp only [nI] at he; omega
        refine M.drew_of fun w6 _ hg6 => ?_
        have h6 := h5.g hg6
        have hc26 := hc25.g hg6
        have hb46 := hblk2 hc26
        refine M.ld0 (x := some ⟨b, 0, none⟩) hb46 rfl (M.ld0 (x := some ⟨b, 0, none⟩) hb46 rfl (M.nn_of (M.ldB 3 h6.blk rfl ?_)))
        refine M.new_chk (fun w' hg => (h6.blk.g hg).cell (i := 3) rfl) (M.new_chk (fun w' hg => (hb46.g hg).cell (i := 0) rfl) (M.new_chk (fun w' hg => (hb46.g hg).cell (i := 0) rfl) ?_))
        refine M.app (s := r) Try.underlying47 (T := 75) (info := Try.t75) (m := 3) (bytes := 24) (by kernel_rfl) rfl rfl rfl rfl (by decide) h6.sp rfl (Spv_one _) h6.nz (by omega) (by omega) fun r' w7 ho7 hl7 hc7 hb7 => ?_
        have hsz6 := hc26.size
        obtain ⟨tg', htg'⟩ : ∃ tg' : Nat → Nat, tg' = fun y => if w6.heap.size ≤ y then 5 else tg y := ⟨_, rfl⟩
        have hkeep : ∀ x, x < w6.heap.size → tg' x = tg x := fun x hx => by rw [htg']; simp only; rw [if_neg (by omega)]
        have hnb : ∀ y, ownb r' y → tg' y = 5 := fun y hy => by
          rcases hb7 y hy with h1 | h1
          · rw [hkeep y (h6.sp.ge h1).2]; exact h6.tsp y h1
          · rw [htg']; simp only; rw [if_pos h1]
        have hc27 : Chg (Pt tag) w2 w7 := hc26.trans hc7 fun y hy e => by
          have h8 := h6.tsp y e
          rw [htg y hy] at h8
          constructor <;> omega
        have hb47 := hblk2 hc27
        have hblk7 := h6.blk.chg hc7 fun e => by have := h6.tsp _ e; have := h6.tb; omega
        refine ⟨hb47.cell (i := 0) rfl, hb47.cell (i := 0) rfl, M.nn_of (M.stB 3 hblk7 (by simp [Ptv_len]) fun w8 hblk8 hc8 _ => ?_)⟩
        have hblk8 : Blk w8 b 52 (Ptv.cs { p with spans := r' }) := hblk8
        rw [spc_succ] at ho7
        have esp : ups (PS.sp ⟨st, ups pos (st i) i, bl, B, lo, hi, fun _ => 0, []⟩) B ⟨(i : Int), (i : Int), 0⟩ = fun z => (⟨((ups lo B i z : Nat) : Int), ((ups hi B i z : Nat) : Int), (((fun _ => 0 : Nat → Nat) z : Nat) : Int)⟩ : Spv) := by
          funext z; simp only [PS.sp, ups]
          by_cases hz : z = B
          · subst hz; simp
          · simp [hz]
        have ho7 : Own w1.heap.size w7 r' 75 3 (spc (ups (PS.sp ⟨st, ups pos (st i) i, bl, B, lo, hi, fun _ => 0, []⟩) B ⟨(i : Int), (i : Int), 0⟩) (B + 1)) := ho7
        rw [esp] at ho7
        have hrb : ∀ y, ownb r' y → y ≠ b := fun y hy e => by
          have := hnb y hy
          rw [e, hkeep b h6.blk.lt, h6.tb] at this; omega
        have hc68 : Chg (fun y => tg y = 5 ∨ y = b) w6 w8 := (hc7.mono fun y _ hy => .inl (h6.tsp y hy)).c (hc8.mono fun y _ hy => .inr hy)
        have h8 := PMb.newSp (B := B + 1) (lo := ups lo B i) (hi := ups hi B i) (md := fun _ => 0) h6 hc68 hkeep hblk8 (ho7.chg hc8 fun y hy e => hrb y hy e) hnb
        refine ⟨hc27.trans hc8 fun y hy e => ?_, B + 1, ups lo B i, ups hi B i, tg', r', fun x hx => ?_, h8, by omega, by simp [ups, he], ?_⟩
        · subst e; constructor <;> omega
        · rw [hkeep x (by omega)]; exact htg x hx
        · have := hcnt.fresh hlt hinj he (hcnt.lt hi' hsrt)
          rw [he]
          exact this
      · have hne : ¬ bl (st i) = B := by simp only [nI] at hne; omega
        obtain ⟨g1, g2, g3⟩ := hnx.resolve_left hne
        refine ⟨hc25, B, lo, hi, tg, r, htg, h5, by omega, by rw [g3]; exact hcnt.last g1, hcnt.same hlt hinj g1 g2 g3⟩
    · rintro _ w6 ⟨hc26, B', lo', hi2, tg', r', htg', h6, hcB, hhi, hcnt'⟩
      refine M.drew_of fun w7 _ hg7 => ?_
      have h7 := h6.g hg7
      have hc27 := hc26.g hg7
      have hb47 := hblk2 hc27
      have hspl' : r'.len = B' := by have := h7.sp.len; rw [spc_len] at this; simp only at this; omega
      refine M.ld0 (x := some ⟨b, 0, none⟩) hb47 rfl (M.nn_of (M.ldB 3 h7.blk rfl (M.ld0 (x := some ⟨b, 0, none⟩) hb47 rfl (M.nn_of (M.ldB 2 h7.blk rfl (M.arR h7.bl (st i) rfl hsi ?_))))))
      refine M.ixO (s := r') (bl (st i)) h7.sp rfl (by omega) fun sb hsb => M.ldO (x := (i : Int)) (bl (st i) * 3) 1 h7.sp hsb (by rw [spc_get _ hcB (by omega)]; show some (vI ((hi2 (bl (st i)) : Nat) : Int)) = _; rw [hhi]) (M.ixO (s := r') (bl (st i)) h7.sp rfl (by omega) fun sb' hsb' => ?_)
      rw [hsb] at hsb'
      cases hsb'
      rw [wI_succ (by simp only [Big]; omega)]
      refine M.stO (bl (st i) * 3) 1 h7.sp hsb (by rw [spc_len]; simp only; omega) fun w8 ho8 hc8 _ => ?_
      have ho8 : Own w1.heap.size w8 r' 75 3 ((spc (PS.sp ⟨st, ups pos (st i) i, bl, B', lo', hi2, fun _ => 0, []⟩) B').set (bl (st i) * 3 + 1) (vI ((i + 1 : Nat) : Int))) := ho8
      rw [spc_set _ hcB (by omega) _ ⟨(lo' (bl (st i)) : Int), ((i + 1 : Nat) : Int), 0⟩ rfl] at ho8
      have esp : ups (PS.sp ⟨st, ups pos (st i) i, bl, B', lo', hi2, fun _ => 0, []⟩) (bl (st i)) ⟨(lo' (bl (st i)) : Int), ((i + 1 : Nat) : Int), 0⟩ = fun z => (⟨(lo' z : Int), ((ups hi2 (bl (st i)) (i + 1) z : Nat) : Int), (((fun _ => 0 : Nat → Nat) z : Nat) : Int)⟩ : Spv) := by
        funext z; simp only [PS.sp, ups]
        by_cases hz : z = bl (st i)
        · subst hz; simp
        · simp [hz]
      rw [esp] at ho8
      have h8 := PMb.setSp (B := B') (lo := lo') (hi := ups hi2 (bl (st i)) (i + 1)) (md := fun _ => 0) h7 hc8 ho8
      refine ⟨⟨hc27.trans hc8 fun y hy e => ?_, i + 1, ups pos (st i) i, B', lo', _, tg', r', rfl, hlt, htg', h8, hcnt'⟩, by omega⟩
      have h9 := h7.tsp y e
      rw [htg' y hy] at h9
      constructor <;> omega
  obtain rfl : i = N' := by omega
  have hPI := hcnt.pi hsrt hst hsur []
  have hrel : ∀ x y, x < i → y < i → (bl x = bl y ↔ Mx.lab m x = Mx.lab m y) := fun x y hx hy => by
    rw [hbl]
    simp only
    rw [num_same m.label (by omega) (by omega)]
    have e : ∀ z, z < m.label.length → m.label[z]? = some (Mx.lab m z) := fun z hz => getD_some hz
    rw [e x (by omega), e y (by omega), Option.some.injEq]
  have hg14 : Grow w1 w4 := Chg.fresh hg2 hc4 fun y hy => hge y hy.1 hy.2
  clear hcnt hge2 hi' hst hinj hsur hsrt hnorm hblN hblk2
  generalize hps : (⟨st, pos, bl, B, lo, hi, fun _ => 0, []⟩ : PS) = ps at h4 hPI
  have hpsb : ps.bl = bl := by rw [← hps]
  have hpsm : ∀ c, ps.md c = 0 := fun c => by rw [← hps]
  have hpsW : ps.W = [] := by rw [← hps]
  generalize hpp : ({ p with spans := r } : Ptv) = pp at h4
  clear hps hpp
  have htg4 : tg b4 = 9 := by rw [htg b4 hb4.lt]; exact ht4
  clear htg hc4 hA ht4 hb4 hblk htb h0 hge hgw2 hg2 hstl hsz4 hlt2
  -- the list of what is behind
  refine M.drew_of fun w5 _ hg5 => ?_
  have h5 := h4.g hg5
  have hb45 := hb44.g hg5
  have hg15 := hg14.trans hg5
  have hB15 := hB1.g hg15
  refine M.ld0 (x := some ⟨b, 0, none⟩) hb45 rfl (M.ldB 256 hB15 (Dfv_256 d) ?_)
  rw [hwk]
  refine M.mkSl Try.underlying48 (T := 23) (info := Try.t23) (z := Sl.nil.val) (by kernel_rfl) rfl rfl rfl (by simp only [Try.t23]; omega) (by simp only [maxLen]; omega) fun bs w6 hbs hbsl hbsb hg6 => ?_
  have h6 := h5.g hg6
  have hb46 := hb45.g hg6
  have hbl6 := h6.blk.lt
  have hb5 := h5.blk.lt
  refine ⟨hb46.cell (i := 0) rfl, M.nn_of (M.stB 4 h6.blk (by simp [Ptv_len]) fun w7 hblk7 hc7 _ => ?_)⟩
  have hblk7 : Blk w7 b 52 (Ptv.cs { pp with back := bs }) := hblk7
  have h7 := PMb.putBack h6 hc7 hblk7
  have hb47 := hb46.chg hc7 hb4b
  have hbs7 := hbs.chg hc7 fun y hy e => by have := hbsb y hy; omega
  have hg57 : Chg (fun y => y = b) w5 w7 := hg6.any.c hc7
  have hbw1 : w1.heap.size ≤ b := h5.ge b (by rw [h5.tb]; omega) (by rw [h5.tb]; omega)
  have hg17 : Grow w1 w7 := Chg.fresh hg15 hg57 fun y hy => by omega
  -- new marks: the outer list bears 97
  obtain ⟨tC, htC⟩ : ∃ tC : Nat → Nat, tC = fun y => if w5.heap.size ≤ y then 97 else tg y := ⟨_, rfl⟩
  have hCold : ∀ y, y < w5.heap.size → tC y = tg y := fun y hy => by rw [htC]; simp only; rw [if_neg (by omega)]
  have hCnew : ∀ y, w5.heap.size ≤ y → tC y = 97 := fun y hy => by rw [htC]; simp only; rw [if_pos hy]
  have h7 : PMb w1.heap.size i (Mx.k m) w7 tC b { pp with back := bs } ps := by
    have hx := PMb.putBack (h5.chg (tag' := tC) (Chg.refl (fun _ => False) w5) (fun _ _ _ e => e) hCold) hg57 hblk7
    exact hx
  have hC4 : tC b4 = 9 := by rw [hCold b4 hb45.lt]; exact htg4
  have hsz57 : w5.heap.size ≤ w7.heap.size := hg57.size
  have hnx := ho.next
  clear h4 h5 h6 hb44 hb45 hb46 hc7 hblk7 hbl6 htC htg4 hbs hg57
  have hB17 := hB1.g hg17
  refine M.ldB 256 hB17 (Dfv_256 d) ?_
  rw [hwk]
  have hkt : ∀ (k : Nat), k < Mx.k m → ∀ s, s < i → Mx.nx m s k < i ∧ (m.next.getD s [])[k]? = some ((Mx.nx m s k : Nat) : Int) := fun k hk s hs => by rw [hN]; exact ho.nx s k (by omega) hk
  have hbsb' : ∀ y, ownb bs y → w5.heap.size ≤ y ∧ y < w7.heap.size := fun y hy => ⟨by have := hbsb y hy; omega, (hbs7.ge hy).2⟩
  have hb4lt : b4 < w5.heap.size := by
    rcases Nat.lt_or_ge b4 w5.heap.size with h8 | h8
    · exact h8
    · have := hCnew b4 h8; omega
  have hbl7 := h7.blk
  have hszw7 := (hg1.trans hg17).size
  have hbs0 : Own w5.heap.size w7 bs 23 1 (((List.range (Mx.k m)).map fun _ => Sl.nil).map Sl.val) := by
    have e : (((List.range (Mx.k m)).map fun _ => Sl.nil).map Sl.val) = List.replicate (Mx.k m) Sl.nil.val := by rw [rep_range, List.map_map]; rfl
    rw [e]; exact hbs7
  refine M.loop_at (fun q w' => Chg (ownb bs) w7 w' ∧ ∃ (k : Nat) (ss : Nat → Sl), q = (k : Int) ∧ k ≤ Mx.k m ∧ Own w5.heap.size w' bs 23 1 (((List.range (Mx.k m)).map ss).map Sl.val) ∧ ∀ j, j < k → BkRow (fun y => w7.heap.size ≤ y) w' (ss j) i (bkOf m j)) (fun q _ => ((Mx.k m : Int) - q).toNat)
    ⟨Chg.refl _ _, 0, fun _ => Sl.nil, rfl, by omega, hbs0, fun j hj => by omega⟩ ?_
  rintro _ w8 ⟨hc8, k, ss, rfl, hk, hbs8, hrows⟩
  have hb48 := hb47.chg hc8 fun e => by have := (hbsb' _ e).1; omega
  have hbl8 := hbl7.chg hc8 fun e => by have := (hbsb' _ e).1; omega
  have hg18 : Grow w1 w8 := Chg.fresh hg17 hc8 fun y hy => by have := (hbsb' y hy).1; have := hg15.size; omega
  have hsz8 := hc8.size
  refine M.if_ (fun hlt => ?_) (fun hge => ?_)
  · have hlt : k < Mx.k m := by omega
    refine M.drew_of fun w9 _ hg9 => ?_
    have hb49 := hb48.g hg9
    have hbl9 := hbl8.g hg9
    have hg19 := hg18.trans hg9
    have hsz9 := hg9.size
    refine M.ld0 (x := some ⟨b, 0, none⟩) hb49 rfl (M.nn_of (M.ldB 4 hbl9 rfl ?_))
    refine M.mkSl Try.underlying23 (T := 24) (info := Try.t24) (z := Sl.nil.val) (by kernel_rfl) rfl rfl rfl (by simp only [Try.t24]; omega) (by simp only [maxLen]; omega) fun ts w10 hts htsl htsb hg10 => ?_
    have hb410 := hb49.g hg10
    have hbl10 := hbl9.g hg10
    have hg110 := hg19.trans hg10
    refine ⟨hbl10.cell (i := 4) rfl, hb410.cell (i := 0) rfl, ?_⟩
    refine M.wr (L := (List.range (Mx.k m)).map ss) (hbs8.g (hg9.trans hg10)) (by simpa using hlt) fun w11 hbs11 hc11 hs11 => ?_
    rw [set_range_map] at hbs11
    have hsz10 := hg10.size
    have hts0 : Own w9.heap.size w11 ts 24 1 (((List.range i).map fun _ => Sl.nil).map Sl.val) := by
      have e : (((List.range i).map fun _ => Sl.nil).map Sl.val) = List.replicate i Sl.nil.val := by rw [rep_range, List.map_map]; rfl
      rw [e]
      exact hts.chg hc11 fun y hy e => by have := htsb y hy; have := (hbsb' y e).2; omega
    have hb411 := hb410.chg hc11 fun e => by have := (hbsb' _ e).1; omega
    have hbl11 := hbl10.chg hc11 fun e => by have := (hbsb' _ e).1; omega
    have hg111 : Grow w1 w11 := Chg.fresh hg110 hc11 fun y hy => by have := (hbsb' y hy).1; have := hg15.size; omega
    have hgw11 := hg1.trans hg111
    have hB11 := hB1.g hg111
    have hc711 : Chg (ownb bs) w7 w11 := (hc8.g (hg9.trans hg10)).c hc11
    refine M.ldB 257 hB11 (Dfv_257 d) ?_
    have hbslt : ∀ y, ownb bs y → y < w9.heap.size := fun y hy => by have := (hbsb' y hy).2; omega
    -- each state goes into the list of that which is behind it
    refine M.loop_at (fun q w' => Chg (fun y => w9.heap.size ≤ y) w11 w' ∧ ∃ (s : Nat) (tt : Nat → Sl) (t2 : Nat → Nat), q = (s : Int) ∧ s ≤ i ∧ Own w9.heap.size w' ts 24 1 (((List.range i).map tt).map Sl.val) ∧
        ∀ z, z < i → Own w11.heap.size w' (tt z) 3 1 (((((List.range s).filter fun x => decide (Mx.nx m x k = z)).map Int.ofNat)).map vI) ∧ ∀ y, ownb (tt z) y → t2 y = z) (fun q _ => ((i : Int) - q).toNat)
      ⟨Chg.refl _ _, 0, fun _ => Sl.nil, fun _ => 0, rfl, by omega, hts0, fun z hz => ⟨Own.nil _ _ _ _, by rintro y ⟨a, e, _⟩; cases e⟩⟩ ?_
    rintro _ w12 ⟨hc12, s, tt, t2, rfl, hs, hts12, htt⟩
    have hold12 : ∀ {y : Nat}, y < w9.heap.size → ¬ w9.heap.size ≤ y := fun h => by omega
    have hg112 : Grow w1 w12 := Chg.fresh hg111 hc12 fun y hy => by have := hg19.size; omega
    have hgw12 := hg1.trans hg112
    refine M.if_ (fun hlt2 => ?_) (fun hge2 => ?_)
    · have hlt2 : s < i := by omega
      obtain ⟨hnt, hnk⟩ := hkt k hlt s hlt2
      refine M.rdrd h.next hgw12 (by omega) (toNat_some (z := []) (by omega)) fun t1 ht1 => ?_
      have ht1 := ht1.old (by decide)
      refine M.drew_of fun w13 _ hg13 => ?_
      have hg113 := hg112.trans hg13
      have hgw13 := hgw12.trans hg13
      have hc1113 : Chg (fun y => w9.heap.size ≤ y) w11 w13 := hc12.g hg13
      have hb413 := hb411.chg hc1113 (hold12 (by omega))
      have hbl13 := hbl11.chg hc1113 (hold12 (by have := hbl9.lt; omega))
      have hbs13 := hbs11.chg hc1113 fun y hy => hold12 (hbslt y hy)
      have hts13 := hts12.g hg13
      have hbsl : bs.len = Mx.k m := by have := hbs13.len; simpa using this.symm
      have htsl13 : ts.len = i := by have := hts13.len; simpa using this.symm
      have hbsk : (((List.range (Mx.k m)).map (ups ss k ts)).map Sl.val)[k]? = some ts.val := by simp [hlt, ups]
      have httk : (((List.range i).map tt).map Sl.val)[Mx.nx m s k]? = some (tt (Mx.nx m s k)).val := by simp [hnt]
      have hrowk : ((m.next.getD s []).map vI)[k]? = some (vI ((Mx.nx m s k : Nat) : Int)) := by rw [List.getElem?_map, hnk]; rfl
      have hrl : k < t1.len := by
        have h8 := ht1.len
        have h9 := (List.getElem?_eq_some_iff.1 hnk).1
        simp only [List.length_map] at h8
        omega
      generalize htz : Mx.nx m s k = tz at hnt hnk httk hrowk
      have hcut : ∀ {γ' : Type} {f' : Addr → M γ'} {k' : γ' → World → Prop}, (∀ a, a.block < w.heap.size → w13.cell? a = some (vI ((tz : Nat) : Int)) → f' a w13 k') → M.ix t1 (k : Int) 1 f' w13 k' := fun hf => by
        refine M.ix_at (ht1.chg hgw13 fun _ _ x => x) (by omega) (by omega) fun a ha hc => hf a ha ?_
        have := hc 0 (vI ((tz : Nat) : Int)) (by simpa using hrowk) (by omega)
        simpa [Addr.add] using this
      refine M.ld0 (x := some ⟨b, 0, none⟩) hb413 rfl (M.nn_of (M.ldB 4 hbl13 rfl (M.ixO (s := bs) k hbs13 rfl (by omega) fun bb hbb => M.ld_of (x := ts) (hbs13.cell hbb (by rw [Nat.mul_one]; exact hbsk)) (hcut fun a84 ha84 hc84 => M.ld_of (x := ((tz : Nat) : Int)) hc84 ?_))))
      refine M.ld0 (x := some ⟨b, 0, none⟩) hb413 rfl (M.nn_of (M.ldB 4 hbl13 rfl (M.ixO (s := bs) k hbs13 rfl (by omega) fun bb2 hbb2 => M.ld_of (x := ts) (hbs13.cell hbb2 (by rw [Nat.mul_one]; exact hbsk)) (hcut fun a91 ha91 hc91 => M.ld_of (x := ((tz : Nat) : Int)) hc91 ?_))))
      rw [hbb] at hbb2
      cases hbb2
      refine M.ixO tz hts13 rfl (by omega) fun bt hbt => M.ld_of (x := tt tz) (hts13.cell hbt (by rw [Nat.mul_one]; exact httk)) ?_
      have cB : ∀ {q : Nat → Prop} {v : World}, Chg q w13 v → (∀ y, q y → w9.heap.size ≤ y) → v.cell? ((⟨b, 0, none⟩ : Addr).add 4) = some bs.val := fun hc hq => (hbl13.chg hc fun e => hold12 (by have := hbl9.lt; omega) (hq _ e)).cell (i := 4) rfl
      have c4 : ∀ {q : Nat → Prop} {v : World}, Chg q w13 v → (∀ y, q y → w9.heap.size ≤ y) → v.cell? ⟨b4, 0, none⟩ = some (vP (some ⟨b, 0, none⟩)) := fun hc hq => (hb413.chg hc fun e => hold12 (by omega) (hq _ e)).cell (i := 0) rfl
      have cS : ∀ {q : Nat → Prop} {v : World}, Chg q w13 v → (∀ y, q y → w9.heap.size ≤ y) → v.cell? ((⟨bb, 0, none⟩ : Addr).add (k * 1)) = some ts.val := fun hc hq => (hbs13.chg hc fun y hy e => hold12 (hbslt y hy) (hq _ e)).cell hbb (by rw [Nat.mul_one]; exact hbsk)
      have cR : ∀ {q : Nat → Prop} {v : World} {a : Addr} {u : Value}, Chg q w13 v → (∀ y, q y → w9.heap.size ≤ y) → a.block < w.heap.size → w13.cell? a = some u → v.cell? a = some u := fun hc hq ha hu => Chg.cell hc (fun e => by have := hq _ e; omega) hu
      have cF : ∀ y : Nat, False → w9.heap.size ≤ y := fun _ h => h.elim
      refine M.new_chk (fun v hg => (hts13.g hg).cell hbt (by rw [Nat.mul_one]; exact httk)) (M.new_chk (fun v hg => cR hg cF ha91 hc91) (M.new_chk (fun v hg => cS hg cF) (M.new_chk (fun v hg => cB hg cF) (M.new_chk (fun v hg => c4 hg cF) (M.new_chk (fun v hg => cR hg cF ha84 hc84) (M.new_chk (fun v hg => cS hg cF) (M.new_chk (fun v hg => cB hg cF) (M.new_chk (fun v hg => c4 hg cF) ?_))))))))
      have htz1 := (htt tz hnt).1.g hg13
      have htzl := htz1.len
      have hfl2 : ((List.range s).filter fun x => decide (Mx.nx m x k = tz)).length ≤ s := by have := List.length_filter_le (fun x => decide (Mx.nx m x k = tz)) (List.range s); simpa using this
      simp only [List.length_map] at htzl
      have hsz13 := hc1113.size
      refine M.app (s := tt tz) Try.underlying24 (T := 3) (info := Try.t3) (z := vI 0) (m := 1) (bytes := 8) (by kernel_rfl) rfl rfl rfl rfl (by decide) htz1 rfl (by simp [one1]) (by omega) (by omega) (by omega) fun r2 w14 ho14 hl14 hc14 hb14 => ?_
      have q14 : ∀ y, ownb (tt tz) y → w9.heap.size ≤ y := fun y hy => by have := (htz1.ge hy).1; omega
      refine ⟨cR hc14 q14 ha91 hc91, cS hc14 q14, cB hc14 q14, c4 hc14 q14, cR hc14 q14 ha84 hc84, cS hc14 q14, cB hc14 q14, c4 hc14 q14, ?_⟩
      have hts14 := hts13.chg hc14 fun y hy e => by have h8 := (htz1.ge e).1; have h9 := (hts0.ge hy).2; omega
      refine M.wr (L := (List.range i).map tt) hts14 (by simpa using hnt) fun w15 hts15 hc15 hs15 => ?_
      rw [set_range_map] at hts15
      rw [wI_succ (by simp only [Big]; omega)]
      have hnoc : ∀ {sl : Sl} {vs : List Value}, Own w11.heap.size w14 sl 3 1 vs → Own w11.heap.size w15 sl 3 1 vs := fun hx => hx.chg hc15 fun y hy e => by have h8 := (hx.ge hy).1; have h9 := (hts0.ge e).2; omega
      refine ⟨⟨(hc1113.c (hc14.mono fun y _ hy => q14 y hy)).c (hc15.mono fun y _ hy => (hts14.ge hy).1), s + 1, ups tt tz r2, fun y => if y < w13.heap.size then t2 y else tz, rfl, by omega, hts15, fun z hz => ?_⟩, by omega⟩
      have hfs : (List.range (s + 1)).filter (fun x => decide (Mx.nx m x k = z)) = (List.range s).filter (fun x => decide (Mx.nx m x k = z)) ++ (if tz = z then [s] else []) := by
        rw [List.range_succ, List.filter_append, List.filter_cons, List.filter_nil, htz]
        by_cases e : tz = z <;> simp [e]
      by_cases hz2 : z = tz
      · subst hz2
        have e1 : ups tt z r2 z = r2 := by simp [ups]
        rw [e1, hfs, if_pos rfl, List.map_append, List.map_append]
        refine ⟨hnoc ho14, fun y hy => ?_⟩
        show (if _ then _ else _) = _
        rcases hb14 y hy with h8 | h8
        · rw [if_pos (htz1.ge h8).2]; exact (htt z hz).2 y h8
        · rw [if_neg (by omega)]
      · have e1 : ups tt tz r2 z = tt z := by simp [ups, hz2]
        rw [e1, hfs, if_neg (fun e => hz2 e.symm), List.append_nil]
        have hx := (htt z hz).1.g hg13
        refine ⟨hnoc (hx.chg hc14 fun y hy e => ?_), fun y hy => ?_⟩
        · have h8 := (htt z hz).2 y hy
          have h9 := (htt tz hnt).2 y e
          omega
        · show (if _ then _ else _) = _
          rw [if_pos (hx.ge hy).2]; exact (htt z hz).2 y hy
    · obtain rfl : s = i := by omega
      rw [wI_succ (by simp only [Big]; omega)]
      have hc712 : Chg (ownb bs) w7 w12 := hc711.trans hc12 fun y hy e => by omega
      refine ⟨⟨hc712, k + 1, ups ss k ts, rfl, hlt, hbs11.chg hc12 fun y hy e => by have := hbslt y hy; omega, fun j hj => ?_⟩, by omega⟩
      by_cases hjk : j = k
      · subst hjk
        have e1 : ups ss j ts j = ts := by simp [ups]
        rw [e1]
        refine ⟨(List.range s).map tt, hts12.rd fun y hy => by have := (hts12.ge hy).1; omega, by simp, fun z u hu => ?_⟩
        have hz : z < s := by have := (List.getElem?_eq_some_iff.1 hu).1; simpa using this
        simp only [List.getElem?_map, List.getElem?_range hz, Option.map_some, Option.some.injEq] at hu
        subst hu
        have hx := (htt z hz).1
        have e2 : bkOf m j z = (List.range s).filter fun x => decide (Mx.nx m x j = z) := by rw [bkOf, ← hN]
        rw [e2]
        exact hx.rd fun y hy => by have := (hx.ge hy).1; have := hc711.size; omega
      · have e1 : ups ss k ts j = ss j := by simp [ups, hjk]
        rw [e1]
        have hr := hrows j (by omega)
        have hc812 : Chg (fun y => ownb bs y ∨ w9.heap.size ≤ y) w8 w12 := (((hg9.trans hg10).any.c (hc11.mono fun y _ hy => Or.inl hy)).c (hc12.mono fun y _ hy => Or.inr hy))
        refine ((hr.mono2 (S' := fun y => w7.heap.size ≤ y ∧ y < w8.heap.size) fun y hy h8 => ⟨h8, hy⟩).chg hc812 fun y hy e => ?_).mono2 fun y _ hy => hy.1
        rcases e with e | e
        · have := (hbsb' y e).2; omega
        · omega
  · obtain rfl : k = Mx.k m := by omega
    refine M.ld0 (x := some ⟨b, 0, none⟩) hb48 rfl ⟨⟨w1.heap.size, b, fun y => if y < w5.heap.size then tC y else 8, { pp with back := bs }, ps, hg1.size, rfl, ?_, hPI, fun c _ => hpsm c, hpsW, by rw [hpsb]; exact hrel⟩, hg1.trans hg18⟩
    obtain ⟨tF, htF⟩ : ∃ tF : Nat → Nat, tF = fun y => if y < w5.heap.size then tC y else 8 := ⟨_, rfl⟩
    have hF8 : ∀ y, w5.heap.size ≤ y → tF y = 8 := fun y hy => by rw [htF]; simp only; rw [if_neg (by omega)]
    have hFo : ∀ y, y < w5.heap.size → tF y = tC y := fun y hy => by rw [htF]; simp only; rw [if_pos hy]
    rw [← htF]
    have h8 : PMb w1.heap.size i (Mx.k m) w8 tC b { pp with back := bs } ps := h7.chg hc8 (fun y h1 h2 e => by have := hCnew y (hbsb' y e).1; omega) fun _ _ => rfl
    have own : ∀ {sl : Sl} {T mm : Nat} {vs : List Value} {j : Nat}, Own w1.heap.size w8 sl T mm vs → (∀ x, ownb sl x → tC x = j) → j ≤ 7 → ∀ x, ownb sl x → tF x = j := fun h1 h2 h3 x hx => by
      rcases Nat.lt_or_ge x w5.heap.size with h4 | h4
      · rw [hFo x h4]; exact h2 x hx
      · have := hCnew x h4; rw [h2 x hx] at this; omega
    have one : ∀ {x j : Nat}, tC x = j → j ≤ 7 → tF x = j := fun {x j} h2 h3 => by
      rcases Nat.lt_or_ge x w5.heap.size with h4 | h4
      · rw [hFo x h4]; exact h2
      · have := hCnew x h4; omega
    obtain ⟨mm, es, a1, a2, a3, a4, a5⟩ := h8.ask
    exact { nz := h8.nz, blk := h8.blk, tb := one h8.tb (by omega), st := h8.st, tst := own h8.st h8.tst (by omega), pos := h8.pos, tpos := own h8.pos h8.tpos (by omega), bl := h8.bl, tbl := own h8.bl h8.tbl (by omega), sp := h8.sp, tsp := own h8.sp h8.tsp (by omega), wt := h8.wt.mono (by decide) fun x _ hx => one hx (by omega), ask := ⟨mm, es, a1, one a2 (by omega), a3, a4, a5⟩, width := h8.width,
            ge := (fun x g1 g2 => by
              rcases Nat.lt_or_ge x w5.heap.size with h4 | h4
              · rw [hFo x h4] at g1 g2; exact h8.ge x g1 g2
              · rw [hF8 x h4] at g2; omega),
            back := ⟨(List.range (Mx.k m)).map ss, hbs8.rd (fun y hy => hF8 y (hbsb' y hy).1), by simp, fun k t ht => by
              have hk2 : k < Mx.k m := by have := (List.getElem?_eq_some_iff.1 ht).1; simpa using this
              simp only [List.getElem?_map, List.getElem?_range hk2, Option.map_some, Option.some.injEq] at ht
              subst ht
              exact (hrows k hk2).mono2 fun y _ hy => hF8 y (by omega)⟩ }
end C
end Go.Proofs.Ythepabefikobpaa
