/- Contract: all blocks are parted by one, and a class (hopcroft.parter.by). Conditions: as it states. -/
import Derived.Test.YthepabefikobpaaHop1
namespace Go.Proofs.Ythepabefikobpaa
open Go Go.Sh Go.Sp
namespace C
variable {n0 N K b : Nat} {bk : Nat → Nat → List Nat} {w w' : World} {tag tag' : Nat → Nat} {p : Ptv} {s : PS}
theorem flatMap_succ {β : Type} (f : Nat → List β) (i : Nat) : (List.range (i + 1)).flatMap f = (List.range i).flatMap f ++ f i := by
  rw [List.range_succ, List.flatMap_append]; simp
theorem parter_by {c k : Nat} {nx : Nat → Nat} (h : PM n0 N K bk w tag b p s) (hP : PI N s) (hmd : ∀ d, d < s.B → s.md d = 0) (hN : N ≤ 65536) (hK : K ≤ 256) (hc : c < s.B) (hk : k < K)
    (hWl : s.W.length ≤ K * s.B) (hWr : ∀ q ∈ s.W, q.1 < s.B ∧ q.2 < K) (hWn : s.W.Nodup) (hbk : ∀ t, t < N → (∀ x, x ∈ bk k t ↔ x < N ∧ nx x = t) ∧ (bk k t).length ≤ N) (hnx : ∀ x, x < N → nx x < N) :
    Calls Try.prog 30 [vP (some ⟨b, 0, none⟩), vI c, vI k].toArray w (Ret vUnit fun _ w' => (∃ tag' p' s', (∀ x, x < w.heap.size → tag' x = tag x) ∧ PM n0 N K bk w' tag' b p' s' ∧ ByR N K (fun x => s.bl (nx x) = c) s s') ∧ Chg (Pt tag) w w') := by
  apply L.hopcroft_parter_by
  unfold S.hopcroft_parter_by
  have hold : ∀ x, x < w.heap.size → (fun y => if y < w.heap.size then tag y else 0) x = tag x := fun x hx => by simp [hx]
  have hnew : ∀ x, w.heap.size ≤ x → (fun y => if y < w.heap.size then tag y else 0) x = 0 := fun x hx => by simp; omega
  have h := PM.re h
  generalize (fun y => if y < w.heap.size then tag y else 0) = tag0 at *
  have hPt : ∀ y, y < w.heap.size → Pt tag0 y → Pt tag y := fun y hy h => by have := hold y hy; simp only [Pt] at h ⊢; omega
  have hrc := hP.rng c hc
  have hBN := hP.le
  refine M.call_of (parter_inside h hc (by omega) hrc.2) ?_
  rintro r1 w1 ⟨hr1, hg1⟩
  have hl1 : s.hi c - s.lo c = r1.len := by simpa using hr1.len
  obtain ⟨F, hF⟩ : ∃ F : Nat → List Nat, F = fun j => bk k (s.st (s.lo c + j)) := ⟨_, rfl⟩
  have hFl : ∀ j, j < s.hi c - s.lo c → (F j).length ≤ N := fun j hj => by rw [hF]; exact (hbk _ (hP.st_lt _ (by omega))).2
  have hKB : K * s.B ≤ 256 * 65536 := Nat.mul_le_mul hK (by omega)
  -- the states behind which the block is
  refine M.loop_at (fun q w' => Grow w1 w' ∧ ∃ (i : Nat) (fr : Sl), q = (fr, (i : Int)) ∧ i ≤ s.hi c - s.lo c ∧ Own w1.heap.size w' fr 3 1 ((((List.range i).flatMap F).map Int.ofNat).map vI) ∧ ((List.range i).flatMap F).length ≤ i * N) (fun q _ => (((s.hi c - s.lo c : Nat) : Int) - q.2).toNat)
    ⟨Chg.refl _ _, 0, Sl.nil, rfl, by omega, Own.nil _ _ _ _, by simp⟩ ?_
  rintro _ w2 ⟨hg2, i, fr, rfl, hi, hfr, hfl⟩
  dsimp only
  have hG2 := hg1.trans hg2
  have h2 := h.g hG2
  have hiN : i * N ≤ 65536 * 65536 := Nat.mul_le_mul (by omega) hN
  have hfrl : ((List.range i).flatMap F).length = fr.len := by simpa only [List.length_map, Nat.mul_one] using hfr.len
  refine M.if_ (fun hlt => ?_) (fun hge => ?_)
  · have hlt : i < s.hi c - s.lo c := by omega
    refine M.rd (hr1.g hg2) (by omega) (x := ((s.st (s.lo c + i) : Nat) : Int)) (by simp [hlt, nI]) ?_
    have hstN : s.st (s.lo c + i) < N := hP.st_lt _ (by omega)
    obtain ⟨ss, b1, b2, b3⟩ := h2.back
    have hk' : k < ss.length := by omega
    obtain ⟨tt, c1, c2, c3⟩ := b3 k _ (List.getElem?_eq_getElem hk')
    have ht' : s.st (s.lo c + i) < tt.length := by omega
    have hu := c3 _ _ (List.getElem?_eq_getElem ht')
    refine M.nn_of (M.ldB 4 h2.blk rfl (M.rd b1 (by omega) (x := ss[k]) (by rw [Int.toNat_natCast]; exact List.getElem?_eq_getElem hk') (M.rd c1 (by omega) (x := tt[s.st (s.lo c + i)]) (by rw [Int.toNat_natCast]; exact List.getElem?_eq_getElem ht') ?_)))
    generalize tt[s.st (s.lo c + i)] = u at hu
    have hul : (F i).length = u.len := by rw [hF]; simpa using hu.len
    have hFi := hFl i hlt
    have hlen2 : ((List.range (i + 1)).flatMap F).length ≤ (i + 1) * N := by rw [flatMap_succ, List.length_append, Nat.add_mul, Nat.one_mul]; omega
    rw [wI_succ (by simp only [Big]; omega)]
    by_cases hua : u.addr = none
    · have hu0 : u.len = 0 := by
        apply Classical.byContradiction
        intro h0
        obtain ⟨a, g1, _⟩ := hu.read h0
        rw [hua] at g1; cases g1
      have hF0 : F i = [] := List.length_eq_zero_iff.1 (by omega)
      have hcap : fr.len ≤ fr.cap := (Own.rd hfr (S := fun _ => True) fun _ _ => trivial).cap
      refine M.app0 Try.underlying24 (T := 3) (info := Try.t3) (by kernel_rfl) hcap hua hu0 ⟨⟨hg2, i + 1, fr, rfl, by omega, ?_, hlen2⟩, by (try simp only); omega⟩
      rw [flatMap_succ, hF0, List.append_nil]
      exact hfr
    · refine M.appN Try.underlying24 (T := 3) (info := Try.t3) (z := vI 0) (m := 1) (bytes := 8) (by kernel_rfl) rfl rfl rfl rfl (by decide) hfr hu hua (by simp [one1]) hg2.size (by omega) (by omega) fun r w3 ho3 hl3 hc3 hb3 _ => ?_
      refine ⟨⟨Chg.fresh hg2 hc3 fun y hy => (hfr.ge hy).1, i + 1, r, rfl, by omega, ?_, hlen2⟩, by (try simp only); omega⟩
      rw [flatMap_succ, List.map_append, List.map_append]
      have : F i = bk k (s.st (s.lo c + i)) := by rw [hF]
      rw [this]
      exact ho3
  obtain rfl : i = s.hi c - s.lo c := by omega
  -- the list of them
  generalize hFs : (List.range (s.hi c - s.lo c)).flatMap F = Fs at hfr hfl hfrl
  have hFm : ∀ x, x ∈ Fs ↔ x < N ∧ s.bl (nx x) = c := fun x => by
    rw [← hFs, List.mem_flatMap]
    simp only [List.mem_range, hF]
    constructor
    · rintro ⟨j, hj, hm⟩
      obtain ⟨h1, h2⟩ := ((hbk _ (hP.st_lt (s.lo c + j) (by omega))).1 x).1 hm
      exact ⟨h1, by rw [h2]; exact hP.blk c _ hc (by omega) (by omega)⟩
    · rintro ⟨h1, h2⟩
      have h3 := hnx x h1
      have h4 := hP.inb _ h3
      rw [h2] at h4
      refine ⟨s.pos (nx x) - s.lo c, by omega, ?_⟩
      rw [show s.lo c + (s.pos (nx x) - s.lo c) = s.pos (nx x) by omega, hP.st_pos _ h3]
      exact ((hbk _ h3).1 x).2 ⟨h1, rfl⟩
  have hfr2 : ∀ y, ownb fr y → tag0 y = 0 ∧ w1.heap.size ≤ y ∧ y < w2.heap.size := fun y hy => by
    have h3 := hfr.ge hy
    have h4 := hg1.size
    exact ⟨hnew y (by omega), h3⟩
  have hsz2 := hG2.size
  -- they are marked
  refine M.loop_at (fun q w' => Chg (Pt tag0) w2 w' ∧ ∃ (i : Nat) (mt : Sl) (Ms : List Nat) (s1 : PS), q = (mt, (i : Int)) ∧ i ≤ Fs.length ∧ PM n0 N K bk w' tag0 b p s1 ∧ PI N s1 ∧ Own w2.heap.size w' mt 3 1 ((Ms.map Int.ofNat).map vI) ∧
      s1.bl = s.bl ∧ s1.B = s.B ∧ s1.W = s.W ∧ (∀ y, y < N → (s1.mkd y ↔ y ∈ Fs.take i)) ∧ Ms.Nodup ∧ (∀ d, d ∈ Ms ↔ d < s1.B ∧ 0 < s1.md d) ∧ Ms.length ≤ i) (fun q _ => ((Fs.length : Int) - q.2).toNat)
    ⟨Chg.refl _ _, 0, Sl.nil, [], s, rfl, by omega, h2, hP, Own.nil _ _ _ _, rfl, rfl, rfl, fun y hy => ?_, by simp, fun d => ?_, by simp⟩ ?_
  · rw [PS.mkd, hmd _ (hP.bl_lt y hy)]
    have := (hP.inb y hy).1
    simp; omega
  · simp only [List.not_mem_nil, false_iff, not_and]
    intro hd; rw [hmd d hd]; omega
  clear hg2 hge hi
  rintro _ w3 ⟨hc3, i, mt, Ms, s1, rfl, hi, h3, hP3, hmt, e1, e2, e3, hmk, hMn, hMm, hMl⟩
  dsimp only
  have hmtl : Ms.length = mt.len := by simpa using hmt.len
  have hfr3 := hfr.chg hc3 fun y hy e => by have := (hfr2 y hy).1; simp only [Pt] at e; omega
  have hsz3 := hc3.size
  refine M.if_ (fun hlt => ?_) (fun hge => ?_)
  · have hlt : i < Fs.length := by omega
    have htake := List.take_succ_eq_append_getElem hlt
    refine M.rd (hfr3.rd (S := fun _ => True) fun _ _ => trivial) (by omega) (x := ((Fs[i] : Nat) : Int)) (by simp [hlt]) ?_
    have hxm : Fs[i] ∈ Fs := List.getElem_mem hlt
    have hxN := ((hFm _).1 hxm).1
    generalize Fs[i] = x at hxm hxN htake
    have hbB := hP3.bl_lt x hxN
    have hspl : p.spans.len = s1.B := by have := h3.sp.len; rw [spc_len] at this; omega
    -- where the mark is set
    have hmark : ∀ (q : Sl) (w4 : World) (M' : List Nat), Chg (Pt tag0) w2 w4 → PM n0 N K bk w4 tag0 b p s1 → Own w2.heap.size w4 q 3 1 ((M'.map Int.ofNat).map vI) → M'.Nodup → (∀ d, d ∈ M' ↔ d < s1.B ∧ (0 < s1.md d ∨ d = s1.bl x)) → M'.length ≤ i + 1 →
        Calls Try.prog 56 [vP (some ⟨b, 0, none⟩), vI x].toArray w4 (Ret Value.bool fun _ w' => Chg (Pt tag0) w2 w' ∧ PM n0 N K bk w' tag0 b p (s1.mark x) ∧ Own w2.heap.size w' q 3 1 ((M'.map Int.ofNat).map vI)) := fun q w4 M' hc4 h4 hq hn hm hl => by
      have hmr := hP3.md_le _ hbB
      have hrr := hP3.rng _ hbB
      refine Calls.mono (parter_mark (x := x) h4 hxN hN hbB (hP3.pos_lt x hxN) hP3.st_lt (by omega)) ?_
      rintro _ w5 ⟨r, rfl, h5, hc5⟩
      exact ⟨r, rfl, hc4.c hc5, h5, hq.chg hc5 fun y hy e => by have h6 := (hq.ge hy).1; have := hnew y (by omega); simp only [Pt] at e; omega⟩
    obtain ⟨hPm, hmkm, hsame, hmdm⟩ := hP3.mark hxN
    obtain ⟨f1, f2, f3, f4, f5⟩ := mark_same s1 x
    have hfin : ∀ (q : Sl) (w5 : World) (M' : List Nat), M'.Nodup → (∀ d, d ∈ M' ↔ d < s1.B ∧ (0 < s1.md d ∨ d = s1.bl x)) → M'.length ≤ i + 1 → Chg (Pt tag0) w2 w5 → PM n0 N K bk w5 tag0 b p (s1.mark x) → Own w2.heap.size w5 q 3 1 ((M'.map Int.ofNat).map vI) →
        Chg (Pt tag0) w2 w5 ∧ ∃ (i' : Nat) (mt : Sl) (Ms : List Nat) (s1' : PS), (q, ((i + 1 : Nat) : Int)) = (mt, (i' : Int)) ∧ i' ≤ Fs.length ∧ PM n0 N K bk w5 tag0 b p s1' ∧ PI N s1' ∧ Own w2.heap.size w5 mt 3 1 ((Ms.map Int.ofNat).map vI) ∧
          s1'.bl = s.bl ∧ s1'.B = s.B ∧ s1'.W = s.W ∧ (∀ y, y < N → (s1'.mkd y ↔ y ∈ Fs.take i')) ∧ Ms.Nodup ∧ (∀ d, d ∈ Ms ↔ d < s1'.B ∧ 0 < s1'.md d) ∧ Ms.length ≤ i' := fun q w5 M' hn hm hl hc5 h5 hq => by
      refine ⟨hc5, i + 1, q, M', s1.mark x, rfl, hlt, h5, hPm, hq, by rw [f1, e1], by rw [f2, e2], by rw [f5, e3], fun y hy => ?_, hn, fun d => ?_, hl⟩
      · rw [hmkm y hy, hmk y hy, htake, List.mem_append, List.mem_singleton]
      · rw [hm d, f2]
        refine and_congr_right fun hd => ?_
        by_cases hxm' : s1.mkd x
        · rw [hsame hxm']
          have := hP3.mkd_pos hxN hxm'
          exact ⟨fun h => h.elim id fun e => e ▸ this, .inl⟩
        · rw [hmdm hxm']
          simp only [ups]
          by_cases hd2 : d = s1.bl x
          · rw [if_pos hd2]; exact ⟨fun _ => by omega, fun _ => .inr hd2⟩
          · rw [if_neg hd2]; exact ⟨fun h => h.resolve_right hd2, .inl⟩
    refine M.join_at (fun q w' => ∃ M' : List Nat, Chg (Pt tag0) w2 w' ∧ PM n0 N K bk w' tag0 b p s1 ∧ Own w2.heap.size w' q 3 1 ((M'.map Int.ofNat).map vI) ∧ M'.Nodup ∧ (∀ d, d ∈ M' ↔ d < s1.B ∧ (0 < s1.md d ∨ d = s1.bl x)) ∧ M'.length ≤ i + 1) ?_ ?_
    · refine M.drew_of fun w4 _ hg4 => ?_
      have h4 := h3.g hg4
      have hc4 := hc3.g hg4
      have hmt4 := hmt.g hg4
      refine M.nn_of (M.ldB 3 h4.blk rfl (M.nn_of (M.ldB 2 h4.blk rfl (M.arR h4.bl x rfl hxN (M.ixO (s1.bl x) h4.sp rfl (by omega) fun sb hsb => M.ldO (x := (s1.md (s1.bl x) : Int)) (s1.bl x * 3) 2 h4.sp hsb (by rw [spc_get _ hbB (by omega)]; rfl) ?_)))))
      refine M.if_ (fun h0 => ?_) (fun h0 => ⟨Ms, hc4, h4, hmt4, hMn, fun d => ?_, by omega⟩)
      · have h0 : s1.md (s1.bl x) = 0 := by omega
        refine M.nn_of (M.ldB 2 h4.blk rfl (M.arR h4.bl x rfl hxN ?_))
        refine M.app Try.underlying24 (T := 3) (info := Try.t3) (z := vI 0) (m := 1) (bytes := 8) (by kernel_rfl) rfl rfl rfl rfl (by decide) hmt4 rfl (by simp [one1]) hc4.size (by omega) (by omega) fun r w5 ho5 hl5 hc5 hb5 => ?_
        have hno : ∀ y, ownb mt y → tag0 y = 0 := fun y hy => hnew y (by have := (hmt.ge hy).1; omega)
        refine ⟨Ms ++ [s1.bl x], ?_, h4.chg hc5 (fun y h6 h7 e => by have := hno y e; omega) fun _ _ => rfl, ?_, ?_, fun d => ?_, by simp; omega⟩
        · refine hc4.trans hc5 fun y hy e => ?_
          have := (hmt.ge e).1; omega
        · rw [List.map_append, List.map_append]; exact ho5
        · rw [List.nodup_append]
          refine ⟨hMn, by simp, fun a ha z hz e => ?_⟩
          rw [List.mem_singleton] at hz
          have := ((hMm a).1 ha).2
          rw [e, hz] at this; omega
        · rw [List.mem_append, List.mem_singleton, hMm d]
          constructor
          · rintro (⟨h6, h7⟩ | rfl)
            · exact ⟨h6, .inl h7⟩
            · exact ⟨hbB, .inr rfl⟩
          · rintro ⟨h6, h7 | h7⟩
            · exact .inl ⟨h6, h7⟩
            · exact .inr h7
      · rw [hMm d]
        refine and_congr_right fun hd => ⟨.inl, fun h => h.elim id fun e => ?_⟩
        rw [e]; omega
    · rintro q w4 ⟨M', hc4, h4, hq4, hn4, hm4, hl4⟩
      refine M.call_of (hmark q w4 M' hc4 h4 hq4 hn4 hm4 hl4) ?_
      rintro _ w5 ⟨hc5, h5, hq5⟩
      rw [wI_succ (by simp only [Big]; omega)]
      exact ⟨hfin q w5 M' hn4 hm4 hl4 hc5 h5 hq5, by (try simp only); omega⟩
  obtain rfl : i = Fs.length := by omega
  rw [List.take_length] at hmk
  have hS : ∀ y, y < N → (s1.mkd y ↔ s.bl (nx y) = c) := fun y hy => by rw [hmk y hy, hFm y]; simp [hy]
  have hMlB : Ms.length ≤ 65536 := by
    have := nodup_le s1.B Ms hMn fun x hx => ((hMm x).1 hx).1
    omega
  have hmt0 : ∀ y, ownb mt y → tag0 y = 0 ∧ y < w3.heap.size ∧ w.heap.size ≤ y := fun y hy => by
    have h6 := hmt.ge hy
    exact ⟨hnew y (by omega), h6.2, by omega⟩
  have hcw3 : Chg (Pt tag) w w3 := hG2.any.trans hc3 fun y hy e => hPt y hy e
  have hfinS : ∀ s', SpI N K s1 Ms Ms.length s' → ByR N K (fun x => s.bl (nx x) = c) s s' := fun s' hs => hs.by e1 e2 e3 hS hMm hP3
  have hszw3 := hcw3.size
  clear hge hmk hMl hfr3
  -- those that were met are parted
  refine M.loop_at (fun q w' => Chg (Pt tag) w w' ∧ ∃ (i : Nat) (tg : Nat → Nat) (p' : Ptv) (s2 : PS), q = (i : Int) ∧ i ≤ Ms.length ∧ (∀ x, x < w3.heap.size → tg x = tag0 x) ∧ PM n0 N K bk w' tg b p' s2 ∧ SpI N K s1 Ms i s2 ∧ Own w2.heap.size w' mt 3 1 ((Ms.map Int.ofNat).map vI) ∧ w3.heap.size ≤ w'.heap.size) (fun q _ => ((Ms.length : Int) - q).toNat)
    ⟨hcw3, 0, tag0, p, s1, rfl, by omega, fun _ _ => rfl, h3, SpI.start Ms hP3 (by rw [e3]; exact hWn) (by rw [e3, e2]; exact hWr), hmt, Nat.le_refl _⟩ ?_
  clear hc3 h3 hmt hcw3
  rintro _ w4 ⟨hc4, i, tg, p', s2, rfl, hi, htg, h4, hsp, hmt, hsz4⟩
  refine M.if_ (fun hlt => ?_) (fun hge => ?_)
  · have hlt : i < Ms.length := by omega
    have hMi : Ms[i]? = some Ms[i] := List.getElem?_eq_getElem hlt
    have hdm : Ms[i] ∈ Ms := List.getElem_mem hlt
    generalize Ms[i] = d at hMi hdm
    have hdB := ((hMm d).1 hdm).1
    have hdm0 := ((hMm d).1 hdm).2
    have hni := not_mem_take hMn hMi
    have hleB := hsp.leB
    have hB2 := hsp.pi.le
    have hds : d < s2.B := by omega
    have hmd2 := hsp.pi.md_le d hds
    have hrd2 := hsp.pi.rng d hds
    refine M.rd (hmt.rd (S := fun _ => True) fun _ _ => trivial) (by omega) (x := ((d : Nat) : Int)) (by rw [Int.toNat_natCast, List.getElem?_map, hMi]; rfl) ?_
    refine M.call_of (parter_part (c := d) h4 hds hN (by omega) (by omega) hrd2.2 (by omega) hsp.pi.st_lt hsp.pi.pos_st hsp.pi.st_pos) ?_
    rintro r w5 ⟨hr, ⟨tg5, p5, htg5, h5⟩, hc45⟩
    have hmtg : ∀ y, ownb mt y → tg y = 0 := fun y hy => by rw [htg y (hmt0 y hy).2.1]; exact (hmt0 y hy).1
    have hmt5 := hmt.chg hc45 fun y hy e => by have := hmtg y hy; simp only [Pt] at e; omega
    have hc5 : Chg (Pt tag) w w5 := hc4.trans hc45 fun y hy e => hPt y hy (by simp only [Pt] at e ⊢; rw [← htg y (by omega)]; exact e)
    have htg35 : ∀ x, x < w3.heap.size → tg5 x = tag0 x := fun x hx => by rw [htg5 x (by omega), htg x hx]
    have hsz5 := hc45.size
    by_cases he : s2.md d = s2.hi d - s2.lo d
    · rw [if_pos he] at hr
      subst hr
      refine M.if_ (fun _ => ?_) (fun h0 => by omega)
      rw [wI_succ (by simp only [Big]; omega)]
      exact ⟨⟨hc5, i + 1, tg5, p5, _, rfl, hlt, htg35, h5, hsp.all hP3 hMn hMi hdB he, hmt5, by omega⟩, by omega⟩
    rw [if_neg he] at hr
    subst hr
    refine M.if_ (fun h0 => by omega) (fun _ => ?_)
    refine M.nn_of (M.ldB 7 h5.blk rfl ?_)
    rw [h5.width]
    have hpB : (s2.part d).B = s2.B + 1 := by rw [PS.part, if_neg he]
    have hpW : (s2.part d).W = s2.W := by rw [PS.part]; split <;> rfl
    have hP5 := (hsp.pi.part hds (by have := (hsp.un d hdB hni).2.2; omega) he).1
    have hWl2 : s2.W.length ≤ K * s2.B := by
      have h6 := hsp.Wl
      rw [e3, e2] at h6
      omega
    have hKB2 : K * (s2.B + 1) ≤ 256 * 65536 := Nat.mul_le_mul hK (by have := hP5.le; omega)
    rw [Nat.mul_add, Nat.mul_one] at hKB2
    refine M.loop_at (fun q w' => Chg (Pt tag) w w' ∧ ∃ (z : Nat) (tg : Nat → Nat) (p' : Ptv) (W : List (Nat × Nat)), q = (z : Int) ∧ z ≤ K ∧ (∀ x, x < w3.heap.size → tg x = tag0 x) ∧ PM n0 N K bk w' tg b p' { s2.part d with W := W } ∧ Own w2.heap.size w' mt 3 1 ((Ms.map Int.ofNat).map vI) ∧ w3.heap.size ≤ w'.heap.size ∧
        W.Nodup ∧ (∀ q ∈ s2.W, q ∈ W) ∧ (∀ q ∈ W, q ∈ s2.W ∨ ((q.1 = d ∨ q.1 = s2.B) ∧ q.2 < z)) ∧ W.length ≤ s2.W.length + z ∧ (∀ c', c' < z → ((d, c') ∈ s2.W → (s2.B, c') ∈ W) ∧ ((d, c') ∈ W ∨ (s2.B, c') ∈ W))) (fun q _ => ((K : Int) - q).toNat)
      ⟨hc5, 0, tg5, p5, s2.W, rfl, by omega, htg35, by rw [← hpW]; exact h5, hmt5, by omega, hsp.Wn, fun _ h => h, fun _ h => .inl h, by omega, fun c' h => by omega⟩ ?_
    clear hc5 htg35 h5 hmt5 hc45 htg5 hsz5 w5 tg5 p5
    rintro _ w5 ⟨hc5, z, tg5, p5, W, rfl, hz, htg35, h5, hmt5, hsz5, g1, g2, g3, g4, g5⟩
    refine M.if_ (fun hlt2 => ?_) (fun hge2 => ?_)
    · have hlt2 : z < K := by omega
      refine M.call_of (parter_askLesser (o := d) (f := s2.B) (k := z) h5 (by simp only; omega) (by simp only [hpB]; omega) (by simp only [hpB]; omega) fun e he2 => ?_) ?_
      · have := hP5.rng e he2
        simp only
        omega
      rintro _ w6 ⟨⟨tg6, p6, x, hx1, hx2, htg6, h6⟩, hc56⟩
      rw [wI_succ (by simp only [Big]; omega)]
      have hmtg5 : ∀ y, ownb mt y → tg5 y = 0 := fun y hy => by rw [htg35 y (hmt0 y hy).2.1]; exact (hmt0 y hy).1
      have haW : ∀ q, q ∈ askW W x ↔ q ∈ W ∨ q = x := fun q => by
        rw [askW]
        split
        · rename_i hxW
          exact ⟨.inl, fun h => h.elim id fun e => e ▸ hxW⟩
        · simp
      refine ⟨⟨hc5.trans hc56 fun y hy e => hPt y hy (by simp only [Pt] at e ⊢; rw [← htg35 y (by omega)]; exact e), z + 1, tg6, p6, askW W x, rfl, hlt2, fun y hy => by rw [htg6 y (by omega), htg35 y hy], h6, hmt5.chg hc56 fun y hy e => by have := hmtg5 y hy; simp only [Pt] at e; omega, by have := hc56.size; omega, ?_, fun q hq => (haW q).2 (.inl (g2 q hq)), fun q hq => ?_, ?_, fun c' hc' => ?_⟩, by omega⟩
      · rw [askW]
        split
        · exact g1
        · rename_i hxW
          rw [List.nodup_append]
          exact ⟨g1, by simp, fun a ha y hy e => by rw [List.mem_singleton] at hy; subst hy; subst e; exact hxW ha⟩
      · rcases (haW q).1 hq with h7 | h7
        · rcases g3 q h7 with h8 | h8
          · exact .inl h8
          · exact .inr ⟨h8.1, by omega⟩
        · right
          rcases hx1 with h8 | h8 <;> (rw [h7, h8]; simp)
      · rw [askW]
        split
        · omega
        · rw [List.length_append, List.length_singleton]; omega
      · by_cases hcz : c' < z
        · have := g5 c' hcz
          exact ⟨fun h => (haW _).2 (.inl (this.1 h)), this.2.imp (fun h => (haW _).2 (.inl h)) fun h => (haW _).2 (.inl h)⟩
        · obtain rfl : c' = z := by omega
          refine ⟨fun h => (haW _).2 (.inr (hx2 (g2 _ h)).symm), ?_⟩
          rcases hx1 with h8 | h8
          · exact .inl ((haW _).2 (.inr h8.symm))
          · exact .inr ((haW _).2 (.inr h8.symm))
    · obtain rfl : z = K := by omega
      rw [wI_succ (by simp only [Big]; omega)]
      exact ⟨⟨hc5, i + 1, tg5, p5, _, rfl, hlt, htg35, h5, hsp.some hMn hMi hdB hdm0 he g1 g2 g3 g4 g5, hmt5, hsz5⟩, by omega⟩
  · obtain rfl : i = Ms.length := by omega
    exact ⟨⟨tg, p', s2, fun x hx => by rw [htg x (by omega), hold x hx], h4, hfinS _ hsp⟩, hc4⟩
end C
end Go.Proofs.Ythepabefikobpaa
