/- Contracts: a copy of a list; the machine of blocks (quotient.Of). Conditions: as each states. -/
import Derived.Test.YthepabefikobpaaC7
import Derived.Test.YthepabefikobpaaData3
namespace Go.Proofs.Ythepabefikobpaa
open Go Go.Sh Go.Sp
/-- No machine. -/
def zeroD : Dfv := ⟨fun _ => 0, 0, Sl.nil, Sl.nil, Sl.nil⟩
namespace Mx
def hdN (l : List Int) : List Nat := (fo l).map fun x => l.idxOf x
/-- The machine of blocks. -/
def quo (m : Mc) (l : List Int) : Mc :=
  ⟨m.of, m.width, (hdN l).map fun s => (List.range (k m)).map fun c => (numI l).getD (nx m s c) 0, (hdN l).map (lab m), m.names⟩
end Mx
namespace C
theorem hds_hdN (l : List Int) : hds (numI l) = (Mx.hdN l).map Int.ofNat := by
  rw [hds_numI, Mx.hdN, List.map_map]; rfl
theorem Clone_string {F : Nat → Prop} {w : World} {s : Sl} {l : List ByteArray} (h : Rd 1 F w s (l.map Value.string)) (hb : l.length ≤ 65536) :
    Calls Try.prog 48 [s.val].toArray w (Ret Sl.val fun r w' => Own w.heap.size w' r 9 1 (l.map Value.string) ∧ Grow w w') := by
  apply L.slices_Clone_Lstringstring
  unfold S.slices_Clone_Lstringstring
  have hl : l.length = s.len := by simpa using h.len
  refine M.ifb (fun h1 => ?_) (fun h1 => ?_)
  · have hn : s.addr = none := by simpa using h1
    have h0 : s.len = 0 := by
      by_cases h0 : s.len = 0
      · exact h0
      · obtain ⟨a, g, _⟩ := h.read h0
        rw [hn] at g; cases g
    have : l = [] := List.length_eq_zero_iff.1 (by omega)
    subst this
    exact ⟨Own.nil _ _ _ _, Chg.refl _ _⟩
  · have hn : s.addr ≠ none := by intro e; rw [e] at h1; cases h1
    refine M.new_of fun b w1 hb1 hblk hg hs1 => ?_
    have hown : Own w.heap.size w1 ⟨some ⟨b, 0, none⟩, 0, 0⟩ 9 1 [] := Own.mk (b := b) (cs := []) rfl (by omega) hblk (Nat.le_refl _) (by simp [maxLen]) (by simp) (by simp)
    refine M.appN Try.underlying25 (T := 9) (info := Try.t9) (z := .string ByteArray.empty) (m := 1) (bytes := 16) (by kernel_rfl) rfl rfl rfl rfl (by decide) hown (h.chg hg fun _ _ x => x) hn (by simp [one1]) (by omega) (by simp only; omega) (by simp only; omega) fun r w2 ho2 hl2 hc2 hb2 _ => ⟨?_, ?_⟩
    · simpa using ho2
    · exact Chg.fresh hg hc2 (fun b' hb' => (hown.ge hb').1)
theorem Ar_part (d : Dfv) : ∀ j v, (Ar.cs d.of)[j]? = some v → (Dfv.cs d)[0 + j]? = some v := by
  intro j v hv
  have hj : j < 256 := by rw [← Ar_len d.of]; exact (List.getElem?_eq_some_iff.1 hv).1
  rw [Nat.zero_add, Dfv_of d hj, ← hv, Ar_get _ hj]
theorem cells_of {w : World} {b T : Nat} {d : Dfv} (h : Blk w b T (Dfv.cs d)) : Cells w ((⟨b, 0, none⟩ : Addr).add 0) (Ar.cs d.of) := fun j v hv => h.cell (i := j) (by have := Ar_part d j v hv; rwa [Nat.zero_add] at this)
theorem hdN_mem {m : Mc} {l : List Int} (hl : l.length = Mx.n m) {s : Nat} (h : s ∈ Mx.hdN l) : s < Mx.n m := by
  rw [Mx.hdN, List.mem_map] at h
  obtain ⟨x, hx, rfl⟩ := h
  rw [← hl]
  exact List.idxOf_lt_length_of_mem ((mem_fo l x).1 hx)
theorem numI_at (l : List Int) {i : Nat} (h : i < l.length) : (numI l)[i]? = some ((numI l).getD i 0) := getD_some (by rw [numI_length]; exact h)
theorem quotient_Of {F : Nat → Prop} {w : World} {d : Dfv} {m : Mc} {s : Sl} {l : List Int} (h : DfaAt w d m) (hs : Rd 1 F w s (l.map vI)) :
    Calls Try.prog 23 [.agg (Dfv.cs d).toArray, s.val].toArray w (Ret (fun x : (Dfv × Int) => .tuple #[(.agg (Dfv.cs x.1).toArray), (vI x.2)]) fun r w' =>
      ((rightB m = false ∧ r = (zeroD, 6)) ∨ (rightB m = true ∧ (decide (l.length = Mx.n m) && Mx.stabB m l) = false ∧ r = (zeroD, 1)) ∨ (rightB m = true ∧ (decide (l.length = Mx.n m) && Mx.stabB m l) = true ∧ r.2 = 0 ∧ DfaIn (fun b => w.heap.size ≤ b) w' r.1 (Mx.quo m l))) ∧ Grow w w') := by
  apply L.quotient_Of
  unfold S.quotient_Of
  have hs := hs.mono (S' := fun _ => True) fun _ _ => trivial
  have hnl := h.next.len
  have hll : m.label.length = d.label.len := by simpa using h.label.len
  have hnn : m.names.length = d.names.len := by simpa using h.names.len
  refine M.new_of fun b1 w1 hb1 hblk1 hg1 hs1 => M.new_of fun b2 w2 hb2 hblk2 hg2 hs2 => ?_
  have hG := hg1.trans hg2
  have hl1 := hblk1.lt
  refine M.ldA0 (hblk1.chg hg2 fun x => x) rfl (M.call_of (dfa_Right (h.chg hG)) ?_)
  rintro r w3 ⟨rfl, hg3⟩
  have hG3 := hG.trans hg3
  have hB1 := (hblk1.chg hg2 fun x => x).chg hg3 fun x => x
  have hB2 := hblk2.chg hg3 fun x => x
  refine M.ifb (fun h1 => ?_) (fun h1 => ?_)
  · exact M.stA_of hB2 (by simp [Dfv_len]) fun w4 hb4 hc4 hs4 => M.ldA0 (x := zeroD) hb4 rfl ⟨.inl ⟨by simpa using h1, rfl⟩, Chg.fresh hG3 hc4 (fun b hb => by omega)⟩
  have h1 : rightB m = true := by simpa using h1
  have ho := Mx.ok_of h1
  have hn2 := ho.n2
  have hk2 := ho.k2
  have hnx := ho.next
  have hn : Mx.n m = m.label.length := rfl
  refine M.ldA0 hB1 rfl (M.call_of (quotient_Stable (h.chg hG3) (hs.chg hG3 fun _ _ x => x)) ?_)
  rintro r w4 ⟨rfl, hg4⟩
  have hG4 := hG3.trans hg4
  have hB1 := hB1.chg hg4 fun x => x
  have hB2 := hB2.chg hg4 fun x => x
  rw [h1, Bool.true_and]
  refine M.ifb (fun h2 => ?_) (fun h2 => ?_)
  · exact M.stA_of hB2 (by simp [Dfv_len]) fun w5 hb5 hc5 hs5 => M.ldA0 (x := zeroD) hb5 rfl ⟨.inr (.inl ⟨rfl, (by rwa [Bool.not_eq_true'] at h2), rfl⟩), Chg.fresh hG4 hc5 (fun b hb => by omega)⟩
  have h2 : (decide (l.length = Mx.n m) && Mx.stabB m l) = true := by simpa using h2
  rw [h2]
  have hle : l.length = Mx.n m := by rw [Bool.and_eq_true, decide_eq_true_eq] at h2; exact h2.1
  refine M.call_of (quotient_Norm (hs.chg hG4 fun _ _ x => x) (by omega)) ?_
  rintro r9 w5 ⟨ho5, hg5⟩
  have h9 := ho5.rd (S := fun _ => True) fun _ _ => trivial
  refine M.drew_of fun w6 _ hg6 => ?_
  have hg56 := hg5.trans hg6
  have hG6 := hG4.trans hg56
  have hB1 := hB1.chg hg56 fun x => x
  have hB2 := hB2.chg hg56 fun x => x
  have h9 := h9.chg hg6 fun _ _ x => x
  have hl2 := hB2.lt
  have hK1 := hB1
  have hK2 := hB2
  have hsz6 := hG6.size
  have hcl := Clone_string (h.names.chg hG6 fun _ _ x => x) (by have := ho.names; rw [namesB, Bool.and_eq_true, decide_eq_true_eq] at this; omega)
  -- what stands there, in whatever order it was made
  have mid : ∀ (b16 : Nat) (r13 : Sl) (w9 : World), Grow w6 w9 → w6.heap.size ≤ b16 → Blk w9 b16 27 (Dfv.cs ⟨d.of, d.width, Sl.nil, Sl.nil, r13⟩) → Own w6.heap.size w9 r13 9 1 (m.names.map Value.string) → ¬ ownb r13 b16 →
      Calls Try.prog 49 [r9.val].toArray w9 (Ret Sl.val fun r w' => Own w9.heap.size w' r 3 1 ((hds (numI l)).map vI) ∧ Grow w9 w') := by
    intro b16 r13 w9 hg9 _ _ _ _
    exact quotient_heads (h9.chg hg9 fun _ _ x => x) (by rw [numI_length]; omega)
  refine M.ldA_at (x := d.of) 0 hB1 (Ar_part d) (M.ldB 256 hB1 (Dfv_256 d) (M.ldB 259 hB1 (Dfv_259 d) ⟨?g1, ?g2⟩))
  case' g1 =>
    refine M.call_of hcl ?_
    rintro r13 w7 ⟨hnm, hg7⟩
    have hB1 := hB1.chg hg7 fun x => x
    refine ⟨hB1.cell (Dfv_256 d), cells_of hB1, M.new_of fun b16 w8 hb16 hblk16 hg8 hs8 => ?_⟩
    have hB1 := hB1.chg hg8 fun x => x
    have hsz7 := hg7.size
    refine ⟨hB1.cell (Dfv_256 d), cells_of hB1, M.stA_of hblk16 (by simp [Dfv_len]) fun w9 hB16 hc9 hs9 => ?_⟩
    have hg9 : Grow w6 w9 := Chg.fresh (hg7.trans hg8) hc9 (fun b hb => by omega)
    have hno : ¬ ownb r13 b16 := fun e => by have := (hnm.ge e).2; omega
    have hnm := (hnm.chg hg8 fun _ _ x => x).chg hc9 (fun b hb e => hno (e ▸ hb))
    refine M.call_of (mid b16 r13 w9 hg9 (by omega) hB16 hnm hno) ?_
    have hge16 : w6.heap.size ≤ b16 := by omega
    clear hb16 hblk16 hc9 hs9 hs8 hg8 hg7 hsz7 hB1 mid hcl
  case' g2 =>
    refine M.new_of fun b16 w7 hb16 hblk16 hg7 hs7 => ?_
    have hB1 := hB1.chg hg7 fun x => x
    refine ⟨hB1.cell (Dfv_259 d), hB1.cell (Dfv_256 d), cells_of hB1, M.call_of (Clone_string (h.names.chg (hG6.trans hg7) fun _ _ x => x) (by have := ho.names; rw [namesB, Bool.and_eq_true, decide_eq_true_eq] at this; omega)) ?_⟩
    rintro r13 w8 ⟨hnm, hg8⟩
    have hB1 := hB1.chg hg8 fun x => x
    refine ⟨hB1.cell (Dfv_256 d), cells_of hB1, M.stA_of (hblk16.chg hg8 fun x => x) (by simp [Dfv_len]) fun w9 hB16 hc9 hs9 => ?_⟩
    have hg9 : Grow w6 w9 := Chg.fresh (hg7.trans hg8) hc9 (fun b hb => by omega)
    have hno : ¬ ownb r13 b16 := fun e => by have := (hnm.ge e).1; omega
    have hnm := (hnm.base (n' := w6.heap.size) (by omega)).chg hc9 (fun b hb e => hno (e ▸ hb))
    refine M.call_of (mid b16 r13 w9 hg9 (by omega) hB16 hnm hno) ?_
    have hge16 : w6.heap.size ≤ b16 := by omega
    clear hb16 hblk16 hc9 hs9 hs7 hg8 hg7 hB1 mid hcl
  all_goals
    have hlt16 := hB16.lt
    rintro r19 w10 ⟨hh, hg10⟩
    have hB16 := hB16.chg hg10 fun x => x
    have hnm := hnm.chg hg10 fun _ _ x => x
    have hh := hh.rd (S := fun b => w9.heap.size ≤ b) fun b hb => (hh.ge hb).1
    have hg610 := hg9.trans hg10
    have hsz10 := hg10.size
    rw [hds_hdN] at hh
    have hhl : (Mx.hdN l).length = r19.len := by simpa using hh.len
    have hH : (Mx.hdN l).length ≤ 65536 := by rw [Mx.hdN, List.length_map]; have := fo_length_le l; omega
    refine M.loop_at (fun q w' => Chg (fun b => b = b16) w10 w' ∧ ∃ (i : Nat) (nx lb : Sl) (X : Nat → Prop), q = i ∧ i ≤ (Mx.hdN l).length ∧ Blk w' b16 27 (Dfv.cs ⟨d.of, d.width, nx, lb, r13⟩) ∧
        OwnRows w10.heap.size X w' nx 24 vI ((Mx.quo m l).next.take i) ∧ Own w10.heap.size w' lb 3 1 (((Mx.quo m l).label.take i).map vI) ∧
        (∀ b, X b → w10.heap.size ≤ b ∧ b < w'.heap.size ∧ ¬ ownb nx b ∧ ¬ ownb lb b) ∧ (∀ b, ownb nx b → ¬ ownb lb b)) (fun q _ => ((Mx.hdN l).length - q).toNat)
      ⟨Chg.refl _ _, 0, Sl.nil, Sl.nil, fun _ => False, rfl, by omega, hB16, OwnRows.nil, Own.nil _ _ _ _, fun _ x => x.elim, by rintro b ⟨a, h, _⟩; cases h⟩ ?_
    rintro _ w11 ⟨hc11, i, nx, lb, X, rfl, hi, hB16, hnx, hlb, hX, hnl⟩
    have hG11 : Grow w6 w11 := Chg.fresh hg610 hc11 (fun b hb => by omega)
    have hb1w : b1 < w6.heap.size := by have := hK1.lt; omega
    refine M.if_ (fun hlt => ?_) (fun hge => ?_)
    · have hlt : i < (Mx.hdN l).length := by omega
      have hmem : (Mx.hdN l)[i] ∈ Mx.hdN l := List.getElem_mem hlt
      have hq := hdN_mem hle hmem
      have hnxt : (Mx.quo m l).next[i]? = some ((List.range (Mx.k m)).map fun c => (numI l).getD (Mx.nx m (Mx.hdN l)[i] c) 0) := by
        simp [Mx.quo, hlt]
      have hlab : (Mx.quo m l).label[i]? = some (Mx.lab m (Mx.hdN l)[i]) := by simp [Mx.quo, hlt]
      have hrow0 : (Mx.quo m l).next.take (i + 1) = (Mx.quo m l).next.take i ++ [(List.range (Mx.k m)).map fun c => (numI l).getD (Mx.nx m (Mx.hdN l)[i] c) 0] := by
        rw [List.take_add_one, hnxt]; rfl
      have hlab0 : (Mx.quo m l).label.take (i + 1) = (Mx.quo m l).label.take i ++ [Mx.lab m (Mx.hdN l)[i]] := by
        rw [List.take_add_one, hlab]; rfl
      refine M.rd (hh.chg hc11 fun b hb e => by omega) (by omega) (x := ((Mx.hdN l)[i] : Int)) (by simp [hlt]) ?_
      generalize (Mx.hdN l)[i] = q at hq hrow0 hlab0
      have hB1 := hK1.chg hG11 fun x => x
      refine M.ldB 256 hB1 (Dfv_256 d) ?_
      rw [h.width, ho.width]
      refine M.mkSl Try.underlying24 (T := 3) (info := Try.t3) (z := vI 0) (by kernel_rfl) rfl rfl rfl (by simp only [Try.t3]; omega) (by simp only [maxLen]; omega) fun s25 w12 hs25 hs25l hs25b hg12 => ?_
      have hG12 := hG11.trans hg12
      have hB1 := hB1.chg hg12 fun x => x
      have hsz11 := hc11.size
      have hsz12 := hg12.size
      have hlq : (q : Int).toNat < m.next.length := by omega
      refine M.ldB 257 hB1 (Dfv_257 d) (M.rdrd h.next (hG6.trans hG12) (by omega) (toNat_some (z := []) (by omega)) fun t1 ht1 => ?_)
      rw [ho.rowEq hq] at ht1
      have ht1l : Mx.k m = t1.len := by simpa using ht1.len
      have hs25 : Own w11.heap.size w12 s25 3 1 (((List.range (Mx.k m)).map fun c => if c < 0 then (numI l).getD (Mx.nx m q c) 0 else 0).map vI) := by
        simpa [rep_range, Function.comp_def] using hs25
      refine M.loop_at (fun p w' => Chg (ownb s25) w12 w' ∧ ∃ j : Nat, p = j ∧ j ≤ Mx.k m ∧ Own w11.heap.size w' s25 3 1 (((List.range (Mx.k m)).map fun c => if c < j then (numI l).getD (Mx.nx m q c) 0 else 0).map vI)) (fun p _ => (Mx.k m - p).toNat)
        ⟨Chg.refl _ _, 0, rfl, by omega, hs25⟩ ?_
      rintro _ w13 ⟨hc13, j, rfl, hj, hs13⟩
      have hG13 : Grow w6 w13 := Chg.fresh hG12 hc13 fun b hb => by have := hs25b b hb; omega
      refine M.if_ (fun hlt2 => ?_) (fun hge2 => ?_)
      · have hlt2 : j < Mx.k m := by omega
        have hx := ho.nx q j hq hlt2
        refine M.rd (ht1.chg (hG6.trans hG13) fun _ _ x => x) (by omega) (x := ((Mx.nx m q j : Nat) : Int)) (by simp [hlt2]) ?_
        refine M.rd (h9.chg hG13 fun _ _ x => x) (by omega) (x := (numI l).getD (Mx.nx m q j) 0) (by rw [Int.toNat_natCast]; exact numI_at l (by omega)) ?_
        refine M.wr hs13 (by simpa using hlt2) fun w14 hs14 hc14 _ => ?_
        rw [set_range_map] at hs14
        rw [wI_succ (by simp only [Big]; omega)]
        refine ⟨⟨hc13.trans hc14 fun _ _ x => x, j + 1, rfl, by omega, ?_⟩, by omega⟩
        have e : (ups (fun c => if c < j then (numI l).getD (Mx.nx m q c) 0 else 0) j ((numI l).getD (Mx.nx m q j) 0)) = fun c => if c < j + 1 then (numI l).getD (Mx.nx m q c) 0 else 0 := by
          funext c
          simp only [ups]
          by_cases hcj : c = j
          · subst hcj; simp
          · rw [if_neg hcj]
            by_cases h3 : c < j
            · rw [if_pos h3, if_pos (by omega)]
            · rw [if_neg h3, if_neg (by omega)]
        rw [e] at hs14
        exact hs14
      · have : j = Mx.k m := by omega
        subst this
        have hrow : ((List.range (Mx.k m)).map fun c => if c < Mx.k m then (numI l).getD (Mx.nx m q c) 0 else 0) = (List.range (Mx.k m)).map fun c => (numI l).getD (Mx.nx m q c) 0 := List.map_congr_left fun c hc => by rw [if_pos (List.mem_range.1 hc)]
        rw [hrow] at hs13
        have hg11_13 : Grow w11 w13 := Chg.fresh hg12 hc13 fun b hb => by have := hs25b b hb; omega
        have hB16 := hB16.chg hg11_13 fun x => x
        have hnx0 := hnx
        have hlb0 := hlb
        have hnx := hnx.chg hg11_13 (fun _ _ x => x) fun _ _ x => x
        have hlb := hlb.chg hg11_13 fun _ _ x => x
        have hsz13 := hg11_13.size
        have hnxl := hnx.len
        have hlbl := hlb.len
        simp only [List.length_take, List.length_map] at hnxl hlbl
        refine M.ldB 257 hB16 (Dfv_257 _) ?_
        refine M.appRow (s := nx) (X' := fun b => X b ∨ ownb s25 b) Try.underlying23 (info := Try.t24) (z := Sl.nil.val) (by kernel_rfl) rfl rfl rfl rfl hnx (hs13.rd fun b hb => .inr hb) (fun b hb => .inl hb) ?_ (by omega) (by omega) fun q2 w14 hq2 hq2l hc14 hb14 => ?_
        · rintro b (hb | hb) e
          · exact (hX b hb).2.2.1 e
          · have h1 := hs25b b hb
            have h2 := (hnx.ge e)
            have h3 := hnx0.ge e
            omega
        have hnb16 : ∀ s : Sl, (∀ b, ownb s b → w10.heap.size ≤ b) → ¬ ownb s b16 := fun s hs e => by have := hs _ e; omega
        have hB16 := hB16.chg hc14 (hnb16 nx fun b hb => (hnx.ge hb).1)
        have hlb := hlb.chg hc14 fun b hb e => hnl b e hb
        have hsz14 := hc14.size
        refine M.stB 257 hB16 (by simp [Dfv_len]) fun w15 hB15 hc15 hs15 => ?_
        rw [Dfv_st257] at hB15
        refine M.drew_of fun w16 _ hg16 => ?_
        have hc1416 := hc15.g hg16
        have hB16 := hB15.chg hg16 fun x => x
        have hq2 := hq2.chg hc1416 (fun b hb e => hnb16 q2 (fun b hb => (hq2.ge hb).1) (e ▸ hb)) (fun b hb e => hb.elim (fun hb => by have := hX b hb; omega) (fun hb => by have := hs25b b hb; omega))
        have hlb := hlb.chg hc1416 (fun b hb e => hnb16 lb (fun b hb => (hlb.ge hb).1) (e ▸ hb))
        have hC16 : Chg (fun b => b = b16) w10 w16 := ((hc11.trans (hg11_13.any (p := fun b => b = b16)) fun _ _ x => x).trans (hc14.mono (q := fun b => b = b16 ∨ w10.heap.size ≤ b) fun b _ hb => .inr (hnx.ge hb).1) fun b hb x => by omega).trans hc1416 fun _ _ x => x
        have hG16 : Grow w6 w16 := Chg.fresh hg610 hC16 (fun b hb => by omega)
        have hsz16 := hc1416.size
        have hB1 := hK1.chg hG16 fun x => x
        refine M.ldB 258 hB16 (Dfv_258 _) (M.ldB 258 hB1 (Dfv_258 d) ?_)
        refine M.rd (h.label.chg (hG6.trans hG16) fun _ _ x => x) (by omega) (x := Mx.lab m q) (toNat_some (z := 0) hq) ?_
        refine M.app_chk (fun w' hg => (hB1.chg hg fun x => x).cell (Dfv_258 d)) (fun w' hg => (hB16.chg hg fun x => x).cell (Dfv_258 _)) ?_
        refine M.app (s := lb) Try.underlying24 (T := 3) (info := Try.t3) (z := vI 0) (m := 1) (bytes := 8) (by kernel_rfl) rfl rfl rfl rfl (by decide) hlb rfl (by simp [one1]) (by omega) (by omega) (by omega) fun r w17 ho17 hl17 hc17 hb17 => ?_
        have hlbge : ∀ b, ownb lb b → w10.heap.size ≤ b := fun b hb => (hlb.ge hb).1
        have hB1 := hB1.chg hc17 fun hb => by have := hlbge _ hb; omega
        have hB16 := hB16.chg hc17 fun hb => by have := hlbge _ hb; omega
        refine ⟨hB1.cell (Dfv_258 d), M.stB 258 hB16 (by simp [Dfv_len]) fun w18 hB18 hc18 hs18 => ?_⟩
        rw [Dfv_st258, h.width, ho.width] at hB18
        rw [wI_succ (by simp only [Big]; omega)]
        have hsz17 := hc17.size
        have hc1618 : Chg (fun b => b = b16 ∨ ownb lb b) w16 w18 := (hc17.mono fun _ _ hb => .inr hb).trans hc18 fun _ _ x => .inl x
        have hX2 : ∀ b, X b ∨ ownb s25 b → w10.heap.size ≤ b ∧ b < w14.heap.size ∧ ¬ ownb nx b ∧ ¬ ownb lb b := by
          rintro b (hb | hb)
          · have := hX b hb
            exact ⟨this.1, by omega, this.2.2⟩
          · have h1 := hs25b b hb
            refine ⟨by omega, by have := (hs13.ge hb).2; omega, fun e => ?_, fun e => ?_⟩
            · have := (OwnRows.ge hnx0 e).2; omega
            · have := (Own.ge hlb0 e).2; omega
        refine ⟨⟨hC16.trans hc1618 fun b hb x => ?_, i + 1, q2, r, fun b => X b ∨ ownb s25 b, rfl, hlt, hB18, ?_, ?_, ?_, ?_⟩, by omega⟩
        · rcases x with x | x
          · exact x
          · have := hlbge _ x; omega
        · rw [hrow0]
          refine hq2.chg hc1618 (fun b hb e => ?_) (fun b hb e => ?_)
          · rcases e with e | e
            · have := (hq2.ge hb).1; omega
            · rcases hb14 b hb with h1 | h1
              · exact hnl b h1 e
              · have := (Own.ge hlb0 e).2; omega
          · rcases e with e | e
            · have := (hX2 b hb).1; omega
            · exact (hX2 b hb).2.2.2 e
        · rw [hlab0, List.map_append]
          exact ho17.chg hc18 fun b hb e => by have := (ho17.ge hb).1; omega
        · intro b hb
          obtain ⟨h1, h2, h3, h4⟩ := hX2 b hb
          refine ⟨h1, by omega, fun e => ?_, fun e => ?_⟩
          · rcases hb14 b e with h5 | h5
            · exact h3 h5
            · have : b < w13.heap.size := by
                rcases hb with hb | hb
                · have := hX b hb; omega
                · have := (hs13.ge hb).2; omega
              omega
          · rcases hb17 b e with h5 | h5
            · exact h4 h5
            · omega
        · intro b hb e
          rcases hb17 b e with h5 | h5
          · rcases hb14 b hb with h1 | h1
            · exact hnl b h1 h5
            · have := (Own.ge hlb0 h5).2; omega
          · have := (hq2.ge hb).2; omega
    · have : i = (Mx.hdN l).length := by omega
      subst this
      have hl3 : (Mx.quo m l).next.length = (Mx.hdN l).length := by simp [Mx.quo]
      have hl4 : (Mx.quo m l).label.length = (Mx.hdN l).length := by simp [Mx.quo]
      rw [List.take_of_length_le (by omega)] at hnx
      rw [List.take_of_length_le (by omega)] at hlb
      have hnm := hnm.chg hc11 fun b hb e => hno (e ▸ hb)
      have hB2 := hK2.chg hG11 fun x => x
      refine M.ldA0 hB16 rfl (M.stA_of hB2 (by simp [Dfv_len]) fun w12 hb12 hc12 hs12 => M.ldA0 hb12 rfl ⟨.inr (.inr ⟨rfl, rfl, rfl, ?_⟩), ?_⟩)
      · have hne : ∀ b, w10.heap.size ≤ b → b ≠ b2 := fun b hb e => by have := hK2.lt; omega
        exact ⟨h.of, h.byte, h.width, (hnx.chg hc12 (fun b hb => hne b (hnx.ge hb).1) (fun b hb => hne b (hX b hb).1)).rdIn (fun b hb => by have := (hnx.ge hb).1; omega) (fun b hb => by have := (hX b hb).1; omega), (hlb.chg hc12 fun b hb => hne b (hlb.ge hb).1).rd fun b hb => by have := (hlb.ge hb).1; omega, (hnm.chg hc12 fun b hb e => by have := (hnm.ge hb).1; have := hK2.lt; omega).rd fun b hb => by have := (hnm.ge hb).1; omega, h.size⟩
      · exact Chg.fresh (hG6.trans hG11) hc12 fun b hb => by omega
end C
end Go.Proofs.Ythepabefikobpaa
