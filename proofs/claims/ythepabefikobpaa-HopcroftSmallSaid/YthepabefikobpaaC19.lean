/- Contracts: the machine of the kept states (dfa.Keep), dfa.Trim. Conditions: as each states. -/
import Derived.Test.YthepabefikobpaaC17
namespace Go.Proofs.Ythepabefikobpaa
open Go Go.Sh Go.Sp
namespace C
theorem pl_all {X : List Nat} {x : Nat} (h : x ∈ X) : pl X X.length x = (X.idxOf x : Int) := by simp [pl, h]
theorem dfa_Keep {F : Nat → Prop} {w : World} {d : Dfv} {m : Mc} {s : Sl} {l : List Nat} (h : DfaAt w d m) (hs : rightB m = true → Mx.Kp m l ∧ Rd 1 F w s ((l.map Int.ofNat).map vI)) :
    Calls Try.prog 47 [.agg (Dfv.cs d).toArray, s.val].toArray w (Ret (fun x : (Dfv × Int) => .tuple #[(.agg (Dfv.cs x.1).toArray), (vI x.2)]) fun r w' =>
      ((rightB m = false ∧ r = (zeroD, 6)) ∨ (rightB m = true ∧ r.2 = 0 ∧ DfaIn (fun b => w.heap.size ≤ b) w' r.1 (Mx.keepM m l))) ∧ Grow w w') := by
  apply L.dfa_Keep
  unfold S.dfa_Keep
  have hnl := h.next.len
  have hll : m.label.length = d.label.len := by simpa using h.label.len
  have hnn : m.names.length = d.names.len := by simpa using h.names.len
  refine M.new_of fun b1 w1 hb1 hblk1 hg1 hs1 => M.new_of fun b2 w2 hb2 hblk2 hg2 hs2 => ?_
  have hG := hg1.trans hg2
  have hl1 := hblk1.lt
  refine M.ldA0 (hblk1.chg hg2 fun x => x) rfl (M.call_of (dfa_Right (h.chg hG)) ?_)
  rintro r w3 ⟨rfl, hg3⟩
  have hG3 := hG.trans hg3
  have hB1 := (hblk1.chg hg2 fun x => x).chg hg3 fun x => x
  have hB2 := hblk2.chg hg3 fun x => x
  refine M.ifb (fun h1 => ?_) (fun h1 => ?_)
  · exact M.stA_of hB2 (by simp [Dfv_len]) fun w4 hb4 hc4 hs4 => M.ldA0 (x := zeroD) hb4 rfl ⟨.inl ⟨by simpa using h1, rfl⟩, Chg.fresh hG3 hc4 (fun b hb => by omega)⟩
  have h1 : rightB m = true := by simpa using h1
  obtain ⟨hk, hs⟩ := hs h1
  have hs := hs.any
  have ho := Mx.ok_of h1
  have hn2 := ho.n2
  have hk2 := ho.k2
  have hnx := ho.next
  have hn : Mx.n m = m.label.length := rfl
  have hle := hk.le
  refine M.ldB 258 hB1 (Dfv_258 d) ?_
  rw [← hll, ← hn]
  refine M.call_of (dfa_places ho hk (hs.g hG3)) ?_
  rintro r7 w5 ⟨hr7, ho5, hg5⟩
  refine M.ifb (fun h0 => by rw [hr7] at h0; cases h0) (fun _ => ?_)
  rw [h1]
  have h9 := ho5.rd (S := fun _ => True) fun _ _ => trivial
  refine M.drew_of fun w6 _ hg6 => ?_
  have hg56 := hg5.trans hg6
  have hG6 := hG3.trans hg56
  have hB1 := hB1.chg hg56 fun x => x
  have hB2 := hB2.chg hg56 fun x => x
  have h9 := h9.chg hg6 fun _ _ x => x
  have hl2 := hB2.lt
  have hK1 := hB1
  have hK2 := hB2
  have hsz6 := hG6.size
  have hcl := Clone_string (h.names.chg hG6 fun _ _ x => x) (by have := ho.names; rw [namesB, Bool.and_eq_true, decide_eq_true_eq] at this; omega)
  refine M.ldA_at (x := d.of) 0 hB1 (Ar_part d) (M.ldB 256 hB1 (Dfv_256 d) (M.ldB 259 hB1 (Dfv_259 d) ⟨?g1, ?g2⟩))
  case' g1 =>
    refine M.call_of hcl ?_
    rintro r13 w7 ⟨hnm, hg7⟩
    have hB1 := hB1.chg hg7 fun x => x
    refine ⟨hB1.cell (Dfv_256 d), cells_of hB1, M.new_of fun b16 w8 hb16 hblk16 hg8 hs8 => ?_⟩
    have hB1 := hB1.chg hg8 fun x => x
    have hsz7 := hg7.size
    refine ⟨hB1.cell (Dfv_256 d), cells_of hB1, M.stA_of hblk16 (by simp [Dfv_len]) fun w9 hB16 hc9 hs9 => ?_⟩
    have hg9 : Grow w6 w9 := Chg.fresh (hg7.trans hg8) hc9 (fun b hb => by omega)
    have hno : ¬ ownb r13 b16 := fun e => by have := (hnm.ge e).2; omega
    have hnm := (hnm.chg hg8 fun _ _ x => x).chg hc9 (fun b hb e => hno (e ▸ hb))
    have hge16 : w6.heap.size ≤ b16 := by omega
    clear hb16 hblk16 hc9 hs9 hs8 hg8 hg7 hsz7 hB1 hcl
  case' g2 =>
    refine M.new_of fun b16 w7 hb16 hblk16 hg7 hs7 => ?_
    have hB1 := hB1.chg hg7 fun x => x
    refine ⟨hB1.cell (Dfv_259 d), hB1.cell (Dfv_256 d), cells_of hB1, M.call_of (Clone_string (h.names.chg (hG6.trans hg7) fun _ _ x => x) (by have := ho.names; rw [namesB, Bool.and_eq_true, decide_eq_true_eq] at this; omega)) ?_⟩
    rintro r13 w8 ⟨hnm, hg8⟩
    have hB1 := hB1.chg hg8 fun x => x
    refine ⟨hB1.cell (Dfv_256 d), cells_of hB1, M.stA_of (hblk16.chg hg8 fun x => x) (by simp [Dfv_len]) fun w9 hB16 hc9 hs9 => ?_⟩
    have hg9 : Grow w6 w9 := Chg.fresh (hg7.trans hg8) hc9 (fun b hb => by omega)
    have hno : ¬ ownb r13 b16 := fun e => by have := (hnm.ge e).1; omega
    have hnm := (hnm.base (n' := w6.heap.size) (by omega)).chg hc9 (fun b hb e => hno (e ▸ hb))
    have hge16 : w6.heap.size ≤ b16 := by omega
    clear hb16 hblk16 hc9 hs9 hs7 hg8 hg7 hB1 hcl
  all_goals
    have hlt16 := hB16.lt
    have hg610 := hg9
    have hsz10 := hg9.size
    have hh : Rd 1 (fun _ => True) w9 s ((l.map Int.ofNat).map vI) := hs.g (hG6.trans hg9)
    have hhl : l.length = s.len := by simpa using hh.len
    have hH : l.length ≤ 65536 := by omega
    refine M.loop_at (fun q w' => Chg (fun b => b = b16) w9 w' ∧ ∃ (i : Nat) (nx lb : Sl) (X : Nat → Prop), q = i ∧ i ≤ l.length ∧ Blk w' b16 27 (Dfv.cs ⟨d.of, d.width, nx, lb, r13⟩) ∧
        OwnRows w9.heap.size X w' nx 24 vI ((Mx.keepM m l).next.take i) ∧ Own w9.heap.size w' lb 3 1 (((Mx.keepM m l).label.take i).map vI) ∧
        (∀ b, X b → w9.heap.size ≤ b ∧ b < w'.heap.size ∧ ¬ ownb nx b ∧ ¬ ownb lb b) ∧ (∀ b, ownb nx b → ¬ ownb lb b)) (fun q _ => (l.length - q).toNat)
      ⟨Chg.refl _ _, 0, Sl.nil, Sl.nil, fun _ => False, rfl, by omega, hB16, OwnRows.nil, Own.nil _ _ _ _, fun _ x => x.elim, by rintro b ⟨a, h, _⟩; cases h⟩ ?_
    rintro _ w11 ⟨hc11, i, nx, lb, X, rfl, hi, hB16, hnx, hlb, hX, hnl⟩
    have hG11 : Grow w6 w11 := Chg.fresh hg610 hc11 (fun b hb => by omega)
    have hb1w : b1 < w6.heap.size := by have := hK1.lt; omega
    refine M.if_ (fun hlt => ?_) (fun hge => ?_)
    · have hlt : i < l.length := by omega
      have hmem : l[i] ∈ l := List.getElem_mem hlt
      have hq := hk.lt _ hmem
      have hql := hmem
      have hnxt : (Mx.keepM m l).next[i]? = some ((List.range (Mx.k m)).map fun c => ((l.idxOf (Mx.nx m l[i] c) : Nat) : Int)) := by
        simp [Mx.keepM, hlt]
      have hlab : (Mx.keepM m l).label[i]? = some (Mx.lab m l[i]) := by simp [Mx.keepM, hlt]
      have hrow0 : (Mx.keepM m l).next.take (i + 1) = (Mx.keepM m l).next.take i ++ [(List.range (Mx.k m)).map fun c => ((l.idxOf (Mx.nx m l[i] c) : Nat) : Int)] := by
        rw [List.take_add_one, hnxt]; rfl
      have hlab0 : (Mx.keepM m l).label.take (i + 1) = (Mx.keepM m l).label.take i ++ [Mx.lab m l[i]] := by
        rw [List.take_add_one, hlab]; rfl
      refine M.rd (hs.g (hG6.trans hG11)) (by omega) (x := (l[i] : Int)) (by simp [hlt]) ?_
      generalize l[i] = q at hq hql hrow0 hlab0
      have hB1 := hK1.chg hG11 fun x => x
      refine M.ldB 256 hB1 (Dfv_256 d) ?_
      rw [h.width, ho.width]
      refine M.mkSl Try.underlying24 (T := 3) (info := Try.t3) (z := vI 0) (by kernel_rfl) rfl rfl rfl (by simp only [Try.t3]; omega) (by simp only [maxLen]; omega) fun s25 w12 hs25 hs25l hs25b hg12 => ?_
      have hG12 := hG11.trans hg12
      have hB1 := hB1.chg hg12 fun x => x
      have hsz11 := hc11.size
      have hsz12 := hg12.size
      have hlq : (q : Int).toNat < m.next.length := by omega
      refine M.ldB 257 hB1 (Dfv_257 d) (M.rdrd h.next (hG6.trans hG12) (by omega) (toNat_some (z := []) (by omega)) fun t1 ht1 => ?_)
      rw [ho.rowEq hq] at ht1
      have ht1l : Mx.k m = t1.len := by simpa using ht1.len
      have hs25 : Own w11.heap.size w12 s25 3 1 (((List.range (Mx.k m)).map fun c => if c < 0 then ((l.idxOf (Mx.nx m q c) : Nat) : Int) else 0).map vI) := by
        simpa [rep_range, Function.comp_def] using hs25
      refine M.loop_at (fun p w' => Chg (ownb s25) w12 w' ∧ ∃ j : Nat, p = j ∧ j ≤ Mx.k m ∧ Own w11.heap.size w' s25 3 1 (((List.range (Mx.k m)).map fun c => if c < j then ((l.idxOf (Mx.nx m q c) : Nat) : Int) else 0).map vI)) (fun p _ => (Mx.k m - p).toNat)
        ⟨Chg.refl _ _, 0, rfl, by omega, hs25⟩ ?_
      rintro _ w13 ⟨hc13, j, rfl, hj, hs13⟩
      have hG13 : Grow w6 w13 := Chg.fresh hG12 hc13 fun b hb => by have := hs25b b hb; omega
      refine M.if_ (fun hlt2 => ?_) (fun hge2 => ?_)
      · have hlt2 : j < Mx.k m := by omega
        have hx := ho.nx q j hq hlt2
        refine M.rd (ht1.chg (hG6.trans hG13) fun _ _ x => x) (by omega) (x := ((Mx.nx m q j : Nat) : Int)) (by simp [hlt2]) ?_
        have hin := hk.cl q j hql hlt2
        have hpl : ((List.range (Mx.n m)).map (pl l l.length))[((Mx.nx m q j : Nat) : Int).toNat]? = some ((l.idxOf (Mx.nx m q j) : Nat) : Int) := by
          have := hx.1
          simp [this, pl_all hin]
        refine M.rd (h9.chg hG13 fun _ _ x => x) (by omega) hpl ?_
        refine M.if_ (fun h0 => by omega) (fun _ => ?_)
        refine M.rd (h9.chg hG13 fun _ _ x => x) (by omega) hpl ?_
        refine M.wr hs13 (by simpa using hlt2) fun w14 hs14 hc14 _ => ?_
        rw [set_range_map] at hs14
        rw [wI_succ (by simp only [Big]; omega)]
        refine ⟨⟨hc13.trans hc14 fun _ _ x => x, j + 1, rfl, by omega, ?_⟩, by omega⟩
        have e : (ups (fun c => if c < j then ((l.idxOf (Mx.nx m q c) : Nat) : Int) else 0) j (((l.idxOf (Mx.nx m q j) : Nat) : Int))) = fun c => if c < j + 1 then ((l.idxOf (Mx.nx m q c) : Nat) : Int) else 0 := by
          funext c
          simp only [ups]
          by_cases hcj : c = j
          · subst hcj; simp
          · rw [if_neg hcj]
            by_cases h3 : c < j
            · rw [if_pos h3, if_pos (by omega)]
            · rw [if_neg h3, if_neg (by omega)]
        rw [e] at hs14
        exact hs14
      · have : j = Mx.k m := by omega
        subst this
        have hrow : ((List.range (Mx.k m)).map fun c => if c < Mx.k m then ((l.idxOf (Mx.nx m q c) : Nat) : Int) else 0) = (List.range (Mx.k m)).map fun c => ((l.idxOf (Mx.nx m q c) : Nat) : Int) := List.map_congr_left fun c hc => by rw [if_pos (List.mem_range.1 hc)]
        rw [hrow] at hs13
        have hg11_13 : Grow w11 w13 := Chg.fresh hg12 hc13 fun b hb => by have := hs25b b hb; omega
        have hB16 := hB16.chg hg11_13 fun x => x
        have hnx0 := hnx
        have hlb0 := hlb
        have hnx := hnx.chg hg11_13 (fun _ _ x => x) fun _ _ x => x
        have hlb := hlb.chg hg11_13 fun _ _ x => x
        have hsz13 := hg11_13.size
        have hnxl := hnx.len
        have hlbl := hlb.len
        simp only [List.length_take, List.length_map] at hnxl hlbl
        refine M.ldB 257 hB16 (Dfv_257 _) ?_
        refine M.appRow (s := nx) (X' := fun b => X b ∨ ownb s25 b) Try.underlying23 (info := Try.t24) (z := Sl.nil.val) (by kernel_rfl) rfl rfl rfl rfl hnx (hs13.rd fun b hb => .inr hb) (fun b hb => .inl hb) ?_ (by omega) (by omega) fun q2 w14 hq2 hq2l hc14 hb14 => ?_
        · rintro b (hb | hb) e
          · exact (hX b hb).2.2.1 e
          · have h1 := hs25b b hb
            have h2 := (hnx.ge e)
            have h3 := hnx0.ge e
            omega
        have hnb16 : ∀ s : Sl, (∀ b, ownb s b → w9.heap.size ≤ b) → ¬ ownb s b16 := fun s hs e => by have := hs _ e; omega
        have hB16 := hB16.chg hc14 (hnb16 nx fun b hb => (hnx.ge hb).1)
        have hlb := hlb.chg hc14 fun b hb e => hnl b e hb
        have hsz14 := hc14.size
        refine M.stB 257 hB16 (by simp [Dfv_len]) fun w15 hB15 hc15 hs15 => ?_
        rw [Dfv_st257] at hB15
        refine M.drew_of fun w16 _ hg16 => ?_
        have hc1416 := hc15.g hg16
        have hB16 := hB15.chg hg16 fun x => x
        have hq2 := hq2.chg hc1416 (fun b hb e => hnb16 q2 (fun b hb => (hq2.ge hb).1) (e ▸ hb)) (fun b hb e => hb.elim (fun hb => by have := hX b hb; omega) (fun hb => by have := hs25b b hb; omega))
        have hlb := hlb.chg hc1416 (fun b hb e => hnb16 lb (fun b hb => (hlb.ge hb).1) (e ▸ hb))
        have hC16 : Chg (fun b => b = b16) w9 w16 := ((hc11.trans (hg11_13.any (p := fun b => b = b16)) fun _ _ x => x).trans (hc14.mono (q := fun b => b = b16 ∨ w9.heap.size ≤ b) fun b _ hb => .inr (hnx.ge hb).1) fun b hb x => by omega).trans hc1416 fun _ _ x => x
        have hG16 : Grow w6 w16 := Chg.fresh hg610 hC16 (fun b hb => by omega)
        have hsz16 := hc1416.size
        have hB1 := hK1.chg hG16 fun x => x
        refine M.ldB 258 hB16 (Dfv_258 _) (M.ldB 258 hB1 (Dfv_258 d) ?_)
        refine M.rd (h.label.chg (hG6.trans hG16) fun _ _ x => x) (by omega) (x := Mx.lab m q) (toNat_some (z := 0) hq) ?_
        refine M.app_chk (fun w' hg => (hB1.chg hg fun x => x).cell (Dfv_258 d)) (fun w' hg => (hB16.chg hg fun x => x).cell (Dfv_258 _)) ?_
        refine M.app (s := lb) Try.underlying24 (T := 3) (info := Try.t3) (z := vI 0) (m := 1) (bytes := 8) (by kernel_rfl) rfl rfl rfl rfl (by decide) hlb rfl (by simp [one1]) (by omega) (by omega) (by omega) fun r w17 ho17 hl17 hc17 hb17 => ?_
        have hlbge : ∀ b, ownb lb b → w9.heap.size ≤ b := fun b hb => (hlb.ge hb).1
        have hB1 := hB1.chg hc17 fun hb => by have := hlbge _ hb; omega
        have hB16 := hB16.chg hc17 fun hb => by have := hlbge _ hb; omega
        refine ⟨hB1.cell (Dfv_258 d), M.stB 258 hB16 (by simp [Dfv_len]) fun w18 hB18 hc18 hs18 => ?_⟩
        rw [Dfv_st258, h.width, ho.width] at hB18
        rw [wI_succ (by simp only [Big]; omega)]
        have hsz17 := hc17.size
        have hc1618 : Chg (fun b => b = b16 ∨ ownb lb b) w16 w18 := (hc17.mono fun _ _ hb => .inr hb).trans hc18 fun _ _ x => .inl x
        have hX2 : ∀ b, X b ∨ ownb s25 b → w9.heap.size ≤ b ∧ b < w14.heap.size ∧ ¬ ownb nx b ∧ ¬ ownb lb b := by
          rintro b (hb | hb)
          · have := hX b hb
            exact ⟨this.1, by omega, this.2.2⟩
          · have h1 := hs25b b hb
            refine ⟨by omega, by have := (hs13.ge hb).2; omega, fun e => ?_, fun e => ?_⟩
            · have := (OwnRows.ge hnx0 e).2; omega
            · have := (Own.ge hlb0 e).2; omega
        refine ⟨⟨hC16.trans hc1618 fun b hb x => ?_, i + 1, q2, r, fun b => X b ∨ ownb s25 b, rfl, hlt, hB18, ?_, ?_, ?_, ?_⟩, by omega⟩
        · rcases x with x | x
          · exact x
          · have := hlbge _ x; omega
        · rw [hrow0]
          refine hq2.chg hc1618 (fun b hb e => ?_) (fun b hb e => ?_)
          · rcases e with e | e
            · have := (hq2.ge hb).1; omega
            · rcases hb14 b hb with h1 | h1
              · exact hnl b h1 e
              · have := (Own.ge hlb0 e).2; omega
          · rcases e with e | e
            · have := (hX2 b hb).1; omega
            · exact (hX2 b hb).2.2.2 e
        · rw [hlab0, List.map_append]
          exact ho17.chg hc18 fun b hb e => by have := (ho17.ge hb).1; omega
        · intro b hb
          obtain ⟨h1, h2, h3, h4⟩ := hX2 b hb
          refine ⟨h1, by omega, fun e => ?_, fun e => ?_⟩
          · rcases hb14 b e with h5 | h5
            · exact h3 h5
            · have : b < w13.heap.size := by
                rcases hb with hb | hb
                · have := hX b hb; omega
                · have := (hs13.ge hb).2; omega
              omega
          · rcases hb17 b e with h5 | h5
            · exact h4 h5
            · omega
        · intro b hb e
          rcases hb17 b e with h5 | h5
          · rcases hb14 b hb with h1 | h1
            · exact hnl b h1 h5
            · have := (Own.ge hlb0 h5).2; omega
          · have := (hq2.ge hb).2; omega
    · have : i = l.length := by omega
      subst this
      have hl3 : (Mx.keepM m l).next.length = l.length := by simp [Mx.keepM]
      have hl4 : (Mx.keepM m l).label.length = l.length := by simp [Mx.keepM]
      rw [List.take_of_length_le (by omega)] at hnx
      rw [List.take_of_length_le (by omega)] at hlb
      have hnm := hnm.chg hc11 fun b hb e => hno (e ▸ hb)
      have hB2 := hK2.chg hG11 fun x => x
      refine M.ldA0 hB16 rfl (M.stA_of hB2 (by simp [Dfv_len]) fun w12 hb12 hc12 hs12 => M.ldA0 hb12 rfl ⟨.inr ⟨rfl, rfl, ?_⟩, ?_⟩)
      · have hne : ∀ b, w9.heap.size ≤ b → b ≠ b2 := fun b hb e => by have := hK2.lt; omega
        exact ⟨h.of, h.byte, h.width, (hnx.chg hc12 (fun b hb => hne b (hnx.ge hb).1) (fun b hb => hne b (hX b hb).1)).rdIn (fun b hb => by have := (hnx.ge hb).1; omega) (fun b hb => by have := (hX b hb).1; omega), (hlb.chg hc12 fun b hb => hne b (hlb.ge hb).1).rd fun b hb => by have := (hlb.ge hb).1; omega, (hnm.chg hc12 fun b hb e => by have := (hnm.ge hb).1; have := hK2.lt; omega).rd fun b hb => by have := (hnm.ge hb).1; omega, h.size⟩
      · exact Chg.fresh (hG6.trans hG11) hc12 fun b hb => by omega
end C
end Go.Proofs.Ythepabefikobpaa
/- Contracts: dfa.Trim, hopcroft.Small. Conditions: as each states. -/
namespace Go.Sh
open Go
theorem Rd.lt {m : Nat} {S : Nat → Prop} {w : World} {s : Sl} {vs : List Value} (hm : 0 < m) (h : Rd m S w s vs) : Rd m (fun b => S b ∧ b < w.heap.size) w s vs :=
  h.mono2 hm fun _ hb hs => ⟨hs, hb⟩
theorem RdIn.lt {S : Nat → Prop} {w : World} {s : Sl} {L : List (List Int)} (h : RdIn S w s L) : RdIn (fun b => S b ∧ b < w.heap.size) w s L := by
  obtain ⟨ss, h1, h2, h3⟩ := h
  exact ⟨ss, h1.lt (by decide), h2, fun i t r hi hr => (h3 i t r hi hr).lt (by decide)⟩
theorem DfaIn.lt {S : Nat → Prop} {w : World} {d : Dfv} {m : Mc} (h : DfaIn S w d m) : DfaIn (fun b => S b ∧ b < w.heap.size) w d m :=
  ⟨h.of, h.byte, h.width, h.next.lt, h.label.lt (by decide), h.names.lt (by decide), h.size⟩
end Go.Sh
namespace Go.Proofs.Ythepabefikobpaa
open Go Go.Sh Go.Sp
namespace Mx
theorem num_stab {m : Mc} (ho : Ok m) {l : List Int} (h : C.IsNum (Alk m) (n m) l) : (decide (l.length = n m) && stabB m l) = true := by
  have hl := h.len
  rw [Bool.and_eq_true, decide_eq_true_eq]
  refine ⟨hl, ?_⟩
  rw [stabB, List.all_eq_true]
  intro s hs
  have hs := List.mem_range.1 hs
  have h2 := hd_lt (l := l) (s := s) (by omega)
  have h3 := (h.at (x := hd l s) (y := s) (by omega) hs).1 (hd_get (by omega))
  rw [Bool.and_eq_true, decide_eq_true_eq, List.all_eq_true]
  refine ⟨(alk_lab (h3 0)).symm, fun c hc => ?_⟩
  have hc := List.mem_range.1 hc
  rw [decide_eq_true_eq, h.at (ho.nx s c hs hc).1 (ho.nx _ c (by omega) hc).1]
  exact fun j => alk_symm (Alk_next h3 hc j)
/-- The least machine's blocks: numbered so that states are alike just where they have one number. -/
def IsSm (m q : Mc) : Prop := ∃ L : List Int, C.IsNum (Alk (trim m)) (n (trim m)) L ∧ q = quo (trim m) L
end Mx
namespace C
theorem dfa_Trim {w : World} {d : Dfv} {m : Mc} (h : DfaAt w d m) :
    Calls Try.prog 22 [.agg (Dfv.cs d).toArray].toArray w (Ret (fun x : (Dfv × Int) => .tuple #[(.agg (Dfv.cs x.1).toArray), (vI x.2)]) fun r w' =>
      ((rightB m = false ∧ r = (zeroD, 6)) ∨ (rightB m = true ∧ r.2 = 0 ∧ DfaIn (fun b => w.heap.size ≤ b) w' r.1 (Mx.trim m))) ∧ Grow w w') := by
  apply L.dfa_Trim
  unfold S.dfa_Trim
  refine M.new_of fun b1 w1 hb1 hB1 hg1 hs1 => M.new_of fun b2 w2 hb2 hB2 hg2 hs2 => M.drew_of fun w3 _ hg3 => ?_
  have hG := (hg1.trans hg2).trans hg3
  have hB1 := hB1.g (hg2.trans hg3)
  have hB2 := hB2.g hg3
  have hl1 := hB1.lt
  have hl2 := hB2.lt
  refine M.ldA0 hB1 rfl (M.ldA0 hB1 rfl (M.call_of (dfa_Reach (h.chg hG)) ?_))
  rintro r5 w4 ⟨hr, hg4⟩
  have hG4 := hG.trans hg4
  have hsz4 := hg4.size
  refine ⟨(hB1.g hg4).cells, M.call_of (dfa_Keep (F := fun _ => True) (l := Mx.reach m) (h.chg hG4) fun h1 => ?_) ?_⟩
  · rcases hr with ⟨h0, _⟩ | ⟨_, hr⟩
    · rw [h1] at h0; cases h0
    · exact ⟨Mx.reach_kp (Mx.ok_of h1), hr⟩
  rintro r7 w5 ⟨hr7, hg5⟩
  have hG5 := hG4.trans hg5
  have hszG := hG4.size
  refine M.stA_of (hB2.g (hg4.trans hg5)) (by simp [Dfv_len]) fun w6 hB6 hc6 hs6 => M.ldA0 hB6 rfl ⟨?_, Chg.fresh hG5 hc6 fun b hb => by have := hg1.size; omega⟩
  rcases hr7 with ⟨h0, rfl⟩ | ⟨h1, h2, h3⟩
  · exact .inl ⟨h0, rfl⟩
  · exact .inr ⟨h1, h2, (h3.chg hc6 fun b hb e => by omega).mono fun b hb => by omega⟩
theorem hopcroft_Small {w : World} {d : Dfv} {m : Mc} (h : DfaAt w d m) :
    Calls Try.prog 6 [.agg (Dfv.cs d).toArray].toArray w (Ret (fun x : (Dfv × Int) => .tuple #[(.agg (Dfv.cs x.1).toArray), (vI x.2)]) fun r w' =>
      ((rightB m = false ∧ r = (zeroD, 6)) ∨ (rightB m = true ∧ r.2 = 0 ∧ ∃ q, Mx.IsSm m q ∧ DfaIn (fun b => w.heap.size ≤ b) w' r.1 q)) ∧ Grow w w') := by
  apply L.hopcroft_Small
  unfold S.hopcroft_Small
  refine M.new_of fun b1 w1 hb1 hB1 hg1 hs1 => M.new_of fun b2 w2 hb2 hB2 hg2 hs2 => ?_
  have hG := hg1.trans hg2
  have hB1 := hB1.g hg2
  have hl1 := hB1.lt
  have hl2 := hB2.lt
  have hszG := hG.size
  refine M.ldA0 hB1 rfl (M.call_of (dfa_Trim (h.chg hG)) ?_)
  rintro r4 w3 ⟨hr4, hg3⟩
  have hsz3 := hg3.size
  refine M.new_of fun b5 w4 hb5 hB5 hg4 hs4 => M.stA_of hB5 (by simp [Dfv_len]) fun w5 hB5 hc5 hs5 => ?_
  have hg25 : Grow w2 w5 := Chg.fresh (hg3.trans hg4) hc5 fun b hb => by omega
  have hG5 := hG.trans hg25
  have hB2 := hB2.g hg25
  have hl5 := hB5.lt
  rcases hr4 with ⟨h0, rfl⟩ | ⟨h1, h2, h3⟩
  · refine M.ifn (fun h => by simp at h) (fun _ => M.stA_of hB2 (by simp [Dfv_len]) fun w6 hB6 hc6 hs6 => M.ldA0 (x := zeroD) hB6 rfl ⟨.inl ⟨h0, rfl⟩, Chg.fresh hG5 hc6 fun b hb => by have := hg1.size; omega⟩)
  refine M.ifn (fun _ => ?_) (fun hn => absurd h2 hn)
  have ho := Mx.trim_ok (Mx.ok_of h1)
  have h3 := (h3.lt.g hg4).chg hc5 fun b hb e => by omega
  refine M.drew_of fun w6 _ hg6 => ?_
  have hB5 := hB5.g hg6
  have h3 := h3.g hg6
  refine M.ldA0 hB5 rfl (M.ldA0 hB5 rfl (M.call_of (hopcroft_Blocks h3.at) ?_))
  rintro r9 w7 ⟨hr9, hg7⟩
  rcases hr9 with ⟨h0, _⟩ | ⟨_, Ls, hN, hLs⟩
  · rw [Mx.right_of ho] at h0; cases h0
  refine ⟨(hB5.g hg7).cells, M.call_of (quotient_Of (h3.g hg7).at (hLs.rd (S := fun _ => True) fun _ _ => trivial)) ?_⟩
  rintro r11 w8 ⟨hr11, hg8⟩
  have hg58 := (hg6.trans hg7).trans hg8
  have hG8 := hG5.trans hg58
  have hsz7 := ((hg25.trans hg6).trans hg7).size
  refine M.stA_of (hB2.g hg58) (by simp [Dfv_len]) fun w9 hB9 hc9 hs9 => M.ldA0 hB9 rfl ⟨?_, Chg.fresh hG8 hc9 fun b hb => by have := hg1.size; omega⟩
  rw [Mx.num_stab ho hN, Mx.right_of ho] at hr11
  rcases hr11 with ⟨h0, _⟩ | ⟨_, h0, _⟩ | ⟨_, _, h4, h5⟩
  · cases h0
  · cases h0
  · exact .inr ⟨h1, h4, _, ⟨Ls, hN, rfl⟩, (h5.chg hc9 fun b hb e => by omega).mono fun b hb => by omega⟩
end C
end Go.Proofs.Ythepabefikobpaa
/- Contract: the machine that is known (doubletlaw25.knows). Conditions: as each states. -/
namespace Go.Sh
open Go
theorem Blk.rdF {w : World} {b T n : Nat} {vs : List Value} (h : Blk w b T vs) (hn : vs.length = n) : Rd 1 (fun _ => True) w ⟨some ⟨b, 0, none⟩, n, n⟩ vs :=
  ⟨by simp [hn], Nat.le_refl _, fun _ => ⟨_, rfl, rfl, trivial, fun _ _ hv => h.cell hv⟩⟩
end Go.Sh
namespace Go.Proofs.Ythepabefikobpaa
open Go Go.Sh Go.Sp
namespace Mx
def alkB (m : Mc) : Nat → Nat → Nat → Bool
  | 0, s, t => decide (lab m s = lab m t)
  | j + 1, s, t => decide (lab m s = lab m t) && (List.range (k m)).all fun c => alkB m j (nx m s c) (nx m t c)
theorem alkB_iff {m : Mc} : ∀ j s t, alkB m j s t = true ↔ alk m j s t
  | 0, s, t => by simp [alkB, alk]
  | j + 1, s, t => by
    rw [alkB, alk, Bool.and_eq_true, decide_eq_true_eq, List.all_eq_true]
    refine and_congr Iff.rfl ⟨fun h c hc => (alkB_iff j _ _).1 (h c (List.mem_range.2 hc)), fun h c hc => (alkB_iff j _ _).2 (h c (List.mem_range.1 hc))⟩
/-- Numbers of the blocks, by looking. -/
theorem num_look {m : Mc} (ho : Ok m) (f : Nat → Nat) (h : ((List.range (n m)).all fun x => (List.range (n m)).all fun y => decide (f x = f y) == alkB m (n m) x y) = true) :
    C.IsNum (Alk m) (n m) (numI ((List.range (n m)).map f)) := by
  refine ⟨f, rfl, fun x y hx hy => ?_⟩
  rw [List.all_eq_true] at h
  have h1 := h x (List.mem_range.2 hx)
  rw [List.all_eq_true] at h1
  have h2 := h1 y (List.mem_range.2 hy)
  rw [beq_iff_eq] at h2
  have e : alk m (n m) x y ↔ Alk m x y := ⟨Alk_n ho (Nat.le_refl _) hx hy, fun hh => hh _⟩
  rw [← e, ← alkB_iff, ← h2, decide_eq_true_eq]
def m5 : Mc := ⟨fun _ => 0, 1, [[1], [2], [3], [3], [1]], [0, 0, 0, 1, 0], [⟨#[120]⟩]⟩
theorem m5_right : C.rightB m5 = true := by decide +kernel
theorem m5_ok : Ok m5 := ok_of m5_right
theorem m5_num {l : List Int} (h : C.IsNum (Alk m5) (n m5) l) : l = [0, 1, 2, 3, 0] := by
  have h2 := num_look m5_ok (fun x => if x = 4 then 0 else x) (by decide +kernel)
  rw [h.eq h2 fun _ _ _ _ => Iff.rfl]
  decide +kernel
theorem m5_small {q : Mc} (h : IsSm m5 q) : q.label.length = 4 := by
  obtain ⟨l, hl, rfl⟩ := h
  have h2 := num_look (trim_ok m5_ok) (fun x => x) (by decide +kernel)
  rw [hl.eq h2 fun _ _ _ _ => Iff.rfl]
  decide +kernel
end Mx
namespace C
theorem knows {w : World} : Calls Try.prog 10 [].toArray w (Ret Value.bool fun r w' => r = true ∧ Grow w w') := by
  apply L.law25_knows
  unfold S.law25_knows
  refine M.new_of fun b1 w1 _ hB1 hg1 _ => M.new_of fun b2 w2 _ hB2 hg2 _ => M.new_of fun b3 w3 _ hB3 hg3 _ => M.new_of fun b4 w4 _ hB4 hg4 _ => M.new_of fun b5 w5 _ hB5 hg5 _ => M.new_of fun b6 w6 _ hB6 hg6 _ => M.new_of fun b7 w7 _ hB7 hg7 _ => M.new_of fun b8 w8 _ hB8 hg8 _ => M.new_of fun b9 w9 hb9 hB9 hg9 _ => M.stA_of hB9 (by simp [Dfv_len]) fun w10 hB10 hc10 hs10 => ?_
  have hg810 : Grow w8 w10 := Chg.fresh hg9 hc10 fun b hb => by omega
  have hg68 := hg7.trans hg8
  have hg58 := hg6.trans hg68
  have hg48 := hg5.trans hg58
  have hg38 := hg4.trans hg48
  have hg28 := hg3.trans hg38
  have hg18 := hg2.trans hg28
  have hG10 := (hg1.trans hg18).trans hg810
  have hd : DfaAt w10 ⟨fun _ => 0, 1, ⟨some ⟨b6, 0, none⟩, 5, 5⟩, ⟨some ⟨b7, 0, none⟩, 5, 5⟩, ⟨some ⟨b8, 0, none⟩, 1, 1⟩⟩ Mx.m5 := by
    refine ⟨rfl, fun _ _ => by simp [Mx.m5], rfl, ⟨[⟨some ⟨b1, 0, none⟩, 1, 1⟩, ⟨some ⟨b2, 0, none⟩, 1, 1⟩, ⟨some ⟨b3, 0, none⟩, 1, 1⟩, ⟨some ⟨b4, 0, none⟩, 1, 1⟩, ⟨some ⟨b5, 0, none⟩, 1, 1⟩], ?_, rfl, ?_⟩, ?_, ?_, ?_⟩
    · exact (hB6.g (hg68.trans hg810)).rdF rfl
    · intro i t r hi hr
      match i with
      | 0 => cases hi; cases hr; exact (hB1.g (hg18.trans hg810)).rdF rfl
      | 1 => cases hi; cases hr; exact (hB2.g (hg28.trans hg810)).rdF rfl
      | 2 => cases hi; cases hr; exact (hB3.g (hg38.trans hg810)).rdF rfl
      | 3 => cases hi; cases hr; exact (hB4.g (hg48.trans hg810)).rdF rfl
      | 4 => cases hi; cases hr; exact (hB5.g (hg58.trans hg810)).rdF rfl
      | i + 5 => cases hi
    · exact (hB7.g (hg8.trans hg810)).rdF rfl
    · exact (hB8.g hg810).rdF rfl
    · intro x hx
      simp only [Mx.m5, List.mem_singleton] at hx
      subst hx
      decide
  refine M.ldA0 hB10 rfl (M.call_of (hopcroft_Small hd) ?_)
  rintro r11 w11 ⟨hr11, hg11⟩
  rcases hr11 with ⟨h0, _⟩ | ⟨_, he, q, hq, hD⟩
  · rw [Mx.m5_right] at h0; cases h0
  have hB10 := hB10.g hg11
  have hl10 := hB10.lt
  refine M.new_of fun b12 w12 hb12 hB12 hg12 _ => M.stA_of hB12 (by simp [Dfv_len]) fun w13 hB13 hc13 _ => ?_
  have hg1113 : Grow w11 w13 := Chg.fresh hg12 hc13 fun b hb => by omega
  have hg1013 := hg11.trans hg1113
  refine M.ldA0 (hB10.g hg1113) rfl (M.call_of (hopcroft_Blocks (hd.chg hg1013)) ?_)
  rintro r14 w14 ⟨hr14, hg14⟩
  rcases hr14 with ⟨h0, _⟩ | ⟨_, l, hl, ho⟩
  · rw [Mx.m5_right] at h0; cases h0
  have hl := Mx.m5_num hl
  subst hl
  refine M.new_of fun b15 w15 _ hB15 hg15 _ => M.call_of (r17_Same ((ho.g hg15).rd (S := fun _ => True) fun _ _ => trivial) (m := [0, 1, 2, 3, 0]) (hB15.rdF (n := 5) rfl) (by simp [Big])) ?_
  rintro r16 w16 ⟨rfl, hg16⟩
  have hg1316 := (hg14.trans hg15).trans hg16
  refine M.ifb (fun _ => ?_) (fun h => by simp at h)
  refine M.ldA0 ((hB10.g hg1113).g hg1316) rfl (M.call_of (hopcroft_Splits (hd.chg (hg1013.trans hg1316))) ?_)
  rintro r19 w17 ⟨hr19, hg17⟩
  rcases hr19 with ⟨h0, _⟩ | ⟨_, l, hl, rfl⟩
  · rw [Mx.m5_right] at h0; cases h0
  have hl := Mx.m5_num hl
  subst hl
  have e2 : (((fo ([0, 1, 2, 3, 0] : List Int)).length : Int) - ((fo Mx.m5.label).length : Int)) = 2 := by decide +kernel
  refine M.if_ (fun _ => M.if_ (fun _ => ?_) (fun h => absurd he h)) (fun h => absurd e2 h)
  refine M.ldB 258 (hB13.g (hg1316.trans hg17)) (Dfv_258 _) ⟨?_, (hG10.trans hg1013).trans (hg1316.trans hg17)⟩
  have h1 := Mx.m5_small hq
  have h2 := hD.label.len
  simp only [List.length_map] at h2
  have : r11.1.label.len = 4 := by omega
  simp [this]
end C
end Go.Proofs.Ythepabefikobpaa
/- How a machine is built state by state: a row more, a label more. No condition. -/
namespace Go.Proofs.Ythepabefikobpaa
open Go Go.Sh Go.Sp
/-- A machine that is being built in block b; its lists are new since there were n0 blocks. -/
def Bld (n0 b : Nat) (w : World) (of : Nat → Int) (wd : Int) (nm : Sl) (N : List (List Int)) (La : List Int) : Prop :=
  b < n0 ∧ ∃ (nx lb : Sl) (X : Nat → Prop), Blk w b 27 (Dfv.cs ⟨of, wd, nx, lb, nm⟩) ∧ OwnRows n0 X w nx 24 vI N ∧ Own n0 w lb 3 1 (La.map vI) ∧ (∀ y, X y → n0 ≤ y ∧ y < w.heap.size ∧ ¬ ownb nx y ∧ ¬ ownb lb y) ∧ ∀ y, ownb nx y → ¬ ownb lb y
/-- The same, ahead of the store of its labels. -/
def Bmid (n0 b : Nat) (w : World) (of : Nat → Int) (wd : Int) (nm : Sl) (N : List (List Int)) (La : List Int) (lb s : Sl) : Prop :=
  b < n0 ∧ ∃ (nx : Sl) (X : Nat → Prop), Blk w b 27 (Dfv.cs ⟨of, wd, nx, lb, nm⟩) ∧ OwnRows n0 X w nx 24 vI N ∧ Own n0 w s 3 1 (La.map vI) ∧ (∀ y, X y → n0 ≤ y ∧ y < w.heap.size ∧ ¬ ownb nx y ∧ ¬ ownb s y) ∧ ∀ y, ownb nx y → ¬ ownb s y
section
variable {γ : Type} {k : γ → World → Prop} {w w' : World} {n0 b : Nat} {of : Nat → Int} {wd : Int} {nm : Sl} {N : List (List Int)} {La : List Int}
theorem Bld.new (hb : b < n0) (h : Blk w b 27 (Dfv.cs ⟨of, wd, Sl.nil, Sl.nil, nm⟩)) : Bld n0 b w of wd nm [] [] :=
  ⟨hb, Sl.nil, Sl.nil, fun _ => False, h, OwnRows.nil, Own.nil _ _ _ _, fun _ x => x.elim, fun _ ⟨_, e, _⟩ => by cases e⟩
theorem Bld.g (h : Bld n0 b w of wd nm N La) (hg : Grow w w') : Bld n0 b w' of wd nm N La := by
  obtain ⟨hb, nx, lb, X, h1, h2, h3, h4, h5⟩ := h
  have := hg.size
  exact ⟨hb, nx, lb, X, h1.g hg, h2.chg hg (fun _ _ x => x) fun _ _ x => x, h3.g hg, fun y hy => by have := h4 y hy; exact ⟨this.1, by omega, this.2.2⟩, h5⟩
theorem M.bRow {w1 : World} {tr : Sl} {r : List Int} {f : M γ} (h : Bld n0 b w1 of wd nm N La) (hg : Grow w1 w) (hr : Own w1.heap.size w tr 3 1 (r.map vI)) (hN : N.length ≤ 65536) (hn : n0 ≤ w1.heap.size)
    (hf : ∀ w', Bld n0 b w' of wd nm (N ++ [r]) La → Chg (fun y => y = b ∨ n0 ≤ y) w w' → f w' k) :
    M.ld Sl.val ((⟨b, 0, none⟩ : Addr).add 257) (fun x => M.new 24 [Sl.val tr] fun b2 => M.run Try.prog (Builtin.append_ #[23, 23] 23 #[x.val, Sl.val ⟨some b2, 1, 1⟩]) Sl.val fun s => M.st ((⟨b, 0, none⟩ : Addr).add 257) s.val f) w k := by
  obtain ⟨hb, nx, lb, X, h1, h2, h3, h4, h5⟩ := h
  have hsz := hg.size
  have h1' := h1.g hg
  have h2' := h2.chg hg (fun _ _ x => x) fun _ _ x => x
  have h3' := h3.g hg
  have hl := h2'.len
  refine M.ldB 257 h1' (Dfv_257 _) ?_
  refine M.appRow (s := nx) (X' := fun y => X y ∨ ownb tr y) Try.underlying23 (info := Try.t24) (z := Sl.nil.val) (by kernel_rfl) rfl rfl rfl rfl h2' (hr.rd fun y hy => .inr hy) (fun y hy => .inl hy) ?_ (by omega) (by omega) fun q w2 hq hql hc2 hq2 => ?_
  · rintro y (hy | hy) e
    · exact (h4 y hy).2.2.1 e
    · have := (hr.ge hy).1
      have := (h2.ge e).2
      omega
  have hbn : ∀ {y}, n0 ≤ y → y ≠ b := fun hy e => by omega
  refine M.stB 257 (h1'.chg hc2 fun e => hbn (h2.ge e).1 rfl) (by simp [Dfv_len]) fun w3 hb3 hc3 hs3 => ?_
  rw [Dfv_st257] at hb3
  have hsz2 := hc2.size
  refine hf w3 ⟨hb, q, lb, fun y => X y ∨ ownb tr y, hb3, ?_, ?_, ?_, ?_⟩ ?_
  · exact hq.chg hc3 (fun y hy e => hbn (hq.ge hy).1 e) fun y hy e => hbn (hy.elim (fun hy => (h4 y hy).1) fun hy => by have := (hr.ge hy).1; omega) e
  · exact (h3'.chg hc2 fun y hy e => h5 y e hy).chg hc3 fun y hy e => hbn (h3.ge hy).1 e
  · intro y hy
    have key : n0 ≤ y ∧ y < w.heap.size ∧ ¬ ownb nx y ∧ ¬ ownb lb y := by
      rcases hy with hy | hy
      · have := h4 y hy
        exact ⟨this.1, by omega, this.2.2⟩
      · have h6 := hr.ge hy
        exact ⟨by omega, h6.2, fun e => by have := (h2.ge e).2; omega, fun e => by have := (h3.ge e).2; omega⟩
    refine ⟨key.1, by omega, fun e => ?_, key.2.2.2⟩
    rcases hq2 y e with e | e
    · exact key.2.2.1 e
    · omega
  · intro y hy e
    rcases hq2 y hy with h6 | h6
    · exact h5 y h6 e
    · have := (h3.ge e).2; omega
  · exact (hc2.mono fun y _ hy => Or.inr (h2.ge hy).1).c (hc3.mono fun y _ hy => Or.inl hy)
theorem Bld.cell (h : Bld n0 b w of wd nm N La) : ∃ lb : Sl, La.length = lb.len ∧ w.cell? ((⟨b, 0, none⟩ : Addr).add 258) = some lb.val ∧
    ∀ {x : Int} {f : Sl → M γ} {k : γ → World → Prop}, n0 ≤ w.heap.size → La.length ≤ 65536 → (∀ s w', Bmid n0 b w' of wd nm N (La ++ [x]) lb s → Chg (fun y => n0 ≤ y) w w' → f s w' k) →
      M.new 3 [vI x] (fun b2 => M.run Try.prog (Builtin.append_ #[24, 24] 24 #[lb.val, Sl.val ⟨some b2, 1, 1⟩]) Sl.val f) w k := by
  obtain ⟨hb, nx, lb, X, h1, h2, h3, h4, h5⟩ := h
  have hl : La.length = lb.len := by simpa using h3.len
  refine ⟨lb, hl, h1.cell (Dfv_258 _), fun {x f k} hn hL hf => ?_⟩
  refine M.app (s := lb) Try.underlying24 (T := 3) (info := Try.t3) (z := vI 0) (m := 1) (bytes := 8) (by kernel_rfl) rfl rfl rfl rfl (by decide) h3 rfl (by simp [one1]) hn (by omega) (by omega) fun r w2 ho2 hl2 hc2 hb2 => ?_
  have hsz2 := hc2.size
  refine hf r w2 ⟨hb, nx, X, h1.chg hc2 fun e => by have := (h3.ge e).1; omega, h2.chg hc2 (fun y hy e => h5 y hy e) fun y hy e => (h4 y hy).2.2.2 e, by simpa using ho2, fun y hy => ?_, fun y hy e => ?_⟩ (hc2.mono fun y _ hy => (h3.ge hy).1)
  · have := h4 y hy
    refine ⟨this.1, by omega, this.2.2.1, fun e => ?_⟩
    rcases hb2 y e with e | e
    · exact this.2.2.2 e
    · omega
  · rcases hb2 y e with e | e
    · exact h5 y hy e
    · have := (h2.ge hy).2; omega
theorem Bmid.cell {lb s : Sl} (h : Bmid n0 b w of wd nm N La lb s) : w.cell? ((⟨b, 0, none⟩ : Addr).add 258) = some lb.val := by
  obtain ⟨hb, nx, X, h1, _⟩ := h
  exact h1.cell (Dfv_258 _)
theorem Bmid.st {lb s : Sl} {f : M γ} (h : Bmid n0 b w of wd nm N La lb s) (hf : ∀ w', Bld n0 b w' of wd nm N La → Chg (fun y => y = b) w w' → f w' k) : M.st ((⟨b, 0, none⟩ : Addr).add 258) s.val f w k := by
  obtain ⟨hb, nx, X, h1, h2, h3, h4, h5⟩ := h
  refine M.stB 258 h1 (by simp [Dfv_len]) fun w2 hb2 hc2 hs2 => ?_
  rw [Dfv_st258] at hb2
  have hbn : ∀ {y}, n0 ≤ y → y ≠ b := fun hy e => by omega
  exact hf w2 ⟨hb, nx, s, X, hb2, h2.chg hc2 (fun y hy e => hbn (h2.ge hy).1 e) fun y hy e => hbn (h4 y hy).1 e, h3.chg hc2 fun y hy e => hbn (h3.ge hy).1 e, fun y hy => by have := h4 y hy; exact ⟨this.1, by omega, this.2.2⟩, h5⟩ hc2
/-- The machine is whole. -/
theorem Bld.done {S : Nat → Prop} {m : Mc} (h : Bld n0 b w of wd nm N La) (ho : of = m.of) (hby : ∀ i, i < 256 → 0 ≤ m.of i ∧ m.of i < 256) (hw : wd = m.width) (hN : N = m.next) (hL : La = m.label)
    (hnm : Rd 1 S w nm (m.names.map Value.string)) (hs : ∀ x ∈ m.names, x.size ≤ maxLen) (hS : ∀ y, n0 ≤ y → S y) : ∃ d : Dfv, Blk w b 27 (Dfv.cs d) ∧ DfaIn S w d m := by
  obtain ⟨hb, nx, lb, X, h1, h2, h3, h4, h5⟩ := h
  subst ho hw hN hL
  exact ⟨_, h1, ⟨rfl, hby, rfl, h2.rdIn (fun y hy => hS y (h2.ge hy).1) fun y hy => hS y (h4 y hy).1, h3.rd fun y hy => hS y (h3.ge hy).1, hnm, hs⟩⟩
end
end Go.Proofs.Ythepabefikobpaa
