/- The statement HopcroftSmall is proved: whatever the machine, the word and the list of states, the law answers true and all three read as before. No condition. -/
import Derived.Test.YthepabefikobpaaC28
import Derived.Test.YthepabefikobpaaOpen1
import Derived.Test.YthepabefikobpaaLiftF5
namespace Go.Proofs.Ythepabefikobpaa
open Go Go.Sh Go.Sp
namespace Mx
theorem IsSm.nameOf {m q : Mc} (ho : Ok m) (h : IsSm m q) (w : List Nat) (hw : ∀ b ∈ w, b < 256) : Mx.nameOf q w = Mx.nameOf m w := by
  have e : tell q w = tell m w := h.tells ho (fun b hb => (ho.of_lt hb).1) w hw
  rw [Mx.nameOf, Mx.nameOf, e, h.parts.2.2]
theorem IsSm.size {m q : Mc} (ho : Ok m) (h : IsSm m q) : q.next.length ≤ 65536 ∧ q.label.length ≤ 65536 ∧ q.names.length ≤ 65536 ∧ ∀ r ∈ q.next, r.length ≤ 65536 := by
  have hoq := h.ok ho
  have h1 := hoq.next
  have h2 := hoq.n2
  have h3 := hoq.k2
  have h4 : n q = q.label.length := rfl
  refine ⟨by omega, by omega, ?_, fun r hr => ?_⟩
  · have := hoq.names
    rw [C.namesB, Bool.and_eq_true, decide_eq_true_eq] at this
    omega
  · obtain ⟨s, hs, rfl⟩ := List.getElem_of_mem hr
    have := hoq.row s (by omega)
    rw [List.getD_eq_getElem?_getD, List.getElem?_eq_getElem hs, Option.getD_some] at this
    omega
theorem tmod_nat (a b : Nat) : Int.tmod (a : Int) (b : Int) = ((a % b : Nat) : Int) := by
  rw [Int.tmod_eq_emod_of_nonneg (by omega)]; simp
end Mx
namespace C
set_option maxRecDepth 20000 in
theorem hopcroftSmall {F F' : Nat → Prop} {w : World} {d : Dfv} {m : Mc} {s1 s2 : Sl} {l1 l2 : List Nat} (h : DfaAt w d m) (h1 : Rd 1 F w s1 ((l1.map Int.ofNat).map vU8)) (hl1 : ∀ b ∈ l1, b < 256) (hbl : l1.length ≤ maxLen)
    (h2 : Rd 1 F' w s2 ((l2.map Int.ofNat).map vU8)) (hl2 : ∀ b ∈ l2, b < 256) :
    Calls Try.prog 5 [.agg (Dfv.cs d).toArray, s1.val, s2.val].toArray w (Ret Value.bool fun r w' => r = true ∧ Grow w w') := by
  apply L.law25_HopcroftSmall
  unfold S.law25_HopcroftSmall
  have hll : m.label.length = d.label.len := by simpa using h.label.len
  have hn : Mx.n m = m.label.length := rfl
  have hsl2 : l2.length = s2.len := by simpa using h2.len
  refine M.new_of fun b1 w1 hb1 hB1 hg1 hs1 => ?_
  have fin : ∀ {w' : World}, Grow w w' → M.call Try.prog 10 [] Value.bool (fun r7 => M.ret r7) w' (fun r w' => r = true ∧ Grow w w') := fun hg => M.call_of knows fun r w2 ⟨hr, hg2⟩ => ⟨hr, hg.trans hg2⟩
  refine M.join_at (fun q w' => Grow w1 w' ∧ (q = false → rightB m = true ∧ Mx.n m ≤ 200 ∧ l2.length ≤ 60)) ?_ ?_
  · refine M.ldA0 hB1 rfl (M.call_of (r24_Right (n := 200) (h.chg hg1)) ?_)
    rintro r w2 ⟨rfl, hg2⟩
    refine M.ifb (fun _ => ⟨hg2, fun h0 => by cases h0⟩) (fun hr => ⟨hg2, fun h0 => ?_⟩)
    have hr : (rightB m && decide ((m.label.length : Int) ≤ 200)) = true := by simpa using hr
    rw [Bool.and_eq_true, decide_eq_true_eq] at hr
    rw [decide_eq_false_iff_not] at h0
    exact ⟨hr.1, by omega, by omega⟩
  rintro q w2 ⟨hg2, hq⟩
  have hG2 := hg1.trans hg2
  refine M.ifb (fun _ => fin hG2) (fun hqf => ?_)
  obtain ⟨hR, hn2, hK⟩ := hq hqf
  clear hq
  have ho := Mx.ok_of hR
  have hB1 := hB1.g hg2
  refine M.ldA0 hB1 rfl (M.call_of (hopcroft_Small (h.chg hG2)) ?_)
  rintro r9 w3 ⟨hr9, hg3⟩
  rcases hr9 with ⟨h0, _⟩ | ⟨_, he9, sm, hsm, hD⟩
  · rw [hR] at h0; cases h0
  have hosm := hsm.ok ho
  have hB1 := hB1.g hg3
  have hG3 := hG2.trans hg3
  refine M.new_of fun b10 w4 hb10 hB10 hg4 hs4 => M.stA_of hB10 (by simp [Dfv_len]) fun w5 hB10 hc5 hs5 => ?_
  have hg35 : Grow w3 w5 := Chg.fresh hg4 hc5 fun b hb => by omega
  have hG5 := hG3.trans hg35
  have hB1 := hB1.g hg35
  have hD := ((hD.lt.g hg4).chg hc5 fun y hy e => by omega).at
  refine M.ldA0 hB10 rfl (M.call_of (hopcroft_Small hD) ?_)
  rintro r12 w6 ⟨hr12, hg6⟩
  rcases hr12 with ⟨h0, _⟩ | ⟨_, he12, sm2, hsm2, hD2⟩
  · rw [Mx.right_of hosm] at h0; cases h0
  have e := hsm.again ho hsm2
  subst e
  have hB1 := hB1.g hg6
  have hB10 := hB10.g hg6
  have hD := hD.chg hg6
  have hG6 := hG5.trans hg6
  refine M.new_of fun b13 w7 hb13 hB13 hg7 hs7 => M.stA_of hB13 (by simp [Dfv_len]) fun w8 hB13 hc8 hs8 => ?_
  have hg68 : Grow w6 w8 := Chg.fresh hg7 hc8 fun b hb => by omega
  have hG8 := hG6.trans hg68
  have hB1 := hB1.g hg68
  have hB10 := hB10.g hg68
  have hD := hD.chg hg68
  have hD2 := ((hD2.lt.g hg7).chg hc8 fun y hy e => by omega).at
  obtain ⟨z1, z2, z3, z4⟩ := hsm.size ho
  have hname := fun (x : ByteArray) => (bytes_eq x x)
  refine M.join_at (fun q w' => Grow w8 w' ∧ q = false) ?_ ?_
  · refine M.drew_of fun w9 _ hg9 => M.ifn (fun _ => M.ifn (fun _ => ?_) (fun h0 => absurd he12 h0)) (fun h0 => absurd he9 h0)
    have hG9 := hG8.trans hg9
    refine M.ldA0 (hB10.g hg9) rfl (M.call_of (dfa_Right (hD.chg hg9)) ?_)
    rintro r18 w10 ⟨hr18, hg10⟩
    rw [Mx.right_of hosm] at hr18
    subst hr18
    have hg810 := hg9.trans hg10
    have hG10 := hG8.trans hg810
    refine M.ifb (fun h0 => by cases h0) (fun _ => M.ldA0 (hB10.g hg810) rfl (M.ldA0 (hB1.g hg810) rfl (M.call_of (dfa_Name (hD.chg hg810) hosm (h1.g hG10) hl1 hbl) ?_)))
    rintro r22 w11 ⟨hr22, hg11⟩
    have hg811 := hg810.trans hg11
    have hG11 := hG8.trans hg811
    refine ⟨(hB1.g hg811).cells, M.call_of (dfa_Name (h.chg hG11) ho (h1.g hG11) hl1 hbl) ?_⟩
    rintro r24 w12 ⟨hr24, hg12⟩
    rw [hsm.nameOf ho l1 hl1, ← hr24] at hr22
    subst hr22
    rw [bytes_eq]
    have hg812 := hg811.trans hg12
    refine M.ifn (fun _ => ?_) (fun h0 => absurd rfl h0)
    refine M.ldA0 (hB10.g hg812) rfl (M.ldA0 (hB13.g hg812) rfl (M.call_of (dfa_Same (hD.chg hg812) (hD2.chg hg812) z1 z2 z3 z4) ?_))
    rintro r28 w13 ⟨rfl, hg13⟩
    have hg813 := hg812.trans hg13
    refine M.ifb (fun h0 => by cases h0) (fun _ => M.ldB 258 (hB10.g hg813) (Dfv_258 _) (M.ldA0 (hB1.g hg813) rfl (M.call_of (dfa_Reach (h.chg (hG8.trans hg813))) ?_)))
    rintro r32 w14 ⟨hr32, hg14⟩
    rcases hr32 with ⟨h0, _⟩ | ⟨_, hr32⟩
    · rw [hR] at h0; cases h0
    have hg814 := hg813.trans hg14
    refine ⟨(hB10.g hg814).cell (Dfv_258 _), hg814, ?_⟩
    have e1 := hr32.len
    have e2 := hD.label.len
    have e3 := hsm.le ho
    simp only [List.length_map, Nat.mul_one] at e1 e2
    rw [decide_eq_false_iff_not]
    omega
  rintro q w9 ⟨hg9, rfl⟩
  have hG9 := hG8.trans hg9
  have hB1 := hB1.g hg9
  have hB10 := hB10.g hg9
  have hD := hD.chg hg9
  refine M.ifb (fun h0 => by cases h0) (fun _ => M.ldA0 hB10 rfl (M.call_of (moore_Blocks hD) ?_))
  rintro r36 w10 ⟨hr36, hg10⟩
  rcases hr36 with ⟨h0, _⟩ | ⟨_, lb, hlb, hr36⟩
  · rw [Mx.right_of hosm] at h0; cases h0
  have e := hsm.blocks ho hlb
  subst e
  have hG10 := hG9.trans hg10
  have hB1 := hB1.g hg10
  have hB10 := hB10.g hg10
  have hD := hD.chg hg10
  have h36l : Mx.n sm2 = r36.len := by simpa using hr36.len
  have hosm2 := hosm.n2
  obtain ⟨Z, hZ⟩ : ∃ Z : Nat, Mx.n sm2 ≤ Z ∧ 65536 ≤ Z := ⟨Mx.n sm2 + 65536, by omega, by omega⟩
  refine M.loop_at (fun q w' => w' = w10 ∧ ∃ i : Nat, q = i ∧ i ≤ Mx.n sm2) (fun q _ => (Z - q).toNat) ⟨rfl, 0, rfl, by omega⟩ ?_
  rintro _ w10' ⟨hw, i, rfl, hi⟩
  have hw := hw.symm
  subst hw
  refine M.if_ (fun hlt => ?_) (fun hge => ?_)
  · have hlt : i < Mx.n sm2 := by omega
    refine M.rd hr36 (by omega) (x := (i : Int)) (by simp [hlt]) (M.ifn (fun _ => ?_) (fun h0 => absurd rfl h0))
    rw [wI_succ (by simp only [Big]; omega)]
    exact ⟨⟨rfl, i + 1, rfl, hlt⟩, by omega⟩
  clear hi hge
  obtain ⟨n, hnn⟩ : ∃ n, n = Mx.n m := ⟨_, rfl⟩
  obtain ⟨K, hKK⟩ : ∃ K, K = l2.length := ⟨_, rfl⟩
  have hn1 := ho.n1
  have hk2 := ho.k2
  have hnx := ho.next
  have hlbn : d.label.len = n := by omega
  have hb1n : b1 < w1.heap.size := by omega
  have hsz10 := (hg2.trans (hg3.trans (hg35.trans (hg6.trans (hg68.trans (hg9.trans hg10)))))).size
  have hoX := Mx.dbl_ok ho l2 (by omega)
  refine M.ldB 258 hB1 (Dfv_258 d) (M.ldA_at (x := d.of) 0 hB1 (Ar_part d) (M.ldB 256 hB1 (Dfv_256 d) (M.ldB 259 hB1 (Dfv_259 d) (M.new_of fun b46 w11 hb46 hB46 hg11 hs11 => M.stA_of hB46 (by simp [Dfv_len]) fun w12 hB46 hc12 hs12 => ?_))))
  have hg1012 : Grow w10 w12 := Chg.fresh hg11 hc12 fun b hb => by omega
  have hG12 := hG10.trans hg1012
  have hB1 := hB1.g hg1012
  have hl46 := hB46.lt
  rw [hlbn, ← hsl2, ← hKK, show ((n : Int) + (K : Int)) = ((n + K : Nat) : Int) by omega, wI_id (by omega) (by omega)]
  have hBld : Bld w12.heap.size b46 w12 d.of d.width d.names ((Mx.dblM m l2).next.take 0) ((Mx.dblM m l2).label.take 0) := Bld.new (by omega) hB46
  refine M.loop_at (fun q w' => Chg (fun y => y = b46) w12 w' ∧ ∃ i : Nat, q = i ∧ i ≤ n + K ∧ Bld w12.heap.size b46 w' d.of d.width d.names ((Mx.dblM m l2).next.take i) ((Mx.dblM m l2).label.take i)) (fun q _ => (Z - q).toNat)
    ⟨Chg.refl _ _, 0, rfl, by omega, hBld⟩ ?_
  rintro _ w13 ⟨hc13, i, rfl, hi, hbld⟩
  have hG13 : Grow w w13 := Chg.fresh hG12 hc13 fun b hb => by have := hG10.size; omega
  have hB1 := hB1.chg hc13 fun e => by omega
  have hsz13 := hc13.size
  refine M.if_ (fun hlt => ?_) (fun hge => ?_)
  · have hlt : i < n + K := by omega
    have hx := Mx.orig_lt ho l2 i
    obtain ⟨x, hxe⟩ : ∃ x, x = Mx.orig m l2 i := ⟨_, rfl⟩
    rw [← hxe] at hx
    refine M.join_at (fun v w' => w' = w13 ∧ v = (x : Int)) ?_ ?_
    · refine M.if_ (fun hge2 => ?_) (fun hlt2 => ⟨rfl, by rw [hxe, Mx.orig, if_pos (by omega)]⟩)
      obtain ⟨b, hb⟩ : ∃ b, l2[i - n]? = some b := ⟨_, List.getElem?_eq_getElem (by omega)⟩
      rw [show ((i : Int) - (n : Int)) = ((i - n : Nat) : Int) by omega, wI_id (by omega) (by omega)]
      refine M.rd (h2.g hG13) (by omega) (x := (b : Int)) (by simp [hb]) ⟨by omega, rfl, ?_⟩
      have hb2 := hl2 b (List.mem_of_getElem? hb)
      rw [wI_id (by omega) (by omega), Mx.tmod_nat, hxe, Mx.orig, if_neg (by omega), ← hnn, List.getD_eq_getElem?_getD, hb]
      rfl
    rintro _ w13' ⟨hw, rfl⟩
    have hw := hw.symm
    subst hw
    have hnxt : (Mx.dblM m l2).next[i]? = some ((List.range (Mx.k m)).map fun c => ((Mx.nxd m l2 i c : Nat) : Int)) := by simp [Mx.dblM, show i < Mx.n m + l2.length by omega]
    have hlab : (Mx.dblM m l2).label[i]? = some (Mx.lab m x) := by simp [Mx.dblM, show i < Mx.n m + l2.length by omega, hxe]
    obtain ⟨row, hrow⟩ : ∃ row : List Int, row = (List.range (Mx.k m)).map fun c => ((Mx.nxd m l2 i c : Nat) : Int) := ⟨_, rfl⟩
    have hrow0 : (Mx.dblM m l2).next.take (i + 1) = (Mx.dblM m l2).next.take i ++ [row] := by rw [List.take_add_one, hnxt, hrow]; rfl
    have hlab0 : (Mx.dblM m l2).label.take (i + 1) = (Mx.dblM m l2).label.take i ++ [Mx.lab m x] := by rw [List.take_add_one, hlab]; rfl
    have hrl : row.length = Mx.k m := by rw [hrow]; simp
    refine M.new_of fun b54 w14 hb54 hB54 hg14 hs14 => ?_
    have hacc : Own w13.heap.size w14 ⟨some ⟨b54, 0, none⟩, 0, 0⟩ 3 1 ((row.take 0).map vI) := Own.mk (b := b54) (cs := []) rfl (by omega) hB54 (Nat.le_refl _) (by simp [maxLen]) (by simp) (by simp)
    refine M.loop_at (fun q w' => Grow w13 w' ∧ ∃ c : Nat, q.2 = c ∧ c ≤ Mx.k m ∧ Own w13.heap.size w' q.1 3 1 ((row.take c).map vI)) (fun q _ => (256 - q.2).toNat) ⟨hg14, 0, rfl, by omega, hacc⟩ ?_
    rintro ⟨acc, qc⟩ w15 ⟨hg15, c, rfl, hc, hacc⟩
    dsimp only at hacc ⊢
    have hB1 := hB1.g hg15
    have hG15 := hG13.trans hg15
    have hsz15 := hg15.size
    refine M.ldB 256 hB1 (Dfv_256 d) ?_
    rw [h.width, ho.width]
    refine M.if_ (fun hlt2 => ?_) (fun hge2 => ?_)
    · have hlt2 : c < Mx.k m := by omega
      refine M.ldB 257 hB1 (Dfv_257 d) (M.rdrd h.next hG15 (by omega) (toNat_some (z := []) (by omega)) fun t1 ht1 => ?_)
      rw [ho.rowEq hx] at ht1
      have hnxc := (ho.nx x c hx hlt2).1
      refine M.rd (ht1.g hG15) (by omega) (x := ((Mx.nx m x c : Nat) : Int)) (by simp [hlt2]) ?_
      refine M.join_at (fun v w' => w' = w15 ∧ v = ((Mx.nxd m l2 i c : Nat) : Int)) ?_ ?_
      · rw [Mx.tmod_nat]
        refine M.join_in (M.if_ (fun hK0 => ?_) (fun hK0 => ?_))
        · have hmod := Nat.mod_lt i (show 0 < K by omega)
          refine ⟨by omega, M.if_ (fun hic => ?_) (fun hic => ?_)⟩
          · obtain ⟨b, hb⟩ : ∃ b, l2[i % K]? = some b := ⟨_, List.getElem?_eq_getElem (by omega)⟩
            have hb2 := hl2 b (List.mem_of_getElem? hb)
            refine ⟨by omega, M.rd (h2.g hG15) (by omega) (x := (b : Int)) (by rw [Int.toNat_natCast, List.getElem?_map, hb]; rfl) ⟨by omega, ?_⟩⟩
            rw [wI_id (x := (b : Int)) (by omega) (by omega), Mx.tmod_nat]
            have hbd : l2.getD (i % l2.length) 0 = b := by rw [← hKK, List.getD_eq_getElem?_getD, hb]; rfl
            refine M.if_ (fun hbe => ⟨by omega, rfl, ?_⟩) (fun hbe => ⟨rfl, ?_⟩)
            · rw [show ((n : Int) + ((i % K : Nat) : Int)) = ((n + i % K : Nat) : Int) by omega, wI_id (by omega) (by omega), Mx.nxd, ← hxe, if_pos ⟨by omega, by rw [← hKK]; omega, by rw [hbd, ← hnn]; omega⟩, ← hnn, ← hKK]
            · rw [Mx.nxd, ← hxe, if_neg fun e => hbe (by rw [← hbd, hnn]; have := e.2.2; omega)]
          · exact M.ifb (fun h0 => by cases h0) (fun _ => ⟨rfl, by rw [Mx.nxd, ← hxe, if_neg fun e => hic (by rw [hKK]; have := e.2.1; omega)]⟩)
        · exact M.ifb (fun h0 => by cases h0) (fun _ => ⟨rfl, by rw [Mx.nxd, ← hxe, if_neg fun e => hK0 (by have := e.1; omega)]⟩)
      rintro _ w15' ⟨hw, rfl⟩
      have hw := hw.symm
      subst hw
      have hacl : acc.len = c := by have := hacc.len; simp at this; omega
      refine M.app Try.underlying24 (T := 3) (info := Try.t3) (z := vI 0) (m := 1) (bytes := 8) (by kernel_rfl) rfl rfl rfl rfl (by decide) hacc rfl (by simp [one1]) (by omega) (by omega) (by omega) fun r w16 ho16 hl16 hc16 hb16 => ?_
      rw [wI_succ (by simp only [Big]; omega)]
      refine ⟨⟨Chg.fresh hg15 hc16 fun b hb => (hacc.ge hb).1, c + 1, rfl, by omega, ?_⟩, by (try simp only); omega⟩
      have : row[c]? = some ((Mx.nxd m l2 i c : Nat) : Int) := by rw [hrow]; simp [hlt2]
      rw [List.take_add_one, this]
      simpa using ho16
    · rw [List.take_of_length_le (by omega)] at hacc
      refine M.bRow hbld hg15 hacc (by rw [List.length_take]; omega) (by omega) fun w16 hbld hc16 => M.drew_of fun w17 _ hg17 => ?_
      rw [← hrow0] at hbld
      have hbld := hbld.g hg17
      have hsz16 := hc16.size
      have hsz17 := hg17.size
      have hc1317 : Chg (fun y => y = b46 ∨ w12.heap.size ≤ y) w13 w17 := (hg15.any.c hc16).g hg17
      have hc1217 : Chg (fun y => y = b46) w12 w17 := hc13.trans hc1317 fun y hy e => e.elim id fun e => by omega
      have hG17 : Grow w w17 := Chg.fresh hG12 hc1217 fun b hb => by have := hG10.size; omega
      have hB1 := (hB1.chg hc16 fun e => by omega).g hg17
      obtain ⟨lb, hlbl, hlbc, happ⟩ := hbld.cell
      refine ⟨lb, hlbc, M.ldB 258 hB1 (Dfv_258 d) (M.rd (h.label.g hG17) (by omega) (x := Mx.lab m x) (toNat_some (z := 0) hx) ?_)⟩
      have hal := Grow.alloc w17 (.cells [vI (Mx.lab m x)].toArray 3)
      refine ⟨(hB1.g hal).cell (Dfv_258 d), hal.cell (fun e => e) hlbc, happ (by omega) (by rw [List.length_take]; omega) fun s18 w18 hmid hc18 => ?_⟩
      rw [← hlab0] at hmid
      refine ⟨(hB1.chg hc18 (by omega)).cell (Dfv_258 d), hmid.st fun w19 hbld hc19 => ?_⟩
      rw [wI_succ (by simp only [Big]; omega)]
      rw [h.width, ho.width] at hbld
      exact ⟨⟨hc1217.trans ((hc18.mono fun y _ hy => Or.inr hy).c (hc19.mono fun y _ hy => Or.inl hy) : Chg (fun y => y = b46 ∨ w12.heap.size ≤ y) w17 w19) fun y hy e => e.elim id fun e => by omega, i + 1, rfl, hlt, hbld⟩, by omega⟩
  · have hiN : i = n + K := by omega
    have q1 : (Mx.dblM m l2).next.length = n + K := by simp [Mx.dblM, hnn, hKK]
    have q2 : (Mx.dblM m l2).label.length = n + K := by simp [Mx.dblM, hnn, hKK]
    rw [List.take_of_length_le (by omega), List.take_of_length_le (by omega)] at hbld
    obtain ⟨dd, hB46, hDD⟩ := hbld.done (m := Mx.dblM m l2) (S := fun _ => True) h.of h.byte h.width rfl rfl ((h.names.g hG13).any) h.size fun _ _ => trivial
    have hDD := hDD.at
    have hg1013 : Grow w10 w13 := Chg.fresh hg1012 hc13 fun b hb => by omega
    have hB10 := hB10.g hg1013
    refine M.ldA0 hB46 rfl (M.call_of (hopcroft_Small hDD) ?_)
    rintro r88 w14 ⟨hr88, hg14⟩
    rcases hr88 with ⟨h0, _⟩ | ⟨_, he88, sm3, hsm3, hD3⟩
    · rw [Mx.right_of hoX] at h0; cases h0
    have e := (Mx.dbl_hom ho l2).small hoX ho hsm3 hsm
    subst e
    have hsz14 := hg14.size
    refine M.new_of fun b89 w15 hb89 hB89 hg15 hs15 => M.stA_of hB89 (by simp [Dfv_len]) fun w16 hB89 hc16 hs16 => M.drew_of fun w17 _ hg17 => ?_
    have hg1416 : Grow w14 w16 := Chg.fresh hg15 hc16 fun b hb => by omega
    have hg1317 := (hg14.trans hg1416).trans hg17
    have hG17 := hG13.trans hg1317
    have hB1 := hB1.g hg1317
    have hB10 := hB10.g hg1317
    have hB46 := hB46.g hg1317
    have hB89 := hB89.g hg17
    have hD3 := (((hD3.lt.g hg15).chg hc16 fun y hy e => by omega).g hg17).at
    have hDD := hDD.chg hg1317
    have e1 := hD3.label.len
    have e2 := hD.label.len
    simp only [List.length_map, Nat.mul_one] at e1 e2
    refine M.if_ (fun _ => M.ldB 258 hB89 (Dfv_258 _) (M.ldB 258 hB10 (Dfv_258 _) (M.if_ (fun _ => ?_) (fun h0 => absurd (by omega) h0)))) (fun h0 => absurd he88 h0)
    refine M.ldA0 hB89 rfl (M.ldA0 hB1 rfl (M.call_of (dfa_Name hD3 hosm (h1.g hG17) hl1 hbl) ?_))
    rintro r96 w18 ⟨hr96, hg18⟩
    have hG18 := hG17.trans hg18
    refine ⟨(hB1.g hg18).cells, (hB10.g hg18).cell (Dfv_258 _), (hB89.g hg18).cell (Dfv_258 _), M.call_of (dfa_Name (h.chg hG18) ho (h1.g hG18) hl1 hbl) ?_⟩
    rintro r100 w19 ⟨hr100, hg19⟩
    have hg1719 := hg18.trans hg19
    rw [hsm.nameOf ho l1 hl1, ← hr100] at hr96
    subst hr96
    rw [bytes_eq]
    refine ⟨(hB10.g hg1719).cell (Dfv_258 _), (hB89.g hg1719).cell (Dfv_258 _), M.if_ (fun _ => ?_) (fun h0 => absurd rfl h0)⟩
    refine M.ldA0 (hB46.g hg1719) rfl (M.ldA0 (hB46.g hg1719) rfl (M.call_of (hopcroft_Blocks (hDD.chg hg1719)) ?_))
    rintro r106 w20 ⟨hr106, hg20⟩
    rcases hr106 with ⟨h0, _⟩ | ⟨_, lx, hlx, hr106⟩
    · rw [Mx.right_of hoX] at h0; cases h0
    have hg1720 := hg1719.trans hg20
    refine ⟨(hB46.g hg1720).cells, (hB10.g hg1720).cell (Dfv_258 _), (hB89.g hg1720).cell (Dfv_258 _), M.call_of (quotient_Stable (hDD.chg hg1720) (hr106.rd (S := fun _ => True) fun _ _ => trivial)) ?_⟩
    rintro r110 w21 ⟨hr110, hg21⟩
    have hg1721 := hg1720.trans hg21
    rw [Mx.right_of hoX, Bool.true_and, Mx.num_stab hoX hlx] at hr110
    subst hr110
    refine ⟨(hB10.g hg1721).cell (Dfv_258 _), (hB89.g hg1721).cell (Dfv_258 _), M.ifb (fun _ => M.call_of knows ?_) (fun h0 => by cases h0)⟩
    rintro r114 w22 ⟨rfl, hg22⟩
    have hg1722 := hg1721.trans hg22
    exact ⟨(hB10.g hg1722).cell (Dfv_258 _), (hB89.g hg1722).cell (Dfv_258 _), rfl, hG17.trans hg1722⟩
end C
theorem nat_bytes {l : List Int} (h : ∀ z ∈ l, 0 ≤ z ∧ z < 256) : (l.map Int.toNat).map Int.ofNat = l ∧ ∀ b ∈ l.map Int.toNat, b < 256 := by
  constructor
  · rw [List.map_map]
    conv => rhs; rw [← List.map_id l]
    refine List.map_congr_left fun z hz => ?_
    have := h z hz
    show ((z.toNat : Nat) : Int) = z
    omega
  · intro b hb
    rw [List.mem_map] at hb
    obtain ⟨z, hz, rfl⟩ := hb
    have := h z hz
    omega
open Go.ChangeShapes Go.WideShapes Go.ChangeAt Go.RowKit
theorem Try.own5 : ownKnob Try.prog.godebug = none := by kernel_rfl
theorem Try.laidOut5 : laidOutB Try.prog = true := by kernel_rfl
set_option maxRecDepth 100000 in
theorem hopcroftSmall_lifted (os : Os) (started : os.Started) (H : Type) (enc : TypeId × Value → H) :
    ReturnsInHanded {} Try.checked os 5 .any (Rows.hopcroftSmallSpec.pre6 enc Try.prog Try.f5 Rows.hopcroftSmallRow.domain false) (Rows.hopcroftSmallSpec.post enc Try.prog Try.f5 false true false false) := by
  refine returnsInHanded_of_change (C := Try.checked) Try.own5 started (by kernel_rfl) Try.func5
    (ChangeSpec.witness6 (enc := enc) (C := Try.checked) false ⟨#[], #[.agg (Dfv.cs zeroD).toArray, .slice none 0 0, .slice none 0 0], []⟩ 8 (by kernel_rfl) (by kernel_rfl) (by kernel_rfl) (by kernel_rfl)) ?_
  intro W base args ds gs before hval0 hW hcnd _
  have hval : ∀ (j : Nat) t v, Try.f5.params[j]? = some t → args[j]? = some v → Value.okWide Try.prog W .any base t v := hval0
  have hW' := hW
  obtain ⟨p, q, hA0, hV, rfl, hfz, hnd⟩ := hW
  have hA : DataW.TrodAll enc Try.prog W 0 (fun _ => true) true Try.f5.params.toList args.toList ds p := hA0
  rw [Try.params5] at hA hval
  obtain ⟨v0, vs0, d0, ds0, p0, q0, hargs, rfl, rfl, h0, r0⟩ := trodAll_cons hA
  obtain ⟨v1, vs1, d1, ds1, p1, q1, rfl, rfl, rfl, h1, r1⟩ := trodAll_cons r0
  obtain ⟨v2, vs2, d2, ds2, p2, q2, rfl, rfl, rfl, h2, r2⟩ := trodAll_cons r1
  obtain ⟨rfl, rfl, rfl⟩ := trodAll_nil r2
  obtain rfl : args = #[v0, v1, v2] := by cases args; simp_all
  obtain ⟨rfl, rfl⟩ := trodVars_none hV
  have k0 := h0
  have k1 := h1
  have k2 := h2
  have lt0 : ∀ x ∈ p0, x.block < W.heap.size := by obtain ⟨m, hm⟩ := k0; exact DataW.trod_lt m _ _ _ hm
  have lt1 : ∀ x ∈ p1, x.block < W.heap.size := by obtain ⟨m, hm⟩ := k1; exact DataW.trod_lt m _ _ _ hm
  have lt2 : ∀ x ∈ p2, x.block < W.heap.size := by obtain ⟨m, hm⟩ := k2; exact DataW.trod_lt m _ _ _ hm
  obtain ⟨d, m, rfl, hd⟩ := open_dfa (hval 0 27 v0 rfl rfl) h0
  obtain ⟨a1, b1, c1, rfl⟩ := okWide_slice Try.underlying38 (hval 1 38 v1 rfl rfl)
  obtain ⟨a2, b2, c2, rfl⟩ := okWide_slice Try.underlying38 (hval 2 38 v2 rfl rfl)
  obtain ⟨f1, h1⟩ := h1
  obtain ⟨f2, h2⟩ := h2
  obtain ⟨s1, l1, e1, hr1, hz1, hc1⟩ := open_bytes Try.underlying38 h1
  obtain ⟨s2, l2, e2, hr2, hz2, hc2⟩ := open_bytes Try.underlying38 h2
  have e1 : Value.slice a1 b1 c1 = s1.val := by simpa [Value.cells] using e1
  have e2 : Value.slice a2 b2 c2 = s2.val := by simpa [Value.cells] using e2
  rw [e1] at k1 hW' ⊢
  rw [e2] at k2 hW' ⊢
  obtain ⟨n1, t1⟩ := nat_bytes hz1
  obtain ⟨n2, t2⟩ := nat_bytes hz2
  have hl1 : (l1.map Int.toNat).length ≤ maxLen := by
    have := hr1.len
    have := hr1.cap
    simp only [List.length_map, maxLen] at *
    omega
  rw [← n1] at hr1
  rw [← n2] at hr2
  clear hA0 hval0
  refine (C.hopcroftSmall hd hr1 t1 hl1 hr2 t2).mono fun e W' ⟨r, he, hr, hg⟩ => ?_
  subst hr
  subst he
  have bel := hg.below
  exact ⟨_, rfl, _, _, _, [], _, [], hW', trodAll_mk1 (shut_bool Try.underlying4 _), (trodAll_cons_mk (Below.trod Try.laidOut5 (by kernel_rfl) (of_decide_eq_true (by kernel_rfl)) k0 bel lt0) (trodAll_cons_mk (Below.trod Try.laidOut5 (by kernel_rfl) (of_decide_eq_true (by kernel_rfl)) k1 bel lt1) (trodAll_cons_mk (Below.trod Try.laidOut5 (by kernel_rfl) (of_decide_eq_true (by kernel_rfl)) k2 bel lt2) trodAll_mk0))), rfl, bel.frame _, fun h => by cases h⟩
theorem hopcroftSmall_over : Rows.hopcroftSmallRow.holds Try.pinned (OpenSpec.ofChange Rows.hopcroftSmallSpec) :=
  OpenClaim.holds_of_wide 5 Try.f5 rfl rfl rfl rfl rfl rfl rfl ⟨rfl, rfl, rfl, rfl, rfl⟩ rfl rfl rfl rfl rfl (by kernel_rfl) Try.func5 (by kernel_rfl)
    (of_decide_eq_true (by kernel_rfl)) (by unfold Func.isWrapper; first | (rw [if_pos (by decide +kernel)]; kernel_rfl) | (rw [if_neg (by decide +kernel)]; exact ⟨rfl, rfl⟩))
    (fun os started H enc _ => hopcroftSmall_lifted os started H enc)
theorem hopcroftSmall_holds : Rows.HopcroftSmallSaid := hopcroftSmall_over
#print axioms hopcroftSmall_holds
end Go.Proofs.Ythepabefikobpaa
