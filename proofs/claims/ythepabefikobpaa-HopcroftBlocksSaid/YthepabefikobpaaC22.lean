/- Contracts: doubletref20 place, Reach, Keep, Trim. Conditions: as each states. -/
import Derived.Test.YthepabefikobpaaC19
namespace Go.Proofs.Ythepabefikobpaa
open Go Go.Sh Go.Sp
theorem idxOf_nat (X : List Nat) (x : Nat) : (X.map Int.ofNat).idxOf (x : Int) = X.idxOf x := Mx.idxOf_map Int.ofNat x X fun y _ e => by have e : (y : Int) = x := e; omega
theorem mem_nat (X : List Nat) (x : Nat) : (x : Int) ∈ X.map Int.ofNat ↔ x ∈ X := by
  rw [List.mem_map]
  refine ⟨fun ⟨y, hy, e⟩ => ?_, fun h => ⟨x, h, rfl⟩⟩
  have e : (y : Int) = x := e
  have e : y = x := by omega
  exact e ▸ hy
namespace C
theorem r20_place {F : Nat → Prop} {w : World} {s : Sl} {l : List Int} {n : Int} (h : Rd 1 F w s (l.map vI)) (hb : l.length ≤ Big) :
    Calls Try.prog 84 [s.val, vI n].toArray w (Ret vI fun r w' => r = (if n ∈ l then (l.idxOf n : Int) else -1) ∧ w' = w) := by
  apply L.r20_place
  unfold S.r20_place
  have hl : l.length = s.len := by simpa using h.len
  refine M.loop_at (fun q w' => w' = w ∧ ∃ i : Nat, q = i ∧ i ≤ l.length ∧ n ∉ l.take i) (fun q _ => (l.length - q).toNat) ⟨rfl, 0, rfl, by omega, by simp⟩ ?_
  rintro _ _ ⟨rfl, i, rfl, hi, hn⟩
  refine M.if_ (fun hlt => ?_) (fun hge => ?_)
  · have hlt : i < l.length := by omega
    refine M.rd h (by omega) (x := l[i]) (by simp [hlt]) ?_
    refine M.if_ (fun he => ?_) (fun hne => ?_)
    · refine ⟨?_, rfl⟩
      have hmem : n ∈ l := he ▸ List.getElem_mem hlt
      rw [if_pos hmem]
      have e : l = l.take i ++ l[i] :: l.drop (i + 1) := by rw [List.getElem_cons_drop, List.take_append_drop]
      have : l.idxOf n = i := by
        rw [e, List.idxOf_append, if_neg hn, ← he, List.idxOf_cons_self]
        simp; omega
      omega
    · rw [wI_succ (by omega)]
      refine ⟨⟨rfl, i + 1, rfl, by omega, ?_⟩, by omega⟩
      rw [List.take_succ_eq_append_getElem hlt, List.mem_append]
      rintro (hm | hm)
      · exact hn hm
      · exact hne (List.mem_singleton.1 hm).symm
  · have e1 : l.take i = l := List.take_of_length_le (by omega)
    rw [e1] at hn
    exact ⟨by rw [if_neg hn], rfl⟩
theorem place_nat {F : Nat → Prop} {w : World} {s : Sl} {X : List Nat} {x : Nat} (h : Rd 1 F w s ((X.map Int.ofNat).map vI)) (hb : X.length ≤ Big) (hx : x ∈ X) :
    Calls Try.prog 84 [s.val, vI x].toArray w (Ret vI fun r w' => r = (X.idxOf x : Int) ∧ w' = w) := by
  have := r20_place (n := (x : Int)) h (by simpa using hb)
  rw [if_pos ((mem_nat X x).2 hx), idxOf_nat] at this
  exact this
theorem row_at {m : Mc} {x c : Nat} (hc : c < Mx.k m) : (Mx.row m x)[c]? = some (Mx.nx m x c) := by simp [Mx.row, hc]
theorem r20_Reach {w : World} {d : Dfv} {m : Mc} (h : DfaAt w d m) (ho : Mx.Ok m) :
    Calls Try.prog 65 [.agg (Dfv.cs d).toArray].toArray w (Ret Sl.val fun r w' => Own w.heap.size w' r 3 1 (((Mx.reach m).map Int.ofNat).map vI) ∧ Grow w w') := by
  apply L.r20_Reach
  unfold S.r20_Reach
  have hn2 := ho.n2
  have hk2 := ho.k2
  refine M.new_of fun b1 w1 hb1 hB1 hg1 hs1 => M.new_of fun b2 w2 hb2 hB2 hg2 hs2 => ?_
  have hG2 := hg1.trans hg2
  have hB1 := hB1.g hg2
  have hout : Own w1.heap.size w2 ⟨some ⟨b2, 0, none⟩, 1, 1⟩ 3 1 (([0].map Int.ofNat).map vI) := Own.mk (b := b2) rfl (by omega) hB2 (Nat.le_refl _) (by simp [maxLen]) rfl rfl
  obtain ⟨Z, hZ⟩ : ∃ Z : Nat, Mx.n m ≤ Z := ⟨_, Nat.le_refl _⟩
  refine M.loop_at (fun q w' => ∃ i : Nat, q.2 = i ∧ i ≤ (Mx.bf m i).length ∧ Own w1.heap.size w' q.1 3 1 (((Mx.bf m i).map Int.ofNat).map vI) ∧ Grow w1 w' ∧ Blk w' b1 27 (Dfv.cs d)) (fun q _ => (Z - q.2).toNat)
    ⟨0, rfl, by omega, hout, hg2, hB1⟩ ?_
  rintro ⟨out, qi⟩ w3 ⟨i, rfl, hi, hout, hg3, hB1⟩
  dsimp only at hout ⊢
  have hle := Mx.bf_le ho i
  have hol : (Mx.bf m i).length = out.len := by simpa using hout.len
  refine M.if_ (fun hlt => ?_) (fun hge => ?_)
  · have hlt : i < (Mx.bf m i).length := by omega
    obtain ⟨x, hxe⟩ : ∃ x, x = (Mx.bf m i).getD i 0 := ⟨_, rfl⟩
    have hx := Mx.bf_lt ho i _ (Mx.getD_mem hlt)
    rw [← hxe] at hx
    have hext : ∀ j, (Mx.ext ((Mx.row m x).take j) (Mx.bf m i)).Nodup ∧ ∀ y ∈ Mx.ext ((Mx.row m x).take j) (Mx.bf m i), y < Mx.n m := by
      intro j
      refine ⟨Mx.ext_nodup _ _ (Mx.bf_nodup i), fun y hy => ?_⟩
      rw [Mx.ext_mem] at hy
      rcases hy with hy | hy
      · exact Mx.bf_lt ho i y hy
      · have := List.mem_of_mem_take hy
        rw [Mx.row, List.mem_map] at this
        obtain ⟨c, hc, rfl⟩ := this
        exact (ho.nx x c hx (List.mem_range.1 hc)).1
    refine M.loop_at (fun q w' => ∃ j : Nat, q.2 = j ∧ j ≤ Mx.k m ∧ Own w1.heap.size w' q.1 3 1 (((Mx.ext ((Mx.row m x).take j) (Mx.bf m i)).map Int.ofNat).map vI) ∧ Grow w1 w' ∧ Blk w' b1 27 (Dfv.cs d)) (fun q _ => (256 - q.2).toNat)
      ⟨0, rfl, by omega, hout, hg3, hB1⟩ ?_
    rintro ⟨acc, qj⟩ w4 ⟨j, rfl, hj, hacc, hg4, hB1⟩
    dsimp only at hacc ⊢
    refine M.ldB 256 hB1 (Dfv_256 d) ?_
    rw [h.width, ho.width]
    have hacl : acc.len = (Mx.ext ((Mx.row m x).take j) (Mx.bf m i)).length := by have := hacc.len; simp at this; omega
    have haln := nodup_le _ _ (hext j).1 (hext j).2
    have hpre := Mx.ext_pre ((Mx.row m x).take j) (Mx.bf m i)
    have hget : (Mx.ext ((Mx.row m x).take j) (Mx.bf m i))[i]? = some x := by
      obtain ⟨t, ht⟩ := hpre
      rw [← ht, List.getElem?_append_left hlt, hxe]
      exact getD_some hlt
    refine M.if_ (fun hlt2 => ?_) (fun hge2 => ?_)
    · have hlt2 : j < Mx.k m := by omega
      have hz := row_at (m := m) (x := x) hlt2
      have hzn := (ho.nx x j hx hlt2).1
      have htk : Mx.ext ((Mx.row m x).take (j + 1)) (Mx.bf m i) = if Mx.nx m x j ∈ Mx.ext ((Mx.row m x).take j) (Mx.bf m i) then Mx.ext ((Mx.row m x).take j) (Mx.bf m i) else Mx.ext ((Mx.row m x).take j) (Mx.bf m i) ++ [Mx.nx m x j] := by
        rw [List.take_add_one, hz]; exact Mx.ext_snoc _ _ _
      refine M.drew_of fun w5 _ hg5 => ?_
      have hB1 := hB1.g hg5
      have hacc := hacc.g hg5
      have hg5' := hg4.trans hg5
      have hr := hacc.rd (S := fun _ => True) fun _ _ => trivial
      refine M.ldB 257 hB1 (Dfv_257 d) (M.rd hr (by omega) (x := (x : Int)) (by simp [hget]) (M.rdrd h.next (hg1.trans hg5') (by omega) (toNat_some (z := []) (by rw [ho.next]; exact hx)) fun t1 ht1 => ?_))
      rw [ho.rowEq hx] at ht1
      refine M.rd (ht1.g (hg1.trans hg5')) (by omega) (x := ((Mx.nx m x j : Nat) : Int)) (by simp [hlt2]) (M.call_of (r17_Has hr (by simp only [List.length_map, Big]; omega)) ?_)
      rintro r w6 ⟨hr6, hw⟩
      have hw := hw.symm
      subst hw
      have hrc : r = decide (Mx.nx m x j ∈ Mx.ext ((Mx.row m x).take j) (Mx.bf m i)) := by
        rw [hr6, Bool.eq_iff_iff, List.contains_iff_mem, mem_nat, decide_eq_true_eq]
      subst hrc
      rw [wI_succ (by simp only [Big]; omega)]
      refine M.ifn (fun hin => ?_) (fun hin => ?_)
      · refine ⟨⟨j + 1, rfl, by omega, ?_, hg5', hB1⟩, by (try simp only); omega⟩
        rw [htk, if_pos hin]
        exact hacc
      · have hsz1 := hg5'.size
        refine M.app Try.underlying24 (T := 3) (info := Try.t3) (z := vI 0) (m := 1) (bytes := 8) (by kernel_rfl) rfl rfl rfl rfl (by decide) hacc rfl (by simp [one1]) (by omega) (by omega) (by omega) fun r w7 ho7 hl7 hc7 hb7 => ?_
        have hlt1 : b1 < w1.heap.size := by omega
        refine ⟨⟨j + 1, rfl, by omega, ?_, Chg.fresh hg5' hc7 fun b hb => by have := (hacc.ge hb).1; omega, hB1.chg hc7 fun e => by have := (hacc.ge e).1; omega⟩, by (try simp only); omega⟩
        rw [htk, if_neg hin]
        simpa using ho7
    · have hjk : j = Mx.k m := by omega
      have htk : (Mx.row m x).take j = Mx.row m x := List.take_of_length_le (by simp [Mx.row, hjk])
      rw [htk] at hacc
      have hbs : Mx.bf m (i + 1) = Mx.ext (Mx.row m x) (Mx.bf m i) := by rw [Mx.bf, if_pos hlt, ← hxe]
      rw [← hbs] at hacc
      rw [wI_succ (by simp only [Big]; omega)]
      have hi1 : i + 1 ≤ (Mx.bf m (i + 1)).length := by
        have := (Mx.bf_pre1 (m := m) i).length_le
        omega
      exact ⟨⟨i + 1, rfl, hi1, hacc, hg4, hB1⟩, by (try simp only); omega⟩
  · have he : Mx.bf m i = Mx.reach m := Mx.bf_end ho (by omega)
    rw [he] at hout
    exact ⟨hout.base (by omega), hg1.trans hg3⟩
end C
end Go.Proofs.Ythepabefikobpaa
/- Contracts: doubletref20 Keep, Trim. Conditions: as each states. -/
namespace Go.Sh
open Go
section
variable {α γ : Type} {k : γ → World → Prop} {w w0 : World}
/-- An element is read, its place kept. -/
theorem M.rdc {S : Nat → Prop} {s : Sl} {l : List α} {e : α → Value} {f : Addr → α → M γ} {i : Int} (h : Rd 1 S w0 s (l.map e)) (hg : Grow w0 w) (h0 : 0 ≤ i) {x : α} (hx : l[i.toNat]? = some x) (hf : ∀ a, a.block < w0.heap.size → w.cell? a = some (e x) → f a x w k) : M.ix s i 1 (fun a => M.ld e a (f a)) w k := by
  have hl : l.length = s.len := by simpa using h.len
  have hlt : i.toNat < l.length := (List.getElem?_eq_some_iff.1 hx).1
  obtain ⟨a, h1, h2, h3, h4⟩ := h.read (by omega)
  have hc : w0.cell? (a.add i.toNat) = some (e x) := h4 _ _ (by simp [hx])
  have hc' := hg.cell (fun e => e) hc
  refine ⟨_, a, h1, ⟨h0, by omega⟩, rfl, x, ?_, ?_⟩
  · rw [Nat.mul_one]; exact hc'
  · rw [Nat.mul_one]
    exact hf _ (World.block_lt_of_cell? _ _ hc) hc'
theorem M.rdrdc {s : Sl} {l : List (List Int)} {f : Addr → Sl → M γ} {i : Int} (h : RdRd w0 s l) (hg : Grow w0 w) (h0 : 0 ≤ i) {r : List Int} (hr : l[i.toNat]? = some r) (hf : ∀ a t, a.block < w0.heap.size → w.cell? a = some t.val → Rd 1 (fun _ => True) w0 t (r.map vI) → f a t w k) : M.ix s i 1 (fun a => M.ld Sl.val a (f a)) w k := by
  obtain ⟨ss, h1, h2, h3⟩ := h
  have hlt : i.toNat < l.length := (List.getElem?_eq_some_iff.1 hr).1
  have hlt' : i.toNat < ss.length := by omega
  exact M.rdc h1 hg h0 (List.getElem?_eq_getElem hlt') fun a ha hc => hf a _ ha hc (h3 _ _ _ (List.getElem?_eq_getElem hlt') hr)
end
end Go.Sh
namespace Go.Proofs.Ythepabefikobpaa
open Go Go.Sh Go.Sp
namespace C
set_option maxRecDepth 20000 in
theorem r20_Keep {F V : Nat → Prop} {w : World} {d : Dfv} {m : Mc} {s : Sl} {l : List Nat} (h : DfaIn V w d m) (ho : Mx.Ok m) (hk : Mx.Kp m l) (hs : Rd 1 F w s ((l.map Int.ofNat).map vI)) :
    Calls Try.prog 64 [.agg (Dfv.cs d).toArray, s.val].toArray w (Ret (fun x : (Dfv × Int) => .tuple #[(.agg (Dfv.cs x.1).toArray), (vI x.2)]) fun r w' =>
      r.2 = 0 ∧ DfaIn (fun b => V b ∨ w.heap.size ≤ b) w' r.1 (Mx.keepM m l) ∧ Grow w w') := by
  apply L.r20_Keep
  unfold S.r20_Keep
  have hd := h.at
  have hll : m.label.length = d.label.len := by simpa using hd.label.len
  have hn : Mx.n m = m.label.length := rfl
  have hle := hk.le
  have hpos := hk.pos
  have hn2 := ho.n2
  have hk2 := ho.k2
  have hnx := ho.next
  have hsl : l.length = s.len := by simpa using hs.len
  refine M.new_of fun b1 w1 hb1 hB1 hg1 hs1 => M.new_of fun b2 w2 hb2 hB2 hg2 hs2 => ?_
  have hG2 := hg1.trans hg2
  have hB1 := hB1.g hg2
  refine M.join_in (M.if_ (fun h0 => by omega) (fun _ => M.rd (hs.g hG2) (by omega) (x := 0) (by simp [hk.zero]) (M.ifn (fun _ => ?_) (fun h0 => absurd rfl h0))))
  refine M.ldA_at (x := d.of) 0 hB1 (Ar_part d) (M.ldB 256 hB1 (Dfv_256 d) (M.ldB 259 hB1 (Dfv_259 d) (M.new_of fun b12 w3 hb12 hB12 hg3 hs3 => M.stA_of hB12 (by simp [Dfv_len]) fun w4 hB12 hc4 hs4 => ?_)))
  have hg24 : Grow w2 w4 := Chg.fresh hg3 hc4 fun b hb => by omega
  have hG4 := hG2.trans hg24
  have hB1 := hB1.g hg24
  have hB2 := hB2.g hg24
  have hl12 := hB12.lt
  obtain ⟨Z, hZ⟩ : ∃ Z : Nat, l.length ≤ Z := ⟨_, Nat.le_refl _⟩
  refine M.loop_at (fun q w' => Grow w4 w' ∧ ∃ i : Nat, q = i ∧ i ≤ l.length) (fun q _ => (Z - q).toNat) ⟨Chg.refl _ _, 0, rfl, by omega⟩ ?_
  rintro _ w5 ⟨hg5, i, rfl, hi⟩
  refine M.if_ (fun hlt => ?_) (fun hge => ?_)
  · have hlt : i < l.length := by omega
    obtain ⟨x, hx⟩ : ∃ x, l[i]? = some x := ⟨_, List.getElem?_eq_getElem hlt⟩
    have hmem := List.mem_of_getElem? hx
    have hxn := hk.lt x hmem
    have hix : l.idxOf x = i := (idxOf_iff hk.nd hlt).1 (List.getElem?_eq_some_iff.1 hx).2
    refine M.join_in (M.drew_of fun w6 _ hg6 => ?_)
    have hG6 := (hG4.trans hg5).trans hg6
    have hxi : (l.map Int.ofNat)[(i : Int).toNat]? = some (x : Int) := by simp [hx]
    refine M.rdc hs hG6 (by omega) hxi fun a16 _ hc16 => M.if_ (fun h0 => by omega) (fun _ => M.rdc hs hG6 (by omega) hxi fun a19 _ hc19 => ?_)
    have hB1 := (hB1.g hg5).g hg6
    refine M.ldB 258 hB1 (Dfv_258 d) (M.if_ (fun h0 => by omega) (fun _ => M.rdc hs hG6 (by omega) hxi fun a23 _ hc23 => M.call_of (place_nat (hs.g hG6) (by simp only [Big]; omega) hmem) ?_))
    rintro r w7 ⟨hr, hw⟩
    have hw := hw.symm
    subst hw
    refine ⟨hB1.cell (Dfv_258 d), hc19, hc16, ?_⟩
    refine M.ifn (fun _ => ?_) (fun h0 => absurd (by omega) h0)
    rw [wI_succ (by simp only [Big]; omega)]
    exact ⟨⟨hg5.trans hg6, i + 1, rfl, by omega⟩, by omega⟩
  have hG5 := hG4.trans hg5
  have hB1 := hB1.g hg5
  have hB2 := hB2.g hg5
  have hsz5 := hg5.size
  have hBld : Bld w5.heap.size b12 w5 d.of d.width d.names [] [] := Bld.new (by omega) (hB12.g hg5)
  have hl2 := hB2.lt
  have hsz2 := hG2.size
  have hb2n : b2 < w2.heap.size := by omega
  have hb1n : b1 < w1.heap.size := by omega
  refine M.loop_at (fun q w' => Chg (fun y => y = b12) w5 w' ∧ ∃ i : Nat, q = i ∧ i ≤ l.length ∧ Bld w5.heap.size b12 w' d.of d.width d.names ((Mx.keepM m l).next.take i) ((Mx.keepM m l).label.take i)) (fun q _ => (Z - q).toNat)
    ⟨Chg.refl _ _, 0, rfl, by omega, hBld⟩ ?_
  rintro _ w6 ⟨hc6, i, rfl, hi, hbld⟩
  have hG6 : Grow w w6 := Chg.fresh hG5 hc6 fun b hb => by omega
  have hB1 := hB1.chg hc6 fun e => by omega
  have hsz6 := hc6.size
  refine M.if_ (fun hlt => ?_) (fun hge => ?_)
  · have hlt : i < l.length := by omega
    obtain ⟨x, hx⟩ : ∃ x, l[i]? = some x := ⟨_, List.getElem?_eq_getElem hlt⟩
    have hmem := List.mem_of_getElem? hx
    have hxn := hk.lt x hmem
    have hxi : (l.map Int.ofNat)[(i : Int).toNat]? = some (x : Int) := by simp [hx]
    have hnxt : (Mx.keepM m l).next[i]? = some ((List.range (Mx.k m)).map fun c => ((l.idxOf (Mx.nx m x c) : Nat) : Int)) := by simp [Mx.keepM, hx]
    have hlab : (Mx.keepM m l).label[i]? = some (Mx.lab m x) := by simp [Mx.keepM, hx]
    have hrow0 : (Mx.keepM m l).next.take (i + 1) = (Mx.keepM m l).next.take i ++ [(List.range (Mx.k m)).map fun c => ((l.idxOf (Mx.nx m x c) : Nat) : Int)] := by rw [List.take_add_one, hnxt]; rfl
    have hlab0 : (Mx.keepM m l).label.take (i + 1) = (Mx.keepM m l).label.take i ++ [Mx.lab m x] := by rw [List.take_add_one, hlab]; rfl
    obtain ⟨row, hrow⟩ : ∃ row : List Int, row = (List.range (Mx.k m)).map fun c => ((l.idxOf (Mx.nx m x c) : Nat) : Int) := ⟨_, rfl⟩
    rw [← hrow] at hrow0
    have hrl : row.length = Mx.k m := by rw [hrow]; simp
    refine M.new_of fun b34 w7 hb34 hB34 hg7 hs7 => ?_
    have hacc : Own w6.heap.size w7 ⟨some ⟨b34, 0, none⟩, 0, 0⟩ 3 1 ((row.take 0).map vI) := Own.mk (b := b34) (cs := []) rfl (by omega) hB34 (Nat.le_refl _) (by simp [maxLen]) (by simp) (by simp)
    refine M.loop_at (fun q w' => Grow w6 w' ∧ ∃ c : Nat, q.2 = c ∧ c ≤ Mx.k m ∧ Own w6.heap.size w' q.1 3 1 ((row.take c).map vI)) (fun q _ => (256 - q.2).toNat) ⟨hg7, 0, rfl, by omega, hacc⟩ ?_
    rintro ⟨acc, qc⟩ w8 ⟨hg8, c, rfl, hc, hacc⟩
    dsimp only at hacc ⊢
    have hB1 := hB1.g hg8
    refine M.ldB 256 hB1 (Dfv_256 d) ?_
    rw [h.width, ho.width]
    refine M.if_ (fun hlt2 => ?_) (fun hge2 => ?_)
    · have hlt2 : c < Mx.k m := by omega
      refine M.drew_of fun w9 _ hg9 => ?_
      have hB1 := hB1.g hg9
      have hg69 := hg8.trans hg9
      have hG9 := hG6.trans hg69
      refine M.ldB 257 hB1 (Dfv_257 d) (M.rdc hs hG9 (by omega) hxi fun a39 _ hc39 => M.rdrdc hd.next hG9 (by omega) (toNat_some (z := []) (by omega)) fun a41 t1 _ hc41 ht1 => ?_)
      rw [ho.rowEq hxn] at ht1
      refine M.rdc ht1 hG9 (by omega) (x := ((Mx.nx m x c : Nat) : Int)) (by simp [hlt2]) fun a43 _ _ => M.call_of (place_nat (hs.g hG9) (by simp only [Big]; omega) (hk.cl x c hmem hlt2)) ?_
      rintro r w10 ⟨hr, hw⟩
      have hw := hw.symm
      subst hw
      subst hr
      refine ⟨hc41, hc39, hB1.cell (Dfv_257 d), M.if_ (fun h0 => by omega) (fun _ => ?_)⟩
      have hacc := hacc.g hg9
      have hacl : acc.len = c := by have := hacc.len; simp at this; omega
      have hsz9 := hg69.size
      refine M.app Try.underlying24 (T := 3) (info := Try.t3) (z := vI 0) (m := 1) (bytes := 8) (by kernel_rfl) rfl rfl rfl rfl (by decide) hacc rfl (by simp [one1]) (by omega) (by omega) (by omega) fun r w11 ho11 hl11 hc11 hb11 => ?_
      rw [wI_succ (by simp only [Big]; omega)]
      refine ⟨⟨Chg.fresh hg69 hc11 fun b hb => (hacc.ge hb).1, c + 1, rfl, by omega, ?_⟩, by (try simp only); omega⟩
      have : row[c]? = some ((l.idxOf (Mx.nx m x c) : Nat) : Int) := by rw [hrow]; simp [hlt2]
      rw [List.take_add_one, this]
      simpa using ho11
    · have hck : c = Mx.k m := by omega
      rw [List.take_of_length_le (by omega)] at hacc
      refine M.bRow hbld hg8 hacc (by rw [List.length_take]; omega) (by omega) fun w9 hbld hc9 => M.drew_of fun w10 _ hg10 => ?_
      rw [← hrow0] at hbld
      have hbld := hbld.g hg10
      have hsz8 := hg8.size
      have hsz9 := hc9.size
      have hsz10 := hg10.size
      have hc610 : Chg (fun y => y = b12 ∨ w5.heap.size ≤ y) w6 w10 := (hg8.any.c hc9).g hg10
      have hc510 : Chg (fun y => y = b12) w5 w10 := hc6.trans hc610 fun y hy e => e.elim id fun e => by omega
      have hG10 : Grow w w10 := Chg.fresh hG5 hc510 fun b hb => by omega
      have hB1 := (hB1.chg hc9 fun e => by omega).g hg10
      obtain ⟨lb, hlbl, hlbc, happ⟩ := hbld.cell
      refine ⟨lb, hlbc, M.ldB 258 hB1 (Dfv_258 d) (M.rdc hs hG10 (by omega) hxi fun a58 ha58 hc58 => M.rdc hd.label hG10 (by omega) (x := Mx.lab m x) (toNat_some (z := 0) hxn) fun a60 _ _ => ?_)⟩
      have hal := Grow.alloc w10 (.cells [vI (Mx.lab m x)].toArray 3)
      refine ⟨hal.cell (fun e => e) hc58, (hB1.g hal).cell (Dfv_258 d), hal.cell (fun e => e) hlbc, happ (by omega) (by rw [List.length_take]; omega) fun s11 w11 hmid hc11 => ?_⟩
      rw [← hlab0] at hmid
      have hbw : a58.block < w5.heap.size := by have := hG5.size; omega
      refine ⟨hc11.cell (by omega) hc58, (hB1.chg hc11 (by omega)).cell (Dfv_258 d), hmid.st fun w12 hbld hc12 => ?_⟩
      rw [wI_succ (by simp only [Big]; omega)]
      rw [h.width, ho.width] at hbld
      exact ⟨⟨hc510.trans ((hc11.mono fun y _ hy => Or.inr hy).c (hc12.mono fun y _ hy => Or.inl hy) : Chg (fun y => y = b12 ∨ w5.heap.size ≤ y) w10 w12) fun y hy e => e.elim id fun e => by omega, i + 1, rfl, hlt, hbld⟩, by omega⟩
  · have hil : i = l.length := by omega
    have hl3 : (Mx.keepM m l).next.length = l.length := by simp [Mx.keepM]
    have hl4 : (Mx.keepM m l).label.length = l.length := by simp [Mx.keepM]
    rw [List.take_of_length_le (by omega), List.take_of_length_le (by omega)] at hbld
    have h2 := (h.lt).g hG6
    obtain ⟨d', hB, hD⟩ := hbld.done (m := Mx.keepM m l) (S := fun y => (V y ∧ y < w.heap.size) ∨ w5.heap.size ≤ y) h.of h.byte h.width rfl rfl (h2.names.mono fun y hy => .inl hy) h.size fun y hy => .inr hy
    have hB2 := hB2.chg hc6 fun e => by omega
    refine M.ldA0 hB rfl (M.stA_of hB2 (by simp [Dfv_len]) fun w7 hb7 hc7 hs7 => M.ldA0 hb7 rfl ⟨rfl, (hD.chg hc7 fun y hy e => ?_).mono fun y hy => ?_, Chg.fresh hG6 hc7 fun b hb => by omega⟩)
    · rcases hy with hy | hy <;> omega
    · rcases hy with hy | hy
      · exact .inl hy.1
      · right; have := hG5.size; omega
theorem r20_Trim {F V : Nat → Prop} {w : World} {d : Dfv} {m : Mc} (h : DfaIn V w d m) (ho : Mx.Ok m) :
    Calls Try.prog 34 [.agg (Dfv.cs d).toArray].toArray w (Ret (fun x : Dfv => .agg (Dfv.cs x).toArray) fun r w' => DfaIn (fun b => V b ∨ w.heap.size ≤ b) w' r (Mx.trim m) ∧ Grow w w') := by
  apply L.r20_Trim
  unfold S.r20_Trim
  have hd := h.at
  refine M.new_of fun b1 w1 hb1 hB1 hg1 hs1 => M.new_of fun b2 w2 hb2 hB2 hg2 hs2 => M.drew_of fun w3 _ hg3 => ?_
  have hG := (hg1.trans hg2).trans hg3
  have hB1 := hB1.g (hg2.trans hg3)
  have hB2 := hB2.g hg3
  have hl2 := hB2.lt
  have hszG := hG.size
  have hsz3 := hg3.size
  have hbn : b2 < w2.heap.size := by omega
  -- the end
  have fin : ∀ (b8 : Nat) (r7 : Dfv) (w5 : World), Grow w3 w5 → w3.heap.size ≤ b8 → Blk w5 b8 27 (Dfv.cs r7) → DfaIn (fun b => (V b ∧ b < w.heap.size) ∨ w3.heap.size ≤ b) w5 r7 (Mx.trim m) →
      M.ldA Dfv.cs ⟨b8, 0, none⟩ (fun v9 => M.stA ⟨b2, 0, none⟩ (Dfv.cs v9) <| M.ldA Dfv.cs ⟨b2, 0, none⟩ fun v10 => M.ret v10) w5 (fun r w' => DfaIn (fun b => V b ∨ w.heap.size ≤ b) w' r (Mx.trim m) ∧ Grow w w') := by
    intro b8 r7 w5 hg5 hb8 hB8 hD
    refine M.ldA0 hB8 rfl (M.stA_of (hB2.g hg5) (by simp [Dfv_len]) fun w6 hB6 hc6 hs6 => M.ldA0 hB6 rfl ⟨(hD.chg hc6 fun y hy e => ?_).mono fun y hy => ?_, Chg.fresh (hG.trans hg5) hc6 fun b hb => by have := hg1.size; omega⟩)
    · rcases hy with hy | hy <;> omega
    · rcases hy with hy | hy
      · exact .inl hy.1
      · right; omega
  have kp := Mx.reach_kp ho
  have keep : ∀ (w4 : World) (r5 : Sl), Grow w3 w4 → Own w3.heap.size w4 r5 3 1 (((Mx.reach m).map Int.ofNat).map vI) →
      Calls Try.prog 64 [.agg (Dfv.cs d).toArray, r5.val].toArray w4 (Ret (fun x : (Dfv × Int) => .tuple #[(.agg (Dfv.cs x.1).toArray), (vI x.2)]) fun r w' => r.2 = 0 ∧ DfaIn (fun b => ((V b ∧ b < w.heap.size) ∨ w4.heap.size ≤ b) ∧ b < w'.heap.size) w' r.1 (Mx.trim m) ∧ Grow w4 w') := by
    intro w4 r5 hg4 hr5
    refine (r20_Keep (F := fun _ => True) ((h.lt.g hG).g hg4) ho kp (hr5.rd fun _ _ => trivial)).mono ?_
    rintro _ w5 ⟨r, rfl, h1, h2, h3⟩
    exact ⟨r, rfl, h1, h2.lt, h3⟩
  refine M.ldA0 hB1 rfl (M.ldA0 hB1 rfl ⟨?_, ?_⟩)
  · refine M.call_of (r20_Reach (hd.chg hG) ho) ?_
    rintro r5 w4 ⟨hr5, hg4⟩
    refine ⟨(hB1.g hg4).cells, ?_, ?_⟩
    · refine M.call_of (keep w4 r5 hg4 hr5) ?_
      rintro r7 w5 ⟨h1, h2, h3⟩
      have hg5 := hg4.trans h3
      refine M.new_of fun b8 w6 hb8 hB8 hg6 hs6 => M.stA_of hB8 (by simp [Dfv_len]) fun w7 hB8 hc7 hs7 => fin b8 r7.1 w7 ?_ ?_ hB8 ?_
      · exact Chg.fresh (hg5.trans hg6) hc7 fun b hb => by have := hg5.size; omega
      · have := hg5.size; omega
      · exact ((h2.g hg6).chg hc7 fun y hy e => by omega).mono fun y hy => hy.1.imp id fun e => by have := hg4.size; omega
    · refine M.new_of fun b8 w5 hb8 hB8 hg5 hs5 => ⟨((hB1.g hg4).g hg5).cells, M.call_of (keep w5 r5 (hg4.trans hg5) (hr5.g hg5)) ?_⟩
      rintro r7 w6 ⟨h1, h2, h3⟩
      have hg6 := (hg4.trans hg5).trans h3
      refine M.stA_of (hB8.g h3) (by simp [Dfv_len]) fun w7 hB8 hc7 hs7 => fin b8 r7.1 w7 ?_ ?_ hB8 ?_
      · exact Chg.fresh hg6 hc7 fun b hb => by have := hg4.size; omega
      · have := hg4.size; omega
      · have := hg4.size
        have := hg5.size
        exact (h2.chg hc7 fun y hy e => by rcases hy.1 with h | h <;> omega).mono fun y hy => hy.1.imp id fun e => by omega
  · refine M.new_of fun b8 w4 hb8 hB8 hg4 hs4 => ⟨(hB1.g hg4).cells, (hB1.g hg4).cells, M.call_of (r20_Reach ((hd.chg hG).chg hg4) ho) ?_⟩
    rintro r5 w5 ⟨hr5, hg5⟩
    have hg45 := hg4.trans hg5
    refine ⟨(hB1.g hg45).cells, M.call_of (keep w5 r5 hg45 (hr5.base (by omega))) ?_⟩
    rintro r7 w6 ⟨h1, h2, h3⟩
    have hg6 := hg45.trans h3
    refine M.stA_of ((hB8.g hg5).g h3) (by simp [Dfv_len]) fun w7 hB8 hc7 hs7 => fin b8 r7.1 w7 ?_ ?_ hB8 ?_
    · exact Chg.fresh hg6 hc7 fun b hb => by omega
    · omega
    · have := hg5.size
      exact (h2.chg hc7 fun y hy e => by rcases hy.1 with h | h <;> omega).mono fun y hy => hy.1.imp id fun e => by omega
end C
end Go.Proofs.Ythepabefikobpaa
