/- Machines in memory; which may be (dfa.Right, doubletref20.Right). Conditions: as each states. -/
import Derived.Test.YthepabefikobpaaC4
namespace Go.Sh
open Go
/-- A machine. -/
structure Mc where
  of : Nat → Int
  width : Int
  next : List (List Int)
  label : List Int
  names : List ByteArray
/-- A list of lists, read. -/
def RdRd (w : World) (s : Sl) (L : List (List Int)) : Prop :=
  ∃ ss : List Sl, Rd 1 (fun _ => True) w s (ss.map Sl.val) ∧ ss.length = L.length ∧ ∀ (i : Nat) (t : Sl) (r : List Int), ss[i]? = some t → L[i]? = some r → Rd 1 (fun _ => True) w t (r.map vI)
theorem RdRd.chg {w w' : World} {s : Sl} {L : List (List Int)} (h : RdRd w s L) (hc : Grow w w') : RdRd w' s L := by
  obtain ⟨ss, h1, h2, h3⟩ := h
  exact ⟨ss, h1.chg hc fun _ _ x => x, h2, fun i t r hi hr => (h3 i t r hi hr).chg hc fun _ _ x => x⟩
theorem RdRd.len {w : World} {s : Sl} {L : List (List Int)} (h : RdRd w s L) : L.length = s.len := by
  obtain ⟨ss, h1, h2, h3⟩ := h
  rw [← h2]; simpa using h1.len
structure DfaAt (w : World) (d : Dfv) (m : Mc) : Prop where
  of : d.of = m.of
  byte : ∀ i, i < 256 → 0 ≤ m.of i ∧ m.of i < 256
  width : d.width = m.width
  next : RdRd w d.next m.next
  label : Rd 1 (fun _ => True) w d.label (m.label.map vI)
  names : Rd 1 (fun _ => True) w d.names (m.names.map Value.string)
  size : ∀ x ∈ m.names, x.size ≤ maxLen
theorem DfaAt.chg {w w' : World} {d : Dfv} {m : Mc} (h : DfaAt w d m) (hc : Grow w w') : DfaAt w' d m :=
  ⟨h.of, h.byte, h.width, h.next.chg hc, h.label.chg hc fun _ _ x => x, h.names.chg hc fun _ _ x => x, h.size⟩
section
variable {α γ : Type} {k : γ → World → Prop} {w : World}
/-- A row of a list of lists is read. -/
theorem M.rdrd {w0 : World} {s : Sl} {L : List (List Int)} {f : Sl → M γ} {i : Int} (h : RdRd w0 s L) (hg : Grow w0 w) (h0 : 0 ≤ i) {r : List Int} (hr : L[i.toNat]? = some r) (hf : ∀ t, Rd 1 (fun _ => True) w0 t (r.map vI) → f t w k) : M.ix s i 1 (fun a => M.ld Sl.val a f) w k := by
  obtain ⟨ss, h1, h2, h3⟩ := h
  have hlt : i.toNat < L.length := (List.getElem?_eq_some_iff.1 hr).1
  have hlt' : i.toNat < ss.length := by omega
  exact M.rd (h1.chg hg fun _ _ x => x) h0 (List.getElem?_eq_getElem hlt') (hf _ (h3 _ _ _ (List.getElem?_eq_getElem hlt') hr))
theorem getD_some {β : Type} {l : List β} {i : Nat} {z : β} (h : i < l.length) : l[i]? = some (l.getD i z) := by
  rw [List.getElem?_eq_getElem h, List.getD_eq_getElem?_getD, List.getElem?_eq_getElem h]; rfl
theorem toNat_some {β : Type} {l : List β} {i : Nat} {z : β} (h : i < l.length) : l[(i : Int).toNat]? = some (l.getD i z) := getD_some h
end
/-- May a row be? -/
def rowB (m : Mc) (s : Nat) : Bool :=
  decide (((m.next.getD s []).length : Int) = m.width) && (decide (0 ≤ m.label.getD s 0) && decide (m.label.getD s 0 ≤ m.names.length)) && (m.next.getD s []).all fun t => decide (0 ≤ t) && decide (t < m.label.length)
def rowsB (m : Mc) : Bool := (List.range m.label.length).all (rowB m)
theorem rowsB_false {m : Mc} {s : Nat} (hs : s < m.label.length) (h : rowB m s = false) : rowsB m = false := by
  rw [rowsB, Bool.eq_false_iff]
  intro ht
  rw [List.all_eq_true] at ht
  rw [ht s (List.mem_range.2 hs)] at h; cases h
theorem rowsB_true {m : Mc} (h : ∀ s, s < m.label.length → rowB m s = true) : rowsB m = true := by
  rw [rowsB, List.all_eq_true]
  exact fun s hs => h s (List.mem_range.1 hs)
end Go.Sh
namespace Go.Proofs.Ythepabefikobpaa
open Go Go.Sh Go.Sp
namespace C
def rightB (m : Mc) : Bool :=
  decide (1 ≤ m.label.length) && decide (m.label.length ≤ 65536) && decide (m.next.length = m.label.length) && ofB m.of m.width && namesB m.names && rowsB m
theorem ofB_width {f : Nat → Int} {width : Int} (h : ofB f width = true) : 0 ≤ width ∧ width ≤ 256 := by
  rw [ofB, Bool.and_eq_true, decide_eq_true_eq] at h
  have := cntF_le f
  omega
theorem dfa_rows {w : World} {d : Dfv} {m : Mc} (h : DfaAt w d m) (hn : m.next.length = m.label.length) (hl : m.label.length ≤ 65536) (hw : m.width ≤ 256) :
    Calls Try.prog 26 [.agg (Dfv.cs d).toArray].toArray w (Ret Value.bool fun r w' => r = rowsB m ∧ Grow w w') := by
  apply L.dfa_rows
  unfold S.dfa_rows
  refine M.new_of fun b1 w1 hb1 hblk hg hs => M.ldB 258 hblk (Dfv_258 d) (M.ldB 257 hblk (Dfv_257 d) ?_)
  have hnl := h.next.len
  have hll : m.label.length = d.label.len := by simpa using h.label.len
  have hnn : m.names.length = d.names.len := by simpa using h.names.len
  refine M.loop_at (fun q w' => Grow w w' ∧ ∃ i : Nat, q = i ∧ i ≤ m.label.length ∧ Blk w' b1 27 (Dfv.cs d) ∧ ∀ s, s < i → rowB m s = true) (fun q _ => (m.label.length - q).toNat)
    ⟨hg, 0, rfl, by omega, hblk, fun s hs => by omega⟩ ?_
  rintro _ w2 ⟨hg2, i, rfl, hi, hB, hall⟩
  refine M.if_ (fun hlt => ?_) (fun hge => ⟨?_, hg2⟩)
  · have hlt : i < m.label.length := by omega
    refine M.rdrd h.next hg2 (by omega) (toNat_some (z := []) (by omega)) fun t ht => ?_
    have htl : (m.next.getD i []).length = t.len := by simpa using ht.len
    refine M.join_at (fun q w' => Grow w w' ∧ Blk w' b1 27 (Dfv.cs d) ∧ q = !(decide (((m.next.getD i []).length : Int) = m.width) && (decide (0 ≤ m.label.getD i 0) && decide (m.label.getD i 0 ≤ m.names.length)))) ?_ ?_
    · refine M.drew_of fun w3 _ hg3 => ?_
      have hB3 := hB.chg hg3 fun x => x
      have hg13 := hg2.trans hg3
      have hlr := (h.label.chg hg13 fun _ _ x => x)
      refine M.ldB 256 hB3 (Dfv_256 d) (M.ifn (fun he => ?_) (fun hne => ⟨hg13, hB3, ?_⟩))
      · have he' : decide (((m.next.getD i []).length : Int) = m.width) = true := by rw [decide_eq_true_eq, htl, ← h.width]; exact he
        rw [he', Bool.true_and]
        refine M.ldB 258 hB3 (Dfv_258 d) (M.rd hlr (by omega) (toNat_some (z := 0) hlt) (M.if_ (fun h0 => ⟨hg13, hB3, ?_⟩) (fun h0 => M.ldB 258 hB3 (Dfv_258 d) (M.rd hlr (by omega) (toNat_some (z := 0) hlt) (M.ldB 259 hB3 (Dfv_259 d) ⟨hg13, hB3, ?_⟩)))))
        · rw [decide_eq_false (by omega : ¬ 0 ≤ m.label.getD i 0)]; rfl
        · rw [decide_eq_true (by omega : 0 ≤ m.label.getD i 0), Bool.true_and, ← decide_not]
          congr 1
          rw [hnn]; simp
      · rw [decide_eq_false (by rw [htl, ← h.width]; exact hne)]; rfl
    · rintro q w3 ⟨hg3, hB3, rfl⟩
      have hrow : rowB m i = ((decide (((m.next.getD i []).length : Int) = m.width) && (decide (0 ≤ m.label.getD i 0) && decide (m.label.getD i 0 ≤ m.names.length))) && (m.next.getD i []).all fun t => decide (0 ≤ t) && decide (t < m.label.length)) := rfl
      generalize hq : (decide (((m.next.getD i []).length : Int) = m.width) && (decide (0 ≤ m.label.getD i 0) && decide (m.label.getD i 0 ≤ m.names.length))) = q at *
      refine M.ifb (fun h1 => ⟨?_, hg3⟩) (fun h1 => ?_)
      · symm; apply rowsB_false hlt
        rw [hrow, show q = false by simpa using h1, Bool.false_and]
      · have h1 : q = true := by simpa using h1
        rw [h1, Bool.true_and] at hrow
        rw [h1, Bool.and_eq_true, decide_eq_true_eq] at hq
        refine M.loop_at (fun p w' => Grow w w' ∧ ∃ j : Nat, p = j ∧ j ≤ t.len ∧ Blk w' b1 27 (Dfv.cs d) ∧ ∀ x ∈ (m.next.getD i []).take j, 0 ≤ x ∧ x < m.label.length) (fun p _ => (t.len - p).toNat)
          ⟨hg3, 0, rfl, by omega, hB3, by simp⟩ ?_
        rintro _ w4 ⟨hg4, j, rfl, hj, hB4, hx⟩
        refine M.if_ (fun hlt2 => ?_) (fun hge2 => ?_)
        · have hlt2 : j < (m.next.getD i []).length := by omega
          have htr := List.take_succ_eq_append_getElem hlt2
          have hmem : (m.next.getD i [])[j]'hlt2 ∈ m.next.getD i [] := List.getElem_mem hlt2
          refine M.rd (ht.chg hg4 fun _ _ x => x) (by omega) (x := (m.next.getD i [])[j]'hlt2) (by rw [Int.toNat_natCast, List.getElem?_eq_getElem hlt2]) ?_
          generalize hxe : (m.next.getD i [])[j]'hlt2 = x at *
          have hbad : ¬ (0 ≤ x ∧ x < m.label.length) → false = rowsB m := by
            intro hb
            symm; apply rowsB_false hlt
            rw [hrow, Bool.eq_false_iff]
            intro ht
            rw [List.all_eq_true] at ht
            have := ht x hmem
            rw [Bool.and_eq_true, decide_eq_true_eq, decide_eq_true_eq] at this
            exact hb this
          refine M.join_in (M.if_ (fun h0 => M.ifb (fun _ => ⟨hbad (by omega), hg4⟩) (fun h => by cases h)) (fun h0 => M.if_ (fun h2 => ⟨hbad (by omega), hg4⟩) (fun h2 => ?_)))
          rw [wI_succ (by simp only [Big]; omega)]
          refine ⟨⟨hg4, j + 1, rfl, by omega, hB4, fun y hy => ?_⟩, by omega⟩
          rw [htr, List.mem_append, List.mem_singleton] at hy
          rcases hy with hy | rfl
          · exact hx y hy
          · omega
        · have : j = t.len := by omega
          subst this
          rw [wI_succ (by simp only [Big]; omega)]
          refine ⟨⟨hg4, i + 1, rfl, by omega, hB4, fun s hs => ?_⟩, by omega⟩
          by_cases hsi : s = i
          · subst hsi
            rw [hrow, List.all_eq_true]
            intro x hm
            have e : (m.next.getD s []).take t.len = m.next.getD s [] := List.take_of_length_le (by omega)
            rw [e] at hx
            rw [Bool.and_eq_true, decide_eq_true_eq, decide_eq_true_eq]
            exact hx x hm
          · exact hall s (by omega)
  · have : i = m.label.length := by omega
    subst this
    exact (rowsB_true hall).symm
theorem dfa_Right {w : World} {d : Dfv} {m : Mc} (h : DfaAt w d m) :
    Calls Try.prog 7 [.agg (Dfv.cs d).toArray].toArray w (Ret Value.bool fun r w' => r = rightB m ∧ Grow w w') := by
  apply L.dfa_Right
  unfold S.dfa_Right
  have hnl := h.next.len
  have hll : m.label.length = d.label.len := by simpa using h.label.len
  refine M.new_of fun b1 w1 hb1 hblk hg hs => M.ldB 258 hblk (Dfv_258 d) ?_
  have bad : ∀ {w' : World}, Grow w w' → ¬ (1 ≤ m.label.length ∧ m.label.length ≤ 65536 ∧ m.next.length = m.label.length ∧ ofB m.of m.width = true ∧ namesB m.names = true) → false = rightB m ∧ Grow w w' := by
    intro w' hg hb
    refine ⟨?_, hg⟩
    symm
    rw [Bool.eq_false_iff]
    intro ht
    simp only [rightB, Bool.and_eq_true, decide_eq_true_eq] at ht
    exact hb ⟨ht.1.1.1.1.1, ht.1.1.1.1.2, ht.1.1.1.2, ht.1.1.2, ht.1.2⟩
  refine M.if_ (fun h1 => M.if_ (fun h2 => M.ldB 257 hblk (Dfv_257 d) (M.if_ (fun h3 => ?_) (fun h3 => bad hg (by omega)))) (fun h2 => bad hg (by omega))) (fun h1 => bad hg (by omega))
  refine M.ldA_at (x := d.of) 0 hblk (fun j v hv => ?_) (M.ldB 256 hblk (Dfv_256 d) (M.call_of parts_Right ?_))
  · have hj : j < 256 := by rw [← Ar_len d.of]; exact (List.getElem?_eq_some_iff.1 hv).1
    rw [Nat.zero_add, Dfv_of d hj, ← hv, Ar_get _ hj]
  rintro r w2 ⟨rfl, hg2⟩
  rw [h.of, h.width]
  refine M.ifb (fun h4 => ?_) (fun h4 => bad (hg.trans hg2) (by rw [h4]; simp))
  refine M.ldB 259 (hblk.chg hg2 fun x => x) (Dfv_259 d) (M.call_of (dfa_names (h.chg (hg.trans hg2)).names h.size) ?_)
  rintro r w3 ⟨rfl, rfl⟩
  refine M.ifb (fun h5 => ?_) (fun h5 => bad (hg.trans hg2) (by rw [h5]; simp))
  refine M.ldA0 (hblk.chg hg2 fun x => x) rfl (M.call_of (dfa_rows (h.chg (hg.trans hg2)) (by omega) (by omega) (ofB_width h4).2) ?_)
  rintro r w4 ⟨rfl, hg4⟩
  refine ⟨?_, (hg.trans hg2).trans hg4⟩
  rw [rightB, decide_eq_true (by omega : 1 ≤ m.label.length), decide_eq_true (by omega : m.label.length ≤ 65536), decide_eq_true (by omega : m.next.length = m.label.length), h4, h5]
  simp
theorem bytes_eq (a b : ByteArray) : (ByteArray.toList a == ByteArray.toList b) = decide (a = b) := by
  rw [ByteArray.toList_eq, ByteArray.toList_eq, Bool.eq_iff_iff]
  simp only [beq_iff_eq, decide_eq_true_eq]
  exact ⟨fun h => ByteArray.ext (Array.ext' h), fun h => by rw [h]⟩
/-- What doubletref20.Right looks at first. -/
def goodP (m : Mc) : Prop := 1 ≤ m.label.length ∧ m.label.length ≤ 65536 ∧ m.next.length = m.label.length ∧ m.names.length ≤ 64 ∧ ofB m.of m.width = true
theorem rightB_of {m : Mc} (h : goodP m) : rightB m = (namesB m.names && rowsB m) := by
  rw [rightB, decide_eq_true h.1, decide_eq_true h.2.1, decide_eq_true h.2.2.1, h.2.2.2.2]; rfl
theorem rightB_not {m : Mc} (h : ¬ goodP m) : rightB m = false := by
  rw [Bool.eq_false_iff]
  intro ht
  simp only [rightB, namesB, Bool.and_eq_true, decide_eq_true_eq] at ht
  exact h ⟨ht.1.1.1.1.1, ht.1.1.1.1.2, ht.1.1.1.2, ht.1.2.1, ht.1.1.2⟩
theorem r20_Right {w : World} {d : Dfv} {m : Mc} (h : DfaAt w d m) :
    Calls Try.prog 33 [.agg (Dfv.cs d).toArray].toArray w (Ret Value.bool fun r w' => r = rightB m ∧ Grow w w') := by
  apply L.r20_Right
  unfold S.r20_Right
  have hnl := h.next.len
  have hll : m.label.length = d.label.len := by simpa using h.label.len
  have hnn : m.names.length = d.names.len := by simpa using h.names.len
  refine M.new_of fun b1 w1 hb1 hblk hg hs => M.ldB 258 hblk (Dfv_258 d) ?_
  refine M.join_at (fun q w' => Grow w w' ∧ Blk w' b1 27 (Dfv.cs d) ∧ (q = false ↔ goodP m)) ?_ ?_
  · have bad : ¬ goodP m → Grow w w1 ∧ Blk w1 b1 27 (Dfv.cs d) ∧ (true = false ↔ goodP m) := fun hb => ⟨hg, hblk, ⟨fun e => by (cases e), fun e => (hb e).elim⟩⟩
    refine M.if_ (fun h1 => bad fun hp => by have := hp.1; omega) (fun h1 => M.if_ (fun h2 => bad fun hp => by have := hp.2.1; omega) (fun h2 => M.ldB 257 hblk (Dfv_257 d) (M.ifn (fun h3 => ?_) (fun h3 => bad fun hp => by have := hp.2.2.1; omega))))
    refine M.ldB 259 hblk (Dfv_259 d) (M.if_ (fun h4 => bad fun hp => by have := hp.2.2.2.1; omega) (fun h4 => ?_))
    refine M.ldA_at (x := d.of) 0 hblk (fun j v hv => ?_) (M.ldB 256 hblk (Dfv_256 d) (M.call_of (r19_Right (by rw [h.of]; exact h.byte)) ?_))
    · have hj : j < 256 := by rw [← Ar_len d.of]; exact (List.getElem?_eq_some_iff.1 hv).1
      rw [Nat.zero_add, Dfv_of d hj, ← hv, Ar_get _ hj]
    rintro r w2 ⟨rfl, hg2⟩
    rw [h.of, h.width]
    refine ⟨hg.trans hg2, hblk.chg hg2 fun x => x, ?_⟩
    cases h5 : ofB m.of m.width
    · exact ⟨fun e => (by cases e), fun hp => by have := hp.2.2.2.2; rw [h5] at this; cases this⟩
    · exact ⟨fun _ => ⟨by omega, by omega, by omega, by omega, h5⟩, fun _ => rfl⟩
  rintro q w2 ⟨hg2, hB2, hq⟩
  refine M.ifb (fun h1 => ⟨?_, hg2⟩) (fun h1 => ?_)
  · rw [rightB_not (fun hp => by rw [hq.2 hp] at h1; cases h1)]
  have hp := hq.1 h1
  obtain ⟨p1, p2, p3, p4, p5⟩ := hp
  have hp := hq.1 h1
  rw [rightB_of hp]
  refine M.loop_at (fun q w' => Grow w w' ∧ ∃ i : Nat, q = i ∧ i ≤ m.names.length ∧ Blk w' b1 27 (Dfv.cs d) ∧ (∀ x ∈ m.names.take i, nameB x = true) ∧ (m.names.take i).Nodup) (fun q _ => (m.names.length - q).toNat)
    ⟨hg2, 0, rfl, by omega, hB2, by simp, by simp⟩ ?_
  rintro _ w3 ⟨hg3, i, rfl, hi, hB3, hn, hd⟩
  refine M.ldB 259 hB3 (Dfv_259 d) (M.if_ (fun hlt => ?_) (fun hge => ?_))
  · have hlt : i < m.names.length := by omega
    have htr := List.take_succ_eq_append_getElem hlt
    have hget : m.names[(i : Int).toNat]? = some (m.names[i]'hlt) := by rw [Int.toNat_natCast, List.getElem?_eq_getElem hlt]
    refine M.ldB 259 hB3 (Dfv_259 d) (M.rd (h.names.chg hg3 fun _ _ x => x) (by omega) hget (M.call_of (r09_Name (h.size _ (List.getElem_mem hlt))) ?_))
    rintro r w4 ⟨rfl, rfl⟩
    have hmem : m.names[i]'hlt ∈ m.names := List.getElem_mem hlt
    generalize hne : m.names[i]'hlt = x at *
    refine M.ifb (fun h2 => ⟨?_, hg3⟩) (fun h2 => ?_)
    · have hxf : nameB x = false := by simpa using h2
      have : m.names.all nameB = false := by
        rw [Bool.eq_false_iff]
        intro ht
        rw [List.all_eq_true] at ht
        rw [ht x hmem] at hxf; cases hxf
      rw [namesB, this, Bool.false_and, Bool.and_false, Bool.false_and]
    have hxt : nameB x = true := by simpa using h2
    refine M.loop_at (fun q w' => Grow w w' ∧ ∃ j : Nat, q = j ∧ j ≤ i ∧ Blk w' b1 27 (Dfv.cs d) ∧ x ∉ m.names.take j) (fun q _ => (i - q).toNat) ⟨hg3, 0, rfl, by omega, hB3, by simp⟩ ?_
    rintro _ w5 ⟨hg5, j, rfl, hj, hB5, hnj⟩
    refine M.if_ (fun hlt2 => ?_) (fun hge2 => ?_)
    · have hlt2 : j < i := by omega
      have hjl : j < m.names.length := by omega
      have htr2 := List.take_succ_eq_append_getElem hjl
      refine M.drew_of fun w6 _ hg6 => ?_
      have hG := hg5.trans hg6
      have hB6 := hB5.chg hg6 fun x => x
      have hgj : m.names[(j : Int).toNat]? = some (m.names[j]'hjl) := by rw [Int.toNat_natCast, List.getElem?_eq_getElem hjl]
      refine M.ldB 259 hB6 (Dfv_259 d) (M.rd (h.names.chg hG fun _ _ x => x) (by omega) hgj (M.ldB 259 hB6 (Dfv_259 d) (M.rd (h.names.chg hG fun _ _ x => x) (by omega) hget ?_)))
      rw [bytes_eq]
      refine M.if_ (fun he => ⟨?_, hG⟩) (fun hne2 => ?_)
      · have : ¬ m.names.Nodup := by
          intro hnd
          have h3 : (m.names.take (i + 1)).Nodup := hnd.sublist (List.take_sublist _ _)
          rw [htr, List.nodup_append] at h3
          refine h3.2.2 x ?_ x (List.mem_singleton.2 rfl) rfl
          rw [← he, List.mem_take_iff_getElem]
          exact ⟨j, by omega, rfl⟩
        rw [namesB, decide_eq_false this, Bool.and_false, Bool.and_false, Bool.false_and]
      · rw [wI_succ (by simp only [Big]; omega)]
        refine ⟨⟨hG, j + 1, rfl, by omega, hB6, ?_⟩, by omega⟩
        rw [htr2, List.mem_append, List.mem_singleton]
        rintro (h3 | h3)
        · exact hnj h3
        · exact hne2 h3.symm
    · have : j = i := by omega
      subst this
      rw [wI_succ (by simp only [Big]; omega)]
      refine ⟨⟨hg5, j + 1, rfl, by omega, hB5, fun y hy => ?_, ?_⟩, by omega⟩
      · rw [htr, List.mem_append, List.mem_singleton] at hy
        rcases hy with hy | rfl
        · exact hn y hy
        · exact hxt
      · rw [htr, List.nodup_append]
        refine ⟨hd, by simp, fun a ha b hb' => ?_⟩
        rw [List.mem_singleton] at hb'
        subst hb'
        rintro rfl
        exact hnj ha
  -- the rows
  have hnames : namesB m.names = true := by
    have e1 : m.names.take i = m.names := List.take_of_length_le (by omega)
    rw [e1] at hn hd
    rw [namesB, decide_eq_true p4, List.all_eq_true.2 hn, decide_eq_true hd]; rfl
  rw [hnames, Bool.true_and]
  have hw := ofB_width p5
  refine M.loop_at (fun q w' => Grow w w' ∧ ∃ i : Nat, q = i ∧ i ≤ m.label.length ∧ Blk w' b1 27 (Dfv.cs d) ∧ ∀ s, s < i → rowB m s = true) (fun q _ => (m.label.length - q).toNat)
    ⟨hg3, 0, rfl, by omega, hB3, fun s hs => by omega⟩ ?_
  clear hge hB3 hn hd hi hg3
  rintro _ w4 ⟨hg4, i, rfl, hi, hB4, hall⟩
  refine M.if_ (fun hlt => ?_) (fun hge => ⟨?_, hg4⟩)
  · have hlt : i < m.label.length := by omega
    have hrow : rowB m i = ((decide (((m.next.getD i []).length : Int) = m.width) && (decide (0 ≤ m.label.getD i 0) && decide (m.label.getD i 0 ≤ m.names.length))) && (m.next.getD i []).all fun t => decide (0 ≤ t) && decide (t < m.label.length)) := rfl
    refine M.join_at (fun q w' => Grow w w' ∧ Blk w' b1 27 (Dfv.cs d) ∧ q = !(decide (((m.next.getD i []).length : Int) = m.width) && (decide (0 ≤ m.label.getD i 0) && decide (m.label.getD i 0 ≤ m.names.length)))) ?_ ?_
    · refine M.drew_of fun w3 _ hg3 => ?_
      have hB3 := hB4.chg hg3 fun x => x
      have hg13 := hg4.trans hg3
      have hlr := (h.label.chg hg13 fun _ _ x => x)
      refine M.ldB 257 hB3 (Dfv_257 d) (M.rdrd h.next hg13 (by omega) (toNat_some (z := []) (by omega)) fun t ht => ?_)
      have htl : (m.next.getD i []).length = t.len := by simpa using ht.len
      refine M.ldB 256 hB3 (Dfv_256 d) (M.ifn (fun he => ?_) (fun hne => ⟨hg13, hB3, ?_⟩))
      · have he' : decide (((m.next.getD i []).length : Int) = m.width) = true := by rw [decide_eq_true_eq, htl, ← h.width]; exact he
        rw [he', Bool.true_and]
        refine M.ldB 258 hB3 (Dfv_258 d) (M.rd hlr (by omega) (x := m.label.getD i 0) (toNat_some (z := 0) hlt) (M.if_ (fun h0 => ⟨hg13, hB3, ?_⟩) (fun h0 => M.ldB 258 hB3 (Dfv_258 d) (M.rd hlr (by omega) (x := m.label.getD i 0) (toNat_some (z := 0) hlt) (M.ldB 259 hB3 (Dfv_259 d) ⟨hg13, hB3, ?_⟩)))))
        · rw [decide_eq_false (by omega : ¬ 0 ≤ m.label.getD i 0)]; rfl
        · rw [decide_eq_true (by omega : 0 ≤ m.label.getD i 0), Bool.true_and, ← decide_not]
          congr 1
          rw [hnn]; simp
      · rw [decide_eq_false (by rw [htl, ← h.width]; exact hne)]; rfl
    · rintro q w3 ⟨hg3, hB3, rfl⟩
      generalize hq2 : (decide (((m.next.getD i []).length : Int) = m.width) && (decide (0 ≤ m.label.getD i 0) && decide (m.label.getD i 0 ≤ m.names.length))) = q at *
      refine M.ifb (fun h1 => ⟨?_, hg3⟩) (fun h1 => ?_)
      · symm; apply rowsB_false hlt
        rw [hrow, show q = false by simpa using h1, Bool.false_and]
      · have h1 : q = true := by simpa using h1
        rw [h1, Bool.true_and] at hrow
        rw [h1, Bool.and_eq_true, decide_eq_true_eq] at hq2
        refine M.loop_at (fun p w' => Grow w w' ∧ ∃ j : Nat, p = j ∧ j ≤ (m.next.getD i []).length ∧ Blk w' b1 27 (Dfv.cs d) ∧ ∀ x ∈ (m.next.getD i []).take j, 0 ≤ x ∧ x < m.label.length) (fun p _ => ((m.next.getD i []).length - p).toNat)
          ⟨hg3, 0, rfl, by omega, hB3, by simp⟩ ?_
        rintro _ w4 ⟨hg4, j, rfl, hj, hB4, hx⟩
        refine M.ldB 256 hB4 (Dfv_256 d) (M.if_ (fun hlt2 => ?_) (fun hge2 => ?_))
        · rw [h.width] at hlt2
          have hlt2 : j < (m.next.getD i []).length := by omega
          have htr := List.take_succ_eq_append_getElem hlt2
          have hmem : (m.next.getD i [])[j]'hlt2 ∈ m.next.getD i [] := List.getElem_mem hlt2
          have hget : (m.next.getD i [])[(j : Int).toNat]? = some ((m.next.getD i [])[j]'hlt2) := by rw [Int.toNat_natCast, List.getElem?_eq_getElem hlt2]
          generalize hxe : (m.next.getD i [])[j]'hlt2 = x at *
          have hbad : ¬ (0 ≤ x ∧ x < m.label.length) → false = rowsB m := by
            intro hb
            symm; apply rowsB_false hlt
            rw [hrow, Bool.eq_false_iff]
            intro ht
            rw [List.all_eq_true] at ht
            have := ht x hmem
            rw [Bool.and_eq_true, decide_eq_true_eq, decide_eq_true_eq] at this
            exact hb this
          refine M.join_in (M.ldB 257 hB4 (Dfv_257 d) (M.rdrd h.next hg4 (by omega) (toNat_some (z := []) (by omega)) fun t ht => M.rd (ht.chg hg4 fun _ _ x => x) (by omega) hget (M.if_ (fun h0 => M.ifb (fun _ => ⟨hbad (by omega), hg4⟩) (fun h => by cases h)) (fun h0 =>
            M.ldB 257 hB4 (Dfv_257 d) (M.rdrd h.next hg4 (by omega) (toNat_some (z := []) (by omega)) fun t ht => M.rd (ht.chg hg4 fun _ _ x => x) (by omega) hget (M.if_ (fun h2 => ⟨hbad (by omega), hg4⟩) (fun h2 => ?_)))))))
          rw [wI_succ (by simp only [Big]; omega)]
          refine ⟨⟨hg4, j + 1, rfl, by omega, hB4, fun y hy => ?_⟩, by omega⟩
          rw [htr, List.mem_append, List.mem_singleton] at hy
          rcases hy with hy | rfl
          · exact hx y hy
          · omega
        · rw [h.width] at hge2
          have : j = (m.next.getD i []).length := by omega
          subst this
          rw [wI_succ (by simp only [Big]; omega)]
          refine ⟨⟨hg4, i + 1, rfl, by omega, hB4, fun s hs => ?_⟩, by omega⟩
          by_cases hsi : s = i
          · subst hsi
            rw [hrow, List.all_eq_true]
            intro x hm
            rw [List.take_length] at hx
            rw [Bool.and_eq_true, decide_eq_true_eq, decide_eq_true_eq]
            exact hx x hm
          · exact hall s (by omega)
  · have : i = m.label.length := by omega
    subst this
    exact (rowsB_true hall).symm
theorem r24_Right {w : World} {d : Dfv} {m : Mc} {n : Int} (h : DfaAt w d m) :
    Calls Try.prog 11 [.agg (Dfv.cs d).toArray, vI n].toArray w (Ret Value.bool fun r w' => r = (rightB m && decide ((m.label.length : Int) ≤ n)) ∧ Grow w w') := by
  apply L.r24_Right
  unfold S.r24_Right
  have hll : m.label.length = d.label.len := by simpa using h.label.len
  refine M.new_of fun b1 w1 hb1 hblk hg hs => M.ldA0 hblk rfl (M.call_of (r20_Right (h.chg hg)) ?_)
  rintro r w2 ⟨rfl, hg2⟩
  refine M.ifb (fun h1 => M.ldB 258 (hblk.chg hg2 fun x => x) (Dfv_258 d) ⟨?_, hg.trans hg2⟩) (fun h1 => ⟨?_, hg.trans hg2⟩)
  · rw [h1, Bool.true_and, hll]
  · rw [h1, Bool.false_and]
end C
end Go.Proofs.Ythepabefikobpaa
