/- Contracts: blocks of both (quotient.Join), how many, heads, whether blocks are stable, the machine of blocks. Conditions: as each states. -/
import Derived.Test.YthepabefikobpaaC5
import Derived.Test.YthepabefikobpaaMaps2
namespace Go.Proofs.Ythepabefikobpaa
open Go Go.Sh Go.Sp
namespace C
theorem number_2int {w : World} {l : List (Int × Int)} {fv : Value} (hk : KeyFn Try.prog ePr fv w l) (hb : l.length ≤ 65536) :
    Calls Try.prog 105 [vI l.length, fv].toArray w (Ret Sl.val fun r w' => Own w.heap.size w' r 3 1 ((numI l).map vI) ∧ Grow w w') := by
  apply L.quotient_number_2int
  unfold S.quotient_number_2int
  have law : KeyLaw Try.prog 54 ePr := KeyLaw.pair Try.underlying54 Try.underlying3 (fun _ => by kernel_rfl) (fun _ => by kernel_rfl)
  refine M.mkMap (ek := ePr) (ev := vI) fun m w1 hm0 hm hg hs => ?_
  refine M.loop_at (fun q w' => Grow w w' ∧ ∃ i : Nat, q.2 = i ∧ i ≤ l.length ∧ Mp w' m ePr vI (foA (l.take i)) ∧ m < w'.heap.size ∧
      Own w.heap.size w' q.1 3 1 ((numI (l.take i)).map vI) ∧ ¬ ownb q.1 m) (fun q _ => (l.length - q.2).toNat)
    ⟨hg, 0, rfl, by omega, by simpa [foA, fo_nil] using hm, hm.lt, by simpa [numI_nil] using Own.nil _ _ _ _, by rintro ⟨a, h, _⟩; cases h⟩ ?_
  rintro ⟨out, q⟩ w2 ⟨hg2, i, hq, hi, hm2, hml, ho, hno⟩
  simp only at hq ho hno
  subst hq
  dsimp only
  refine M.if_ (fun hlt => ?_) (fun hge => ?_)
  · have hlt : i < l.length := by omega
    have htake := List.take_succ_eq_append_getElem hlt
    refine M.callv_of (hk w2 i l[i] hg2 (List.getElem?_eq_getElem hlt)) ?_
    rintro _ w3 ⟨rfl, hg3⟩
    refine M.new_of fun b5 w3' hb5 hblk5 hg3' hs3' => M.stA_of hblk5 (by simp [Pr_len]) fun w3a hb5a hc5a hs5a => ?_
    have hsz3 := hg3.size
    have hgA : Grow w2 w3a := Chg.fresh (hg3.trans hg3') hc5a (fun b hb => by omega)
    have hm3 := hm2.chg hgA (fun x => x)
    have ho3 := ho.chg hgA (fun _ _ x => x)
    have hmb : m ≠ b5 := by omega
    have hob : ∀ b, ownb out b → b ≠ b5 := fun b hb e => by have := (ho.ge hb).2; omega
    refine M.join_at (fun _ w4 => Mp w4 m ePr vI (foA (l.take (i + 1))) ∧ Own w.heap.size w4 out 3 1 ((numI (l.take i)).map vI) ∧ Grow w w4 ∧ m < w4.heap.size ∧ Blk w4 b5 54 (Pr.cs l[i])) ?_ ?_
    · refine M.ldA0 hb5a rfl (M.lookOk (ek := ePr) (z := 0) Try.underlying50 law hm3 Try.zeroValue3 l[i] ?_)
      simp only [assoc_foA]
      by_cases hmem : l[i] ∈ l.take i
      · simp only [if_pos hmem, Option.isSome_some]
        refine M.ifb (fun h => by cases h) (fun _ => ?_)
        refine ⟨?_, ho3, hg2.trans hgA, by have := hgA.size; omega, hb5a⟩
        rw [htake, foA, fo_snoc, if_pos ((mem_fo _ _).2 hmem)]
        exact hm3
      · simp only [if_neg hmem, Option.isSome_none]
        refine M.ifb (fun _ => ?_) (fun h => by cases h)
        refine M.ldA0 hb5a rfl ⟨_, Mp.len_run Try.underlying50 hm3, ?_⟩
        refine M.insert (ek := ePr) Try.underlying50 law hm3 l[i] _ (by rw [assoc_foA, if_neg hmem]) fun w4 hm4 hc4 hs4 => ?_
        refine ⟨?_, ho3.chg hc4 (fun b hb e => hno (e ▸ hb)), Chg.fresh (hg2.trans hgA) hc4 (fun b hb => by omega), by have := hgA.size; omega, hb5a.chg hc4 (fun e => hmb e.symm)⟩
        rw [htake, foA, fo_snoc, if_neg (fun h => hmem ((mem_fo _ _).1 h)), List.zipIdx_append, List.map_append]
        simpa [foA] using hm4
    · rintro _ w4 ⟨hm4, ho4, hg4, hml4, hb54⟩
      refine M.ldA0 hb54 rfl (M.look1 (ek := ePr) (z := 0) Try.underlying50 law hm4 Try.zeroValue3 l[i] ?_)
      have hmem : l[i] ∈ l.take (i + 1) := by rw [htake]; exact List.mem_append_right _ (List.mem_singleton.2 rfl)
      rw [assoc_foA, if_pos hmem, Option.getD_some]
      have hlen := ho4.len
      simp only [List.length_map, numI_length, List.length_take] at hlen
      refine M.app Try.underlying24 (T := 3) (info := Try.t3) (z := vI 0) (m := 1) (bytes := 8) (by kernel_rfl) rfl rfl rfl rfl (by decide) ho4 rfl (by simp [one1]) hg4.size (by omega) (by omega) fun r w5 ho5 hl5 hc5 hb5 => ?_
      rw [wI_succ (by simp only [Big]; omega)]
      refine ⟨⟨Chg.fresh hg4 hc5 (fun b hb => (ho4.ge hb).1), i + 1, rfl, by omega, hm4.chg hc5 hno, by have := hc5.size; omega, ?_, fun h => ?_⟩, by omega⟩
      · rw [htake, numI_snoc, List.map_append, ← htake]; exact ho5
      · rcases hb5 m h with h | h
        · exact hno h
        · omega
  · have e1 : l.take i = l := List.take_of_length_le (by omega)
    rw [e1] at ho
    exact ⟨ho, hg2⟩
theorem Join_c1 {w : World} {b c i : Nat} {s t : Sl} {l m : List Int} {x y : Int} (hb : Blk w b 24 [s.val]) (hc : Blk w c 24 [t.val]) (h : Rd 1 (fun _ => True) w s (l.map vI)) (h' : Rd 1 (fun _ => True) w t (m.map vI)) (hx : l[i]? = some x) (hy : m[i]? = some y) :
    Calls Try.prog 106 [vI i, vA ⟨b, 0, none⟩, vA ⟨c, 0, none⟩].toArray w (Ret ePr fun r w' => r = (x, y) ∧ Grow w w') := by
  apply L.quotient_Join_c1
  unfold S.quotient_Join_c1
  refine M.new_of fun b1 w1 hb1 hblk1 hg1 hs1 => M.drew_of fun w2 _ hg2 => ?_
  have hG := hg1.trans hg2
  refine M.ld0 (hb.chg hG fun x => x) rfl (M.rd (h.chg hG fun _ _ x => x) (by omega) (x := x) (by simpa using hx) (M.ld0 (hc.chg hG fun x => x) rfl (M.rd (h'.chg hG fun _ _ x => x) (by omega) (x := y) (by simpa using hy) ?_)))
  exact M.stA_of (hblk1.chg hg2 fun x => x) (by simp [Pr_len]) fun w3 hb3 hc3 hs3 => M.ldA0 hb3 rfl ⟨rfl, Chg.fresh hG hc3 (fun b hb => by omega)⟩
theorem quotient_Join {F F' : Nat → Prop} {w : World} {s t : Sl} {l m : List Int} (h : Rd 1 F w s (l.map vI)) (h' : Rd 1 F' w t (m.map vI)) (hb : l.length ≤ 65536) :
    Calls Try.prog 101 [s.val, t.val].toArray w (Ret Sl.val fun r w' => Own w.heap.size w' r 3 1 ((numI (l.zip m)).map vI) ∧ Grow w w') := by
  apply L.quotient_Join
  unfold S.quotient_Join
  have hl : l.length = s.len := by simpa using h.len
  have hm : m.length = t.len := by simpa using h'.len
  refine M.new_of fun b1 w1 hb1 hblk1 hg1 hs1 => M.new_of fun b2 w2 hb2 hblk2 hg2 hs2 => ?_
  refine M.ld0 (hblk1.chg hg2 fun x => x) rfl (M.ld0 hblk2 rfl ?_)
  have e : (if (t.len : Int) < (s.len : Int) then (t.len : Int) else (s.len : Int)) = ((l.zip m).length : Nat) := by
    rw [List.length_zip]; split <;> omega
  rw [e]
  have hG := hg1.trans hg2
  refine M.call_of (number_2int (l := l.zip m) (w := w2) ?_ (by rw [List.length_zip]; omega)) ?_
  · intro w3 i x hg3 hx
    obtain ⟨x1, x2⟩ := x
    rw [List.getElem?_zip_eq_some] at hx
    refine inv_of (cs := [vA ⟨b1, 0, none⟩, vA ⟨b2, 0, none⟩]) (args := [vI i]) Try.call106 (Join_c1 ((hblk1.chg hg2 fun x => x).chg hg3 fun x => x) (hblk2.chg hg3 fun x => x) (((h.mono fun _ _ => trivial).chg hG (fun _ _ x => x)).chg hg3 fun _ _ x => x) (((h'.mono fun _ _ => trivial).chg hG (fun _ _ x => x)).chg hg3 fun _ _ x => x) hx.1 hx.2) ?_
    rintro r w4 ⟨rfl, hg4⟩
    exact ⟨_, rfl, rfl, hg4⟩
  · rintro r w3 ⟨ho, hg3⟩
    exact ⟨ho.base (by have := hG.size; omega), hG.trans hg3⟩
/-- The greatest of a list's numbers. -/
def maxI : List Int → Int
  | [] => 0
  | x :: l => l.foldl (fun a b => if b > a then b else a) x
theorem slices_Max {F : Nat → Prop} {w : World} {s : Sl} {l : List Int} (h : Rd 1 F w s (l.map vI)) (hb : l.length ≤ 65536) (h1 : 1 ≤ l.length) :
    Calls Try.prog 61 [s.val].toArray w (Ret vI fun r w' => r = maxI l ∧ w' = w) := by
  apply L.slices_Max_Lintint
  unfold S.slices_Max_Lintint
  have hl : l.length = s.len := by simpa using h.len
  obtain ⟨x, l', rfl⟩ : ∃ x l', l = x :: l' := by
    cases l with
    | nil => simp at h1
    | cons x l' => exact ⟨x, l', rfl⟩
  refine M.if_ (fun h0 => by omega) (fun h0 => ?_)
  refine M.rd h (by omega) (x := x) (by simp) ?_
  refine M.loop_at (fun q w' => w' = w ∧ ∃ i : Nat, q.2 = (i + 1 : Nat) ∧ i ≤ l'.length ∧ q.1 = (l'.take i).foldl (fun a b => if b > a then b else a) x) (fun q _ => (s.len - q.2).toNat) ⟨rfl, 0, rfl, by omega, by simp⟩ ?_
  rintro ⟨q1, q2⟩ _ ⟨rfl, i, hq2, hi, hq1⟩
  simp only at hq1 hq2
  subst hq2
  simp only [List.length_cons] at hl hb
  refine M.if_ (fun hlt => ?_) (fun hge => ?_)
  · have hlt : i < l'.length := by omega
    refine M.rd h (by omega) (x := l'[i]) (by simp [hlt]) ?_
    rw [wI_succ (by simp only [Big]; omega)]
    refine ⟨⟨rfl, i + 1, rfl, by omega, ?_⟩, by simp only; omega⟩
    rw [List.take_succ_eq_append_getElem hlt, List.foldl_append, ← hq1]
    rfl
  · have e1 : l'.take i = l' := List.take_of_length_le (by omega)
    rw [e1] at hq1
    exact ⟨hq1, rfl⟩
theorem maxI_num {α : Type} [DecidableEq α] (l : List α) (h : l ≠ []) : maxI (numI l) = ((fo l).length : Int) - 1 := by
  refine list_snoc_ind (p := fun l : List α => l ≠ [] → maxI (numI l) = ((fo l).length : Int) - 1) (fun h => (h rfl).elim) (fun l x ih _ => ?_) l h
  have hmax : ∀ (l : List Int) (y : Int), l ≠ [] → maxI (l ++ [y]) = if y > maxI l then y else maxI l := by
    intro l y hl
    cases l with
    | nil => exact (hl rfl).elim
    | cons z l => simp [maxI, List.foldl_append]
  by_cases hl : l = []
  · subst hl
    simp [numI, num, maxI, fo]
  · have hn : numI l ≠ [] := fun e => hl (by have := congrArg List.length e; rw [numI_length] at this; simpa using this)
    rw [numI_snoc, hmax _ _ hn, ih hl, fo_snoc]
    split
    · rename_i hx
      have := List.idxOf_lt_length_of_mem hx
      rw [if_neg (by omega)]
    · rename_i hx
      rw [List.idxOf_append, if_neg hx, List.idxOf_cons_self, List.length_append]
      simp
      omega
theorem hopcroft_many {F : Nat → Prop} {w : World} {s : Sl} {l : List Int} (h : Rd 1 F w s (l.map vI)) (hb : l.length ≤ 65536) (h1 : 1 ≤ l.length) :
    Calls Try.prog 32 [s.val].toArray w (Ret vI fun r w' => r = ((fo l).length : Int) ∧ Grow w w') := by
  apply L.hopcroft_many
  unfold S.hopcroft_many
  refine M.call_of (quotient_Norm h hb) ?_
  rintro r w1 ⟨ho, hg⟩
  refine M.call_of (slices_Max (ho.rd (S := fun _ => True) fun _ _ => trivial) (by rw [numI_length]; exact hb) (by rw [numI_length]; exact h1)) ?_
  rintro r w2 ⟨rfl, rfl⟩
  have hne : l ≠ [] := by rintro rfl; simp at h1
  have := fo_length_le l
  rw [maxI_num l hne, wI_id (by omega) (by omega)]
  exact ⟨by omega, hg⟩
/-- A function of two numbers that answers yes or no. -/
def Fn2 (P : Program) (fv : Value) (w : World) (D : Int → Prop) (R : Int → Int → Bool) : Prop :=
  ∀ (w' : World) (x y : Int), Grow w w' → D x → D y → Inv P fv [vI x, vI y] w' fun v w'' => ∃ r, v = .bool r ∧ r = R x y ∧ Grow w' w''
def eqfB (R : Int → Int → Bool) (a b : List Int) : Bool := decide (a.length = b.length) && (a.zip b).all fun p => R p.1 p.2
theorem EqualFunc_int {w w0 : World} {s t : Sl} {a b : List Int} {fv : Value} {D : Int → Prop} {R : Int → Int → Bool} (h : Rd 1 (fun _ => True) w s (a.map vI)) (h' : Rd 1 (fun _ => True) w t (b.map vI)) (hb : a.length ≤ Big)
    (hf : Fn2 Try.prog fv w0 D R) (h0 : Grow w0 w) (ha : ∀ x ∈ a, D x) (hbd : ∀ x ∈ b, D x) :
    Calls Try.prog 74 [s.val, t.val, fv].toArray w (Ret Value.bool fun r w' => r = eqfB R a b ∧ Grow w w') := by
  apply L.slices_EqualFunc_LintLintintint
  unfold S.slices_EqualFunc_LintLintintint
  have hl : a.length = s.len := by simpa using h.len
  have hm : b.length = t.len := by simpa using h'.len
  refine M.ifn (fun he => ?_) (fun hne => ⟨?_, Chg.refl _ _⟩)
  · have hab : a.length = b.length := by omega
    refine M.loop_at (fun q w' => Grow w w' ∧ ∃ i : Nat, q = i ∧ i ≤ a.length ∧ ((a.zip b).take i).all (fun p => R p.1 p.2) = true) (fun q _ => (a.length - q).toNat) ⟨Chg.refl _ _, 0, rfl, by omega, by simp⟩ ?_
    rintro _ w1 ⟨hg, i, rfl, hi, hall⟩
    refine M.if_ (fun hlt => ?_) (fun hge => ⟨?_, hg⟩)
    · have hlt : i < a.length := by omega
      have hlt' : i < b.length := by omega
      have hz : i < (a.zip b).length := by rw [List.length_zip]; omega
      have htake := List.take_succ_eq_append_getElem hz
      have hzi : (a.zip b)[i]'hz = (a[i], b[i]) := List.getElem_zip
      refine M.rd (h.chg hg fun _ _ x => x) (by omega) (x := a[i]) (by simp [hlt]) (M.rd (h'.chg hg fun _ _ x => x) (by omega) (x := b[i]) (by simp [hlt']) (M.callv_of (hf w1 a[i] b[i] (h0.trans hg) (ha _ (List.getElem_mem hlt)) (hbd _ (List.getElem_mem hlt'))) ?_))
      rintro r w2 ⟨rfl, hg2⟩
      refine M.ifb (fun h1 => ⟨?_, hg.trans hg2⟩) (fun h1 => ?_)
      · symm
        rw [eqfB, Bool.and_eq_false_iff]
        right
        rw [Bool.eq_false_iff]
        intro ht
        rw [List.all_eq_true] at ht
        have := ht (a[i], b[i]) (hzi ▸ List.getElem_mem hz)
        simp only at this
        rw [this] at h1; cases h1
      · rw [wI_succ (by omega)]
        refine ⟨⟨hg.trans hg2, i + 1, rfl, by omega, ?_⟩, by omega⟩
        rw [htake, List.all_append, hall, hzi]
        simpa using h1
    · have e1 : (a.zip b).take i = a.zip b := List.take_of_length_le (by rw [List.length_zip]; omega)
      rw [e1] at hall
      rw [eqfB, hall, decide_eq_true hab]; rfl
  · rw [eqfB, decide_eq_false (by omega), Bool.false_and]
end C
/-! the machine's ways -/
namespace Mx
def lab (m : Mc) (s : Nat) : Int := m.label.getD s 0
def nx (m : Mc) (s c : Nat) : Nat := ((m.next.getD s []).getD c 0).toNat
def k (m : Mc) : Nat := m.width.toNat
def n (m : Mc) : Nat := m.label.length
/-- What a machine that may be has. -/
structure Ok (m : Mc) : Prop where
  n1 : 1 ≤ n m
  n2 : n m ≤ 65536
  next : m.next.length = n m
  k2 : k m ≤ 256
  width : m.width = (k m : Int)
  row : ∀ s, s < n m → (m.next.getD s []).length = k m
  nx : ∀ s c, s < n m → c < k m → nx m s c < n m ∧ (m.next.getD s [])[c]? = some ((nx m s c : Nat) : Int)
  lab : ∀ s, s < n m → 0 ≤ lab m s ∧ lab m s ≤ m.names.length
  of : C.ofB m.of m.width = true
  names : C.namesB m.names = true
theorem ok_of {m : Mc} (h : C.rightB m = true) : Ok m := by
  simp only [C.rightB, Bool.and_eq_true, decide_eq_true_eq] at h
  obtain ⟨⟨⟨⟨⟨h1, h2⟩, h3⟩, h4⟩, h5⟩, h6⟩ := h
  have hw := C.ofB_width h4
  have hrow : ∀ s, s < m.label.length → rowB m s = true := by
    rw [rowsB, List.all_eq_true] at h6
    exact fun s hs => h6 s (List.mem_range.2 hs)
  have key : ∀ s, s < m.label.length → (((m.next.getD s []).length : Int) = m.width ∧ 0 ≤ m.label.getD s 0 ∧ m.label.getD s 0 ≤ m.names.length) ∧ ∀ t ∈ m.next.getD s [], 0 ≤ t ∧ t < m.label.length := by
    intro s hs
    have := hrow s hs
    simp only [rowB, Bool.and_eq_true, decide_eq_true_eq, List.all_eq_true] at this
    exact ⟨this.1, this.2⟩
  refine ⟨h1, h2, h3, by rw [k]; omega, by rw [k]; omega, fun s hs => ?_, fun s c hs hc => ?_, fun s hs => (key s hs).1.2, h4, h5⟩
  · have := (key s hs).1.1
    rw [k]; omega
  · have hl : c < (m.next.getD s []).length := by have := (key s hs).1.1; rw [k] at hc; omega
    have hmem := (key s hs).2 _ (List.getElem_mem hl)
    have e : (m.next.getD s []).getD c 0 = (m.next.getD s [])[c] := by rw [List.getD_eq_getElem?_getD, List.getElem?_eq_getElem hl]; rfl
    rw [nx, e, List.getElem?_eq_getElem hl]
    refine ⟨by rw [n]; omega, ?_⟩
    congr 1
    omega
theorem right_of {m : Mc} (h : Ok m) : C.rightB m = true := by
  simp only [C.rightB, Bool.and_eq_true, decide_eq_true_eq]
  refine ⟨⟨⟨⟨⟨h.n1, h.n2⟩, h.next⟩, h.of⟩, h.names⟩, rowsB_true fun s hs => ?_⟩
  simp only [rowB, Bool.and_eq_true, decide_eq_true_eq, List.all_eq_true]
  refine ⟨⟨by rw [h.row s hs, h.width], h.lab s hs⟩, fun t ht => ?_⟩
  obtain ⟨c, hc, rfl⟩ := List.getElem_of_mem ht
  have hck : c < k m := by rw [← h.row s hs]; exact hc
  obtain ⟨g1, g2⟩ := h.nx s c hs hck
  rw [List.getElem?_eq_getElem hc, Option.some.injEq] at g2
  rw [g2]
  have : n m = m.label.length := rfl
  omega
end Mx
end Go.Proofs.Ythepabefikobpaa
