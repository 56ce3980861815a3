/- Contracts: which texts may be names. Conditions: as each states. -/
import Derived.Test.YthepabefikobpaaC1
import Derived.Laws.Strings
namespace Go.Sh
open Go
section
variable {γ : Type} {k : γ → World → Prop} {w : World}
theorem M.idxS {P : Program} {T : TypeId} {s : ByteArray} (hT : P.underlying T = some .string) {i : Nat} (hi : i < s.data.toList.length) {f : Int → M γ} (hf : f (((s.data.toList.getD i 0).toNat : Nat) : Int) w k) : M.look P (Instr.index T (.string s) (vI i)) vU8 f w k := by
  have e : s.data.toList.getD i 0 = s.data.toList[i] := by rw [List.getD_eq_getElem?_getD, List.getElem?_eq_getElem hi]; rfl
  rw [e] at hf
  refine ⟨_, ?_, hf⟩
  have hi' : i < s.size := by
    show i < s.data.size
    simpa using hi
  rw [run_index_string]
  · simp [hi']
    rfl
  · exact hT
end
def letB (c : Nat) : Bool := c == 95 || (Nat.ble 97 c && Nat.ble c 122) || (Nat.ble 65 c && Nat.ble c 90)
def mayB (c : Nat) (first : Bool) : Bool := letB c || (!first && (Nat.ble 48 c && Nat.ble c 57))
/-- The byte at a place may stand in a name there. -/
def mayAt (l : List UInt8) (i : Nat) : Bool := mayB (l.getD i 0).toNat (i == 0)
def nameB (s : ByteArray) : Bool := Nat.ble 1 s.data.toList.length && Nat.ble s.data.toList.length 32 && (List.range s.data.toList.length).all (mayAt s.data.toList)
theorem or_letter : ∀ n : _root_.Fin 256, (decide (97 ≤ IntKind.u8.wrap ((BitVec.ofInt 8 (n.val : Int) ||| BitVec.ofInt 8 32).toNat)) && decide (IntKind.u8.wrap ((BitVec.ofInt 8 (n.val : Int) ||| BitVec.ofInt 8 32).toNat) ≤ 122)) = ((Nat.ble 97 n.val && Nat.ble n.val 122) || (Nat.ble 65 n.val && Nat.ble n.val 90)) := by decide +kernel
end Go.Sh
namespace Go.Proofs.Ythepabefikobpaa
open Go Go.Sh
namespace C
theorem spec_letter {w : World} {n : Nat} (hn : n < 256) : Calls Try.prog 89 [vU8 n].toArray w (Ret Value.bool fun r w' => r = letB n ∧ w' = w) := by
  apply L.spec_letter
  unfold S.spec_letter
  have hor := or_letter ⟨n, hn⟩
  simp only at hor
  refine M.if_ (fun h => ?_) (fun h => ?_)
  · have : n = 95 := by omega
    subst this
    exact ⟨by decide, rfl⟩
  · have h95 : (n == 95) = false := by simp; omega
    have hb : letB n = ((Nat.ble 97 n && Nat.ble n 122) || (Nat.ble 65 n && Nat.ble n 90)) := by simp [letB, h95]
    rw [← hor] at hb
    have hrun : ∀ w, (binOp .or 5 (vU8 n) (vU8 32)).run Try.prog w = .ok (vU8 (IntKind.u8.wrap ((BitVec.ofInt 8 (n : Int) ||| BitVec.ofInt 8 32).toNat))) w := fun _ => rfl
    generalize IntKind.u8.wrap ((BitVec.ofInt 8 (n : Int) ||| BitVec.ofInt 8 32).toNat) = X at hrun hb
    refine ⟨X, hrun _, M.if_ (fun h1 => ⟨X, hrun _, ?_, rfl⟩) (fun h1 => ⟨?_, rfl⟩)⟩
    · rw [hb, decide_eq_true h1, Bool.true_and]
    · rw [hb, decide_eq_false h1, Bool.false_and]
theorem r09_May {w : World} {n : Nat} {b : Bool} : Calls Try.prog 83 [vU8 n, .bool b].toArray w (Ret Value.bool fun r w' => r = mayB n b ∧ w' = w) := by
  apply L.r09_May
  unfold S.r09_May
  refine M.join_in ?_
  have key : ∀ q : Bool, q = (Nat.ble 48 n && Nat.ble n 57) → (M.ite q (M.ret (!b)) (M.ite (decide (97 ≤ (n : Int))) (M.ite (decide ((n : Int) ≤ 122)) (M.ret true) (M.ite (decide (65 ≤ (n : Int))) (M.ite (decide ((n : Int) ≤ 90)) (M.ret true) (M.ret (decide ((n : Int) = 95)))) (M.ret (decide ((n : Int) = 95)))))
      (M.ite (decide (65 ≤ (n : Int))) (M.ite (decide ((n : Int) ≤ 90)) (M.ret true) (M.ret (decide ((n : Int) = 95)))) (M.ret (decide ((n : Int) = 95)))))) w (fun r w' => r = mayB n b ∧ w' = w) := by
    intro q hq
    simp only [M.ite, M.ret, decide_eq_true_eq, decide_eq_false_iff_not, hq, Bool.and_eq_true, Bool.and_eq_false_iff, Nat.ble_eq]
    simp only [mayB, letB, and_true]
    have e1 : Nat.ble 97 n = decide (97 ≤ n) := by rw [Bool.eq_iff_iff]; simp
    have e2 : Nat.ble n 122 = decide (n ≤ 122) := by rw [Bool.eq_iff_iff]; simp
    have e3 : Nat.ble 65 n = decide (65 ≤ n) := by rw [Bool.eq_iff_iff]; simp
    have e4 : Nat.ble n 90 = decide (n ≤ 90) := by rw [Bool.eq_iff_iff]; simp
    have e5 : Nat.ble 48 n = decide (48 ≤ n) := by rw [Bool.eq_iff_iff]; simp
    have e6 : Nat.ble n 57 = decide (n ≤ 57) := by rw [Bool.eq_iff_iff]; simp
    rw [e1, e2, e3, e4, e5, e6]
    refine ⟨fun ⟨h1, h2⟩ => ?_, fun h => ⟨fun h1 => ⟨fun h2 => ?_, fun h2 => ⟨fun h3 => ⟨fun h4 => ?_, fun h4 => ?_⟩, fun h3 => ?_⟩⟩, fun h1 => ⟨fun h3 => ⟨fun h4 => ?_, fun h4 => ?_⟩, fun h3 => ?_⟩⟩⟩ <;>
      (cases b <;> rw [Bool.eq_iff_iff] <;> simp <;> (try simp only [decide_eq_false_iff_not] at h) <;> omega)
  refine M.if_ (fun h => ?_) (fun h => ?_)
  · refine key (decide ((n : Int) ≤ 57)) ?_
    rw [Bool.eq_iff_iff]; simp; omega
  · refine key false ?_
    have : ¬ 48 ≤ n := by omega
    symm; simp; omega
theorem spec_run {w : World} {s : ByteArray} (hs : s.size ≤ maxLen) :
    Calls Try.prog 78 [.string s].toArray w (Ret vI fun r w' => ∃ n : Nat, r = n ∧ n ≤ s.size ∧ (∀ i, i < n → mayAt s.data.toList i = true) ∧ (n < s.size → mayAt s.data.toList n = false) ∧ w' = w) := by
  apply L.spec_run_string
  unfold S.spec_run_string
  simp only [maxLen] at hs
  have hz : s.data.toList.length = s.size := by rfl
  generalize hl : s.data.toList = l at *
  refine M.loop_at (fun q w' => w' = w ∧ ∃ i : Nat, q = i ∧ i ≤ s.size ∧ ∀ j, j < i → mayAt l j = true) (fun q _ => (s.size - q).toNat) ⟨rfl, 0, rfl, by omega, fun j hj => by omega⟩ ?_
  rintro _ w1 ⟨rfl, i, rfl, hi, hall⟩
  refine M.join_in ?_
  -- behind the test
  have key : ∀ q : Bool, (q = true → i < s.size ∧ mayAt l i = true) → (q = false → i < s.size → mayAt l i = false) →
      (M.ite q (fun w' (_ : Int → World → Prop) => (w' = w1 ∧ ∃ i' : Nat, wI ((i : Int) + 1) = i' ∧ i' ≤ s.size ∧ ∀ j, j < i' → mayAt l j = true) ∧ ((s.size : Int) - wI ((i : Int) + 1)).toNat < ((s.size : Int) - i).toNat) (M.ret (i : Int))) w1
        (fun r w' => ∃ n : Nat, r = n ∧ n ≤ s.size ∧ (∀ i, i < n → mayAt l i = true) ∧ (n < s.size → mayAt l n = false) ∧ w' = w1) := by
    intro q ht hf
    refine M.ifb (fun h => ?_) (fun h => ?_)
    · obtain ⟨h1, h2⟩ := ht h
      have e : wI ((i : Int) + 1) = ((i + 1 : Nat) : Int) := by rw [wI_id] <;> omega
      refine ⟨⟨rfl, i + 1, e, by omega, fun j hj => ?_⟩, by rw [e]; omega⟩
      by_cases hji : j = i
      · subst hji; exact h2
      · exact hall j (by omega)
    · exact ⟨i, rfl, hi, hall, hf h, rfl⟩
  refine M.if_ (fun hlt => ?_) (fun hge => key false (fun h => by cases h) (fun _ h => by omega))
  have hlt : i < s.size := by omega
  have hil : i < s.data.toList.length := by rw [hl]; omega
  have hmay : mayAt l i = mayB (s.data.toList.getD i 0).toNat (i == 0) := by rw [hl]; rfl
  have hc := (s.data.toList.getD i 0).toNat_lt
  have hidx : ∀ (f : Int → M Int) (k : Int → World → Prop), f (((s.data.toList.getD i 0).toNat : Nat) : Int) w1 k → M.look Try.prog (Instr.index 9 (.string s) (vI i)) vU8 f w1 k := fun f k h => M.idxS Try.underlying9 hil h
  generalize (s.data.toList.getD i 0).toNat = c at *
  refine hidx _ _ (M.call_of (spec_letter hc) ?_)
  rintro _ w2 ⟨rfl, rfl⟩
  refine M.ifb (fun h => key true (fun _ => ⟨hlt, by rw [hmay]; simp [mayB, h]⟩) (fun h => by cases h)) (fun h => ?_)
  have e1 : Nat.ble 48 c = decide (48 ≤ c) := by rw [Bool.eq_iff_iff]; simp
  have e2 : Nat.ble c 57 = decide (c ≤ 57) := by rw [Bool.eq_iff_iff]; simp
  refine M.if_ (fun h0 => hidx _ _ (M.if_ (fun h1 => hidx _ _ (key _ (fun h2 => ⟨hlt, ?_⟩) (fun h2 _ => ?_))) (fun h1 => key false (fun h => by cases h) (fun _ _ => ?_)))) (fun h0 => key false (fun h => by cases h) (fun _ _ => ?_))
  · have h3 := of_decide_eq_true h2
    have : (i == 0) = false := by simp; omega
    rw [hmay, mayB, h, this, e1, e2]; simp; omega
  · have h3 := of_decide_eq_false h2
    rw [hmay, mayB, h, e1, e2]; simp; omega
  · rw [hmay, mayB, h, e1, e2]; simp; omega
  · have : (i == 0) = true := by simp; omega
    rw [hmay, mayB, h, this]; rfl
theorem spec_Name {w : World} {s : ByteArray} (hs : s.size ≤ maxLen) : Calls Try.prog 51 [.string s].toArray w (Ret Value.bool fun r w' => r = nameB s ∧ w' = w) := by
  apply L.spec_Name
  unfold S.spec_Name
  have hz : s.data.toList.length = s.size := by rfl
  have hn : nameB s = (decide (1 ≤ s.size) && decide (s.size ≤ 32) && (List.range s.size).all (mayAt s.data.toList)) := by
    have e1 : Nat.ble 1 s.size = decide (1 ≤ s.size) := by rw [Bool.eq_iff_iff]; simp
    have e2 : Nat.ble s.size 32 = decide (s.size ≤ 32) := by rw [Bool.eq_iff_iff]; simp
    rw [nameB, hz, e1, e2]
  have he : (ByteArray.toList s == ByteArray.toList (⟨#[]⟩ : ByteArray)) = decide (s.size = 0) := by
    rw [ByteArray.toList_eq, ByteArray.toList_eq, Bool.eq_iff_iff]
    simp only [beq_iff_eq, decide_eq_true_eq]
    rw [← hz]
    exact List.length_eq_zero_iff.symm
  rw [he]
  refine M.ifn (fun h => ⟨?_, rfl⟩) (fun h => M.if_ (fun h1 => ?_) (fun h1 => ⟨?_, rfl⟩))
  · rw [hn, h]; rfl
  · refine M.call_of (spec_run hs) ?_
    rintro _ w2 ⟨n, rfl, h2, h3, h4, rfl⟩
    refine ⟨?_, rfl⟩
    have a1 : decide (1 ≤ s.size) = true := by simp; omega
    have a2 : decide (s.size ≤ 32) = true := by simp; omega
    rw [hn, a1, a2, Bool.true_and, Bool.true_and]
    by_cases hlt : n < s.size
    · have : (List.range s.size).all (mayAt s.data.toList) = false := by
        rw [Bool.eq_false_iff]
        intro ht
        rw [List.all_eq_true] at ht
        have := ht n (by simpa using hlt)
        rw [h4 hlt] at this; cases this
      rw [this]; simp; omega
    · have : (List.range s.size).all (mayAt s.data.toList) = true := by
        rw [List.all_eq_true]
        intro i hi
        exact h3 i (by simp at hi; omega)
      rw [this]; simp; omega
  · have a2 : decide (s.size ≤ 32) = false := by simp; omega
    rw [hn, a2]; simp
theorem r09_Name {w : World} {s : ByteArray} (hs : s.size ≤ maxLen) : Calls Try.prog 63 [.string s].toArray w (Ret Value.bool fun r w' => r = nameB s ∧ w' = w) := by
  apply L.r09_Name
  unfold S.r09_Name
  have hz : s.data.toList.length = s.size := by rfl
  have e1 : Nat.ble 1 s.size = decide (1 ≤ s.size) := by rw [Bool.eq_iff_iff]; simp
  have e2 : Nat.ble s.size 32 = decide (s.size ≤ 32) := by rw [Bool.eq_iff_iff]; simp
  have hn : nameB s = (decide (1 ≤ s.size) && decide (s.size ≤ 32) && (List.range s.size).all (mayAt s.data.toList)) := by rw [nameB, hz, e1, e2]
  simp only [maxLen] at hs
  refine M.loop_at (fun q w' => w' = w ∧ ∃ i : Nat, q = i ∧ i ≤ s.size ∧ ∀ j, j < i → mayAt s.data.toList j = true) (fun q _ => (s.size - q).toNat) ⟨rfl, 0, rfl, by omega, fun j hj => by omega⟩ ?_
  rintro _ w1 ⟨rfl, i, rfl, hi, hall⟩
  refine M.if_ (fun hlt => ?_) (fun hge => ?_)
  · have hlt : i < s.size := by omega
    refine M.idxS Try.underlying9 (by rw [hz]; exact hlt) ?_
    refine M.call_of r09_May ?_
    rintro _ w2 ⟨rfl, rfl⟩
    have hm : mayB (s.data.toList.getD i 0).toNat (decide ((i : Int) = 0)) = mayAt s.data.toList i := by
      unfold mayAt; congr 1; rw [Bool.eq_iff_iff]; simp
    rw [hm]
    cases hmi : mayAt s.data.toList i
    · refine M.ifb (fun _ => ⟨?_, rfl⟩) (fun h => by cases h)
      have : (List.range s.size).all (mayAt s.data.toList) = false := by
        rw [Bool.eq_false_iff]
        intro ht
        rw [List.all_eq_true] at ht
        have := ht i (by simpa using hlt)
        rw [hmi] at this; cases this
      rw [hn, this, Bool.and_false]
    · refine M.ifb (fun h => by cases h) (fun _ => ?_)
      have e : wI ((i : Int) + 1) = ((i + 1 : Nat) : Int) := by rw [wI_id] <;> omega
      refine ⟨⟨rfl, i + 1, e, by omega, fun j hj => ?_⟩, by rw [e]; omega⟩
      by_cases hji : j = i
      · subst hji; exact hmi
      · exact hall j (by omega)
  · have : (List.range s.size).all (mayAt s.data.toList) = true := by
      rw [List.all_eq_true]
      intro j hj
      exact hall j (by simp at hj; omega)
    rw [this, Bool.and_true] at hn
    refine M.if_ (fun h => ⟨?_, rfl⟩) (fun h => ⟨?_, rfl⟩)
    · have : decide (1 ≤ s.size) = true := by simp; omega
      rw [hn, this, Bool.true_and, Bool.eq_iff_iff]; simp only [decide_eq_true_eq]; omega
    · have : decide (1 ≤ s.size) = false := decide_eq_false (by omega)
      rw [hn, this]; rfl
theorem slices_Index {F : Nat → Prop} {w : World} {s : Sl} {l : List ByteArray} {x : ByteArray} (h : Rd 1 F w s (l.map Value.string)) (hb : l.length ≤ Big) :
    Calls Try.prog 79 [s.val, .string x].toArray w (Ret vI fun r w' => (0 ≤ r ↔ x ∈ l) ∧ (0 ≤ r → l[r.toNat]? = some x ∧ ∀ j, j < r.toNat → l[j]? ≠ some x) ∧ w' = w) := by
  apply L.slices_Index_Lstringstring
  unfold S.slices_Index_Lstringstring
  have hl : l.length = s.len := by simpa using h.len
  refine M.loop_at (fun q w' => w' = w ∧ ∃ i : Nat, q = i ∧ i ≤ l.length ∧ ∀ j, j < i → l[j]? ≠ some x) (fun q _ => (l.length - q).toNat) ⟨rfl, 0, rfl, by omega, fun j hj => by omega⟩ ?_
  rintro _ _ ⟨rfl, i, rfl, hi, hn⟩
  refine M.if_ (fun hlt => ?_) (fun hge => ?_)
  · have hlt : i < l.length := by omega
    refine M.rd h (by omega) (x := l[i]) (by simp [hlt]) ?_
    have he : (ByteArray.toList x == ByteArray.toList l[i]) = decide (x = l[i]) := by
      rw [ByteArray.toList_eq, ByteArray.toList_eq, Bool.eq_iff_iff]
      simp only [beq_iff_eq, decide_eq_true_eq]
      exact ⟨fun h => ByteArray.ext (Array.ext' h), fun h => by rw [h]⟩
    rw [he]
    refine M.if_ (fun he => ?_) (fun hne => ?_)
    · refine ⟨⟨fun _ => he ▸ List.getElem_mem hlt, fun _ => by omega⟩, fun _ => ⟨?_, fun j hj => hn j (by omega)⟩, rfl⟩
      rw [Int.toNat_natCast, List.getElem?_eq_getElem hlt, he]
    · rw [wI_succ (by omega)]
      refine ⟨⟨rfl, i + 1, rfl, by omega, fun j hj => ?_⟩, by omega⟩
      by_cases hji : j = i
      · subst hji
        rw [List.getElem?_eq_getElem hlt]
        exact fun e => hne (Option.some.inj e).symm
      · exact hn j (by omega)
  · refine ⟨⟨fun h => by omega, fun hm => ?_⟩, fun h => by omega, rfl⟩
    obtain ⟨j, hj, he⟩ := List.getElem_of_mem hm
    exact (hn j (by omega) (by rw [List.getElem?_eq_getElem hj, he])).elim
theorem slices_Contains {F : Nat → Prop} {w : World} {s : Sl} {l : List ByteArray} {x : ByteArray} (h : Rd 1 F w s (l.map Value.string)) (hb : l.length ≤ Big) :
    Calls Try.prog 52 [s.val, .string x].toArray w (Ret Value.bool fun r w' => (r = true ↔ x ∈ l) ∧ w' = w) := by
  apply L.slices_Contains_Lstringstring
  unfold S.slices_Contains_Lstringstring
  refine M.call_of (slices_Index h hb) ?_
  rintro r w2 ⟨h1, _, rfl⟩
  exact ⟨by rw [decide_eq_true_eq]; exact h1, rfl⟩
def namesB (l : List ByteArray) : Bool := decide (l.length ≤ 64) && (l.all nameB && decide l.Nodup)
theorem dfa_names {F : Nat → Prop} {w : World} {s : Sl} {l : List ByteArray} (h : Rd 1 F w s (l.map Value.string)) (hb : ∀ x ∈ l, x.size ≤ maxLen) :
    Calls Try.prog 25 [s.val].toArray w (Ret Value.bool fun r w' => r = namesB l ∧ w' = w) := by
  apply L.dfa_names
  unfold S.dfa_names
  have hl : l.length = s.len := by simpa using h.len
  refine M.if_ (fun h64 => ⟨?_, rfl⟩) (fun h64 => ?_)
  · rw [namesB, decide_eq_false (by omega), Bool.false_and]
  have hle : l.length ≤ 64 := by omega
  refine M.loop_at (fun q w' => w' = w ∧ ∃ i : Nat, q = i ∧ i ≤ l.length ∧ (∀ x ∈ l.take i, nameB x = true) ∧ (l.take i).Nodup) (fun q _ => (l.length - q).toNat) ⟨rfl, 0, rfl, by omega, by simp, by simp⟩ ?_
  rintro _ _ ⟨rfl, i, rfl, hi, hn, hd⟩
  refine M.if_ (fun hlt => ?_) (fun hge => ?_)
  · have hlt : i < l.length := by omega
    refine M.rd h (by omega) (x := l[i]) (by simp [hlt]) ?_
    refine M.join_in ?_
    refine M.call_of (spec_Name (hb _ (List.getElem_mem hlt))) ?_
    rintro _ w2 ⟨rfl, rfl⟩
    have hmem : l[i] ∈ l := List.getElem_mem hlt
    cases hx : nameB l[i]
    · refine M.ifb (fun _ => M.ifb (fun _ => ⟨?_, rfl⟩) (fun h => by cases h)) (fun h => by cases h)
      have : l.all nameB = false := by
        rw [Bool.eq_false_iff]
        intro ht
        rw [List.all_eq_true] at ht
        rw [ht _ hmem] at hx; cases hx
      rw [namesB, this, Bool.false_and, Bool.and_false]
    · refine M.ifb (fun h => by cases h) (fun _ => ?_)
      refine M.cut_rd (lo := 0) h (Nat.zero_le _) (by omega) (by have := h.cap; omega) (Nat.le_refl _) (fun t ht _ => ?_)
      have ht' : Rd 1 F w2 t ((l.take i).map Value.string) := by simpa [List.map_take] using ht
      refine M.call_of (slices_Contains ht' (by simp only [List.length_take, Big]; omega)) ?_
      rintro r w3 ⟨hr, rfl⟩
      have htake := List.take_succ_eq_append_getElem hlt
      refine M.ifb (fun h => ⟨?_, rfl⟩) (fun h => ?_)
      · have : ¬ l.Nodup := by
          intro hnd
          have h2 := hr.1 h
          have h3 : (l.take (i + 1)).Nodup := hnd.sublist (List.take_sublist _ _)
          rw [htake, List.nodup_append] at h3
          exact h3.2.2 _ h2 _ (List.mem_singleton.2 rfl) rfl
        rw [namesB, decide_eq_false this, Bool.and_false, Bool.and_false]
      · rw [wI_succ (by simp only [Big]; omega)]
        refine ⟨⟨rfl, i + 1, rfl, by omega, fun x hx' => ?_, ?_⟩, by omega⟩
        · rw [htake, List.mem_append, List.mem_singleton] at hx'
          rcases hx' with hx' | rfl
          · exact hn x hx'
          · exact hx
        · rw [htake, List.nodup_append]
          refine ⟨hd, by simp, fun a ha b hb' => ?_⟩
          rw [List.mem_singleton] at hb'
          subst hb'
          rintro rfl
          rw [hr.2 ha] at h; cases h
  · have e1 : l.take i = l := List.take_of_length_le (by omega)
    rw [e1] at hn hd
    refine ⟨?_, rfl⟩
    rw [namesB, decide_eq_true hle, List.all_eq_true.2 hn, decide_eq_true hd]; rfl
end C
end Go.Proofs.Ythepabefikobpaa
