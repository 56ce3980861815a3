/- Contracts of small functions on lists. Conditions: as each states. -/
import Derived.Test.YthepabefikobpaaData
import Derived.Test.YthepabefikobpaaLift0
import Derived.Test.YthepabefikobpaaLift1
import Derived.Test.YthepabefikobpaaLift2
import Derived.Test.YthepabefikobpaaLift3
namespace Go.Proofs.Ythepabefikobpaa
open Go Go.Sh
namespace C

theorem r17_Has {F : Nat → Prop} {w : World} {s : Sl} {l : List Int} {n : Int} (h : Rd 1 F w s (l.map vI)) (hb : l.length ≤ Big) :
    Calls Try.prog 85 [s.val, vI n].toArray w (Ret Value.bool fun r w' => r = l.contains n ∧ w' = w) := by
  apply L.r17_Has
  unfold S.r17_Has
  have hl : l.length = s.len := by simpa using h.len
  refine M.loop_at (fun q w' => w' = w ∧ ∃ i : Nat, q = i ∧ i ≤ l.length ∧ n ∉ l.take i) (fun q _ => (l.length - q).toNat) ⟨rfl, 0, rfl, by omega, by simp⟩ ?_
  rintro _ _ ⟨rfl, i, rfl, hi, hn⟩
  refine M.if_ (fun hlt => ?_) (fun hge => ?_)
  · have hlt : i < l.length := by omega
    refine M.rd h (by omega) (x := l[i]) (by simp [hlt]) ?_
    refine M.if_ (fun he => ?_) (fun hne => ?_)
    · exact ⟨by simp [← he], rfl⟩
    · rw [wI_succ (by omega)]
      refine ⟨⟨rfl, i + 1, rfl, by omega, ?_⟩, by omega⟩
      rw [List.take_succ_eq_append_getElem hlt, List.mem_append]
      rintro (hm | hm)
      · exact hn hm
      · exact hne (List.mem_singleton.1 hm).symm
  · have : i = l.length := by omega
    subst this
    refine ⟨?_, rfl⟩
    simpa using hn

theorem r17_Same {F : Nat → Prop} {w : World} {s t : Sl} {l m : List Int} (h : Rd 1 F w s (l.map vI)) (h' : Rd 1 F w t (m.map vI)) (hb : l.length ≤ Big) :
    Calls Try.prog 13 [s.val, t.val].toArray w (Ret Value.bool fun r w' => r = decide (l = m) ∧ Grow w w') := by
  apply L.r17_Same
  unfold S.r17_Same
  have hl : l.length = s.len := by simpa using h.len
  have hm : m.length = t.len := by simpa using h'.len
  refine M.ifn (fun he => ?_) (fun hne => ?_)
  · refine M.loop_at (fun q w' => Grow w w' ∧ ∃ i : Nat, q = i ∧ i ≤ l.length ∧ l.take i = m.take i) (fun q _ => (l.length - q).toNat) ⟨Chg.refl _ _, 0, rfl, by omega, by simp⟩ ?_
    rintro _ w1 ⟨hg, i, rfl, hi, hn⟩
    refine M.if_ (fun hlt => ?_) (fun hge => ?_)
    · have hlt : i < l.length := by omega
      have hlt' : i < m.length := by omega
      refine M.drew_of fun w2 _ hg2 => ?_
      have hg' := hg.trans hg2
      refine M.rd (h.chg hg' fun _ _ x => x) (by omega) (x := l[i]) (by simp [hlt]) ?_
      refine M.rd (h'.chg hg' fun _ _ x => x) (by omega) (x := m[i]) (by simp [hlt']) ?_
      refine M.ifn (fun he => ?_) (fun hne => ?_)
      · rw [wI_succ (by omega)]
        refine ⟨⟨hg', i + 1, rfl, by omega, ?_⟩, by omega⟩
        rw [List.take_succ_eq_append_getElem hlt, List.take_succ_eq_append_getElem hlt', hn, he]
      · refine ⟨?_, hg'⟩
        symm; rw [decide_eq_false_iff_not]
        rintro rfl
        exact hne rfl
    · refine ⟨?_, hg⟩
      have e1 : l.take i = l := List.take_of_length_le (by omega)
      have e2 : m.take i = m := List.take_of_length_le (by omega)
      symm; rw [decide_eq_true_iff, ← e1, ← e2, hn]
  · refine ⟨?_, Chg.refl _ _⟩
    symm; rw [decide_eq_false_iff_not]
    rintro rfl
    omega
end C
end Go.Proofs.Ythepabefikobpaa
