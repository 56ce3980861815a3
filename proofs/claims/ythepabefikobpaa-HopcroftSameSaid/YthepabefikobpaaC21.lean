/- Contract: the machine that is known (doubletlaw25.knows). Conditions: as each states. -/
import Derived.Test.YthepabefikobpaaC20
namespace Go.Sh
open Go
theorem Blk.rdF {w : World} {b T n : Nat} {vs : List Value} (h : Blk w b T vs) (hn : vs.length = n) : Rd 1 (fun _ => True) w ⟨some ⟨b, 0, none⟩, n, n⟩ vs :=
  ⟨by simp [hn], Nat.le_refl _, fun _ => ⟨_, rfl, rfl, trivial, fun _ _ hv => h.cell hv⟩⟩
end Go.Sh
namespace Go.Proofs.Ythepabefikobpaa
open Go Go.Sh Go.Sp
namespace Mx
def alkB (m : Mc) : Nat → Nat → Nat → Bool
  | 0, s, t => decide (lab m s = lab m t)
  | j + 1, s, t => decide (lab m s = lab m t) && (List.range (k m)).all fun c => alkB m j (nx m s c) (nx m t c)
theorem alkB_iff {m : Mc} : ∀ j s t, alkB m j s t = true ↔ alk m j s t
  | 0, s, t => by simp [alkB, alk]
  | j + 1, s, t => by
    rw [alkB, alk, Bool.and_eq_true, decide_eq_true_eq, List.all_eq_true]
    refine and_congr Iff.rfl ⟨fun h c hc => (alkB_iff j _ _).1 (h c (List.mem_range.2 hc)), fun h c hc => (alkB_iff j _ _).2 (h c (List.mem_range.1 hc))⟩
/-- Numbers of the blocks, by looking. -/
theorem num_look {m : Mc} (ho : Ok m) (f : Nat → Nat) (h : ((List.range (n m)).all fun x => (List.range (n m)).all fun y => decide (f x = f y) == alkB m (n m) x y) = true) :
    C.IsNum (Alk m) (n m) (numI ((List.range (n m)).map f)) := by
  refine ⟨f, rfl, fun x y hx hy => ?_⟩
  rw [List.all_eq_true] at h
  have h1 := h x (List.mem_range.2 hx)
  rw [List.all_eq_true] at h1
  have h2 := h1 y (List.mem_range.2 hy)
  rw [beq_iff_eq] at h2
  have e : alk m (n m) x y ↔ Alk m x y := ⟨Alk_n ho (Nat.le_refl _) hx hy, fun hh => hh _⟩
  rw [← e, ← alkB_iff, ← h2, decide_eq_true_eq]
def m5 : Mc := ⟨fun _ => 0, 1, [[1], [2], [3], [3], [1]], [0, 0, 0, 1, 0], [⟨#[120]⟩]⟩
theorem m5_right : C.rightB m5 = true := by decide +kernel
theorem m5_ok : Ok m5 := ok_of m5_right
theorem m5_num {l : List Int} (h : C.IsNum (Alk m5) (n m5) l) : l = [0, 1, 2, 3, 0] := by
  have h2 := num_look m5_ok (fun x => if x = 4 then 0 else x) (by decide +kernel)
  rw [h.eq h2 fun _ _ _ _ => Iff.rfl]
  decide +kernel
theorem m5_small {q : Mc} (h : IsSm m5 q) : q.label.length = 4 := by
  obtain ⟨l, hl, rfl⟩ := h
  have h2 := num_look (trim_ok m5_ok) (fun x => x) (by decide +kernel)
  rw [hl.eq h2 fun _ _ _ _ => Iff.rfl]
  decide +kernel
end Mx
namespace C
theorem knows {w : World} : Calls Try.prog 10 [].toArray w (Ret Value.bool fun r w' => r = true ∧ Grow w w') := by
  apply L.law25_knows
  unfold S.law25_knows
  refine M.new_of fun b1 w1 _ hB1 hg1 _ => M.new_of fun b2 w2 _ hB2 hg2 _ => M.new_of fun b3 w3 _ hB3 hg3 _ => M.new_of fun b4 w4 _ hB4 hg4 _ => M.new_of fun b5 w5 _ hB5 hg5 _ => M.new_of fun b6 w6 _ hB6 hg6 _ => M.new_of fun b7 w7 _ hB7 hg7 _ => M.new_of fun b8 w8 _ hB8 hg8 _ => M.new_of fun b9 w9 hb9 hB9 hg9 _ => M.stA_of hB9 (by simp [Dfv_len]) fun w10 hB10 hc10 hs10 => ?_
  have hg810 : Grow w8 w10 := Chg.fresh hg9 hc10 fun b hb => by omega
  have hg68 := hg7.trans hg8
  have hg58 := hg6.trans hg68
  have hg48 := hg5.trans hg58
  have hg38 := hg4.trans hg48
  have hg28 := hg3.trans hg38
  have hg18 := hg2.trans hg28
  have hG10 := (hg1.trans hg18).trans hg810
  have hd : DfaAt w10 ⟨fun _ => 0, 1, ⟨some ⟨b6, 0, none⟩, 5, 5⟩, ⟨some ⟨b7, 0, none⟩, 5, 5⟩, ⟨some ⟨b8, 0, none⟩, 1, 1⟩⟩ Mx.m5 := by
    refine ⟨rfl, fun _ _ => by simp [Mx.m5], rfl, ⟨[⟨some ⟨b1, 0, none⟩, 1, 1⟩, ⟨some ⟨b2, 0, none⟩, 1, 1⟩, ⟨some ⟨b3, 0, none⟩, 1, 1⟩, ⟨some ⟨b4, 0, none⟩, 1, 1⟩, ⟨some ⟨b5, 0, none⟩, 1, 1⟩], ?_, rfl, ?_⟩, ?_, ?_, ?_⟩
    · exact (hB6.g (hg68.trans hg810)).rdF rfl
    · intro i t r hi hr
      match i with
      | 0 => cases hi; cases hr; exact (hB1.g (hg18.trans hg810)).rdF rfl
      | 1 => cases hi; cases hr; exact (hB2.g (hg28.trans hg810)).rdF rfl
      | 2 => cases hi; cases hr; exact (hB3.g (hg38.trans hg810)).rdF rfl
      | 3 => cases hi; cases hr; exact (hB4.g (hg48.trans hg810)).rdF rfl
      | 4 => cases hi; cases hr; exact (hB5.g (hg58.trans hg810)).rdF rfl
      | i + 5 => cases hi
    · exact (hB7.g (hg8.trans hg810)).rdF rfl
    · exact (hB8.g hg810).rdF rfl
    · intro x hx
      simp only [Mx.m5, List.mem_singleton] at hx
      subst hx
      decide
  refine M.ldA0 hB10 rfl (M.call_of (hopcroft_Small hd) ?_)
  rintro r11 w11 ⟨hr11, hg11⟩
  rcases hr11 with ⟨h0, _⟩ | ⟨_, he, q, hq, hD⟩
  · rw [Mx.m5_right] at h0; cases h0
  have hB10 := hB10.g hg11
  have hl10 := hB10.lt
  refine M.new_of fun b12 w12 hb12 hB12 hg12 _ => M.stA_of hB12 (by simp [Dfv_len]) fun w13 hB13 hc13 _ => ?_
  have hg1113 : Grow w11 w13 := Chg.fresh hg12 hc13 fun b hb => by omega
  have hg1013 := hg11.trans hg1113
  refine M.ldA0 (hB10.g hg1113) rfl (M.call_of (hopcroft_Blocks (hd.chg hg1013)) ?_)
  rintro r14 w14 ⟨hr14, hg14⟩
  rcases hr14 with ⟨h0, _⟩ | ⟨_, l, hl, ho⟩
  · rw [Mx.m5_right] at h0; cases h0
  have hl := Mx.m5_num hl
  subst hl
  refine M.new_of fun b15 w15 _ hB15 hg15 _ => M.call_of (r17_Same ((ho.g hg15).rd (S := fun _ => True) fun _ _ => trivial) (m := [0, 1, 2, 3, 0]) (hB15.rdF (n := 5) rfl) (by simp [Big])) ?_
  rintro r16 w16 ⟨rfl, hg16⟩
  have hg1316 := (hg14.trans hg15).trans hg16
  refine M.ifb (fun _ => ?_) (fun h => by simp at h)
  refine M.ldA0 ((hB10.g hg1113).g hg1316) rfl (M.call_of (hopcroft_Splits (hd.chg (hg1013.trans hg1316))) ?_)
  rintro r19 w17 ⟨hr19, hg17⟩
  rcases hr19 with ⟨h0, _⟩ | ⟨_, l, hl, rfl⟩
  · rw [Mx.m5_right] at h0; cases h0
  have hl := Mx.m5_num hl
  subst hl
  have e2 : (((fo ([0, 1, 2, 3, 0] : List Int)).length : Int) - ((fo Mx.m5.label).length : Int)) = 2 := by decide +kernel
  refine M.if_ (fun _ => M.if_ (fun _ => ?_) (fun h => absurd he h)) (fun h => absurd e2 h)
  refine M.ldB 258 (hB13.g (hg1316.trans hg17)) (Dfv_258 _) ⟨?_, (hG10.trans hg1013).trans (hg1316.trans hg17)⟩
  have h1 := Mx.m5_small hq
  have h2 := hD.label.len
  simp only [List.length_map] at h2
  have : r11.1.label.len = 4 := by omega
  simp [this]
end C
end Go.Proofs.Ythepabefikobpaa
