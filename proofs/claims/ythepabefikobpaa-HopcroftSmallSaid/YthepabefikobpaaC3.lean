/- Contracts: numbers in the order of first occurrence (quotient.number, Norm). Conditions: as each states. -/
import Derived.Test.YthepabefikobpaaC2
import Derived.Test.YthepabefikobpaaMaps
import Derived.Test.YthepabefikobpaaSpec1
namespace Go.Proofs.Ythepabefikobpaa
open Go Go.Sh Go.Sp
namespace C
/-- A key function: in whatever world that grew out of this one it hands back what stands in the list. -/
def KeyFn {α : Type} (P : Program) (e : α → Value) (fv : Value) (w : World) (l : List α) : Prop :=
  ∀ (w' : World) (i : Nat) (x : α), Grow w w' → l[i]? = some x → Inv P fv [vI i] w' fun v w'' => ∃ r, v = e r ∧ r = x ∧ Grow w' w''

/-- The numbers that have been given. -/
def foA {α : Type} [DecidableEq α] (l : List α) : List (α × Int) := (fo l).zipIdx.map fun p => (p.1, (p.2 : Int))
theorem assoc_foA {α : Type} [DecidableEq α] (l : List α) (x : α) : assoc (foA l) x = if x ∈ l then some ((fo l).idxOf x : Int) else none := by
  have h := assoc_like l x
  rw [assoc, foA, List.find?_map, Option.map_map]
  simp only [Function.comp_def]
  by_cases hx : x ∈ l
  · rw [if_pos ((mem_fo l x).2 hx)] at h
    rw [if_pos hx]
    rw [Option.map_eq_some_iff] at h ⊢
    obtain ⟨p, hp, he⟩ := h
    exact ⟨p, hp, by rw [he]⟩
  · rw [if_neg (fun h => hx ((mem_fo l x).1 h)), Option.map_eq_none_iff] at h
    rw [if_neg hx, h]; rfl
theorem number_int {w : World} {l : List Int} {fv : Value} (hk : KeyFn Try.prog vI fv w l) (hb : l.length ≤ 65536) :
    Calls Try.prog 59 [vI l.length, fv].toArray w (Ret Sl.val fun r w' => Own w.heap.size w' r 3 1 ((numI l).map vI) ∧ Grow w w') := by
  apply L.quotient_number_int
  unfold S.quotient_number_int
  refine M.mkMap (ek := vI) (ev := vI) fun m w1 hm0 hm hg hs => ?_
  refine M.loop_at (fun q w' => Grow w w' ∧ ∃ i : Nat, q.2 = i ∧ i ≤ l.length ∧ Mp w' m vI vI (foA (l.take i)) ∧ m < w'.heap.size ∧
      Own w.heap.size w' q.1 3 1 ((numI (l.take i)).map vI) ∧ ¬ ownb q.1 m) (fun q _ => (l.length - q.2).toNat)
    ⟨hg, 0, rfl, by omega, by simpa [foA, fo_nil] using hm, hm.lt, by simpa [numI_nil] using Own.nil _ _ _ _, by rintro ⟨a, h, _⟩; cases h⟩ ?_
  rintro ⟨out, q⟩ w2 ⟨hg2, i, hq, hi, hm2, hml, ho, hno⟩
  simp only at hq ho hno
  subst hq
  dsimp only
  refine M.if_ (fun hlt => ?_) (fun hge => ?_)
  · have hlt : i < l.length := by omega
    have htake := List.take_succ_eq_append_getElem hlt
    refine M.callv_of (hk w2 i l[i] hg2 (List.getElem?_eq_getElem hlt)) ?_
    rintro _ w3 ⟨rfl, hg3⟩
    have hm3 := hm2.chg hg3 (fun x => x)
    have ho3 := ho.chg hg3 (fun _ _ x => x)
    refine M.join_at (fun _ w4 => Mp w4 m vI vI (foA (l.take (i + 1))) ∧ Own w.heap.size w4 out 3 1 ((numI (l.take i)).map vI) ∧ Grow w w4 ∧ m < w4.heap.size) ?_ ?_
    · refine M.lookOk (z := 0) Try.underlying95 (KeyLaw.int Try.underlying3) hm3 Try.zeroValue3 l[i] ?_
      simp only [assoc_foA]
      by_cases hmem : l[i] ∈ l.take i
      · simp only [if_pos hmem, Option.isSome_some]
        refine M.ifb (fun h => by cases h) (fun _ => ?_)
        refine ⟨?_, ho3, hg2.trans hg3, by have := hg3.size; omega⟩
        rw [htake, foA, fo_snoc, if_pos ((mem_fo _ _).2 hmem)]
        exact hm3
      · simp only [if_neg hmem, Option.isSome_none]
        refine M.ifb (fun _ => ?_) (fun h => by cases h)
        refine ⟨_, Mp.len_run Try.underlying95 hm3, ?_⟩
        refine M.insert Try.underlying95 (KeyLaw.int Try.underlying3) hm3 l[i] _ (by rw [assoc_foA, if_neg hmem]) fun w4 hm4 hc4 hs4 => ?_
        refine ⟨?_, ho3.chg hc4 (fun b hb e => hno (e ▸ hb)), Chg.fresh (hg2.trans hg3) hc4 (fun b hb => by omega), by have := hg3.size; omega⟩
        rw [htake, foA, fo_snoc, if_neg (fun h => hmem ((mem_fo _ _).1 h)), List.zipIdx_append, List.map_append]
        simpa [foA] using hm4
    · rintro _ w4 ⟨hm4, ho4, hg4, hml4⟩
      refine M.look1 (z := 0) Try.underlying95 (KeyLaw.int Try.underlying3) hm4 Try.zeroValue3 l[i] ?_
      have hmem : l[i] ∈ l.take (i + 1) := by rw [htake]; exact List.mem_append_right _ (List.mem_singleton.2 rfl)
      rw [assoc_foA, if_pos hmem, Option.getD_some]
      have hlen := ho4.len
      simp only [List.length_map, numI_length, List.length_take] at hlen
      refine M.app Try.underlying24 (T := 3) (info := Try.t3) (z := vI 0) (m := 1) (bytes := 8) (by kernel_rfl) rfl rfl rfl rfl (by decide) ho4 rfl (by simp [one1]) hg4.size (by omega) (by omega) fun r w5 ho5 hl5 hc5 hb5 => ?_
      rw [wI_succ (by simp only [Big]; omega)]
      refine ⟨⟨Chg.fresh hg4 hc5 (fun b hb => (ho4.ge hb).1), i + 1, rfl, by omega, hm4.chg hc5 hno, by have := hc5.size; omega, ?_, fun h => ?_⟩, by omega⟩
      · rw [htake, numI_snoc, List.map_append, ← htake]; exact ho5
      · rcases hb5 m h with h | h
        · exact hno h
        · omega
  · have e1 : l.take i = l := List.take_of_length_le (by omega)
    rw [e1] at ho
    exact ⟨ho, hg2⟩
theorem inv_of {P : Program} {g : FuncId} {cs args : List Value} {w : World} {R : Value → World → Prop} (hc : ∀ xs w, (callFunc g xs).run P w = .ok (.enter g xs) w) {α : Type} {e : α → Value} {R' : α → World → Prop} (h : Calls P g (args ++ cs).toArray w (Ret e R')) (hR : ∀ r w', R' r w' → R (e r) w') :
    Inv P (.func (.func g) #[] cs.toArray) args w R :=
  .inl ⟨g, cs.toArray, rfl, hc, by simpa only [List.append_toArray] using Calls.mono h fun _ _ ⟨r, hr, h'⟩ => ⟨_, hr, hR _ _ h'⟩⟩
theorem Norm_c1 {F : Nat → Prop} {w : World} {b i : Nat} {s : Sl} {l : List Int} {x : Int} (hb : Blk w b 24 [s.val]) (h : Rd 1 F w s (l.map vI)) (hx : l[i]? = some x) :
    Calls Try.prog 60 [vI i, vA ⟨b, 0, none⟩].toArray w (Ret vI fun r w' => r = x ∧ w' = w) := by
  apply L.quotient_Norm_c1
  unfold S.quotient_Norm_c1
  exact M.ld0 hb rfl (M.rd h (by omega) (by simpa using hx) ⟨rfl, rfl⟩)
theorem quotient_Norm {F : Nat → Prop} {w : World} {s : Sl} {l : List Int} (h : Rd 1 F w s (l.map vI)) (hb : l.length ≤ 65536) :
    Calls Try.prog 31 [s.val].toArray w (Ret Sl.val fun r w' => Own w.heap.size w' r 3 1 ((numI l).map vI) ∧ Grow w w') := by
  apply L.quotient_Norm
  unfold S.quotient_Norm
  have hl : l.length = s.len := by simpa using h.len
  refine M.new_of fun b w1 hb1 hblk hg hs => M.ld0 hblk rfl ?_
  rw [← hl]
  refine M.call_of (number_int (l := l) (w := w1) ?_ hb) ?_
  · intro w2 i x hg2 hx
    refine inv_of (cs := [vA ⟨b, 0, none⟩]) (args := [vI i]) Try.call60 (Norm_c1 (hblk.chg hg2 (fun x => x)) ((h.chg hg (fun _ _ x => x)).chg hg2 fun _ _ x => x) hx) ?_
    rintro r w3 ⟨rfl, rfl⟩
    exact ⟨_, rfl, rfl, Chg.refl _ _⟩
  · rintro r w2 ⟨ho, hg2⟩
    exact ⟨ho.base hg.size, hg.trans hg2⟩
/-- The least state of each block, of normal blocks. -/
def hds (l : List Int) : List Int := l.zipIdx.foldl (fun out p => if p.1 = (out.length : Int) then out ++ [(p.2 : Int)] else out) []
theorem hds_snoc (l : List Int) (x : Int) : hds (l ++ [x]) = if x = ((hds l).length : Int) then hds l ++ [(l.length : Int)] else hds l := by
  unfold hds
  rw [List.zipIdx_append, List.foldl_append]
  simp
theorem hds_len (l : List Int) : (hds l).length ≤ l.length := by
  refine list_snoc_ind (p := fun l => (hds l).length ≤ l.length) (by simp [hds]) (fun l x ih => ?_) l
  rw [hds_snoc]; split <;> simp <;> omega
theorem quotient_heads {F : Nat → Prop} {w : World} {s : Sl} {l : List Int} (h : Rd 1 F w s (l.map vI)) (hb : l.length ≤ 65536) :
    Calls Try.prog 49 [s.val].toArray w (Ret Sl.val fun r w' => Own w.heap.size w' r 3 1 ((hds l).map vI) ∧ Grow w w') := by
  apply L.quotient_heads
  unfold S.quotient_heads
  have hl : l.length = s.len := by simpa using h.len
  refine M.loop_at (fun q w' => Grow w w' ∧ ∃ i : Nat, q.2 = i ∧ i ≤ l.length ∧ Own w.heap.size w' q.1 3 1 ((hds (l.take i)).map vI)) (fun q _ => (l.length - q.2).toNat)
    ⟨Chg.refl _ _, 0, rfl, by omega, Own.nil _ _ _ _⟩ ?_
  rintro ⟨out, q⟩ w2 ⟨hg2, i, hq, hi, ho⟩
  simp only at hq ho
  subst hq
  dsimp only
  have hlen := ho.len
  simp only [List.length_map] at hlen
  have hle := hds_len (l.take i)
  refine M.if_ (fun hlt => ?_) (fun hge => ?_)
  · have hlt : i < l.length := by omega
    have htake := List.take_succ_eq_append_getElem hlt
    simp only [List.length_take] at hle
    have hmin : (l.take i).length = i := by simp; omega
    refine M.rd (h.chg hg2 fun _ _ x => x) (by omega) (x := l[i]) (by simp [hlt]) ?_
    refine M.if_ (fun he => ?_) (fun hne => ?_)
    · refine M.app Try.underlying24 (T := 3) (info := Try.t3) (z := vI 0) (m := 1) (bytes := 8) (by kernel_rfl) rfl rfl rfl rfl (by decide) ho rfl (by simp [one1]) hg2.size (by omega) (by omega) fun r w5 ho5 hl5 hc5 hb5 => ?_
      rw [wI_succ (by simp only [Big]; omega)]
      refine ⟨⟨Chg.fresh hg2 hc5 (fun b hb => (ho.ge hb).1), i + 1, rfl, by omega, ?_⟩, by omega⟩
      rw [htake, hds_snoc, if_pos (by omega), hmin, List.map_append]
      exact ho5
    · rw [wI_succ (by simp only [Big]; omega)]
      refine ⟨⟨hg2, i + 1, rfl, by omega, ?_⟩, by omega⟩
      rw [htake, hds_snoc, if_neg (by omega)]
      exact ho
  · have e1 : l.take i = l := List.take_of_length_le (by omega)
    rw [e1] at ho
    exact ⟨ho, hg2⟩
theorem r23_first {F : Nat → Prop} {w : World} {s : Sl} {l : List Int} {n : Int} (h : Rd 1 F w s (l.map vI)) (hb : l.length ≤ Big) :
    Calls Try.prog 86 [s.val, vI n].toArray w (Ret vI fun r w' => r = (if n ∈ l then (l.idxOf n : Int) else -1) ∧ w' = w) := by
  apply L.r23_first
  unfold S.r23_first
  have hl : l.length = s.len := by simpa using h.len
  refine M.loop_at (fun q w' => w' = w ∧ ∃ i : Nat, q = i ∧ i ≤ l.length ∧ n ∉ l.take i) (fun q _ => (l.length - q).toNat) ⟨rfl, 0, rfl, by omega, by simp⟩ ?_
  rintro _ _ ⟨rfl, i, rfl, hi, hn⟩
  refine M.if_ (fun hlt => ?_) (fun hge => ?_)
  · have hlt : i < l.length := by omega
    refine M.rd h (by omega) (x := l[i]) (by simp [hlt]) ?_
    refine M.if_ (fun he => ?_) (fun hne => ?_)
    · refine ⟨?_, rfl⟩
      have hmem : n ∈ l := he ▸ List.getElem_mem hlt
      rw [if_pos hmem]
      have e : l = l.take i ++ l[i] :: l.drop (i + 1) := by rw [List.getElem_cons_drop, List.take_append_drop]
      have : l.idxOf n = i := by
        rw [e, List.idxOf_append, if_neg hn, ← he, List.idxOf_cons_self]
        simp; omega
      omega
    · rw [wI_succ (by omega)]
      refine ⟨⟨rfl, i + 1, rfl, by omega, ?_⟩, by omega⟩
      rw [List.take_succ_eq_append_getElem hlt, List.mem_append]
      rintro (hm | hm)
      · exact hn hm
      · exact hne (List.mem_singleton.1 hm).symm
  · have e1 : l.take i = l := List.take_of_length_le (by omega)
    rw [e1] at hn
    exact ⟨by rw [if_neg hn], rfl⟩
end C
end Go.Proofs.Ythepabefikobpaa
