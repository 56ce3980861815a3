/- Contracts: classes of bytes (parts, doubletref19). Conditions: as each states. -/
import Derived.Test.YthepabefikobpaaC3
import Derived.Test.YthepabefikobpaaBox
namespace Go.Sh
open Go
section
theorem wrap64 {x : Nat} (h : x < 2 ^ 64) : IntKind.u64.wrap (x : Int) = x := by
  simp [IntKind.wrap, IntKind.bits, IntKind.signed]
  omega
theorem wrap8 {x : Nat} (h : x < 256) : IntKind.u8.wrap (x : Int) = x := by
  simp [IntKind.wrap, IntKind.bits, IntKind.signed]
  omega
variable {P : Program} {T : TypeId} (w : World) {a b : Nat}
theorem run_shr64 (hb : b < 64) : (binOp .shr T (.int .u64 a) (.int .u64 b)).run P w = .ok (.int .u64 ((a >>> b : Nat) : Int)) w := by
  have h0 : ¬ ((b : Int) < 0) := by omega
  have h1 : min ((b : Int).toNat) IntKind.u64.bits = b := by simp [IntKind.bits]; omega
  simp only [binOp, Op.shift, if_neg h0, h1]
  rw [Sem.run_pure, Nat.shiftRight_eq_div_pow]
  have hp : (0 : Int) ≤ 2 ^ b := Int.le_of_lt (Int.pow_pos (by omega))
  rw [Int.fdiv_eq_ediv_of_nonneg _ hp]
  simp [Int.natCast_ediv]
theorem run_shl64 (hb : b < 64) : (binOp .shl T (.int .u64 1) (.int .u64 b)).run P w = .ok (.int .u64 ((1 <<< b : Nat) : Int)) w := by
  have h0 : ¬ ((b : Int) < 0) := by omega
  have h1 : min ((b : Int).toNat) IntKind.u64.bits = b := by simp [IntKind.bits]; omega
  simp only [binOp, Op.shift, if_neg h0, h1]
  rw [Sem.run_pure, Nat.shiftLeft_eq]
  have : 1 * 2 ^ b < 2 ^ 64 := by rw [Nat.one_mul]; exact Nat.pow_lt_pow_right (by omega) hb
  have := wrap64 this
  rw [← this]
  congr 2
theorem run_and64 (ha : a < 2 ^ 64) : (binOp .and T (.int .u64 a) (.int .u64 1)).run P w = .ok (.int .u64 ((a &&& 1 : Nat) : Int)) w := by
  have : (BitVec.ofInt 64 (a : Int) &&& BitVec.ofInt 64 1).toNat = a &&& 1 := by
    simp
  have h2 : (a &&& 1) < 2 ^ 64 := by have := Nat.and_le_right (n := a) (m := 1); omega
  rw [← wrap64 h2, ← this]
  rfl
theorem run_or64 (ha : a < 2 ^ 64) (hb : b < 2 ^ 64) : (binOp .or T (.int .u64 a) (.int .u64 b)).run P w = .ok (.int .u64 ((a ||| b : Nat) : Int)) w := by
  have : (BitVec.ofInt 64 (a : Int) ||| BitVec.ofInt 64 b).toNat = a ||| b := by
    simp
    rw [Nat.mod_eq_of_lt (by omega), Nat.mod_eq_of_lt (by omega)]
  rw [← wrap64 (Nat.or_lt_two_pow ha hb), ← this]
  rfl
end
/-- A set of bytes, by its words. -/
def A4n (v : Nat → Nat) : Nat → Int := fun i => (v i : Int)
def has4 (v : Nat → Nat) (b : Nat) : Bool := (v (b / 64)).testBit (b % 64)
theorem tdiv64 {b : Nat} : Int.tdiv (b : Int) 64 = ((b / 64 : Nat) : Int) := by
  rw [Int.tdiv_eq_ediv_of_nonneg (by omega)]; simp
theorem tmod64 {b : Nat} : Int.tmod (b : Int) 64 = ((b % 64 : Nat) : Int) := by
  rw [Int.tmod_eq_emod_of_nonneg (by omega)]; simp
end Go.Sh
namespace Go.Proofs.Ythepabefikobpaa
open Go Go.Sh Go.Sp
namespace C
theorem r02_Has {w : World} {v : Nat → Nat} {b : Nat} (hv : ∀ i, v i < 2 ^ 64) (hb : b < 256) :
    Calls Try.prog 98 [.agg (A4.cs (A4n v)).toArray, vI b].toArray w (Ret Value.bool fun r w' => r = has4 v b ∧ Grow w w') := by
  apply L.r02_Has
  unfold S.r02_Has
  refine M.new_of fun bx w1 _ hblk hg hs => ⟨by omega, ?_⟩
  rw [tdiv64, tmod64, wI_id (by omega) (by omega), wrap64 (by omega)]
  refine M.ixA_of (by omega) ?_
  rw [Nat.mul_one]
  refine M.ldB (x := A4n v (b / 64)) (b / 64) hblk (A4_get _ (by omega)) ⟨by omega, ⟨_, run_shr64 w1 (by omega), ⟨_, run_and64 w1 ?_, ?_, hg⟩⟩⟩
  · rw [Nat.shiftRight_eq_div_pow]
    exact Nat.lt_of_le_of_lt (Nat.div_le_self _ _) (hv _)
  · rw [has4, Nat.testBit_eq_decide_div_mod_eq, Nat.and_one_is_mod, Nat.shiftRight_eq_div_pow]
    rw [Bool.eq_iff_iff, decide_eq_true_eq, decide_eq_true_eq]
    generalize v (b / 64) / 2 ^ (b % 64) % 2 = x
    omega
theorem r02_With {w : World} {v : Nat → Nat} {b : Nat} (hv : ∀ i, v i < 2 ^ 64) (hb : b < 256) :
    Calls Try.prog 99 [.agg (A4.cs (A4n v)).toArray, vI b].toArray w (Ret (fun x : (Nat → Int) => .agg (A4.cs x).toArray) fun r w' => (∃ u : Nat → Nat, r = A4n u ∧ (∀ i, u i < 2 ^ 64) ∧ ∀ c, c < 256 → has4 u c = (has4 v c || c == b)) ∧ Grow w w') := by
  apply L.r02_With
  unfold S.r02_With
  refine M.new_of fun bx w1 _ hblk hg hs => M.new_of fun by' w2 hby hblk' hg' hs' => ⟨by omega, by omega, ?_⟩
  rw [tdiv64, tmod64, wI_id (by omega) (by omega), wrap64 (by omega)]
  refine M.ixA_of (by omega) ?_
  rw [Nat.mul_one]
  have hbl := hblk.chg hg' (fun x => x)
  have hsh : 1 <<< (b % 64) < 2 ^ 64 := by
    rw [Nat.shiftLeft_eq, Nat.one_mul]; exact Nat.pow_lt_pow_right (by omega) (by omega)
  refine M.ldB (x := A4n v (b / 64)) (b / 64) hbl (A4_get _ (by omega)) ⟨by omega, ⟨_, run_shl64 w2 (by omega), ⟨_, run_or64 w2 (hv _) hsh, ?_⟩⟩⟩
  refine M.ixA_of (by omega) ?_
  rw [Nat.mul_one]
  refine M.stB _ hbl (by rw [A4_len]; omega) fun w3 hb3 hc3 hs3 => ?_
  rw [A4_set] at hb3
  have hne : bx ≠ by' := by have := hblk.lt; omega
  refine M.ldA0 hb3 rfl (M.stA_of (hblk'.chg hc3 (fun e => hne e.symm)) (by simp [A4_len]) fun w4 hb4 hc4 hs4 => M.ldA0 hb4 rfl ?_)
  refine ⟨⟨ups v (b / 64) (v (b / 64) ||| 1 <<< (b % 64)), ?_, fun i => ?_, fun c hc => ?_⟩, ?_⟩
  · funext i
    simp only [ups, A4n]
    split <;> rfl
  · simp only [ups]
    split
    · exact Nat.or_lt_two_pow (hv _) hsh
    · exact hv i
  · simp only [has4, ups]
    by_cases h : c / 64 = b / 64
    · rw [if_pos h, Nat.testBit_or, h, Nat.one_shiftLeft, Nat.testBit_two_pow]
      congr 1
      rw [Bool.eq_iff_iff, decide_eq_true_eq, beq_iff_eq]
      omega
    · rw [if_neg h]
      have : (c == b) = false := by simp; omega
      rw [this, Bool.or_false]
  · exact Chg.fresh (Chg.fresh (hg.trans hg') hc3 (fun x hx => by subst hx; have := hblk.lt; omega)) hc4 (fun x hx => by subst hx; omega)
/-- The classes of all bytes, in a row. -/
def rowOf (f : Nat → Int) : List Int := (List.range 256).map f
def normF (f : Nat → Int) : Nat → Int := fun i => ((fo (rowOf f)).idxOf (f i) : Int)
def cntF (f : Nat → Int) : Nat := (fo (rowOf f)).length
theorem rowOf_take (f : Nat → Int) {i : Nat} (h : i < 256) : (rowOf f).take (i + 1) = (rowOf f).take i ++ [f i] := by
  rw [List.take_succ_eq_append_getElem (by simp [rowOf]; exact h)]
  simp [rowOf]
theorem idx_take (f : Nat → Int) (n i : Nat) (h : i < n) (hn : n ≤ 256) : (fo ((rowOf f).take n)).idxOf (f i) = (fo (rowOf f)).idxOf (f i) := by
  have hmem : ∀ m, i < m → m ≤ 256 → f i ∈ (rowOf f).take m := by
    intro m h1 h2
    rw [List.mem_take_iff_getElem]
    exact ⟨i, by simp [rowOf]; omega, by simp [rowOf]⟩
  have key : ∀ d, n + d ≤ 256 → (fo ((rowOf f).take (n + d))).idxOf (f i) = (fo ((rowOf f).take n)).idxOf (f i) := by
    intro d
    induction d with
    | zero => intro _; rfl
    | succ d ih =>
      intro hd
      rw [← Nat.add_assoc, rowOf_take f (by omega), idxOf_fo_snoc _ _ _ (hmem _ (by omega) (by omega)), ih (by omega)]
  have := key (256 - n) (by omega)
  rw [← this]
  rw [List.take_of_length_le (by simp [rowOf]; omega)]
theorem cntF_le (f : Nat → Int) : cntF f ≤ 256 := by
  have := fo_length_le (rowOf f)
  simpa [rowOf, cntF] using this
theorem fo_take_le (f : Nat → Int) (i : Nat) : (fo ((rowOf f).take i)).length ≤ i := by
  have := fo_length_le ((rowOf f).take i)
  rw [List.length_take] at this
  omega
theorem number_uint8 {w : World} {f : Nat → Int} {fv : Value} (hk : KeyFn Try.prog vU8 fv w (rowOf f)) :
    Calls Try.prog 76 [fv].toArray w (Ret (fun x : ((Nat → Int) × Int) => .tuple #[(.agg (Ar.cs x.1).toArray), (vI x.2)]) fun r w' => (∀ i, i < 256 → r.1 i = normF f i) ∧ r.2 = cntF f ∧ Grow w w') := by
  apply L.parts_number_uint8
  unfold S.parts_number_uint8
  refine M.new_of fun b1 w1 hb1 hblk1 hg1 hs1 => M.new_of fun b2 w2 hb2 hblk2 hg2 hs2 => ?_
  refine M.mkMap (ek := vU8) (ev := vU8) fun m w3 hm0 hm hg3 hs3 => ?_
  have hg0 := (hg1.trans hg2).trans hg3
  refine M.loop_at (fun q w' => Grow w w' ∧ ∃ (i : Nat) (g : Nat → Int), q = i ∧ i ≤ 256 ∧ Mp w' m vU8 vU8 (foA ((rowOf f).take i)) ∧ Blk w' b1 22 (Ar.cs fun _ => 0) ∧ Blk w' b2 22 (Ar.cs g) ∧ ∀ j, j < i → g j = normF f j) (fun q _ => (256 - q).toNat)
    ⟨hg0, 0, fun _ => 0, rfl, by omega, by simpa [foA, fo_nil] using hm, (hblk1.chg hg2 fun x => x).chg hg3 fun x => x, hblk2.chg hg3 fun x => x, fun j hj => by omega⟩ ?_
  have hl1 := hblk1.lt
  have hl2 := hblk2.lt
  rintro _ w4 ⟨hg4, i, g, rfl, hi, hm4, hB1, hB2, hgj⟩
  refine M.if_ (fun hlt => ?_) (fun hge => ?_)
  · have hlt : i < 256 := by omega
    have htake := rowOf_take f hlt
    have hgi : (rowOf f)[i]? = some (f i) := by simp [rowOf, hlt]
    refine M.callv_of (hk w4 i (f i) hg4 hgi) ?_
    rintro _ w5 ⟨rfl, hg5⟩
    have hm5 := hm4.chg hg5 (fun x => x)
    have hlen := fo_take_le f i
    have hmm : m ≠ b1 ∧ m ≠ b2 ∧ b1 ≠ b2 := by omega
    refine M.lookOk (z := 0) Try.underlying104 (KeyLaw.int Try.underlying5) hm5 Try.zeroValue5 (f i) ?_
    refine M.join_at (fun q w6 => q = normF f i ∧ Mp w6 m vU8 vU8 (foA ((rowOf f).take (i + 1))) ∧ Blk w6 b1 22 (Ar.cs fun _ => 0) ∧ Blk w6 b2 22 (Ar.cs g) ∧ Grow w w6) ?_ ?_
    · simp only [assoc_foA]
      have hnew := idx_take f (i + 1) i (by omega) (by omega)
      by_cases hmem : f i ∈ (rowOf f).take i
      · simp only [if_pos hmem, Option.isSome_some]
        refine M.ifb (fun h => by cases h) (fun _ => ?_)
        refine ⟨?_, ?_, hB1.chg hg5 (fun x => x), hB2.chg hg5 (fun x => x), hg4.trans hg5⟩
        · rw [htake, idxOf_fo_snoc _ _ _ hmem] at hnew
          simp only [Option.getD_some, normF, hnew]
        · rw [htake, foA, fo_snoc, if_pos ((mem_fo _ _).2 hmem)]
          exact hm5
      · simp only [if_neg hmem, Option.isSome_none]
        refine M.ifb (fun _ => ?_) (fun h => by cases h)
        refine ⟨_, Mp.len_run Try.underlying104 hm5, ?_⟩
        have hlf : (foA ((rowOf f).take i)).length = (fo ((rowOf f).take i)).length := by simp [foA]
        rw [hlf]
        dsimp only
        rw [wrap8 (by omega)]
        refine M.insert Try.underlying104 (KeyLaw.int Try.underlying5) hm5 (f i) _ (by rw [assoc_foA, if_neg hmem]) fun w6 hm6 hc6 hs6 => ?_
        refine ⟨?_, ?_, (hB1.chg hg5 (fun x => x)).chg hc6 (fun e => hmm.1 e.symm), (hB2.chg hg5 (fun x => x)).chg hc6 (fun e => hmm.2.1 e.symm), Chg.fresh (hg4.trans hg5) hc6 (fun b hb => by omega)⟩
        · have hnm : f i ∉ fo ((rowOf f).take i) := fun h => hmem ((mem_fo _ _).1 h)
          rw [htake, fo_snoc, if_neg hnm, List.idxOf_append, if_neg hnm, List.idxOf_cons_self] at hnew
          simp only [normF, ← hnew, Nat.zero_add]
        · rw [htake, foA, fo_snoc, if_neg (fun h => hmem ((mem_fo _ _).1 h)), List.zipIdx_append, List.map_append]
          simpa [foA] using hm6
    · rintro _ w6 ⟨rfl, hm6, hC1, hC2, hg6⟩
      refine M.ixA_of hlt ?_
      rw [Nat.mul_one]
      refine M.stB _ hC2 (by rw [Ar_len]; exact hlt) fun w7 hb7 hc7 hs7 => ?_
      rw [Ar_set] at hb7
      rw [wI_succ (by simp only [Big]; omega)]
      refine ⟨⟨Chg.fresh hg6 hc7 (fun b hb => by omega), i + 1, _, rfl, by omega, hm6.chg hc7 (fun e => hmm.2.1 e), hC1.chg hc7 (fun e => hmm.2.2 e), hb7, fun j hj => ?_⟩, by omega⟩
      simp only [ups]
      split
      · rename_i h; rw [h]
      · exact hgj j (by omega)
  · have : i = 256 := by omega
    subst this
    refine M.ldA0 hB2 rfl ⟨_, Mp.len_run Try.underlying104 hm4, M.stA_of hB1 (by simp [Ar_len]) fun w5 hb5 hc5 hs5 => M.ldA0 hb5 rfl ⟨fun j hj => hgj j hj, ?_, Chg.fresh hg4 hc5 (fun b hb => by omega)⟩⟩
    have : (rowOf f).take 256 = rowOf f := List.take_of_length_le (by simp [rowOf])
    rw [this]
    simp [foA, cntF]
theorem Norm_c1' {w : World} {b i : Nat} {f : Nat → Int} (hb : Blk w b 22 (Ar.cs f)) (hi : i < 256) :
    Calls Try.prog 77 [vI i, vA ⟨b, 0, none⟩].toArray w (Ret vU8 fun r w' => r = f i ∧ w' = w) := by
  apply L.parts_Norm_c1
  unfold S.parts_Norm_c1
  refine M.ixA_of hi ?_
  rw [Nat.mul_one]
  exact M.ldB i hb (Ar_get _ hi) ⟨rfl, rfl⟩
theorem parts_Norm {w : World} {f : Nat → Int} :
    Calls Try.prog 50 [.agg (Ar.cs f).toArray].toArray w (Ret (fun x : ((Nat → Int) × Int) => .tuple #[(.agg (Ar.cs x.1).toArray), (vI x.2)]) fun r w' => (∀ i, i < 256 → r.1 i = normF f i) ∧ r.2 = cntF f ∧ Grow w w') := by
  apply L.parts_Norm
  unfold S.parts_Norm
  refine M.new_of fun b1 w1 hb1 hblk1 hg1 hs1 => M.new_of fun b2 w2 hb2 hblk2 hg2 hs2 => ?_
  have hl1 := hblk1.lt
  refine M.call_of (number_uint8 (f := f) ?_) ?_
  · intro w3 i x hg3 hx
    have hi : i < 256 := by
      have := (List.getElem?_eq_some_iff.1 hx).1
      simpa [rowOf] using this
    have hx' : x = f i := by simpa [rowOf, hi] using hx.symm
    subst hx'
    refine inv_of (cs := [vA ⟨b1, 0, none⟩]) (args := [vI i]) Try.call77 (Norm_c1' ((hblk1.chg hg2 (fun x => x)).chg hg3 fun x => x) hi) ?_
    rintro r w4 ⟨rfl, rfl⟩
    exact ⟨_, rfl, rfl, Chg.refl _ _⟩
  · rintro r w3 ⟨h1, h2, hg3⟩
    refine M.stA_of (hblk2.chg hg3 fun x => x) (by simp [Ar_len]) fun w4 hb4 hc4 hs4 => M.ldA0 hb4 rfl ⟨h1, h2, Chg.fresh ((hg1.trans hg2).trans hg3) hc4 (fun b hb => by omega)⟩
/-- Classes that are normal, and so many. -/
def ofB (f : Nat → Int) (width : Int) : Bool := allEq (normF f) f 0 256 && decide (((cntF f : Nat) : Int) = width)
theorem allEq_congr {f f' g : Nat → Int} {n : Nat} (h : ∀ i, i < n → f i = f' i) : allEq f g 0 n = allEq f' g 0 n := by
  rw [Bool.eq_iff_iff, allEq_iff, allEq_iff]
  exact ⟨fun h2 i hi => (h i hi).symm.trans (h2 i hi), fun h2 i hi => (h i hi).trans (h2 i hi)⟩
theorem parts_Right {w : World} {f : Nat → Int} {width : Int} :
    Calls Try.prog 24 [.agg (Ar.cs f).toArray, vI width].toArray w (Ret Value.bool fun r w' => r = ofB f width ∧ Grow w w') := by
  apply L.parts_Right
  unfold S.parts_Right
  refine M.new_of fun b1 w1 hb1 hblk1 hg1 hs1 => M.ldA0 hblk1 rfl (M.call_of parts_Norm ?_)
  rintro r w2 ⟨h1, h2, hg2⟩
  refine M.new_of fun b4 w3 hb4 hblk4 hg3 hs3 => M.stA_of hblk4 (by simp [Ar_len]) fun w4 hb4' hc4 hs4 => M.ldA0 hb4' rfl (M.ldA0 (((hblk1.chg hg2 fun x => x).chg hg3 fun x => x).chg hc4 (fun e => ?_)) rfl ⟨_, Ar_eq _ _ _, ?_⟩)
  · have := hblk1.lt; have := hg2.size; omega
  have hG : Grow w w4 := Chg.fresh ((hg1.trans hg2).trans hg3) hc4 (fun b hb => by have := hg2.size; have := hg1.size; omega)
  rw [allEq_congr h1, h2]
  refine M.ifb (fun h => ⟨?_, hG⟩) (fun h => ⟨?_, hG⟩)
  · rw [ofB, h, Bool.true_and]
  · rw [ofB, h, Bool.false_and]
/-- The sets of classes. -/
def SetsOf (f : Nat → Int) (xs : List Int) (vs : List (Nat → Nat)) : Prop :=
  vs.length = xs.length ∧ ∀ (k : Nat) (v : Nat → Nat) (x : Int), vs[k]? = some v → xs[k]? = some x → (∀ j, v j < 2 ^ 64) ∧ ∀ c, c < 256 → has4 v c = decide (f c = x)
def A4v (v : Nat → Nat) : List Value := A4.cs (A4n v)
theorem A4v_len (v : Nat → Nat) : (A4v v).length = 4 := A4_len _
theorem SetsOf.snoc {f : Nat → Int} {xs : List Int} {vs : List (Nat → Nat)} (h : SetsOf f xs vs) {x : Int} {v : Nat → Nat} (hv : ∀ j, v j < 2 ^ 64) (hx : ∀ c, c < 256 → has4 v c = decide (f c = x)) : SetsOf f (xs ++ [x]) (vs ++ [v]) := by
  refine ⟨by simp [h.1], fun k u y hu hy => ?_⟩
  rw [List.getElem?_append] at hu hy
  split at hu
  · rw [if_pos (by have := h.1; omega)] at hy
    exact h.2 k u y hu hy
  · rw [if_neg (by have := h.1; omega)] at hy
    rw [h.1] at hu
    rw [List.getElem?_singleton] at hu hy
    split at hu
    · rename_i h0
      rw [if_pos h0] at hy
      cases hu; cases hy
      exact ⟨hv, hx⟩
    · cases hu
theorem mem_take_row {f : Nat → Int} {i c : Nat} (h : c < i) (hi : i ≤ 256) : f c ∈ (rowOf f).take i := by
  rw [List.mem_take_iff_getElem]
  exact ⟨c, by simp [rowOf]; omega, by simp [rowOf]⟩
theorem mem_row_take {f : Nat → Int} {i : Nat} {x : Int} (h : x ∈ (rowOf f).take i) : ∃ c, c < i ∧ c < 256 ∧ x = f c := by
  rw [List.mem_take_iff_getElem] at h
  obtain ⟨c, hc, he⟩ := h
  simp only [rowOf, List.length_map, List.length_range] at hc
  exact ⟨c, by omega, by omega, by rw [← he]; simp [rowOf]⟩
theorem r19_Sets {w : World} {f : Nat → Int} (hf : ∀ i, i < 256 → 0 ≤ f i ∧ f i < 256) :
    Calls Try.prog 93 [.agg (Ar.cs f).toArray].toArray w (Ret Sl.val fun r w' => (∃ vs, SetsOf f (fo (rowOf f)) vs ∧ Own w.heap.size w' r 120 4 (vs.map A4v).flatten) ∧ Grow w w') := by
  apply L.r19_Sets
  unfold S.r19_Sets
  refine M.new_of fun b1 w1 hb1 hblk1 hg1 hs1 => M.new_of fun b2 w2 hb2 hblk2 hg2 hs2 => M.new_of fun b3 w3 hb3 hblk3 hg3 hs3 => M.stA_of hblk3 (by simp [Ab_len]) fun w4 hb4 hc4 hs4 => ?_
  have hl1 := hblk1.lt
  have hl2 := hblk2.lt
  have hl3 := hblk3.lt
  have hG4 : Grow w w4 := Chg.fresh ((hg1.trans hg2).trans hg3) hc4 (fun b hb => by omega)
  refine M.loop_at (fun q w' => Grow w w' ∧ ∃ (i : Nat) (g : Nat → Bool) (vs : List (Nat → Nat)), q.2 = i ∧ i ≤ 256 ∧ Blk w' b1 22 (Ar.cs f) ∧ Blk w' b3 121 (Ab.cs g) ∧ (∀ x : Nat, x < 256 → g x = decide ((x : Int) ∈ (rowOf f).take i)) ∧
      SetsOf f (fo ((rowOf f).take i)) vs ∧ Own w.heap.size w' q.1 120 4 (vs.map A4v).flatten ∧ ¬ ownb q.1 b1 ∧ ¬ ownb q.1 b3) (fun q _ => (256 - q.2).toNat)
    ⟨hG4, 0, fun _ => false, [], rfl, by omega, ((hblk1.chg hg2 fun x => x).chg hg3 fun x => x).chg hc4 (fun e => by omega), hb4, fun x _ => by simp, ⟨by simp [fo_nil], fun k v x h => by simp at h⟩, ?_, ?_, ?_⟩ ?_
  · refine Own.mk (b := b2) (cs := []) rfl (by omega) ((hblk2.chg hg3 fun x => x).chg hc4 (fun e => by omega)) (Nat.le_refl _) (by simp [maxLen]) (by simp) (by simp)
  · rintro ⟨a, h, e⟩; cases h; simp at e; omega
  · rintro ⟨a, h, e⟩; cases h; simp at e; omega
  rintro ⟨out, q⟩ w5 ⟨hg5, i, g, vs, hq, hi, hB1, hB3, hgx, hvs, ho, hn1, hn3⟩
  simp only at hq ho hn1 hn3
  subst hq
  dsimp only
  refine M.if_ (fun hlt => ?_) (fun hge => ?_)
  · have hlt : i < 256 := by omega
    have htake := rowOf_take f hlt
    obtain ⟨hf0, hf1⟩ := hf i hlt
    obtain ⟨n, hn⟩ : ∃ n : Nat, f i = n := ⟨(f i).toNat, by omega⟩
    refine M.ixA_of hlt ?_
    rw [Nat.mul_one]
    refine M.ldB i hB1 (Ar_get f hlt) ?_
    rw [hn]
    refine M.ixA_of (by omega) ?_
    rw [Nat.mul_one]
    refine M.ldB n hB3 (Ab_get g (by omega)) ?_
    rw [hgx n (by omega), ← hn]
    refine M.if_ (fun hmem => ?_) (fun hmem => ?_)
    · rw [wI_succ (by simp only [Big]; omega)]
      refine ⟨⟨hg5, i + 1, g, vs, rfl, by omega, hB1, hB3, fun x hx => ?_, ?_, ho, hn1, hn3⟩, by omega⟩
      · rw [hgx x hx, htake, Bool.eq_iff_iff, decide_eq_true_eq, decide_eq_true_eq, List.mem_append, List.mem_singleton]
        exact ⟨.inl, fun h => h.elim id fun e => e ▸ hmem⟩
      · rw [htake, fo_snoc, if_pos ((mem_fo _ _).2 hmem)]; exact hvs
    · refine M.ixA_of hlt ?_
      rw [Nat.mul_one]
      refine M.ldB i hB1 (Ar_get f hlt) ?_
      rw [hn]
      refine M.ixA_of (by omega) ?_
      rw [Nat.mul_one]
      refine M.stB n hB3 (by rw [Ab_len]; omega) fun w6 hb6 hc6 hs6 => ?_
      rw [Ab_set] at hb6
      refine M.new_of fun b13 w7 hb13 hblk7 hg7 hs7 => M.stA_of hblk7 (by simp [A4_len]) fun w8 hb8 hc8 hs8 => ?_
      have hsz5 := hg5.size
      have hl13 := hblk7.lt
      have hb1lt := hB1.lt
      have hb3lt := hB3.lt
      have hC : Chg (fun x => x = b3) w5 w8 := (Chg.trans hc6 hg7 (fun _ _ x => x.elim)).trans hc8 (fun b hb e => by omega)
      have hG8 : Grow w w8 := Chg.fresh hg5 hC (fun b hb => by omega)
      have hlen := ho.len
      rw [flat_len A4v_len] at hlen
      have hvl := hvs.1
      have hfl := fo_take_le f i
      have howb : ∀ b, ownb out b → b < w5.heap.size := fun b hb => (ho.ge hb).2
      refine M.loop_at (fun q w' => Grow w w' ∧ w8.heap.size ≤ w'.heap.size ∧ ∃ (j : Nat) (v : Nat → Nat), q = j ∧ i ≤ j ∧ j ≤ 256 ∧ Blk w' b1 22 (Ar.cs f) ∧ Blk w' b3 121 (Ab.cs (ups g n true)) ∧ Blk w' b13 120 (A4.cs (A4n v)) ∧ (∀ x, v x < 2 ^ 64) ∧ (∀ c, c < 256 → has4 v c = decide (i ≤ c ∧ c < j ∧ f c = f i)) ∧
          Own w.heap.size w' out 120 4 (vs.map A4v).flatten) (fun q _ => (256 - q).toNat)
        ⟨hG8, Nat.le_refl _, i, fun _ => 0, rfl, Nat.le_refl _, hi, hB1.chg hC (fun e => by omega), (hb6.chg hg7 (fun x => x)).chg hc8 (fun e => by omega), hb8, fun x => by simp, fun c hc => ?_, ho.chg hC (fun b hb e => hn3 (e ▸ hb))⟩ ?_
      · rw [has4, Nat.zero_testBit, eq_comm, decide_eq_false_iff_not]; omega
      rintro _ w9 ⟨hg9, hs9, j, v, rfl, hij, hj, hC1, hC3, hC13, hv, hhas, ho9⟩
      refine M.if_ (fun hlt2 => ?_) (fun hge2 => ?_)
      · have hlt2 : j < 256 := by omega
        refine M.drew_of fun w10 _ hg10 => ?_
        refine M.ixA_of hlt2 ?_
        rw [Nat.mul_one]
        refine M.ldB j (hC1.chg hg10 fun x => x) (Ar_get f hlt2) (M.ixA_of hlt ?_)
        rw [Nat.mul_one]
        refine M.ldB i (hC1.chg hg10 fun x => x) (Ar_get f hlt) ?_
        have hsz10 := hg10.size
        refine M.if_ (fun he => ?_) (fun hne => ?_)
        · refine M.ldA0 (hC13.chg hg10 fun x => x) rfl (M.call_of (r02_With hv hlt2) ?_)
          rintro _ w11 ⟨⟨u, rfl, hu, hhu⟩, hg11⟩
          have hsz11 := hg11.size
          refine M.stA_of ((hC13.chg hg10 fun x => x).chg hg11 fun x => x) (by simp [A4_len]) fun w12 hb12 hc12 hs12 => ?_
          rw [wI_succ (by simp only [Big]; omega)]
          have hG : Chg (fun x => x = b13) w9 w12 := Chg.trans ((hg10.trans hg11).any) hc12 (fun _ _ x => x)
          refine ⟨⟨Chg.fresh hg9 hG (fun b hb => by omega), by omega, j + 1, u, rfl, by omega, by omega, hC1.chg hG (fun e => by omega), hC3.chg hG (fun e => by omega), hb12, hu, fun c hc => ?_, ho9.chg hG (fun b hb e => ?_)⟩, by omega⟩
          · rw [hhu c hc, hhas c hc, Bool.eq_iff_iff, Bool.or_eq_true, decide_eq_true_eq, decide_eq_true_eq, beq_iff_eq]
            constructor
            · rintro (h | rfl)
              · exact ⟨h.1, by omega, h.2.2⟩
              · exact ⟨hij, by omega, he⟩
            · rintro ⟨h1, h2, h3⟩
              by_cases h4 : c = j
              · exact .inr h4
              · exact .inl ⟨h1, by omega, h3⟩
          · have := howb b hb; omega
        · rw [wI_succ (by simp only [Big]; omega)]
          refine ⟨⟨hg9.trans hg10, by omega, j + 1, v, rfl, by omega, by omega, hC1.chg hg10 (fun x => x), hC3.chg hg10 (fun x => x), hC13.chg hg10 (fun x => x), hv, fun c hc => ?_, ho9.chg hg10 (fun b hb x => x)⟩, by omega⟩
          rw [hhas c hc, Bool.eq_iff_iff, decide_eq_true_eq, decide_eq_true_eq]
          constructor
          · rintro h
            exact ⟨h.1, by omega, h.2.2⟩
          · rintro ⟨h1, h2, h3⟩
            refine ⟨h1, ?_, h3⟩
            by_cases h4 : c = j
            · subst h4; exact (hne h3).elim
            · omega
      · have : j = 256 := by omega
        subst this
        refine M.ldA0 hC13 rfl ?_
        have hsz9 := hg9.size
        refine M.app Try.underlying110 (T := 120) (info := Try.t120) (z := .agg (A4.cs fun _ => 0).toArray) (m := 4) (bytes := 32) (by kernel_rfl) rfl rfl rfl (by simp [Value.cells, A4_len]) (by decide) ho9 (A4_len _) (A4_one _) hg9.size (by omega) (by omega) fun r w10 ho10 hl10 hc10 hb10 => ?_
        rw [wI_succ (by simp only [Big]; omega)]
        have hno1 : ¬ ownb out b1 := hn1
        refine ⟨⟨Chg.fresh hg9 hc10 (fun b hb => (ho9.ge hb).1), i + 1, ups g n true, vs ++ [v], rfl, by omega, hC1.chg hc10 hn1, hC3.chg hc10 hn3, fun x hx => ?_, ?_, ?_, fun h => ?_, fun h => ?_⟩, by omega⟩
        · rw [htake, Bool.eq_iff_iff, decide_eq_true_eq, List.mem_append, List.mem_singleton, ups]
          split
          · rename_i h; subst h
            exact ⟨fun _ => .inr hn.symm, fun _ => rfl⟩
          · rename_i h
            rw [hgx x hx, decide_eq_true_eq]
            exact ⟨.inl, fun h' => h'.elim id fun e => (h (by omega)).elim⟩
        · rw [htake, fo_snoc, if_neg (fun h => hmem ((mem_fo _ _).1 h))]
          refine hvs.snoc hv fun c hc => ?_
          rw [hhas c hc, Bool.eq_iff_iff, decide_eq_true_eq, decide_eq_true_eq]
          refine ⟨fun h => h.2.2, fun h => ⟨?_, hc, h⟩⟩
          by_cases hci : i ≤ c
          · exact hci
          · exact (hmem (h ▸ mem_take_row (by omega) (by omega))).elim
        · rw [List.map_append, List.flatten_append]; simpa [A4v] using ho10
        · rcases hb10 b1 h with h | h
          · exact hn1 h
          · omega
        · rcases hb10 b3 h with h | h
          · exact hn3 h
          · omega
  · have : i = 256 := by omega
    subst this
    have e : (rowOf f).take 256 = rowOf f := List.take_of_length_le (by simp [rowOf])
    rw [e] at hvs
    exact ⟨⟨vs, hvs, ho⟩, hg5⟩
theorem idxOf_iff {α : Type} [DecidableEq α] {l : List α} (hd : l.Nodup) {x : α} {i : Nat} (hi : i < l.length) : l[i] = x ↔ l.idxOf x = i := by
  constructor
  · rintro rfl
    exact hd.idxOf_getElem i hi
  · rintro rfl
    exact List.getElem_idxOf hi
theorem r19_numbers {F : Nat → Prop} {w : World} {f : Nat → Int} {s : Sl} {vs : List (Nat → Nat)} (h : Rd 4 F w s (vs.map A4v).flatten) (hv : SetsOf f (fo (rowOf f)) vs) :
    Calls Try.prog 92 [s.val].toArray w (Ret (fun x : ((Nat → Int) × Int) => .tuple #[(.agg (Ar.cs x.1).toArray), (vI x.2)]) fun r w' => (∀ i, i < 256 → r.1 i = normF f i) ∧ r.2 = cntF f ∧ Grow w w') := by
  apply L.r19_numbers
  unfold S.r19_numbers
  have hl := h.len
  rw [flat_len A4v_len] at hl
  have hvl := hv.1
  have hcnt := cntF_le f
  have hcl : vs.length = cntF f := hvl
  refine M.new_of fun b1 w1 hb1 hblk1 hg1 hs1 => M.new_of fun b2 w2 hb2 hblk2 hg2 hs2 => M.stA_of hblk2 (by simp [Ar_len]) fun w3 hb3 hc3 hs3 => ?_
  have hl1 := hblk1.lt
  have hl2 := hblk2.lt
  have hG3 : Grow w w3 := Chg.fresh (hg1.trans hg2) hc3 (fun b hb => by omega)
  refine M.loop_at (fun q w' => Grow w w' ∧ ∃ (i : Nat) (g : Nat → Int), q = i ∧ i ≤ vs.length ∧ Blk w' b1 22 (Ar.cs fun _ => 0) ∧ Blk w' b2 22 (Ar.cs g) ∧ ∀ c, c < 256 → g c = if (fo (rowOf f)).idxOf (f c) < i then normF f c else 0) (fun q _ => (vs.length - q).toNat)
    ⟨hG3, 0, fun _ => 0, rfl, by omega, (hblk1.chg hg2 fun x => x).chg hc3 (fun e => by omega), hb3, fun c hc => by rw [if_neg (by omega)]⟩ ?_
  rintro _ w4 ⟨hg4, i, g, rfl, hi, hB1, hB2, hgc⟩
  refine M.if_ (fun hlt => ?_) (fun hge => ?_)
  · have hlt : i < vs.length := by omega
    have hxi : i < (fo (rowOf f)).length := by omega
    have hvi : vs[i]? = some (vs[i]'hlt) := List.getElem?_eq_getElem hlt
    obtain ⟨xi, hxe⟩ : ∃ x, (fo (rowOf f))[i]? = some x := ⟨_, List.getElem?_eq_getElem hxi⟩
    obtain ⟨hv1, hv2⟩ := hv.2 i (vs[i]'hlt) xi hvi hxe
    have hidx : ∀ c, f c = xi ↔ (fo (rowOf f)).idxOf (f c) = i := fun c => by
      rw [← idxOf_iff (nodup_fo _) hxi, ← Option.some.injEq, ← hxe, List.getElem?_eq_getElem hxi, Option.some.injEq]; exact eq_comm
    refine M.loop_at (fun q w' => Grow w w' ∧ ∃ (j : Nat) (g : Nat → Int), q = j ∧ j ≤ 256 ∧ Blk w' b1 22 (Ar.cs fun _ => 0) ∧ Blk w' b2 22 (Ar.cs g) ∧ ∀ c, c < 256 → g c = if (fo (rowOf f)).idxOf (f c) < (if c < j then i + 1 else i) then normF f c else 0) (fun q _ => (256 - q).toNat)
      ⟨hg4, 0, g, rfl, by omega, hB1, hB2, fun c hc => by rw [if_neg (Nat.not_lt_zero c)]; exact hgc c hc⟩ ?_
    rintro _ w5 ⟨hg5, j, g5, rfl, hj, hC1, hC2, hg5c⟩
    refine M.if_ (fun hlt2 => ?_) (fun hge2 => ?_)
    · have hlt2 : j < 256 := by omega
      have hR : Rd 4 F w5 s ((vs.map A4n).map A4.cs).flatten := by rw [List.map_map]; exact h.chg hg5 fun _ _ x => x
      refine M.rdA (e := fun v8 => A4.cs v8) (L := vs.map A4n) (x := A4n (vs[i]'hlt)) A4_len hR (by omega) (by rw [List.getElem?_map, Int.toNat_natCast, hvi]; rfl) (by rw [List.length_map]; omega) ?_
      refine M.call_of (r02_Has hv1 hlt2) ?_
      rintro r w6 ⟨rfl, hg6⟩
      rw [hv2 j hlt2]
      have hsz := hg6.size
      refine M.if_ (fun he => ?_) (fun hne => ?_)
      · have he' := (hidx j).1 he
        refine M.ixA_of hlt2 ?_
        rw [Nat.mul_one]
        refine M.stB j (hC2.chg hg6 fun x => x) (by rw [Ar_len]; exact hlt2) fun w7 hb7 hc7 hs7 => ?_
        rw [wrap8 (by omega), Ar_set] at hb7
        rw [wI_succ (by simp only [Big]; omega)]
        refine ⟨⟨Chg.fresh (hg5.trans hg6) hc7 (fun b hb => by omega), j + 1, _, rfl, by omega, (hC1.chg hg6 fun x => x).chg hc7 (fun e => by omega), hb7, fun c hc => ?_⟩, by omega⟩
        simp only [ups]
        by_cases hcj : c = j
        · subst hcj
          rw [if_pos rfl, if_pos (Nat.lt_succ_self c), if_pos (by omega), normF, he']
        · rw [if_neg hcj, hg5c c hc]
          by_cases h3 : c < j
          · rw [if_pos h3, if_pos (by omega : c < j + 1)]
          · rw [if_neg h3, if_neg (by omega : ¬ c < j + 1)]
      · have hne' : (fo (rowOf f)).idxOf (f j) ≠ i := fun e => hne ((hidx j).2 e)
        rw [wI_succ (by simp only [Big]; omega)]
        refine ⟨⟨hg5.trans hg6, j + 1, g5, rfl, by omega, hC1.chg hg6 (fun x => x), hC2.chg hg6 (fun x => x), fun c hc => ?_⟩, by omega⟩
        rw [hg5c c hc]
        by_cases hcj : c = j
        · subst hcj
          rw [if_neg (Nat.lt_irrefl c), if_pos (Nat.lt_succ_self c)]
          by_cases h4 : (fo (rowOf f)).idxOf (f c) < i
          · rw [if_pos h4, if_pos (by omega)]
          · rw [if_neg h4, if_neg (by omega)]
        · by_cases h3 : c < j
          · rw [if_pos h3, if_pos (by omega : c < j + 1)]
          · rw [if_neg h3, if_neg (by omega : ¬ c < j + 1)]
    · have : j = 256 := by omega
      subst this
      rw [wI_succ (by simp only [Big]; omega)]
      refine ⟨⟨hg5, i + 1, g5, rfl, by omega, hC1, hC2, fun c hc => ?_⟩, by omega⟩
      rw [hg5c c hc, if_pos hc]
  · have hi' : i = vs.length := by omega
    subst hi'
    refine M.ldA0 hB2 rfl (M.stA_of hB1 (by simp [Ar_len]) fun w5 hb5 hc5 hs5 => M.ldA0 hb5 rfl ⟨fun c hc => ?_, by simp only; omega, Chg.fresh hg4 hc5 (fun b hb => by omega)⟩)
    simp only
    rw [hgc c hc, if_pos]
    rw [hvl]
    refine List.idxOf_lt_length_of_mem ((mem_fo _ _).2 ?_)
    simp only [rowOf, List.mem_map, List.mem_range]
    exact ⟨c, hc, rfl⟩
theorem r19_Norm {w : World} {f : Nat → Int} (hf : ∀ i, i < 256 → 0 ≤ f i ∧ f i < 256) :
    Calls Try.prog 82 [.agg (Ar.cs f).toArray].toArray w (Ret (fun x : ((Nat → Int) × Int) => .tuple #[(.agg (Ar.cs x.1).toArray), (vI x.2)]) fun r w' => (∀ i, i < 256 → r.1 i = normF f i) ∧ r.2 = cntF f ∧ Grow w w') := by
  apply L.r19_Norm
  unfold S.r19_Norm
  refine M.new_of fun b1 w1 hb1 hblk1 hg1 hs1 => M.new_of fun b2 w2 hb2 hblk2 hg2 hs2 => M.ldA0 (hblk1.chg hg2 fun x => x) rfl (M.call_of (r19_Sets hf) ?_)
  rintro r w3 ⟨⟨vs, hvs, ho⟩, hg3⟩
  refine M.call_of (r19_numbers (F := fun _ => True) (ho.rd fun _ _ => trivial) hvs) ?_
  rintro r w4 ⟨h1, h2, hg4⟩
  have hl1 := hblk1.lt
  refine M.stA_of ((hblk2.chg hg3 fun x => x).chg hg4 fun x => x) (by simp [Ar_len]) fun w5 hb5 hc5 hs5 => M.ldA0 hb5 rfl ⟨h1, h2, Chg.fresh (((hg1.trans hg2).trans hg3).trans hg4) hc5 (fun b hb => by omega)⟩
theorem r19_Right {w : World} {f : Nat → Int} {width : Int} (hf : ∀ i, i < 256 → 0 ≤ f i ∧ f i < 256) :
    Calls Try.prog 62 [.agg (Ar.cs f).toArray, vI width].toArray w (Ret Value.bool fun r w' => r = ofB f width ∧ Grow w w') := by
  apply L.r19_Right
  unfold S.r19_Right
  refine M.new_of fun b1 w1 hb1 hblk1 hg1 hs1 => M.ldA0 hblk1 rfl (M.call_of (r19_Norm hf) ?_)
  rintro r w2 ⟨h1, h2, hg2⟩
  refine M.new_of fun b4 w3 hb4 hblk4 hg3 hs3 => M.stA_of hblk4 (by simp [Ar_len]) fun w4 hb4' hc4 hs4 => M.ldA0 hb4' rfl (M.ldA0 (((hblk1.chg hg2 fun x => x).chg hg3 fun x => x).chg hc4 (fun e => ?_)) rfl ⟨_, Ar_eq _ _ _, ?_⟩)
  · have := hblk1.lt; have := hg2.size; omega
  have hG : Grow w w4 := Chg.fresh ((hg1.trans hg2).trans hg3) hc4 (fun b hb => by have := hg2.size; have := hg1.size; omega)
  rw [allEq_congr h1, h2]
  refine M.ifb (fun h => ⟨?_, hG⟩) (fun h => ⟨?_, hG⟩)
  · rw [ofB, h, Bool.true_and]
  · rw [ofB, h, Bool.false_and]
end C
end Go.Proofs.Ythepabefikobpaa
