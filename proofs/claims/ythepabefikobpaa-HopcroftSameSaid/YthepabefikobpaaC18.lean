/- Contracts: a product of words, a list made of one number (slices.Repeat), the places of kept states. Conditions: as each states. -/
import Derived.Test.YthepabefikobpaaC17
import Derived.Laws.CopyRow
namespace Go.Sh
open Go
theorem add0 (b i : Nat) : (⟨b, 0, none⟩ : Addr).add i = ⟨b, i, none⟩ := by unfold Addr.add; split <;> simp_all
section
variable {γ : Type} {k : γ → World → Prop} {w : World}
/-- Cells are copied into a block. -/
theorem M.cpy {P : Program} {t t2 ty T T' b lo : Nat} {d s : Sl} {a : Addr} {cur cs : List Value} {f : Int → M γ} (ht : P.underlying t = some (.slice T)) (hs : (P.info? T).map (·.size) = some 1)
    (hb : Blk w b T' cur) (hd : d.addr = some ⟨b, lo, none⟩) (hsa : s.addr = some a) (hn : cs.length = Nat.min s.len d.len)
    (hsrc : ∀ j v, cs[j]? = some v → w.cell? (a.add j) = some v) (hfit : lo + cs.length ≤ cur.length) (h1 : ∀ v ∈ cs, one1 v = true)
    (hf : ∀ w', Blk w' b T' (cur.take lo ++ cs ++ cur.drop (lo + cs.length)) → Chg (fun x => x = b) w w' → w'.heap.size = w.heap.size → f cs.length w' k) :
    M.run P (Builtin.copy_ #[t, t2] ty #[d.val, s.val]) vI f w k := by
  have hr := run_copy_row (P := P) w t t2 ty T b lo d.len d.cap a s.len s.cap cur.toArray T' cs ht hs hb hn hsrc (by simpa using hfit) (fun u hu => by have := h1 u hu; cases u <;> simp_all [one1, Value.oneCell'])
  have e1 : d.val = .slice (some ⟨b, lo, none⟩) d.len d.cap := by rw [Sl.val, hd]
  have e2 : s.val = .slice (some a) s.len s.cap := by rw [Sl.val, hsa]
  refine ⟨(cs.length : Int), _, by rw [e1, e2]; exact hr, hf _ ?_ ?_ (by simp)⟩
  · have := setRow_heap w b _ (cur.take lo ++ cs ++ cur.drop (lo + cs.length)).toArray T' (0, 0) hb
    simpa [Blk] using this
  · refine ⟨⟨rfl, rfl, rfl⟩, by simp, fun c _ hn => ?_⟩
    simp only [World.setRow]
    rw [Array.getElem?_modify]
    simp [Ne.symm (show c ≠ b from hn)]
end
end Go.Sh
namespace Go.Proofs.Ythepabefikobpaa
open Go Go.Sh Go.Sp
namespace C
section
variable {P : Program} {T : TypeId} (w : World) {a b : Nat}
theorem run_andm (ha : a < 4294967296) : (binOp .and T (.int .u64 a) (.int .u64 4294967295)).run P w = .ok (.int .u64 (a : Int)) w := by
  have : (BitVec.ofInt 64 (a : Int) &&& BitVec.ofInt 64 4294967295).toNat = a := by
    have e : BitVec.ofInt 64 4294967295 = BitVec.ofNat 64 (2 ^ 32 - 1) := by decide
    rw [e, BitVec.toNat_and, BitVec.toNat_ofNat, Nat.mod_eq_of_lt (a := 2 ^ 32 - 1) (by decide), Nat.and_two_pow_sub_one_eq_mod]
    simp
    omega
  have h2 : a < 2 ^ 64 := by omega
  rw [← wrap64 h2]
  conv => rhs; rw [← this]
  rw [wrap64 h2]
  rfl
end
theorem mul_one {w : World} {n : Nat} (hn : n ≤ 65536) :
    Calls Try.prog 96 [.int .u64 1, .int .u64 n].toArray w (Ret (fun x : (Int × Int) => .tuple #[((Value.int .u64) x.1), ((Value.int .u64) x.2)]) fun r w' => r = (0, (n : Int)) ∧ w' = w) := by
  apply L.math_bits_Mul
  unfold S.math_bits_Mul
  have e0 : ((1 : Nat) : Int) = 1 := rfl
  have wz : IntKind.u64.wrap 0 = 0 := by decide
  have wn : IntKind.u64.wrap (n : Int) = n := wrap64 (by omega)
  have hs : n >>> 32 = 0 := by rw [Nat.shiftRight_eq_div_pow]; exact Nat.div_eq_of_lt (by omega)
  refine M.call_of (e := fun x : (Int × Int) => .tuple #[((Value.int .u64) x.1), ((Value.int .u64) x.2)]) (R := fun r w' => r = (0, (n : Int)) ∧ w' = w) ?_ ?_
  · apply L.math_bits_Mul64
    unfold S.math_bits_Mul64
    refine ⟨1, run_andm (a := 1) w (by omega), 0, run_shr64 (a := 1) (b := 32) w (by omega), (n : Int), run_andm w (by omega), 0, ?_, 0, ?_, 0, ?_, 0, ?_, 0, ?_, ?_, rfl⟩
    · have := run_shr64 (P := Try.prog) (T := 118) (a := n) (b := 32) w (by omega)
      rw [hs] at this
      exact this
    · have := run_shr64 (P := Try.prog) (T := 118) (a := n) (b := 32) w (by omega)
      rw [hs] at this
      rw [Int.one_mul, wn]
      exact this
    · rw [Int.zero_mul, wz]
      exact run_andm (a := 0) w (by omega)
    · rw [Int.zero_mul, wz]
      exact run_shr64 (a := 0) (b := 32) w (by omega)
    · simp only [Int.mul_zero, wz]
      exact run_shr64 (a := 0) (b := 32) w (by omega)
    · simp only [Int.mul_zero, wz, Int.one_mul, wn, Int.add_zero]
  · rintro _ _ ⟨rfl, rfl⟩
    exact ⟨rfl, rfl⟩
theorem Repeat_one {F : Nat → Prop} {w : World} {s : Sl} {x : Int} {n : Nat} (h : Rd 1 F w s ([x].map vI)) (h1 : 1 ≤ n) (hn : n ≤ 65536) :
    Calls Try.prog 88 [s.val, vI n].toArray w (Ret Sl.val fun r w' => Own w.heap.size w' r 3 1 ((List.replicate n x).map vI) ∧ Grow w w') := by
  apply L.slices_Repeat_Lintint
  unfold S.slices_Repeat_Lintint
  have hl : s.len = 1 := by simpa using h.len.symm
  obtain ⟨a, ha, _, _, hr⟩ := h.read (by omega)
  refine M.if_ (fun h0 => by omega) (fun _ => ?_)
  have wn : IntKind.u64.wrap (n : Int) = n := wrap64 (by omega)
  have w1 : IntKind.u64.wrap ((1 : Nat) : Int) = 1 := by decide
  rw [hl, wn, w1]
  refine M.call_of (mul_one hn) ?_
  rintro r0 w0 ⟨e1, e2⟩
  subst e1
  have e2 := e2.symm
  subst e2
  refine M.join_in (M.if_ (fun h0 => by omega) (fun _ => M.if_ (fun h0 => by omega) (fun _ => ?_)))
  dsimp only
  rw [wI_id (by omega) (by omega)]
  refine M.mkSl Try.underlying24 (T := 3) (info := Try.t3) (z := vI 0) (by kernel_rfl) rfl rfl rfl (by simp only [Try.t3]; omega) (by simp only [maxLen]; omega) fun s5 w2 hs5 hs5l hs5b hg2 => ?_
  rcases hs5.out.2 with rfl | ⟨b, cs, hb2, hb3, hb4, hb5, hb6, hb7, hb8⟩
  · simp [Sl.nil] at hs5l; omega
  have hcl : cs.length = s5.cap := by omega
  refine M.cpy (lo := 0) (cs := [vI x]) Try.underlying24 (T := 3) (by kernel_rfl) hb4 hb2 ha (by rw [hl, hs5l]; show 1 = min 1 n; omega) (fun j v hv => ?_) (by simp; omega) (by simp [one1]) fun w3 hB3 hc3 hz3 => ?_
  · have := hr j v hv
    exact hg2.cell (fun e => e) this
  have hx0 : ([x].map vI)[0]? = some (vI x) := rfl
  have hlen1 : (([vI x] : List Value).length : Int) = ((1 : Nat) : Int) := rfl
  rw [hlen1]
  refine M.loop_at (fun q w' => ∃ (j : Nat) (cur : List Value), q = j ∧ 1 ≤ j ∧ j ≤ n ∧ Blk w' b 3 cur ∧ cur.length = s5.cap ∧ cur.take j = List.replicate j (vI x) ∧ Grow w w') (fun q _ => (n - q).toNat)
    ⟨1, _, rfl, by omega, h1, hB3, by simp; omega, by simp, Chg.fresh hg2 hc3 fun b' hb' => by omega⟩ ?_
  rintro _ w4 ⟨j, cur, rfl, hj1, hj, hB4, hcul, hcut, hg4⟩
  refine M.if_ (fun hlt => ?_) (fun hge => ?_)
  · have hlt : j < n := by omega
    refine M.drew_of fun w5 _ hg5 => ⟨_, ⟨by omega, by omega, by omega, by omega⟩, rfl, _, ⟨by omega, by omega, by omega, by omega⟩, rfl, ?_⟩
    have hB5 := hB4.g hg5
    obtain ⟨c, hc⟩ : ∃ c, c = Nat.min j (n - j) := ⟨_, rfl⟩
    have hc1 : c ≤ j := by rw [hc]; exact Nat.min_le_left _ _
    have hc2 : c ≤ n - j := by rw [hc]; exact Nat.min_le_right _ _
    have hc3 : 1 ≤ c := by rw [hc]; exact Nat.le_min.2 ⟨hj1, by omega⟩
    have hrep : ∀ i, i < j → cur[i]? = some (vI x) := fun i hi => by
      have : (cur.take j)[i]? = some (vI x) := by rw [hcut]; simp [hi]
      rwa [List.getElem?_take, if_pos hi] at this
    refine M.cpy (lo := j) (b := b) (a := ⟨b, 0, none⟩) (cs := List.replicate c (vI x)) Try.underlying24 (T := 3) (by kernel_rfl) hB5 ?_ ?_ ?_ (fun i v hv => ?_) (by simp; omega) (by simp [one1]) fun w6 hB6 hc6 hz6 => ?_
    · simp only [Sl.cut, Int.toNat_natCast, hb2, Option.map_some, Nat.mul_one]
      rw [if_neg (by omega), add0]
    · simp only [Sl.cut, Int.toNat_natCast, hb2, Option.map_some, Nat.mul_one]
      rw [if_neg (by simp; omega)]
      simp [add0]
    · simp only [Sl.cut, Int.toNat_natCast, List.length_replicate, hs5l]
      simpa using hc
    · have hi : i < c := by
        by_cases hi : i < c
        · exact hi
        · rw [List.getElem?_eq_none (by simp; omega)] at hv; cases hv
      rw [List.getElem?_replicate, if_pos hi] at hv
      cases hv
      exact hB5.cell (hrep i (by omega))
    · rw [List.length_replicate, show ((j : Int) + (c : Int)) = ((j + c : Nat) : Int) by omega, wI_id (by omega) (by omega)]
      refine ⟨⟨j + c, _, rfl, by omega, by omega, hB6, by simp; omega, ?_, Chg.fresh (hg4.trans hg5) hc6 fun b' hb' => by omega⟩, by (try simp only); omega⟩
      rw [hcut, List.take_append_of_le_length (by simp), List.take_of_length_le (by simp), List.replicate_append_replicate]
  · have : j = n := by omega
    subst this
    refine ⟨Own.mk hb2 hb3 hB4 hb5 hb6 (by omega) ?_, hg4⟩
    rw [hs5l, Nat.mul_one, hcut]
    simp
/-- Where a kept state stands. -/
def pl (L : List Nat) (i x : Nat) : Int := if x ∈ L.take i then (L.idxOf x : Int) else -1
theorem pl_succ {L : List Nat} (hd : L.Nodup) {i z : Nat} (hz : L[i]? = some z) : ups (pl L i) z (i : Int) = pl L (i + 1) := by
  funext x
  obtain ⟨hi, hzi⟩ := List.getElem?_eq_some_iff.1 hz
  have hix : L.idxOf z = i := (idxOf_iff hd hi).1 hzi
  simp only [ups, pl, List.take_add_one, hz, Option.toList_some, List.mem_append, List.mem_singleton]
  by_cases h : x = z
  · subst h; simp [hix]
  · simp [h]
theorem dfa_places {F : Nat → Prop} {w : World} {m : Mc} {s : Sl} {Ks : List Nat} (ho : Mx.Ok m) (hk : Mx.Kp m Ks) (h : Rd 1 F w s ((Ks.map Int.ofNat).map vI)) :
    Calls Try.prog 75 [vI (Mx.n m), s.val].toArray w (Ret (fun x : (Sl × Bool) => .tuple #[(Sl.val x.1), (Value.bool x.2)]) fun r w' => r.2 = true ∧ Own w.heap.size w' r.1 3 1 (((List.range (Mx.n m)).map (pl Ks Ks.length)).map vI) ∧ Grow w w') := by
  apply L.dfa_places
  unfold S.dfa_places
  have hl : Ks.length = s.len := by simpa using h.len
  have hle := hk.le
  have hpos := hk.pos
  have h1 := ho.n1
  have h2 := ho.n2
  have h := h.any
  refine M.new_of fun b1 w1 hb1 hB1 hg1 hs1 => M.call_of (Repeat_one (F := fun _ => True) (x := -1) ⟨rfl, Nat.le_refl _, fun _ => ⟨_, rfl, rfl, trivial, fun i v hv => hB1.cell hv⟩⟩ h1 h2) ?_
  rintro r2 w2 ⟨hr2, hg2⟩
  have hG2 := hg1.trans hg2
  have e0 : List.replicate (Mx.n m) (-1 : Int) = (List.range (Mx.n m)).map (pl Ks 0) := by
    rw [rep_range]; exact List.map_congr_left fun x _ => by simp [pl]
  rw [e0] at hr2
  have hr2 := hr2.base (n' := w.heap.size) (by omega)
  refine M.loop_at (fun q w' => ∃ i : Nat, q = i ∧ i ≤ Ks.length ∧ Own w.heap.size w' r2 3 1 (((List.range (Mx.n m)).map (pl Ks i)).map vI) ∧ Grow w w') (fun q _ => (Ks.length - q).toNat)
    ⟨0, rfl, by omega, hr2, hG2⟩ ?_
  rintro _ w3 ⟨i, rfl, hi, hr, hg3⟩
  refine M.if_ (fun hlt => ?_) (fun hge => ?_)
  · have hlt : i < Ks.length := by omega
    obtain ⟨z, hz⟩ : ∃ z, Ks[i]? = some z := ⟨_, List.getElem?_eq_getElem hlt⟩
    have hzn := hk.lt z (List.mem_of_getElem? hz)
    have hnot : z ∉ Ks.take i := not_mem_take hk.nd hz
    refine M.rd (h.g hg3) (by omega) (x := (z : Int)) (by simp [hz]) (M.join_in (M.if_ (fun h0 => by omega) (fun _ => M.if_ (fun h0 => by omega) (fun _ => ?_))))
    refine M.rd (hr.rd (S := fun _ => True) fun _ _ => trivial) (by omega) (x := -1) (by simp [hzn, pl, hnot]) (M.if_ (fun h0 => by omega) (fun _ => ?_))
    refine M.wr (i := z) (x := (i : Int)) hr (by simp; omega) fun w4 hr4 hc4 _ => ?_
    rw [set_range_map, pl_succ hk.nd hz] at hr4
    rw [wI_succ (by simp only [Big]; omega)]
    exact ⟨⟨i + 1, rfl, hlt, hr4, Chg.fresh hg3 hc4 fun b hb => (hr.ge hb).1⟩, by (try simp only); omega⟩
  · have : i = Ks.length := by omega
    subst this
    refine M.drew_of fun w4 _ hg4 => M.if_ (fun _ => ?_) (fun h0 => by omega)
    refine M.rd ((h.g hg3).g hg4) (by omega) (x := 0) (by simp [hk.zero]) ⟨by simp, hr.g hg4, hg3.trans hg4⟩
end C
end Go.Proofs.Ythepabefikobpaa
