/- Contracts: slices.SortStableFunc of whole numbers, and what it calls. Conditions: as each states. -/
import Derived.Test.YthepabefikobpaaC8
import Derived.Test.YthepabefikobpaaSort1
namespace Go.Sh
open Go Go.Sp
/-- An own list of numbers, by a function. -/
def Arr (n : Nat) (w : World) (s : Sl) (N : Nat) (f : Nat → Int) : Prop := Own n w s 3 1 (((List.range N).map f).map vI)
section
variable {γ : Type} {k : γ → World → Prop} {w w' : World} {n N : Nat} {s : Sl} {f : Nat → Int}
theorem Arr.len (h : Arr n w s N f) : s.len = N := by have := Own.len h; simpa using this.symm
theorem Arr.chg {p : Nat → Prop} (h : Arr n w s N f) (hc : Chg p w w') (hp : ∀ b, ownb s b → ¬ p b) : Arr n w' s N f := Own.chg h hc hp
theorem Arr.g (h : Arr n w s N f) (hc : Grow w w') : Arr n w' s N f := Own.chg h hc fun _ _ x => x
theorem Arr.congr {f' : Nat → Int} (h : Arr n w s N f) (he : ∀ x, x < N → f x = f' x) : Arr n w s N f' := by
  unfold Arr at h ⊢
  rwa [← List.map_congr_left fun x hx => he x (List.mem_range.1 hx)]
theorem M.arR {g : Int → M γ} (h : Arr n w s N f) {i : Int} (j : Nat) (hi : i = j) (hj : j < N) (hf : g (f j) w k) : M.ix s i 1 (fun a => M.ld vI a g) w k := by
  subst hi
  exact M.rd (Own.rd h (S := fun _ => True) fun _ _ => trivial) (by omega) (x := f j) (by simp [hj]) hf
theorem M.arW {g : M γ} {x : Int} (h : Arr n w s N f) {i : Int} (j : Nat) (hi : i = j) (hj : j < N) (hf : ∀ w', Arr n w' s N (ups f j x) → Chg (ownb s) w w' → w'.heap.size = w.heap.size → g w' k) : M.ix s i 1 (fun a => M.st a (vI x) g) w k := by
  subst hi
  refine M.wr h (by simpa using hj) fun w' h1 h2 h3 => hf w' ?_ h2 h3
  rwa [set_range_map] at h1
end
/-- A function that compares, whatever has happened to a list. -/
def CmpFn (P : Program) (fv : Value) (s : Sl) (w : World) (κ : Int → Int) (D : Int → Prop) : Prop :=
  ∀ (w' : World) (x y : Int), Chg (ownb s) w w' → D x → D y → Inv P fv [vI x, vI y] w' fun v w'' => ∃ r : Int, v = vI r ∧ (r < 0 ↔ κ x < κ y) ∧ Grow w' w''
theorem CmpFn.chg {P : Program} {fv : Value} {s : Sl} {w w' : World} {κ : Int → Int} {D : Int → Prop} (h : CmpFn P fv s w κ D) (hc : Chg (ownb s) w w') : CmpFn P fv s w' κ D := fun w1 x y h1 => h w1 x y (hc.c h1)
end Go.Sh
namespace Go.Proofs.Ythepabefikobpaa
open Go Go.Sh Go.Sp
namespace C
theorem Srt.one (κ : Int → Int) (f : Nat → Int) (a : Nat) : Srt κ f a (a + 1) := fun x y h3 h4 h5 => by
  obtain rfl : x = y := by omega
  exact Int.le_refl _
/-- What each part of the sort hands back. -/
def Srtd (n : Nat) (s : Sl) (N : Nat) (κ : Int → Int) (f : Nat → Int) (a b : Nat) (w w' : World) : Prop := ∃ f', Arr n w' s N f' ∧ Sw a b f f' ∧ Srt κ f' a b ∧ Chg (ownb s) w w'
theorem wIn {x : Int} {j : Nat} (h : x = j) (hj : j ≤ Big) : wI x = j := by subst h; exact wI_id (by omega) (by simp only [Big] at hj; omega)
theorem slices_swapRange {n : Nat} {w : World} {s : Sl} {N : Nat} {f : Nat → Int} {a b c : Nat} {fv : Value} (h : Arr n w s N f) (h1 : a + c ≤ b) (h2 : b + c ≤ N) (hN : N ≤ 65536) :
    Calls Try.prog 104 [s.val, vI a, vI b, vI c, fv].toArray w (Ret vUnit fun _ w' => Arr n w' s N (swr f a b c) ∧ Chg (ownb s) w w') := by
  apply L.slices_swapRangeCmpFunc_int
  unfold S.slices_swapRangeCmpFunc_int
  refine M.loop_at (fun q w' => ∃ i : Nat, q = i ∧ i ≤ c ∧ Arr n w' s N (swr f a b i) ∧ Chg (ownb s) w w') (fun q _ => (c - q).toNat) ⟨0, rfl, by omega, by rw [swr_zero]; exact h, Chg.refl _ _⟩ ?_
  rintro _ w1 ⟨i, rfl, hi, ha, hc⟩
  refine M.if_ (fun hlt => ?_) (fun hge => ?_)
  · have e1 : wI ((b : Int) + i) = (b + i : Nat) := wIn (by omega) (by simp only [Big]; omega)
    have e2 : wI ((a : Int) + i) = (a + i : Nat) := wIn (by omega) (by simp only [Big]; omega)
    refine M.drew_of fun w2 _ hg2 => ?_
    have ha := ha.g hg2
    refine M.arR ha _ e1 (by omega) (M.arR ha _ e2 (by omega) (M.arW ha _ e2 (by omega) fun w3 ha3 hc3 _ => M.arW ha3 _ e1 (by omega) fun w4 ha4 hc4 _ => ?_))
    rw [wI_succ (by simp only [Big]; omega)]
    refine ⟨⟨i + 1, rfl, by omega, ?_, ((hc.g hg2).c hc3).c hc4⟩, by omega⟩
    rw [swr_succ f (by omega)]
    exact ha4
  · have : i = c := by omega
    subst this
    exact ⟨ha, hc⟩
theorem slices_rotate {n : Nat} {w : World} {s : Sl} {N : Nat} {f : Nat → Int} {a m b : Nat} {fv : Value} (h : Arr n w s N f) (h1 : a < m) (h2 : m < b) (h3 : b ≤ N) (hN : N ≤ 65536) :
    Calls Try.prog 97 [s.val, vI a, vI m, vI b, fv].toArray w (Ret vUnit fun _ w' => Arr n w' s N (rot f a m b) ∧ Chg (ownb s) w w' ∧ Sw a b f (rot f a m b)) := by
  apply L.slices_rotateCmpFunc_int
  unfold S.slices_rotateCmpFunc_int
  refine M.loop_at (fun q w' => ∃ (i j : Nat) (g : Nat → Int), q = ((i : Int), (j : Int)) ∧ 0 < i ∧ 0 < j ∧ i ≤ m - a ∧ j ≤ b - m ∧ Arr n w' s N g ∧ Chg (ownb s) w w' ∧ Sw a b f g ∧ rot g (m - i) m (m + j) = rot f a m b) (fun q _ => (q.1 + q.2).toNat)
    ⟨m - a, b - m, f, by rw [wIn (j := m - a) (by omega) (by simp only [Big]; omega), wIn (j := b - m) (by omega) (by simp only [Big]; omega)], by omega, by omega, by omega, by omega, h, Chg.refl _ _, .refl f, by rw [show m - (m - a) = a by omega, show m + (b - m) = b by omega]⟩ ?_
  rintro _ w1 ⟨i, j, g, rfl, hi, hj, him, hjm, ha, hc, hs, hr⟩
  dsimp only
  have e1 : wI ((m : Int) - i) = (m - i : Nat) := wIn (by omega) (by simp only [Big]; omega)
  refine M.ifn (fun he => ?_) (fun hne => ?_)
  · have : i = j := by omega
    subst this
    rw [e1]
    refine M.call_of (slices_swapRange ha (by omega) (by omega) hN) ?_
    rintro _ w2 ⟨ha2, hc2⟩
    have := rot_eq g (m := m) (i := i) (by omega)
    rw [hr] at this
    refine ⟨this ▸ ha2, hc.c hc2, ?_⟩
    rw [← this]
    exact hs.trans (Sw.swr g (by omega) i (by omega) (by omega))
  · refine M.if_ (fun hlt => ?_) (fun hge => ?_)
    · rw [e1]
      refine M.call_of (slices_swapRange ha (by omega) (by omega) hN) ?_
      rintro _ w2 ⟨ha2, hc2⟩
      rw [wIn (x := (i : Int) - j) (j := i - j) (by omega) (by simp only [Big]; omega)]
      refine ⟨⟨i - j, j, _, rfl, by omega, hj, by omega, hjm, ha2, hc.c hc2, hs.trans (Sw.swr g (by omega) j (by omega) (by omega)), ?_⟩, by (try simp only); omega⟩
      rw [show m - (i - j) = m - i + j by omega, rot_gt g (by omega) (by omega), hr]
    · rw [e1, wIn (x := (m : Int) + j) (j := m + j) (by omega) (by simp only [Big]; omega), wIn (x := ((m + j : Nat) : Int) - i) (j := m + j - i) (by omega) (by simp only [Big]; omega)]
      refine M.call_of (slices_swapRange ha (by omega) (by omega) hN) ?_
      rintro _ w2 ⟨ha2, hc2⟩
      rw [wIn (x := (j : Int) - i) (j := j - i) (by omega) (by simp only [Big]; omega)]
      refine ⟨⟨i, j - i, _, rfl, hi, by omega, him, by omega, ha2, hc.c hc2, hs.trans (Sw.swr g (by omega) i (by omega) (by omega)), ?_⟩, by (try simp only); omega⟩
      rw [show m + (j - i) = m + j - i by omega, rot_lt g (by omega) (by omega), hr]
theorem slices_insertionSort {n : Nat} {w : World} {s : Sl} {N : Nat} {f : Nat → Int} {a b : Nat} {fv : Value} {κ : Int → Int} {D : Int → Prop} (h : Arr n w s N f) (h1 : a ≤ b) (h2 : b ≤ N) (hN : N ≤ 65536) (hf : CmpFn Try.prog fv s w κ D) (hD : ∀ x, x < N → D (f x)) :
    Calls Try.prog 90 [s.val, vI a, vI b, fv].toArray w (Ret vUnit fun _ w' => Srtd n s N κ f a b w w') := by
  apply L.slices_insertionSortCmpFunc_int
  unfold S.slices_insertionSortCmpFunc_int
  refine M.loop_at (fun q w' => ∃ (i : Nat) (g : Nat → Int), q = (i : Int) ∧ a + 1 ≤ i ∧ (i ≤ b ∨ i = a + 1) ∧ Arr n w' s N g ∧ Chg (ownb s) w w' ∧ Sw a b f g ∧ Srt κ g a i) (fun q _ => (b - q).toNat)
    ⟨a + 1, f, wI_succ (by simp only [Big]; omega), Nat.le_refl _, .inr rfl, h, Chg.refl _ _, .refl f, Srt.one κ f a⟩ ?_
  rintro _ w1 ⟨i, g, rfl, hi, hib, ha, hc, hs, hsr⟩
  refine M.if_ (fun hlt => ?_) (fun hge => ?_)
  · have hlt : i < b := by omega
    refine M.loop_at (fun q w' => ∃ (j : Nat) (g : Nat → Int), q = (j : Int) ∧ a ≤ j ∧ j ≤ i ∧ Arr n w' s N g ∧ Chg (ownb s) w w' ∧ Sw a b f g ∧ InsI κ g a j i) (fun q _ => q.toNat)
      ⟨i, g, rfl, by omega, Nat.le_refl _, ha, hc, hs, .start hsr⟩ ?_
    clear ha hc hs hsr g w1
    rintro _ w1 ⟨j, g, rfl, hj, hji, ha, hc, hs, hI⟩
    have e1 : a < j → wI ((j : Int) - 1) = (j - 1 : Nat) := fun h => wIn (by omega) (by simp only [Big]; omega)
    refine M.join_at (fun q w' => Arr n w' s N g ∧ Chg (ownb s) w w' ∧ q = decide (a < j ∧ κ (g j) < κ (g (j - 1)))) ?_ ?_
    · refine M.drew_of fun w2 _ hg2 => ?_
      have ha := ha.g hg2
      have hc := hc.g hg2
      refine M.if_ (fun hl => ?_) (fun hl => ?_)
      · have hl : a < j := by omega
        refine M.arR ha _ rfl (by omega) (M.arR ha _ (e1 hl) (by omega) (M.callv_of (hf w2 _ _ hc (hs.allN h2 hD _ (by omega)) (hs.allN h2 hD _ (by omega))) ?_))
        rintro r w3 ⟨hlt', hg3⟩
        exact ⟨ha.g hg3, hc.g hg3, by simp [hlt', hl]⟩
      · exact ⟨ha, hc, by simp; omega⟩
    · rintro q w2 ⟨ha, hc, rfl⟩
      refine M.if_ (fun hl => ?_) (fun hl => ?_)
      · refine M.drew_of fun w3 _ hg3 => ?_
        have ha := ha.g hg3
        have hc := hc.g hg3
        refine M.arR ha _ (e1 hl.1) (by omega) (M.arR ha _ rfl (by omega) (M.arW ha _ rfl (by omega) fun w4 ha4 hc4 _ => M.arW ha4 _ (e1 hl.1) (by omega) fun w5 ha5 hc5 _ => ?_))
        rw [e1 hl.1]
        obtain ⟨j, rfl⟩ : ∃ j', j = j' + 1 := ⟨j - 1, by omega⟩
        refine ⟨⟨j, swp g (j + 1) j, rfl, by omega, by omega, ha5, (hc.c hc4).c hc5, .step _ _ hs (by omega) (by omega) (by omega) (by omega), hI.step (by omega) hji hl.2⟩, by (try simp only); omega⟩
      · rw [wI_succ (by simp only [Big]; omega)]
        refine ⟨⟨i + 1, g, rfl, by omega, .inl (by omega), ha, hc, hs, hI.done hj hji (by omega)⟩, by omega⟩
  · exact ⟨g, ha, hs, hsr.sub (Nat.le_refl _) (by omega), hc⟩
/-- The middle of two numbers, as the code finds it. -/
theorem run_half (x : Int) (a b : Nat) (h : x = (a + b : Nat)) (hb : a + b ≤ Big) (w : World) : (binOp .shr 114 (.int .u64 (IntKind.wrap .u64 (wI x))) (.int .u64 1)).run Try.prog w = .ok (.int .u64 (((a + b) / 2 : Nat) : Int)) w := by
  have e : IntKind.wrap .u64 (wI x) = ((a + b : Nat) : Int) := by
    rw [wIn h hb]
    have : IntKind.wrap .u64 ((a + b : Nat) : Int) = ((a + b : Nat) : Int) % 18446744073709551616 := by simp [IntKind.wrap, IntKind.bits, IntKind.signed]
    rw [this]; simp only [Big] at hb; omega
  rw [e]
  have := run_shr64 (P := Try.prog) (T := 114) (a := a + b) (b := 1) (w := w) (by decide)
  rw [Nat.shiftRight_eq_div_pow] at this
  exact this
theorem slices_symMerge {n : Nat} {s : Sl} {N : Nat} {fv : Value} {κ : Int → Int} {D : Int → Prop} (h3 : N ≤ 65536) : ∀ (z a m b : Nat) (w : World) (f : Nat → Int), b - a = z → Arr n w s N f → a < m → m < b → b ≤ N → CmpFn Try.prog fv s w κ D → (∀ x, x < N → D (f x)) → Srt κ f a m → Srt κ f m b →
    Calls Try.prog 91 [s.val, vI a, vI m, vI b, fv].toArray w (Ret vUnit fun _ w' => Srtd n s N κ f a b w w') := by
  intro z
  induction z using Nat.strongRecOn with
  | _ z ih =>
  intro a m b w f hz h ham hmb hb hf hD hs1 hs2
  apply L.slices_symMergeCmpFunc_int
  unfold S.slices_symMergeCmpFunc_int
  rw [wIn (x := (m : Int) - a) (j := m - a) (by omega) (by simp only [Big]; omega), wIn (x := (b : Int) - m) (j := b - m) (by omega) (by simp only [Big]; omega)]
  refine M.if_ (fun h1 => ?_) (fun h1 => M.if_ (fun h2 => ?_) (fun h2 => ?_))
  · -- one element ahead
    obtain rfl : m = a + 1 := by omega
    refine M.loop_at (fun q w' => ∃ i j : Nat, q = ((i : Int), (j : Int)) ∧ a + 1 ≤ i ∧ i ≤ j ∧ j ≤ b ∧ Arr n w' s N f ∧ Chg (ownb s) w w' ∧ (i = a + 1 ∨ κ (f (i - 1)) ≤ κ (f a)) ∧ (j = b ∨ κ (f a) ≤ κ (f j))) (fun q _ => (q.2 - q.1).toNat)
      ⟨a + 1, b, rfl, Nat.le_refl _, by omega, Nat.le_refl _, h, Chg.refl _ _, .inl rfl, .inl rfl⟩ ?_
    rintro _ w1 ⟨i, j, rfl, hi, hij, hj, ha, hc, hlo, hhi⟩
    dsimp only
    refine M.if_ (fun hl => ?_) (fun hl => ?_)
    · refine ⟨_, run_half _ i j (by omega) (by simp only [Big]; omega) _, M.drew_of fun w2 _ hg2 => ?_⟩
      have ha := ha.g hg2
      have hc := hc.g hg2
      have eh : wI (((i + j) / 2 : Nat) : Int) = ((i + j) / 2 : Nat) := wIn rfl (by simp only [Big]; omega)
      refine M.arR ha _ eh (by omega) (M.arR ha _ rfl (by omega) (M.callv_of (hf w2 _ _ hc (hD _ (by omega)) (hD _ (by omega))) ?_))
      rintro r w3 ⟨hlt', hg3⟩
      refine M.if_ (fun hr => ?_) (fun hr => ?_)
      · rw [eh, wI_succ (by simp only [Big]; omega)]
        refine ⟨⟨(i + j) / 2 + 1, j, rfl, by omega, by omega, hj, ha.g hg3, hc.g hg3, .inr ?_, hhi⟩, by (try simp only); omega⟩
        rw [Nat.add_sub_cancel]; have := hlt'.1 hr; omega
      · rw [eh]
        refine ⟨⟨i, (i + j) / 2, rfl, hi, by omega, by omega, ha.g hg3, hc.g hg3, hlo, .inr ?_⟩, by (try simp only); omega⟩
        have := mt hlt'.2 hr; omega
    · obtain rfl : i = j := by omega
      have e0 : wI ((i : Int) - 1) = (i - 1 : Nat) := wIn (by omega) (by simp only [Big]; omega)
      refine M.loop_at (fun q w' => ∃ k : Nat, q = (k : Int) ∧ a ≤ k ∧ k + 1 ≤ i ∧ Arr n w' s N (rot f a (a + 1) (k + 1)) ∧ Chg (ownb s) w w' ∧ Sw a b f (rot f a (a + 1) (k + 1))) (fun q _ => (i - q).toNat)
        ⟨a, rfl, Nat.le_refl _, hi, by rw [rot_id2 f _ _ (by omega)]; exact ha, hc, by rw [rot_id2 f _ _ (by omega)]; exact .refl f⟩ ?_
      clear ha hc
      rintro _ w2 ⟨k, rfl, hk, hki, ha, hc, hsw⟩
      rw [e0]
      refine M.if_ (fun hl => ?_) (fun hl => ?_)
      · have e1 : wI ((k : Int) + 1) = (k + 1 : Nat) := wI_succ (by simp only [Big]; omega)
        refine M.drew_of fun w3 _ hg3 => ?_
        have ha := ha.g hg3
        have hc := hc.g hg3
        refine M.arR ha _ e1 (by omega) (M.arR ha _ rfl (by omega) (M.arW ha _ rfl (by omega) fun w4 ha4 hc4 _ => M.arW ha4 _ e1 (by omega) fun w5 ha5 hc5 _ => ?_))
        rw [e1]
        have hru := rot_up f (a := a) (k := k) hk
        refine ⟨⟨k + 1, rfl, by omega, by omega, hru ▸ ha5, (hc.c hc4).c hc5, hru ▸ .step _ _ hsw (by omega) (by omega) (by omega) (by omega)⟩, by omega⟩
      · obtain rfl : i = k + 1 := by omega
        exact ⟨_, ha, hsw, ins_left hs2 hi hj hlo hhi, hc⟩
  · -- one element behind
    obtain rfl : b = m + 1 := by omega
    refine M.loop_at (fun q w' => ∃ i j : Nat, q = ((i : Int), (j : Int)) ∧ a ≤ i ∧ i ≤ j ∧ j ≤ m ∧ Arr n w' s N f ∧ Chg (ownb s) w w' ∧ (i = a ∨ κ (f (i - 1)) ≤ κ (f m)) ∧ (j = m ∨ κ (f m) ≤ κ (f j))) (fun q _ => (q.2 - q.1).toNat)
      ⟨a, m, rfl, Nat.le_refl _, by omega, Nat.le_refl _, h, Chg.refl _ _, .inl rfl, .inl rfl⟩ ?_
    rintro _ w1 ⟨i, j, rfl, hi, hij, hj, ha, hc, hlo, hhi⟩
    dsimp only
    refine M.if_ (fun hl => ?_) (fun hl => ?_)
    · refine ⟨_, run_half _ i j (by omega) (by simp only [Big]; omega) _, M.drew_of fun w2 _ hg2 => ?_⟩
      have ha := ha.g hg2
      have hc := hc.g hg2
      have eh : wI (((i + j) / 2 : Nat) : Int) = ((i + j) / 2 : Nat) := wIn rfl (by simp only [Big]; omega)
      refine M.arR ha _ rfl (by omega) (M.arR ha _ eh (by omega) (M.callv_of (hf w2 _ _ hc (hD _ (by omega)) (hD _ (by omega))) ?_))
      rintro r w3 ⟨hlt', hg3⟩
      refine M.ifn (fun hr => ?_) (fun hr => ?_)
      · rw [eh]
        refine ⟨⟨i, (i + j) / 2, rfl, hi, by omega, by omega, ha.g hg3, hc.g hg3, hlo, .inr ?_⟩, by (try simp only); omega⟩
        have := hlt'.1 hr; omega
      · rw [eh, wI_succ (by simp only [Big]; omega)]
        refine ⟨⟨(i + j) / 2 + 1, j, rfl, by omega, by omega, hj, ha.g hg3, hc.g hg3, .inr ?_, hhi⟩, by (try simp only); omega⟩
        rw [Nat.add_sub_cancel]; have := mt hlt'.2 hr; omega
    · obtain rfl : i = j := by omega
      refine M.loop_at (fun q w' => ∃ k : Nat, q = (k : Int) ∧ i ≤ k ∧ k ≤ m ∧ Arr n w' s N (rot f k m (m + 1)) ∧ Chg (ownb s) w w' ∧ Sw a (m + 1) f (rot f k m (m + 1))) (fun q _ => q.toNat)
        ⟨m, rfl, hj, Nat.le_refl _, by rw [rot_id]; exact ha, hc, by rw [rot_id]; exact .refl f⟩ ?_
      clear ha hc
      rintro _ w2 ⟨k, rfl, hk, hki, ha, hc, hsw⟩
      refine M.if_ (fun hl => ?_) (fun hl => ?_)
      · obtain ⟨k, rfl⟩ : ∃ k', k = k' + 1 := ⟨k - 1, by omega⟩
        have e1 : wI (((k + 1 : Nat) : Int) - 1) = (k : Nat) := wIn (by omega) (by simp only [Big]; omega)
        refine M.drew_of fun w3 _ hg3 => ?_
        have ha := ha.g hg3
        have hc := hc.g hg3
        refine M.arR ha _ e1 (by omega) (M.arR ha _ rfl (by omega) (M.arW ha _ rfl (by omega) fun w4 ha4 hc4 _ => M.arW ha4 _ e1 (by omega) fun w5 ha5 hc5 _ => ?_))
        rw [e1]
        have hru := rot_dn f (k := k) (m := m) hki
        refine ⟨⟨k, rfl, by omega, by omega, hru ▸ ha5, (hc.c hc4).c hc5, hru ▸ .step _ _ hsw (by omega) (by omega) (by omega) (by omega)⟩, by omega⟩
      · obtain rfl : i = k := by omega
        exact ⟨_, ha, hsw, ins_right hs1 hi hj hlo hhi, hc⟩
  · -- both of two elements or more
    refine ⟨_, run_half _ a b (by omega) (by simp only [Big]; omega) _, ?_⟩
    have em : wI (((a + b) / 2 : Nat) : Int) = ((a + b) / 2 : Nat) := wIn rfl (by simp only [Big]; omega)
    simp only [em]
    generalize hmid : (a + b) / 2 = mid
    have en : wI ((mid : Int) + m) = (mid + m : Nat) := wIn (by omega) (by simp only [Big]; omega)
    rw [en]
    refine M.join_at (fun q w' => w' = w ∧ ∃ st0 r0 : Nat, q = ((st0 : Int), (r0 : Int)) ∧ a ≤ st0 ∧ st0 ≤ r0 ∧ (r0 = mid ∨ r0 = m) ∧ r0 ≤ mid ∧ r0 ≤ m ∧ (st0 = a ∨ mid + m - st0 = b) ∧ m ≤ mid + m - r0 ∧ mid + m - st0 ≤ b) ?_ ?_
    · refine M.if_ (fun hl => ⟨rfl, mid + m - b, mid, ?_⟩) (fun hl => ⟨rfl, a, m, rfl, by omega, by omega, .inr rfl, by omega, Nat.le_refl _, .inl rfl, by omega, by omega⟩)
      rw [wIn (x := ((mid + m : Nat) : Int) - b) (j := mid + m - b) (by omega) (by simp only [Big]; omega)]
      exact ⟨rfl, by omega, by omega, .inl rfl, Nat.le_refl _, by omega, .inr (by omega), by omega, by omega⟩
    rintro _ w ⟨rfl, st0, r0, rfl, q1, q2, q3, q4, q5, q6, q7, q8⟩
    dsimp only
    have ep : wI (((mid + m : Nat) : Int) - 1) = (mid + m - 1 : Nat) := wIn (by omega) (by simp only [Big]; omega)
    rw [ep]
    refine M.loop_at (fun q w' => ∃ i j : Nat, q = ((i : Int), (j : Int)) ∧ st0 ≤ i ∧ i ≤ j ∧ j ≤ r0 ∧ Arr n w' s N f ∧ Chg (ownb s) w w' ∧ (i = st0 ∨ κ (f (i - 1)) ≤ κ (f (mid + m - i))) ∧ (j = r0 ∨ κ (f (mid + m - j - 1)) ≤ κ (f j))) (fun q _ => (q.2 - q.1).toNat)
      ⟨st0, r0, rfl, Nat.le_refl _, q2, Nat.le_refl _, h, Chg.refl _ _, .inl rfl, .inl rfl⟩ ?_
    rintro _ w1 ⟨i, j, rfl, hi, hij, hj, ha, hc, hlo, hhi⟩
    dsimp only
    refine M.if_ (fun hl => ?_) (fun hl => ?_)
    · refine ⟨_, run_half _ i j (by omega) (by simp only [Big]; omega) _, M.drew_of fun w2 _ hg2 => ?_⟩
      have ha := ha.g hg2
      have hc := hc.g hg2
      have eh : wI (((i + j) / 2 : Nat) : Int) = ((i + j) / 2 : Nat) := wIn rfl (by simp only [Big]; omega)
      simp only [eh]
      have e1 : wI (((mid + m - 1 : Nat) : Int) - ((i + j) / 2 : Nat)) = (mid + m - 1 - (i + j) / 2 : Nat) := wIn (by omega) (by simp only [Big]; omega)
      refine M.arR ha _ e1 (by omega) (M.arR ha _ rfl (by omega) (M.callv_of (hf w2 _ _ hc (hD _ (by omega)) (hD _ (by omega))) ?_))
      rintro r w3 ⟨hlt', hg3⟩
      refine M.ifn (fun hr => ?_) (fun hr => ?_)
      · refine ⟨⟨i, (i + j) / 2, rfl, hi, by omega, by omega, ha.g hg3, hc.g hg3, hlo, .inr ?_⟩, by (try simp only); omega⟩
        have := hlt'.1 hr
        rw [show mid + m - (i + j) / 2 - 1 = mid + m - 1 - (i + j) / 2 by omega]; omega
      · rw [wI_succ (by simp only [Big]; omega)]
        refine ⟨⟨(i + j) / 2 + 1, j, rfl, by omega, by omega, hj, ha.g hg3, hc.g hg3, .inr ?_, hhi⟩, by (try simp only); omega⟩
        have := mt hlt'.2 hr
        rw [Nat.add_sub_cancel, show mid + m - ((i + j) / 2 + 1) = mid + m - 1 - (i + j) / 2 by omega]; omega
    · obtain rfl : i = j := by omega
      have ee : wI (((mid + m : Nat) : Int) - i) = (mid + m - i : Nat) := wIn (by omega) (by simp only [Big]; omega)
      rw [ee]
      obtain ⟨t1, t2, t3, t4, t5⟩ := halves (κ := κ) (f := f) (a := a) (m := m) (b := b) (mid := mid) (st := i) hs1 hs2 ham hmb (by omega) (by omega) (by omega) (by omega) (by omega)
      generalize hg : rot f i m (mid + m - i) = g at t1 t2 t3 t4 t5
      refine M.join_at (fun _ w' => Arr n w' s N g ∧ Chg (ownb s) w w' ∧ Sw a b f g) ?_ ?_
      · refine M.join_at (fun q w' => w' = w1 ∧ q = decide (i < m ∧ m < mid + m - i)) (M.if_ (fun hl1 => ⟨rfl, by simp; omega⟩) (fun hl1 => ⟨rfl, by simp; omega⟩)) ?_
        rintro q _ ⟨rfl, rfl⟩
        refine M.if_ (fun hl1 => ?_) (fun hl1 => ?_)
        · refine M.call_of (slices_rotate ha hl1.1 hl1.2 (by omega) h3) ?_
          rintro _ w2 ⟨ha2, hc2, hw2⟩
          rw [hg] at ha2 hw2
          exact ⟨ha2, hc.c hc2, hw2.mono (by omega) (by omega)⟩
        · have : g = f := by
            rw [← hg]
            by_cases e : i = m
            · rw [e, rot_id]
            · rw [show mid + m - i = m by omega, rot_id2 f _ _ (by omega)]
          rw [this]
          exact ⟨ha, hc, .refl f⟩
      clear ha hc hlo hhi hs1 hs2
      rintro _ w2 ⟨ha, hc, hsw⟩
      refine M.join_at (fun _ w' => ∃ g1, Arr n w' s N g1 ∧ Chg (ownb s) w w' ∧ Sw a b f g1 ∧ Sw a mid g g1 ∧ Srt κ g1 a mid) ?_ ?_
      · refine M.join_at (fun q w' => w' = w2 ∧ q = decide (a < i ∧ i < mid)) (M.if_ (fun hl1 => ⟨rfl, by simp; omega⟩) (fun hl1 => ⟨rfl, by simp; omega⟩)) ?_
        rintro q _ ⟨rfl, rfl⟩
        refine M.if_ (fun hl1 => ?_) (fun hl1 => ?_)
        · refine M.call_of (ih (mid - a) (by omega) a i mid _ g rfl ha hl1.1 hl1.2 (by omega) (hf.chg hc) (hsw.allN hb hD) t1 t2) ?_
          rintro _ w3 ⟨g1, ha3, hsw3, hsr3, hc3⟩
          exact ⟨g1, ha3, hc.c hc3, hsw.trans (hsw3.mono (Nat.le_refl _) (by omega)), hsw3, hsr3⟩
        · refine ⟨g, ha, hc, hsw, .refl g, ?_⟩
          by_cases e : i = a
          · subst e; exact t2
          · obtain rfl : i = mid := by omega
            exact t1
      rintro _ w3 ⟨g1, ha, hc, hsw1, hsw2, hsr1⟩
      have t3 := t3.congr (g := g1) fun x h4 h5 => hsw2.out (by omega)
      have t4 := t4.congr (g := g1) fun x h4 h5 => hsw2.out (by omega)
      have t5 := cross_sw t5 (.inl hsw2)
      refine M.join_at (fun q w' => w' = w3 ∧ q = decide (mid < mid + m - i ∧ mid + m - i < b)) (M.if_ (fun hl1 => ⟨rfl, by simp; omega⟩) (fun hl1 => ⟨rfl, by simp; omega⟩)) ?_
      rintro q _ ⟨rfl, rfl⟩
      refine M.if_ (fun hl1 => ?_) (fun hl1 => ?_)
      · refine M.call_of (ih (b - mid) (by omega) mid (mid + m - i) b _ g1 rfl ha hl1.1 hl1.2 (by omega) (hf.chg hc) (hsw1.allN hb hD) t3 t4) ?_
        rintro _ w4 ⟨g2, ha4, hsw4, hsr4, hc4⟩
        exact ⟨g2, ha4, hsw1.trans (hsw4.mono (by omega) (Nat.le_refl _)), Srt.glue (hsr1.congr fun x h4 h5 => hsw4.out (by omega)) hsr4 (cross_sw t5 (.inr hsw4)), hc.c hc4⟩
      · refine ⟨g1, ha, hsw1, Srt.glue hsr1 ?_ t5, hc⟩
        by_cases e : mid + m - i = b
        · rw [← e]; exact t3
        · rw [show mid + m - i = mid by omega] at t4; exact t4
theorem slices_stable {n : Nat} {w : World} {s : Sl} {N : Nat} {f : Nat → Int} {fv : Value} {κ : Int → Int} {D : Int → Prop} (h : Arr n w s N f) (hN : N ≤ 65536) (hf : CmpFn Try.prog fv s w κ D) (hD : ∀ x, x < N → D (f x)) :
    Calls Try.prog 80 [s.val, vI N, fv].toArray w (Ret vUnit fun _ w' => Srtd n s N κ f 0 N w w') := by
  apply L.slices_stableCmpFunc_int
  unfold S.slices_stableCmpFunc_int
  refine M.loop_at (fun q w' => ∃ (t : Nat) (g : Nat → Int), q = (((20 * t : Nat) : Int), ((20 * t + 20 : Nat) : Int)) ∧ 20 * t ≤ N ∧ Arr n w' s N g ∧ Chg (ownb s) w w' ∧ Sw 0 N f g ∧ BSrt κ g 20 0 (20 * t)) (fun q _ => (N - q.1).toNat)
    ⟨0, f, rfl, by omega, h, Chg.refl _ _, .refl f, fun x y h1 h2 h3 => by omega⟩ ?_
  rintro _ w1 ⟨t, g, rfl, ht, ha, hc, hsw, hbs⟩
  dsimp only
  refine M.if_ (fun hl => ?_) (fun hl => ?_)
  · refine M.call_of (slices_insertionSort ha (by omega) (by omega) hN (hf.chg hc) (hsw.allN (Nat.le_refl _) hD)) ?_
    rintro _ w2 ⟨g2, ha2, hsw2, hsr2, hc2⟩
    rw [wIn (x := ((20 * t + 20 : Nat) : Int) + 20) (j := 20 * (t + 1) + 20) (by omega) (by simp only [Big]; omega)]
    refine ⟨⟨t + 1, g2, rfl, by omega, ha2, hc.c hc2, hsw.trans (hsw2.mono (by omega) (by omega)), ?_⟩, by (try simp only); omega⟩
    exact (hbs.congr fun x _ h4 => hsw2.out (by omega)).add (by omega) hsr2
  · refine M.call_of (slices_insertionSort ha (by omega) (Nat.le_refl _) hN (hf.chg hc) (hsw.allN (Nat.le_refl _) hD)) ?_
    rintro _ w2 ⟨g2, ha2, hsw2, hsr2, hc2⟩
    refine M.loop_at (fun q w' => ∃ (c : Nat) (g : Nat → Int), q = ((c : Nat) : Int) ∧ 0 < c ∧ (c = 20 ∨ c < 2 * N) ∧ Arr n w' s N g ∧ Chg (ownb s) w w' ∧ Sw 0 N f g ∧ BSrt κ g c 0 N) (fun q _ => (N - q).toNat)
      ⟨20, g2, rfl, by omega, .inl rfl, ha2, hc.c hc2, hsw.trans (hsw2.mono (by omega) (by omega)), (hbs.congr fun x _ h4 => hsw2.out (by omega)).add (by omega) hsr2⟩ ?_
    clear ha2 hc2 hsw2 hsr2 ha hc hsw hbs g2 w2 g w1
    rintro _ w1 ⟨c, g, rfl, hc0, hcN, ha, hc, hsw, hbs⟩
    refine M.if_ (fun hl => ?_) (fun hl => ?_)
    · have hcl : c < N := by omega
      have e2 : wI (2 * (c : Int)) = (2 * c : Nat) := wIn (by omega) (by simp only [Big]; omega)
      have e3 : wI ((c : Int) * 2) = (2 * c : Nat) := wIn (by omega) (by simp only [Big]; omega)
      rw [e2, e3]
      refine M.loop_at (fun q w' => ∃ (t : Nat) (g : Nat → Int), q = (((2 * c * t : Nat) : Int), ((2 * c * t + 2 * c : Nat) : Int)) ∧ 2 * c * t ≤ N ∧ Arr n w' s N g ∧ Chg (ownb s) w w' ∧ Sw 0 N f g ∧ BSrt κ g (2 * c) 0 (2 * c * t) ∧ BSrt κ g c (2 * c * t) N) (fun q _ => (N - q.1).toNat)
        ⟨0, g, by simp, by omega, ha, hc, hsw, fun x y h1 h2 h3 => by omega, by rw [Nat.mul_zero]; exact hbs⟩ ?_
      clear ha hc hsw hbs g w1
      rintro _ w1 ⟨t, g, rfl, ht, ha, hc, hsw, hbs, hrest⟩
      dsimp only
      have e4 : wI (((2 * c * t : Nat) : Int) + c) = (2 * c * t + c : Nat) := wIn (by omega) (by simp only [Big]; omega)
      rw [e4]
      have p1 : 2 * c * t = c * (2 * t) := by rw [Nat.mul_comm 2 c, Nat.mul_assoc]
      have p2 : 2 * c * t + c = c * (2 * t + 1) := by rw [Nat.mul_add, Nat.mul_one, ← p1]
      have s1 : ∀ e, e ≤ N → e ≤ 2 * c * t + c → Srt κ g (2 * c * t) e := fun e h4 h5 => by
        rw [p1] at hrest h5 ⊢
        exact hrest.srt hc0 h4 h5
      have s2 : ∀ e, e ≤ N → e ≤ 2 * c * t + c + c → Srt κ g (2 * c * t + c) e := fun e h4 h5 => by
        have := hrest.sub (a' := 2 * c * t + c) (by omega)
        rw [p2] at this h5 ⊢
        exact this.srt hc0 h4 h5
      refine M.if_ (fun hl2 => ?_) (fun hl2 => ?_)
      · refine M.call_of (slices_symMerge hN _ _ _ _ _ g rfl ha (by omega) (by omega) (by omega) (hf.chg hc) (hsw.allN (Nat.le_refl _) hD) (s1 _ (by omega) (by omega)) (s2 _ (by omega) (by omega))) ?_
        rintro _ w2 ⟨g2, ha2, hsw2, hsr2, hc2⟩
        have e5 : 2 * c * (t + 1) = 2 * c * t + 2 * c := by rw [Nat.mul_add, Nat.mul_one]
        rw [wIn (x := ((2 * c * t + 2 * c : Nat) : Int) + (2 * c : Nat)) (j := 2 * c * (t + 1) + 2 * c) (by omega) (by simp only [Big]; omega)]
        refine ⟨⟨t + 1, g2, by rw [e5], by omega, ha2, hc.c hc2, hsw.trans (hsw2.mono (by omega) (by omega)), ?_, ?_⟩, by (try simp only); omega⟩
        · rw [e5]
          exact (hbs.congr fun x _ h4 => hsw2.out (by omega)).add (by omega) hsr2
        · rw [e5]
          exact (hrest.sub (by omega)).congr fun x h4 h5 => hsw2.out (by omega)
      · refine M.if_ (fun hl3 => ?_) (fun hl3 => ?_)
        · refine M.call_of (slices_symMerge hN _ _ _ _ _ g rfl ha (by omega) (by omega) (Nat.le_refl _) (hf.chg hc) (hsw.allN (Nat.le_refl _) hD) (s1 _ (by omega) (by omega)) (s2 _ (by omega) (by omega))) ?_
          rintro _ w2 ⟨g2, ha2, hsw2, hsr2, hc2⟩
          exact ⟨⟨2 * c, g2, rfl, by omega, .inr (by omega), ha2, hc.c hc2, hsw.trans (hsw2.mono (by omega) (by omega)), (hbs.congr fun x _ h4 => hsw2.out (by omega)).add (by omega) hsr2⟩, by omega⟩
        · exact ⟨⟨2 * c, g, rfl, by omega, .inr (by omega), ha, hc, hsw, hbs.add (by omega) (s1 _ (Nat.le_refl _) (by omega))⟩, by omega⟩
    · exact ⟨g, ha, hsw, hbs.all (by omega), hc⟩
theorem slices_SortStable {n : Nat} {w : World} {s : Sl} {N : Nat} {f : Nat → Int} {fv : Value} {κ : Int → Int} {D : Int → Prop} (h : Arr n w s N f) (hN : N ≤ 65536) (hf : CmpFn Try.prog fv s w κ D) (hD : ∀ x, x < N → D (f x)) :
    Calls Try.prog 53 [s.val, fv].toArray w (Ret vUnit fun _ w' => Srtd n s N κ f 0 N w w') := by
  apply L.slices_SortStableFunc_Lintint
  unfold S.slices_SortStableFunc_Lintint
  rw [h.len]
  refine M.call_of (slices_stable h hN hf hD) ?_
  rintro _ w2 h2
  exact h2
end C
end Go.Proofs.Ythepabefikobpaa
