/- Plain: which states are alike; what parting blocks by blocks comes to. No condition. -/
import Derived.Test.YthepabefikobpaaC13
namespace Go.Sh
open Go
/-- A loop whose measure is a ghost's. -/
theorem M.loop_g {σ τ γ : Type} {body : (σ → M γ) → σ → M γ} {s0 : σ} {w0 : World} {k : γ → World → Prop} (I : τ → σ → World → Prop) (ν : τ → Nat) (g0 : τ) (h0 : I g0 s0 w0)
    (hr : ∀ (μ : σ → World → Nat), (∀ g s w, I g s w → μ s w ≤ ν g) → ∀ g s w, I g s w → ν g = μ s w → body (fun s' w' _ => (∃ g', I g' s' w') ∧ μ s' w' < μ s w) s w k) : M.loop body s0 w0 k := by
  have hmin : ∀ s w, (∃ g, I g s w) → ∃ g, I g s w ∧ ∀ g', I g' s w → ν g ≤ ν g' := by
    intro s w ⟨g, hg⟩
    have key : ∀ (n : Nat) (g : τ), ν g = n → I g s w → ∃ g, I g s w ∧ ∀ g', I g' s w → ν g ≤ ν g' := by
      intro n
      induction n using Nat.strongRecOn with
      | _ n ih =>
        intro g hn hg
        by_cases h : ∃ g', I g' s w ∧ ν g' < ν g
        · obtain ⟨g', h1, h2⟩ := h
          exact ih (ν g') (by omega) g' rfl h1
        · refine ⟨g, hg, fun g' h1 => ?_⟩
          apply Classical.byContradiction
          intro hlt
          exact h ⟨g', h1, by omega⟩
    exact key _ g rfl hg
  have hex : ∃ μ : σ → World → Nat, ∀ s w, (∃ g, I g s w) → ∃ g, I g s w ∧ ν g = μ s w ∧ ∀ g', I g' s w → ν g ≤ ν g' := by
    classical
    refine ⟨fun s w => if h : ∃ g, I g s w then ν (Classical.choose (hmin s w h)) else 0, fun s w h => ?_⟩
    have := Classical.choose_spec (hmin s w h)
    exact ⟨_, this.1, by simp only [dif_pos h], this.2⟩
  obtain ⟨μ, hμ⟩ := hex
  refine ⟨fun s w => ∃ g, I g s w, μ, ⟨g0, h0⟩, fun s w h => ?_⟩
  obtain ⟨g, h1, h2, _⟩ := hμ s w h
  refine hr μ (fun g s w hg => ?_) g s w h1 h2
  obtain ⟨g', _, h4, h5⟩ := hμ s w ⟨g, hg⟩
  rw [← h4]; exact h5 g hg
end Go.Sh
namespace Go.Proofs.Ythepabefikobpaa
open Go Go.Sh Go.Sp
namespace Mx
/-- Alike up to so many bytes. -/
def alk (m : Mc) : Nat → Nat → Nat → Prop
  | 0, s, t => lab m s = lab m t
  | j + 1, s, t => lab m s = lab m t ∧ ∀ c, c < k m → alk m j (nx m s c) (nx m t c)
def Alk (m : Mc) (s t : Nat) : Prop := ∀ j, alk m j s t
theorem alk_lab {m : Mc} {j s t : Nat} (h : alk m j s t) : lab m s = lab m t := by
  cases j with
  | zero => exact h
  | succ j => exact h.1
theorem alk_less {m : Mc} : ∀ {j s t : Nat}, alk m (j + 1) s t → alk m j s t
  | 0, _, _, h => h.1
  | j + 1, _, _, h => ⟨h.1, fun c hc => alk_less (h.2 c hc)⟩
theorem alk_le {m : Mc} {i j s t : Nat} (hij : i ≤ j) (h : alk m j s t) : alk m i s t := by
  induction hij with
  | refl => exact h
  | step _ ih => exact ih (alk_less h)
theorem alk_refl (m : Mc) : ∀ j s, alk m j s s
  | 0, _ => rfl
  | j + 1, _ => ⟨rfl, fun c _ => alk_refl m j _⟩
theorem alk_symm {m : Mc} : ∀ {j s t : Nat}, alk m j s t → alk m j t s
  | 0, _, _, h => Eq.symm h
  | j + 1, _, _, h => ⟨h.1.symm, fun c hc => alk_symm (h.2 c hc)⟩
theorem alk_trans {m : Mc} : ∀ {j s t u : Nat}, alk m j s t → alk m j t u → alk m j s u
  | 0, _, _, _, h, h' => Eq.trans h h'
  | j + 1, _, _, _, h, h' => ⟨h.1.trans h'.1, fun c hc => alk_trans (h.2 c hc) (h'.2 c hc)⟩
theorem Alk_next {m : Mc} {s t c : Nat} (h : Alk m s t) (hc : c < k m) : Alk m (nx m s c) (nx m t c) := fun j => (h (j + 1)).2 c hc
/-- Blocks that are stable, and as fine as the labels, have alike states only. -/
theorem Alk_of {m : Mc} (ho : Ok m) {bl : Nat → Nat} (h1 : ∀ s t, s < n m → t < n m → bl s = bl t → lab m s = lab m t) (h2 : ∀ s t c, s < n m → t < n m → c < k m → bl s = bl t → bl (nx m s c) = bl (nx m t c)) :
    ∀ j s t, s < n m → t < n m → bl s = bl t → alk m j s t
  | 0, s, t, hs, ht, h => h1 s t hs ht h
  | j + 1, s, t, hs, ht, h => ⟨h1 s t hs ht h, fun c hc => Alk_of ho h1 h2 j _ _ (ho.nx s c hs hc).1 (ho.nx t c ht hc).1 (h2 s t c hs ht hc h)⟩
/-- What holds each time a block is taken. -/
structure Hp (m : Mc) (s : PS) : Prop where
  pi : PI (n m) s
  md0 : ∀ c, c < s.B → s.md c = 0
  Wn : s.W.Nodup
  Wr : ∀ q ∈ s.W, q.1 < s.B ∧ q.2 < k m
  Wl : s.W.length ≤ k m * s.B
  lab : ∀ x y, x < n m → y < n m → s.bl x = s.bl y → lab m x = lab m y
  alk : ∀ x y, x < n m → y < n m → Alk m x y → s.bl x = s.bl y
  ask : ∀ x y c, x < n m → y < n m → c < k m → s.bl x = s.bl y → s.bl (nx m x c) ≠ s.bl (nx m y c) → (s.bl (nx m x c), c) ∈ s.W ∨ (s.bl (nx m y c), c) ∈ s.W
def Hp.μ (m : Mc) (s : PS) : Nat := k m * n m + s.W.length - k m * s.B
theorem Hp.next {m : Mc} (ho : Ok m) {s s' : PS} (h : Hp m s) (hne : s.W ≠ []) (hB : ByR (n m) (k m) (fun x => s.bl (nx m x (s.W.getLast hne).2) = (s.W.getLast hne).1) { s with W := s.W.dropLast } s') : Hp m s' ∧ Hp.μ m s' < Hp.μ m s := by
  have hlast := h.Wr _ (List.getLast_mem hne)
  have hmem : ∀ q, q ∈ s.W → q = s.W.getLast hne ∨ q ∈ s.W.dropLast := fun q hq => by
    by_cases e : q = s.W.getLast hne
    · exact .inl e
    · exact .inr ((C.dropLast_mem h.Wn hne q).2 ⟨hq, e⟩)
  generalize s.W.getLast hne = b0 at *
  have hpos : 0 < s.W.length := List.length_pos_iff.2 hne
  have hWl := hB.Wl
  simp only [List.length_dropLast] at hWl
  have hleB : s.B ≤ s'.B := hB.leB
  have hBN := hB.pi.le
  have hWl0 := h.Wl
  have m1 : k m * s.B ≤ k m * s'.B := Nat.mul_le_mul_left _ hleB
  have m2 : k m * s'.B ≤ k m * n m := Nat.mul_le_mul_left _ hBN
  refine ⟨⟨hB.pi, hB.md0, hB.Wn, hB.Wr, by omega, fun x y hx hy e => h.lab x y hx hy ((hB.rel x y hx hy).1 e).1, fun x y hx hy e => ?_, fun x y c hx hy hc e hn => ?_⟩, by simp only [Hp.μ]; omega⟩
  · refine (hB.rel x y hx hy).2 ⟨h.alk x y hx hy e, ?_⟩
    have := h.alk _ _ (ho.nx x b0.2 hx hlast.2).1 (ho.nx y b0.2 hy hlast.2).1 (Alk_next e hlast.2)
    rw [this]
  · obtain ⟨e1, e2⟩ := (hB.rel x y hx hy).1 e
    have hu := (ho.nx x c hx hc).1
    have hv := (ho.nx y c hy hc).1
    by_cases e3 : s.bl (nx m x c) = s.bl (nx m y c)
    · exact hB.Wd _ _ c hu hv hc e3 hn
    · rcases h.ask x y c hx hy hc e1 e3 with h4 | h4
      · left
        rcases hmem _ h4 with h5 | h5
        · exfalso
          have h6 : c = b0.2 := by rw [← h5]
          have h7 : s.bl (nx m x c) = b0.1 := by rw [← h5]
          rw [← h6] at e2
          exact e3 (h7.trans (e2.1 h7).symm)
        · exact hB.Wo _ c hu h5
      · right
        rcases hmem _ h4 with h5 | h5
        · exfalso
          have h6 : c = b0.2 := by rw [← h5]
          have h7 : s.bl (nx m y c) = b0.1 := by rw [← h5]
          rw [← h6] at e2
          exact e3 ((e2.2 h7).trans h7.symm)
        · exact hB.Wo _ c hv h5
/-- Where nothing waits any more the blocks are those of states that are alike. -/
theorem Hp.done {m : Mc} (ho : Ok m) {s : PS} (h : Hp m s) (hW : s.W = []) : ∀ x y, x < n m → y < n m → (s.bl x = s.bl y ↔ Alk m x y) := fun x y hx hy => by
  refine ⟨fun e j => Alk_of ho h.lab (fun s' t c hs ht hc e => ?_) j x y hx hy e, h.alk x y hx hy⟩
  apply Classical.byContradiction
  intro hn
  have := h.ask s' t c hs ht hc e hn
  rw [hW] at this
  simp at this
end Mx
/-- The numbers of a list depend on what is equal in it alone. -/
theorem num_congr {α β : Type} [DecidableEq α] [DecidableEq β] : ∀ (l : List α) (l' : List β), l.length = l'.length → (∀ i j, i < l.length → j < l.length → (l[i]? = l[j]? ↔ l'[i]? = l'[j]?)) → num l = num l' := by
  intro l
  refine list_snoc_ind (p := fun l : List α => ∀ l' : List β, l.length = l'.length → (∀ i j, i < l.length → j < l.length → (l[i]? = l[j]? ↔ l'[i]? = l'[j]?)) → num l = num l') ?_ ?_ l
  · intro l' hl _
    have : l' = [] := List.length_eq_zero_iff.1 hl.symm
    subst this; rfl
  · intro l x ih l' hl he
    have hne : l' ≠ [] := by intro e; subst e; simp at hl
    obtain ⟨q, y, rfl⟩ : ∃ q y, l' = q ++ [y] := ⟨l'.dropLast, l'.getLast hne, (List.dropLast_concat_getLast hne).symm⟩
    simp only [List.length_append, List.length_singleton] at hl he
    have hlq : l.length = q.length := by omega
    have he' : ∀ i j, i < l.length → j < l.length → (l[i]? = l[j]? ↔ q[i]? = q[j]?) := fun i j hi hj => by
      have := he i j (by omega) (by omega)
      rwa [List.getElem?_append_left hi, List.getElem?_append_left hj, List.getElem?_append_left (by omega), List.getElem?_append_left (by omega)] at this
    have ih := ih q hlq he'
    rw [num_snoc, num_snoc, ih]
    congr 2
    -- x is new just if y is
    have hfo : (fo l).length = (fo q).length := by
      have hm : ∀ {γ : Type} [DecidableEq γ] (l : List γ), ∀ v, v < (fo l).length ↔ v ∈ num l := by
        intro γ _ l v
        constructor
        · intro hv
          have hmem : (fo l)[v] ∈ l := (mem_fo l _).1 (List.getElem_mem hv)
          rw [num, List.mem_map]
          exact ⟨_, hmem, (nodup_fo l).idxOf_getElem v hv⟩
        · exact num_lt l v
      have h1 := fun v => hm l v
      have h2 := fun v => hm q v
      rw [ih] at h1
      rcases Nat.lt_trichotomy (fo l).length (fo q).length with h | h | h
      · have := (h1 _).2 ((h2 _).1 h); omega
      · exact h
      · have := (h2 _).2 ((h1 _).1 h); omega
    by_cases hx : x ∈ l
    · obtain ⟨i, hi, hxi⟩ := List.getElem_of_mem hx
      have h3 := (he i l.length (by omega) (by omega)).1 (by rw [List.getElem?_append_left hi, List.getElem?_append_right (by omega), List.getElem?_eq_getElem hi, hxi]; simp)
      rw [List.getElem?_append_left (by omega), List.getElem?_append_right (by omega), List.getElem?_eq_getElem (by omega)] at h3
      have h4 : q[i]'(by omega) = y := by
        have : l.length - q.length = 0 := by omega
        rw [this] at h3
        simpa using h3
      have hy : y ∈ q := h4 ▸ List.getElem_mem (by omega)
      rw [fo_snoc, fo_snoc, if_pos ((mem_fo l x).2 hx), if_pos ((mem_fo q y).2 hy)]
      have e1 : (num l)[i]? = some ((fo l).idxOf x) := by simp [num, hi, hxi]
      have e2 : (num q)[i]? = some ((fo q).idxOf y) := by
        have hiq : i < q.length := by omega
        simp [num, hiq, h4]
      rw [ih] at e1
      rw [e1] at e2
      exact Option.some.inj e2
    · have hy : y ∉ q := by
        intro hy
        obtain ⟨i, hi, hyi⟩ := List.getElem_of_mem hy
        have h3 := (he i l.length (by omega) (by omega)).2 (by
          rw [List.getElem?_append_left hi, List.getElem?_append_right (by omega), List.getElem?_eq_getElem hi, hyi]
          have : l.length - q.length = 0 := by omega
          rw [this]; rfl)
        rw [List.getElem?_append_left (by omega), List.getElem?_append_right (by omega), List.getElem?_eq_getElem (by omega)] at h3
        have h4 : l[i]'(by omega) = x := by simpa using h3
        exact hx (h4 ▸ List.getElem_mem (by omega))
      rw [fo_snoc, fo_snoc, if_neg (fun h => hx ((mem_fo l x).1 h)), if_neg (fun h => hy ((mem_fo q y).1 h)), List.idxOf_append, List.idxOf_append, if_neg (fun h => hx ((mem_fo l x).1 h)), if_neg (fun h => hy ((mem_fo q y).1 h)), List.idxOf_cons_self, List.idxOf_cons_self, hfo]
end Go.Proofs.Ythepabefikobpaa
