/- Plain: so many rounds as there are states tell all that can be told. No condition. -/
import Derived.Test.YthepabefikobpaaC14
namespace Go.Proofs.Ythepabefikobpaa
open Go Go.Sh Go.Sp
namespace Mx
theorem alk_stable {m : Mc} (ho : Ok m) {i : Nat} (h : ∀ x y, x < n m → y < n m → alk m i x y → alk m (i + 1) x y) : ∀ j x y, x < n m → y < n m → alk m i x y → alk m j x y := by
  intro j
  induction j with
  | zero => intro x y _ _ h'; exact alk_lab h'
  | succ j ih =>
    intro x y hx hy h'
    have h2 := h x y hx hy h'
    exact ⟨alk_lab h', fun c hc => ih _ _ (ho.nx x c hx hc).1 (ho.nx y c hy hc).1 (h2.2 c hc)⟩
theorem apart_list {m : Mc} : ∀ j, (∀ i, i < j → ∃ x y, x < n m ∧ y < n m ∧ alk m i x y ∧ ¬ alk m (i + 1) x y) → 0 < n m → ∃ L : List Nat, (∀ x ∈ L, x < n m) ∧ L.Pairwise (fun x y => ¬ alk m j x y) ∧ j + 1 ≤ L.length := by
  intro j
  induction j with
  | zero => intro _ h0; exact ⟨[0], by simpa using h0, by simp, by simp⟩
  | succ j ih =>
    intro h h0
    obtain ⟨L, h1, h2, h3⟩ := ih (fun i hi => h i (by omega)) h0
    obtain ⟨x, y, hx, hy, hxy, hn⟩ := h j (by omega)
    have h2' : L.Pairwise (fun a b => ¬ alk m (j + 1) a b) := h2.imp fun hn hh => hn (alk_less hh)
    by_cases hz : ∃ z ∈ L, alk m j z x
    · obtain ⟨z, hz, hzx⟩ := hz
      have hp := List.perm_cons_erase hz
      have h4 : (z :: L.erase z).Pairwise (fun a b => ¬ alk m j a b) := (hp.pairwise_iff (fun {a b} hab hba => hab (alk_symm hba))).1 h2
      rw [List.pairwise_cons] at h4
      have hlen : (L.erase z).length + 1 = L.length := by rw [List.length_erase_of_mem hz]; have := List.length_pos_of_mem hz; omega
      refine ⟨x :: y :: L.erase z, fun a ha => ?_, ?_, by simp; omega⟩
      · simp only [List.mem_cons] at ha
        rcases ha with rfl | rfl | ha
        · exact hx
        · exact hy
        · exact h1 a (List.mem_of_mem_erase ha)
      · rw [List.pairwise_cons, List.pairwise_cons]
        refine ⟨fun a ha => ?_, fun a ha => ?_, h4.2.imp fun hn hh => hn (alk_less hh)⟩
        · simp only [List.mem_cons] at ha
          rcases ha with rfl | ha
          · exact hn
          · exact fun hh => h4.1 a ha (alk_trans hzx (alk_less hh))
        · exact fun hh => h4.1 a ha (alk_trans (alk_trans hzx hxy) (alk_less hh))
    · refine ⟨x :: L, fun a ha => ?_, ?_, by simp; omega⟩
      · simp only [List.mem_cons] at ha
        rcases ha with rfl | ha
        · exact hx
        · exact h1 a ha
      · rw [List.pairwise_cons]
        exact ⟨fun a ha hh => hz ⟨a, ha, alk_symm (alk_less hh)⟩, h2'⟩
theorem Alk_n {m : Mc} (ho : Ok m) {j : Nat} (hj : n m ≤ j) {x y : Nat} (hx : x < n m) (hy : y < n m) (h : alk m j x y) : Alk m x y := by
  by_cases hall : ∀ i, i < n m → ∃ x y, x < n m ∧ y < n m ∧ alk m i x y ∧ ¬ alk m (i + 1) x y
  · exfalso
    obtain ⟨L, h1, h2, h3⟩ := apart_list (n m) hall ho.n1
    have hd : L.Nodup := h2.imp fun hn e => by subst e; exact hn (alk_refl m _ _)
    have := nodup_le (n m) L hd h1
    omega
  · have hex : ∃ i, i < n m ∧ ∀ x y, x < n m → y < n m → alk m i x y → alk m (i + 1) x y := by
      apply Classical.byContradiction
      intro hne
      apply hall
      intro i hi
      apply Classical.byContradiction
      intro hn
      apply hne
      refine ⟨i, hi, fun x y hx hy h => ?_⟩
      apply Classical.byContradiction
      intro hh
      exact hn ⟨x, y, hx, hy, h, hh⟩
    obtain ⟨i, hi, hst⟩ := hex
    exact fun z => alk_stable ho hst z x y hx hy (alk_le (by omega) h)
end Mx
end Go.Proofs.Ythepabefikobpaa
