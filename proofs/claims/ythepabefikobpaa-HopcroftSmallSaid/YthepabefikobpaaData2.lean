/- More rules: an element of an own slice is written, many are appended, a slice is made; pairs as keys of maps; a key that is there. No condition. -/
import Derived.Test.YthepabefikobpaaBox
import Derived.Test.YthepabefikobpaaMaps
import Derived.Laws.OwnMore
namespace Go.Sh
open Go
theorem append_blockN {P : Program} {t ty T : Nat} {l c l' c' m c2 : Nat} {base a r : Option Addr} {w w' : World} (ht : P.underlying t = some (.slice T))
    (h : (Builtin.append_ #[t, t] ty #[.slice base l c, .slice a m c2]).run P w = .ok (.slice r l' c') w') : r = base ∨ ∃ b, r = some ⟨b, 0, none⟩ ∧ w.heap.size ≤ b := by
  have hu : ∀ w, (underlying t).run P w = .ok (.slice T) w := fun w => run_underlying ht w
  simp only [Builtin.append_, hu, Builtin.lenOf, Sem.run_bind, Result.andThen_ok, List.getElem?_toArray, List.getElem?_cons_zero, List.getElem?_cons_succ, pure_bind] at h
  obtain ⟨mm, w1, h1, h⟩ := andThen_ok h
  have e1 := Qt.sizeOf _ _ _ _ h1
  simp only [Bool.false_eq_true, if_false, Bool.not_false, if_true, false_or] at h
  split at h
  · rename_i hne
    rw [Sem.run_bind] at h
    obtain ⟨cs, w2, h2, h⟩ := andThen_ok h
    cases base with
    | none => simp at h; exact .inl h.1.1.symm
    | some b =>
      simp at h
      obtain ⟨u, w3, h3, h⟩ := andThen_ok h
      cases h
      exact .inl rfl
  · rw [Sem.run_bind] at h
    obtain ⟨ti, w2, h2, h⟩ := andThen_ok h
    have e2 := Qt.typeInfo _ _ _ _ h2
    split at h
    · rw [Sem.run_bind] at h
      obtain ⟨_, _, hp, _⟩ := andThen_ok h
      exact (Qt.panic _ _ _ _ hp).elim
    · rw [Sem.run_bind] at h
      obtain ⟨tj, w3, h3, h⟩ := andThen_ok h
      have e3 := Qt.typeInfo _ _ _ _ h3
      split at h
      · exfalso
        simp only [Sem.run_bind] at h
        obtain ⟨x, w4, h4, h⟩ := andThen_ok h
        obtain ⟨y, w5, _, h5⟩ := andThen_ok h4
        split at h5
        · rw [Sem.run_bind] at h5
          obtain ⟨_, _, _, h6⟩ := andThen_ok h5
          cases h6
        · cases h5
      · simp only [Sem.run_bind] at h
        obtain ⟨nc, w4, h4, h⟩ := andThen_ok h
        obtain ⟨tk, w5, h5, h⟩ := andThen_ok h
        obtain ⟨_, w6, h6, h⟩ := andThen_ok h
        obtain ⟨old, w7, h7, h⟩ := andThen_ok h
        obtain ⟨new, w8, h8, h⟩ := andThen_ok h
        obtain ⟨z, w9, h9, h⟩ := andThen_ok h
        obtain ⟨row, w10, h10, h⟩ := andThen_ok h
        have e4 := Qt.choose _ _ _ _ h4
        have e5 := Qt.typeInfo _ _ _ _ h5
        have e6 := Qt.askRoom _ _ _ _ h6
        have e7 := Qt.firstCells _ _ _ _ _ _ h7
        have e8 := Qt.firstCells _ _ _ _ _ _ h8
        have e9 := Qt.zeroValue _ _ _ _ h9
        simp [newRow, newObj, Sem.run] at h10
        cases h
        obtain ⟨rfl, _⟩ := h10
        exact .inr ⟨w9.heap.size, rfl, by rw [e9, e8, e7, e6, e5, e4, e3, e2, e1]; exact Nat.le_refl _⟩


section
variable {α γ : Type} {k : γ → World → Prop} {w : World}
/-- An element of an own slice is written. -/
theorem M.wr {n T : Nat} {s : Sl} {L : List α} {e : α → Value} {f : M γ} {i : Nat} {x : α} (h : Own n w s T 1 (L.map e)) (hi : i < L.length) (hf : ∀ w', Own n w' s T 1 ((L.set i x).map e) → Chg (ownb s) w w' → w'.heap.size = w.heap.size → f w' k) : M.ix s (i : Int) 1 (fun a => M.st a (e x) f) w k := by
  have hl : L.length = s.len := by simpa using h.len
  rcases h.out.2 with rfl | ⟨b, cs, h2, h3, h4, h5, h6, h7, h8⟩
  · simp [Sl.nil] at hl; subst hl; simp at hi
  · refine ⟨_, _, h2, ⟨by omega, by omega⟩, rfl, ?_⟩
    rw [Int.toNat_natCast, Nat.mul_one]
    refine M.stB i h4 (by omega) fun w' hb hc hs => hf w' ?_ (hc.mono fun b' _ e' => ⟨_, h2, e'.symm⟩) hs
    refine Own.mk h2 h3 hb h5 h6 (by simp [h7]) ?_
    rw [List.take_set, h8, List.map_set]
/-- Elements of a slice are appended. -/
theorem M.appN {P : Program} {n : Nat} {s t2 : Sl} {t ty T m bytes : Nat} {F : Nat → Prop} {info : TypeInfo} {z : Value} {vs cs : List Value} {f : Sl → M γ}
    (ht : P.underlying t = some (.slice T)) (hi : P.info? T = some info) (hz : info.zero = some z) (hsz : info.size = m) (hby : info.bytes = bytes) (hzs : z.cells.size = m) (hm : 0 < m)
    (h : Own n w s T m vs) (hr : Rd m F w t2 cs) (ha : t2.addr ≠ none) (ho : ∀ u ∈ cs, one1 u = true) (hn : n ≤ w.heap.size) (hb : (s.len + t2.len) * bytes ≤ 140737488355328) (hl : s.len + t2.len ≤ 140737488355328)
    (hf : ∀ r w', Own n w' r T m (vs ++ cs) → r.len = s.len + t2.len → Chg (ownb s) w w' → (∀ b, ownb r b → ownb s b ∨ w.heap.size ≤ b) → (r.addr = none → s.addr = none) → f r w' k) :
    M.run P (Builtin.append_ #[t, t] ty #[s.val, t2.val]) Sl.val f w k := by
  obtain ⟨a2, ha2⟩ := Option.ne_none_iff_exists'.1 ha
  have e2 : t2.val = .slice (some a2) t2.len t2.cap := by rw [Sl.val, ha2]
  have hnews : ∀ j u, cs[j]? = some u → w.cell? (a2.add j) = some u := by
    intro j u hu
    by_cases h0 : t2.len = 0
    · have := hr.len; rw [h0, Nat.zero_mul] at this
      rw [List.length_eq_zero_iff.1 this] at hu; simp at hu
    · obtain ⟨a, g1, g2, g3, g4⟩ := hr.read h0
      rw [g1] at ha2; cases ha2
      exact g4 j u hu
  obtain ⟨v', w', h1, h2, h3, h4⟩ := run_append_own (P := P) w n t ty T info z m bytes ht hi hz hsz hby hzs hm s.val s.len vs h a2 t2.len t2.cap cs hr.len hnews
    (fun u hu => by have := ho u hu; cases u <;> simp_all [one1, Value.oneCell']) (by simp only [maxLen]; omega) hb hn
  rw [← e2] at h1
  have hv : ∃ r : Sl, v' = r.val ∧ r.len = s.len + t2.len ∧ (r.addr = none → s.addr = none) := by
    rcases h2.2 with ⟨he, h0⟩ | ⟨g, cap, cur, rfl, _⟩
    · refine ⟨Sl.nil, he, by simp [Sl.nil]; omega, fun _ => ?_⟩
      have := (h4.1 he).1
      rw [Sl.val] at this
      simp at this
      exact this.1
    · exact ⟨⟨_, _, _⟩, rfl, rfl, fun h => by cases h⟩
  obtain ⟨r, rfl, hr2, hr3⟩ := hv
  have hown' : Own n w' r T m (vs ++ cs) := by unfold Own; rw [hr2]; exact h2
  have hchg : Chg (ownb s) w w' := by
    refine ⟨⟨h3.os, h3.tape, h3.output⟩, h3.size, fun b hb hnb => ?_⟩
    have hne : some b ≠ s.val.ownBlock := by
      intro e
      apply hnb
      obtain ⟨a, l, c⟩ := s
      cases a with
      | none => simp [Value.ownBlock] at e
      | some a => simp [Value.ownBlock] at e; exact ⟨a, rfl, e.symm⟩
    exact h3.block b hb hne
  refine ⟨r, w', h1, hf r w' hown' hr2 hchg (fun b hb => ?_) hr3⟩
  by_cases hge : w.heap.size ≤ b
  · exact .inr hge
  · left
    obtain ⟨a, hra, hab⟩ := hb
    rw [e2] at h1
    rcases append_blockN ht h1 with e | ⟨b', e, hge'⟩
    · exact ⟨a, e.symm.trans hra, hab⟩
    · rw [e] at hra
      cases hra
      simp at hge' hab
      omega
theorem madeCells_rep (v : Value) (n : Nat) : (madeCells #[v] (n * 1)).toList = List.replicate n v := by
  apply List.ext_getElem?
  intro i
  simp only [madeCells, Nat.mul_one]
  by_cases h : i < n
  · simp [h, Array.getElem?_map, Nat.mod_one]
  · simp [h]
/-- A slice is made. -/
theorem M.mkSl {P : Program} {t T n : Nat} {info : TypeInfo} {z : Value} {f : Sl → M γ} (ht : P.underlying t = some (.slice T)) (hi : P.info? T = some info) (hz : info.zero = some z) (hsz : info.size = 1) (hzc : z.cells = #[z]) (hb : info.bytes * n ≤ 281474976710656) (hl : n ≤ maxLen)
    (hf : ∀ r w', Own w.heap.size w' r T 1 (List.replicate n z) → r.len = n → (∀ b, ownb r b → b = w.heap.size) → Grow w w' → f r w' k) : M.run P (Instr.makeSlice t (vI n) (vI n)) Sl.val f w k := by
  obtain ⟨w', h1, h2, h3⟩ := run_make_full (P := P) w w.heap.size t T info z 1 ht hi hz hsz .i64 .i64 n hb hl (Nat.le_refl _)
  rw [hzc, madeCells_rep] at h2
  exact ⟨⟨some ⟨w.heap.size, 0, none⟩, n, n⟩, w', h1, hf _ w' h2 rfl (fun b ⟨a, e, e2⟩ => by cases e; exact e2.symm) ⟨⟨h3.os, h3.tape, h3.output⟩, h3.size, fun b hb _ => h3.block b hb (by simp)⟩⟩
end
end Go.Sh
