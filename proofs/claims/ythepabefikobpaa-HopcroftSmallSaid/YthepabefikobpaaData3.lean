/- Lists of rows that a call makes. No condition. -/
import Derived.Test.YthepabefikobpaaC5
import Derived.Test.YthepabefikobpaaData2
namespace Go.Sh
open Go
/-- A list of rows that is the call's own; the rows lie in blocks of X. -/
def OwnRows {α : Type} (n : Nat) (X : Nat → Prop) (w : World) (s : Sl) (T : TypeId) (e : α → Value) (L : List (List α)) : Prop :=
  ∃ ss : List Sl, Own n w s T 1 (ss.map Sl.val) ∧ ss.length = L.length ∧ ∀ (i : Nat) (t : Sl) (r : List α), ss[i]? = some t → L[i]? = some r → Rd 1 X w t (r.map e)
section
variable {α γ : Type} {k : γ → World → Prop} {w w' : World} {n T : Nat} {X X' p : Nat → Prop} {s : Sl} {e : α → Value} {L : List (List α)}
theorem OwnRows.nil : OwnRows n X w Sl.nil T e ([] : List (List α)) := ⟨[], Own.nil _ _ _ _, rfl, fun i t r h => by simp at h⟩
theorem OwnRows.chg (h : OwnRows n X w s T e L) (hc : Chg p w w') (h1 : ∀ b, ownb s b → ¬ p b) (h2 : ∀ b, X b → ¬ p b) : OwnRows n X w' s T e L := by
  obtain ⟨ss, g1, g2, g3⟩ := h
  exact ⟨ss, g1.chg hc h1, g2, fun i t r hi hr => (g3 i t r hi hr).chg hc h2⟩
theorem OwnRows.mono (h : OwnRows n X w s T e L) (hx : ∀ b, X b → X' b) : OwnRows n X' w s T e L := by
  obtain ⟨ss, g1, g2, g3⟩ := h
  exact ⟨ss, g1, g2, fun i t r hi hr => (g3 i t r hi hr).mono hx⟩
theorem OwnRows.len (h : OwnRows n X w s T e L) : L.length = s.len := by
  obtain ⟨ss, g1, g2, g3⟩ := h
  rw [← g2]; simpa using g1.len
theorem OwnRows.ge (h : OwnRows n X w s T e L) {b : Nat} (hb : ownb s b) : n ≤ b ∧ b < w.heap.size := by
  obtain ⟨ss, g1, g2, g3⟩ := h
  exact g1.ge hb
theorem OwnRows.base {n' : Nat} (h : OwnRows n X w s T e L) (hn : n' ≤ n) : OwnRows n' X w s T e L := by
  obtain ⟨ss, g1, g2, g3⟩ := h
  exact ⟨ss, g1.base hn, g2, g3⟩
theorem OwnRows.rdrd {L : List (List Int)} (h : OwnRows n X w s T vI L) : RdRd w s L := by
  obtain ⟨ss, g1, g2, g3⟩ := h
  exact ⟨ss, g1.rd fun _ _ => trivial, g2, fun i t r hi hr => (g3 i t r hi hr).mono fun _ _ => trivial⟩
/-- A row more. -/
theorem M.appRow {P : Program} {t ty : Nat} {info : TypeInfo} {z : Value} {r : List α} {tr : Sl} {f : Sl → M γ}
    (ht : P.underlying t = some (.slice T)) (hi : P.info? T = some info) (hz : info.zero = some z) (hsz : info.size = 1) (hby : info.bytes = 24) (hzs : z.cells.size = 1)
    (h : OwnRows n X w s T e L) (hr : Rd 1 X' w tr (r.map e)) (hX : ∀ b, X b → X' b) (hd : ∀ b, X' b → ¬ ownb s b) (hn : n ≤ w.heap.size) (hb : (s.len + 1) * 24 ≤ 140737488355328)
    (hf : ∀ q w', OwnRows n X' w' q T e (L ++ [r]) → q.len = s.len + 1 → Chg (ownb s) w w' → (∀ b, ownb q b → ownb s b ∨ w.heap.size ≤ b) → f q w' k) :
    M.new T [Sl.val tr] (fun b => M.run P (Builtin.append_ #[t, t] ty #[s.val, Sl.val ⟨some b, 1, 1⟩]) Sl.val f) w k := by
  obtain ⟨ss, g1, g2, g3⟩ := h
  refine M.app ht hi hz hsz hby hzs (by decide) g1 rfl (by simp [one1, Sl.val]) hn hb (by omega) fun q w' ho hl hc hq => hf q w' ⟨ss ++ [tr], by simpa using ho, by simp [g2], fun i t r' hi hr' => ?_⟩ hl hc hq
  rw [List.getElem?_append] at hi hr'
  split at hi
  · rw [if_pos (by omega)] at hr'
    exact ((g3 i t r' hi hr').mono hX).chg hc hd
  · rw [if_neg (by omega)] at hr'
    rw [g2, List.getElem?_singleton] at hi
    rw [List.getElem?_singleton] at hr'
    split at hi
    · rename_i h0
      rw [if_pos h0] at hr'
      cases hi; cases hr'
      exact hr.chg hc hd
    · cases hi
theorem Rd.old {m : Nat} {F : Nat → Prop} {vs : List Value} (hm : 0 < m) (h : Rd m F w s vs) : Rd m (fun b => b < w.heap.size) w s vs := by
  refine ⟨h.len, h.cap, fun h0 => ?_⟩
  obtain ⟨a, h1, h2, h3, h4⟩ := h.read h0
  have hl : 0 < vs.length := by rw [h.len]; exact Nat.mul_pos (by omega) hm
  have := h4 0 _ (List.getElem?_eq_getElem hl)
  have := World.block_lt_of_cell? _ _ this
  rw [add_block] at this
  exact ⟨a, h1, h2, this, h4⟩
/-- One element more, with two looks between. -/
theorem M.app_chk {P : Program} {p q : World → Prop} {t ty T : Nat} {cs : List Value} {s : Sl} {f : Sl → M γ} (hp : ∀ w', Grow w w' → p w') (hq : ∀ w', Grow w w' → q w')
    (h : M.new T cs (fun b => M.run P (Builtin.append_ #[t, t] ty #[s.val, Sl.val ⟨some b, 1, 1⟩]) Sl.val f) w k) :
    M.new T cs (fun b => M.chk p (M.chk q (M.run P (Builtin.append_ #[t, t] ty #[s.val, Sl.val ⟨some b, 1, 1⟩]) Sl.val f))) w k :=
  ⟨hp _ (Grow.alloc w _), hq _ (Grow.alloc w _), h⟩
theorem set_range_map {β : Type} (n : Nat) (f : Nat → β) (i : Nat) (x : β) : ((List.range n).map f).set i x = (List.range n).map (ups f i x) := by
  apply List.ext_getElem?
  intro j
  rw [List.getElem?_set]
  simp only [List.length_map, List.length_range, List.getElem?_map]
  by_cases h : i = j
  · subst h
    by_cases hn : i < n
    · simp [hn, ups]
    · simp [hn]
  · have : ¬ j = i := fun e => h e.symm
    simp only [if_neg h]
    by_cases hn : j < n
    · simp [List.getElem?_range hn, this, ups]
    · simp [hn]
theorem rep_range {β : Type} (n : Nat) (x : β) : List.replicate n x = (List.range n).map fun _ => x := by
  apply List.ext_getElem?
  intro j
  by_cases h : j < n <;> simp [h]
theorem Chg.g {p : Nat → Prop} {w1 : World} (h : Chg p w w1) (h' : Grow w1 w') : Chg p w w' := h.trans (h'.any (p := p)) fun _ _ x => x
theorem Chg.c {p : Nat → Prop} {w1 : World} (h : Chg p w w1) (h' : Chg p w1 w') : Chg p w w' := h.trans h' fun _ _ x => x
theorem Dfv_st257 (o : Nat → Int) (x : Int) (a b c s : Sl) : (Dfv.cs ⟨o, x, a, b, c⟩).set 257 s.val = Dfv.cs ⟨o, x, s, b, c⟩ := Dfv_set 1 _
theorem Dfv_st258 (o : Nat → Int) (x : Int) (a b c s : Sl) : (Dfv.cs ⟨o, x, a, b, c⟩).set 258 s.val = Dfv.cs ⟨o, x, a, s, c⟩ := Dfv_set 2 _
theorem Chg.cell {p : Nat → Prop} {a : Addr} {v : Value} (hc : Chg p w w') (hp : ¬ p a.block) (h : w.cell? a = some v) : w'.cell? a = some v := by
  rw [cell_block (hc.heap _ (World.block_lt_of_cell? _ _ h) hp)]
  exact h
end
/-- A list of lists, read from blocks of S. -/
def RdIn (S : Nat → Prop) (w : World) (s : Sl) (L : List (List Int)) : Prop :=
  ∃ ss : List Sl, Rd 1 S w s (ss.map Sl.val) ∧ ss.length = L.length ∧ ∀ (i : Nat) (t : Sl) (r : List Int), ss[i]? = some t → L[i]? = some r → Rd 1 S w t (r.map vI)
theorem RdIn.chg {S p : Nat → Prop} {w w' : World} {s : Sl} {L : List (List Int)} (h : RdIn S w s L) (hc : Chg p w w') (hp : ∀ b, S b → ¬ p b) : RdIn S w' s L := by
  obtain ⟨ss, h1, h2, h3⟩ := h
  exact ⟨ss, h1.chg hc hp, h2, fun i t r hi hr => (h3 i t r hi hr).chg hc hp⟩
theorem RdIn.rdrd {S : Nat → Prop} {w : World} {s : Sl} {L : List (List Int)} (h : RdIn S w s L) : RdRd w s L := by
  obtain ⟨ss, h1, h2, h3⟩ := h
  exact ⟨ss, h1.mono fun _ _ => trivial, h2, fun i t r hi hr => (h3 i t r hi hr).mono fun _ _ => trivial⟩
theorem RdIn.mono {S S' : Nat → Prop} {w : World} {s : Sl} {L : List (List Int)} (h : RdIn S w s L) (hs : ∀ b, S b → S' b) : RdIn S' w s L := by
  obtain ⟨ss, h1, h2, h3⟩ := h
  exact ⟨ss, h1.mono hs, h2, fun i t r hi hr => (h3 i t r hi hr).mono hs⟩
theorem RdRd.old {w : World} {s : Sl} {L : List (List Int)} (h : RdRd w s L) : RdIn (fun b => b < w.heap.size) w s L := by
  obtain ⟨ss, h1, h2, h3⟩ := h
  exact ⟨ss, h1.old (by decide), h2, fun i t r hi hr => (h3 i t r hi hr).old (by decide)⟩
theorem OwnRows.rdIn {n T : Nat} {X S : Nat → Prop} {w : World} {s : Sl} {L : List (List Int)} (h : OwnRows n X w s T vI L) (h1 : ∀ b, ownb s b → S b) (h2 : ∀ b, X b → S b) : RdIn S w s L := by
  obtain ⟨ss, g1, g2, g3⟩ := h
  exact ⟨ss, g1.rd h1, g2, fun i t r hi hr => (g3 i t r hi hr).mono h2⟩
/-- A machine in blocks of S. -/
structure DfaIn (S : Nat → Prop) (w : World) (d : Dfv) (m : Mc) : Prop where
  of : d.of = m.of
  byte : ∀ i, i < 256 → 0 ≤ m.of i ∧ m.of i < 256
  width : d.width = m.width
  next : RdIn S w d.next m.next
  label : Rd 1 S w d.label (m.label.map vI)
  names : Rd 1 S w d.names (m.names.map Value.string)
  size : ∀ x ∈ m.names, x.size ≤ maxLen
theorem DfaIn.chg {S p : Nat → Prop} {w w' : World} {d : Dfv} {m : Mc} (h : DfaIn S w d m) (hc : Chg p w w') (hp : ∀ b, S b → ¬ p b) : DfaIn S w' d m :=
  ⟨h.of, h.byte, h.width, h.next.chg hc hp, h.label.chg hc hp, h.names.chg hc hp, h.size⟩
theorem DfaIn.g {S : Nat → Prop} {w w' : World} {d : Dfv} {m : Mc} (h : DfaIn S w d m) (hc : Grow w w') : DfaIn S w' d m := h.chg hc fun _ _ x => x
theorem DfaIn.mono {S S' : Nat → Prop} {w : World} {d : Dfv} {m : Mc} (h : DfaIn S w d m) (hs : ∀ b, S b → S' b) : DfaIn S' w d m :=
  ⟨h.of, h.byte, h.width, h.next.mono hs, h.label.mono hs, h.names.mono hs, h.size⟩
theorem DfaIn.at {S : Nat → Prop} {w : World} {d : Dfv} {m : Mc} (h : DfaIn S w d m) : DfaAt w d m :=
  ⟨h.of, h.byte, h.width, h.next.rdrd, h.label.mono fun _ _ => trivial, h.names.mono fun _ _ => trivial, h.size⟩
theorem DfaAt.old {w : World} {d : Dfv} {m : Mc} (h : DfaAt w d m) : DfaIn (fun b => b < w.heap.size) w d m :=
  ⟨h.of, h.byte, h.width, h.next.old, h.label.old (by decide), h.names.old (by decide), h.size⟩
end Go.Sh
