/- How data lie in memory, and the rules by which the shallow texts are walked. No condition. -/
import Derived.Test.YthepabefikobpaaTypes
import Derived.Laws.AppendOwn
import Derived.Below
namespace Go.Sh
open Go

/-- A block of cells. -/
def Blk (w : World) (b : Nat) (T : TypeId) (cs : List Value) : Prop := w.heap[b]? = some (.cells cs.toArray T (0, 0))
theorem Blk.lt {w : World} {b : Nat} {T : TypeId} {cs : List Value} (h : Blk w b T cs) : b < w.heap.size := (Array.getElem?_eq_some_iff.1 h).1
theorem Blk.chg {p : Nat → Prop} {w w' : World} {b : Nat} {T : TypeId} {cs : List Value} (h : Blk w b T cs) (hc : Chg p w w') (hp : ¬ p b) : Blk w' b T cs := (hc.heap b h.lt hp).trans h
theorem Blk.new (w : World) (T : TypeId) (cs : List Value) : Blk (w.alloc (.cells cs.toArray T)) w.heap.size T cs := by
  show (w.heap.push _)[w.heap.size]? = _
  simp
theorem Blk.cell {w : World} {b : Nat} {T : TypeId} {cs : List Value} (h : Blk w b T cs) {i : Nat} {v : Value} (hv : cs[i]? = some v) : w.cell? ((⟨b, 0, none⟩ : Addr).add i) = some v := by
  by_cases hi : i = 0
  · subst hi; simp [Addr.add, World.cell?, show w.heap[b]? = _ from h, hv]
  · simp [Addr.add, hi, World.cell?, show w.heap[b]? = _ from h, hv]
theorem Blk.frozen {w : World} {b : Nat} {T : TypeId} {cs : List Value} (h : Blk w b T cs) (i : Nat) : w.frozen? ((⟨b, 0, none⟩ : Addr).add i) = false := by
  by_cases hi : i = 0
  · subst hi; simp [Addr.add, World.frozen?, show w.heap[b]? = _ from h]
  · simp [Addr.add, hi, World.frozen?, show w.heap[b]? = _ from h]
theorem Blk.cells {w : World} {b : Nat} {T : TypeId} {cs : List Value} (h : Blk w b T cs) : Cells w ⟨b, 0, none⟩ cs := fun _ _ hv => h.cell hv
theorem Blk.set {w : World} {b : Nat} {T : TypeId} {cs : List Value} (h : Blk w b T cs) (i : Nat) (v : Value) : Blk (w.setCell ((⟨b, 0, none⟩ : Addr).add i) v) b T (cs.set i v) := by
  have hlt := h.lt
  have hb : ((⟨b, 0, none⟩ : Addr).add i).block = b := by simp only [Addr.add]; split <;> rfl
  have ho : ((⟨b, 0, none⟩ : Addr).add i).off = i := by simp only [Addr.add]; split <;> simp [*]
  have hs : ((⟨b, 0, none⟩ : Addr).add i).spot = none := by simp only [Addr.add]; split <;> rfl
  unfold Blk World.setCell
  simp only [hb, ho, hs]
  rw [Array.getElem?_modify]
  simp only [if_true]
  rw [show w.heap[b]? = _ from h]
  simp
theorem Chg.set (w : World) (b i : Nat) (v : Value) : Chg (fun x => x = b) w (w.setCell ((⟨b, 0, none⟩ : Addr).add i) v) := by
  have hb : ((⟨b, 0, none⟩ : Addr).add i).block = b := by simp only [Addr.add]; split <;> rfl
  refine ⟨⟨rfl, rfl, rfl⟩, by simp, fun c _ hn => ?_⟩
  simp only [World.setCell, hb]
  rw [Array.getElem?_modify]
  simp [Ne.symm (show c ≠ b from hn)]
theorem size_set (w : World) (a : Addr) (v : Value) : (w.setCell a v).heap.size = w.heap.size := by simp

/-- A slice of elements of m cells each, read. -/
structure Rd (m : Nat) (S : Nat → Prop) (w : World) (s : Sl) (vs : List Value) : Prop where
  len : vs.length = s.len * m
  cap : s.len ≤ s.cap
  read : s.len ≠ 0 → ∃ a, s.addr = some a ∧ a.spot = none ∧ S a.block ∧ ∀ i v, vs[i]? = some v → w.cell? (a.add i) = some v
theorem cell_block {w w' : World} {a : Addr} (h : w'.heap[a.block]? = w.heap[a.block]?) : w'.cell? a = w.cell? a := by simp [World.cell?, h]
theorem add_block (a : Addr) (i : Nat) : (a.add i).block = a.block := by simp only [Addr.add]; split <;> rfl
theorem Rd.chg {m : Nat} {S p : Nat → Prop} {w w' : World} {s : Sl} {vs : List Value} (h : Rd m S w s vs) (hc : Chg p w w') (hp : ∀ b, S b → ¬ p b) : Rd m S w' s vs := by
  refine ⟨h.len, h.cap, fun h0 => ?_⟩
  obtain ⟨a, h1, h2, h3, h4⟩ := h.read h0
  refine ⟨a, h1, h2, h3, fun i v hv => ?_⟩
  have := h4 i v hv
  have hlt := World.block_lt_of_cell? _ _ this
  rw [cell_block (hc.heap _ hlt (by rw [add_block]; exact hp _ h3))]
  exact this
theorem Rd.mono {m : Nat} {S S' : Nat → Prop} {w : World} {s : Sl} {vs : List Value} (h : Rd m S w s vs) (hs : ∀ b, S b → S' b) : Rd m S' w s vs :=
  ⟨h.len, h.cap, fun h0 => let ⟨a, h1, h2, h3, h4⟩ := h.read h0; ⟨a, h1, h2, hs _ h3, h4⟩⟩
theorem Rd.nil (m : Nat) (S : Nat → Prop) (w : World) (s : Sl) (h : s.len = 0) : Rd m S w s [] := ⟨by simp [h], by omega, fun x => (x h).elim⟩

/-- A slice that is the call's own: it may be written and grown. -/
def Own (n : Nat) (w : World) (s : Sl) (T : TypeId) (m : Nat) (vs : List Value) : Prop := w.ownsRow n T m s.val s.len vs
def ownb (s : Sl) (b : Nat) : Prop := ∃ a, s.addr = some a ∧ a.block = b
theorem Own.nil (n : Nat) (w : World) (T : TypeId) (m : Nat) : Own n w Sl.nil T m [] := ⟨by simp, .inl ⟨rfl, rfl⟩⟩
theorem Own.out {n : Nat} {w : World} {s : Sl} {T : TypeId} {m : Nat} {vs : List Value} (h : Own n w s T m vs) :
    vs.length = s.len * m ∧ ((s = Sl.nil) ∨ ∃ b cs, s.addr = some ⟨b, 0, none⟩ ∧ n ≤ b ∧ Blk w b T cs ∧ s.len ≤ s.cap ∧ s.cap ≤ maxLen ∧ cs.length = s.cap * m ∧ cs.take (s.len * m) = vs) := by
  refine ⟨h.1, ?_⟩
  rcases h.2 with ⟨h1, h2⟩ | ⟨g, cap, cur, h1, h2, h3, h4, h5, h6, h7⟩
  · left
    obtain ⟨a, l, c⟩ := s
    simp only [Sl.val, Value.slice.injEq] at h1
    obtain ⟨rfl, rfl, rfl⟩ := h1
    rfl
  · right
    obtain ⟨a, l, c⟩ := s
    simp only [Sl.val, Value.slice.injEq] at h1
    obtain ⟨rfl, _, rfl⟩ := h1
    exact ⟨g, cur.toList, rfl, h2, by simpa [Blk] using h3, h4, h5, by simpa using h6, h7⟩
theorem Own.mk {n : Nat} {w : World} {s : Sl} {T : TypeId} {m : Nat} {vs : List Value} {b : Nat} {cs : List Value} (ha : s.addr = some ⟨b, 0, none⟩) (hn : n ≤ b) (hb : Blk w b T cs) (hl : s.len ≤ s.cap) (hm : s.cap ≤ maxLen) (hc : cs.length = s.cap * m) (hv : cs.take (s.len * m) = vs) : Own n w s T m vs := by
  have hlen : vs.length = s.len * m := by
    subst hv
    rw [List.length_take, hc]
    exact Nat.min_eq_left (Nat.mul_le_mul_right _ hl)
  obtain ⟨a, l, c⟩ := s
  simp only at ha hl hm hc hv hlen
  subst ha
  exact ⟨hlen, .inr ⟨b, c, cs.toArray, rfl, hn, by simpa [Blk] using hb, hl, hm, by simpa using hc, hv⟩⟩
theorem Own.ge {n : Nat} {w : World} {s : Sl} {T : TypeId} {m : Nat} {vs : List Value} (h : Own n w s T m vs) {b : Nat} (hb : ownb s b) : n ≤ b ∧ b < w.heap.size := by
  obtain ⟨a, h1, rfl⟩ := hb
  rcases h.out.2 with rfl | ⟨b, cs, h2, h3, h4, _⟩
  · cases h1
  · rw [h2] at h1; cases h1; exact ⟨h3, h4.lt⟩
theorem Own.chg {n : Nat} {p : Nat → Prop} {w w' : World} {s : Sl} {T : TypeId} {m : Nat} {vs : List Value} (h : Own n w s T m vs) (hc : Chg p w w') (hp : ∀ b, ownb s b → ¬ p b) : Own n w' s T m vs := by
  rcases h.out with ⟨h0, rfl | ⟨b, cs, h2, h3, h4, h5, h6, h7, h8⟩⟩
  · have : vs = [] := by simpa using h0
    subst this; exact Own.nil _ _ _ _
  · exact Own.mk h2 h3 (h4.chg hc (hp b ⟨_, h2, rfl⟩)) h5 h6 h7 h8
theorem Own.base {n n' : Nat} {w : World} {s : Sl} {T : TypeId} {m : Nat} {vs : List Value} (h : Own n w s T m vs) (hn : n' ≤ n) : Own n' w s T m vs := by
  rcases h.out with ⟨h0, rfl | ⟨b, cs, h2, h3, h4, h5, h6, h7, h8⟩⟩
  · have : vs = [] := by simpa using h0
    subst this; exact Own.nil _ _ _ _
  · exact Own.mk h2 (Nat.le_trans hn h3) h4 h5 h6 h7 h8
theorem Own.rd {n : Nat} {S : Nat → Prop} {w : World} {s : Sl} {T : TypeId} {m : Nat} {vs : List Value} (h : Own n w s T m vs) (hS : ∀ b, ownb s b → S b) : Rd m S w s vs := by
  refine ⟨h.out.1, by rcases h.out.2 with rfl | ⟨b, cs, h2, h3, h4, h5, h6, h7, h8⟩ <;> first | exact Nat.le_refl _ | exact h5, fun h0 => ?_⟩
  rcases h.out.2 with rfl | ⟨b, cs, h2, h3, h4, h5, h6, h7, h8⟩
  · exact (h0 rfl).elim
  · refine ⟨_, h2, rfl, hS _ ⟨_, h2, rfl⟩, fun i v hv => h4.cell ?_⟩
    rw [← h8, List.getElem?_take] at hv
    split at hv
    · exact hv
    · cases hv
theorem Own.len {n : Nat} {w : World} {s : Sl} {T : TypeId} {m : Nat} {vs : List Value} (h : Own n w s T m vs) : vs.length = s.len * m := h.1

theorem andThen_ok {α β : Type} {r : Result α} {f : α → World → Result β} {y : β} {w' : World} (h : r.andThen f = .ok y w') : ∃ x w1, r = .ok x w1 ∧ f x w1 = .ok y w' := by
  cases r with
  | ok x w1 => exact ⟨x, w1, rfl, h⟩
  | halt x w1 => cases h
section
variable {P : Program}
def Qt {α : Type} (P : Program) (s : Sem α) : Prop := ∀ w x w', s.run P w = .ok x w' → w'.heap = w.heap
theorem Qt.bind {α β : Type} {s : Sem α} {f : α → Sem β} (h : Qt P s) (h' : ∀ x, Qt P (f x)) : Qt P (s >>= f) := by
  intro w x w' hr
  rw [Sem.run_bind] at hr
  obtain ⟨y, w1, h1, h2⟩ := andThen_ok hr
  rw [h' _ _ _ _ h2, h _ _ _ h1]
theorem Qt.pure {α : Type} (x : α) : Qt P (Pure.pure x : Sem α) := by intro w y w' h; simp at h; rw [h.2]
theorem Qt.stuck {α : Type} (s : String) : Qt P (Go.stuck s : Sem α) := by intro w y w' h; cases h
theorem Qt.program : Qt P Go.program := by intro w y w' h; simp [Go.program, Sem.run] at h; rw [h.2]
theorem Qt.typeInfo (t : TypeId) : Qt P (Go.typeInfo t) := Qt.bind Qt.program fun p => by split <;> first | exact Qt.pure _ | exact Qt.stuck _
theorem Qt.sizeOf (t : TypeId) : Qt P (Go.sizeOf t) := Qt.bind (Qt.typeInfo t) fun _ => Qt.pure _
theorem Qt.zeroValue (t : TypeId) : Qt P (Go.zeroValue t) := Qt.bind (Qt.typeInfo t) fun _ => by
  split
  · exact Qt.pure _
  · intro w y w' h; cases h
theorem Qt.load (a : Addr) : Qt P (Go.load a) := by
  intro w x w' h
  rw [run_load] at h
  split at h
  · cases h; rfl
  · split at h
    · cases h; rfl
    · cases h
theorem Qt.loadCellsFrom (a : Addr) : ∀ (n i : Nat) (acc : Array Value), Qt P (Go.loadCellsFrom a i n acc)
  | 0, _, _ => Qt.pure _
  | n + 1, _, _ => Qt.bind (Qt.load _) fun _ => Qt.loadCellsFrom a n _ _
theorem Qt.firstCells (m n : Nat) (v : Value) : Qt P (Builtin.firstCells m n v) := by
  unfold Builtin.firstCells
  split
  · exact Qt.loadCellsFrom _ _ _ _
  · exact Qt.pure _
  · exact Qt.pure _
  · exact Qt.stuck _
theorem Qt.choose (q : Question) : Qt P (Go.choose q) := by
  intro w x w' h
  simp only [Go.choose, Sem.run] at h
  split at h <;> cases h <;> rfl
theorem Qt.askRoom (n : Nat) : Qt P (Go.askRoom n) := by
  unfold Go.askRoom
  split
  · intro w x w' h; simp [mark, Sem.run] at h; rw [h]
  · exact Qt.pure _
theorem Qt.panic {α : Type} (e : RuntimeError) (w : World) (x : α) (w' : World) : ¬ (runtimePanic e : Sem α).run P w = .ok x w' := by
  intro h
  cases e <;> simp [runtimePanic, Go.program, Sem.run, goPanic, newVar, newRow, newObj] at h <;> (try cases h)
  all_goals (obtain ⟨_, _, _, h⟩ := andThen_ok h; cases h)
end
theorem append_block {P : Program} {t ty T : Nat} {l c l' c' : Nat} {base a r : Option Addr} {w w' : World} (ht : P.underlying t = some (.slice T))
    (h : (Builtin.append_ #[t, t] ty #[.slice base l c, .slice a 1 1]).run P w = .ok (.slice r l' c') w') : r = base ∨ ∃ b, r = some ⟨b, 0, none⟩ ∧ w.heap.size ≤ b := by
  have hu : ∀ w, (underlying t).run P w = .ok (.slice T) w := fun w => run_underlying ht w
  simp only [Builtin.append_, hu, Builtin.lenOf, Sem.run_bind, Result.andThen_ok, List.getElem?_toArray, List.getElem?_cons_zero, List.getElem?_cons_succ, pure_bind] at h
  obtain ⟨m, w1, h1, h⟩ := andThen_ok h
  have e1 := Qt.sizeOf _ _ _ _ h1
  simp only [Bool.false_eq_true, if_false, Bool.not_false, if_true, false_or] at h
  split at h
  · rename_i hne
    rw [Sem.run_bind] at h
    obtain ⟨cs, w2, h2, h⟩ := andThen_ok h
    cases base with
    | none => simp at h; exact .inl h.1.1.symm
    | some b =>
      simp at h
      obtain ⟨u, w3, h3, h⟩ := andThen_ok h
      cases h
      exact .inl rfl
  · rw [Sem.run_bind] at h
    obtain ⟨ti, w2, h2, h⟩ := andThen_ok h
    have e2 := Qt.typeInfo _ _ _ _ h2
    split at h
    · rw [Sem.run_bind] at h
      obtain ⟨_, _, hp, _⟩ := andThen_ok h
      exact (Qt.panic _ _ _ _ hp).elim
    · rw [Sem.run_bind] at h
      obtain ⟨tj, w3, h3, h⟩ := andThen_ok h
      have e3 := Qt.typeInfo _ _ _ _ h3
      split at h
      · exfalso
        simp only [Sem.run_bind] at h
        obtain ⟨x, w4, h4, h⟩ := andThen_ok h
        obtain ⟨y, w5, _, h5⟩ := andThen_ok h4
        split at h5
        · rw [Sem.run_bind] at h5
          obtain ⟨_, _, _, h6⟩ := andThen_ok h5
          cases h6
        · cases h5
      · simp only [Sem.run_bind] at h
        obtain ⟨nc, w4, h4, h⟩ := andThen_ok h
        obtain ⟨tk, w5, h5, h⟩ := andThen_ok h
        obtain ⟨_, w6, h6, h⟩ := andThen_ok h
        obtain ⟨old, w7, h7, h⟩ := andThen_ok h
        obtain ⟨new, w8, h8, h⟩ := andThen_ok h
        obtain ⟨z, w9, h9, h⟩ := andThen_ok h
        obtain ⟨row, w10, h10, h⟩ := andThen_ok h
        have e4 := Qt.choose _ _ _ _ h4
        have e5 := Qt.typeInfo _ _ _ _ h5
        have e6 := Qt.askRoom _ _ _ _ h6
        have e7 := Qt.firstCells _ _ _ _ _ _ h7
        have e8 := Qt.firstCells _ _ _ _ _ _ h8
        have e9 := Qt.zeroValue _ _ _ _ h9
        simp [newRow, newObj, Sem.run] at h10
        cases h
        obtain ⟨rfl, _⟩ := h10
        exact .inr ⟨w9.heap.size, rfl, by rw [e9, e8, e7, e6, e5, e4, e3, e2, e1]; exact Nat.le_refl _⟩

section
variable {α γ : Type} {k : γ → World → Prop} {w : World}
/-- Reading an element of one cell. -/
theorem M.rd {S : Nat → Prop} {s : Sl} {L : List α} {e : α → Value} {f : α → M γ} {i : Int} (h : Rd 1 S w s (L.map e)) (h0 : 0 ≤ i) {x : α} (hx : L[i.toNat]? = some x) (hf : f x w k) : M.ix s i 1 (fun a => M.ld e a f) w k := by
  have hl : L.length = s.len := by simpa using h.len
  have hlt : i.toNat < L.length := (List.getElem?_eq_some_iff.1 hx).1
  obtain ⟨a, h1, h2, h3, h4⟩ := h.read (by omega)
  refine ⟨_, a, h1, ⟨h0, by omega⟩, rfl, x, ?_, hf⟩
  rw [Nat.mul_one]
  exact h4 _ _ (by simp [hx])
/-- Where an element lies. -/
theorem M.ix_at {m : Nat} {S : Nat → Prop} {s : Sl} {vs : List Value} {f : Addr → M γ} {i : Int} (h : Rd m S w s vs) (h0 : 0 ≤ i) (hi : i < s.len) (hf : ∀ a, S a.block → (∀ j v, vs[i.toNat * m + j]? = some v → j < m → w.cell? (a.add j) = some v) → f a w k) : M.ix s i m f w k := by
  obtain ⟨a, h1, h2, h3, h4⟩ := h.read (by omega)
  refine ⟨_, a, h1, ⟨h0, hi⟩, rfl, hf _ (by rw [add_block]; exact h3) fun j v hv _ => ?_⟩
  have := h4 _ _ hv
  have e : (a.add (i.toNat * m)).add j = a.add (i.toNat * m + j) := by
    obtain ⟨b, o, sp⟩ := a
    simp only at h2
    subst h2
    simp only [Addr.add]
    by_cases h0 : i.toNat * m = 0
    · simp [h0]
    · by_cases hj : j = 0
      · simp [hj]
      · simp [h0, hj, Nat.add_assoc]
  rw [e]; exact this
theorem add_add (a : Addr) (h : a.spot = none) (i j : Nat) : (a.add i).add j = a.add (i + j) := by
  obtain ⟨b, o, sp⟩ := a
  simp only at h
  subst h
  simp only [Addr.add]
  by_cases h0 : i = 0
  · simp [h0]
  · by_cases hj : j = 0
    · simp [hj]
    · simp [h0, hj, Nat.add_assoc]
/-- A part of a slice. -/
theorem Rd.cut {m : Nat} {S : Nat → Prop} {s : Sl} {vs : List Value} (h : Rd m S w s vs) (lo hi mx : Nat) (h1 : lo ≤ hi) (h2 : hi ≤ s.len) (h3 : hi ≤ mx) : Rd m S w (s.cut lo hi mx m) ((vs.drop (lo * m)).take ((hi - lo) * m)) := by
  refine ⟨?_, ?_, fun h0 => ?_⟩
  · simp only [Sl.cut, List.length_take, List.length_drop, h.len, Int.toNat_natCast]
    rw [← Nat.sub_mul]
    exact Nat.min_eq_left (Nat.mul_le_mul_right _ (by omega))
  · simp only [Sl.cut, Int.toNat_natCast]; omega
  · simp only [Sl.cut, Int.toNat_natCast] at h0
    obtain ⟨a, g1, g2, g3, g4⟩ := h.read (by omega)
    refine ⟨a.add (lo * m), ?_, ?_, by rw [add_block]; exact g3, fun i v hv => ?_⟩
    · simp only [Sl.cut, Int.toNat_natCast, g1, Option.map_some]
      rw [if_neg (by omega)]
    · simp only [Addr.add]; split <;> first | exact g2 | rfl
    · rw [add_add _ g2]
      rw [List.getElem?_take] at hv
      split at hv
      · rw [List.getElem?_drop] at hv
        exact g4 _ _ hv
      · cases hv
theorem M.cut_rd {m : Nat} {S : Nat → Prop} {s : Sl} {vs : List Value} {lo hi mx : Nat} {f : Sl → M γ} (h : Rd m S w s vs) (h1 : lo ≤ hi) (h2 : hi ≤ s.len) (h3 : hi ≤ mx) (h4 : mx ≤ s.cap) (hf : ∀ t, Rd m S w t ((vs.drop (lo * m)).take ((hi - lo) * m)) → t = s.cut lo hi mx m → f t w k) : M.cut s lo hi mx m f w k :=
  ⟨_, ⟨by omega, by omega, by omega, by omega⟩, rfl, hf _ (h.cut lo hi mx h1 h2 h3) rfl⟩
/-- One element more, of m cells. -/
theorem M.app {P : Program} {n : Nat} {s : Sl} {t ty T m bytes : Nat} {info : TypeInfo} {z : Value} {vs cs : List Value} {f : Sl → M γ}
    (ht : P.underlying t = some (.slice T)) (hi : P.info? T = some info) (hz : info.zero = some z) (hsz : info.size = m) (hby : info.bytes = bytes) (hzs : z.cells.size = m) (hm : 0 < m)
    (h : Own n w s T m vs) (hcs : cs.length = m) (ho : ∀ u ∈ cs, one1 u = true) (hn : n ≤ w.heap.size) (hb : (s.len + 1) * bytes ≤ 140737488355328) (hl : s.len < 140737488355328)
    (hf : ∀ r w', Own n w' r T m (vs ++ cs) → r.len = s.len + 1 → Chg (ownb s) w w' → (∀ b, ownb r b → ownb s b ∨ w.heap.size ≤ b) → f r w' k) :
    M.new T cs (fun b => M.run P (Builtin.append_ #[t, t] ty #[s.val, Sl.val ⟨some b, 1, 1⟩]) Sl.val f) w k := by
  have hown : (w.alloc (.cells cs.toArray T)).ownsRow n T m s.val s.len vs := by
    have := h.chg (Grow.alloc w (.cells cs.toArray T)) (fun _ _ x => x)
    exact this
  have hb2 := Blk.new w T cs
  obtain ⟨v', w', h1, h2, h3, _⟩ := run_append_own (P := P) (w.alloc (.cells cs.toArray T)) n t ty T info z m bytes ht hi hz hsz hby hzs hm s.val s.len vs hown ⟨w.heap.size, 0, none⟩ 1 1 cs (by simpa using hcs)
    (fun j u hu => hb2.cell hu) (fun u hu => by have := ho u hu; cases u <;> simp_all [one1, Value.oneCell']) (by simp only [maxLen]; omega) (by simpa using hb) (by simp; omega)
  have hv : ∃ r : Sl, v' = r.val ∧ r.len = s.len + 1 := by
    rcases h2.2 with ⟨_, h0⟩ | ⟨g, cap, cur, rfl, _⟩
    · omega
    · exact ⟨⟨_, _, _⟩, rfl, rfl⟩
  obtain ⟨r, rfl, hr⟩ := hv
  have hown' : Own n w' r T m (vs ++ cs) := by unfold Own; rw [hr]; exact h2
  have hchg : Chg (ownb s) w w' := by
    refine ⟨⟨h3.os, h3.tape, h3.output⟩, by have := h3.size; simp at this; omega, fun b hb hnb => ?_⟩
    have hne : some b ≠ s.val.ownBlock := by
      intro e
      apply hnb
      obtain ⟨a, l, c⟩ := s
      cases a with
      | none => simp [Value.ownBlock] at e
      | some a => simp [Value.ownBlock] at e; exact ⟨a, rfl, e.symm⟩
    rw [h3.block b (by simp; omega) hne]
    exact (Grow.alloc w _).heap b hb (fun x => x)
  refine ⟨r, w', h1, hf r w' hown' hr hchg fun b hb => ?_⟩
  by_cases hge : w.heap.size ≤ b
  · exact .inr hge
  · left
    -- an old block that the new slice lies in is the old slice's
    have hlt : b < w.heap.size := by omega
    obtain ⟨a, hra, hab⟩ := hb
    rcases append_block ht h1 with e | ⟨b', e, hge'⟩
    · exact ⟨a, e.symm.trans hra, hab⟩
    · rw [e] at hra
      cases hra
      simp at hge' hab
      omega
end
end Go.Sh

namespace Go.Sh
open Go
abbrev Big : Nat := 140737488355328
theorem wI_id {x : Int} (h1 : -9223372036854775808 ≤ x) (h2 : x < 9223372036854775808) : wI x = x := by
  have key : wI x = if 9223372036854775808 ≤ x % 18446744073709551616 then x % 18446744073709551616 - 18446744073709551616 else x % 18446744073709551616 := by
    simp [wI, IntKind.wrap, IntKind.bits, IntKind.signed]
  rw [key]
  split <;> omega
theorem wI_succ {i : Nat} (h : i ≤ Big) : wI ((i : Int) + 1) = ((i + 1 : Nat) : Int) := by
  rw [wI_id] <;> simp only [Big] at h <;> omega
section
variable {α γ σ : Type} {k : γ → World → Prop} {w : World}
theorem M.if_ {p : Prop} [Decidable p] {f g : M γ} (hp : p → f w k) (hn : ¬ p → g w k) : M.ite (decide p) f g w k := ⟨fun h => hp (of_decide_eq_true h), fun h => hn (of_decide_eq_false h)⟩
theorem M.ifn {p : Prop} [Decidable p] {f g : M γ} (hp : p → g w k) (hn : ¬ p → f w k) : M.ite (!decide p) f g w k := ⟨fun h => hn (by simpa using h), fun h => hp (by simpa using h)⟩
theorem M.ifb {b : Bool} {f g : M γ} (ht : b = true → f w k) (hf : b = false → g w k) : M.ite b f g w k := ⟨ht, hf⟩
theorem M.call_of {P : Program} {g : FuncId} {args : List Value} {e : α → Value} {f : α → M γ} {R : α → World → Prop} (h : Calls P g args.toArray w (Ret e R)) (hk : ∀ r w', R r w' → f r w' k) : M.call P g args e f w k :=
  Calls.mono h fun _ _ ⟨r, hr, hR⟩ => ⟨r, hr, hk _ _ hR⟩
theorem M.callv_of {P : Program} {fv : Value} {args : List Value} {e : α → Value} {f : α → M γ} {R : α → World → Prop} (h : Inv P fv args w fun v w' => ∃ r, v = e r ∧ R r w') (hk : ∀ r w', R r w' → f r w' k) : M.callv P fv args e f w k := by
  rcases h with ⟨g, cap, h1, h2, h3⟩ | ⟨l, h1, fn, tm, asg, bd, h2, h3⟩
  · exact .inl ⟨g, cap, h1, h2, Calls.mono h3 fun _ _ ⟨v, hv, r, hr, hR⟩ => ⟨v, hv, r, hr, hk _ _ hR⟩⟩
  · exact .inr ⟨l, h1, fn, tm, asg, bd, h2, RoundIn.mono h3 fun _ _ ⟨v, hv, r, hr, hR⟩ => ⟨v, hv, r, hr, hk _ _ hR⟩⟩
/-- A new block. -/
theorem M.new_of {T : TypeId} {cs : List Value} {f : Addr → M γ} (h : ∀ b w', b = w.heap.size → Blk w' b T cs → Grow w w' → w'.heap.size = w.heap.size + 1 → f ⟨b, 0, none⟩ w' k) : M.new T cs f w k :=
  h _ _ rfl (Blk.new w T cs) (Grow.alloc w _) (by simp)
theorem M.ldB {e : α → Value} {b T : Nat} {cs : List Value} {f : α → M γ} {x : α} (i : Nat) (h : Blk w b T cs) (hx : cs[i]? = some (e x)) (hf : f x w k) : M.ld e ((⟨b, 0, none⟩ : Addr).add i) f w k := ⟨x, h.cell hx, hf⟩
theorem M.ld0 {e : α → Value} {b T : Nat} {cs : List Value} {f : α → M γ} {x : α} (h : Blk w b T cs) (hx : cs[0]? = some (e x)) (hf : f x w k) : M.ld e ⟨b, 0, none⟩ f w k := ⟨x, h.cell (i := 0) hx, hf⟩
theorem M.ldA0 {e : α → List Value} {b T : Nat} {cs : List Value} {f : α → M γ} {x : α} (h : Blk w b T cs) (hx : cs = e x) (hf : f x w k) : M.ldA e ⟨b, 0, none⟩ f w k := ⟨x, hx ▸ h.cells, hf⟩
theorem M.stB {b T : Nat} {cs : List Value} {f : M γ} {v : Value} (i : Nat) (h : Blk w b T cs) (hi : i < cs.length) (hf : ∀ w', Blk w' b T (cs.set i v) → Chg (fun x => x = b) w w' → w'.heap.size = w.heap.size → f w' k) : M.st ((⟨b, 0, none⟩ : Addr).add i) v f w k :=
  ⟨⟨_, h.cell (List.getElem?_eq_getElem hi)⟩, h.frozen i, hf _ (h.set i v) (Chg.set w b i v) (by simp)⟩
theorem M.st0 {b T : Nat} {cs : List Value} {f : M γ} {v : Value} (h : Blk w b T cs) (hi : 0 < cs.length) (hf : ∀ w', Blk w' b T (cs.set 0 v) → Chg (fun x => x = b) w w' → w'.heap.size = w.heap.size → f w' k) : M.st ⟨b, 0, none⟩ v f w k :=
  M.stB 0 h hi hf
theorem M.drew_of {f : M γ} (h : ∀ w', w'.heap = w.heap → Grow w w' → f w' k) : M.drew f w k := h _ rfl (Grow.drew w)
end
end Go.Sh
