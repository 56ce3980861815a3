/- Maps: how one that the call makes lies in memory; look-up, store, length. No condition. -/
import Derived.Test.YthepabefikobpaaData
namespace Go.Sh
open Go
def Mp {α β : Type} (w : World) (r : Nat) (ek : α → Value) (ev : β → Value) (l : List (α × β)) : Prop :=
  ∃ es clock, w.heap[r]? = some (.map es clock) ∧ es.toList.map (fun e => (e.key, e.val)) = l.map fun p => (ek p.1, ev p.2)
theorem Mp.lt {α β : Type} {w : World} {r : Nat} {ek : α → Value} {ev : β → Value} {l : List (α × β)} (h : Mp w r ek ev l) : r < w.heap.size := by
  obtain ⟨es, clock, h, _⟩ := h
  exact (Array.getElem?_eq_some_iff.1 h).1
theorem Mp.chg {α β : Type} {p : Nat → Prop} {w w' : World} {r : Nat} {ek : α → Value} {ev : β → Value} {l : List (α × β)} (h : Mp w r ek ev l) (hc : Chg p w w') (hp : ¬ p r) : Mp w' r ek ev l := by
  have hlt := h.lt
  obtain ⟨es, clock, h1, h2⟩ := h
  exact ⟨es, clock, (hc.heap r hlt hp).trans h1, h2⟩
def assoc {α β : Type} [DecidableEq α] (l : List (α × β)) (a : α) : Option β := (l.find? (fun p => decide (p.1 = a))).map (·.2)

/-- How keys of a type are compared. -/
structure KeyLaw {α : Type} [DecidableEq α] (P : Program) (K : TypeId) (ek : α → Value) : Prop where
  chk : ∀ e a w, (Instr.checkKey e 10000 K (ek a)).run P w = .ok () w
  find : ∀ a (es : List MapEntry) (l : List α) (w : World), es.map (·.key) = l.map ek → (Instr.findKey K (ek a) es).run P w = .ok ((l.findIdx? (fun x => decide (x = a))).bind fun i => (es[i]?).map fun e => (i, e.val)) w
  bits : ∀ a, Instr.sameBits 10000 (ek a) (ek a) = true

theorem findNow_int {k : IntKind} (t : TypeDesc) (ht : t = .int k) (a : Int) : ∀ (es : List MapEntry) (l : List Int) (i : Nat), es.map (·.key) = l.map (Value.int k) →
    Instr.findNow t (.int k a) es i = some ((l.findIdx? (fun x => decide (x = a))).bind fun j => (es[j]?).map fun e => (i + j, e.val))
  | [], l, i, h => by
    obtain rfl : l = [] := by simpa using h.symm
    rfl
  | e :: es, l, i, h => by
    subst ht
    cases l with
    | nil => simp at h
    | cons x l =>
      simp only [List.map_cons, List.cons.injEq] at h
      simp only [Instr.findNow, h.1, Instr.sameNow, if_true]
      by_cases hx : a = x
      · subst hx; simp [List.findIdx?_cons]
      · have : (a == x) = false := by simpa using hx
        rw [this]
        simp only
        rw [findNow_int (k := k) _ rfl a es l (i + 1) h.2]
        have hx' : ¬ x = a := fun e => hx e.symm
        simp only [List.findIdx?_cons, hx', decide_false, Bool.false_eq_true, if_false]
        cases l.findIdx? (fun x => decide (x = a)) with
        | none => rfl
        | some j => simp only [Option.map_some, Option.bind_some, List.getElem?_cons_succ]; congr 1; simp only [Nat.add_assoc, Nat.add_comm 1 j]

theorem chk_int {P : Program} {K : TypeId} {k : IntKind} (hK : P.underlying K = some (.int k)) (e : Bool) (n : Nat) (a : Int) (w : World) : (Instr.checkKey e (n + 1) K (.int k a)).run P w = .ok () w := by
  have hu : ∀ w, (underlying K).run P w = .ok (.int k) w := fun w => run_underlying hK w
  simp [Instr.checkKey, hu]
theorem bits_int (n : Nat) (k : IntKind) (a : Int) : Instr.sameBits (n + 1) (.int k a) (.int k a) = true := by simp [Instr.sameBits]
theorem KeyLaw.int {P : Program} {K : TypeId} {k : IntKind} (hK : P.underlying K = some (.int k)) : KeyLaw P K (Value.int k) where
  chk := fun e a w => chk_int hK e 9999 a w
  find := fun a es l w h => by
    have hu : ∀ w, (underlying K).run P w = .ok (.int k) w := fun w => run_underlying hK w
    simp only [Instr.findKey, Sem.run_bind, hu, Result.andThen_ok]
    rw [findNow_int (k := k) _ rfl a es l 0 h]
    simp
  bits := fun a => bits_int 9999 k a

section
variable {α β γ : Type} [DecidableEq α] {P : Program} {k : γ → World → Prop} {w : World} {ek : α → Value} {ev : β → Value} {l : List (α × β)} {r T K E : Nat}
theorem assoc_find {es : List MapEntry} (h : es.map (fun e => (e.key, e.val)) = l.map fun p => (ek p.1, ev p.2)) (a : α) :
    ((l.map (·.1)).findIdx? (fun x => decide (x = a))).bind (fun i => (es[i]?).map fun e => (i, e.val)) = ((l.map (·.1)).findIdx? (fun x => decide (x = a))).bind fun i => (l[i]?).map fun p => (i, ev p.2) := by
  congr 1
  funext i
  have := congrArg (fun x => x[i]?) h
  simp only [List.getElem?_map] at this
  cases he : es[i]? <;> cases hl : l[i]? <;> simp [he, hl] at this ⊢
  exact this.2
theorem assoc_idx (a : α) : assoc l a = ((l.map (·.1)).findIdx? (fun x => decide (x = a))).bind fun i => (l[i]?).map (·.2) := by
  unfold assoc
  induction l with
  | nil => rfl
  | cons p l ih =>
    simp only [List.find?_cons, List.map_cons, List.findIdx?_cons]
    by_cases h : p.1 = a
    · simp [h]
    · simp only [h, decide_false, Bool.false_eq_true, if_false]
      rw [ih]
      cases (l.map (·.1)).findIdx? (fun x => decide (x = a)) <;> simp
theorem run_find (law : KeyLaw P K ek) {es : Array MapEntry} (h : es.toList.map (fun e => (e.key, e.val)) = l.map fun p => (ek p.1, ev p.2)) (a : α) (w : World) :
    (Instr.findKey K (ek a) es.toList).run P w = .ok (((l.map (·.1)).findIdx? (fun x => decide (x = a))).bind fun i => (l[i]?).map fun p => (i, ev p.2)) w := by
  rw [law.find a es.toList (l.map (·.1)) w (by have := congrArg (fun x => x.map Prod.fst) h; simpa [List.map_map, Function.comp_def] using this), assoc_find h]
theorem run_lookup (hT : P.underlying T = some (.map K E)) (law : KeyLaw P K ek) (hm : Mp w r ek ev l) {z : Value} (hz : ∀ w, (zeroValue E).run P w = .ok z w) (a : α) (ok : Bool) :
    (Instr.lookup T (.map (some r)) (ek a) ok).run P w = .ok (if ok then .tuple #[((assoc l a).map ev).getD z, .bool (assoc l a).isSome] else ((assoc l a).map ev).getD z) w := by
  have hu : ∀ w, (underlying T).run P w = .ok (.map K E) w := fun w => run_underlying hT w
  obtain ⟨es, clock, h1, h2⟩ := hm
  have hg : (getObj r).run P w = .ok (.map es clock) w := by simp [getObj, Sem.run, h1]
  simp only [Instr.lookup, Sem.run_bind, hu, Result.andThen_ok, hg, Sem.run_pure, law.chk, run_find law h2, assoc_idx]
  cases hf : ((l.map (·.1)).findIdx? (fun x => decide (x = a))).bind fun i => (l[i]?).map fun p => (i, ev p.2) with
  | none =>
    have hn : (((l.map (·.1)).findIdx? (fun x => decide (x = a))).bind fun i => (l[i]?).map (·.2)) = none := by
      cases h3 : (l.map (·.1)).findIdx? (fun x => decide (x = a)) with
      | none => rfl
      | some i =>
        rw [h3] at hf
        simp only [Option.bind_some, Option.map_eq_none_iff] at hf ⊢
        exact hf
    rw [hn]
    simp only [Sem.run_bind, hz, Result.andThen_ok, Sem.run_pure]
    cases ok <;> simp
  | some p =>
    have hn : ∃ b, (((l.map (·.1)).findIdx? (fun x => decide (x = a))).bind fun i => (l[i]?).map (·.2)) = some b ∧ p.2 = ev b := by
      cases h3 : (l.map (·.1)).findIdx? (fun x => decide (x = a)) with
      | none => rw [h3] at hf; cases hf
      | some i =>
        rw [h3] at hf
        simp only [Option.bind_some, Option.map_eq_some_iff] at hf ⊢
        obtain ⟨q, hq, rfl⟩ := hf
        exact ⟨q.2, ⟨q, hq, rfl⟩, rfl⟩
    obtain ⟨b, hb, hp⟩ := hn
    rw [hb]
    obtain ⟨i, v⟩ := p
    simp only at hp
    subst hp
    cases ok <;> simp
theorem M.look1 (hT : P.underlying T = some (.map K E)) (law : KeyLaw P K ek) (hm : Mp w r ek ev l) {z : β} (hz : ∀ w, (zeroValue E).run P w = .ok (ev z) w) (a : α) {f : β → M γ} (hf : f ((assoc l a).getD z) w k) :
    M.look P (Instr.lookup T (.map (some r)) (ek a) false) ev f w k := by
  refine ⟨_, ?_, hf⟩
  rw [run_lookup hT law hm hz a false]
  cases assoc l a <;> simp
theorem M.lookOk (hT : P.underlying T = some (.map K E)) (law : KeyLaw P K ek) (hm : Mp w r ek ev l) {z : β} (hz : ∀ w, (zeroValue E).run P w = .ok (ev z) w) (a : α) {f : β × Bool → M γ} (hf : f ((assoc l a).getD z, (assoc l a).isSome) w k) :
    M.look P (Instr.lookup T (.map (some r)) (ek a) true) (fun x : β × Bool => .tuple #[ev x.1, .bool x.2]) f w k := by
  refine ⟨_, ?_, hf⟩
  rw [run_lookup hT law hm hz a true]
  cases assoc l a <;> simp
/-- A key that is not there yet. -/
theorem run_insert (hT : P.underlying T = some (.map K E)) (law : KeyLaw P K ek) (hm : Mp w r ek ev l) (a : α) (b : β) (hn : assoc l a = none) :
    ∃ w', (Instr.mapUpdate T (.map (some r)) (ek a) (ev b)).run P w = .ok () w' ∧ Mp w' r ek ev (l ++ [(a, b)]) ∧ Chg (fun x => x = r) w w' ∧ w'.heap.size = w.heap.size := by
  have hu : ∀ w, (underlying T).run P w = .ok (.map K E) w := fun w => run_underlying hT w
  have hlt := hm.lt
  obtain ⟨es, clock, h1, h2⟩ := hm
  have hg : (getObj r).run P w = .ok (.map es clock) w := by simp [getObj, Sem.run, h1]
  have hf : ((l.map (·.1)).findIdx? (fun x => decide (x = a))).bind (fun i => (l[i]?).map fun p => (i, ev p.2)) = none := by
    rw [assoc_idx] at hn
    cases h3 : (l.map (·.1)).findIdx? (fun x => decide (x = a)) with
    | none => rfl
    | some i =>
      rw [h3] at hn
      simp only [Option.bind_some, Option.map_eq_none_iff] at hn ⊢
      exact hn
  refine ⟨{ w with heap := w.heap.setIfInBounds r (.map (es.push { key := ek a, val := ev b, born := clock }) (clock + 1)) }, ?_, ⟨es.push { key := ek a, val := ev b, born := clock }, clock + 1, ?_, ?_⟩, ⟨⟨rfl, rfl, rfl⟩, by simp, fun c _ hc => ?_⟩, by simp⟩
  · simp only [Instr.mapUpdate, Sem.run_bind, hu, Result.andThen_ok, hg, law.chk, run_find law h2, hf]
    simp [setObj, Sem.run, h1]
  · simp [hlt]
  · simp [h2]
  · exact Array.getElem?_setIfInBounds_ne (Ne.symm hc)
theorem M.insert (hT : P.underlying T = some (.map K E)) (law : KeyLaw P K ek) (hm : Mp w r ek ev l) (a : α) (b : β) (hn : assoc l a = none) {f : M γ}
    (hf : ∀ w', Mp w' r ek ev (l ++ [(a, b)]) → Chg (fun x => x = r) w w' → w'.heap.size = w.heap.size → f w' k) : M.runU P (Instr.mapUpdate T (.map (some r)) (ek a) (ev b)) f w k := by
  obtain ⟨w', h1, h2, h3, h4⟩ := run_insert hT law hm a b hn
  exact ⟨w', h1, hf w' h2 h3 h4⟩
omit [DecidableEq α] in
theorem Mp.len_run {ty : Nat} (hT : P.underlying T = some (.map K E)) (hm : Mp w r ek ev l) : (Builtin.len_ #[T] ty #[.map (some r)]).run P w = .ok (vI l.length) w := by
  have hu : ∀ w, (underlying T).run P w = .ok (.map K E) w := fun w => run_underlying hT w
  obtain ⟨es, clock, h1, h2⟩ := hm
  have hg : (getObj r).run P w = .ok (.map es clock) w := by simp [getObj, Sem.run, h1]
  have : es.size = l.length := by have := congrArg List.length h2; simpa using this
  simp [Builtin.len_, hu, hg, goInt, this]
omit [DecidableEq α] in
theorem M.mkMap {f : Option Nat → M γ} (h : ∀ r w', r = w.heap.size → Mp w' r ek ev [] → Grow w w' → w'.heap.size = w.heap.size + 1 → f (some r) w' k) : M.run P (Instr.makeMap T none) Value.map f w k := by
  refine ⟨some w.heap.size, w.alloc (.map #[] 0), by simp [Instr.makeMap, newObj, Sem.run], h _ _ rfl ⟨#[], 0, ?_, rfl⟩ (Grow.alloc w _) (by simp)⟩
  show (w.heap.push _)[w.heap.size]? = _
  simp
end
end Go.Sh
