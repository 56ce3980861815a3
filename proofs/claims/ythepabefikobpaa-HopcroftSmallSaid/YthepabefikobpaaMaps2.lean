/- Pairs of numbers as keys; a key that is there is written anew. No condition. -/
import Derived.Test.YthepabefikobpaaData2
namespace Go.Sh
open Go
section
variable {P : Program} {K elem : TypeId}
def ePr (p : Int × Int) : Value := .agg (Pr.cs p).toArray
theorem part_int (w : World) (ha : ∀ w, (isAgg elem).run P w = .ok false w) (p : Int × Int) : (part elem (Pr.cs p).toArray (0 * 1)).run P w = .ok (vI p.1) w ∧ (part elem (Pr.cs p).toArray (1 * 1)).run P w = .ok (vI p.2) w := by
  constructor <;> simp [part, ha, Pr.cs]
theorem chk_pair (hK : P.underlying K = some (.array 2 elem)) (hE : P.underlying elem = some (.int .i64)) (hs : ∀ w, (sizeOf elem).run P w = .ok 1 w) (ha : ∀ w, (isAgg elem).run P w = .ok false w) (e : Bool) (n : Nat) (p : Int × Int) (w : World) :
    (Instr.checkKey e (n + 2) K (ePr p)).run P w = .ok () w := by
  have hu : ∀ w, (underlying K).run P w = .ok (.array 2 elem) w := fun w => run_underlying hK w
  rw [Instr.checkKey]
  simp only [Sem.run_bind, hu, Result.andThen_ok, ePr, Std.Legacy.Range.forIn_eq_forIn_range', Std.Legacy.Range.size]
  simp only [show (2 - 0 + 1 - 1) / 1 = 2 from rfl, show List.range' 0 2 1 = [0, 1] from rfl, List.forIn_cons, List.forIn_nil, Sem.run_bind, hs, Result.andThen_ok, (part_int _ ha p).1, (part_int _ ha p).2]
  simp only [chk_int hE, Result.andThen_ok, Sem.run_pure, Sem.run_bind, hs, (part_int _ ha p).1, (part_int _ ha p).2]
theorem equal_pair (hG : P.underlying K = some (.array 2 elem)) (hE : P.underlying elem = some (.int .i64)) (hs : ∀ w, (sizeOf elem).run P w = .ok 1 w) (ha : ∀ w, (isAgg elem).run P w = .ok false w) (p q : Int × Int) (w : World) :
    (Op.equal K (ePr p) (ePr q)).run P w = .ok (decide (p = q)) w := by
  have h := run_equalIn_array (d := 9998) hG hE hs ha (Pr.cs p).toArray (Pr.cs q).toArray (fun i => if i = 0 then p.1 else p.2) (fun i => if i = 0 then q.1 else q.2)
    (fun i hi => by rcases i with _ | _ | i <;> simp [Pr.cs] <;> omega) (fun i hi => by rcases i with _ | _ | i <;> simp [Pr.cs] <;> omega) w
  rw [Op.equal, ePr, ePr, Op.maxDepth, h]
  congr 1
  rw [Bool.eq_iff_iff, allEq_iff, decide_eq_true_eq]
  constructor
  · intro h
    exact Prod.ext (by simpa using h 0 (by omega)) (by simpa using h 1 (by omega))
  · rintro rfl i _; rfl
theorem ask_pair (hG : P.underlying K = some (.array 2 elem)) (hE : P.underlying elem = some (.int .i64)) (hs : ∀ w, (sizeOf elem).run P w = .ok 1 w) (ha : ∀ w, (isAgg elem).run P w = .ok false w) (a : Int × Int) : ∀ (es : List MapEntry) (l : List (Int × Int)) (i : Nat) (w : World), es.map (·.key) = l.map ePr →
    (Instr.findAsking K (ePr a) es i).run P w = .ok ((l.findIdx? (fun x => decide (x = a))).bind fun j => (es[j]?).map fun e => (i + j, e.val)) w
  | [], l, i, w, h => by
    obtain rfl : l = [] := by simpa using h.symm
    simp [Instr.findAsking]
  | e :: es, l, i, w, h => by
    cases l with
    | nil => simp at h
    | cons x l =>
      simp only [List.map_cons, List.cons.injEq] at h
      rw [Instr.findAsking, h.1]
      simp only [Sem.run_bind, equal_pair hG hE hs ha, Result.andThen_ok]
      by_cases hx : a = x
      · subst hx; simp [List.findIdx?_cons]
      · have hx' : ¬ x = a := fun e => hx e.symm
        simp only [decide_eq_false hx, Bool.false_eq_true, if_false]
        rw [ask_pair hG hE hs ha a es l (i + 1) w h.2]
        simp only [List.findIdx?_cons, hx', decide_false, Bool.false_eq_true, if_false]
        cases l.findIdx? (fun x => decide (x = a)) with
        | none => rfl
        | some j => simp only [Option.map_some, Option.bind_some, List.getElem?_cons_succ, Nat.add_assoc, Nat.add_comm 1 j]
theorem KeyLaw.pair (hK : P.underlying K = some (.array 2 elem)) (hE : P.underlying elem = some (.int .i64)) (hs : ∀ w, (sizeOf elem).run P w = .ok 1 w) (ha : ∀ w, (isAgg elem).run P w = .ok false w) : KeyLaw P K ePr where
  chk := fun e a w => chk_pair hK hE hs ha e 9998 a w
  find := fun a es l w h => by
    have hu : ∀ w, (underlying K).run P w = .ok (.array 2 elem) w := fun w => run_underlying hK w
    simp only [Instr.findKey, Sem.run_bind, hu, Result.andThen_ok]
    have hask := ask_pair hK hE hs ha a es l 0 w h
    simp only [Nat.zero_add] at hask
    cases es with
    | nil =>
      obtain rfl : l = [] := by simpa using h.symm
      simp [Instr.findNow]
    | cons e es =>
      have : Instr.findNow (.array 2 elem) (ePr a) (e :: es) 0 = none := by
        simp [Instr.findNow, Instr.sameNow, ePr]
      rw [this]
      exact hask
  bits := fun a => by
    have h : ∀ n, Instr.sameBits (n + 2) (ePr a) (ePr a) = true := by
      intro n
      simp [Instr.sameBits, ePr, Pr.cs]
    exact h 9998
end
section
variable {α β γ : Type} [DecidableEq α] {P : Program} {k : γ → World → Prop} {w : World} {ek : α → Value} {ev : β → Value} {l : List (α × β)} {r T K E : Nat}
/-- A key that is there: its value is changed. -/
def put (l : List (α × β)) (a : α) (b : β) : List (α × β) := l.map fun p => if p.1 = a then (p.1, b) else p
theorem assoc_put (l : List (α × β)) (a x : α) (b : β) : assoc (put l a b) x = if x = a then (assoc l a).map (fun _ => b) else assoc l x := by
  induction l with
  | nil => simp [assoc, put]
  | cons p l ih =>
    simp only [assoc, put, List.map_cons, List.find?_cons] at ih ⊢
    by_cases h : p.1 = a
    · simp only [if_pos h]
      by_cases hx : x = a
      · subst hx; simp [h]
      · have hpx : ¬ p.1 = x := fun e => hx (e.symm.trans h)
        simp only [hpx, decide_false, if_neg hx]
        rw [ih, if_neg hx]
    · simp only [if_neg h]
      by_cases hx : x = a
      · subst hx
        simp only [h, decide_false, if_true]
        rw [ih, if_pos rfl]
      · by_cases hpx : p.1 = x
        · simp [hpx, if_neg hx]
        · simp only [hpx, decide_false, if_neg hx]
          rw [ih, if_neg hx]
theorem put_len (l : List (α × β)) (a : α) (b : β) : (put l a b).length = l.length := by simp [put]
theorem put_keys (l : List (α × β)) (a : α) (b : β) : (put l a b).map (·.1) = l.map (·.1) := by
  simp only [put, List.map_map]
  exact List.map_congr_left fun p _ => by simp only [Function.comp_def]; split <;> rfl
/-- A store, be the key there or not. -/
def upd2 (l : List (α × β)) (a : α) (b : β) : List (α × β) := if assoc l a = none then l ++ [(a, b)] else put l a b
theorem assoc_none {l : List (α × β)} {a : α} : assoc l a = none ↔ a ∉ l.map (·.1) := by
  simp only [assoc, Option.map_eq_none_iff, List.find?_eq_none, decide_eq_true_eq, List.mem_map]
  exact ⟨fun h ⟨p, hp, he⟩ => h p hp he, fun h p hp he => h ⟨p, hp, he⟩⟩
theorem assoc_upd2 (l : List (α × β)) (a x : α) (b : β) : assoc (upd2 l a b) x = if x = a then some b else assoc l x := by
  unfold upd2
  by_cases h : assoc l a = none
  · rw [if_pos h]
    simp only [assoc, List.find?_append, List.find?_singleton] at h ⊢
    by_cases hx : x = a
    · subst hx
      rw [Option.map_eq_none_iff] at h
      simp [h]
    · have : ¬ a = x := fun e => hx e.symm
      simp [this, if_neg hx]
  · rw [if_neg h, assoc_put]
    by_cases hx : x = a
    · rw [if_pos hx, if_pos hx]
      obtain ⟨y, hy⟩ := Option.ne_none_iff_exists'.1 h
      rw [hy]; rfl
    · rw [if_neg hx, if_neg hx]
theorem upd2_keys {l : List (α × β)} (hd : (l.map (·.1)).Nodup) (a : α) (b : β) : ((upd2 l a b).map (·.1)).Nodup := by
  unfold upd2
  split
  · rename_i h
    rw [List.map_append, List.nodup_append]
    refine ⟨hd, by simp, fun x hx y hy => ?_⟩
    simp only [List.map_cons, List.map_nil, List.mem_singleton] at hy
    subst hy
    rintro rfl
    exact assoc_none.1 h hx
  · rw [put_keys]; exact hd
theorem put_modify {l : List (α × β)} (hd : (l.map (·.1)).Nodup) (a : α) (b : β) {i : Nat} (hi : (l.map (·.1)).findIdx? (fun x => decide (x = a)) = some i) : put l a b = l.modify i fun p => (p.1, b) := by
  induction l generalizing i with
  | nil => simp at hi
  | cons p l ih =>
    simp only [List.map_cons, List.nodup_cons] at hd
    simp only [List.map_cons, List.findIdx?_cons] at hi
    by_cases h : p.1 = a
    · simp only [h, decide_true, if_true, Option.some.injEq] at hi
      subst hi
      have : put l a b = l := by
        rw [put]
        refine (List.map_congr_left fun q hq => ?_).trans (List.map_id l)
        rw [if_neg]
        · rfl
        · intro e
          exact hd.1 (h ▸ e ▸ List.mem_map_of_mem hq)
      rw [show put (p :: l) a b = (p.1, b) :: put l a b by simp [put, h], this]
      rfl
    · simp only [h, decide_false, Bool.false_eq_true, if_false, Option.map_eq_some_iff] at hi
      obtain ⟨j, hj, rfl⟩ := hi
      rw [show put (p :: l) a b = p :: put l a b by simp [put, h], ih hd.2 hj]
      rfl
theorem run_update (hT : P.underlying T = some (.map K E)) (law : KeyLaw P K ek) (hm : Mp w r ek ev l) (hd : (l.map (·.1)).Nodup) (a : α) (b : β) (hn : assoc l a ≠ none) :
    ∃ w', (Instr.mapUpdate T (.map (some r)) (ek a) (ev b)).run P w = .ok () w' ∧ Mp w' r ek ev (put l a b) ∧ Chg (fun x => x = r) w w' ∧ w'.heap.size = w.heap.size := by
  have hu : ∀ w, (underlying T).run P w = .ok (.map K E) w := fun w => run_underlying hT w
  have hlt := hm.lt
  obtain ⟨es, clock, h1, h2⟩ := hm
  have hg : (getObj r).run P w = .ok (.map es clock) w := by simp [getObj, Sem.run, h1]
  rw [assoc_idx] at hn
  cases h3 : (l.map (·.1)).findIdx? (fun x => decide (x = a)) with
  | none => rw [h3] at hn; exact (hn rfl).elim
  | some i =>
    have hmem := List.findIdx?_eq_some_iff_getElem.1 h3
    obtain ⟨hi, hk, _⟩ := hmem
    have hil : i < l.length := by simpa using hi
    have hka : l[i].1 = a := by simpa using hk
    have hf : ((l.map (·.1)).findIdx? (fun x => decide (x = a))).bind (fun i => (l[i]?).map fun p => (i, ev p.2)) = some (i, ev l[i].2) := by
      rw [h3]; simp [hil]
    have hes : ∀ j : Nat, (es.toList[j]?).map (fun e : MapEntry => (e.key, e.val)) = (l[j]?).map fun p : α × β => (ek p.1, ev p.2) := by
      intro j
      have := congrArg (fun x => x[j]?) h2
      simpa using this
    have hei : (es[i]?).map (fun e : MapEntry => e.key) = some (ek a) := by
      have := hes i
      rw [List.getElem?_eq_getElem hil, Option.map_some, hka, Array.getElem?_toList] at this
      cases he : es[i]? with
      | none => rw [he] at this; cases this
      | some e => rw [he] at this; simp at this; simp [this.1]
    refine ⟨{ w with heap := w.heap.setIfInBounds r (.map (es.modify i fun e => { e with key := ek a, val := ev b }) clock) }, ?_, ⟨es.modify i fun e => { e with key := ek a, val := ev b }, clock, ?_, ?_⟩, ⟨⟨rfl, rfl, rfl⟩, by simp, fun c _ hc => ?_⟩, by simp⟩
    · simp only [Instr.mapUpdate, Sem.run_bind, hu, Result.andThen_ok, hg, law.chk, run_find law h2, hf, hei, Option.getD_some]
      simp [Instr.keyThatStays, law.bits, setObj, Sem.run, h1]
    · simp [hlt]
    · rw [put_modify hd a b h3]
      apply List.ext_getElem?
      intro j
      simp only [List.getElem?_map, Array.toList_modify, List.getElem?_modify]
      have := hes j
      by_cases hij : i = j
      · subst hij
        simp only [if_true]
        rw [List.getElem?_eq_getElem hil] at this ⊢
        simp only [Option.map_some] at this ⊢
        cases he : es.toList[i]? with
        | none => rw [he] at this; cases this
        | some e => simp [hka]
      · simp only [if_neg hij, Option.map_map, Function.comp_def, id]
        simpa using this
    · exact Array.getElem?_setIfInBounds_ne (Ne.symm hc)
theorem M.putMap (hT : P.underlying T = some (.map K E)) (law : KeyLaw P K ek) (hm : Mp w r ek ev l) (hd : (l.map (·.1)).Nodup) (a : α) (b : β) {f : M γ}
    (hf : ∀ w', Mp w' r ek ev (upd2 l a b) → Chg (fun x => x = r) w w' → w'.heap.size = w.heap.size → f w' k) : M.runU P (Instr.mapUpdate T (.map (some r)) (ek a) (ev b)) f w k := by
  by_cases h : assoc l a = none
  · exact M.insert hT law hm a b h (by simpa only [upd2, if_pos h] using hf)
  · obtain ⟨w', h1, h2, h3, h4⟩ := run_update hT law hm hd a b h
    exact ⟨w', h1, hf w' (by rw [upd2, if_neg h]; exact h2) h3 h4⟩
end
end Go.Sh
