/- Arrays and structs that stand in blocks of their own: whole loads and stores, elements, comparison. No condition. -/
import Derived.Test.YthepabefikobpaaData
import Derived.Laws.StructEq
namespace Go.Sh
open Go
section
variable {γ α : Type} {k : γ → World → Prop} {w : World}
theorem setCells_blk {b T : Nat} : ∀ (vs : List Value) (i : Nat) (w : World) (cs : List Value), Blk w b T cs → i + vs.length ≤ cs.length →
    Blk (setCells w ⟨b, 0, none⟩ vs i) b T (cs.take i ++ vs ++ cs.drop (i + vs.length)) ∧ Chg (fun x => x = b) w (setCells w ⟨b, 0, none⟩ vs i) ∧ (setCells w ⟨b, 0, none⟩ vs i).heap.size = w.heap.size
  | [], i, w, cs, h, _ => by
    refine ⟨?_, Chg.refl _ _, rfl⟩
    rw [setCells]
    simpa using h
  | v :: vs, i, w, cs, h, hl => by
    simp only [List.length_cons] at hl
    have h1 := h.set i v
    obtain ⟨g1, g2, g3⟩ := setCells_blk vs (i + 1) _ _ h1 (by simp; omega)
    refine ⟨?_, (Chg.set w b i v).trans g2 fun _ _ x => x, by rw [setCells, g3, size_set]⟩
    have e : (cs.set i v).take (i + 1) ++ vs ++ (cs.set i v).drop (i + 1 + vs.length) = cs.take i ++ v :: vs ++ cs.drop (i + (vs.length + 1)) := by
      have hi : i < cs.length := by omega
      rw [List.take_succ_eq_append_getElem (by simpa using hi), List.getElem_set_self, List.take_set_of_le (Nat.le_refl _), List.drop_set_of_lt (by omega)]
      simp [Nat.add_assoc, Nat.add_comm 1]
    rw [setCells, List.length_cons, ← e]
    exact g1
/-- A whole store. -/
theorem M.stA_of {b T : Nat} {cs vs : List Value} {f : M γ} (h : Blk w b T cs) (hl : vs.length = cs.length) (hf : ∀ w', Blk w' b T vs → Chg (fun x => x = b) w w' → w'.heap.size = w.heap.size → f w' k) : M.stA ⟨b, 0, none⟩ vs f w k := by
  obtain ⟨g1, g2, g3⟩ := setCells_blk vs 0 w cs h (by omega)
  refine ⟨fun j hj => ⟨⟨_, h.cell (List.getElem?_eq_getElem (by omega))⟩, h.frozen j⟩, hf _ ?_ g2 g3⟩
  simpa [hl] using g1
/-- A part is loaded. -/
theorem M.ldA_at {e : α → List Value} {b T : Nat} {cs : List Value} {f : α → M γ} {x : α} (i : Nat) (h : Blk w b T cs) (hx : ∀ j v, (e x)[j]? = some v → cs[i + j]? = some v) (hf : f x w k) : M.ldA e ((⟨b, 0, none⟩ : Addr).add i) f w k := by
  refine ⟨x, fun j v hv => ?_, hf⟩
  rw [add_add _ rfl]
  exact h.cell (hx j v hv)
theorem M.ixA_of {a : Addr} {n sz : Nat} {i : Nat} {f : Addr → M γ} (hi : i < n) (hf : f (a.add (i * sz)) w k) : M.ixA a n (i : Int) sz f w k :=
  ⟨_, ⟨by omega, by omega⟩, by simp, hf⟩
/-- A value of a function is put in. -/
def ups {β : Type} (f : Nat → β) (i : Nat) (x : β) : Nat → β := fun j => if j = i then x else f j
theorem set_map_range {β : Type} (n : Nat) (f : Nat → β) (g : β → Value) (i : Nat) (x : β) : (((List.range n).map fun j => g (f j)).set i (g x)) = (List.range n).map fun j => g (ups f i x j) := by
  apply List.ext_getElem?
  intro j
  rw [List.getElem?_set]
  simp only [List.length_map, List.length_range, List.getElem?_map, ups]
  by_cases h : i = j
  · subst h
    by_cases hn : i < n
    · simp [hn]
    · simp [hn, List.getElem?_eq_none]
  · have : ¬ j = i := fun e => h e.symm
    simp only [if_neg h]
    by_cases hn : j < n
    · simp [List.getElem?_range hn, this]
    · simp [hn, List.getElem?_eq_none]
theorem Ar_set (f : Nat → Int) (i : Nat) (x : Int) : (Ar.cs f).set i (vU8 x) = Ar.cs (ups f i x) := set_map_range 256 f vU8 i x
theorem Ab_set (f : Nat → Bool) (i : Nat) (x : Bool) : (Ab.cs f).set i (.bool x) = Ab.cs (ups f i x) := set_map_range 256 f Value.bool i x
theorem A4_set (f : Nat → Int) (i : Nat) (x : Int) : (A4.cs f).set i (.int .u64 x) = A4.cs (ups f i x) := set_map_range 4 f (Value.int .u64) i x
theorem Ar_get (f : Nat → Int) {i : Nat} (h : i < 256) : (Ar.cs f)[i]? = some (vU8 (f i)) := by simp [Ar.cs, h]
theorem Ab_get (f : Nat → Bool) {i : Nat} (h : i < 256) : (Ab.cs f)[i]? = some (.bool (f i)) := by simp [Ab.cs, h]
theorem A4_get (f : Nat → Int) {i : Nat} (h : i < 4) : (A4.cs f)[i]? = some (.int .u64 (f i)) := by simp [A4.cs, h]
/-- The functions agree where the array has places. -/
theorem Ar_congr {f g : Nat → Int} (h : ∀ i, i < 256 → f i = g i) : Ar.cs f = Ar.cs g := by
  simp only [Ar.cs]
  exact List.map_congr_left fun i hi => by rw [h i (List.mem_range.1 hi)]
theorem Dfv_of (d : Dfv) {i : Nat} (h : i < 256) : (Dfv.cs d)[i]? = some (vU8 (d.of i)) := by
  rw [Dfv.cs, List.getElem?_append_left (by rw [Ar_len]; exact h), Ar_get _ h]
theorem Dfv_256 (d : Dfv) : (Dfv.cs d)[256]? = some (vI d.width) := by
  rw [Dfv.cs, List.getElem?_append_right (by rw [Ar_len]; omega), Ar_len]; rfl
theorem Dfv_257 (d : Dfv) : (Dfv.cs d)[257]? = some d.next.val := by
  rw [Dfv.cs, List.getElem?_append_right (by rw [Ar_len]; omega), Ar_len]; rfl
theorem Dfv_258 (d : Dfv) : (Dfv.cs d)[258]? = some d.label.val := by
  rw [Dfv.cs, List.getElem?_append_right (by rw [Ar_len]; omega), Ar_len]; rfl
theorem Dfv_259 (d : Dfv) : (Dfv.cs d)[259]? = some d.names.val := by
  rw [Dfv.cs, List.getElem?_append_right (by rw [Ar_len]; omega), Ar_len]; rfl
theorem Dfv_set {d : Dfv} (i : Nat) (v : Value) : (Dfv.cs d).set (256 + i) v = Ar.cs d.of ++ [vI d.width, d.next.val, d.label.val, d.names.val].set i v := by
  rw [Dfv.cs, List.set_append_right _ _ (by rw [Ar_len]; omega), Ar_len, Nat.add_sub_cancel_left]
theorem Dfv_set257 (d : Dfv) (s : Sl) : (Dfv.cs d).set 257 s.val = Dfv.cs { d with next := s } := Dfv_set 1 _
theorem Dfv_set258 (d : Dfv) (s : Sl) : (Dfv.cs d).set 258 s.val = Dfv.cs { d with label := s } := Dfv_set 2 _

/-! comparison of arrays -/
def allEq (f g : Nat → Int) (n m : Nat) : Bool := (List.range' n m).all fun i => decide (f i = g i)
theorem for_eq {P : Program} (f g : Nat → Int) (B : Nat → Option Bool × Unit → Sem (ForInStep (Option Bool × Unit))) : ∀ (m n : Nat) (w : World),
    (∀ i, n ≤ i → i < n + m → ∀ w, (B i (none, ())).run P w = .ok (if f i = g i then .yield (none, ()) else .done (some false, ())) w) →
    (forIn (m := Sem) (List.range' n m) ((none, ()) : Option Bool × Unit) B).run P w = .ok (if allEq f g n m then (none, ()) else (some false, ())) w
  | 0, n, w, _ => by simp [allEq]
  | m + 1, n, w, h => by
    rw [List.range'_succ, List.forIn_cons, Sem.run_bind, h n (Nat.le_refl _) (by omega)]
    simp only [allEq, List.range'_succ, List.all_cons]
    by_cases e : f n = g n
    · simp only [if_pos e, Result.andThen_ok, decide_eq_true e, Bool.true_and]
      exact for_eq f g B m (n + 1) w fun i h1 h2 => h i (by omega) (by omega)
    · simp [if_neg e, decide_eq_false e]
theorem run_equalIn_array {P : Program} {T elem n d : Nat} {k : IntKind} (hT : P.underlying T = some (.array n elem)) (he : P.underlying elem = some (.int k)) (hs : ∀ w, (sizeOf elem).run P w = .ok 1 w) (ha : ∀ w, (isAgg elem).run P w = .ok false w)
    (xs ys : Array Value) (f g : Nat → Int) (hx : ∀ i, i < n → xs[i]? = some (.int k (f i))) (hy : ∀ i, i < n → ys[i]? = some (.int k (g i))) (w : World) :
    (Op.equalIn (d + 2) T (.agg xs) (.agg ys)).run P w = .ok (allEq f g 0 n) w := by
  have hu : ∀ w, (underlying T).run P w = .ok (.array n elem) w := fun w => run_underlying hT w
  rw [Op.equalIn]
  simp only [Sem.run_bind, hu, Result.andThen_ok, hs, Std.Legacy.Range.forIn_eq_forIn_range', Std.Legacy.Range.size]
  rw [show (n - 0 + 1 - 1) / 1 = n by simp]
  rw [for_eq f g]
  · cases allEq f g 0 n <;> simp
  · intro i _ hi w
    have p : ∀ (zs : Array Value) (h : Nat → Int), zs[i]? = some (.int k (h i)) → ∀ w, (part elem zs (i * 1)).run P w = .ok (.int k (h i)) w := by
      intro zs h hz w
      simp [part, ha, hz]
    simp only [Sem.run_bind, p xs f (hx i (by omega)), p ys g (hy i (by omega)), Result.andThen_ok, run_equalIn_int _ d elem k k (f i) (g i) he]
    by_cases e : f i = g i <;> simp [e]
theorem run_eqAgg {P : Program} {T elem n : Nat} {k : IntKind} (hE : P.eqGuardType P.depth T = false) (hT : P.underlying T = some (.array n elem)) (he : P.underlying elem = some (.int k)) (hs : ∀ w, (sizeOf elem).run P w = .ok 1 w) (ha : ∀ w, (isAgg elem).run P w = .ok false w)
    (xs ys : Array Value) (f g : Nat → Int) (hx : ∀ i, i < n → xs[i]? = some (.int k (f i))) (hy : ∀ i, i < n → ys[i]? = some (.int k (g i))) (w : World) :
    (eqAgg .eql T (.agg xs) (.agg ys)).run P w = .ok (.bool (allEq f g 0 n)) w := by
  simp only [eqAgg, Sem.run_bind, run_program, Result.andThen_ok, hE, Bool.false_eq_true, if_false]
  simp only [Sem.run_pure, Result.andThen_ok, run_eql_struct]
  rw [run_equalIn_array (d := 9998) hT he hs ha xs ys f g hx hy]
  rfl
theorem run_neAgg {P : Program} {T elem n : Nat} {k : IntKind} (hE : P.eqGuardType P.depth T = false) (hT : P.underlying T = some (.array n elem)) (he : P.underlying elem = some (.int k)) (hs : ∀ w, (sizeOf elem).run P w = .ok 1 w) (ha : ∀ w, (isAgg elem).run P w = .ok false w)
    (xs ys : Array Value) (f g : Nat → Int) (hx : ∀ i, i < n → xs[i]? = some (.int k (f i))) (hy : ∀ i, i < n → ys[i]? = some (.int k (g i))) (w : World) :
    (eqAgg .neq T (.agg xs) (.agg ys)).run P w = .ok (.bool (!allEq f g 0 n)) w := by
  simp only [eqAgg, Sem.run_bind, run_program, Result.andThen_ok, hE, Bool.false_eq_true, if_false]
  simp only [Sem.run_pure, Result.andThen_ok, run_neq_struct]
  rw [run_equalIn_array (d := 9998) hT he hs ha xs ys f g hx hy]
  rfl
theorem allEq_iff {f g : Nat → Int} {n : Nat} : allEq f g 0 n = true ↔ ∀ i, i < n → f i = g i := by
  simp [allEq]
end
end Go.Sh
namespace Go.Proofs.Ythepabefikobpaa
open Go Go.Sh
theorem Ar_eq (f g : Nat → Int) (w : World) : (eqAgg .eql 22 (.agg (Ar.cs f).toArray) (.agg (Ar.cs g).toArray)).run Try.prog w = .ok (.bool (allEq f g 0 256)) w :=
  run_eqAgg (by kernel_rfl) Try.underlying22 Try.underlying5 (fun _ => by kernel_rfl) (fun _ => by kernel_rfl) _ _ f g (fun i hi => by simp [Ar_get _ hi]) (fun i hi => by simp [Ar_get _ hi]) w
theorem Ar_ne (f g : Nat → Int) (w : World) : (eqAgg .neq 22 (.agg (Ar.cs f).toArray) (.agg (Ar.cs g).toArray)).run Try.prog w = .ok (.bool (!allEq f g 0 256)) w :=
  run_neAgg (by kernel_rfl) Try.underlying22 Try.underlying5 (fun _ => by kernel_rfl) (fun _ => by kernel_rfl) _ _ f g (fun i hi => by simp [Ar_get _ hi]) (fun i hi => by simp [Ar_get _ hi]) w
end Go.Proofs.Ythepabefikobpaa
namespace Go.Sh
theorem flat_get {α β : Type} {m : Nat} {f : α → List β} (hf : ∀ x, (f x).length = m) : ∀ (L : List α) (i j : Nat) (x : α), L[i]? = some x → j < m → ((L.map f).flatten)[i * m + j]? = (f x)[j]?
  | [], i, j, x, h, _ => by simp at h
  | y :: L, 0, j, x, h, hj => by
    simp only [List.getElem?_cons_zero, Option.some.injEq] at h
    subst h
    rw [List.map_cons, List.flatten_cons, Nat.zero_mul, Nat.zero_add, List.getElem?_append_left (by rw [hf]; exact hj)]
  | y :: L, i + 1, j, x, h, hj => by
    rw [List.getElem?_cons_succ] at h
    rw [List.map_cons, List.flatten_cons, List.getElem?_append_right (by rw [hf, Nat.add_mul]; omega), hf, ← flat_get hf L i j x h hj]
    congr 1
    rw [Nat.add_mul]; omega
theorem flat_len {α β : Type} {m : Nat} {f : α → List β} (hf : ∀ x, (f x).length = m) (L : List α) : ((L.map f).flatten).length = L.length * m := by
  induction L with
  | nil => simp
  | cons y L ih => rw [List.map_cons, List.flatten_cons, List.length_append, ih, hf, List.length_cons, Nat.add_mul]; omega
/-- An element of several cells is read. -/
theorem M.rdA {α γ : Type} {k : γ → World → Prop} {w : World} {m : Nat} {F : Nat → Prop} {s : Sl} {L : List α} {e : α → List Value} {f : α → M γ} {i : Int} (he : ∀ x, (e x).length = m) (h : Rd m F w s (L.map e).flatten) (h0 : 0 ≤ i) {x : α} (hx : L[i.toNat]? = some x) (hl : L.length = s.len) (hf : f x w k) : M.ix s i m (fun a => M.ldA e a f) w k := by
  have hlt : i.toNat < L.length := (List.getElem?_eq_some_iff.1 hx).1
  refine M.ix_at h h0 (by omega) fun a _ hc => ⟨x, fun j v hv => ?_, hf⟩
  have hj : j < m := by rw [← he x]; exact (List.getElem?_eq_some_iff.1 hv).1
  exact hc j v (by rw [flat_get he L _ _ x hx hj]; exact hv) hj
end Go.Sh
