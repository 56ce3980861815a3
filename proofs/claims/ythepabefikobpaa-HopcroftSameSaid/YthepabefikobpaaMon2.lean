/- More of what each operation of the deep text needs: comparisons, slices of slices, literals of slices. No condition. -/
import Derived.Test.YthepabefikobpaaMon

namespace Go.Sh
open Go
section
variable {γ : Type} {k : γ → World → Prop} {w : World}
theorem M.iteT {b : Bool} {f g : M γ} (h : M.ite b f g w k) (hb : b = true) : f w k := h.1 hb
theorem M.iteF {b : Bool} {f g : M γ} (h : M.ite b f g w k) (hb : b = false) : g w k := h.2 hb
theorem M.drew_un {f : M γ} (h : M.drew f w k) : f w.drew k := h
def M.bad : M γ := fun _ _ => False
end
def eqAgg (op : BinOp) (T : TypeId) (a b : Value) : Sem Value := do
  if (← program).eqGuardType (← program).depth T then unsupported (.noEntry "")
  binOp op T a b

section
variable {P : Program} {all : Array Oper} {K : Env → World → Prop} {os : List Oper} {ρ : Env} {w : World}
variable {d : Option Tmp} {op : Op} {ty : TypeId} {pos : String} {af : Array Edge} {g : Option (Nat × Bool)} {v : Value}
variable {x y z : Operand} {T T' : TypeId} {k : IntKind} {a b : Int}
theorem eq_bool {p q : Bool} (hT : ∀ w, (underlying T).run P w = .ok .bool w) (n : Nat) : (Op.equalIn (n + 1) T (.bool p) (.bool q)).run P w = .ok (p == q) w := by
  simp [Op.equalIn, hT]
theorem eq_ptr {p : Option Addr} {E : TypeId} (hT : ∀ w, (underlying T).run P w = .ok (.pointer E) w) (n : Nat) : (Op.equalIn (n + 1) T (.pointer p) (.pointer none)).run P w = .ok p.isNone w := by
  cases p <;> simp [Op.equalIn, hT]
theorem exec_eql {u s : Value} {e : Bool} (hx : ev ρ x = u) (hy : ev ρ y = s) (hb : binOp .eql T u s = (do pure (.bool (← Op.equal T u s)))) (hgd : (eqGuard .eql T x y u s).run P w = .ok () w) (h : (Op.equal T u s).run P w = .ok e w) :
    (execOp (ev ρ) ⟨d, .binOp .eql T x y T', ty, pos, af, g⟩).run P w = .ok (.value (.bool e)) w := by
  simp only [execOp, hx, hy]
  rw [hb]
  simp [hgd, h]
theorem exec_neq {u s : Value} {e : Bool} (hx : ev ρ x = u) (hy : ev ρ y = s) (hb : binOp .neq T u s = (do pure (.bool (!(← Op.equal T u s))))) (hgd : (eqGuard .neq T x y u s).run P w = .ok () w) (h : (Op.equal T u s).run P w = .ok e w) :
    (execOp (ev ρ) ⟨d, .binOp .neq T x y T', ty, pos, af, g⟩).run P w = .ok (.value (.bool (!e))) w := by
  simp only [execOp, hx, hy]
  rw [hb]
  simp [hgd, h]
theorem Y.eqB {p q : Bool} (hg : wantedG all g ρ = true) (hT : ∀ w, (underlying T).run P w = .ok .bool w) (hx : ev ρ x = .bool p) (hy : ev ρ y = .bool q) : YieldsE P all w ⟨d, .binOp .eql T x y T', ty, pos, af, g⟩ (.bool (p == q)) ρ :=
  Y.of hg (exec_eql hx hy rfl (by simp [eqGuard]) (eq_bool hT 9999))
theorem Y.neB {p q : Bool} (hg : wantedG all g ρ = true) (hT : ∀ w, (underlying T).run P w = .ok .bool w) (hx : ev ρ x = .bool p) (hy : ev ρ y = .bool q) : YieldsE P all w ⟨d, .binOp .neq T x y T', ty, pos, af, g⟩ (.bool (!(p == q))) ρ :=
  Y.of hg (exec_neq hx hy rfl (by simp [eqGuard]) (eq_bool hT 9999))
theorem Y.eqP {p : Option Addr} {E : TypeId} (hg : wantedG all g ρ = true) (hT : ∀ w, (underlying T).run P w = .ok (.pointer E) w) (hx : ev ρ x = .pointer p) (hy : ev ρ y = .pointer none) : YieldsE P all w ⟨d, .binOp .eql T x y T', ty, pos, af, g⟩ (.bool p.isNone) ρ :=
  Y.of hg (exec_eql hx hy rfl (by simp [eqGuard]) (eq_ptr hT 9999))
theorem Y.neP {p : Option Addr} {E : TypeId} (hg : wantedG all g ρ = true) (hT : ∀ w, (underlying T).run P w = .ok (.pointer E) w) (hx : ev ρ x = .pointer p) (hy : ev ρ y = .pointer none) : YieldsE P all w ⟨d, .binOp .neq T x y T', ty, pos, af, g⟩ (.bool (!p.isNone)) ρ :=
  Y.of hg (exec_neq hx hy rfl (by simp [eqGuard]) (eq_ptr hT 9999))
theorem Y.binU {bop : BinOp} {k' : IntKind} (hg : wantedG all g ρ = true) (hx : ev ρ x = .int k a) (hy : ev ρ y = .int k' b) (hr : (binOp bop T (.int k a) (.int k' b)).run P w = .ok v w) : YieldsE P all w ⟨d, .binOp bop T x y T', ty, pos, af, g⟩ v ρ := Y.of hg (by
  have : (eqGuard bop T x y (.int k a) (.int k' b)).run P w = .ok () w := by cases bop <;> simp [eqGuard]
  simp [execOp, hx, hy, this, hr])
theorem Y.catS {s t : ByteArray} (hg : wantedG all g ρ = true) (hx : ev ρ x = .string s) (hy : ev ρ y = .string t) (hr : (Op.stringOp .add s t).run P w = .ok v w) : YieldsE P all w ⟨d, .binOp .add T x y T', ty, pos, af, g⟩ v ρ := Y.of hg (by
  simp [execOp, hx, hy, binOp, eqGuard, hr])
theorem Y.eqA {bop : BinOp} {p q : Array Value} (hg : wantedG all g ρ = true) (hx : ev ρ x = .agg p) (hy : ev ρ y = .agg q) (hr : (eqAgg bop T (.agg p) (.agg q)).run P w = .ok v w) : YieldsE P all w ⟨d, .binOp bop T x y T', ty, pos, af, g⟩ v ρ := Y.of hg (by
  have hE : P.eqGuardType P.depth T = false := by
    cases hE : P.eqGuardType P.depth T with
    | false => rfl
    | true => simp [eqAgg, program, hE, Sem.run, unsupported] at hr
  have hr' : (binOp bop T (.agg p) (.agg q)).run P w = .ok v w := by
    simpa [eqAgg, program, hE, Sem.run] using hr
  have : (eqGuard bop T x y (.agg p) (.agg q)).run P w = .ok () w := by cases bop <;> simp [eqGuard, program, hE, Sem.run]
  simp [execOp, hx, hy, this, hr'])
theorem Y.idx {u i : Value} (hg : wantedG all g ρ = true) (hx : ev ρ x = u) (hy : ev ρ y = i) (hr : (Instr.index T u i).run P w = .ok v w) : YieldsE P all w ⟨d, .index T x y, ty, pos, af, g⟩ v ρ := Y.of hg (by simp [execOp, hx, hy, hr])
theorem Y.bld {l : List (Nat × Operand)} (vs : List (Nat × Value)) (hg : wantedG all g ρ = true) (hv : l.map (fun p => (p.1, ev ρ p.2)) = vs) (hr : (Instr.build T vs.toArray).run P w = .ok v w) : YieldsE P all w ⟨d, .build T l.toArray, ty, pos, af, g⟩ v ρ := Y.of hg (by
  have : (l.toArray.map fun (p : Nat × Operand) => (p.1, ev ρ p.2)) = vs.toArray := by simp [hv]
  simp only [execOp]
  rw [show (Array.map (fun x => match x with | (i, x) => (i, ev ρ x)) l.toArray) = vs.toArray from this]
  simp [hr])
theorem Y.nnR {f : FuncId} {cs : Array Value} (hg : wantedG all g ρ = true) (hx : ev ρ x = v) (hv : v = .func (.func f) #[] cs) : YieldsE P all w ⟨d, .nilCheck x, ty, pos, af, g⟩ v ρ := Y.of hg (by
  subst hv; simp [execOp, hx])
theorem Y.cap {s : Sl} {E : Nat} (hg : wantedG all g ρ = true) (hT : ∀ w, (underlying T).run P w = .ok (.slice E) w) (hx : ev ρ x = s.val) : YieldsE P all w ⟨d, .call ⟨.builtin .cap, #[x], #[T]⟩, ty, pos, af, g⟩ (vI s.cap) ρ := Y.of hg (by
  simp [execOp, resolve, invoke, builtin, Builtin.cap_, hx, hT, goInt])
theorem Y.max {ts : Array TypeId} (hg : wantedG all g ρ = true) (hx : ev ρ x = .int k a) (hy : ev ρ y = .int k b) : YieldsE P all w ⟨d, .call ⟨.builtin .max, #[x, y], ts⟩, ty, pos, af, g⟩ (.int k (if b > a then b else a)) ρ := Y.of hg (by
  simp [execOp, resolve, invoke, builtin, Builtin.max_, Builtin.max2, hx, hy])
theorem Y.min {ts : Array TypeId} (hg : wantedG all g ρ = true) (hx : ev ρ x = .int k a) (hy : ev ρ y = .int k b) : YieldsE P all w ⟨d, .call ⟨.builtin .min, #[x, y], ts⟩, ty, pos, af, g⟩ (.int k (if b < a then b else a)) ρ := Y.of hg (by
  simp [execOp, resolve, invoke, builtin, Builtin.min_, Builtin.min2, hx, hy])

theorem sliceBounds_run {P : Program} {w : World} {s : Sl} {lo hi mx : Int} (h : 0 ≤ lo ∧ lo ≤ hi ∧ hi ≤ mx ∧ mx ≤ s.cap) (l h' m : Option Value) (hl : (∃ k, l = some (.int k lo)) ∨ l = none ∧ lo = 0) (hh : (∃ k, h' = some (.int k hi)) ∨ h' = none ∧ hi = s.len ∧ m = none) (hm : (∃ k, m = some (.int k mx)) ∨ m = none ∧ mx = s.cap) :
    (Instr.sliceBounds true s.len s.cap l h' m).run P w = .ok (lo.toNat, hi.toNat, mx.toNat) w := by
  have h0 : (0 : Int) ≤ hi := by omega
  have h1 : (0 : Int) ≤ mx := by omega
  have e1 : ((mx.toNat : Nat) : Int) = mx := by omega
  have e2 : ((hi.toNat : Nat) : Int) = hi := by omega
  rcases hm with ⟨km, rfl⟩ | ⟨rfl, rfl⟩ <;> rcases hh with ⟨kh, rfl⟩ | ⟨rfl, rfl, hh⟩ <;> rcases hl with ⟨kl, rfl⟩ | ⟨rfl, rfl⟩ <;>
    first
      | (simp at hh; done)
      | (simp [Instr.sliceBounds, Instr.sliceBound, asIntOf, h, h0, h1, e1, e2]; try omega)
theorem run_cut {P : Program} {w : World} {T E n : Nat} {s : Sl} {lo hi mx : Int} {l h' m : Option Value} (hT : ∀ w, (underlying T).run P w = .ok (.slice E) w) (hn : ∀ w, (sizeOf E).run P w = .ok n w)
    (hb : (Instr.sliceBounds true s.len s.cap l h' m).run P w = .ok (lo.toNat, hi.toNat, mx.toNat) w) : (Instr.sliceAt T s.val l h' m).run P w = .ok (s.cut lo hi mx n).val w := by
  obtain ⟨ad, ln, cp⟩ := s
  simp [Instr.sliceAt, Instr.slice, hT, hn, Sl.cut, hb]
section
variable {E n : Nat} {s t : Sl} {lo hi mx : Int} {k1 k2 k3 : IntKind} {u : Operand}
theorem Y.cut111 (hg : wantedG all g ρ = true) (hT : ∀ w, (underlying T).run P w = .ok (.slice E) w) (hx : ev ρ x = s.val) (hn : ∀ w, (sizeOf E).run P w = .ok n w) (h1 : ev ρ y = .int k1 lo) (h2 : ev ρ z = .int k2 hi) (h3 : ev ρ u = .int k3 mx) (h : 0 ≤ lo ∧ lo ≤ hi ∧ hi ≤ mx ∧ mx ≤ s.cap) (hc : t = s.cut lo hi mx n) :
    YieldsE P all w ⟨d, .slice T x (some y) (some z) (some u), ty, pos, af, g⟩ t.val ρ :=
  Y.run hg rfl (by subst hc; simp only [Option.map]; rw [hx, h1, h2, h3]; exact run_cut hT hn (sliceBounds_run h _ _ _ (.inl ⟨_, rfl⟩) (.inl ⟨_, rfl⟩) (.inl ⟨_, rfl⟩)))
theorem Y.cut011 (hg : wantedG all g ρ = true) (hT : ∀ w, (underlying T).run P w = .ok (.slice E) w) (hx : ev ρ x = s.val) (hn : ∀ w, (sizeOf E).run P w = .ok n w) (h2 : ev ρ z = .int k2 hi) (h3 : ev ρ u = .int k3 mx) (h : 0 ≤ (0 : Int) ∧ 0 ≤ hi ∧ hi ≤ mx ∧ mx ≤ s.cap) (hc : t = s.cut 0 hi mx n) :
    YieldsE P all w ⟨d, .slice T x none (some z) (some u), ty, pos, af, g⟩ t.val ρ :=
  Y.run hg rfl (by subst hc; simp only [Option.map]; rw [hx, h2, h3]; exact run_cut hT hn (sliceBounds_run h _ _ _ (.inr ⟨rfl, rfl⟩) (.inl ⟨_, rfl⟩) (.inl ⟨_, rfl⟩)))
theorem Y.cut110 (hg : wantedG all g ρ = true) (hT : ∀ w, (underlying T).run P w = .ok (.slice E) w) (hx : ev ρ x = s.val) (hn : ∀ w, (sizeOf E).run P w = .ok n w) (h1 : ev ρ y = .int k1 lo) (h2 : ev ρ z = .int k2 hi) (h : 0 ≤ lo ∧ lo ≤ hi ∧ hi ≤ (s.cap : Int) ∧ (s.cap : Int) ≤ s.cap) (hc : t = s.cut lo hi s.cap n) :
    YieldsE P all w ⟨d, .slice T x (some y) (some z) none, ty, pos, af, g⟩ t.val ρ :=
  Y.run hg rfl (by subst hc; simp only [Option.map]; rw [hx, h1, h2]; exact run_cut hT hn (sliceBounds_run h _ _ _ (.inl ⟨_, rfl⟩) (.inl ⟨_, rfl⟩) (.inr ⟨rfl, rfl⟩)))
theorem Y.cut010 (hg : wantedG all g ρ = true) (hT : ∀ w, (underlying T).run P w = .ok (.slice E) w) (hx : ev ρ x = s.val) (hn : ∀ w, (sizeOf E).run P w = .ok n w) (h2 : ev ρ z = .int k2 hi) (h : 0 ≤ (0 : Int) ∧ 0 ≤ hi ∧ hi ≤ (s.cap : Int) ∧ (s.cap : Int) ≤ s.cap) (hc : t = s.cut 0 hi s.cap n) :
    YieldsE P all w ⟨d, .slice T x none (some z) none, ty, pos, af, g⟩ t.val ρ :=
  Y.run hg rfl (by subst hc; simp only [Option.map]; rw [hx, h2]; exact run_cut hT hn (sliceBounds_run h _ _ _ (.inr ⟨rfl, rfl⟩) (.inl ⟨_, rfl⟩) (.inr ⟨rfl, rfl⟩)))
theorem Y.cut100 (hg : wantedG all g ρ = true) (hT : ∀ w, (underlying T).run P w = .ok (.slice E) w) (hx : ev ρ x = s.val) (hn : ∀ w, (sizeOf E).run P w = .ok n w) (h1 : ev ρ y = .int k1 lo) (h : 0 ≤ lo ∧ lo ≤ (s.len : Int) ∧ (s.len : Int) ≤ (s.cap : Int) ∧ (s.cap : Int) ≤ s.cap) (hc : t = s.cut lo s.len s.cap n) :
    YieldsE P all w ⟨d, .slice T x (some y) none none, ty, pos, af, g⟩ t.val ρ :=
  Y.run hg rfl (by subst hc; simp only [Option.map]; rw [hx, h1]; exact run_cut hT hn (sliceBounds_run h _ _ _ (.inl ⟨_, rfl⟩) (.inr ⟨rfl, rfl, rfl⟩) (.inr ⟨rfl, rfl⟩)))
end

theorem blt_exec {bi : Builtin} {l : List Operand} {ts : Array TypeId} {vs : List Value} {s : Sem Value} (hv : l.map (ev ρ) = vs) (he : ∀ cs, builtin bi ts ty cs vs.toArray = (do pure (.value (← s)))) :
    execOp (ev ρ) ⟨d, .call ⟨.builtin bi, l.toArray, ts⟩, ty, pos, af, g⟩ = (do pure (.value (← s))) := by
  simp only [execOp, resolve, pure_bind, invoke]
  rw [show l.toArray.map (ev ρ) = vs.toArray by simp [hv]]
  exact he _
theorem N.blt {bi : Builtin} {l : List Operand} {ts : Array TypeId} {vs : List Value} {s : Sem Value} {w' : World} (hg : wantedG all g ρ = true) (hv : l.map (ev ρ) = vs) (he : ∀ cs, builtin bi ts ty cs vs.toArray = (do pure (.value (← s)))) (hr : s.run P w = .ok v w') (h : K (updO ρ d v) w') :
    St P all ⟨d, .call ⟨.builtin bi, l.toArray, ts⟩, ty, pos, af, g⟩ K ρ w := N.of hg (blt_exec hv he) hr h
theorem Y.blt {bi : Builtin} {l : List Operand} {ts : Array TypeId} {vs : List Value} {s : Sem Value} (hg : wantedG all g ρ = true) (hv : l.map (ev ρ) = vs) (he : ∀ cs, builtin bi ts ty cs vs.toArray = (do pure (.value (← s)))) (hr : s.run P w = .ok v w) :
    YieldsE P all w ⟨d, .call ⟨.builtin bi, l.toArray, ts⟩, ty, pos, af, g⟩ v ρ := Y.run hg (blt_exec hv he) hr

/-! a slice's literal -/
theorem fold_put (off : Nat) : ∀ (l : List Value) (j : Nat) (cells : Array Value), off + j + l.length ≤ cells.size →
    ((l.zipIdx j).foldl (fun cs (p : Value × Nat) => cs.setIfInBounds (off + p.2) p.1) cells).toList = cells.toList.take (off + j) ++ l ++ cells.toList.drop (off + j + l.length)
  | [], j, cells, _ => by simp
  | v :: l, j, cells, h => by
    simp only [List.length_cons] at h
    rw [List.zipIdx_cons, List.foldl_cons, fold_put off l (j + 1) _ (by simp; omega)]
    simp only [Array.toList_setIfInBounds]
    rw [show off + (j + 1) = off + j + 1 by omega, List.take_set, List.drop_set_of_lt (by omega)]
    have hlt : off + j < cells.toList.length := by simp; omega
    rw [List.take_succ_eq_append_getElem hlt, List.set_append_right _ _ (by simp; omega)]
    simp [Nat.min_eq_left (Nat.le_of_lt (by simpa using hlt)), List.length_cons, show off + j + 1 + l.length = off + j + (l.length + 1) by omega]
theorem fill_step {place : Nat → Option (Nat × Nat)} {cells : List Value} {i off size : Nat} {v : Value} {vs : List Value} {rest : List (Nat × Value)} (hp : place i = some (off, size)) (hv : v.cells = vs.toArray) (hs : vs.length = size) (hl : off + size ≤ cells.length) :
    Instr.fill place cells.toArray ((i, v) :: rest) = Instr.fill place (cells.take off ++ vs ++ cells.drop (off + size)).toArray rest := by
  subst hs
  simp only [Instr.fill, hp]
  have h1 : ¬ (v.cells.size ≠ vs.length || decide (off + v.cells.size > cells.toArray.size)) = true := by
    rw [hv]; simp; omega
  rw [if_neg h1]
  congr 1
  have := fold_put off vs 0 cells.toArray (by simpa using hl)
  rw [hv]
  apply Array.ext'
  simp only [Nat.add_zero] at this
  rw [← this]
  simp
theorem fill_ones (vs : List Value) (ho : ∀ v ∈ vs, v.cells = #[v]) : ∀ (k : Nat) (pre z : List Value), pre.length = k → z.length = vs.length →
    Instr.fill (fun i => some (i * 1, 1)) (pre ++ z).toArray ((vs.zipIdx k).map fun p => (p.2, p.1)) = some (pre ++ vs).toArray := by
  induction vs with
  | nil => intro k pre z _ hz; obtain rfl : z = [] := by simpa using hz
           simp [Instr.fill]
  | cons v vs ih =>
    intro k pre z hk hz
    cases z with
    | nil => simp at hz
    | cons z0 z =>
      simp only [List.zipIdx_cons, List.map_cons]
      rw [fill_step (off := k * 1) (size := 1) (vs := [v]) rfl (by simpa using ho v List.mem_cons_self) rfl (by simp; omega)]
      have : (List.take (k * 1) (pre ++ z0 :: z) ++ [v] ++ List.drop (k * 1 + 1) (pre ++ z0 :: z)) = (pre ++ [v]) ++ z := by
        subst hk; simp
      rw [this, ih (fun u hu => ho u (List.mem_cons_of_mem _ hu)) (k + 1) (pre ++ [v]) z (by simp [hk]) (by simpa using hz)]
      simp
theorem idx_parts : ∀ (l : List (Nat × Operand)) (vs : List Value) (k : Nat), l.map (·.1) = List.range' k vs.length → l.map (fun p => ev ρ p.2) = vs → l.map (fun p => (p.1, ev ρ p.2)) = (vs.zipIdx k).map fun p => (p.2, p.1)
  | [], vs, k, _, h => by subst h; rfl
  | p :: l, vs, k, hi, h => by
    subst h
    simp only [List.map_cons, List.length_cons, List.range'_succ, List.cons.injEq, List.length_map] at hi
    simp only [List.map_cons, List.zipIdx_cons]
    rw [hi.1, idx_parts l _ (k + 1) (by simpa using hi.2) rfl]
theorem N.mkS {E n : Nat} {z : Value} {l : List (Nat × Operand)} {vs : List Value} {γ : Type} {f : Addr → M γ} {kk : γ → World → Prop} (hg : wantedG all g ρ = true) (hT : ∀ w, (underlying T).run P w = .ok (.slice E) w) (hn : ∀ w, (sizeOf E).run P w = .ok 1 w) (hz : ∀ w, (zeroValue E).run P w = .ok z w) (hM : M.new E vs f w kk)
    (hb : Nat.ble n 16777216 = true) (hi : l.map (·.1) = List.range' 0 vs.length) (hv : l.map (fun p => ev ρ p.2) = vs) (ho : vs.map Value.cells = vs.map fun v => #[v]) (hl : vs.length = n)
    (h : ∀ a : Addr, a = ⟨w.heap.size, 0, none⟩ → f a (w.alloc (.cells vs.toArray E)) kk → K (updO ρ d (Sl.val ⟨some a, n, n⟩)) (w.alloc (.cells vs.toArray E))) : St P all ⟨d, .buildSlice T n l.toArray, ty, pos, af, g⟩ K ρ w := by
  have ho : ∀ v ∈ vs, v.cells = #[v] := by simpa using ho
  refine N.of (s := Instr.buildSlice T n (l.toArray.map fun (p : Nat × Operand) => (p.1, ev ρ p.2))) hg (by simp only [execOp]) ?_ (h _ rfl hM)
  have hm : (l.toArray.map fun (p : Nat × Operand) => (p.1, ev ρ p.2)).toList = (vs.zipIdx 0).map fun p => (p.2, p.1) := by simpa using idx_parts l vs 0 hi hv
  have hb : ¬ n * 1 > 2 ^ 24 := by have := Nat.le_of_ble_eq_true hb; omega
  have key : ∀ zc : Array Value, Instr.fill (fun i => some (i * 1, 1)) ((Array.range (n * 1)).map fun i => zc[i % zc.size]!) (l.toArray.map fun (p : Nat × Operand) => (p.1, ev ρ p.2)).toList = some vs.toArray := by
    intro zc
    rw [hm]
    have := fill_ones vs ho 0 [] (((Array.range (n * 1)).map fun i => zc[i % zc.size]!).toList) rfl (by simp [hl])
    simpa only [List.nil_append, Array.toArray_toList] using this
  simp only [Instr.buildSlice, Sem.run_bind, hT, Result.andThen_ok, hn, if_neg hb, pure_bind]
  by_cases h0 : n * 1 = 0
  · simp only [if_pos h0]
    rw [key]
    simp [newRow]
  · simp only [if_neg h0, Sem.run_bind, hz, Result.andThen_ok]
    rw [key]
    simp [newRow]
theorem fill_many {m : Nat} (vss : List (List Value)) (hm : ∀ vs ∈ vss, vs.length = m) : ∀ (k : Nat) (pre z : List Value), pre.length = k * m → z.length = vss.length * m →
    Instr.fill (fun i => some (i * m, m)) (pre ++ z).toArray ((vss.zipIdx k).map fun p => (p.2, .agg p.1.toArray)) = some (pre ++ vss.flatten).toArray := by
  induction vss with
  | nil => intro k pre z _ hz; obtain rfl : z = [] := by simpa using hz
           simp [Instr.fill]
  | cons vs vss ih =>
    intro k pre z hk hz
    have hv := hm vs List.mem_cons_self
    simp only [List.zipIdx_cons, List.map_cons]
    rw [fill_step (off := k * m) (size := m) (vs := vs) rfl rfl hv (by simp [hk, hz, Nat.succ_mul])]
    have e1 : List.take (k * m) (pre ++ z) = pre := by rw [← hk]; simp
    have e2 : List.drop (k * m + m) (pre ++ z) = z.drop m := by
      rw [← hk, List.drop_append, List.drop_eq_nil_of_le (by omega)]
      simp
    rw [e1, e2, List.append_assoc, ← List.append_assoc]
    rw [ih (fun u hu => hm u (List.mem_cons_of_mem _ hu)) (k + 1) (pre ++ vs) (z.drop m) (by simp [hk, hv, Nat.succ_mul]) (by simp [hz, Nat.succ_mul])]
    simp
theorem N.mkSA {E n m : Nat} {z : Value} {l : List (Nat × Operand)} (vss : List (List Value)) {cs : List Value} {γ : Type} {f : Addr → M γ} {kk : γ → World → Prop} (hg : wantedG all g ρ = true) (hT : ∀ w, (underlying T).run P w = .ok (.slice E) w) (hn : ∀ w, (sizeOf E).run P w = .ok m w) (hz : ∀ w, (zeroValue E).run P w = .ok z w) (hM : M.new E cs f w kk)
    (hb : Nat.ble (n * m) 16777216 = true) (hi : l.map (·.1) = List.range' 0 vss.length) (hv : l.map (fun p => ev ρ p.2) = vss.map fun c => .agg c.toArray) (ho : ∀ vs ∈ vss, vs.length = m) (hl : vss.length = n) (hf : vss.flatten = cs)
    (h : ∀ a : Addr, a = ⟨w.heap.size, 0, none⟩ → f a (w.alloc (.cells cs.toArray E)) kk → K (updO ρ d (Sl.val ⟨some a, n, n⟩)) (w.alloc (.cells cs.toArray E))) : St P all ⟨d, .buildSlice T n l.toArray, ty, pos, af, g⟩ K ρ w := by
  subst hf
  refine N.of (s := Instr.buildSlice T n (l.toArray.map fun (p : Nat × Operand) => (p.1, ev ρ p.2))) hg (by simp only [execOp]) ?_ (h _ rfl hM)
  have hm : (l.toArray.map fun (p : Nat × Operand) => (p.1, ev ρ p.2)).toList = (vss.zipIdx 0).map fun p => (p.2, .agg p.1.toArray) := by
    have := idx_parts l (vss.map fun c => .agg c.toArray) 0 (by simpa using hi) hv
    simp only [List.zipIdx_map, List.map_map] at this
    simpa [Function.comp_def] using this
  have hb : ¬ n * m > 2 ^ 24 := by have := Nat.le_of_ble_eq_true hb; omega
  have key : ∀ zc : Array Value, Instr.fill (fun i => some (i * m, m)) ((Array.range (n * m)).map fun i => zc[i % zc.size]!) (l.toArray.map fun (p : Nat × Operand) => (p.1, ev ρ p.2)).toList = some vss.flatten.toArray := by
    intro zc
    rw [hm]
    have := fill_many vss ho 0 [] (((Array.range (n * m)).map fun i => zc[i % zc.size]!).toList) (by simp) (by simp [hl])
    simpa only [List.nil_append, Array.toArray_toList] using this
  simp only [Instr.buildSlice, Sem.run_bind, hT, Result.andThen_ok, hn, if_neg hb, pure_bind]
  by_cases h0 : n * m = 0
  · simp only [if_pos h0]
    rw [key]
    simp [newRow]
  · simp only [if_neg h0, Sem.run_bind, hz, Result.andThen_ok]
    rw [key]
    simp [newRow]
/-- nil against a slice. -/
theorem eq_sl {E : TypeId} {s : Sl} (hT : ∀ w, (underlying T).run P w = .ok (.slice E) w) (n : Nat) : (Op.equalIn (n + 1) T s.val (.slice none 0 0)).run P w = .ok s.addr.isNone w := by
  obtain ⟨ad, l, c⟩ := s
  cases ad <;> simp [Op.equalIn, hT, Sl.val]
theorem Y.eqN {s : Sl} {E : TypeId} (hg : wantedG all g ρ = true) (hT : ∀ w, (underlying T).run P w = .ok (.slice E) w) (hx : ev ρ x = s.val) (hy : ev ρ y = .slice none 0 0) : YieldsE P all w ⟨d, .binOp .eql T x y T', ty, pos, af, g⟩ (.bool s.addr.isNone) ρ :=
  Y.of hg (exec_eql hx hy rfl (by simp [eqGuard]) (eq_sl hT 9999))
theorem Y.neN {s : Sl} {E : TypeId} (hg : wantedG all g ρ = true) (hT : ∀ w, (underlying T).run P w = .ok (.slice E) w) (hx : ev ρ x = s.val) (hy : ev ρ y = .slice none 0 0) : YieldsE P all w ⟨d, .binOp .neq T x y T', ty, pos, af, g⟩ (.bool (!s.addr.isNone)) ρ :=
  Y.of hg (exec_neq hx hy rfl (by simp [eqGuard]) (eq_sl hT 9999))
end
end Go.Sh
