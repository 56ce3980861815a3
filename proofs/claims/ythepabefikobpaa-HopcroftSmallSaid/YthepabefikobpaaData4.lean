/- More rules: what stays as nothing old changes; growth of full slices; elements of several cells that are written one by one. No condition. -/
import Derived.Test.YthepabefikobpaaC9
namespace Go.Sh
open Go
section
variable {α γ : Type} {k : γ → World → Prop} {w w' : World} {n T m : Nat} {S : Nat → Prop} {s : Sl} {vs : List Value}
theorem Blk.g {b : Nat} {cs : List Value} (h : Blk w b T cs) (hc : Grow w w') : Blk w' b T cs := h.chg hc fun x => x
theorem Rd.g (h : Rd m S w s vs) (hc : Grow w w') : Rd m S w' s vs := h.chg hc fun _ _ x => x
theorem Own.g (h : Own n w s T m vs) (hc : Grow w w') : Own n w' s T m vs := h.chg hc fun _ _ x => x
theorem Rd.any (h : Rd m S w s vs) : Rd m (fun _ => True) w s vs := h.mono fun _ _ => trivial
/-- A slice that may be appended to: one's own, or full. -/
def Gr (n : Nat) (S : Nat → Prop) (w : World) (s : Sl) (T m : Nat) (vs : List Value) : Prop :=
  (Own n w s T m vs ∧ ∀ b, ownb s b → S b) ∨ (Rd m S w s vs ∧ s.len = s.cap ∧ ∃ a, s.addr = some a)
theorem Gr.rd (h : Gr n S w s T m vs) : Rd m S w s vs := by
  rcases h with ⟨h, h2⟩ | ⟨h, _⟩
  · exact h.rd h2
  · exact h
theorem Gr.chg {p : Nat → Prop} (h : Gr n S w s T m vs) (hc : Chg p w w') (hp : ∀ b, S b → ¬ p b) : Gr n S w' s T m vs := by
  rcases h with ⟨h, h2⟩ | ⟨h, h2⟩
  · exact .inl ⟨h.chg hc fun b hb => hp b (h2 b hb), h2⟩
  · exact .inr ⟨h.chg hc hp, h2⟩
theorem Gr.mono {S' : Nat → Prop} (hm : 0 < m) (h : Gr n S w s T m vs) (hs : ∀ b, b < w.heap.size → S b → S' b) : Gr n S' w s T m vs := by
  rcases h with ⟨h, h2⟩ | ⟨h, h2⟩
  · exact .inl ⟨h, fun b hb => hs b (h.ge hb).2 (h2 b hb)⟩
  · refine .inr ⟨⟨h.len, h.cap, fun h0 => ?_⟩, h2⟩
    obtain ⟨a, g1, g2, g3, g4⟩ := h.read h0
    have hl : 0 < vs.length := by rw [h.len]; exact Nat.mul_pos (by omega) hm
    have := g4 0 _ (List.getElem?_eq_getElem hl)
    have := World.block_lt_of_cell? _ _ this
    rw [add_block] at this
    exact ⟨a, g1, g2, hs _ this g3, g4⟩
theorem Rd.mono2 {S' : Nat → Prop} (hm : 0 < m) (h : Rd m S w s vs) (hs : ∀ b, b < w.heap.size → S b → S' b) : Rd m S' w s vs := by
  refine ⟨h.len, h.cap, fun h0 => ?_⟩
  obtain ⟨a, g1, g2, g3, g4⟩ := h.read h0
  have hl : 0 < vs.length := by rw [h.len]; exact Nat.mul_pos (by omega) hm
  have := g4 0 _ (List.getElem?_eq_getElem hl)
  have := World.block_lt_of_cell? _ _ this
  rw [add_block] at this
  exact ⟨a, g1, g2, hs _ this g3, g4⟩
theorem M.gapp {P : Program} {t ty bytes : Nat} {info : TypeInfo} {z : Value} {cs : List Value} {f : Sl → M γ}
    (ht : P.underlying t = some (.slice T)) (hi : P.info? T = some info) (hz : info.zero = some z) (hsz : info.size = m) (hby : info.bytes = bytes) (hzs : z.cells.size = m) (hm : 0 < m)
    (h : Gr n S w s T m vs) (hcs : cs.length = m) (ho : ∀ u ∈ cs, one1 u = true) (hn : n ≤ w.heap.size) (hb : (s.len + 1) * bytes ≤ 140737488355328) (hl : s.len < 140737488355328)
    (hf : ∀ r w', Own n w' r T m (vs ++ cs) → r.len = s.len + 1 → Chg S w w' → (∀ b, ownb r b → S b ∨ w.heap.size ≤ b) → f r w' k) :
    M.new T cs (fun b => M.run P (Builtin.append_ #[t, t] ty #[s.val, Sl.val ⟨some b, 1, 1⟩]) Sl.val f) w k := by
  rcases h with ⟨h, h2⟩ | ⟨h, h2, a, ha⟩
  · exact M.app ht hi hz hsz hby hzs hm h hcs ho hn hb hl fun r w' g1 g2 g3 g4 => hf r w' g1 g2 (g3.mono fun b _ hb => h2 b hb) fun b hb => (g4 b hb).imp (h2 b) id
  · subst hsz hby
    have hb2 := Blk.new w T cs
    have hg := Grow.alloc w (.cells cs.toArray T)
    have h' := h.g hg
    have hr0 : ∀ j v, vs[j]? = some v → (w.alloc (.cells cs.toArray T)).cell? (a.add j) = some v := by
      intro j v hv
      by_cases h0 : s.len = 0
      · have := h'.len; rw [h0, Nat.zero_mul] at this
        rw [List.length_eq_zero_iff.1 this] at hv; simp at hv
      · obtain ⟨a', g1, _, _, g4⟩ := h'.read h0
        rw [ha] at g1; cases g1
        exact g4 j v hv
    have hr := run_append_grow (P := P) (w.alloc (.cells cs.toArray T)) t ty T info z ht hi hz a s.len s.cap vs h.len hr0 ⟨w.heap.size, 0, none⟩ 1 1 cs (by simpa using hcs) (fun j u hu => hb2.cell hu) (by omega) (by omega) (growslice_fits (by omega) hb)
    have hv : s.val = .slice (some a) s.len s.cap := by rw [Sl.val, ha]
    rw [← hv] at hr
    refine ⟨⟨_, _, _⟩, _, hr, hf _ _ ?_ rfl ?_ fun b hb => ?_⟩
    · have hge := grownCap_ge (w.alloc (.cells cs.toArray T)) (s.len + 1) s.cap T
      have hlen : (vs ++ cs).length = (s.len + 1) * info.size := by rw [List.length_append, h.len, hcs, Nat.add_mul, Nat.one_mul]
      refine Own.mk (b := (w.alloc (.cells cs.toArray T)).heap.size) (cs := (vs.toArray ++ cs.toArray ++ Builtin.zeroCells z.cells (grownCap (w.alloc (.cells cs.toArray T)) (s.len + 1) s.cap T - (s.len + 1))).toList) rfl (by simp; omega) ?_ hge (grownCap_le_maxLen _ _ _ _ (by simp only [maxLen]; omega)) ?_ ?_
      · have := heap_alloc_new (w.alloc (.cells cs.toArray T)).drew (.cells (vs.toArray ++ cs.toArray ++ Builtin.zeroCells z.cells (grownCap (w.alloc (.cells cs.toArray T)) (s.len + 1) s.cap T - (s.len + 1))) T)
        unfold Blk
        rw [Array.toArray_toList]
        exact this
      · have e : ∀ G, s.len + 1 ≤ G → s.len * info.size + info.size + (G - (s.len + 1)) * info.size = G * info.size := by
          intro G h
          rw [← Nat.succ_mul, ← Nat.add_mul]
          congr 1
          simp only [Nat.succ_eq_add_one]
          omega
        simp only [Array.toList_append, List.length_append, Array.length_toList, size_zeroCells, hzs, h.len, hcs]
        exact e _ hge
      · simp only [Array.toList_append]
        rw [← hlen]
        exact List.take_left' rfl
    · exact ((hg.trans (Grow.drew _)).trans (Grow.alloc _ _)).any
    · right
      obtain ⟨a', e1, e2⟩ := hb
      cases e1
      simp at e2
      omega
/-- Nothing is appended. -/
theorem M.app0 {P : Program} {t ty : Nat} {info : TypeInfo} {t2 : Sl} {f : Sl → M γ} (ht : P.underlying t = some (.slice T)) (hi : P.info? T = some info) (hs : s.len ≤ s.cap) (ha : t2.addr = none) (hl : t2.len = 0) (hf : f s w k) :
    M.run P (Builtin.append_ #[t, t] ty #[s.val, t2.val]) Sl.val f w k := by
  refine ⟨s, w, ?_, hf⟩
  obtain ⟨a, l, c⟩ := s
  obtain ⟨a2, l2, c2⟩ := t2
  simp only at ha hl hs
  subst ha hl
  cases a <;> simp [Builtin.append_, run_underlying ht, sizeOf, typeInfo, hi, Builtin.lenOf, Builtin.firstCells, hs, storeCells, Sl.val]
/-- The address of an element of one's own. -/
theorem M.ixO {f : Addr → M γ} {i : Int} (j : Nat) (h : Own n w s T m vs) (hij : i = j) (hj : j < s.len) (hf : ∀ b, s.addr = some ⟨b, 0, none⟩ → f ((⟨b, 0, none⟩ : Addr).add (j * m)) w k) : M.ix s i m f w k := by
  subst hij
  rcases h.out.2 with rfl | ⟨b, cs, h2, h3, h4, h5, h6, h7, h8⟩
  · simp [Sl.nil] at hj
  · exact ⟨_, _, h2, ⟨by omega, by omega⟩, by rw [Int.toNat_natCast], hf b h2⟩
theorem Own.cell (h : Own n w s T m vs) {b : Nat} (hb : s.addr = some ⟨b, 0, none⟩) {j : Nat} {v : Value} (hv : vs[j]? = some v) : w.cell? ((⟨b, 0, none⟩ : Addr).add j) = some v := by
  rcases h.out.2 with rfl | ⟨b', cs, h2, h3, h4, h5, h6, h7, h8⟩
  · cases hb
  · rw [h2] at hb; cases hb
    refine h4.cell ?_
    rw [← h8, List.getElem?_take] at hv
    split at hv
    · exact hv
    · cases hv
theorem M.ldO {e : α → Value} {f : α → M γ} (i j : Nat) {x : α} (h : Own n w s T m vs) {b : Nat} (hb : s.addr = some ⟨b, 0, none⟩) (hx : vs[i + j]? = some (e x)) (hf : f x w k) : M.ld e (((⟨b, 0, none⟩ : Addr).add i).add j) f w k :=
  ⟨x, by rw [add_add _ rfl]; exact h.cell hb hx, hf⟩
theorem M.stO {f : M γ} {v : Value} (i j : Nat) (h : Own n w s T m vs) {b : Nat} (hb : s.addr = some ⟨b, 0, none⟩) (hx : i + j < vs.length) (hf : ∀ w', Own n w' s T m (vs.set (i + j) v) → Chg (ownb s) w w' → w'.heap.size = w.heap.size → f w' k) : M.st (((⟨b, 0, none⟩ : Addr).add i).add j) v f w k := by
  rw [add_add _ rfl]
  rcases h.out.2 with rfl | ⟨b', cs, h2, h3, h4, h5, h6, h7, h8⟩
  · cases hb
  · rw [h2] at hb; cases hb
    have hlen := h.out.1
    refine M.stB (i + j) h4 (by have : vs.length ≤ cs.length := by rw [← h8, List.length_take]; exact Nat.min_le_right _ _
                                omega) fun w' hb hc hs => hf w' ?_ (hc.mono fun b' _ e' => ⟨_, h2, e'.symm⟩) hs
    refine Own.mk h2 h3 hb h5 h6 (by simp [h7]) ?_
    rw [List.take_set, h8]
end
/-! spans in a row -/
def spc (sp : Nat → Spv) (B : Nat) : List Value := ((List.range B).map fun i => Spv.cs (sp i)).flatten
theorem spc_len (sp : Nat → Spv) (B : Nat) : (spc sp B).length = B * 3 := by
  have := flat_len (f := fun i => Spv.cs (sp i)) (m := 3) (fun _ => rfl) (List.range B)
  simpa [spc] using this
theorem spc_get (sp : Nat → Spv) {B i j : Nat} (hi : i < B) (hj : j < 3) : (spc sp B)[i * 3 + j]? = (Spv.cs (sp i))[j]? :=
  flat_get (f := fun i => Spv.cs (sp i)) (fun _ => rfl) (List.range B) i j i (by simp [hi]) hj
theorem spc_set (sp : Nat → Spv) {B i j : Nat} (_hi : i < B) (hj : j < 3) (v : Value) (x : Spv) (hx : (Spv.cs (sp i)).set j v = Spv.cs x) : (spc sp B).set (i * 3 + j) v = spc (ups sp i x) B := by
  apply List.ext_getElem?
  intro q
  rw [List.getElem?_set]
  by_cases hq : q < B * 3
  · have e : q = q / 3 * 3 + q % 3 := by omega
    have h1 : q / 3 < B := by omega
    have h2 : q % 3 < 3 := Nat.mod_lt _ (by omega)
    rw [e, spc_get _ h1 h2, spc_get _ h1 h2]
    by_cases h3 : q / 3 = i
    · have : ups sp i x (q / 3) = x := by simp [ups, h3]
      rw [this, ← hx, List.getElem?_set, h3]
      by_cases h4 : j = q % 3
      · rw [if_pos (by omega), if_pos h4, if_pos (by rw [spc_len]; omega), if_pos (by simp [Spv_len]; omega)]
      · rw [if_neg (by omega), if_neg h4]
    · have : ups sp i x (q / 3) = sp (q / 3) := by simp [ups, h3]
      rw [this, if_neg (by omega)]
  · rw [List.getElem?_eq_none (by rw [spc_len]; omega), List.getElem?_eq_none (by rw [spc_len]; omega)]
    split
    · rw [if_neg (by rw [spc_len]; omega)]
    · rfl
theorem spc_succ (sp : Nat → Spv) (B : Nat) (x : Spv) : spc sp B ++ Spv.cs x = spc (ups sp B x) (B + 1) := by
  simp only [spc, List.range_succ, List.map_append, List.flatten_append, List.map_cons, List.map_nil, List.flatten_cons, List.flatten_nil, List.append_nil]
  congr 1
  · congr 1
    refine List.map_congr_left fun i hi => ?_
    have : i ≠ B := by have := List.mem_range.1 hi; omega
    simp [ups, this]
  · simp [ups]
theorem spc_congr {sp sp' : Nat → Spv} {B : Nat} (h : ∀ i, i < B → sp i = sp' i) : spc sp B = spc sp' B := by
  simp only [spc]
  congr 1
  exact List.map_congr_left fun i hi => by rw [h i (List.mem_range.1 hi)]
end Go.Sh
