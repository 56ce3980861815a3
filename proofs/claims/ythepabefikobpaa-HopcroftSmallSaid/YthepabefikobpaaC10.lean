/- Contracts: the parter of blocks in memory (hopcroft.parter): inside, mark, part, ask, take, askLesser. Conditions: as each states. -/
import Derived.Test.YthepabefikobpaaData4
namespace Go.Sh
open Go Go.Sp
/-- What a parter holds: states block by block, where each stands, its block, the blocks' spans, what waits. -/
structure PS where
  st : Nat → Nat
  pos : Nat → Nat
  bl : Nat → Nat
  B : Nat
  lo : Nat → Nat
  hi : Nat → Nat
  md : Nat → Nat
  W : List (Nat × Nat)
def nI (f : Nat → Nat) : Nat → Int := fun x => (f x : Int)
theorem nI_ups (f : Nat → Nat) (i x : Nat) : nI (ups f i x) = ups (nI f) i (x : Int) := by
  funext j; simp only [nI, ups]; split <;> rfl
def PS.sp (s : PS) : Nat → Spv := fun i => ⟨s.lo i, s.hi i, s.md i⟩
def prI (p : Nat × Nat) : Int × Int := ((p.1 : Int), (p.2 : Int))
def prc (p : Nat × Nat) : List Value := Pr.cs (prI p)
theorem prI_inj {p q : Nat × Nat} (h : prI p = prI q) : p = q := by
  obtain ⟨a, b⟩ := p
  obtain ⟨c, d⟩ := q
  simp only [prI, Prod.mk.injEq] at h ⊢
  omega
/-- Of each class and state those from which it is behind. -/
def BkAt (S : Nat → Prop) (w : World) (s : Sl) (N K : Nat) (bk : Nat → Nat → List Nat) : Prop :=
  ∃ ss : List Sl, Rd 1 S w s (ss.map Sl.val) ∧ ss.length = K ∧ ∀ (k : Nat) (t : Sl), ss[k]? = some t → ∃ tt : List Sl, Rd 1 S w t (tt.map Sl.val) ∧ tt.length = N ∧ ∀ (i : Nat) (u : Sl), tt[i]? = some u → Rd 1 S w u (((bk k i).map Int.ofNat).map vI)
theorem BkAt.chg {S p : Nat → Prop} {w w' : World} {s : Sl} {N K : Nat} {bk : Nat → Nat → List Nat} (h : BkAt S w s N K bk) (hc : Chg p w w') (hp : ∀ b, S b → ¬ p b) : BkAt S w' s N K bk := by
  obtain ⟨ss, h1, h2, h3⟩ := h
  refine ⟨ss, h1.chg hc hp, h2, fun k t ht => ?_⟩
  obtain ⟨tt, g1, g2, g3⟩ := h3 k t ht
  exact ⟨tt, g1.chg hc hp, g2, fun i u hu => (g3 i u hu).chg hc hp⟩
theorem BkAt.mono2 {S S' : Nat → Prop} {w : World} {s : Sl} {N K : Nat} {bk : Nat → Nat → List Nat} (h : BkAt S w s N K bk) (hs : ∀ b, b < w.heap.size → S b → S' b) : BkAt S' w s N K bk := by
  obtain ⟨ss, h1, h2, h3⟩ := h
  refine ⟨ss, h1.mono2 (by decide) hs, h2, fun k t ht => ?_⟩
  obtain ⟨tt, g1, g2, g3⟩ := h3 k t ht
  exact ⟨tt, g1.mono2 (by decide) hs, g2, fun i u hu => (g3 i u hu).mono2 (by decide) hs⟩
/-- A parter in memory; each part lies in blocks of its own mark. -/
structure PMb (n0 N K : Nat) (w : World) (tag : Nat → Nat) (b : Nat) (p : Ptv) (s : PS) : Prop where
  nz : n0 ≤ w.heap.size
  blk : Blk w b 52 (Ptv.cs p)
  tb : tag b = 1
  st : Arr n0 w p.states N (nI s.st)
  tst : ∀ x, ownb p.states x → tag x = 2
  pos : Arr n0 w p.pos N (nI s.pos)
  tpos : ∀ x, ownb p.pos x → tag x = 3
  bl : Arr n0 w p.block N (nI s.bl)
  tbl : ∀ x, ownb p.block x → tag x = 4
  sp : Own n0 w p.spans 75 3 (spc s.sp s.B)
  tsp : ∀ x, ownb p.spans x → tag x = 5
  wt : Gr n0 (fun x => tag x = 6) w p.waits 54 2 (s.W.map prc).flatten
  ask : ∃ m es, p.asked = some m ∧ tag m = 7 ∧ Mp w m ePr vI es ∧ (es.map (·.1)).Nodup ∧ ∀ q : Nat × Nat, (assoc es (prI q)).getD 0 = if q ∈ s.W then 1 else 0
  width : p.width = (K : Int)
  ge : ∀ x, 1 ≤ tag x → tag x ≤ 7 → n0 ≤ x
structure PM (n0 N K : Nat) (bk : Nat → Nat → List Nat) (w : World) (tag : Nat → Nat) (b : Nat) (p : Ptv) (s : PS) : Prop extends PMb n0 N K w tag b p s where
  back : BkAt (fun x => tag x = 8) w p.back N K bk
def Pt (tag : Nat → Nat) : Nat → Prop := fun x => 1 ≤ tag x ∧ tag x ≤ 7
def PMem (n0 N K : Nat) (bk : Nat → Nat → List Nat) (w : World) (tag : Nat → Nat) (b : Nat) (s : PS) : Prop := ∃ p, PM n0 N K bk w tag b p s
section
variable {n0 N K b : Nat} {bk : Nat → Nat → List Nat} {w w' : World} {tag tag' : Nat → Nat} {p : Ptv} {s : PS} {γ : Type} {k : γ → World → Prop}
theorem PMb.chg {q : Nat → Prop} (h : PMb n0 N K w tag b p s) (hc : Chg q w w') (hq : ∀ x, 1 ≤ tag x → tag x ≤ 8 → ¬ q x) (ht : ∀ x, x < w.heap.size → tag' x = tag x) : PMb n0 N K w' tag' b p s := by
  have own : ∀ {s : Sl} {T m : Nat} {vs : List Value} {j : Nat}, Own n0 w s T m vs → (∀ x, ownb s x → tag x = j) → 1 ≤ j → j ≤ 8 → Own n0 w' s T m vs ∧ ∀ x, ownb s x → tag' x = j := fun {s T m vs j} h1 h2 h3 h4 =>
    ⟨h1.chg hc fun x hx => hq x (by rw [h2 x hx]; exact h3) (by rw [h2 x hx]; exact h4), fun x hx => by rw [ht x (h1.ge hx).2]; exact h2 x hx⟩
  obtain ⟨m, es, a1, a2, a3, a4, a5⟩ := h.ask
  exact {
    nz := Nat.le_trans h.nz hc.size
    blk := h.blk.chg hc (hq b (by rw [h.tb]; omega) (by rw [h.tb]; omega))
    tb := by rw [ht b h.blk.lt]; exact h.tb
    st := (own h.st h.tst (by omega) (by omega)).1
    tst := (own h.st h.tst (by omega) (by omega)).2
    pos := (own h.pos h.tpos (by omega) (by omega)).1
    tpos := (own h.pos h.tpos (by omega) (by omega)).2
    bl := (own h.bl h.tbl (by omega) (by omega)).1
    tbl := (own h.bl h.tbl (by omega) (by omega)).2
    sp := (own h.sp h.tsp (by omega) (by omega)).1
    tsp := (own h.sp h.tsp (by omega) (by omega)).2
    wt := ((h.wt.mono (S' := fun x => tag x = 6 ∧ x < w.heap.size) (by decide) fun x hx h8 => ⟨h8, hx⟩).chg hc fun x hx => hq x (by rw [hx.1]; omega) (by rw [hx.1]; omega)).mono (by decide) fun x _ hx => (ht x hx.2).trans hx.1
    ask := ⟨m, es, a1, by rw [ht m a3.lt]; exact a2, a3.chg hc (hq m (by rw [a2]; omega) (by rw [a2]; omega)), a4, a5⟩
    width := h.width
    ge := fun x h1 h2 => by
      by_cases hx : x < w.heap.size
      · rw [ht x hx] at h1 h2; exact h.ge x h1 h2
      · have := h.nz; omega }
theorem PMb.g (h : PMb n0 N K w tag b p s) (hc : Grow w w') : PMb n0 N K w' tag b p s := h.chg hc (fun _ _ _ x => x) fun _ _ => rfl
theorem PM.chg {q : Nat → Prop} (h : PM n0 N K bk w tag b p s) (hc : Chg q w w') (hq : ∀ x, 1 ≤ tag x → tag x ≤ 8 → ¬ q x) (ht : ∀ x, x < w.heap.size → tag' x = tag x) : PM n0 N K bk w' tag' b p s := by
  have own : ∀ {s : Sl} {T m : Nat} {vs : List Value} {j : Nat}, Own n0 w s T m vs → (∀ x, ownb s x → tag x = j) → 1 ≤ j → j ≤ 8 → Own n0 w' s T m vs ∧ ∀ x, ownb s x → tag' x = j := fun {s T m vs j} h1 h2 h3 h4 =>
    ⟨h1.chg hc fun x hx => hq x (by rw [h2 x hx]; exact h3) (by rw [h2 x hx]; exact h4), fun x hx => by rw [ht x (h1.ge hx).2]; exact h2 x hx⟩
  obtain ⟨m, es, a1, a2, a3, a4, a5⟩ := h.ask
  exact {
    nz := Nat.le_trans h.nz hc.size
    blk := h.blk.chg hc (hq b (by rw [h.tb]; omega) (by rw [h.tb]; omega))
    tb := by rw [ht b h.blk.lt]; exact h.tb
    st := (own h.st h.tst (by omega) (by omega)).1
    tst := (own h.st h.tst (by omega) (by omega)).2
    pos := (own h.pos h.tpos (by omega) (by omega)).1
    tpos := (own h.pos h.tpos (by omega) (by omega)).2
    bl := (own h.bl h.tbl (by omega) (by omega)).1
    tbl := (own h.bl h.tbl (by omega) (by omega)).2
    sp := (own h.sp h.tsp (by omega) (by omega)).1
    tsp := (own h.sp h.tsp (by omega) (by omega)).2
    back := ((h.back.mono2 (S' := fun x => tag x = 8 ∧ x < w.heap.size) fun x hx h8 => ⟨h8, hx⟩).chg hc fun x hx => hq x (by rw [hx.1]; omega) (by rw [hx.1]; omega)).mono2 fun x _ hx => (ht x hx.2).trans hx.1
    wt := ((h.wt.mono (S' := fun x => tag x = 6 ∧ x < w.heap.size) (by decide) fun x hx h8 => ⟨h8, hx⟩).chg hc fun x hx => hq x (by rw [hx.1]; omega) (by rw [hx.1]; omega)).mono (by decide) fun x _ hx => (ht x hx.2).trans hx.1
    ask := ⟨m, es, a1, by rw [ht m a3.lt]; exact a2, a3.chg hc (hq m (by rw [a2]; omega) (by rw [a2]; omega)), a4, a5⟩
    width := h.width
    ge := fun x h1 h2 => by
      by_cases hx : x < w.heap.size
      · rw [ht x hx] at h1 h2; exact h.ge x h1 h2
      · have := h.nz; omega }
theorem PM.g (h : PM n0 N K bk w tag b p s) (hc : Grow w w') : PM n0 N K bk w' tag b p s := h.chg hc (fun _ _ _ x => x) fun _ _ => rfl
theorem M.ld_of {α : Type} {e : α → Value} {a : Addr} {f : α → M γ} {x : α} (h : w.cell? a = some (e x)) (hf : f x w k) : M.ld e a f w k := ⟨x, h, hf⟩
theorem M.nn_of {a : Addr} {f : Addr → M γ} (h : f a w k) : M.nn (some a) f w k := ⟨a, rfl, h⟩
theorem M.ldAO {α : Type} {e : α → List Value} {f : α → M γ} {n T m : Nat} {s : Sl} {vs : List Value} (i : Nat) {x : α} (h : Own n w s T m vs) {b : Nat} (hb : s.addr = some ⟨b, 0, none⟩) (hx : ∀ j v, (e x)[j]? = some v → vs[i + j]? = some v) (hf : f x w k) : M.ldA e ((⟨b, 0, none⟩ : Addr).add i) f w k :=
  ⟨x, fun j v hv => by rw [add_add _ rfl]; exact h.cell hb (hx j v hv), hf⟩
theorem cut_range {f : Nat → Int} {N a c : Nat} (h : a + c ≤ N) : ((((List.range N).map f).map vI).drop (a * 1)).take (c * 1) = (((List.range c).map fun i => f (a + i)).map vI) := by
  apply List.ext_getElem?
  intro i
  simp only [Nat.mul_one, List.getElem?_take, List.getElem?_drop, List.getElem?_map]
  by_cases hi : i < c
  · rw [if_pos hi, List.getElem?_range (by omega), List.getElem?_range hi]; rfl
  · rw [if_neg hi, List.getElem?_eq_none (by simp; omega)]; rfl
/-- One state is marked. -/
def PS.mark (s : PS) (x : Nat) : PS :=
  if s.pos x < s.lo (s.bl x) + s.md (s.bl x) then s else
  { s with st := ups (ups s.st (s.lo (s.bl x) + s.md (s.bl x)) x) (s.pos x) (s.st (s.lo (s.bl x) + s.md (s.bl x)))
           pos := ups (ups s.pos (s.st (s.lo (s.bl x) + s.md (s.bl x))) (s.pos x)) x (s.lo (s.bl x) + s.md (s.bl x))
           md := ups s.md (s.bl x) (s.md (s.bl x) + 1) }
/-- A block is parted. -/
def PS.part (s : PS) (c : Nat) : PS :=
  if s.md c = s.hi c - s.lo c then { s with md := ups s.md c 0 } else
  { s with B := s.B + 1
           lo := ups (ups s.lo s.B (s.lo c)) c (s.lo c + s.md c)
           hi := ups s.hi s.B (s.lo c + s.md c)
           md := ups (ups s.md s.B 0) c 0
           bl := fun x => if s.lo c ≤ s.pos x ∧ s.pos x < s.lo c + s.md c then s.B else s.bl x }
end
end Go.Sh
namespace Go.Proofs.Ythepabefikobpaa
open Go Go.Sh Go.Sp
namespace C
variable {n0 N K b : Nat} {bk : Nat → Nat → List Nat} {w w' : World} {tag tag' : Nat → Nat} {p : Ptv} {s : PS}
theorem parter_inside {c : Nat} (h : PM n0 N K bk w tag b p s) (hc : c < s.B) (h1 : s.lo c ≤ s.hi c) (h2 : s.hi c ≤ N) :
    Calls Try.prog 55 [vP (some ⟨b, 0, none⟩), vI c].toArray w (Ret Sl.val fun r w' => Rd 1 (fun x => tag x = 2) w' r (((List.range (s.hi c - s.lo c)).map fun i => nI s.st (s.lo c + i)).map vI) ∧ Grow w w') := by
  apply L.hopcroft_parter_inside
  unfold S.hopcroft_parter_inside
  have hspl : p.spans.len = s.B := by have := h.sp.len; rw [spc_len] at this; omega
  refine M.nn_of (M.ldB 3 h.blk rfl (M.ixO c h.sp rfl (by omega) fun sb hsb => ?_))
  refine M.ldAO (x := s.sp c) (c * 3) h.sp hsb (fun j v hv => ?_) ?_
  · have hj : j < 3 := by rw [← Spv_len (s.sp c)]; exact (List.getElem?_eq_some_iff.1 hv).1
    rw [spc_get _ hc hj]; exact hv
  refine M.new_of fun b5 w1 hb5 hblk5 hg1 hs1 => M.stA_of hblk5 (by simp [Spv_len]) fun w2 hB5 hc2 hs2 => M.drew_of fun w3 _ hg3 => ?_
  have hG : Grow w w3 := (Chg.fresh hg1 hc2 fun x hx => by omega).trans hg3
  have hB5 := hB5.g hg3
  have h := h.g hG
  refine M.nn_of (M.ldB 0 h.blk rfl (M.ldB 0 hB5 rfl (M.ldB 1 hB5 rfl (M.ldB 1 hB5 rfl ?_))))
  have hr := Own.rd h.st (S := fun x => tag x = 2) h.tst
  have hl := h.st.len
  have hcap := hr.cap
  refine M.cut_rd (lo := s.lo c) (hi := s.hi c) (mx := s.hi c) hr h1 (by omega) (Nat.le_refl _) (by omega) fun t ht _ => ⟨?_, hG⟩
  rw [cut_range (by omega)] at ht
  exact ht
theorem parter_mark {x : Nat} (h : PM n0 N K bk w tag b p s) (hx : x < N) (hN : N ≤ 65536) (h1 : s.bl x < s.B) (h2 : s.pos x < N) (h3 : ∀ i, i < N → s.st i < N) (h4 : s.lo (s.bl x) + s.md (s.bl x) ≤ N) :
    Calls Try.prog 56 [vP (some ⟨b, 0, none⟩), vI x].toArray w (Ret Value.bool fun _ w' => PM n0 N K bk w' tag b p (s.mark x) ∧ Chg (Pt tag) w w') := by
  apply L.hopcroft_parter_mark
  unfold S.hopcroft_parter_mark
  have hspl : p.spans.len = s.B := by have := h.sp.len; rw [spc_len] at this; omega
  refine M.drew_of fun w1 _ hg1 => ?_
  have h' := h.g hg1
  refine M.nn_of (M.ldB 3 h'.blk rfl (M.nn_of (M.ldB 2 h'.blk rfl (M.arR h'.bl x rfl hx (M.ixO (s.bl x) h'.sp rfl (by omega) fun sb hsb => M.drew_of fun w2 _ hg2 => ?_)))))
  have hG2 := hg1.trans hg2
  have h := h.g hG2
  refine M.ldO (x := (s.lo (s.bl x) : Int)) (s.bl x * 3) 0 h.sp hsb (by rw [spc_get _ h1 (by omega)]; rfl) (M.ldO (x := (s.md (s.bl x) : Int)) (s.bl x * 3) 2 h.sp hsb (by rw [spc_get _ h1 (by omega)]; rfl) ?_)
  refine M.nn_of (M.ldB 1 h.blk rfl (M.arR h.pos x rfl hx ?_))
  have e1 : wI ((s.lo (s.bl x) : Int) + (s.md (s.bl x) : Int)) = (s.lo (s.bl x) + s.md (s.bl x) : Nat) := wIn (by omega) (by simp only [Big]; omega)
  rw [e1]
  refine M.if_ (fun hlt => ?_) (fun hge => ?_)
  · have hlt : s.pos x < s.lo (s.bl x) + s.md (s.bl x) := by simp only [nI] at hlt; omega
    refine ⟨?_, hG2.any⟩
    rw [PS.mark, if_pos hlt]
    exact h
  have hge : ¬ s.pos x < s.lo (s.bl x) + s.md (s.bl x) := by simp only [nI] at hge; omega
  have hm : s.mark x = { s with st := ups (ups s.st (s.lo (s.bl x) + s.md (s.bl x)) x) (s.pos x) (s.st (s.lo (s.bl x) + s.md (s.bl x))), pos := ups (ups s.pos (s.st (s.lo (s.bl x) + s.md (s.bl x))) (s.pos x)) x (s.lo (s.bl x) + s.md (s.bl x)), md := ups s.md (s.bl x) (s.md (s.bl x) + 1) } := by rw [PS.mark, if_neg hge]
  rw [hm]
  generalize hpl : s.lo (s.bl x) + s.md (s.bl x) = pl at *
  have hplN : pl < N := by omega
  refine M.nn_of (M.ldB 0 h.blk rfl (M.arR h.st pl rfl hplN (M.drew_of fun w3 _ hg3 => ?_)))
  have hG3 := hG2.trans hg3
  have h := h.g hg3
  have tS : ∀ y, ownb p.states y → Pt tag y := fun y hy => by have := h.tst y hy; constructor <;> omega
  have tP : ∀ y, ownb p.pos y → Pt tag y := fun y hy => by have := h.tpos y hy; constructor <;> omega
  have tX : ∀ y, ownb p.spans y → Pt tag y := fun y hy => by have := h.tsp y hy; constructor <;> omega
  refine M.nn_of (M.ldB 0 h.blk rfl (M.nn_of (M.ldB 0 h.blk rfl (M.nn_of (M.ldB 1 h.blk rfl (M.arR h.pos x rfl hx ?_))))))
  refine M.arW h.st pl rfl hplN fun w4 hst4 hc4 _ => M.arW hst4 (s.pos x) rfl h2 fun w5 hst5 hc5 _ => ?_
  have hc35 := hc4.c hc5
  refine M.drew_of fun w6 _ hg6 => ?_
  have hc36 := hc35.g hg6
  have hst6 := hst5.g hg6
  have hblk6 := h.blk.chg hc36 fun e => by have := h.tst _ e; have := h.tb; omega
  have hpos6 := h.pos.chg hc36 fun y hy e => by have := h.tst _ e; have := h.tpos y hy; omega
  have hsp6 := h.sp.chg hc36 fun y hy e => by have := h.tst _ e; have := h.tsp y hy; omega
  refine M.nn_of (M.ldB 1 hblk6 rfl (M.nn_of (M.ldB 1 hblk6 rfl (M.nn_of (M.ldB 1 hblk6 rfl (M.arR hpos6 x rfl hx ?_))))))
  refine M.arW hpos6 (s.st pl) rfl (h3 _ hplN) fun w7 hpos7 hc7 _ => M.arW hpos7 x rfl hx fun w8 hpos8 hc8 _ => ?_
  have hc68 := hc7.c hc8
  have hsp8 := hsp6.chg hc68 fun y hy e => by have := h.tpos _ e; have := h.tsp y hy; omega
  have hst8 := hst6.chg hc68 fun y hy e => by have := h.tpos _ e; have := h.tst y hy; omega
  have hblk8 := hblk6.chg hc68 fun e => by have := h.tpos _ e; have := h.tb; omega
  refine M.ldO (x := (s.md (s.bl x) : Int)) (s.bl x * 3) 2 hsp8 hsb (by rw [spc_get _ h1 (by omega)]; rfl) ?_
  rw [wI_succ (by simp only [Big]; omega)]
  refine M.stO (s.bl x * 3) 2 hsp8 hsb (by rw [spc_len]; omega) fun w9 hsp9 hc9 _ => ?_
  rw [spc_set s.sp h1 (by omega) _ ⟨s.lo (s.bl x), s.hi (s.bl x), ((s.md (s.bl x) + 1 : Nat) : Int)⟩ rfl] at hsp9
  have hc39 : Chg (Pt tag) w3 w9 := ((hc36.mono fun y _ => tS y).c (hc68.mono fun y _ => tP y)).c (hc9.mono fun y _ => tX y)
  refine ⟨?_, (hG3.any (p := Pt tag)).c hc39⟩
  have hst9 := hst8.chg hc9 fun y hy e => by have := h.tsp _ e; have := h.tst y hy; omega
  have hpos9 := hpos8.chg hc9 fun y hy e => by have := h.tsp _ e; have := h.tpos y hy; omega
  have hblk9 := hblk8.chg hc9 fun e => by have := h.tsp _ e; have := h.tb; omega
  have hc39' : Chg (fun y => tag y = 2 ∨ tag y = 3 ∨ tag y = 5) w3 w9 := ((hc36.mono fun y _ hy => .inl (h.tst y hy)).c (hc68.mono fun y _ hy => .inr (.inl (h.tpos y hy)))).c (hc9.mono fun y _ hy => .inr (.inr (h.tsp y hy)))
  obtain ⟨m, es, a1, a2, a3, a4, a5⟩ := h.ask
  refine { nz := Nat.le_trans h.nz hc39.size, blk := hblk9, tb := h.tb, st := ?_, tst := h.tst, pos := ?_, tpos := h.tpos, bl := h.bl.chg hc39' fun y hy e => ?_, tbl := h.tbl, sp := ?_, tsp := h.tsp, back := h.back.chg hc39' fun y hy e => ?_, wt := h.wt.chg hc39' fun y hy e => ?_, ask := ⟨m, es, a1, a2, a3.chg hc39' ?_, a4, a5⟩, width := h.width, ge := h.ge }
  · simp only [nI_ups]; exact hst9
  · simp only [nI_ups]; exact hpos9
  · have := h.tbl y hy; omega
  · have e : ∀ sp sp' : Nat → Spv, (∀ i, sp i = sp' i) → Own n0 w9 p.spans 75 3 (spc sp s.B) → Own n0 w9 p.spans 75 3 (spc sp' s.B) := fun sp sp' h1 h2 => by rwa [← spc_congr fun i _ => h1 i]
    refine e _ _ (fun i => ?_) hsp9
    simp only [PS.sp, ups]
    by_cases hi : i = s.bl x
    · subst hi; simp
    · simp [hi]
  · omega
  · rintro (e | e | e) <;> omega
  · omega
theorem PM.setBl {bl : Nat → Nat} (h : PM n0 N K bk w tag b p s) (hc : Chg (ownb p.block) w w') (ha : Arr n0 w' p.block N (nI bl)) : PM n0 N K bk w' tag b p { s with bl := bl } := by
  have hc := hc.mono fun y _ hy => h.tbl y hy
  obtain ⟨m, es, a1, a2, a3, a4, a5⟩ := h.ask
  exact { nz := Nat.le_trans h.nz hc.size, blk := h.blk.chg hc (by rw [h.tb]; omega), tb := h.tb, st := h.st.chg hc (fun y hy => by rw [h.tst y hy]; omega), tst := h.tst, pos := h.pos.chg hc (fun y hy => by rw [h.tpos y hy]; omega), tpos := h.tpos, bl := ha, tbl := h.tbl, sp := h.sp.chg hc (fun y hy => by rw [h.tsp y hy]; omega), tsp := h.tsp, back := h.back.chg hc (fun y hy => by omega), wt := h.wt.chg hc (fun y hy => by omega), ask := ⟨m, es, a1, a2, a3.chg hc (by omega), a4, a5⟩, width := h.width, ge := h.ge }
theorem PM.setSp {B : Nat} {lo hi md : Nat → Nat} (h : PM n0 N K bk w tag b p s) (hc : Chg (ownb p.spans) w w') (ha : Own n0 w' p.spans 75 3 (spc (fun i => ⟨lo i, hi i, md i⟩) B)) : PM n0 N K bk w' tag b p { s with B := B, lo := lo, hi := hi, md := md } := by
  have hc := hc.mono fun y _ hy => h.tsp y hy
  obtain ⟨m, es, a1, a2, a3, a4, a5⟩ := h.ask
  exact { nz := Nat.le_trans h.nz hc.size, blk := h.blk.chg hc (by rw [h.tb]; omega), tb := h.tb, st := h.st.chg hc (fun y hy => by rw [h.tst y hy]; omega), tst := h.tst, pos := h.pos.chg hc (fun y hy => by rw [h.tpos y hy]; omega), tpos := h.tpos, bl := h.bl.chg hc (fun y hy => by rw [h.tbl y hy]; omega), tbl := h.tbl, sp := ha, tsp := h.tsp, back := h.back.chg hc (fun y hy => by omega), wt := h.wt.chg hc (fun y hy => by omega), ask := ⟨m, es, a1, a2, a3.chg hc (by omega), a4, a5⟩, width := h.width, ge := h.ge }
/-- The struct itself is written: a slice of spans takes another's place. -/
theorem PM.newSp {B : Nat} {lo hi md : Nat → Nat} {r : Sl} (h : PM n0 N K bk w tag b p s) (hc : Chg (fun y => tag y = 5 ∨ y = b) w w') (hk : ∀ x, x < w.heap.size → tag' x = tag x) (hb : Blk w' b 52 (Ptv.cs { p with spans := r })) (ha : Own n0 w' r 75 3 (spc (fun i => ⟨lo i, hi i, md i⟩) B)) (ht : ∀ x, ownb r x → tag' x = 5) :
    PM n0 N K bk w' tag' b { p with spans := r } { s with B := B, lo := lo, hi := hi, md := md } := by
  obtain ⟨m, es, a1, a2, a3, a4, a5⟩ := h.ask
  have hne : ∀ {y j : Nat}, tag y = j → j ≠ 1 → j ≠ 5 → ¬ (tag y = 5 ∨ y = b) := fun h1 h2 h3 e => by
    rcases e with e | e
    · omega
    · subst e; rw [h.tb] at h1; omega
  have own : ∀ {s : Sl} {T m : Nat} {vs : List Value} {j : Nat}, Own n0 w s T m vs → (∀ x, ownb s x → tag x = j) → j ≠ 1 → j ≠ 5 → Own n0 w' s T m vs ∧ ∀ x, ownb s x → tag' x = j := fun {s T m vs j} h1 h2 h3 h4 =>
    ⟨h1.chg hc fun x hx => hne (h2 x hx) h3 h4, fun x hx => by rw [hk x (h1.ge hx).2]; exact h2 x hx⟩
  exact {
    nz := Nat.le_trans h.nz hc.size
    blk := hb
    tb := by rw [hk b h.blk.lt]; exact h.tb
    st := (own h.st h.tst (by omega) (by omega)).1
    tst := (own h.st h.tst (by omega) (by omega)).2
    pos := (own h.pos h.tpos (by omega) (by omega)).1
    tpos := (own h.pos h.tpos (by omega) (by omega)).2
    bl := (own h.bl h.tbl (by omega) (by omega)).1
    tbl := (own h.bl h.tbl (by omega) (by omega)).2
    sp := ha
    tsp := ht
    back := ((h.back.mono2 (S' := fun x => tag x = 8 ∧ x < w.heap.size) fun x hx h8 => ⟨h8, hx⟩).chg hc fun x hx => hne hx.1 (by omega) (by omega)).mono2 fun x _ hx => (hk x hx.2).trans hx.1
    wt := ((h.wt.mono (S' := fun x => tag x = 6 ∧ x < w.heap.size) (by decide) fun x hx h8 => ⟨h8, hx⟩).chg hc fun x hx => hne hx.1 (by omega) (by omega)).mono (by decide) fun x _ hx => (hk x hx.2).trans hx.1
    ask := ⟨m, es, a1, by rw [hk m a3.lt]; exact a2, a3.chg hc (hne a2 (by omega) (by omega)), a4, a5⟩
    width := h.width
    ge := fun x h1 h2 => by
      by_cases hx : x < w.heap.size
      · rw [hk x hx] at h1 h2; exact h.ge x h1 h2
      · have := h.nz; omega }
theorem PMb.setSp {B : Nat} {lo hi md : Nat → Nat} (h : PMb n0 N K w tag b p s) (hc : Chg (ownb p.spans) w w') (ha : Own n0 w' p.spans 75 3 (spc (fun i => ⟨lo i, hi i, md i⟩) B)) : PMb n0 N K w' tag b p { s with B := B, lo := lo, hi := hi, md := md } := by
  have hc := hc.mono fun y _ hy => h.tsp y hy
  obtain ⟨m, es, a1, a2, a3, a4, a5⟩ := h.ask
  exact { nz := Nat.le_trans h.nz hc.size, blk := h.blk.chg hc (by rw [h.tb]; omega), tb := h.tb, st := h.st.chg hc (fun y hy => by rw [h.tst y hy]; omega), tst := h.tst, pos := h.pos.chg hc (fun y hy => by rw [h.tpos y hy]; omega), tpos := h.tpos, bl := h.bl.chg hc (fun y hy => by rw [h.tbl y hy]; omega), tbl := h.tbl, sp := ha, tsp := h.tsp, wt := h.wt.chg hc (fun y hy => by omega), ask := ⟨m, es, a1, a2, a3.chg hc (by omega), a4, a5⟩, width := h.width, ge := h.ge }
theorem PMb.newSp {B : Nat} {lo hi md : Nat → Nat} {r : Sl} (h : PMb n0 N K w tag b p s) (hc : Chg (fun y => tag y = 5 ∨ y = b) w w') (hk : ∀ x, x < w.heap.size → tag' x = tag x) (hb : Blk w' b 52 (Ptv.cs { p with spans := r })) (ha : Own n0 w' r 75 3 (spc (fun i => ⟨lo i, hi i, md i⟩) B)) (ht : ∀ x, ownb r x → tag' x = 5) :
    PMb n0 N K w' tag' b { p with spans := r } { s with B := B, lo := lo, hi := hi, md := md } := by
  obtain ⟨m, es, a1, a2, a3, a4, a5⟩ := h.ask
  have hne : ∀ {y j : Nat}, tag y = j → j ≠ 1 → j ≠ 5 → ¬ (tag y = 5 ∨ y = b) := fun h1 h2 h3 e => by
    rcases e with e | e
    · omega
    · subst e; rw [h.tb] at h1; omega
  have own : ∀ {s : Sl} {T m : Nat} {vs : List Value} {j : Nat}, Own n0 w s T m vs → (∀ x, ownb s x → tag x = j) → j ≠ 1 → j ≠ 5 → Own n0 w' s T m vs ∧ ∀ x, ownb s x → tag' x = j := fun {s T m vs j} h1 h2 h3 h4 =>
    ⟨h1.chg hc fun x hx => hne (h2 x hx) h3 h4, fun x hx => by rw [hk x (h1.ge hx).2]; exact h2 x hx⟩
  exact {
    nz := Nat.le_trans h.nz hc.size
    blk := hb
    tb := by rw [hk b h.blk.lt]; exact h.tb
    st := (own h.st h.tst (by omega) (by omega)).1
    tst := (own h.st h.tst (by omega) (by omega)).2
    pos := (own h.pos h.tpos (by omega) (by omega)).1
    tpos := (own h.pos h.tpos (by omega) (by omega)).2
    bl := (own h.bl h.tbl (by omega) (by omega)).1
    tbl := (own h.bl h.tbl (by omega) (by omega)).2
    sp := ha
    tsp := ht
    wt := ((h.wt.mono (S' := fun x => tag x = 6 ∧ x < w.heap.size) (by decide) fun x hx h8 => ⟨h8, hx⟩).chg hc fun x hx => hne hx.1 (by omega) (by omega)).mono (by decide) fun x _ hx => (hk x hx.2).trans hx.1
    ask := ⟨m, es, a1, by rw [hk m a3.lt]; exact a2, a3.chg hc (hne a2 (by omega) (by omega)), a4, a5⟩
    width := h.width
    ge := fun x h1 h2 => by
      by_cases hx : x < w.heap.size
      · rw [hk x hx] at h1 h2; exact h.ge x h1 h2
      · have := h.nz; omega }
theorem PMb.setSt {st : Nat → Nat} (h : PMb n0 N K w tag b p s) (hc : Chg (ownb p.states) w w') (ha : Arr n0 w' p.states N (nI st)) : PMb n0 N K w' tag b p { s with st := st } := by
  have hc := hc.mono fun y _ hy => h.tst y hy
  obtain ⟨m, es, a1, a2, a3, a4, a5⟩ := h.ask
  exact { nz := Nat.le_trans h.nz hc.size, blk := h.blk.chg hc (by rw [h.tb]; omega), tb := h.tb, st := ha, tst := h.tst, pos := h.pos.chg hc (fun y hy => by rw [h.tpos y hy]; omega), tpos := h.tpos, bl := h.bl.chg hc (fun y hy => by rw [h.tbl y hy]; omega), tbl := h.tbl, sp := h.sp.chg hc (fun y hy => by rw [h.tsp y hy]; omega), tsp := h.tsp, wt := h.wt.chg hc (fun y hy => by omega), ask := ⟨m, es, a1, a2, a3.chg hc (by omega), a4, a5⟩, width := h.width, ge := h.ge }
theorem PMb.setPos {pos : Nat → Nat} (h : PMb n0 N K w tag b p s) (hc : Chg (ownb p.pos) w w') (ha : Arr n0 w' p.pos N (nI pos)) : PMb n0 N K w' tag b p { s with pos := pos } := by
  have hc := hc.mono fun y _ hy => h.tpos y hy
  obtain ⟨m, es, a1, a2, a3, a4, a5⟩ := h.ask
  exact { nz := Nat.le_trans h.nz hc.size, blk := h.blk.chg hc (by rw [h.tb]; omega), tb := h.tb, st := h.st.chg hc (fun y hy => by rw [h.tst y hy]; omega), tst := h.tst, pos := ha, tpos := h.tpos, bl := h.bl.chg hc (fun y hy => by rw [h.tbl y hy]; omega), tbl := h.tbl, sp := h.sp.chg hc (fun y hy => by rw [h.tsp y hy]; omega), tsp := h.tsp, wt := h.wt.chg hc (fun y hy => by omega), ask := ⟨m, es, a1, a2, a3.chg hc (by omega), a4, a5⟩, width := h.width, ge := h.ge }
/-- .. the list of what is behind. -/
theorem PMb.putBack {r : Sl} (h : PMb n0 N K w tag b p s) (hc : Chg (fun y => y = b) w w') (hb : Blk w' b 52 (Ptv.cs { p with back := r })) : PMb n0 N K w' tag b { p with back := r } s := by
  obtain ⟨m, es, a1, a2, a3, a4, a5⟩ := h.ask
  have hne : ∀ {y j : Nat}, tag y = j → j ≠ 1 → y ≠ b := fun h1 h2 e => by subst e; rw [h.tb] at h1; omega
  exact { nz := Nat.le_trans h.nz hc.size, blk := hb, tb := h.tb, st := h.st.chg hc (fun y hy => hne (h.tst y hy) (by omega)), tst := h.tst, pos := h.pos.chg hc (fun y hy => hne (h.tpos y hy) (by omega)), tpos := h.tpos, bl := h.bl.chg hc (fun y hy => hne (h.tbl y hy) (by omega)), tbl := h.tbl, sp := h.sp.chg hc (fun y hy => hne (h.tsp y hy) (by omega)), tsp := h.tsp, wt := h.wt.chg hc (fun y hy => hne hy (by omega)), ask := ⟨m, es, a1, a2, a3.chg hc (hne a2 (by omega)), a4, a5⟩, width := h.width, ge := h.ge }
/-- .. a slice of what waits, and the map of it. -/
theorem PM.newWt {W : List (Nat × Nat)} {r : Sl} {m : Nat} {es : List ((Int × Int) × Int)} (h : PM n0 N K bk w tag b p s) (hc : Chg (fun y => tag y = 6 ∨ tag y = 7 ∨ y = b) w w') (hk : ∀ x, x < w.heap.size → tag' x = tag x) (hb : Blk w' b 52 (Ptv.cs { p with waits := r }))
    (ha : Gr n0 (fun x => tag' x = 6) w' r 54 2 (W.map prc).flatten) (hm : p.asked = some m) (hm7 : tag m = 7) (hlt : m < w.heap.size) (hes : Mp w' m ePr vI es) (hnd : (es.map (·.1)).Nodup) (hq : ∀ q : Nat × Nat, (assoc es (prI q)).getD 0 = if q ∈ W then 1 else 0) :
    PM n0 N K bk w' tag' b { p with waits := r } { s with W := W } := by
  have hne : ∀ {y j : Nat}, tag y = j → j ≠ 1 → j ≠ 6 → j ≠ 7 → ¬ (tag y = 6 ∨ tag y = 7 ∨ y = b) := fun h1 h2 h3 h4 e => by
    rcases e with e | e | e
    · omega
    · omega
    · subst e; rw [h.tb] at h1; omega
  have own : ∀ {s : Sl} {T m : Nat} {vs : List Value} {j : Nat}, Own n0 w s T m vs → (∀ x, ownb s x → tag x = j) → j ≠ 1 → j ≠ 6 → j ≠ 7 → Own n0 w' s T m vs ∧ ∀ x, ownb s x → tag' x = j := fun {s T m vs j} h1 h2 h3 h4 h5 =>
    ⟨h1.chg hc fun x hx => hne (h2 x hx) h3 h4 h5, fun x hx => by rw [hk x (h1.ge hx).2]; exact h2 x hx⟩
  exact {
    nz := Nat.le_trans h.nz hc.size
    blk := hb
    tb := by rw [hk b h.blk.lt]; exact h.tb
    st := (own h.st h.tst (by omega) (by omega) (by omega)).1
    tst := (own h.st h.tst (by omega) (by omega) (by omega)).2
    pos := (own h.pos h.tpos (by omega) (by omega) (by omega)).1
    tpos := (own h.pos h.tpos (by omega) (by omega) (by omega)).2
    bl := (own h.bl h.tbl (by omega) (by omega) (by omega)).1
    tbl := (own h.bl h.tbl (by omega) (by omega) (by omega)).2
    sp := (own h.sp h.tsp (by omega) (by omega) (by omega)).1
    tsp := (own h.sp h.tsp (by omega) (by omega) (by omega)).2
    back := ((h.back.mono2 (S' := fun x => tag x = 8 ∧ x < w.heap.size) fun x hx h8 => ⟨h8, hx⟩).chg hc fun x hx => hne hx.1 (by omega) (by omega) (by omega)).mono2 fun x _ hx => (hk x hx.2).trans hx.1
    wt := ha
    ask := ⟨m, es, hm, by rw [hk m hlt]; exact hm7, hes, hnd, hq⟩
    width := h.width
    ge := fun x h1 h2 => by
      by_cases hx : x < w.heap.size
      · rw [hk x hx] at h1 h2; exact h.ge x h1 h2
      · have := h.nz; omega }
/-- One element more, with a look between. -/
theorem M.app_chk1 {γ : Type} {k : γ → World → Prop} {P : Program} {q : World → Prop} {t ty T : Nat} {cs : List Value} {s : Sl} {f : Sl → M γ} (hq : ∀ w', Grow w w' → q w')
    (h : M.new T cs (fun b => M.run P (Builtin.append_ #[t, t] ty #[s.val, Sl.val ⟨some b, 1, 1⟩]) Sl.val f) w k) :
    M.new T cs (fun b => M.chk q (M.run P (Builtin.append_ #[t, t] ty #[s.val, Sl.val ⟨some b, 1, 1⟩]) Sl.val f)) w k :=
  ⟨hq _ (Grow.alloc w _), h⟩
theorem parter_part {c : Nat} (h : PM n0 N K bk w tag b p s) (hc : c < s.B) (hN : N ≤ 65536) (hB : s.B ≤ 65536) (h1 : s.lo c ≤ s.hi c) (h2 : s.hi c ≤ N) (h3 : s.md c ≤ s.hi c - s.lo c) (h4 : ∀ i, i < N → s.st i < N) (h5 : ∀ i, i < N → s.pos (s.st i) = i) (h6 : ∀ x, x < N → s.st (s.pos x) = x) :
    Calls Try.prog 57 [vP (some ⟨b, 0, none⟩), vI c].toArray w (Ret vI fun r w' => r = (if s.md c = s.hi c - s.lo c then -1 else (s.B : Int)) ∧ (∃ tag' p', (∀ x, x < w.heap.size → tag' x = tag x) ∧ PM n0 N K bk w' tag' b p' (s.part c)) ∧ Chg (Pt tag) w w') := by
  apply L.hopcroft_parter_part
  unfold S.hopcroft_parter_part
  have hspl : p.spans.len = s.B := by have := h.sp.len; rw [spc_len] at this; omega
  have tX : ∀ y, ownb p.spans y → Pt tag y := fun y hy => by have := h.tsp y hy; constructor <;> omega
  refine M.nn_of (M.ldB 3 h.blk rfl (M.ixO c h.sp rfl (by omega) fun sb hsb => ?_))
  refine M.ldO (x := (s.md c : Int)) (c * 3) 2 h.sp hsb (by rw [spc_get _ hc (by omega)]; rfl) ?_
  refine M.stO (c * 3) 2 h.sp hsb (by rw [spc_len]; omega) fun w1 hsp1 hc1 _ => ?_
  rw [spc_set s.sp hc (by omega) _ ⟨s.lo c, s.hi c, ((0 : Nat) : Int)⟩ rfl] at hsp1
  have esp : ups s.sp c ⟨s.lo c, s.hi c, ((0 : Nat) : Int)⟩ = fun i => (⟨(s.lo i : Int), (s.hi i : Int), ((ups s.md c 0 i : Nat) : Int)⟩ : Spv) := by
    funext i; simp only [PS.sp, ups]
    by_cases hi : i = c
    · subst hi; simp
    · simp [hi]
  rw [esp] at hsp1
  have hA := PM.setSp (B := s.B) (lo := s.lo) (hi := s.hi) (md := ups s.md c 0) h hc1 hsp1
  refine M.drew_of fun w2 _ hg2 => ?_
  have hA := hA.g hg2
  have hC2 : Chg (Pt tag) w w2 := (hc1.mono fun y _ => tX y).g hg2
  refine M.ldO (x := (s.hi c : Int)) (c * 3) 1 hA.sp hsb (by rw [spc_get _ hc (by omega)]; rfl) (M.ldO (x := (s.lo c : Int)) (c * 3) 0 hA.sp hsb (by rw [spc_get _ hc (by omega)]; rfl) ?_)
  rw [wIn (x := (s.hi c : Int) - s.lo c) (j := s.hi c - s.lo c) (by omega) (by simp only [Big]; omega)]
  refine M.if_ (fun he => ?_) (fun hne => ?_)
  · have he : s.md c = s.hi c - s.lo c := by omega
    refine ⟨by rw [if_pos he], ⟨tag, p, fun _ _ => rfl, ?_⟩, hC2⟩
    rw [PS.part, if_pos he]
    exact hA
  have hne : ¬ s.md c = s.hi c - s.lo c := by omega
  have hpart : s.part c = { s with B := s.B + 1, lo := ups (ups s.lo s.B (s.lo c)) c (s.lo c + s.md c), hi := ups s.hi s.B (s.lo c + s.md c), md := ups (ups s.md s.B 0) c 0, bl := fun x => if s.lo c ≤ s.pos x ∧ s.pos x < s.lo c + s.md c then s.B else s.bl x } := by rw [PS.part, if_neg hne]
  refine M.nn_of (M.ldB 3 hA.blk rfl (M.drew_of fun w3 _ hg3 => ?_))
  have hA := hA.g hg3
  have hC3 := hC2.g hg3
  have rlo : ∀ {w' : World}, PM n0 N K bk w' tag b p { s with B := s.B, lo := s.lo, hi := s.hi, md := ups s.md c 0 } → w'.cell? (((⟨sb, 0, none⟩ : Addr).add (c * 3)).add 0) = some (vI (s.lo c)) := fun hA => by
    rw [add_add _ rfl]; exact hA.sp.cell hsb (by rw [spc_get _ hc (by omega)]; rfl)
  refine M.ld_of (x := (s.lo c : Int)) (rlo hA) (M.ld_of (x := (s.lo c : Int)) (rlo hA) (M.new_of fun b11 w4 hb11 hblk11 hg4 hs4 => ⟨rlo (hA.g hg4), rlo (hA.g hg4), M.stA_of hblk11 (by simp [Spv_len]) fun w5 hB11 hc5 hs5 => ?_⟩))
  have hg35 : Grow w3 w5 := Chg.fresh hg4 hc5 fun x hx => by omega
  have hA := hA.g hg35
  have hC5 := hC3.g hg35
  have hsz3 := hC3.size
  refine M.ld_of (x := (s.lo c : Int)) (rlo hA) ?_
  have e1 : wI ((s.lo c : Int) + s.md c) = (s.lo c + s.md c : Nat) := wIn (by omega) (by simp only [Big]; omega)
  rw [e1]
  rw [e1] at hB11
  have hsp5 : Own n0 w5 p.spans 75 3 (spc (fun i => (⟨(s.lo i : Int), (s.hi i : Int), ((ups s.md c 0 i : Nat) : Int)⟩ : Spv)) s.B) := hA.sp
  refine M.stO (c * 3) 0 hsp5 hsb (by rw [spc_len]; omega) fun w6 hsp6 hc6 _ => ?_
  rw [spc_set _ hc (by omega) _ ⟨((s.lo c + s.md c : Nat) : Int), s.hi c, ((0 : Nat) : Int)⟩ (by simp [Spv.cs, ups])] at hsp6
  have esp2 : ups (fun i => (⟨(s.lo i : Int), (s.hi i : Int), ((ups s.md c 0 i : Nat) : Int)⟩ : Spv)) c ⟨((s.lo c + s.md c : Nat) : Int), s.hi c, ((0 : Nat) : Int)⟩ = fun i => (⟨((ups s.lo c (s.lo c + s.md c) i : Nat) : Int), (s.hi i : Int), ((ups s.md c 0 i : Nat) : Int)⟩ : Spv) := by
    funext i; simp only [ups]
    by_cases hi : i = c
    · subst hi; simp
    · simp [hi]
  rw [esp2] at hsp6
  have hA6 := PM.setSp (B := s.B) (lo := ups s.lo c (s.lo c + s.md c)) (hi := s.hi) (md := ups s.md c 0) hA hc6 hsp6
  refine M.drew_of fun w7 _ hg7 => ?_
  have hA := hA6.g hg7
  have hC7 := (hC5.c (hc6.mono fun y _ => tX y)).g hg7
  have hlt11 := hB11.lt
  have hB11 := (hB11.chg hc6 fun e => by have := (h.sp.ge e).2; omega).g hg7
  refine M.nn_of (M.ldB 3 hA.blk rfl (M.ldA0 (x := (⟨s.lo c, ((s.lo c + s.md c : Nat) : Int), 0⟩ : Spv)) hB11 rfl (M.app_chk1 (fun w' hg => (hA.blk.g hg).cell (i := 3) rfl) ?_)))
  refine M.app (s := p.spans) Try.underlying47 (T := 75) (info := Try.t75) (m := 3) (bytes := 24) (by kernel_rfl) rfl rfl rfl rfl (by decide) hA.sp rfl (Spv_one _) hA.nz (by omega) (by omega) fun r w8 ho8 hl8 hc8 hb8 => ?_
  have hsz7 := hC7.size
  rw [spc_succ] at ho8
  have esp3 : ups (fun i => (⟨((ups s.lo c (s.lo c + s.md c) i : Nat) : Int), (s.hi i : Int), ((ups s.md c 0 i : Nat) : Int)⟩ : Spv)) s.B ⟨s.lo c, ((s.lo c + s.md c : Nat) : Int), 0⟩ = fun i => (⟨((ups (ups s.lo s.B (s.lo c)) c (s.lo c + s.md c) i : Nat) : Int), ((ups s.hi s.B (s.lo c + s.md c) i : Nat) : Int), ((ups (ups s.md s.B 0) c 0 i : Nat) : Int)⟩ : Spv) := by
    funext i; simp only [ups]
    by_cases hi : i = s.B
    · subst hi; simp [show ¬ s.B = c by omega]
    · by_cases hj : i = c
      · subst hj; simp [hi]
      · simp [hi, hj]
  have ho8 : Own n0 w8 r 75 3 (spc (ups (fun i => (⟨((ups s.lo c (s.lo c + s.md c) i : Nat) : Int), (s.hi i : Int), ((ups s.md c 0 i : Nat) : Int)⟩ : Spv)) s.B ⟨s.lo c, ((s.lo c + s.md c : Nat) : Int), 0⟩) (s.B + 1)) := ho8
  rw [esp3] at ho8
  have hblk8 := hA.blk.chg hc8 fun e => by have := h.tsp _ e; have := h.tb; omega
  refine M.nn_of (M.stB 3 hblk8 (by simp [Ptv_len]) fun w9 hblk9 hc9 _ => ?_)
  have hblk9 : Blk w9 b 52 (Ptv.cs { p with spans := r }) := hblk9
  have hlt7 := hA.blk.lt
  have htag : ∃ tag' : Nat → Nat, tag' = fun y => if w7.heap.size ≤ y then 5 else tag y := ⟨_, rfl⟩
  obtain ⟨tag', htag⟩ := htag
  have hkeep : ∀ x, x < w7.heap.size → tag' x = tag x := fun x hx => by rw [htag]; simp only; rw [if_neg (by omega)]
  have hnb : ∀ y, ownb r y → tag' y = 5 := fun y hy => by
    rcases hb8 y hy with h1 | h1
    · rw [hkeep y (hA.sp.ge h1).2]; exact h.tsp y h1
    · rw [htag]; simp only; rw [if_pos h1]
  have hrb : ∀ y, ownb r y → y ≠ b := fun y hy e => by
    have := hnb y hy
    rw [e, hkeep b hlt7, h.tb] at this; omega
  have hc79 : Chg (fun y => tag y = 5 ∨ y = b) w7 w9 := (hc8.mono fun y _ hy => .inl (h.tsp y hy)).c (hc9.mono fun y _ hy => .inr hy)
  have hA9 := PM.newSp (B := s.B + 1) (lo := ups (ups s.lo s.B (s.lo c)) c (s.lo c + s.md c)) (hi := ups s.hi s.B (s.lo c + s.md c)) (md := ups (ups s.md s.B 0) c 0) hA hc79 hkeep hblk9 (ho8.chg hc9 fun y hy e => hrb y hy e) hnb
  have hC9 : Chg (Pt tag) w w9 := hC7.c (hc79.mono fun y _ hy => by
    rcases hy with hy | hy
    · constructor <;> omega
    · subst hy; have := h.tb; constructor <;> omega)
  rw [hspl]
  have elo : ups (ups s.lo s.B (s.lo c)) c (s.lo c + s.md c) s.B = s.lo c := by simp [ups, show ¬ s.B = c by omega]
  have ehi : ups s.hi s.B (s.lo c + s.md c) s.B = s.lo c + s.md c := by simp [ups]
  refine M.call_of (parter_inside (c := s.B) hA9 (Nat.lt_succ_self _) (by simp only; rw [elo, ehi]; omega) (by simp only; rw [ehi]; omega)) ?_
  rintro r22 w10 ⟨hr22, hg10⟩
  simp only [elo, ehi, Nat.add_sub_cancel_left] at hr22
  have hl22 : s.md c = r22.len := by simpa using hr22.len
  have hA10 := hA9.g hg10
  have hsz9 := hC9.size
  refine M.loop_at (fun q w' => ∃ j : Nat, q = j ∧ j ≤ s.md c ∧ Chg (ownb p.block) w10 w' ∧ Arr n0 w' p.block N (nI fun x => if s.lo c ≤ s.pos x ∧ s.pos x < s.lo c + j then s.B else s.bl x)) (fun q _ => (s.md c - q).toNat)
    ⟨0, rfl, by omega, Chg.refl _ _, hA10.bl.congr fun x _ => by simp only [nI]; rw [if_neg (by omega)]⟩ ?_
  rintro _ w11 ⟨j, rfl, hj, hc11, ha11⟩
  have hA11 := PM.setBl hA10 hc11 ha11
  refine M.if_ (fun hlt => ?_) (fun hge => ?_)
  · have hlt : j < s.md c := by omega
    have hsj : s.st (s.lo c + j) < N := h4 _ (by omega)
    refine M.rd (hr22.chg hc11 fun y hy e => by have := hA10.tbl y e; have hy : tag' y = 2 := hy; omega) (by omega) (x := ((s.st (s.lo c + j) : Nat) : Int)) (by simp [hlt, nI]) ?_
    refine M.nn_of (M.ldB 2 hA11.blk rfl (M.arW hA11.bl (s.st (s.lo c + j)) rfl hsj fun w12 ha12 hc12 _ => ?_))
    rw [wI_succ (by simp only [Big]; omega)]
    refine ⟨⟨j + 1, rfl, by omega, hc11.c hc12, ha12.congr fun x hx => ?_⟩, by omega⟩
    simp only [ups, nI]
    by_cases hxe : x = s.st (s.lo c + j)
    · rw [if_pos hxe, hxe, h5 _ (by omega), if_pos (by omega)]
    · rw [if_neg hxe]
      have hpx : s.pos x ≠ s.lo c + j := fun e => hxe (by rw [← e, h6 x hx])
      by_cases h7 : s.lo c ≤ s.pos x ∧ s.pos x < s.lo c + j
      · rw [if_pos h7, if_pos (by omega)]
      · rw [if_neg h7, if_neg (by omega)]
  · obtain rfl : j = s.md c := by omega
    refine ⟨by rw [if_neg hne], ⟨tag', { p with spans := r }, fun x hx => hkeep x (by omega), ?_⟩, (hC9.g hg10).c (hc11.mono fun y hy h => ?_)⟩
    · rw [hpart]; exact hA11
    · have h1 := hA10.tbl y h
      have : tag y = 4 := by
        by_cases hy : y < w7.heap.size
        · rw [← hkeep y hy]; exact h1
        · rw [htag] at h1; simp only at h1; rw [if_pos (by omega)] at h1; omega
      constructor <;> omega
theorem law54 : KeyLaw Try.prog 54 ePr := KeyLaw.pair Try.underlying54 Try.underlying3 (fun _ => by kernel_rfl) (fun _ => by kernel_rfl)
theorem flat_prc (W : List (Nat × Nat)) : (W.map prc).flatten.length = W.length * 2 := flat_len (f := prc) (m := 2) (fun _ => rfl) W
/-- What is asked for. -/
def askW (W : List (Nat × Nat)) (x : Nat × Nat) : List (Nat × Nat) := if x ∈ W then W else W ++ [x]
theorem parter_ask {x : Nat × Nat} (h : PM n0 N K bk w tag b p s) (hW : s.W.length ≤ 16777216) :
    Calls Try.prog 28 [vP (some ⟨b, 0, none⟩), vI x.1, vI x.2].toArray w (Ret vUnit fun _ w' => (∃ tag' p', (∀ x, x < w.heap.size → tag' x = tag x) ∧ PM n0 N K bk w' tag' b p' { s with W := askW s.W x }) ∧ Chg (Pt tag) w w') := by
  apply L.hopcroft_parter_ask
  unfold S.hopcroft_parter_ask
  obtain ⟨m, es, a1, a2, a3, a4, a5⟩ := h.ask
  have hmap : (Ptv.cs p)[6]? = some (Value.map (some m)) := by simp [Ptv.cs, a1]
  refine M.nn_of (M.ldB (x := some m) 6 h.blk hmap ?_)
  refine M.look1 (ek := ePr) (z := 0) Try.underlying50 law54 a3 Try.zeroValue3 (prI x) ?_
  rw [a5 x]
  by_cases hx : x ∈ s.W
  · rw [if_pos hx]
    refine M.if_ (fun h1 => by omega) (fun _ => ⟨⟨tag, p, fun _ _ => rfl, ?_⟩, Chg.refl _ _⟩)
    have : askW s.W x = s.W := by rw [askW, if_pos hx]
    rw [this]
    exact h
  rw [if_neg hx]
  refine M.if_ (fun _ => ?_) (fun h1 => (h1 rfl).elim)
  refine M.nn_of (M.ldB (x := some m) 6 h.blk hmap (M.putMap (ek := ePr) (ev := vI) Try.underlying50 law54 a3 a4 (prI x) (1 : Int) fun w1 hm1 hc1 hs1 => ?_))
  have hb1 := h.blk.chg hc1 fun e => by have := h.tb; subst e; omega
  refine M.nn_of (M.ldB 5 hb1 rfl ?_)
  have hwt1 := h.wt.chg hc1 fun y hy e => by subst e; omega
  have hwl : p.waits.len = s.W.length := by have := h.wt.rd.len; rw [flat_prc] at this; omega
  have hnz : n0 ≤ w1.heap.size := by have := h.nz; omega
  refine M.gapp (s := p.waits) Try.underlying49 (T := 54) (info := Try.t54) (m := 2) (bytes := 16) (by kernel_rfl) rfl rfl rfl rfl (by decide) hwt1 rfl (Pr_one _) hnz (by omega) (by omega) fun r w2 ho2 hl2 hc2 hb2 => ?_
  have hb2' := hb1.chg hc2 fun e => by have := h.tb; have e : tag b = 6 := e; omega
  refine M.nn_of (M.stB 5 hb2' (by simp [Ptv_len]) fun w3 hb3 hc3 _ => ?_)
  have hc03 : Chg (fun y => tag y = 6 ∨ tag y = 7 ∨ y = b) w w3 := ((hc1.mono fun y _ hy => .inr (.inl (by subst hy; exact a2))).c (hc2.mono fun y _ hy => .inl hy)).c (hc3.mono fun y _ hy => .inr (.inr hy))
  obtain ⟨tag', htag⟩ : ∃ tag' : Nat → Nat, tag' = fun y => if w.heap.size ≤ y then 6 else tag y := ⟨_, rfl⟩
  have hkeep : ∀ x, x < w.heap.size → tag' x = tag x := fun x hx => by rw [htag]; simp only; rw [if_neg (by omega)]
  have hnew : ∀ x, w.heap.size ≤ x → tag' x = 6 := fun x hx => by rw [htag]; simp only; rw [if_pos hx]
  have hlt := h.blk.lt
  have hmlt := a3.lt
  have hr6 : ∀ y, ownb r y → tag' y = 6 := fun y hy => by
    by_cases h1 : y < w.heap.size
    · rcases hb2 y hy with h2 | h2
      · rw [hkeep y h1]; exact h2
      · omega
    · exact hnew y (by omega)
  have hrb : ∀ y, ownb r y → y ≠ b := fun y hy e => by
    have := hr6 y hy
    rw [e, hkeep b hlt, h.tb] at this; omega
  have hflat : ((s.W ++ [x]).map prc).flatten = (s.W.map prc).flatten ++ Pr.cs (prI x) := by simp [prc]
  have haskW : askW s.W x = s.W ++ [x] := by rw [askW, if_neg hx]
  have hm3 : Mp w3 m ePr vI (upd2 es (prI x) 1) := (hm1.chg hc2 (fun e => by have e : tag m = 6 := e; omega)).chg hc3 fun e => by have := h.tb; subst e; omega
  refine ⟨⟨tag', { p with waits := r }, hkeep, ?_⟩, hc03.mono fun y _ hy => ?_⟩
  · rw [haskW]
    refine PM.newWt h hc03 hkeep hb3 (.inl ⟨?_, hr6⟩) a1 a2 hmlt hm3 (upd2_keys a4 _ _) fun q => ?_
    · rw [hflat]; exact ho2.chg hc3 fun y hy e => hrb y hy e
    · rw [assoc_upd2]
      by_cases hq : q = x
      · subst hq; simp
      · rw [if_neg (fun e => hq (prI_inj e)), a5 q]
        simp [hq]
  · rcases hy with hy | hy | hy
    · constructor <;> omega
    · constructor <;> omega
    · subst hy; have := h.tb; constructor <;> omega
theorem dropLast_mem {α : Type} {W : List α} (h : W.Nodup) (hne : W ≠ []) (q : α) : q ∈ W.dropLast ↔ q ∈ W ∧ q ≠ W.getLast hne := by
  have e := List.dropLast_concat_getLast hne
  have h' := h
  rw [← e, List.nodup_append] at h'
  constructor
  · intro hq
    refine ⟨List.dropLast_subset _ hq, fun e2 => ?_⟩
    exact h'.2.2 q hq _ (List.mem_singleton.2 rfl) e2
  · rintro ⟨h1, h2⟩
    rw [← e, List.mem_append, List.mem_singleton] at h1
    exact h1.resolve_right h2
/-- What is not there yet bears no mark. -/
theorem PM.re (h : PM n0 N K bk w tag b p s) : PM n0 N K bk w (fun y => if y < w.heap.size then tag y else 0) b p s := h.chg (Chg.refl (fun _ => False) w) (fun _ _ _ x => x) fun x hx => by simp [hx]
theorem parter_take (h : PM n0 N K bk w tag b p s) (hW : s.W.length ≤ 16777216) (hne : s.W ≠ []) (hnd : s.W.Nodup) :
    Calls Try.prog 29 [vP (some ⟨b, 0, none⟩)].toArray w (Ret ePr fun r w' => r = prI (s.W.getLast hne) ∧ (∃ tag' p', (∀ x, x < w.heap.size → tag' x = tag x) ∧ PM n0 N K bk w' tag' b p' { s with W := s.W.dropLast }) ∧ Chg (Pt tag) w w') := by
  apply L.hopcroft_parter_take
  unfold S.hopcroft_parter_take
  have hold : ∀ x, x < w.heap.size → (fun y => if y < w.heap.size then tag y else 0) x = tag x := fun x hx => by simp [hx]
  have hnew : ∀ x, w.heap.size ≤ x → (fun y => if y < w.heap.size then tag y else 0) x = 0 := fun x hx => by simp; omega
  have h := PM.re h
  generalize htag : (fun y => if y < w.heap.size then tag y else 0) = tag0 at *
  have hwl : p.waits.len = s.W.length := by have := h.wt.rd.len; rw [flat_prc] at this; omega
  have hpos : 0 < s.W.length := List.length_pos_iff.2 hne
  refine M.new_of fun b1 w1 hb1 hblk1 hg1 hs1 => ?_
  have h1 := h.g hg1
  refine M.nn_of (M.ldB 5 h1.blk rfl (M.nn_of (M.ldB 5 h1.blk rfl ?_)))
  have e1 : wI ((p.waits.len : Int) - 1) = (s.W.length - 1 : Nat) := wIn (by omega) (by simp only [Big]; omega)
  rw [e1]
  have hmp : s.W.map prc = (s.W.map prI).map Pr.cs := by rw [List.map_map]; rfl
  have hlast : s.W[s.W.length - 1]? = some (s.W.getLast hne) := by rw [List.getLast_eq_getElem, List.getElem?_eq_getElem]
  refine M.rdA (L := s.W.map prI) (e := Pr.cs) (fun _ => rfl) (by rw [← hmp]; exact h1.wt.rd) (by omega) (x := prI (s.W.getLast hne)) (by rw [Int.toNat_natCast, List.getElem?_map, hlast]; rfl) (by simp [hwl]) ?_
  generalize hx : s.W.getLast hne = x at *
  refine M.new_of fun b8 w2 hb8 hblk8 hg2 hs2 => M.stA_of hblk8 (by simp [Pr_len]) fun w3 hB8 hc3 hs3 => ?_
  have hg13 : Grow w1 w3 := Chg.fresh hg2 hc3 fun y hy => by omega
  have h3 := h1.g hg13
  have hB1 := hblk1.g hg13
  refine M.nn_of (M.ldB 5 h3.blk rfl ?_)
  have hcap := h3.wt.rd.cap
  refine M.cut_rd (lo := 0) (hi := s.W.length - 1) (mx := s.W.length - 1) h3.wt.rd (by omega) (by omega) (Nat.le_refl _) (by omega) fun t ht hte => ?_
  have hdl : ((((s.W.map prc).flatten).drop (0 * 2)).take ((s.W.length - 1 - 0) * 2)) = (s.W.dropLast.map prc).flatten := by
    have e : s.W = s.W.dropLast ++ [x] := by rw [← hx]; exact (List.dropLast_concat_getLast hne).symm
    have hfl : (s.W.map prc).flatten = (s.W.dropLast.map prc).flatten ++ prc x := by
      conv => lhs; rw [e]
      simp
    rw [Nat.zero_mul, List.drop_zero, Nat.sub_zero, hfl, List.take_append_of_le_length (by rw [flat_prc, List.length_dropLast]; exact Nat.le_refl _)]
    exact List.take_of_length_le (by rw [flat_prc, List.length_dropLast]; exact Nat.le_refl _)
  rw [hdl] at ht
  have hG3 : Grow w w3 := hg1.trans hg13
  refine M.nn_of (M.stB 5 h3.blk (by simp [Ptv_len]) fun w4 hb4 hc4 hs4 => M.drew_of fun w5 _ hg5 => ?_)
  have hc45 := hc4.g hg5
  obtain ⟨m, es, a1, a2, a3, a4, a5⟩ := h3.ask
  have hmap : (Ptv.cs { p with waits := t })[6]? = some (Value.map (some m)) := by simp [Ptv.cs, a1]
  have hb5 : Blk w5 b 52 (Ptv.cs { p with waits := t }) := hb4.g hg5
  have hbw : b < w.heap.size := h.blk.lt
  have hB8 := hB8.chg hc45 fun e => by have := hg1.size; omega
  have hB1 := hB1.chg hc45 fun e => by omega
  refine M.nn_of (M.ldB (x := some m) 6 hb5 hmap (M.ldA0 (x := prI x) hB8 rfl ?_))
  have hm5 := a3.chg hc45 fun e => by have := h.tb; subst e; omega
  refine M.putMap (ek := ePr) (ev := vI) Try.underlying50 law54 hm5 a4 (prI x) (0 : Int) fun w6 hm6 hc6 hs6 => ?_
  have hmw : m < w.heap.size := by
    obtain ⟨m', es', c1, c2, c3, _⟩ := h.ask
    rw [a1] at c1; cases c1; exact c3.lt
  have hB8 := hB8.chg hc6 fun e => by have := hg1.size; omega
  have hB1 := hB1.chg hc6 fun e => by omega
  refine M.ldA0 (x := prI x) hB8 rfl (M.stA_of hB1 (by simp [Pr_len]) fun w7 hB7 hc7 hs7 => M.ldA0 (x := prI x) hB7 rfl ⟨rfl, ?_, ?_⟩)
  · have hc36 : Chg (fun y => tag0 y = 6 ∨ tag0 y = 7 ∨ y = b) w3 w6 := (hc45.mono fun y _ hy => .inr (.inr hy)).c (hc6.mono fun y _ hy => .inr (.inl (by subst hy; exact a2)))
    have hne6 : ∀ y, tag0 y = 6 → y ≠ b := fun y hy e => by have := h.tb; subst e; omega
    have hP := PM.newWt (W := s.W.dropLast) (r := t) (tag' := tag0) h3 hc36 (fun _ _ => rfl) (hb5.chg hc6 fun e => by have := h.tb; subst e; omega)
      (.inr ⟨(ht.chg hc45 fun y hy e => hne6 y hy e).chg hc6 fun y hy e => by have hy : tag0 y = 6 := hy; subst e; omega, by rw [hte]; simp [Sl.cut], ?_⟩) a1 a2 a3.lt hm6 (upd2_keys a4 _ _) fun q => ?_
    · exact ⟨tag0, _, hold, hP.chg hc7 (fun y h1 _ e => by have := hnew y (by omega); omega) fun _ _ => rfl⟩
    · obtain ⟨a, ha, _⟩ := h3.wt.rd.read (by omega)
      rw [hte]
      simp only [Sl.cut, ha, Option.map_some]
      split <;> exact ⟨_, rfl⟩
    · rw [assoc_upd2]
      have := dropLast_mem hnd hne q
      rw [hx] at this
      by_cases hq : q = x
      · subst hq
        rw [if_pos rfl, if_neg (fun e => (this.1 e).2 rfl)]; rfl
      · rw [if_neg (fun e => hq (prI_inj e)), a5 q]
        by_cases hqW : q ∈ s.W
        · rw [if_pos hqW, if_pos (this.2 ⟨hqW, hq⟩)]
        · rw [if_neg hqW, if_neg (fun e => hqW (this.1 e).1)]
  · have hc37 : Chg (fun y => Pt tag0 y ∨ w.heap.size ≤ y) w3 w7 := ((hc45.mono fun y _ hy => .inl (by subst hy; have := h.tb; constructor <;> omega)).c (hc6.mono fun y _ hy => .inl (by subst hy; constructor <;> omega))).c (hc7.mono fun y _ hy => .inr (by omega))
    refine hG3.any.trans hc37 fun y hy e => ?_
    rcases e with e | e
    · have := hold y hy
      simp only [Pt] at e ⊢
      rw [← this]; exact e
    · omega
theorem size_c1 {c b1 : Nat} (h : PM n0 N K bk w tag b p s) (hb1 : Blk w b1 45 [vP (some ⟨b, 0, none⟩)]) (hc : c < s.B) (h1 : s.lo c ≤ s.hi c) (h2 : s.hi c ≤ 65536) :
    Calls Try.prog 81 [vI c, vA ⟨b1, 0, none⟩].toArray w (Ret vI fun r w' => r = ((s.hi c - s.lo c : Nat) : Int) ∧ Grow w w') := by
  apply L.hopcroft_parter_askLesser_c1
  unfold S.hopcroft_parter_askLesser_c1
  have hspl : p.spans.len = s.B := by have := h.sp.len; rw [spc_len] at this; omega
  refine M.drew_of fun w1 _ hg1 => ?_
  have h := h.g hg1
  have hb1 := hb1.g hg1
  refine M.ld0 (x := some ⟨b, 0, none⟩) hb1 rfl (M.nn_of (M.ldB 3 h.blk rfl (M.ixO c h.sp rfl (by omega) fun sb hsb => M.ldO (x := (s.hi c : Int)) (c * 3) 1 h.sp hsb (by rw [spc_get _ hc (by omega)]; rfl) ?_)))
  refine M.ld0 (x := some ⟨b, 0, none⟩) hb1 rfl (M.nn_of (M.ldB 3 h.blk rfl (M.ixO c h.sp rfl (by omega) fun sb' hsb' => M.ldO (x := (s.lo c : Int)) (c * 3) 0 h.sp hsb' (by rw [spc_get _ hc (by omega)]; rfl) ⟨?_, hg1⟩)))
  exact wIn (by omega) (by simp only [Big]; omega)
theorem parter_askLesser {o f k : Nat} (h : PM n0 N K bk w tag b p s) (hW : s.W.length ≤ 16777216) (ho : o < s.B) (hf : f < s.B) (h1 : ∀ c, c < s.B → s.lo c ≤ s.hi c ∧ s.hi c ≤ 65536) :
    Calls Try.prog 58 [vP (some ⟨b, 0, none⟩), vI o, vI f, vI k].toArray w (Ret vUnit fun _ w' => (∃ tag' p' x, (x = (o, k) ∨ x = (f, k)) ∧ ((o, k) ∈ s.W → x = (f, k)) ∧ (∀ x, x < w.heap.size → tag' x = tag x) ∧ PM n0 N K bk w' tag' b p' { s with W := askW s.W x }) ∧ Chg (Pt tag) w w') := by
  apply L.hopcroft_parter_askLesser
  unfold S.hopcroft_parter_askLesser
  refine M.new_of fun b1 w1 hb1 hblk1 hg1 hs1 => ?_
  have hsz := hg1.size
  have hgoal : ∀ {x : Nat × Nat} {w2 w3 : World}, (x = (o, k) ∨ x = (f, k)) → ((o, k) ∈ s.W → x = (f, k)) → Grow w w2 → ((∃ tag' p', (∀ x, x < w2.heap.size → tag' x = tag x) ∧ PM n0 N K bk w3 tag' b p' { s with W := askW s.W x }) ∧ Chg (Pt tag) w2 w3) →
      (∃ tag' p' x, (x = (o, k) ∨ x = (f, k)) ∧ ((o, k) ∈ s.W → x = (f, k)) ∧ (∀ x, x < w.heap.size → tag' x = tag x) ∧ PM n0 N K bk w3 tag' b p' { s with W := askW s.W x }) ∧ Chg (Pt tag) w w3 := by
    rintro x w2 w3 hx hxo hg ⟨⟨tag', p', ht, hP⟩, hc⟩
    exact ⟨⟨tag', p', x, hx, hxo, fun y hy => ht y (by have := hg.size; omega), hP⟩, hg.any.c hc⟩
  refine M.join_at (fun q w' => Grow w w' ∧ Blk w' b1 45 [vP (some ⟨b, 0, none⟩)] ∧ (q = false → (o, k) ∉ s.W)) ?_ ?_
  · have h' := h.g hg1
    obtain ⟨m, es, a1, a2, a3, a4, a5⟩ := h'.ask
    have hmap : (Ptv.cs p)[6]? = some (Value.map (some m)) := by simp [Ptv.cs, a1]
    refine M.ld0 (x := some ⟨b, 0, none⟩) hblk1 rfl (M.nn_of (M.ldB (x := some m) 6 h'.blk hmap ?_))
    refine M.look1 (ek := ePr) (z := 0) Try.underlying50 law54 a3 Try.zeroValue3 (prI (o, k)) ?_
    rw [a5 (o, k)]
    by_cases hx : (o, k) ∈ s.W
    · rw [if_pos hx]
      exact M.if_ (fun _ => ⟨hg1, hblk1, fun e => by cases e⟩) (fun h1 => (h1 rfl).elim)
    rw [if_neg hx]
    refine M.if_ (fun h1 => by omega) (fun _ => ?_)
    refine M.callv_of (inv_of (cs := [vA ⟨b1, 0, none⟩]) (args := [vI f]) Try.call81 (size_c1 h' hblk1 hf (h1 f hf).1 (h1 f hf).2) fun r w' hr => ⟨r, rfl, hr⟩) ?_
    rintro r w2 ⟨rfl, hg2⟩
    have hblk2 := hblk1.g hg2
    refine M.callv_of (inv_of (cs := [vA ⟨b1, 0, none⟩]) (args := [vI o]) Try.call81 (size_c1 (h'.g hg2) hblk2 ho (h1 o ho).1 (h1 o ho).2) fun r w' hr => ⟨r, rfl, hr⟩) ?_
    rintro r w3 ⟨rfl, hg3⟩
    exact ⟨(hg1.trans hg2).trans hg3, hblk2.g hg3, fun _ => hx⟩
  · rintro q w2 ⟨hg2, hblk2, hq⟩
    have h2 := h.g hg2
    refine M.ifb (fun h1 => ?_) (fun h1 => ?_)
    · refine M.ld0 (x := some ⟨b, 0, none⟩) hblk2 rfl (M.call_of (parter_ask (x := (f, k)) h2 hW) ?_)
      rintro _ w3 hr
      exact hgoal (.inr rfl) (fun _ => rfl) hg2 hr
    · refine M.ld0 (x := some ⟨b, 0, none⟩) hblk2 rfl (M.call_of (parter_ask (x := (o, k)) h2 hW) ?_)
      rintro _ w3 hr
      exact hgoal (.inl rfl) (fun e => (hq (by simpa using h1) e).elim) hg2 hr
end C
end Go.Proofs.Ythepabefikobpaa
