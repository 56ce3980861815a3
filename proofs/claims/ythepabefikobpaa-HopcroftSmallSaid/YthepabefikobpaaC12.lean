/- Contract: a parter of the states of one label (hopcroft.newParter). Conditions: as it states. -/
import Derived.Test.YthepabefikobpaaC11
import Derived.Test.YthepabefikobpaaBag
namespace Go.Proofs.Ythepabefikobpaa
open Go Go.Sh Go.Sp
theorem Ptv_b (w : World) (a b c : Sl) (m : Option Nat) (x : Int) : (Instr.build 52 #[(0, a.val), (1, b.val), (2, c.val), (6, .map m), (7, vI x)]).run Try.prog w = .ok (.agg (Ptv.cs ⟨a, b, c, Sl.nil, Sl.nil, Sl.nil, m, x⟩).toArray) w := by kernel_rfl
namespace C
/-- The parts of a parter that has just been made. -/
def NpP (n0 n : Nat) (x : Int) (lb : List Int) (w : World) (tag : Nat → Nat) (p : Ptv) : Prop :=
  (Own n0 w p.states 3 1 (List.replicate n (vI 0)) ∧ ∀ y, ownb p.states y → tag y = 2) ∧ (Own n0 w p.pos 3 1 (List.replicate n (vI 0)) ∧ ∀ y, ownb p.pos y → tag y = 3) ∧ (Own n0 w p.block 3 1 ((numI lb).map vI) ∧ ∀ y, ownb p.block y → tag y = 4) ∧
  (∃ m, p.asked = some m ∧ Mp w m ePr vI ([] : List ((Int × Int) × Int)) ∧ tag m = 7) ∧ p.spans = Sl.nil ∧ p.back = Sl.nil ∧ p.waits = Sl.nil ∧ p.width = x
def NpF (n0 n b1 : Nat) (x : Int) (ls : Sl) (lb : List Int) (w : World) (tag : Nat → Nat) : Nat → Value → Prop
  | 0, v => v = vI n
  | 1, v => ∃ s : Sl, v = s.val ∧ Own n0 w s 3 1 (List.replicate n (vI 0)) ∧ ∀ y, ownb s y → tag y = 2
  | 2, v => v = vI n
  | 3, v => ∃ s : Sl, v = s.val ∧ Own n0 w s 3 1 (List.replicate n (vI 0)) ∧ ∀ y, ownb s y → tag y = 3
  | 4, v => v = vA ((⟨b1, 0, none⟩ : Addr).add 258)
  | 5, v => v = ls.val
  | 6, v => ∃ s : Sl, v = s.val ∧ Own n0 w s 3 1 ((numI lb).map vI) ∧ ∀ y, ownb s y → tag y = 4
  | 7, v => ∃ m, v = .map (some m) ∧ Mp w m ePr vI ([] : List ((Int × Int) × Int)) ∧ tag m = 7
  | 8, v => v = vA ((⟨b1, 0, none⟩ : Addr).add 256)
  | 9, v => v = vI x
  | 10, v => ∃ p : Ptv, v = .agg (Ptv.cs p).toArray ∧ NpP n0 n x lb w tag p
  | 11, v => ∃ (p : Ptv) (b : Nat), v = vA ⟨b, 0, none⟩ ∧ Blk w b 52 (Ptv.cs p) ∧ tag b = 1 ∧ NpP n0 n x lb w tag p
  | 12, v => ∃ (b : Nat) (c : Value), v = vA ⟨b, 0, none⟩ ∧ Blk w b 45 [c] ∧ tag b = 9
  | _, _ => True
section
variable {n0 n b1 : Nat} {x : Int} {ls : Sl} {lb : List Int} {w w' : World} {tag tag' : Nat → Nat}
theorem NpP.chg {q : Nat → Prop} {p : Ptv} (h : NpP n0 n x lb w tag p) (hc : Chg q w w') (hq : ∀ y, q y → tag y = 9) (ht : ∀ y, y < w.heap.size → tag' y = tag y) : NpP n0 n x lb w' tag' p := by
  obtain ⟨⟨a1, a2⟩, ⟨b1, b2⟩, ⟨c1, c2⟩, ⟨m, d1, d2, d3⟩, e⟩ := h
  refine ⟨⟨a1.chg hc fun y hy e => ?_, fun y hy => by rw [ht y (a1.ge hy).2]; exact a2 y hy⟩, ⟨b1.chg hc fun y hy e => ?_, fun y hy => by rw [ht y (b1.ge hy).2]; exact b2 y hy⟩, ⟨c1.chg hc fun y hy e => ?_, fun y hy => by rw [ht y (c1.ge hy).2]; exact c2 y hy⟩, ⟨m, d1, d2.chg hc fun e => ?_, by rw [ht m d2.lt]; exact d3⟩, e⟩
  · have := hq y e; have := a2 y hy; omega
  · have := hq y e; have := b2 y hy; omega
  · have := hq y e; have := c2 y hy; omega
  · have := hq m e; omega
theorem NpF.chg {q : Nat → Prop} {j : Nat} {v : Value} (h : NpF n0 n b1 x ls lb w tag j v) (hj : j ≠ 12 ∨ ∀ y, ¬ q y) (hc : Chg q w w') (hq : ∀ y, q y → tag y = 9) (ht : ∀ y, y < w.heap.size → tag' y = tag y) : NpF n0 n b1 x ls lb w' tag' j v := by
  match j, h with
  | 0, h => exact h
  | 1, ⟨s, h1, h2, h3⟩ => exact ⟨s, h1, h2.chg hc fun y hy e => by have := hq y e; have := h3 y hy; omega, fun y hy => by rw [ht y (h2.ge hy).2]; exact h3 y hy⟩
  | 2, h => exact h
  | 3, ⟨s, h1, h2, h3⟩ => exact ⟨s, h1, h2.chg hc fun y hy e => by have := hq y e; have := h3 y hy; omega, fun y hy => by rw [ht y (h2.ge hy).2]; exact h3 y hy⟩
  | 4, h => exact h
  | 5, h => exact h
  | 6, ⟨s, h1, h2, h3⟩ => exact ⟨s, h1, h2.chg hc fun y hy e => by have := hq y e; have := h3 y hy; omega, fun y hy => by rw [ht y (h2.ge hy).2]; exact h3 y hy⟩
  | 7, ⟨m, h1, h2, h3⟩ => exact ⟨m, h1, h2.chg hc fun e => by have := hq m e; omega, by rw [ht m h2.lt]; exact h3⟩
  | 8, h => exact h
  | 9, h => exact h
  | 10, ⟨p, h1, h2⟩ => exact ⟨p, h1, h2.chg hc hq ht⟩
  | 11, ⟨p, b, h1, h2, h3, h4⟩ => exact ⟨p, b, h1, h2.chg hc fun e => by have := hq b e; omega, by rw [ht b h2.lt]; exact h3, h4.chg hc hq ht⟩
  | 12, ⟨b, c, h1, h2, h3⟩ => exact ⟨b, c, h1, h2.chg hc fun e => hj.elim (fun e => e rfl) fun hn => hn b e, by rw [ht b h2.lt]; exact h3⟩
  | k + 13, _ => exact trivial
end
def npD : Nat → Nat
  | 0 => 15 | 1 => 16 | 2 => 17 | 3 => 18 | 4 => 19 | 5 => 20 | 6 => 21 | 7 => 22 | 8 => 23 | 9 => 24 | 10 => 25 | 11 => 26 | _ => 4
theorem npD_inj : ∀ i j, i < 13 → j < 13 → npD i = npD j → i = j := by
  intro i j hi hj
  have : ∀ i, i < 13 → ∀ j, j < 13 → npD i = npD j → i = j := by decide
  exact this i hi j hj
/-- What holds after some of the operations. -/
def NpJ (n0 n b1 : Nat) (x : Int) (ls : Sl) (lb : List Int) (w0 : World) (ρ0 : Env) (listed : Array Bool) (ρ : Env) (w : World) : Prop :=
  ∃ tag : Nat → Nat, Grow w0 w ∧ (∀ y, y < w0.heap.size → tag y = 0) ∧ Off 134184976 ρ0 ρ ∧ (∀ j, j < 13 → listed.getD j false = true → NpF n0 n b1 x ls lb w tag j (ρ (npD j))) ∧ (listed.getD 13 false = true → ∀ j, j < 13 → listed.getD j false = true) ∧
    (listed.getD 13 false = true → ∃ (b4 b : Nat) (p : Ptv), ρ 4 = vA ⟨b4, 0, none⟩ ∧ Blk w b4 45 [vA ⟨b, 0, none⟩] ∧ Blk w b 52 (Ptv.cs p) ∧ tag b = 1 ∧ tag b4 = 9 ∧ NpP n0 n x lb w tag p)
section
variable {n0 n b1 : Nat} {x : Int} {ls : Sl} {lb : List Int} {w w' w0 : World} {tag tag' : Nat → Nat} {ρ0 ρ : Env} {listed : Array Bool}
theorem NpJ.next {j : Nat} {v : Value} (hj : j < 13) (h13 : listed.getD 13 false = false) (hg0 : Grow w0 w) (h0 : ∀ y, y < w0.heap.size → tag y = 0) (hoff : Off 134184976 ρ0 ρ) (hF : ∀ j, j < 13 → listed.getD j false = true → NpF n0 n b1 x ls lb w tag j (ρ (npD j)))
    (hg : Grow w w') (ht : ∀ y, y < w.heap.size → tag' y = tag y) (hv : NpF n0 n b1 x ls lb w' tag' j v) : NpJ n0 n b1 x ls lb w0 ρ0 (listed.setIfInBounds j true) (upd ρ (npD j) v) w' := by
  have hd : Nat.testBit 134184976 (npD j) = true := by
    have : ∀ j, j < 13 → Nat.testBit 134184976 (npD j) = true := by decide
    exact this j hj
  refine ⟨tag', hg0.trans hg, fun y hy => ?_, hoff.u hd, fun i hi hl => ?_, fun hl => ?_, fun hl => ?_⟩
  · rw [ht y (by have := hg0.size; omega)]; exact h0 y hy
  · by_cases e : i = j
    · subst e
      have : upd ρ (npD i) v (npD i) = v := by simp [upd]
      rw [this]; exact hv
    · have hne : npD i ≠ npD j := fun h => e (npD_inj i j hi hj h)
      have : upd ρ (npD j) v (npD i) = ρ (npD i) := by simp only [upd, beq_ff hne, cond_false]
      rw [this]
      exact (hF i hi ((getD_set_self hl).resolve_left e)).chg (.inr fun _ h => h) hg (fun _ h => h.elim) ht
  · rcases getD_set_self hl with e | e
    · omega
    · rw [h13] at e; cases e
  · rcases getD_set_self hl with e | e
    · omega
    · rw [h13] at e; cases e
set_option maxRecDepth 20000 in
theorem np_step {F : Nat → Prop} {d : Dfv} (hB1 : Blk w0 b1 27 (Dfv.cs d)) (hx : d.width = x) (hls : d.label = ls) (hlb : Rd 1 F w0 ls (lb.map vI)) (hl : lb.length = n) (hn : n ≤ 65536) (h1 : ρ0 1 = vA ⟨b1, 0, none⟩) (h3 : ρ0 3 = vI n)
    (j : Nat) (o : Oper) (hJ : NpJ w0.heap.size n b1 x ls lb w0 ρ0 listed ρ w) (hs : listed.size = 14) (hj : j < 14) (ho : (regOps 2 (Try.f27.body.getD .skip)).toArray[j]? = some o) (hun : listed.getD j true = false) (hdep : ∀ e ∈ o.after, Region.binds .any e = true → listed.getD e.on false = true) :
    St Try.prog (regOps 2 (Try.f27.body.getD .skip)).toArray o (fun ρ' w' => NpJ w0.heap.size n b1 x ls lb w0 ρ0 (listed.setIfInBounds j true) ρ' w') ρ w := by
  obtain ⟨tag, hg0, h0, hoff, hF, hall, _⟩ := hJ
  have hj0 := getD_false hun
  have h13 : j < 13 → listed.getD 13 false = false := fun hj => by
    cases h : listed.getD 13 false with
    | false => rfl
    | true => have := hall h j hj; rw [hj0] at this; cases this
  have r1 : ρ 1 = vA ⟨b1, 0, none⟩ := (hoff 1 rfl).trans h1
  have r3 : ρ 3 = vI n := (hoff 3 rfl).trans h3
  have hB1 := hB1.g hg0
  have hsz := hg0.size
  have hid : ∀ (j : Nat) (v : Value) (hj : j < 13), listed.getD j true = false → NpF w0.heap.size n b1 x ls lb w tag j v → NpJ w0.heap.size n b1 x ls lb w0 ρ0 (listed.setIfInBounds j true) (upd ρ (npD j) v) w := fun j v hj hun hv => by
    have h13 : listed.getD 13 false = false := by
      cases h : listed.getD 13 false with
      | false => rfl
      | true => have := hall h j hj; rw [getD_false hun] at this; cases this
    exact NpJ.next hj h13 hg0 h0 hoff hF (Chg.refl _ _) (fun _ _ => rfl) hv
  have hmk : ∃ (s : Sl) (w' : World), (Instr.makeSlice 24 (vI n) (vI n)).run Try.prog w = .ok s.val w' ∧ Own w0.heap.size w' s 3 1 (List.replicate n (vI 0)) ∧ (∀ b, ownb s b → b = w.heap.size) ∧ Grow w w' := by
    have hM : M.run Try.prog (Instr.makeSlice 24 (vI n) (vI n)) Sl.val (fun r : Sl => fun w' (_ : Unit → World → Prop) => Own w0.heap.size w' r 3 1 (List.replicate n (vI 0)) ∧ (∀ b, ownb r b → b = w.heap.size) ∧ Grow w w') w (fun _ _ => True) :=
      M.mkSl Try.underlying24 (T := 3) (info := Try.t3) (z := vI 0) (by kernel_rfl) rfl rfl rfl (by simp only [Try.t3]; omega) (by simp only [maxLen]; omega) fun r w' g1 _ g3 g4 => ⟨g1.base hsz, g3, g4⟩
    exact hM
  have hnew : ∀ (t : Nat) (w' : World), ∀ y, y < w.heap.size → (fun y => if w.heap.size ≤ y then t else tag y) y = tag y := fun t w' y hy => by simp; omega
  rcases j with _ | _ | _ | _ | _ | _ | _ | _ | _ | _ | _ | _ | _ | _ | j
  · obtain ⟨ty, pos, af, rfl⟩ := oper_eq ho (some 15) (.move (.tmp 3)) (by kernel_rfl)
    exact YieldsE.St (Y.mv (v := vI n) rfl r3) (hid 0 _ (by omega) hun rfl)
  · obtain ⟨ty, pos, af, rfl⟩ := oper_eq ho (some 16) (.makeSlice 24 (.tmp 15) (.tmp 15)) (by kernel_rfl)
    have hd := hF 0 (by omega) (oper_dep ho [0] (by kernel_rfl) hdep 0 (by simp))
    have hd : ρ 15 = vI n := hd
    obtain ⟨s, w2, hr, g1, g2, g3⟩ := hmk
    refine N.of (s := Instr.makeSlice 24 (vI n) (vI n)) rfl (by simp only [execOp, ev, hd]) hr ?_
    exact NpJ.next (tag' := fun y => if w.heap.size ≤ y then 2 else tag y) (by omega) (h13 (by omega)) hg0 h0 hoff hF g3 (hnew 2 w2) ⟨s, rfl, g1, fun y hy => by show (if _ then _ else _) = _; rw [if_pos (Nat.le_of_eq (g2 y hy).symm)]⟩
  · obtain ⟨ty, pos, af, rfl⟩ := oper_eq ho (some 17) (.move (.tmp 3)) (by kernel_rfl)
    exact YieldsE.St (Y.mv (v := vI n) rfl r3) (hid 2 _ (by omega) hun rfl)
  · obtain ⟨ty, pos, af, rfl⟩ := oper_eq ho (some 18) (.makeSlice 24 (.tmp 17) (.tmp 17)) (by kernel_rfl)
    have hd := hF 2 (by omega) (oper_dep ho [2] (by kernel_rfl) hdep 2 (by simp))
    have hd : ρ 17 = vI n := hd
    obtain ⟨s, w2, hr, g1, g2, g3⟩ := hmk
    refine N.of (s := Instr.makeSlice 24 (vI n) (vI n)) rfl (by simp only [execOp, ev, hd]) hr ?_
    exact NpJ.next (tag' := fun y => if w.heap.size ≤ y then 3 else tag y) (by omega) (h13 (by omega)) hg0 h0 hoff hF g3 (hnew 3 w2) ⟨s, rfl, g1, fun y hy => by show (if _ then _ else _) = _; rw [if_pos (Nat.le_of_eq (g2 y hy).symm)]⟩
  · obtain ⟨ty, pos, af, rfl⟩ := oper_eq ho (some 19) (.fieldAddr 27 (.tmp 1) 3) (by kernel_rfl)
    exact YieldsE.St (Y.fa 258 rfl Try.runUnderlying27 rfl Try.sizeOf24 (by decide) r1 rfl) (hid 4 _ (by omega) hun rfl)
  · obtain ⟨ty, pos, af, rfl⟩ := oper_eq ho (some 20) (.load 24 (.tmp 19)) (by kernel_rfl)
    have hd : ρ 19 = vA ((⟨b1, 0, none⟩ : Addr).add 258) := hF 4 (by omega) (oper_dep ho [4] (by kernel_rfl) hdep 4 (by simp))
    exact YieldsE.St (Y.ld rfl Try.isAgg24 hd (hB1.cell (Dfv_258 d))) (hid 5 _ (by omega) hun (by rw [hls]; rfl))
  · obtain ⟨ty, pos, af, rfl⟩ := oper_eq ho (some 21) (.call ⟨.value (.func 31), #[.tmp 20], #[24]⟩) (by kernel_rfl)
    have hd : ρ 20 = ls.val := hF 5 (by omega) (oper_dep ho [5] (by kernel_rfl) hdep 5 (by simp))
    have hc := quotient_Norm (hlb.g hg0) (by omega)
    refine N.call (l := [.tmp 20]) (e := Sl.val) (vs := [ls.val]) rfl Try.call31 (by simp only [List.map_cons, List.map_nil, ev, hd]) hc ?_
    rintro r w2 ⟨g1, g3⟩
    exact NpJ.next (tag' := fun y => if w.heap.size ≤ y then 4 else tag y) (by omega) (h13 (by omega)) hg0 h0 hoff hF g3 (hnew 4 w2) ⟨r, rfl, g1.base hsz, fun y hy => by show (if _ then _ else _) = _; rw [if_pos (g1.ge hy).1]⟩
  · obtain ⟨ty, pos, af, rfl⟩ := oper_eq ho (some 22) (.makeMap 50 none) (by kernel_rfl)
    have hm : M.run Try.prog (Instr.makeMap 50 none) Value.map (fun r : Option Nat => fun w' (_ : Unit → World → Prop) => ∃ m, r = some m ∧ m = w.heap.size ∧ Mp w' m ePr vI ([] : List ((Int × Int) × Int)) ∧ Grow w w') w (fun _ _ => True) :=
      M.mkMap (ek := ePr) (ev := vI) fun m w' g1 g2 g3 _ => ⟨m, rfl, g1, g2, g3⟩
    obtain ⟨_, w2, hr, m, rfl, g1, g2, g3⟩ := hm
    refine N.of (s := Instr.makeMap 50 none) rfl rfl hr ?_
    exact NpJ.next (tag' := fun y => if w.heap.size ≤ y then 7 else tag y) (by omega) (h13 (by omega)) hg0 h0 hoff hF g3 (hnew 7 w2) ⟨m, rfl, g2, by show (if _ then _ else _) = _; rw [if_pos (Nat.le_of_eq g1.symm)]⟩
  · obtain ⟨ty, pos, af, rfl⟩ := oper_eq ho (some 23) (.fieldAddr 27 (.tmp 1) 1) (by kernel_rfl)
    exact YieldsE.St (Y.fa 256 rfl Try.runUnderlying27 rfl Try.sizeOf3 (by decide) r1 rfl) (hid 8 _ (by omega) hun rfl)
  · obtain ⟨ty, pos, af, rfl⟩ := oper_eq ho (some 24) (.load 3 (.tmp 23)) (by kernel_rfl)
    have hd : ρ 23 = vA ((⟨b1, 0, none⟩ : Addr).add 256) := hF 8 (by omega) (oper_dep ho [8] (by kernel_rfl) hdep 8 (by simp))
    exact YieldsE.St (Y.ld rfl Try.isAgg3 hd (hB1.cell (Dfv_256 d))) (hid 9 _ (by omega) hun (by rw [hx]; rfl))
  · obtain ⟨ty, pos, af, rfl⟩ := oper_eq ho (some 25) (.build 52 #[(0, .tmp 16), (1, .tmp 18), (2, .tmp 21), (6, .tmp 22), (7, .tmp 24)]) (by kernel_rfl)
    obtain ⟨s1, e1, a1, a2⟩ : ∃ s : Sl, ρ 16 = s.val ∧ Own w0.heap.size w s 3 1 (List.replicate n (vI 0)) ∧ ∀ y, ownb s y → tag y = 2 := hF 1 (by omega) (oper_dep ho [1] (by kernel_rfl) hdep 1 (by simp))
    obtain ⟨s3, e3, a3, a4⟩ : ∃ s : Sl, ρ 18 = s.val ∧ Own w0.heap.size w s 3 1 (List.replicate n (vI 0)) ∧ ∀ y, ownb s y → tag y = 3 := hF 3 (by omega) (oper_dep ho [3] (by kernel_rfl) hdep 3 (by simp))
    obtain ⟨s6, e6, a5, a6⟩ : ∃ s : Sl, ρ 21 = s.val ∧ Own w0.heap.size w s 3 1 ((numI lb).map vI) ∧ ∀ y, ownb s y → tag y = 4 := hF 6 (by omega) (oper_dep ho [6] (by kernel_rfl) hdep 6 (by simp))
    obtain ⟨m, e7, a7, a8⟩ : ∃ m, ρ 22 = .map (some m) ∧ Mp w m ePr vI ([] : List ((Int × Int) × Int)) ∧ tag m = 7 := hF 7 (by omega) (oper_dep ho [7] (by kernel_rfl) hdep 7 (by simp))
    have e9 : ρ 24 = vI x := hF 9 (by omega) (oper_dep ho [9] (by kernel_rfl) hdep 9 (by simp))
    refine YieldsE.St (Y.bld (l := [(0, .tmp 16), (1, .tmp 18), (2, .tmp 21), (6, .tmp 22), (7, .tmp 24)]) [(0, s1.val), (1, s3.val), (2, s6.val), (6, .map (some m)), (7, vI x)] rfl (by simp only [List.map_cons, List.map_nil, ev, e1, e3, e6, e7, e9]) (Ptv_b w s1 s3 s6 (some m) x)) (hid 10 _ (by omega) hun ⟨_, rfl, ⟨a1, a2⟩, ⟨a3, a4⟩, ⟨a5, a6⟩, ⟨m, rfl, a7, a8⟩, rfl, rfl, rfl, rfl⟩)
  · obtain ⟨ty, pos, af, rfl⟩ := oper_eq ho (some 26) (.box 52 (.tmp 25)) (by kernel_rfl)
    obtain ⟨p, e10, a10⟩ : ∃ p : Ptv, ρ 25 = .agg (Ptv.cs p).toArray ∧ NpP w0.heap.size n x lb w tag p := hF 10 (by omega) (oper_dep ho [10] (by kernel_rfl) hdep 10 (by simp))
    have hM : M.new 52 (Ptv.cs p) (fun a => fun w' (_ : Unit → World → Prop) => a = ⟨w.heap.size, 0, none⟩ ∧ Blk w' w.heap.size 52 (Ptv.cs p) ∧ Grow w w') w (fun _ _ => True) := ⟨rfl, Blk.new w 52 _, Grow.alloc w _⟩
    refine N.box (v := .agg (Ptv.cs p).toArray) rfl hM e10 rfl fun a ha h => ?_
    obtain ⟨rfl, g1, g2⟩ := h
    exact NpJ.next (tag' := fun y => if w.heap.size ≤ y then 1 else tag y) (by omega) (h13 (by omega)) hg0 h0 hoff hF g2 (hnew 1 w) ⟨p, w.heap.size, rfl, g1, by simp, a10.chg g2 (fun _ h => h.elim) (hnew 1 w)⟩
  · obtain ⟨ty, pos, af, rfl⟩ := oper_eq ho (some 4) (.alloc 45) (by kernel_rfl)
    have hM : M.new 45 [vP none] (fun a => fun w' (_ : Unit → World → Prop) => a = ⟨w.heap.size, 0, none⟩ ∧ Blk w' w.heap.size 45 [vP none] ∧ Grow w w') w (fun _ _ => True) := ⟨rfl, Blk.new w 45 _, Grow.alloc w _⟩
    refine N.new rfl Try.zeroValue45 hM rfl fun a ha h => ?_
    obtain ⟨rfl, g1, g2⟩ := h
    exact NpJ.next (tag' := fun y => if w.heap.size ≤ y then 9 else tag y) (by omega) (h13 (by omega)) hg0 h0 hoff hF g2 (hnew 9 w) ⟨w.heap.size, vP none, rfl, g1, by simp⟩
  · obtain ⟨ty, pos, af, rfl⟩ := oper_eq ho (none) (.store 45 (.tmp 4) (.tmp 26)) (by kernel_rfl)
    have hdep' : ∀ j, j < 13 → listed.getD j false = true := fun j hj => oper_dep ho [0, 1, 2, 3, 4, 5, 6, 7, 8, 9, 10, 11, 12] (by kernel_rfl) hdep j (by simp; omega)
    obtain ⟨p, b, e11, a1, a2, a3⟩ : ∃ (p : Ptv) (b : Nat), ρ 26 = vA ⟨b, 0, none⟩ ∧ Blk w b 52 (Ptv.cs p) ∧ tag b = 1 ∧ NpP w0.heap.size n x lb w tag p := hF 11 (by omega) (hdep' 11 (by omega))
    obtain ⟨b4, c, e12, a4, a5⟩ : ∃ (b : Nat) (c : Value), ρ 4 = vA ⟨b, 0, none⟩ ∧ Blk w b 45 [c] ∧ tag b = 9 := hF 12 (by omega) (hdep' 12 (by omega))
    have hM : M.st ⟨b4, 0, none⟩ (vA ⟨b, 0, none⟩) (fun w' (_ : Unit → World → Prop) => Blk w' b4 45 [vA ⟨b, 0, none⟩] ∧ Chg (fun y => y = b4) w w' ∧ w'.heap.size = w.heap.size) w (fun _ _ => True) := M.st0 a4 (by simp) fun w' g1 g2 g3 => ⟨g1, g2, g3⟩
    refine N.st (v := vA ⟨b, 0, none⟩) rfl Try.sizeOf45 hM e12 e11 rfl rfl rfl fun h => ?_
    obtain ⟨g1, g2, g3⟩ := h
    have h49 : ∀ y, y = b4 → tag y = 9 := fun y hy => by subst hy; exact a5
    have hlt := a4.lt
    -- b4 is new
    have hb4 : w0.heap.size ≤ b4 := by
      by_cases h : b4 < w0.heap.size
      · have := h0 b4 h; omega
      · omega
    refine ⟨tag, Chg.fresh hg0 g2 (fun y hy => by omega), h0, hoff, fun j hj hl => ?_, fun _ j hj => getD_set_true (hdep' j hj), fun _ => ⟨b4, b, p, e12, g1, a1.chg g2 fun e => ?_, a2, a5, a3.chg g2 h49 fun _ _ => rfl⟩⟩
    · have hFj := hF j hj (hdep' j hj)
      by_cases h12 : j = 12
      · subst h12
        exact ⟨b4, vA ⟨b, 0, none⟩, e12, g1, a5⟩
      · exact hFj.chg (.inl h12) g2 h49 fun _ _ => rfl
    · have := h49 b e; omega
  · omega
end
/-- What the first statement makes, in whatever order. -/
theorem np_region {γ : Type} {kk : γ → World → Prop} {f : Addr → M γ} {F : Nat → Prop} {n b1 : Nat} {lb : List Int} {w : World} {d : Dfv} (hB1 : Blk w b1 27 (Dfv.cs d)) (hlb : Rd 1 F w d.label (lb.map vI)) (hl : lb.length = n) (hn : n ≤ 65536)
    (hf : ∀ (tag : Nat → Nat) (b4 b : Nat) (p : Ptv) (w' : World), Grow w w' → (∀ y, y < w.heap.size → tag y = 0) → Blk w' b4 45 [vA ⟨b, 0, none⟩] → tag b4 = 9 → Blk w' b 52 (Ptv.cs p) → tag b = 1 → NpP w.heap.size n d.width lb w' tag p → f ⟨b4, 0, none⟩ w' kk) :
    M.deep Try.prog (regOps 2 (Try.f27.body.getD .skip)) (fun ρ => ρ 3 = vI n ∧ ρ 1 = vA ⟨b1, 0, none⟩ ∧ True) (fun ρ ρ2 (s : Addr) => ∃ j, ρ2 = (fun s j r => upd (mask r j 134184976) 4 (vA s)) s j ρ) f w kk := by
  rintro ρ ⟨h3, h1, _⟩ _
  have hgd : Grow w w.drew := Grow.drew w
  refine Any.bag 14 (by kernel_rfl) (NpJ w.drew.heap.size n b1 d.width d.label lb w.drew ρ) (dag_of (by kernel_rfl)) (fun listed ρ' w' j o hs hJ hj ho hun hdep => np_step (hB1.g hgd) rfl rfl (hlb.g hgd) hl hn h1 h3 j o hJ hs hj ho hun hdep) (fun listed ρ' w' hs hJ hall => ?_) 14 _ ρ w.drew (by kernel_rfl) (by decide) ⟨fun _ => 0, Chg.refl _ _, fun _ _ => rfl, Off.refl _ _, fun j hj hl => ?_, fun hl => ?_, fun hl => ?_⟩
  · obtain ⟨tag, hg, h0, hoff, _, _, hfin⟩ := hJ
    obtain ⟨b4, b, p, e4, g1, g2, g3, g4, g5⟩ := hfin (hall 13 (by omega))
    exact ⟨⟨b4, 0, none⟩, ⟨_, eqUpd e4 (eqMask hoff)⟩, hf tag b4 b p w' (hgd.trans hg) h0 g1 g4 g2 g3 g5⟩
  · have : ∀ j, j < 13 → (Array.replicate 14 false).getD j false = false := by decide
    have h2 := this j hj
    exact absurd (h2.symm.trans hl) (by decide)
  · exact absurd (show (Array.replicate 14 false).getD 13 false = true from hl) (by decide)
  · exact absurd (show (Array.replicate 14 false).getD 13 false = true from hl) (by decide)
end C
end Go.Proofs.Ythepabefikobpaa
