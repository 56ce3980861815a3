/- Lemmas on which the contracts stand: a WP calculus over environments, the monad of the shallow texts, and the lifts. No condition. -/
import Derived.Calls
import Derived.Still
import Derived.KernelRfl
import Derived.Deep.LoopGhost
import Derived.Laws.Cells
import Derived.Laws.World
import Derived.OrdersIn
import Derived.RangeFuncRecord
import Derived.RangeFuncSeq
namespace Go.Sh
open Go

abbrev Env := Nat → Value

@[reducible] def upd (ρ : Env) (d : Nat) (v : Value) : Env := fun t => bif Nat.beq t d then v else ρ t
@[reducible] def updO (ρ : Env) : Option Tmp → Value → Env
  | some d, v => upd ρ d v
  | none, _ => ρ
@[reducible] def mask (ρ j : Env) (S : Nat) : Env := fun t => bif Nat.testBit S t then j t else ρ t
@[reducible] def ev (ρ : Env) : Operand → Value
  | .tmp t => ρ t
  | .const v => v
  | .global g => .pointer (some ⟨g, 0, none⟩)
  | .func f => .func (.func f) #[] #[]

theorem beq_ff {t d : Nat} (e : t ≠ d) : Nat.beq t d = false := by
  cases h : Nat.beq t d with
  | false => rfl
  | true => exact absurd (Nat.eq_of_beq_eq_true h) e

structure Rep (n : Nat) (ds : List Deferred) (a : Act) (ρ : Env) : Prop where
  size : a.tmps.size = n
  defers : a.defers = ds
  get : ∀ t, a.tmps.getD t undef = ρ t

theorem Rep.eval {n : Nat} {ds : List Deferred} {a : Act} {ρ : Env} (h : Rep n ds a ρ) : a.eval = ev ρ := by
  funext x
  cases x <;> simp [Act.eval, ev]
  have := h.get
  simp at this
  exact this _

theorem Rep.put {n : Nat} {ds : List Deferred} {a : Act} {ρ : Env} (h : Rep n ds a ρ) (d : Option Tmp) (v : Value) (hd : ∀ t, d = some t → t < n) : Rep n ds (a.put d v) (updO ρ d v) := by
  cases d with
  | none => exact h
  | some d =>
    have hlt := hd d rfl
    refine ⟨by simpa [Act.put] using h.size, by simpa [Act.put] using h.defers, fun t => ?_⟩
    have h1 := h.get t
    have hs := h.size
    by_cases e : t = d
    · subst e
      simp [Act.put, updO, upd, hs, hlt]
    · have : Nat.beq t d = false := beq_ff e
      have e' : d ≠ t := fun x => e x.symm
      simp only [Act.put, updO, upd, this, cond_false]
      rw [← h1]
      simp [Array.getElem?_setIfInBounds_ne e']

def noDefer : Op → Bool
  | .defer _ => false
  | _ => true
theorem noDefer_spec {op : Op} (h : noDefer op = true) : ∀ c, op ≠ .defer c := by rintro c rfl; cases h
def okOps (n : Nat) (ops : Array Oper) : Bool := ops.toList.all fun o => noDefer o.op && match o.dst with | some d => Nat.blt d n | none => true
def okC (n : Nat) : Code → Bool
  | .region _ ops _ => okOps n ops
  | .seq a b => okC n a && okC n b
  | .cond _ a b => okC n a && okC n b
  | .block _ b => okC n b
  | .loop b => okC n b
  | .scope b => okC n b
  | .rangeFunc _ ps a b => ps.toList.all (fun t => Nat.blt t n) && (okC n a && okC n b)
  | _ => true

/-- What sort of frame it is: in a round of which loop; which calls are deferred; may it leave with one mark more? -/
structure Fm where
  ro : Option Nat
  ds : List Deferred
  mr : Bool
def Fw (ro : Option Nat) : Fence := { Fence.wide with round := ro }
theorem Fw.room (ro : Option Nat) (n : Nat) : (Fw ro).room n := fun _ h => by simp [Fw, Fence.wide] at h
theorem Fw.deep {ro : Option Nat} {p : Prop} (h : (Fw ro).depth.isSome = true) : p := by simp [Fw, Fence.wide] at h
def markD (D : Nat) : Deferred := { target := .collected D, args := #[] }
/-- What holds where a part of a body is left. -/
def Po (G : Fm) (n : Nat) (Q : Exit → Env → World → Prop) (e : Exit) (a : Act) (w : World) : Prop :=
  ∃ ρ, (Rep n G.ds a ρ ∧ Q e ρ w) ∨ (G.mr = true ∧ e = .ret ∧ ∃ D, Rep n (markD D :: G.ds) a ρ ∧ w.heap[D]? = some (.deferred (some [])) ∧ Q .ret ρ (w.putObj D (.deferred none)))
def Dw (G : Fm) (P : Program) (n : Nat) (c : Code) (Q : Exit → Env → World → Prop) (ρ : Env) (w : World) : Prop :=
  okC n c = true → ∀ a, Rep n G.ds a ρ → c.wpIn (Fw G.ro) 0 P (Po G n Q) a w
theorem Po.to {G : Fm} {n : Nat} {Q Q' : Exit → Env → World → Prop} {e e' : Exit} {a : Act} {w : World} (h : Po G n Q e a w) (he : e ≠ .ret) (hq : ∀ ρ, Q e ρ w → Q' e' ρ w) : Po G n Q' e' a w := by
  obtain ⟨ρ, ⟨h1, h2⟩ | ⟨_, h2, _⟩⟩ := h
  · exact ⟨ρ, .inl ⟨h1, hq _ h2⟩⟩
  · exact (he h2).elim
theorem Po.mono {G : Fm} {n : Nat} {Q Q' : Exit → Env → World → Prop} {e : Exit} {a : Act} {w : World} (h : Po G n Q e a w) (hq : ∀ ρ w, Q e ρ w → Q' e ρ w) : Po G n Q' e a w := by
  obtain ⟨ρ, ⟨h1, h2⟩ | ⟨h1, rfl, D, h2, h3, h4⟩⟩ := h
  · exact ⟨ρ, .inl ⟨h1, hq _ _ h2⟩⟩
  · exact ⟨ρ, .inr ⟨h1, rfl, D, h2, h3, hq _ _ h4⟩⟩
theorem Po.get {G : Fm} {n : Nat} {Q : Exit → Env → World → Prop} {e : Exit} {a : Act} {w : World} (h : Po G n Q e a w) (he : e ≠ .ret) : ∃ ρ, Rep n G.ds a ρ ∧ Q e ρ w := by
  obtain ⟨ρ, h1 | ⟨_, h2, _⟩⟩ := h
  · exact ⟨ρ, h1⟩
  · exact (he h2).elim
def Ng (Q : Exit → Env → World → Prop) : Exit → Env → World → Prop
  | .goto _, _, _ => False
  | e, ρ, w => Q e ρ w

def Th (K : Env → World → Prop) (Q : Exit → Env → World → Prop) : Exit → Env → World → Prop
  | .normal, ρ, w => K ρ w
  | e, ρ, w => Q e ρ w

def InB (id : Nat) (Q : Exit → Env → World → Prop) : Exit → Env → World → Prop
  | .exit i, ρ, w => bif Nat.beq i id then Q .normal ρ w else Q (.exit i) ρ w
  | e, ρ, w => Q e ρ w

section
variable {P : Program} {G : Fm} {n : Nat} {Q : Exit → Env → World → Prop} {ρ : Env} {w : World}
theorem Th.m {K : Env → World → Prop} (h : K ρ w) : Th K Q .normal ρ w := h
theorem Th.e {K : Env → World → Prop} {i : Nat} (h : Q (.exit i) ρ w) : Th K Q (.exit i) ρ w := h
theorem Th.r {K : Env → World → Prop} (h : Q .ret ρ w) : Th K Q .ret ρ w := h
theorem InB.m {id : Nat} (h : Q .normal ρ w) : InB id Q .normal ρ w := h
theorem InB.r {id : Nat} (h : Q .ret ρ w) : InB id Q .ret ρ w := h
theorem InB.e {id : Nat} (h : Q .normal ρ w) : InB id Q (.exit id) ρ w := by
  show bif Nat.beq id id then _ else _
  rw [show Nat.beq id id = true from Nat.beq_refl id]
  exact h
theorem InB.x {id i : Nat} (hi : Nat.beq i id = false) (h : Q (.exit i) ρ w) : InB id Q (.exit i) ρ w := by
  show bif Nat.beq i id then _ else _
  rw [hi]
  exact h
theorem Ng.m (h : Q .normal ρ w) : Ng Q .normal ρ w := h
theorem Ng.e {i : Nat} (h : Q (.exit i) ρ w) : Ng Q (.exit i) ρ w := h
theorem Ng.r (h : Q .ret ρ w) : Ng Q .ret ρ w := h

theorem Dw.mono {c : Code} {Q' : Exit → Env → World → Prop} (h : Dw G P n c Q ρ w) (hq : ∀ e ρ w, Q e ρ w → Q' e ρ w) : Dw G P n c Q' ρ w :=
  fun ok a ha => wpIn_mono (h ok a ha) fun _ _ _ h => h.mono (hq _)

theorem Dw.skip (h : Q .normal ρ w) : Dw G P n .skip Q ρ w := fun _ _ ha => wpIn_skip ⟨ρ, .inl ⟨ha, h⟩⟩
theorem Dw.label {l : Nat} (h : Q .normal ρ w) : Dw G P n (.label l) Q ρ w := fun _ _ ha => wpIn_label ⟨ρ, .inl ⟨ha, h⟩⟩
theorem Dw.exit {id : Nat} (h : Q (.exit id) ρ w) : Dw G P n (.exit id) Q ρ w := fun _ _ ha => wpIn_exit ⟨ρ, .inl ⟨ha, h⟩⟩
theorem Dw.goto {l : Nat} (h : Q (.goto l) ρ w) : Dw G P n (.goto l) Q ρ w := fun _ _ ha => wpIn_goto ⟨ρ, .inl ⟨ha, h⟩⟩
theorem Dw.ret (h : Q .ret ρ w) : Dw G P n .ret Q ρ w := fun _ _ ha => wpIn_ret ⟨ρ, .inl ⟨ha, h⟩⟩

theorem Dw.seq {x y : Code} (h : Dw G P n x (Th (fun ρ w => Dw G P n y Q ρ w) Q) ρ w) : Dw G P n (.seq x y) Q ρ w := by
  intro ok a ha
  simp only [okC, Bool.and_eq_true] at ok
  refine wpIn_seq (wpIn_mono (h ok.1 a ha) ?_)
  intro e a' w' hp
  cases e
  case normal => obtain ⟨ρ', r, q⟩ := hp.get (by simp); exact q ok.2 a' r
  all_goals exact hp.mono fun _ _ q => q

theorem Dw.cond {c : Operand} {x y : Code} {b : Bool} (hc : ev ρ c = .bool b) (ht : b = true → Dw G P n x Q ρ w) (hf : b = false → Dw G P n y Q ρ w) : Dw G P n (.cond c x y) Q ρ w := by
  intro ok a ha
  simp only [okC, Bool.and_eq_true] at ok
  have hc' : a.eval c = .bool b := by rw [ha.eval]; exact hc
  cases b
  · exact wpIn_cond_false hc' (hf rfl ok.2 a ha)
  · exact wpIn_cond_true hc' (ht rfl ok.1 a ha)

theorem Dw.condT {c : Operand} {x y : Code} (hc : ev ρ c = .bool true) (h : Dw G P n x Q ρ w) : Dw G P n (.cond c x y) Q ρ w := .cond hc (fun _ => h) (fun h => by cases h)
theorem Dw.condF {c : Operand} {x y : Code} (hc : ev ρ c = .bool false) (h : Dw G P n y Q ρ w) : Dw G P n (.cond c x y) Q ρ w := .cond hc (fun h => by cases h) (fun _ => h)

theorem Dw.block {id : Nat} {c : Code} (h : Dw G P n c (InB id Q) ρ w) : Dw G P n (.block id c) Q ρ w := by
  intro ok a ha
  simp only [okC] at ok
  refine wpIn_block (wpIn_mono (h ok a ha) ?_)
  intro e a' w' hp
  cases e
  case exit i =>
    by_cases hi : i = id
    · subst hi
      simp only [Exit.inBlock, if_true]
      exact hp.to (by simp) fun ρ' q => by simpa only [InB, Nat.beq_refl, cond_true] using q
    · have : Nat.beq i id = false := beq_ff hi
      simp only [Exit.inBlock, hi, if_false]
      exact hp.mono fun ρ' w q => by simpa only [InB, this, cond_false] using q
  all_goals exact hp.mono fun _ _ q => q

theorem stepR_scope {b : Frame} {a : Act} {k : List Item} {cs : List Frame} {c : Code} : step P (lone (b.atR a (.code (.scope c) :: k)) cs w) = .next (lone (b.atR a (.code c :: .inScope c :: k)) cs w) :=
  step_lone_go (by simp [stepG, stepG.exec, Frame.atR])
theorem stepR_inScope {b : Frame} {a : Act} {k : List Item} {cs : List Frame} {c : Code} : step P (lone (b.atR a (.inScope c :: k)) cs w) = .next (lone (b.atR a k) cs w) :=
  step_lone_go (by simp [stepG, stepG.exec, Frame.atR])
/-- A scope through which it goes without a jump. -/
theorem Dw.scope {c : Code} (h : Dw G P n c (Ng Q) ρ w) : Dw G P n (.scope c) Q ρ w := by
  intro ok a ha b k cs hro hb hr
  simp only [okC] at ok
  have h0 : (lone (b.atR a (.code (.scope c) :: k)) cs w).fenced P (Fw G.ro) := fenced_calm hb hr rfl
  obtain ⟨e, a₁, w₁, hq, harr⟩ := h ok a ha b (.inScope c :: k) cs hro hb hr
  cases e with
  | normal => exact ⟨.normal, a₁, w₁, hq.mono fun _ _ q => q, .head h0 stepR_scope (StepsIn.trans harr (.one (fenced_calm hb hr rfl) stepR_inScope))⟩
  | exit id =>
    have hx : exitTo id (.inScope c :: k) = exitTo id k := by simp [exitTo]
    exact ⟨.exit id, a₁, w₁, hq.mono fun _ _ q => q, fun k' hk => .head h0 stepR_scope (harr.1 k' (by rw [hx]; exact hk)), fun hr' hk => let ⟨k₁, h1, h2⟩ := harr.2 hr' (by rw [hx]; exact hk); ⟨k₁, h1, .head h0 stepR_scope h2⟩⟩
  | goto l => obtain ⟨_, _, q⟩ := hq.get (by simp); exact q.elim
  | ret => exact ⟨_, a₁, w₁, hq.mono fun _ _ q => q, .of_steps (.one h0 stepR_scope) harr⟩
  | panic ch => exact ⟨_, a₁, w₁, hq.mono fun _ _ q => q, .of_steps (.one h0 stepR_scope) harr⟩
  | outgrown => exact ⟨_, a₁, w₁, hq.mono fun _ _ q => q, .of_steps (.one h0 stepR_scope) harr⟩

/-- A loop under a ghost state: the relation I holds at each head, the measure goes down. -/
theorem Dw.loop {σ : Type} {c : Code} (I : σ → Env → World → Prop) (μ : σ → World → Nat) (s : σ) (h0 : I s ρ w)
    (round : ∀ s ρ w, I s ρ w → Dw G P n c (Th (fun ρ' w' => ∃ s', I s' ρ' w' ∧ μ s' w' < μ s w) Q) ρ w) : Dw G P n (.loop c) Q ρ w := by
  intro ok a ha b k cs hro hb hr
  have key : ∀ m s ρ a w, μ s w = m → I s ρ w → Rep n G.ds a ρ →
      ∃ e a' w', Po G n Q e a' w' ∧ ArrivesIn (Machine.fenced P (Fw G.ro)) P (lone (b.atR a (.code c :: .inLoop c :: k)) cs w) b k cs e a' w' := by
    intro m
    induction m using Nat.strongRecOn with
    | _ m ih =>
      intro s ρ a w hm hI ha
      obtain ⟨e, a₁, w₁, hp, harr⟩ := round s ρ w hI ok a ha b (.inLoop c :: k) cs hro hb hr
      cases e with
      | normal =>
        obtain ⟨ρ₁, hr1, s', hI', hlt⟩ := hp.get (by simp)
        obtain ⟨e₂, a₂, w₂, hq₂, harr₂⟩ := ih (μ s' w₁) (hm ▸ hlt) s' ρ₁ a₁ w₁ rfl hI' hr1
        exact ⟨e₂, a₂, w₂, hq₂, .of_steps (StepsIn.trans harr (.one (fenced_calm hb hr rfl) stepR_inLoop)) harr₂⟩
      | exit id => exact ⟨_, a₁, w₁, hp.mono fun _ _ q => q, .pass (x := .inLoop c) rfl (fun _ _ => .inl (by simp)) harr⟩
      | goto l => exact ⟨_, a₁, w₁, hp.mono fun _ _ q => q, .pass (x := .inLoop c) rfl (fun _ _ => .inl (by simp)) harr⟩
      | ret => exact ⟨_, a₁, w₁, hp.mono fun _ _ q => q, .pass (x := .inLoop c) rfl (fun _ _ => .inl (by simp)) harr⟩
      | panic ch => exact ⟨_, a₁, w₁, hp.mono fun _ _ q => q, .pass (x := .inLoop c) rfl (fun _ _ => .inl (by simp)) harr⟩
      | outgrown => exact ⟨_, a₁, w₁, hp.mono fun _ _ q => q, .pass (x := .inLoop c) rfl (fun _ _ => .inl (by simp)) harr⟩
  obtain ⟨e, a', w', hq, harr⟩ := key _ s ρ a w rfl h0 ha
  exact ⟨e, a', w', hq, .of_steps (.one (fenced_calm hb hr rfl) stepR_loop) harr⟩
end

/-! ### Operations -/

def yieldedE (all : Array Oper) (ρ : Env) (j : Nat) : Option Bool :=
  match (all[j]?).bind (·.dst) with
  | some d => match ρ d with
    | .bool b => some b
    | _ => none
  | none => none
def wantedG (all : Array Oper) (g : Option (Nat × Bool)) (ρ : Env) : Bool :=
  match g with
  | none => true
  | some (j, want) => yieldedE all ρ j == some want

/-- One operation. -/
def St (P : Program) (all : Array Oper) (o : Oper) (K : Env → World → Prop) (ρ : Env) (w : World) : Prop :=
  if wantedG all o.guard ρ = true then
    match (execOp (ev ρ) o).run P w with
    | .ok (.value v) w' => K (updO ρ o.dst v) w'
    | .ok .skip w' => K (updO ρ o.dst undef) w'
    | .ok (.enter f args) w' => Calls P f args w' fun e w'' => ∃ v, e = .returned v ∧ K (updO ρ o.dst v) w''
    | .ok (.round l f tmps assign body) w' => RoundIn Fence.wide 0 P l f tmps assign body w' fun e w'' => ∃ v, e = .returned v ∧ K (updO ρ o.dst v) w''
    | _ => False
  else K (updO ρ o.dst undef) w

def Dl (P : Program) (all : Array Oper) (K : Env → World → Prop) : List Oper → Env → World → Prop
  | [], ρ, w => K ρ w
  | o :: os, ρ, w => St P all o (Dl P all K os) ρ w

theorem St.mono {P : Program} {all : Array Oper} {o : Oper} {K K' : Env → World → Prop} {ρ : Env} {w : World} (hk : ∀ ρ w, K ρ w → K' ρ w) (h : St P all o K ρ w) : St P all o K' ρ w := by
  unfold St at *
  split
  · rename_i hg
    rw [if_pos hg] at h
    generalize (execOp (ev ρ) o).run P w = r at *
    cases r with
    | ok x w' =>
      cases x <;> first
        | exact hk _ _ h
        | exact Calls.mono h fun e w'' ⟨v, e1, e2⟩ => ⟨v, e1, hk _ _ e2⟩
        | exact RoundIn.mono h fun e w'' ⟨v, e1, e2⟩ => ⟨v, e1, hk _ _ e2⟩
        | exact h
    | halt x w' => exact h
  · rename_i hg
    rw [if_neg hg] at h
    exact hk _ _ h

theorem wanted_eq {n : Nat} {ds : List Deferred} {ops : Array Oper} {o : Oper} {a : Act} {ρ : Env} (hok : okOps n ops = true) (ha : Rep n ds a ρ) : Region.wanted o (yielded ops a.tmps) = wantedG ops o.guard ρ := by
  have key : ∀ j, yielded ops a.tmps j = yieldedE ops ρ j := by
    intro j
    unfold yielded yieldedE
    cases hj : (ops[j]?).bind (·.dst) with
    | none => rfl
    | some d =>
      have hd : d < n := by
        cases ho : ops[j]? with
        | none => simp [ho] at hj
        | some o' =>
          simp only [okOps, List.all_eq_true] at hok
          have hm : o' ∈ ops.toList := by simpa using Array.mem_of_getElem? ho
          have := hok o' hm
          simp [ho] at hj
          rw [hj, Bool.and_eq_true] at this
          simpa using this.2
      have hs := ha.size
      have hg := ha.get d
      have hsome : a.tmps[d]? = some (ρ d) := by
        have hlt : d < a.tmps.size := hs ▸ hd
        rw [Array.getElem?_eq_getElem hlt]
        simp [hlt] at hg
        rw [hg]
      simp only [Option.bind_some, hsome]
      cases ρ d <;> rfl
  unfold Region.wanted wantedG
  cases o.guard with
  | none => rfl
  | some g => obtain ⟨j, want⟩ := g; simp [key]

theorem okOps_dst {n : Nat} {ops : Array Oper} (hok : okOps n ops = true) {i : Nat} {o : Oper} (h : ops[i]? = some o) : ∀ t, o.dst = some t → t < n := by
  intro t ht
  simp only [okOps, List.all_eq_true] at hok
  have hm : o ∈ ops.toList := by simpa using Array.mem_of_getElem? h
  have := hok o hm
  rw [ht, Bool.and_eq_true] at this
  simpa using this.2
theorem okOps_nd {n : Nat} {ops : Array Oper} (hok : okOps n ops = true) {i : Nat} {o : Oper} (h : ops[i]? = some o) : ∀ c, o.op ≠ .defer c := by
  simp only [okOps, List.all_eq_true] at hok
  have hm : o ∈ ops.toList := by simpa using Array.mem_of_getElem? h
  have := hok o hm
  rw [Bool.and_eq_true] at this
  exact noDefer_spec this.1
theorem RoundIn.fw {ro : Option Nat} {m : Nat} {P : Program} {l : Nat} {f : FuncId} {tmps : Array Value} {assign body : Code} {w : World} {R : Ending → World → Prop} (h : RoundIn Fence.wide 0 P l f tmps assign body w R) : RoundIn (Fw ro) m P l f tmps assign body w R :=
  ⟨trivial, fun c cs _ => h.2 c cs (room_wide _)⟩
theorem RoundIn.un {ro : Option Nat} {m : Nat} {P : Program} {l : Nat} {f : FuncId} {tmps : Array Value} {assign body : Code} {w : World} {R : Ending → World → Prop} (h : RoundIn (Fw ro) m P l f tmps assign body w R) : RoundIn Fence.wide 0 P l f tmps assign body w R :=
  ⟨trivial, fun c cs _ => h.2 c cs (Fw.room _ _)⟩
theorem calls_fw {ro : Option Nat} {m : Nat} {P : Program} {f : FuncId} {args : Array Value} {w : World} {R : Ending → World → Prop} (h : Calls P f args w R) : CallsIn (Fw ro) m P f args w R :=
  ⟨trivial, fun cs _ => ((callsIn_wide (n := 0)).2 h).2 cs (room_wide _)⟩
theorem calls_un {ro : Option Nat} {m : Nat} {P : Program} {f : FuncId} {args : Array Value} {w : World} {R : Ending → World → Prop} (h : CallsIn (Fw ro) m P f args w R) : Calls P f args w R :=
  (callsIn_wide (n := 0)).1 ⟨trivial, fun cs _ => h.2 cs (Fw.room _ _)⟩

theorem wpOp_of_St {G : Fm} {P : Program} {n : Nat} {ops : Array Oper} {Q : Exit → Act → World → Prop} {i : Nat} {o : Oper} {K : Env → World → Prop} {K' : Act → World → Prop} {a : Act} {ρ : Env} {w : World}
    (hok : okOps n ops = true) (hi : ops[i]? = some o) (ha : Rep n G.ds a ρ) (hk : ∀ a ρ w, Rep n G.ds a ρ → K ρ w → K' a w) (h : St P ops o K ρ w) : wpOpIn (Fw G.ro) 0 P ops Q i K' a w := by
  unfold wpOpIn
  simp only [hi]
  have hd := okOps_dst hok hi
  rw [wanted_eq hok ha]
  unfold St at h
  split
  · rename_i hg
    rw [if_pos hg] at h
    refine ⟨fun _ _ => trivial, ?_⟩
    rw [Oper.semAt_eq _ _ _ (okOps_nd hok hi), ha.eval]
    generalize (execOp (ev ρ) o).run P w = r at *
    cases r with
    | ok x w' =>
      cases x <;> simp only [Oper.uponIn] at h ⊢ <;> first
        | exact hk _ _ _ (ha.put _ _ hd) h
        | (refine ⟨fun h => Fw.deep h, CallsIn.mono (calls_fw h) ?_⟩; rintro e w'' ⟨v, rfl, h2⟩; exact hk _ _ _ (ha.put _ _ hd) h2)
        | (refine ⟨fun h => Fw.deep h, RoundIn.mono (RoundIn.fw h) ?_⟩; rintro e w'' ⟨v, rfl, h2⟩; exact hk _ _ _ (ha.put _ _ hd) h2)
        | exact h
    | halt x w' => exact h.elim
  · rename_i hg
    rw [if_neg hg] at h
    exact ⟨fun _ _ => trivial, hk _ _ _ (ha.put _ _ hd) h⟩

theorem wpOps_of_Dl {G : Fm} {P : Program} {n : Nat} {ops : Array Oper} {Q : Exit → Env → World → Prop} (hok : okOps n ops = true) :
    ∀ (l : List Oper) (k : Nat) (ρ : Env) (a : Act) (w : World), (∀ j, l[j]? = ops[k + j]?) → Rep n G.ds a ρ → Dl P ops (Q .normal) l ρ w →
      wpOpsIn (Fw G.ro) 0 P ops (Po G n Q) (List.range' k l.length) a w
  | [], _, _, _, _, _, ha, h => ⟨_, .inl ⟨ha, h⟩⟩
  | o :: l, k, ρ, a, w, hl, ha, h => by
    have h0 : ops[k]? = some o := by simpa using (hl 0).symm
    rw [List.length_cons, List.range'_succ, wpOpsIn_cons]
    refine wpOp_of_St hok h0 ha (fun a' ρ' w' ha' h' => ?_) h
    exact wpOps_of_Dl hok l (k + 1) ρ' a' w' (fun j => by have := hl (j + 1); simpa [Nat.add_assoc, Nat.add_comm 1 j] using this) ha' h'

theorem Dw.region {G : Fm} {P : Program} {n id : Nat} {l : List Oper} {Q : Exit → Env → World → Prop} {ρ : Env} {w : World} (h : Dl P l.toArray (Q .normal) l ρ w) : Dw G P n (.region id l.toArray false) Q ρ w := by
  intro ok a ha
  refine wpIn_region ?_
  have := wpOps_of_Dl (Q := Q) ok l 0 ρ a w (by simp) ha h
  simpa [List.range_eq_range'] using this

end Go.Sh

namespace Go.Sh
open Go
/-! ### A region that draws its order -/

/-- What an operation looks at is as it was. -/
theorem looks_ev {ops : Array Oper} {o : Oper} {ρ : Env} {d : Option Tmp} {v : Value} (h : ∀ t, d = some t → t ∉ o.looksAt ops) (hs : ∀ cs b, o.op ≠ .select cs b) :
    execOp (ev (updO ρ d v)) o = execOp (ev ρ) o ∧ wantedG ops o.guard (updO ρ d v) = wantedG ops o.guard ρ := by
  cases d with
  | none => exact ⟨rfl, rfl⟩
  | some d =>
    have hd := h d rfl
    simp only [Oper.looksAt, List.mem_append, not_or] at hd
    obtain ⟨h1, h2⟩ := hd
    constructor
    · refine execOp_congr o hs fun x hx => ?_
      cases x with
      | tmp t =>
        have hne : t ≠ d := by
          rintro rfl
          exact h1 (by simp only [List.mem_filterMap]; exact ⟨.tmp t, by simpa using hx, rfl⟩)
        simp only [ev, updO, upd, beq_ff hne, cond_false]
      | _ => rfl
    · unfold wantedG
      cases hg : o.guard with
      | none => rfl
      | some g =>
        obtain ⟨j, want⟩ := g
        simp only [hg] at h2
        simp only
        congr 1
        unfold yieldedE
        cases hj : (ops[j]?).bind (·.dst) with
        | none => rfl
        | some t =>
          rw [hj] at h2
          have hne : t ≠ d := by rintro rfl; simp at h2
          simp only [updO, upd, beq_ff hne, cond_false]

theorem updO_comm (ρ : Env) {x y : Option Tmp} (v u : Value) (h : ∀ d, x = some d → y ≠ some d) : updO (updO ρ x v) y u = updO (updO ρ y u) x v := by
  cases x with
  | none => rfl
  | some d =>
    cases y with
    | none => rfl
    | some e =>
      have hne : d ≠ e := fun he => h d rfl (he ▸ rfl)
      funext t
      simp only [updO, upd]
      by_cases h1 : t = e
      · subst h1
        have : t ≠ d := fun x => hne x.symm
        simp [beq_ff this]
      · simp [beq_ff h1]

def YieldsE (P : Program) (ops : Array Oper) (w : World) (o : Oper) (v : Value) (ρ : Env) : Prop :=
  (wantedG ops o.guard ρ = true ∧ ((execOp (ev ρ) o).run P w = .ok (.value v) w ∨ ((execOp (ev ρ) o).run P w = .ok .skip w ∧ v = undef))) ∨
  (wantedG ops o.guard ρ = false ∧ v = undef)

theorem YieldsE.St {P : Program} {ops : Array Oper} {w : World} {o : Oper} {v : Value} {ρ : Env} {K : Env → World → Prop} (hy : YieldsE P ops w o v ρ) (h : K (updO ρ o.dst v) w) : St P ops o K ρ w := by
  unfold Sh.St
  rcases hy with ⟨hw, hv | ⟨hv, rfl⟩⟩ | ⟨hw, rfl⟩
  · simp only [hw, if_true, hv]; exact h
  · simp only [hw, if_true, hv]; exact h
  · simp only [hw]; exact h

theorem YieldsE.of_looks {P : Program} {ops : Array Oper} {w : World} {o : Oper} {v : Value} {ρ : Env} {d : Option Tmp} {u : Value} (h : ∀ t, d = some t → t ∉ o.looksAt ops) (hs : ∀ cs b, o.op ≠ .select cs b)
    (hy : YieldsE P ops w o v ρ) : YieldsE P ops w o v (updO ρ d u) := by
  obtain ⟨h1, h2⟩ := looks_ev (ρ := ρ) (v := u) h hs
  unfold YieldsE at *
  rw [h1, h2]
  exact hy

theorem St.put {P : Program} {ops : Array Oper} {oi oj : Oper} {v : Value} {K : Env → World → Prop} {ρ : Env} {w : World} (hap : oi.apart ops oj = true) (hsj : ∀ cs b, oj.op ≠ .select cs b)
    (h : St P ops oj K (updO ρ oi.dst v) w) : St P ops oj (fun ρ' w' => (∃ u, ρ' = updO ρ oj.dst u) ∧ K (updO ρ' oi.dst v) w') ρ w := by
  obtain ⟨h1, h2, _⟩ := Oper.apart_spec hap
  obtain ⟨e1, e2⟩ := looks_ev (ρ := ρ) (v := v) h1 hsj
  unfold Sh.St at *
  rw [e1, e2] at h
  split
  · rename_i hg
    rw [if_pos hg] at h
    generalize (execOp (ev ρ) oj).run P w = r at *
    cases r with
    | ok x w' =>
      cases x <;> simp only at h ⊢ <;> first
        | exact ⟨⟨_, rfl⟩, by rw [← updO_comm _ _ _ h2]; exact h⟩
        | (refine Calls.mono h ?_; rintro e w'' ⟨u, rfl, h3⟩; exact ⟨u, rfl, ⟨_, rfl⟩, by rw [← updO_comm _ _ _ h2]; exact h3⟩)
        | (refine RoundIn.mono h ?_; rintro e w'' ⟨u, rfl, h3⟩; exact ⟨u, rfl, ⟨_, rfl⟩, by rw [← updO_comm _ _ _ h2]; exact h3⟩)
        | exact h
    | halt x w' => exact h.elim
  · rename_i hg
    rw [if_neg hg] at h
    exact ⟨⟨_, rfl⟩, by rw [← updO_comm _ _ _ h2]; exact h⟩

def aft (o : Oper) (i : Nat) : Bool := o.after.any fun e => Region.binds .any e && Nat.beq e.on i

def Any (P : Program) (ops : Array Oper) (K : Env → World → Prop) : Nat → Array Bool → List (Nat × (World → Prop)) → Env → World → Prop
  | 0, listed, _, ρ, w => Region.ready .any ops listed = [] ∧ K ρ w
  | fuel + 1, listed, pd, ρ, w =>
    (Region.ready .any ops listed = [] → K ρ w) ∧
    ∀ j ∈ Region.ready .any ops listed, ∀ o, ops[j]? = some o →
      St P ops o (fun ρ' w' => (∀ p ∈ pd, aft o p.1 = false → p.2 w') ∧ Any P ops K fuel (listed.setIfInBounds j true) (pd.filter fun p => !aft o p.1) ρ' w') ρ w

theorem wpAny_of_Any {G : Fm} {P : Program} {n : Nat} {ops : Array Oper} {Q : Exit → Env → World → Prop} (hok : okOps n ops = true) :
    ∀ (fuel : Nat) (listed : Array Bool) (pd : List (Nat × (World → Prop))) (ρ : Env) (a : Act) (w : World), Rep n G.ds a ρ → Any P ops (Q .normal) fuel listed pd ρ w →
      wpAnyIn (Fw G.ro) 0 P .any ops (Po G n Q) fuel listed a w
  | 0, _, _, _, _, _, ha, h => ⟨h.1, _, .inl ⟨ha, h.2⟩⟩
  | fuel + 1, listed, pd, ρ, a, w, ha, h => by
    refine ⟨fun h0 => ⟨_, .inl ⟨ha, h.1 h0⟩⟩, fun j hj => ?_⟩
    obtain ⟨_, o, ho, _⟩ := mem_ready.1 hj
    exact wpOp_of_St hok ho ha (fun a' ρ' w' ha' h' => wpAny_of_Any hok fuel _ _ ρ' a' w' ha' h'.2) (h.2 j hj o ho)

theorem Dw.draw {G : Fm} {P : Program} {n id : Nat} {l : List Oper} {Q : Exit → Env → World → Prop} {ρ : Env} {w : World} (hm : P.follows .mixedOrders = true)
    (h : Any P l.toArray (Q .normal) l.length (Array.replicate l.length false) [] ρ w.drew) : Dw G P n (.region id l.toArray true) Q ρ w := by
  intro ok a ha
  refine wpIn_region_any hm ?_
  simp only [List.size_toArray]
  exact wpAny_of_Any ok _ _ _ _ _ _ ha h

theorem Any.weaken {P : Program} {ops : Array Oper} {K : Env → World → Prop} : ∀ (fuel : Nat) (listed : Array Bool) (pd pd' : List (Nat × (World → Prop))) (ρ : Env) (w : World),
    (∀ p ∈ pd', p ∈ pd) → Any P ops K fuel listed pd ρ w → Any P ops K fuel listed pd' ρ w
  | 0, _, _, _, _, _, _, h => h
  | fuel + 1, listed, pd, pd', ρ, w, hs, h => by
    refine ⟨h.1, fun j hj o ho => (h.2 j hj o ho).mono fun ρ' w' ⟨h1, h2⟩ => ⟨fun p hp hpa => h1 p (hs p hp) hpa, ?_⟩⟩
    refine Any.weaken fuel _ _ _ ρ' w' (fun p hp => ?_) h2
    rw [List.mem_filter] at hp ⊢
    exact ⟨hs p hp.1, hp.2⟩

theorem Any.first {P : Program} {ops : Array Oper} {K : Env → World → Prop} {i : Nat} {oi : Oper} {v : Value} {S : World → Prop} (hi : ops[i]? = some oi)
    (hsel : ∀ (j : Nat) (o : Oper) cs b, ops[j]? = some o → o.op ≠ .select cs b) :
    ∀ (fuel : Nat) (listed : Array Bool) (pd : List (Nat × (World → Prop))) (ρ : Env) (w : World),
      (∀ j oj, ops[j]? = some oj → j ≠ i → listed.getD j true = false → (∀ e ∈ oj.after, Region.binds .any e = true → e.on ≠ i) → oi.apart ops oj = true) →
      i ∈ Region.ready .any ops listed → (∀ w, S w → YieldsE P ops w oi v ρ) → S w → (∀ p ∈ pd, p.2 w) →
      Any P ops K fuel (listed.setIfInBounds i true) ((i, S) :: pd) (updO ρ oi.dst v) w → Any P ops K (fuel + 1) listed pd ρ w := by
  intro fuel
  induction fuel with
  | zero =>
    intro listed pd ρ w _ hr hy hS hpd H
    refine ⟨fun h => (by rw [h] at hr; cases hr), fun j hj o ho => ?_⟩
    by_cases hji : j = i
    · subst hji
      obtain rfl : oi = o := by simpa [hi] using ho
      exact (hy w hS).St ⟨fun p hp _ => hpd p hp, H⟩
    · have := ready_mono hj hji
      rw [H.1] at this
      cases this
  | succ fuel ih =>
    intro listed pd ρ w hfree hr hy hS hpd H
    refine ⟨fun h => (by rw [h] at hr; cases hr), fun j hj oj hoj => ?_⟩
    by_cases hji : j = i
    · subst hji
      obtain rfl : oi = oj := by simpa [hi] using hoj
      refine (hy w hS).St ⟨fun p hp _ => hpd p hp, ?_⟩
      exact Any.weaken _ _ _ _ _ _ (fun p hp => List.mem_cons_of_mem _ (List.mem_filter.1 hp).1) H
    · have h1 := H.2 j (ready_mono hj hji) oj hoj
      obtain ⟨hjun, oj', hoj', hall⟩ := mem_ready.1 hj
      obtain rfl : oj' = oj := by simpa [hoj] using hoj'.symm
      have hnot : ∀ e ∈ oj'.after, Region.binds .any e = true → e.on ≠ i := fun e he hb heq => by
        have h1 := hall e he hb
        have h0 := (mem_ready.1 hr).1
        rw [heq] at h1
        rcases Nat.lt_or_ge i listed.size with h' | h'
        · simp [h'] at h0 h1; rw [h0] at h1; cases h1
        · simp [Array.getElem?_eq_none h'] at h1
      have hap := hfree j oj' hoj hji hjun hnot
      have haft : aft oj' i = false := by
        rw [Bool.eq_false_iff]
        intro ht
        simp only [aft, Array.any_eq_true', Bool.and_eq_true] at ht
        obtain ⟨e, he, hb, hon⟩ := ht
        exact hnot e he hb (Nat.eq_of_beq_eq_true hon)
      have h2 := h1.put hap (fun cs b => hsel j oj' cs b hoj)
      have hfree' : ∀ k ok, ops[k]? = some ok → k ≠ i → (listed.setIfInBounds j true).getD k true = false →
          (∀ e ∈ ok.after, Region.binds .any e = true → e.on ≠ i) → oi.apart ops ok = true := fun k ok hk hki hun hno => by
        refine hfree k ok hk hki ?_ hno
        by_cases hjk : j = k
        · subst hjk; exact hjun
        · rw [getD_set_ne true hjk] at hun; exact hun
      refine h2.mono ?_
      rintro ρ' w' ⟨⟨u, rfl⟩, h3, h4⟩
      refine ⟨fun p hp hpa => h3 p (List.mem_cons_of_mem _ hp) hpa, ?_⟩
      obtain ⟨_, _, h5⟩ := Oper.apart_spec hap
      refine ih (listed.setIfInBounds j true) _ _ w' hfree' (ready_mono hr (Ne.symm hji)) (fun w hw => (hy w hw).of_looks h5 (fun cs b => hsel i oi cs b hi)) (h3 _ (List.mem_cons_self) haft) (fun p hp => ?_) ?_
      · rw [List.mem_filter] at hp
        exact h3 p (List.mem_cons_of_mem _ hp.1) (by simpa using hp.2)
      · rw [Array.setIfInBounds_comm _ _ hji]
        refine Any.weaken _ _ _ _ _ _ (fun p hp => ?_) h4
        rw [List.mem_cons] at hp
        rw [List.mem_filter]
        rcases hp with rfl | hp
        · exact ⟨List.mem_cons_self, by simp [haft]⟩
        · rw [List.mem_filter] at hp
          exact ⟨List.mem_cons_of_mem _ hp.1, hp.2⟩

/-- The order game, with what is still asked of worlds. -/
def Gm (P : Program) (ops : Array Oper) (K : Env → World → Prop) (fuel : Nat) (listed : Array Bool) (pd : List (Nat × (World → Prop))) (ρ : Env) (w : World) : Prop :=
  (∀ p ∈ pd, p.2 w) → Any P ops K fuel listed pd ρ w

theorem Dw.game {G : Fm} {P : Program} {n id : Nat} {l : List Oper} {Q : Exit → Env → World → Prop} {ρ : Env} {w : World} (hm : P.follows .mixedOrders = true)
    (h : Gm P l.toArray (Q .normal) l.length (Array.replicate l.length false) [] ρ w.drew) : Dw G P n (.region id l.toArray true) Q ρ w :=
  Dw.draw hm (h (fun _ hp => by cases hp))

/-- Operation i may come first. -/
def frst (ops : Array Oper) (listed : Array Bool) (i : Nat) : Bool := Region.noSelect ops && ((Region.ready .any ops listed).contains i && Region.free .any ops listed i)

theorem Gm.quiet {P : Program} {ops : Array Oper} {K : Env → World → Prop} {fuel : Nat} {listed : Array Bool} {pd : List (Nat × (World → Prop))} {ρ : Env} {w : World}
    (i : Nat) {oi : Oper} {v : Value} {S : World → Prop} (hi : ops[i]? = some oi) (hB : frst ops listed i = true) (hy : ∀ w, S w → YieldsE P ops w oi v ρ) (hS : S w)
    (h : Gm P ops K fuel (listed.setIfInBounds i true) ((i, S) :: pd) (updO ρ oi.dst v) w) : Gm P ops K (fuel + 1) listed pd ρ w := by
  simp only [frst, Bool.and_eq_true] at hB
  obtain ⟨h1, h2, h3⟩ := hB
  intro hpd
  refine Any.first hi (fun j o cs b ho => Region.noSelect_spec h1 j o cs b ho) fuel listed pd ρ w (Region.free_spec hi h3) (by simpa using h2) hy hS hpd (h ?_)
  intro p hp
  rcases List.mem_cons.1 hp with rfl | hp
  · exact hS
  · exact hpd p hp

/-- Operations that are the same in all worlds stay out of the list. -/
theorem Gm.pure {P : Program} {ops : Array Oper} {K : Env → World → Prop} {fuel : Nat} {listed : Array Bool} {pd : List (Nat × (World → Prop))} {ρ : Env} {w : World}
    (i : Nat) {oi : Oper} {v : Value} (hi : ops[i]? = some oi) (hB : frst ops listed i = true) (hy : ∀ w, YieldsE P ops w oi v ρ)
    (h : Gm P ops K fuel (listed.setIfInBounds i true) pd (updO ρ oi.dst v) w) : Gm P ops K (fuel + 1) listed pd ρ w := by
  simp only [frst, Bool.and_eq_true] at hB
  obtain ⟨h1, h2, h3⟩ := hB
  intro hpd
  -- the list grows by a row that says nothing; what is proved without it holds with it
  have key : ∀ (fuel : Nat) (listed : Array Bool) (pd : List (Nat × (World → Prop))) (ρ : Env) (w : World), Any P ops K fuel listed pd ρ w → Any P ops K fuel listed ((i, fun _ => True) :: pd) ρ w := by
    intro fuel
    induction fuel with
    | zero => exact fun _ _ _ _ h => h
    | succ fuel ih =>
      intro listed pd ρ w h
      refine ⟨h.1, fun j hj o ho => (h.2 j hj o ho).mono fun ρ' w' ⟨g1, g2⟩ => ⟨fun p hp hpa => ?_, ?_⟩⟩
      · rcases List.mem_cons.1 hp with rfl | hp
        · trivial
        · exact g1 p hp hpa
      · refine Any.weaken _ _ _ _ _ _ (fun p hp => ?_) (ih _ _ _ _ g2)
        rw [List.mem_filter] at hp
        rcases List.mem_cons.1 hp.1 with rfl | hp'
        · exact List.mem_cons_self
        · exact List.mem_cons_of_mem _ (List.mem_filter.2 ⟨hp', hp.2⟩)
  exact Any.first (S := fun _ => True) hi (fun j o cs b ho => Region.noSelect_spec h1 j o cs b ho) fuel listed pd ρ w (Region.free_spec hi h3) (by simpa using h2) (fun w _ => hy w) trivial hpd (key _ _ _ _ _ (h hpd))

/-- All that are ready, one of them at a time. -/
theorem Gm.noisy {P : Program} {ops : Array Oper} {K : Env → World → Prop} {fuel : Nat} {listed : Array Bool} {pd : List (Nat × (World → Prop))} {ρ : Env} {w : World}
    (js : List Nat) (hr : Region.ready .any ops listed = js) (hne : js.isEmpty = false)
    (h : ∀ j ∈ js, ∀ o, ops[j]? = some o → St P ops o (fun ρ' w' => (∀ p ∈ pd.filter (fun p => !aft o p.1), p.2 w') ∧ Gm P ops K fuel (listed.setIfInBounds j true) (pd.filter fun p => !aft o p.1) ρ' w') ρ w) :
    Gm P ops K (fuel + 1) listed pd ρ w := by
  intro _
  subst hr
  refine ⟨fun h0 => (by rw [h0] at hne; cases hne), fun j hj o ho => (h j hj o ho).mono fun ρ' w' ⟨h1, h2⟩ => ⟨fun p hp hpa => h1 p (List.mem_filter.2 ⟨hp, by simp [hpa]⟩), h2 h1⟩⟩

theorem Gm.one {P : Program} {ops : Array Oper} {K : Env → World → Prop} {fuel : Nat} {listed : Array Bool} {pd : List (Nat × (World → Prop))} {ρ : Env} {w : World}
    (j : Nat) {o : Oper} (hj : ops[j]? = some o) (hr : Region.ready .any ops listed = [j])
    (h : St P ops o (fun ρ' w' => (∀ p ∈ pd.filter (fun p => !aft o p.1), p.2 w') ∧ Gm P ops K fuel (listed.setIfInBounds j true) (pd.filter fun p => !aft o p.1) ρ' w') ρ w) :
    Gm P ops K (fuel + 1) listed pd ρ w := by
  refine Gm.noisy [j] hr rfl fun j' hj' o' ho' => ?_
  rw [List.mem_singleton] at hj'
  subst hj'
  obtain rfl : o = o' := by simpa [hj] using ho'
  exact h

theorem Gm.end {P : Program} {ops : Array Oper} {K : Env → World → Prop} {listed : Array Bool} {pd : List (Nat × (World → Prop))} {ρ : Env} {w : World}
    (hr : Region.ready .any ops listed = []) (h : K ρ w) : Gm P ops K 0 listed pd ρ w := fun _ => ⟨hr, h⟩
end Go.Sh
