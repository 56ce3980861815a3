/- What a call may have changed; ranges over functions. No condition. -/
import Derived.Test.YthepabefikobpaaMon
import Derived.Below
namespace Go.Sh
open Go

/-- Nothing has changed but what p names; blocks may be new. -/
structure Chg (p : Nat → Prop) (w w' : World) : Prop where
  env : w'.os = w.os ∧ w'.tape = w.tape ∧ w'.output = w.output
  size : w.heap.size ≤ w'.heap.size
  heap : ∀ b, b < w.heap.size → ¬ p b → w'.heap[b]? = w.heap[b]?
abbrev Grow (w w' : World) : Prop := Chg (fun _ => False) w w'
theorem Chg.refl (p : Nat → Prop) (w : World) : Chg p w w := ⟨⟨rfl, rfl, rfl⟩, Nat.le_refl _, fun _ _ _ => rfl⟩
theorem Chg.mono {p q : Nat → Prop} {w w' : World} (h : Chg p w w') (hp : ∀ b, b < w.heap.size → p b → q b) : Chg q w w' := ⟨h.env, h.size, fun b hb hq => h.heap b hb fun x => hq (hp b hb x)⟩
theorem Chg.trans {p q : Nat → Prop} {w w1 w2 : World} (h : Chg p w w1) (h' : Chg q w1 w2) (hq : ∀ b, b < w.heap.size → q b → p b) : Chg p w w2 :=
  ⟨⟨h'.env.1.trans h.env.1, h'.env.2.1.trans h.env.2.1, h'.env.2.2.trans h.env.2.2⟩, Nat.le_trans h.size h'.size, fun b hb hn => (h'.heap b (Nat.lt_of_lt_of_le hb h.size) fun x => hn (hq b hb x)).trans (h.heap b hb hn)⟩
theorem Grow.trans {w w1 w2 : World} (h : Grow w w1) (h' : Grow w1 w2) : Grow w w2 := Chg.trans h h' fun _ _ x => x
theorem Grow.any {p : Nat → Prop} {w w' : World} (h : Grow w w') : Chg p w w' := h.mono fun _ _ x => x.elim
theorem Grow.drew (w : World) : Grow w w.drew := ⟨⟨rfl, rfl, rfl⟩, Nat.le_refl _, fun _ _ _ => rfl⟩
theorem Grow.below {w w' : World} (h : Grow w w') : Go.RowKit.Below w.heap.size w w' := ⟨h.env.1, h.env.2.1, h.env.2.2, h.size, fun k hk => h.heap k hk fun x => x⟩
/-- What was new when the call began may have changed. -/
theorem Chg.fresh {p : Nat → Prop} {w w1 w2 : World} (h : Grow w w1) (h' : Chg p w1 w2) (hp : ∀ b, p b → w.heap.size ≤ b) : Grow w w2 := Chg.trans h h' fun b hb x => (by have := hp b x; omega)
theorem Grow.alloc (w : World) (o : Obj) : Grow w (w.alloc o) := ⟨⟨rfl, rfl, rfl⟩, by simp, fun b hb _ => by
  show (w.heap.push o)[b]? = _
  rw [Array.getElem?_push, if_neg (Nat.ne_of_lt hb)]⟩

theorem Chg.putObj (w : World) (l : Nat) (o : Obj) : Chg (fun b => b = l) w (w.putObj l o) := ⟨⟨rfl, rfl, rfl⟩, by simp, fun b _ hb => World.putObj_heap_other hb⟩

/-- What lies behind the loop is asked for where its mark is taken. -/
def kD {γ : Type} (k : γ → World → Prop) (D : Nat) (w3 : World) : γ → World → Prop := fun r w4 => (∃ p, Chg p w3 w4 ∧ ¬ p D) ∧ ∀ w5, Chg (fun b => b = D) w4 w5 → w5.heap.size = w4.heap.size → k r w5
/-- A range over a function. -/
def M.range {α γ : Type} (P : Program) (fv : Value) (e : α → List Value) (body : α → M (Option Nat)) (f : Option Nat → M γ) : M γ := fun w k =>
  ∃ gf lb, fv = .func (.func gf) #[] lb ∧ (∀ as w, (callFunc gf as).run P w = .ok (.enter gf as) w) ∧
  ∀ (yv : Value) (l D : Nat) (Rdy : Option Nat → World → Prop) (w1 : World),
    D = w.heap.size → l = w.heap.size + 1 → Grow w w1 → w1.heap.size = w.heap.size + 2 →
    (∀ j p W W', Rdy j W → Chg p W W' → ¬ p l → Rdy j W') → Rdy none w1 →
    (∀ x W (R : Value → World → Prop), Rdy none W →
        (∀ W1, Chg (fun b => b = l) W W1 → W1.heap.size = W.heap.size → body x W1 fun j W2 => (∃ p, Chg p W1 W2 ∧ ¬ p l) ∧ ∀ W3, Chg (fun b => b = l) W2 W3 → W3.heap.size = W2.heap.size → Rdy j W3 → R (.bool j.isNone) W3) →
        Inv P yv (e x) W R) →
    Calls P gf (#[yv] ++ lb) w1 fun ev w2 => (∃ v, ev = .returned v) ∧ (∃ p, Chg p w1 w2 ∧ ¬ p D) ∧ ∃ j, Rdy j w2 ∧
      ∀ w3, Chg (fun b => b = l) w2 w3 → w3.heap.size = w2.heap.size → f j w3 (kD k D w3)

def Rt (Q : Exit → Env → World → Prop) (D : Nat) : Exit → Env → World → Prop
  | .ret, ρ, w => w.heap[D]? = some (.deferred (some [])) ∧ Q .ret ρ (w.putObj D (.deferred none))
  | _, _, _ => False
def Bq (id : Nat) (C : Option Nat → World → Prop) : Exit → Env → World → Prop
  | .normal, _, w => C none w
  | .exit i, _, w => i = id ∧ C (some id) w
  | _, _, _ => False
def params (ρ : Env) : List (Tmp × Value) → Env
  | [] => ρ
  | (t, v) :: l => params (upd ρ t v) l
section
variable {P : Program} {G : Fm} {n : Nat} {Q : Exit → Env → World → Prop} {ρ : Env} {w : World} {γ α : Type} {k : γ → World → Prop}
theorem Rt.mk {D : Nat} {w3 : World} {r : γ} (hD : w3.heap[D]? = some (.deferred (some []))) (h : kD k D w3 r w) (hq : ∀ w, k r w → Q .ret ρ w) : Rt Q D .ret ρ w := by
  obtain ⟨⟨p, hp, hn⟩, h⟩ := h
  exact ⟨(hp.heap D (Array.getElem?_eq_some_iff.1 hD).1 hn).trans hD, hq _ (h _ (Chg.putObj w D _) (by simp))⟩
theorem rep_params {ds : List Deferred} : ∀ (l : List (Tmp × Value)) (tmps : Array Value) (ρ : Env), (∀ p ∈ l, p.1 < n) → Rep n ds { tmps := tmps, defers := ds } ρ → Rep n ds { tmps := l.foldl (fun t p => t.setIfInBounds p.1 p.2) tmps, defers := ds } (params ρ l)
  | [], _, _, _, h => h
  | (t, v) :: l, tmps, ρ, hl, h => by
    refine rep_params l _ _ (fun p hp => hl p (List.mem_cons_of_mem _ hp)) ?_
    have := h.put (some t) v fun u hu => by cases hu; exact hl _ List.mem_cons_self
    exact this
def RG (G : Fm) (P : Program) (n id : Nat) (g : Operand) (ps : Array Tmp) (asg body T : Code) (Q : Exit → Env → World → Prop) (ρ : Env) (w : World) : Prop :=
  okC n (.block id (.rangeFunc g ps asg body)) = true → okC n T = true → ∀ a, Rep n G.ds a ρ → (Code.block id (.rangeFunc g ps asg body)).wpIn (Fw G.ro) 0 P (Exit.then (fun a w => T.wpIn (Fw G.ro) 0 P (Po G n Q) a w) (Po G n Q)) a w
theorem Dw.range {x T asg body : Code} {id : Nat} {g : Operand} {ps : Array Tmp} (h : Dw G P n x (Th (fun ρ w => RG G P n id g ps asg body T Q ρ w) Q) ρ w) : Dw G P n (.seq (.seq x (.block id (.rangeFunc g ps asg body))) T) Q ρ w := by
  intro ok a ha
  rw [show okC n (.seq (.seq x (.block id (.rangeFunc g ps asg body))) T) = ((okC n x && okC n (.block id (.rangeFunc g ps asg body))) && okC n T) from rfl, Bool.and_eq_true, Bool.and_eq_true] at ok
  refine wpIn_seq (wpIn_seq (wpIn_mono (h ok.1.1 a ha) ?_))
  intro e a' w' hp
  cases e
  case normal => obtain ⟨ρ', r, q⟩ := hp.get (by simp); exact q ok.1.2 ok.2 a' r
  all_goals exact hp.mono fun _ _ q => q
theorem RG.of {id : Nat} {g : Operand} {ps : Array Tmp} {asg body T : Code} {fv : Value} {e : α → List Value} {bM : α → M (Option Nat)} {f : Option Nat → M γ} (h : M.range P fv e bM f w k) (hro : G.ro = none) (hmr : G.mr = true) (hg : ev ρ g = fv) (hps : ∀ x, (e x).length = ps.size)
    (hb : ∀ (l : Nat) (x : α) (W : World) (C : World → Option Nat → World → Prop), (∀ W1, Chg (fun b => b = l) W W1 → W1.heap.size = W.heap.size → bM x W1 (C W1)) →
      Dw ⟨some l, [], false⟩ P n asg (Th (fun ρ1 w1 => w1 = W ∧ ∀ W1, Chg (fun b => b = l) W W1 → W1.heap.size = W.heap.size → Dw ⟨some l, [], false⟩ P n body (Bq id (C W1)) ρ1 W1) (fun _ _ _ => False)) (params ρ (ps.toList.zip (e x))) W)
    (hT : ∀ (D : Nat) (w3 : World) (j : Option Nat), w3.heap[D]? = some (.deferred (some [])) → f j w3 (kD k D w3) → Dw ⟨none, markD D :: G.ds, false⟩ P n T (Rt Q D) ρ w3) : RG G P n id g ps asg body T Q ρ w := by
  intro ok1 ok2 a ha
  simp only [okC, Bool.and_eq_true, List.all_eq_true] at ok1
  obtain ⟨okp, oka, okb⟩ := ok1
  obtain ⟨gf, lb, rfl, eg, h⟩ := h
  refine wpIn_block (wpIn_rangeFunc ?_)
  intro fn _
  obtain ⟨rec, hrec⟩ : ∃ rec : LoopState → Option Code → Loop, rec = fun st pe => { state := st, pending := pe, fn, tmps := a.tmps, params := ps, assign := asg, body, defers := w.heap.size } := ⟨_, rfl⟩
  obtain ⟨w1, hw1⟩ : ∃ w1, (w.alloc (.deferred (some []))).alloc (.loop (rec .ready none)) = w1 := ⟨_, rfl⟩
  have hg1 : Grow w w1 := by rw [← hw1]; exact (Grow.alloc w _).trans (Grow.alloc _ _)
  have hs1 : w1.heap.size = w.heap.size + 2 := by rw [← hw1]; simp
  have hL1 : w1.heap[w.heap.size + 1]? = some (.loop (rec .ready none)) := by
    rw [← hw1]; have := World.alloc_heap_new (w.alloc (.deferred (some []))) (.loop (rec .ready none)); rwa [World.size_alloc] at this
  have hK1 : w1.heap[w.heap.size]? = some (.deferred (some [])) := by
    rw [← hw1]; exact ((Grow.alloc _ _).heap _ (by simp) (fun x => x)).trans (World.alloc_heap_new w _)
  have hr0 : (Fw G.ro).round = none := hro
  have hF : Fw G.ro = Fw none := by rw [hro]
  refine ⟨w.heap.size + 1, [markD w.heap.size], w1, { target := .fn (.func gf) lb, args := #[.func (.yield (w.heap.size + 1)) #[] #[]] }, w1, gf,
    #[.func (.yield (w.heap.size + 1)) #[] #[]] ++ lb, w1, ?_, ?_, fun _ _ => trivial, ?_, fun h => Fw.deep h, ?_⟩
  · rw [hr0, ← hw1, hrec]; exact run_enterLoop_outer _ _ _ _ _
  · have hgv : a.eval g = .func (.func gf) #[] lb := by rw [ha.eval]; exact hg
    simp only [resolve, hgv]
    simp [Deferred.ofValue, Act.eval, Sem.run_bind, Result.andThen, Sem.run_pure, go_sem]
  · simp [invoke, go_sem, eg]
  refine CallsIn.mono (calls_fw (h (.func (.yield (w.heap.size + 1)) #[] #[]) (w.heap.size + 1) w.heap.size
    (fun j W => (∀ i, j = some i → i = id) ∧ W.heap[w.heap.size + 1]? = some (.loop (rec (if j.isNone then .ready else .done) (j.map .exit)))) w1 rfl rfl hg1 hs1 ?_ ⟨(fun _ h => by cases h), hL1⟩ ?_)) ?_
  · rintro j p W W' ⟨hi, hl⟩ hc hp
    exact ⟨hi, (hc.heap _ (Array.getElem?_eq_some_iff.1 hl).1 hp).trans hl⟩
  · intro x W R hl hbody
    have hl : W.heap[w.heap.size + 1]? = some (.loop (rec .ready none)) := hl.2
    have hy := run_yield (P := P) (args := (e x).toArray) hl (by rw [hrec]; simpa using hps x)
    rw [hrec] at hy
    refine .inr ⟨w.heap.size + 1, rfl, fn, _, asg, body, hy, RoundIn.un (ro := none) (m := 0) (roundIn_of_wpIn trivial ?_)⟩
    have hrep : Rep n [] { tmps := (ps.toList.zip (e x)).foldl (fun t p => t.setIfInBounds p.1 p.2) a.tmps, defers := [] } (params ρ (ps.toList.zip (e x))) :=
      rep_params (ds := []) _ _ _ (fun p hp => by
        have := okp p.1 (List.of_mem_zip hp).1
        simpa using this) ⟨ha.size, rfl, ha.get⟩
    have hfold : (ps.zip (e x).toArray).foldl (fun tmps (t, a) => tmps.setIfInBounds t a) a.tmps = (ps.toList.zip (e x)).foldl (fun t p => t.setIfInBounds p.1 p.2) a.tmps := by
      rw [← Array.foldl_toList, Array.toList_zip]
    have hd := hb (w.heap.size + 1) x W _ hbody oka _ hrep
    rw [hfold]
    refine wpIn_mono hd ?_
    intro ee a1 W1 hp
    cases ee
    case normal =>
      obtain ⟨ρ1, r1, rfl, q⟩ := hp.get (by simp)
      refine ⟨_, run_beginRound hl (by rw [hrec]), ?_⟩
      have hlt : w.heap.size + 1 < W1.heap.size := (Array.getElem?_eq_some_iff.1 hl).1
      have hl2 : (W1.putObj (w.heap.size + 1) (.loop { rec .ready none with state := .busy })).heap[w.heap.size + 1]? = some (.loop { rec .ready none with state := .busy }) := World.putObj_heap_same hlt
      refine wpIn_mono (q _ (Chg.putObj W1 _ _) (by simp) okb a1 r1) ?_
      intro e3 a3 W3 hp3
      have fin : ∀ (j : Option Nat), (∀ i, j = some i → i = id) → ((∃ p, Chg p (W1.putObj (w.heap.size + 1) (.loop { rec .ready none with state := .busy })) W3 ∧ ¬ p (w.heap.size + 1)) ∧ ∀ W4, Chg (fun b => b = w.heap.size + 1) W3 W4 → W4.heap.size = W3.heap.size →
          ((∀ i, j = some i → i = id) ∧ W4.heap[w.heap.size + 1]? = some (.loop (rec (if j.isNone then .ready else .done) (j.map .exit)))) → R (.bool j.isNone) W4) →
          ∃ v w', (Instr.endRound (w.heap.size + 1) (j.map .exit)).run P W3 = .ok v w' ∧ ∃ u, Ending.returned v = .returned u ∧ R u w' := by
        rintro j hji ⟨⟨p, hp, hn⟩, hR⟩
        have hl3 := (hp.heap _ (Array.getElem?_eq_some_iff.1 hl2).1 hn).trans hl2
        have := run_endRound (P := P) (j.map Code.exit) hl3
        refine ⟨_, _, this, _, rfl, ?_⟩
        have hj : (j.map Code.exit).isNone = j.isNone := by cases j <;> rfl
        rw [hj]
        refine hR _ (Chg.putObj W3 _ _) (by simp) ⟨hji, ?_⟩
        rw [World.putObj_heap_same (Array.getElem?_eq_some_iff.1 hl3).1, hrec]
      cases e3
      case normal => obtain ⟨ρ3, _, q3⟩ := hp3.get (by simp); exact fin none (fun _ h => by cases h) q3
      case exit i => obtain ⟨ρ3, _, rfl, q3⟩ := hp3.get (by simp); exact fin (some i) (fun _ h => by cases h; rfl) q3
      case ret => obtain ⟨ρ3, ⟨_, q3⟩ | ⟨hm, _⟩⟩ := hp3; exact q3.elim; cases hm
      all_goals obtain ⟨ρ3, _, q3⟩ := hp3.get (by simp); exact q3.elim
    case ret => obtain ⟨ρ3, ⟨_, q3⟩ | ⟨hm, _⟩⟩ := hp; exact q3.elim; cases hm
    all_goals obtain ⟨ρ3, _, q3⟩ := hp.get (by simp); exact q3.elim
  · rintro _ w2 ⟨⟨v, rfl⟩, ⟨p, hp, hn⟩, j, hj, hk⟩
    obtain ⟨hji, hj⟩ := hj
    have hj : w2.heap[w.heap.size + 1]? = some (.loop (rec (if j.isNone then .ready else .done) (j.map .exit))) := hj
    have hD2 := (hp.heap _ (Array.getElem?_eq_some_iff.1 hK1).1 hn).trans hK1
    refine ⟨_, _, run_endLoop (P := P) hj (by rw [hrec]; cases j <;> simp), ?_⟩
    have hc3 := Chg.putObj w2 (w.heap.size + 1) (.loop { rec (if j.isNone then .ready else .done) (j.map .exit) with state := .exhausted })
    generalize hw3 : w2.putObj (w.heap.size + 1) (.loop { rec (if j.isNone then .ready else .done) (j.map .exit) with state := .exhausted }) = w3 at hc3
    have hs3 : w3.heap.size = w2.heap.size := by rw [← hw3]; simp
    have hD3 : w3.heap[w.heap.size]? = some (.deferred (some [])) := (hc3.heap _ (Array.getElem?_eq_some_iff.1 hD2).1 (by omega)).trans hD2
    have hrepT : Rep n (markD w.heap.size :: G.ds) { a with defers := [markD w.heap.size] ++ a.defers } ρ := ⟨ha.size, by simp [ha.defers], ha.get⟩
    have hTw := hT w.heap.size w3 j hD3 (hk w3 hc3 hs3) ok2 _ hrepT
    have hTw2 : T.wpIn (Fw G.ro) 0 P (Po G n Q) { a with defers := [markD w.heap.size] ++ a.defers } w3 := by
      rw [hF]
      refine wpIn_mono hTw ?_
      rintro e4 a4 w4 ⟨ρ4, ⟨r4, q4⟩ | ⟨hm, _⟩⟩
      · cases e4 <;> first
          | exact q4.elim
          | exact ⟨ρ4, .inr ⟨hmr, rfl, _, r4, q4.1, q4.2⟩⟩
      · cases hm
    cases j with
    | none =>
      rw [hrec]
      exact hTw2
    | some i =>
      obtain rfl := hji i rfl
      rw [hrec]
      exact wpIn_exit (by simp only [Exit.inBlock, if_true]; exact hTw2)
end
end Go.Sh
namespace Go.Sh
open Go
/-! ### A region whose order is left open -/
def regOps (id : Nat) : Code → List Oper
  | .region i ops _ => if Nat.beq i id then ops.toList else []
  | .seq a b => regOps id a ++ regOps id b
  | .cond _ a b => regOps id a ++ regOps id b
  | .block _ b => regOps id b
  | .loop b => regOps id b
  | .scope b => regOps id b
  | _ => []
def M.deep {γ σ : Type} (P : Program) (ops : List Oper) (pre : Env → Prop) (post : Env → Env → σ → Prop) (f : σ → M γ) : M γ := fun w k =>
  ∀ ρ, pre ρ → Gm P ops.toArray (fun ρ' w' => ∃ s, post ρ ρ' s ∧ f s w' k) ops.length (Array.replicate ops.length false) [] ρ w.drew
theorem Any.mono {P : Program} {ops : Array Oper} {K K' : Env → World → Prop} (hk : ∀ ρ w, K ρ w → K' ρ w) : ∀ (fuel : Nat) (listed : Array Bool) (pd : List (Nat × (World → Prop))) (ρ : Env) (w : World),
    Any P ops K fuel listed pd ρ w → Any P ops K' fuel listed pd ρ w
  | 0, _, _, _, _, h => ⟨h.1, hk _ _ h.2⟩
  | fuel + 1, _, _, _, _, h => ⟨fun h0 => hk _ _ (h.1 h0), fun j hj o ho => (h.2 j hj o ho).mono fun _ _ ⟨h1, h2⟩ => ⟨h1, Any.mono hk fuel _ _ _ _ h2⟩⟩
theorem Gm.mono {P : Program} {ops : Array Oper} {K K' : Env → World → Prop} (hk : ∀ ρ w, K ρ w → K' ρ w) {fuel : Nat} {listed : Array Bool} {pd : List (Nat × (World → Prop))} {ρ : Env} {w : World}
    (h : Gm P ops K fuel listed pd ρ w) : Gm P ops K' fuel listed pd ρ w := fun hp => Any.mono hk _ _ _ _ _ (h hp)
theorem Dw.deep {γ σ : Type} {P : Program} {G : Fm} {n id : Nat} {ops : List Oper} {Q : Exit → Env → World → Prop} {ρ : Env} {w : World} {k : γ → World → Prop} {pre : Env → Prop} {fr : σ → Env → Env → Env} {f : σ → M γ}
    (hm : P.follows .mixedOrders = true) (h : M.deep P ops pre (fun ρ ρ2 s => ∃ j, ρ2 = fr s j ρ) f w k) (hp : pre ρ) (hK : ∀ s j w, f s w k → Q .normal (fr s j ρ) w) : Dw G P n (.region id ops.toArray true) Q ρ w :=
  Dw.game hm (Gm.mono (fun ρ' w' ⟨s, ⟨j, hj⟩, hf⟩ => hj ▸ hK s j w' hf) (h ρ hp))
end Go.Sh
