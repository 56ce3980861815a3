/- The monad of the shallow texts, and what each operation of the deep text needs of it. No condition. -/
import Derived.Test.YthepabefikobpaaCore
import Derived.Laws.Append
namespace Go.Sh
open Go

abbrev M (γ : Type) := World → (γ → World → Prop) → Prop

/-- A slice's three words. -/
structure Sl where
  addr : Option Addr
  len : Nat
  cap : Nat
  deriving DecidableEq, Inhabited
@[reducible] def Sl.val (s : Sl) : Value := .slice s.addr s.len s.cap
@[reducible] def Sl.nil : Sl := ⟨none, 0, 0⟩
@[reducible] def vI (n : Int) : Value := .int .i64 n
@[reducible] def vU8 (n : Int) : Value := .int .u8 n
@[reducible] def vP (a : Option Addr) : Value := .pointer a
@[reducible] def vA (a : Addr) : Value := .pointer (some a)
@[reducible] def wI (n : Int) : Int := IntKind.i64.wrap n
@[reducible] def vUnit : Unit → Value := fun _ => .tuple #[]

def Cells (w : World) (a : Addr) (cs : List Value) : Prop := ∀ j v, cs[j]? = some v → w.cell? (a.add j) = some v

section
variable {α γ : Type}
def M.ret (r : γ) : M γ := fun w k => k r w
def M.ite (b : Bool) (f g : M γ) : M γ := fun w k => (b = true → f w k) ∧ (b = false → g w k)
def M.ld (e : α → Value) (a : Addr) (f : α → M γ) : M γ := fun w k => ∃ x, w.cell? a = some (e x) ∧ f x w k
def M.ldA (e : α → List Value) (a : Addr) (f : α → M γ) : M γ := fun w k => ∃ x, Cells w a (e x) ∧ f x w k
def M.st (a : Addr) (v : Value) (f : M γ) : M γ := fun w k => (∃ v0, w.cell? a = some v0) ∧ w.frozen? a = false ∧ f (w.setCell a v) k
def setCells (w : World) (a : Addr) : List Value → Nat → World
  | [], _ => w
  | v :: vs, i => setCells (w.setCell (a.add i) v) a vs (i + 1)
def M.stA (a : Addr) (cs : List Value) (f : M γ) : M γ := fun w k => (∀ j, j < cs.length → (∃ v0, w.cell? (a.add j) = some v0) ∧ w.frozen? (a.add j) = false) ∧ f (setCells w a cs 0) k
def M.new (T : TypeId) (cs : List Value) (f : Addr → M γ) : M γ := fun w k => f ⟨w.heap.size, 0, none⟩ (w.alloc (.cells cs.toArray T)) k
def M.ix (s : Sl) (i : Int) (sz : Nat) (f : Addr → M γ) : M γ := fun w k => ∃ a b, s.addr = some b ∧ (0 ≤ i ∧ i < s.len) ∧ a = b.add (i.toNat * sz) ∧ f a w k
def M.ixA (a : Addr) (len : Nat) (i : Int) (sz : Nat) (f : Addr → M γ) : M γ := fun w k => ∃ b, (0 ≤ i ∧ i < len) ∧ b = a.add (i.toNat * sz) ∧ f b w k
def M.nn (p : Option Addr) (f : Addr → M γ) : M γ := fun w k => ∃ a, p = some a ∧ f a w k
def M.asm (p : Prop) (f : M γ) : M γ := fun w k => p ∧ f w k
/-- Reslicing: 's[lo:hi:mx]'. -/
def Sl.cut (s : Sl) (lo hi mx : Int) (sz : Nat) : Sl :=
  ⟨if mx.toNat = lo.toNat then s.addr else s.addr.map (·.add (lo.toNat * sz)), hi.toNat - lo.toNat, mx.toNat - lo.toNat⟩
def M.cut (s : Sl) (lo hi mx : Int) (sz : Nat) (f : Sl → M γ) : M γ := fun w k => ∃ t, (0 ≤ lo ∧ lo ≤ hi ∧ hi ≤ mx ∧ mx ≤ s.cap) ∧ t = s.cut lo hi mx sz ∧ f t w k
/-- Whatever the model does. -/
def M.run (P : Program) (s : Sem Value) (e : α → Value) (f : α → M γ) : M γ := fun w k => ∃ x w', s.run P w = .ok (e x) w' ∧ f x w' k
def M.runU (P : Program) (s : Sem Unit) (f : M γ) : M γ := fun w k => ∃ w', s.run P w = .ok () w' ∧ f w' k
/-- The same, the world as it was, and in each world that meets S. -/
def M.look (P : Program) (s : Sem Value) (e : α → Value) (f : α → M γ) : M γ := fun w k => ∃ x, s.run P w = .ok (e x) w ∧ f x w k
def M.call (P : Program) (g : FuncId) (args : List Value) (e : α → Value) (f : α → M γ) : M γ := fun w k =>
  Calls P g args.toArray w fun x w' => ∃ r, x = .returned (e r) ∧ f r w' k
def Inv (P : Program) (fv : Value) (args : List Value) (w : World) (R : Value → World → Prop) : Prop :=
  (∃ g cap, fv = .func (.func g) #[] cap ∧ (∀ as w, (callFunc g as).run P w = .ok (.enter g as) w) ∧ Calls P g (args.toArray ++ cap) w fun e w' => ∃ v, e = .returned v ∧ R v w') ∨
  ∃ l, fv = .func (.yield l) #[] #[] ∧ YieldAt Fence.wide 0 P l args.toArray w fun e w' => ∃ v, e = .returned v ∧ R v w'
def M.callv (P : Program) (fv : Value) (args : List Value) (e : α → Value) (f : α → M γ) : M γ := fun w k => Inv P fv args w fun v w' => ∃ r, v = e r ∧ f r w' k
def M.loop {σ : Type} (body : (σ → M γ) → σ → M γ) (s : σ) : M γ := fun w k =>
  ∃ (I : σ → World → Prop) (μ : σ → World → Nat), I s w ∧ ∀ s w, I s w → body (fun s' w' _ => I s' w' ∧ μ s' w' < μ s w) s w k
def M.join {σ : Type} (J : σ → M γ) (body : (σ → M γ) → M γ) : M γ := fun w k =>
  ∃ C : σ → World → Prop, body (fun s w' _ => C s w') w k ∧ ∀ s w', C s w' → J s w' k
def M.drew (f : M γ) : M γ := fun w k => f w.drew k
def M.chk (p : World → Prop) (f : M γ) : M γ := fun w k => p w ∧ f w k
def M.both (f g : M γ) : M γ := fun w k => f w k ∧ g w k
end

/-- What a function hands back. -/
def Ret {γ : Type} (e : γ → Value) (R : γ → World → Prop) : Ending → World → Prop := fun x w => ∃ r, x = .returned (e r) ∧ R r w

section
variable {P : Program} {all : Array Oper} {K : Env → World → Prop} {os : List Oper} {ρ : Env} {w : World}
variable {d : Option Tmp} {op : Op} {ty : TypeId} {pos : String} {af : Array Edge} {g : Option (Nat × Bool)} {v : Value}

theorem Dl.q (hy : YieldsE P all w ⟨d, op, ty, pos, af, g⟩ v ρ) (h : Dl P all K os (updO ρ d v) w) : Dl P all K (⟨d, op, ty, pos, af, g⟩ :: os) ρ w := YieldsE.St hy h
theorem Dl.n (h : St P all ⟨d, op, ty, pos, af, g⟩ (Dl P all K os) ρ w) : Dl P all K (⟨d, op, ty, pos, af, g⟩ :: os) ρ w := h
theorem Dl.nil (h : K ρ w) : Dl P all K [] ρ w := h

theorem wantG {all : Array Oper} {ρ : Env} {j : Nat} {want b : Bool} {t : Tmp} (ht : (all[j]?).bind (·.dst) = some t) (hv : ρ t = .bool b) (hb : b = want) : wantedG all (some (j, want)) ρ = true := by
  subst hb
  simp [wantedG, yieldedE, ht, hv]
theorem unwantG {all : Array Oper} {ρ : Env} {j : Nat} {want b : Bool} {t : Tmp} (ht : (all[j]?).bind (·.dst) = some t) (hv : ρ t = .bool b) (hb : b = !want) : wantedG all (some (j, want)) ρ = false := by
  subst hb
  cases want <;> simp [wantedG, yieldedE, ht, hv]
/-- Of an operation that is passed over itself. -/
theorem unwantU {all : Array Oper} {ρ : Env} {j : Nat} {want : Bool} {t : Tmp} (ht : (all[j]?).bind (·.dst) = some t) (hv : ρ t = undef) : wantedG all (some (j, want)) ρ = false := by
  simp [wantedG, yieldedE, ht, hv, undef]

/-- What every lemma on an operation that leaves the world alone comes to. -/
theorem Y.of (hg : wantedG all g ρ = true) (hr : (execOp (ev ρ) ⟨d, op, ty, pos, af, g⟩).run P w = .ok (.value v) w) : YieldsE P all w ⟨d, op, ty, pos, af, g⟩ v ρ := .inl ⟨hg, .inl hr⟩
theorem Y.skip (hg : wantedG all g ρ = false) : YieldsE P all w ⟨d, op, ty, pos, af, g⟩ undef ρ := .inr ⟨hg, rfl⟩

/-- It fills one cell. -/
def one1 : Value → Bool
  | .agg _ | .tuple _ => false
  | _ => true

variable {x y z : Operand} {T T' : TypeId} {k : IntKind} {a b : Int}

theorem Y.mv (hg : wantedG all g ρ = true) (hx : ev ρ x = v) : YieldsE P all w ⟨d, .move x, ty, pos, af, g⟩ v ρ := Y.of hg (by simp [execOp, hx])
theorem Y.asg (hg : wantedG all g ρ = true) (hx : ev ρ x = v) : YieldsE P all w ⟨d, .assign x, ty, pos, af, g⟩ v ρ := Y.of hg (by simp [execOp, hx])
theorem Y.pickT {b : Bool} (hg : wantedG all g ρ = true) (hc : ev ρ x = .bool b) (hb : b = true) (hv : ev ρ y = v) : YieldsE P all w ⟨d, .pick x y z, ty, pos, af, g⟩ v ρ := Y.of hg (by simp [execOp, hc, hb, hv, asBool])
theorem Y.pickF {b : Bool} (hg : wantedG all g ρ = true) (hc : ev ρ x = .bool b) (hb : b = false) (hv : ev ρ z = v) : YieldsE P all w ⟨d, .pick x y z, ty, pos, af, g⟩ v ρ := Y.of hg (by simp [execOp, hc, hb, hv, asBool])
theorem Y.pick {b : Bool} {u : Value} (hg : wantedG all g ρ = true) (hc : ev ρ x = .bool b) (hy : ev ρ y = v) (hz : ev ρ z = u) : YieldsE P all w ⟨d, .pick x y z, ty, pos, af, g⟩ (if b = true then v else u) ρ := Y.of hg (by simp [execOp, hc, hy, hz, asBool])
theorem Y.add (hg : wantedG all g ρ = true) (hx : ev ρ x = .int k a) (hy : ev ρ y = .int k b) : YieldsE P all w ⟨d, .binOp .add T x y T', ty, pos, af, g⟩ (.int k (k.wrap (a + b))) ρ := Y.of hg (by simp [execOp, hx, hy, binOp, eqGuard, Op.intArith])
theorem Y.sub (hg : wantedG all g ρ = true) (hx : ev ρ x = .int k a) (hy : ev ρ y = .int k b) : YieldsE P all w ⟨d, .binOp .sub T x y T', ty, pos, af, g⟩ (.int k (k.wrap (a - b))) ρ := Y.of hg (by simp [execOp, hx, hy, binOp, eqGuard, Op.intArith])
theorem Y.mul (hg : wantedG all g ρ = true) (hx : ev ρ x = .int k a) (hy : ev ρ y = .int k b) : YieldsE P all w ⟨d, .binOp .mul T x y T', ty, pos, af, g⟩ (.int k (k.wrap (a * b))) ρ := Y.of hg (by simp [execOp, hx, hy, binOp, eqGuard, Op.intArith])
theorem Y.quo (hg : wantedG all g ρ = true) (hx : ev ρ x = .int k a) (hy : ev ρ y = .int k b) (h0 : b ≠ 0) : YieldsE P all w ⟨d, .binOp .quo T x y T', ty, pos, af, g⟩ (.int k (k.wrap (a.tdiv b))) ρ := Y.of hg (by simp [execOp, hx, hy, binOp, eqGuard, Op.intDiv, h0])
theorem Y.rem (hg : wantedG all g ρ = true) (hx : ev ρ x = .int k a) (hy : ev ρ y = .int k b) (h0 : b ≠ 0) : YieldsE P all w ⟨d, .binOp .rem T x y T', ty, pos, af, g⟩ (.int k (a.tmod b)) ρ := Y.of hg (by simp [execOp, hx, hy, binOp, eqGuard, Op.intDiv, h0])
theorem Y.lss (hg : wantedG all g ρ = true) (hx : ev ρ x = .int k a) (hy : ev ρ y = .int k b) : YieldsE P all w ⟨d, .binOp .lss T x y T', ty, pos, af, g⟩ (.bool (decide (a < b))) ρ := Y.of hg (by simp [execOp, hx, hy, binOp, eqGuard, Op.intCmp])
theorem Y.leq (hg : wantedG all g ρ = true) (hx : ev ρ x = .int k a) (hy : ev ρ y = .int k b) : YieldsE P all w ⟨d, .binOp .leq T x y T', ty, pos, af, g⟩ (.bool (decide (a ≤ b))) ρ := Y.of hg (by simp [execOp, hx, hy, binOp, eqGuard, Op.intCmp])
theorem Y.gtr (hg : wantedG all g ρ = true) (hx : ev ρ x = .int k a) (hy : ev ρ y = .int k b) : YieldsE P all w ⟨d, .binOp .gtr T x y T', ty, pos, af, g⟩ (.bool (decide (b < a))) ρ := Y.of hg (by simp [execOp, hx, hy, binOp, eqGuard, Op.intCmp])
theorem Y.geq (hg : wantedG all g ρ = true) (hx : ev ρ x = .int k a) (hy : ev ρ y = .int k b) : YieldsE P all w ⟨d, .binOp .geq T x y T', ty, pos, af, g⟩ (.bool (decide (b ≤ a))) ρ := Y.of hg (by simp [execOp, hx, hy, binOp, eqGuard, Op.intCmp])
theorem Y.eqI (hg : wantedG all g ρ = true) (hx : ev ρ x = .int k a) (hy : ev ρ y = .int k b) : YieldsE P all w ⟨d, .binOp .eql T x y T', ty, pos, af, g⟩ (.bool (decide (a = b))) ρ := Y.of hg (by simp [execOp, hx, hy, binOp, eqGuard, Op.intCmp]; rfl)
theorem Y.neI (hg : wantedG all g ρ = true) (hx : ev ρ x = .int k a) (hy : ev ρ y = .int k b) : YieldsE P all w ⟨d, .binOp .neq T x y T', ty, pos, af, g⟩ (.bool (!decide (a = b))) ρ := Y.of hg (by simp [execOp, hx, hy, binOp, eqGuard, Op.intCmp]; rfl)
theorem Y.not {b : Bool} (hg : wantedG all g ρ = true) (hx : ev ρ x = .bool b) : YieldsE P all w ⟨d, .unOp .not T x, ty, pos, af, g⟩ (.bool !b) ρ := Y.of hg (by simp [execOp, hx, Op.unary])
theorem Y.neg (hg : wantedG all g ρ = true) (hx : ev ρ x = .int k a) : YieldsE P all w ⟨d, .unOp .neg T x, ty, pos, af, g⟩ (.int k (k.wrap (0 - a))) ρ := Y.of hg (by simp [execOp, hx, Op.unary, Op.intArith])
theorem Y.eqS {s t : ByteArray} (hg : wantedG all g ρ = true) (hx : ev ρ x = .string s) (hy : ev ρ y = .string t) : YieldsE P all w ⟨d, .binOp .eql T x y T', ty, pos, af, g⟩ (.bool (s.toList == t.toList)) ρ := Y.of hg (by simp [execOp, hx, hy, binOp, eqGuard, Op.stringOp])
theorem Y.neS {s t : ByteArray} (hg : wantedG all g ρ = true) (hx : ev ρ x = .string s) (hy : ev ρ y = .string t) : YieldsE P all w ⟨d, .binOp .neq T x y T', ty, pos, af, g⟩ (.bool (!(s.toList == t.toList))) ρ := Y.of hg (by simp [execOp, hx, hy, binOp, eqGuard, Op.stringOp])
theorem Y.ext {vs : List Value} {i : Nat} (hg : wantedG all g ρ = true) (hx : ev ρ x = .tuple vs.toArray) (hv : vs[i]? = some v) : YieldsE P all w ⟨d, .extract x i, ty, pos, af, g⟩ v ρ := Y.of hg (by simp [execOp, hx, Instr.extract, hv])
theorem Y.nn {p : Option Addr} {a : Addr} (hg : wantedG all g ρ = true) (hx : ev ρ x = .pointer p) (hp : p = some a) : YieldsE P all w ⟨d, .nilCheck x, ty, pos, af, g⟩ (vA a) ρ := Y.of hg (by simp [execOp, hx, hp, vA])
theorem Y.nnF {f : Fn} {cs : Array Value} (hg : wantedG all g ρ = true) (hx : ev ρ x = .func f #[] cs) (hf : ∀ n, f ≠ .method n) : YieldsE P all w ⟨d, .nilCheck x, ty, pos, af, g⟩ (.func f #[] cs) ρ := Y.of hg (by
  cases f <;> simp_all [execOp])
theorem Y.ld {a : Addr} (hg : wantedG all g ρ = true) (hT : ∀ w, (isAgg T).run P w = .ok false w) (hx : ev ρ x = .pointer (some a)) (hc : w.cell? a = some v) : YieldsE P all w ⟨d, .load T x, ty, pos, af, g⟩ v ρ := Y.of hg (by simp [execOp, hx, Instr.loadAt, Instr.sureAddr, loadVar, hT, hc])
theorem Y.ldA {a : Addr} {cs : List Value} {n : Nat} (hg : wantedG all g ρ = true) (hT : ∀ w, (isAgg T).run P w = .ok true w) (hn : ∀ w, (sizeOf T).run P w = .ok n w) (hl : cs.length = n) (hx : ev ρ x = .pointer (some a)) (hc : Cells w a cs) : YieldsE P all w ⟨d, .load T x, ty, pos, af, g⟩ (.agg cs.toArray) ρ := Y.of hg (by
  subst hl
  simp [execOp, hx, Instr.loadAt, Instr.sureAddr, loadVar, hT, hn, run_loadCells_list w a cs hc])
theorem Y.fa {a : Addr} {fs : Array Field} {f : Field} {i n : Nat} (off : Nat) (hg : wantedG all g ρ = true) (hT : ∀ w, (underlying T).run P w = .ok (.struct fs) w) (hf : fs[i]? = some f) (hn : ∀ w, (sizeOf f.type).run P w = .ok n w) (h0 : n ≠ 0) (hx : ev ρ x = .pointer (some a)) (ho : f.offset = off) :
    YieldsE P all w ⟨d, .fieldAddr T x i, ty, pos, af, g⟩ (vA (a.add off)) ρ := Y.of hg (by
  subst ho
  simp [execOp, hx, Instr.fieldAt, Instr.sureAddr, hT, hf, fieldPlace, hn, h0])
theorem Y.ix {s : Sl} {a c : Addr} {E n : Nat} {i : Int} (hg : wantedG all g ρ = true) (hT : ∀ w, (underlying T).run P w = .ok (.slice E) w) (hn : ∀ w, (sizeOf E).run P w = .ok n w) (hx : ev ρ x = s.val) (hy : ev ρ y = .int k i) (ha : s.addr = some a) (hi : 0 ≤ i ∧ i < s.len) (hc : c = a.add (i.toNat * n)) :
    YieldsE P all w ⟨d, .indexAddr T x y, ty, pos, af, g⟩ (vA c) ρ := Y.of hg (by
  subst hc
  obtain ⟨ad, l, c⟩ := s
  simp only at ha hi
  subst ha
  simp [execOp, hx, hy, Instr.indexAt, asIntOf, hT, hn, hi])
theorem Y.ixA {a c : Addr} {l E n : Nat} {i : Int} (hg : wantedG all g ρ = true) (hT : ∀ w, (underlying T).run P w = .ok (.array l E) w) (hn : ∀ w, (sizeOf E).run P w = .ok n w) (hx : ev ρ x = vA a) (hy : ev ρ y = .int k i) (hi : 0 ≤ i ∧ i < l) (hc : c = a.add (i.toNat * n)) :
    YieldsE P all w ⟨d, .indexAddr T x y, ty, pos, af, g⟩ (vA c) ρ := Y.of hg (by
  subst hc
  simp [execOp, hx, hy, Instr.indexAt, Instr.sureAddr, asIntOf, hT, hn, hi])
theorem Y.len {s : Sl} {E : Nat} (hg : wantedG all g ρ = true) (hT : ∀ w, (underlying T).run P w = .ok (.slice E) w) (hx : ev ρ x = s.val) : YieldsE P all w ⟨d, .call ⟨.builtin .len, #[x], #[T]⟩, ty, pos, af, g⟩ (vI s.len) ρ := Y.of hg (by
  simp [execOp, resolve, invoke, builtin, Builtin.len_, hx, hT, goInt])
theorem Y.lenS {s : ByteArray} (hg : wantedG all g ρ = true) (hT : ∀ w, (underlying T).run P w = .ok .string w) (hx : ev ρ x = .string s) : YieldsE P all w ⟨d, .call ⟨.builtin .len, #[x], #[T]⟩, ty, pos, af, g⟩ (vI s.size) ρ := Y.of hg (by
  simp [execOp, resolve, invoke, builtin, Builtin.len_, hx, hT, goInt])
theorem Y.mkF {f : FuncId} {cs : List Operand} {vs : List Value} (hg : wantedG all g ρ = true) (hv : cs.map (ev ρ) = vs) : YieldsE P all w ⟨d, .makeFunc (.func f) #[] cs.toArray, ty, pos, af, g⟩ (.func (.func f) #[] vs.toArray) ρ := Y.of hg (by
  simp [execOp, Instr.makeFunc, hv])
theorem Y.conv {k' : IntKind} {s : TypeDesc} (hg : wantedG all g ρ = true) (hS : ∀ w, (underlying T).run P w = .ok s w) (hT : ∀ w, (underlying T').run P w = .ok (.int k') w) (hx : ev ρ x = .int k a) : YieldsE P all w ⟨d, .convert T T' x, ty, pos, af, g⟩ (.int k' (k'.wrap a)) ρ := Y.of hg (by
  cases s <;> simp [execOp, convert, hS, hT, hx, Conv.intToInt])
theorem Y.mkI {s : TypeDesc} (hg : wantedG all g ρ = true) (hT : ∀ w, (underlying T).run P w = .ok s w) (hs : (match s with | .interface _ => true | _ => false) = false) (hx : ev ρ x = v) : YieldsE P all w ⟨d, .makeInterface T x, ty, pos, af, g⟩ (.iface T v) ρ := Y.of hg (by
  cases s <;> simp_all [execOp, Instr.makeInterface])
theorem Y.run {s : Sem Value} (hg : wantedG all g ρ = true) (he : execOp (ev ρ) ⟨d, op, ty, pos, af, g⟩ = (do pure (.value (← s)))) (hr : s.run P w = .ok v w) : YieldsE P all w ⟨d, op, ty, pos, af, g⟩ v ρ := Y.of hg (by
  rw [he]; simp [hr])

/-! ### Operations that turn the world -/
theorem N.of {s : Sem Value} {w' : World} (hg : wantedG all g ρ = true) (he : execOp (ev ρ) ⟨d, op, ty, pos, af, g⟩ = (do pure (.value (← s)))) (hr : s.run P w = .ok v w') (h : K (updO ρ d v) w') : St P all ⟨d, op, ty, pos, af, g⟩ K ρ w := by
  unfold St
  rw [if_pos hg, he]
  simp [hr, h]
theorem N.ofU {s : Sem Unit} {w' : World} (hg : wantedG all g ρ = true) (he : execOp (ev ρ) ⟨d, op, ty, pos, af, g⟩ = (do s; pure .skip)) (hr : s.run P w = .ok () w') (h : K (updO ρ d undef) w') : St P all ⟨d, op, ty, pos, af, g⟩ K ρ w := by
  unfold St
  rw [if_pos hg, he]
  simp [hr, h]
theorem N.call {f : FuncId} {l : List Operand} {ts : Array TypeId} {vs : List Value} {α : Type} {e : α → Value} {R : α → World → Prop} (hg : wantedG all g ρ = true) (hf : ∀ as w, (callFunc f as).run P w = .ok (.enter f as) w) (hv : l.map (ev ρ) = vs)
    (h : Calls P f vs.toArray w fun x w' => ∃ r, x = .returned (e r) ∧ R r w') (hk : ∀ r w', R r w' → K (updO ρ d (e r)) w') : St P all ⟨d, .call ⟨.value (.func f), l.toArray, ts⟩, ty, pos, af, g⟩ K ρ w := by
  unfold St
  rw [if_pos hg]
  have he : (execOp (ev ρ) ⟨d, .call ⟨.value (.func f), l.toArray, ts⟩, ty, pos, af, g⟩).run P w = .ok (.enter f vs.toArray) w := by
    simp [execOp, resolve, Deferred.ofValue, invoke, hf, hv]
  rw [he]
  refine Calls.mono h ?_
  rintro x w' ⟨r, rfl, h2⟩
  exact ⟨_, rfl, hk _ _ h2⟩
theorem N.callv {fv : Value} {l : List Operand} {ts : Array TypeId} {vs : List Value} {α : Type} {e : α → Value} {R : α → World → Prop} (hg : wantedG all g ρ = true) (hx : ev ρ x = fv) (hv : l.map (ev ρ) = vs)
    (h : Inv P fv vs w fun v w' => ∃ r, v = e r ∧ R r w') (hk : ∀ r w', R r w' → K (updO ρ d (e r)) w') : St P all ⟨d, .call ⟨.value x, l.toArray, ts⟩, ty, pos, af, g⟩ K ρ w := by
  rcases h with ⟨f, cap, rfl, hf, hc⟩ | ⟨l0, rfl, fn, tm, asg, bd, hy, hc⟩
  case inr =>
    unfold St
    rw [if_pos hg]
    have he : (execOp (ev ρ) ⟨d, .call ⟨.value x, l.toArray, ts⟩, ty, pos, af, g⟩).run P w = .ok (.round l0 fn tm asg bd) w := by
      simp [execOp, resolve, Deferred.ofValue, invoke, hv, hx, hy]
    rw [he]
    refine RoundIn.mono hc ?_
    rintro x w' ⟨v, rfl, r, rfl, h2⟩
    exact ⟨_, rfl, hk _ _ h2⟩
  unfold St
  rw [if_pos hg]
  have he : (execOp (ev ρ) ⟨d, .call ⟨.value x, l.toArray, ts⟩, ty, pos, af, g⟩).run P w = .ok (.enter f (vs.toArray ++ cap)) w := by
    simp [execOp, resolve, Deferred.ofValue, invoke, hf, hv, hx]
  rw [he]
  refine Calls.mono hc ?_
  rintro x w' ⟨v, rfl, r, rfl, h2⟩
  exact ⟨_, rfl, hk _ _ h2⟩
theorem N.new {z : Value} {cs : List Value} {γ : Type} {f : Addr → M γ} {kk : γ → World → Prop} (hg : wantedG all g ρ = true) (hz : ∀ w, (zeroValue T).run P w = .ok z w) (hM : M.new T cs f w kk) (hc : z.cells = cs.toArray) (h : ∀ a : Addr, a = ⟨w.heap.size, 0, none⟩ → f a (w.alloc (.cells cs.toArray T)) kk → K (updO ρ d (vA a)) (w.alloc (.cells cs.toArray T))) :
    St P all ⟨d, .alloc T, ty, pos, af, g⟩ K ρ w :=
  N.of (s := Instr.alloc T true (.tuple #[])) hg rfl (by simp [Instr.alloc, hz, newVar, newRow, hc]) (h _ rfl hM)
theorem N.box {cs : List Value} {γ : Type} {f : Addr → M γ} {kk : γ → World → Prop} (hg : wantedG all g ρ = true) (hM : M.new T cs f w kk) (hx : ev ρ x = v) (hc : v.cells = cs.toArray) (h : ∀ a : Addr, a = ⟨w.heap.size, 0, none⟩ → f a (w.alloc (.cells cs.toArray T)) kk → K (updO ρ d (vA a)) (w.alloc (.cells cs.toArray T))) :
    St P all ⟨d, .box T x, ty, pos, af, g⟩ K ρ w :=
  N.of (s := Instr.box T (ev ρ x)) hg rfl (by simp [Instr.box, newVar, newRow, hx, hc]) (h _ rfl hM)
theorem N.st {a : Addr} {n : Nat} {γ : Type} {f : M γ} {kk : γ → World → Prop} (hg : wantedG all g ρ = true) (hn : ∀ w, (sizeOf T).run P w = .ok n w) (hM : M.st a v f w kk) (hx : ev ρ x = .pointer (some a)) (hy : ev ρ y = v) (hc : v.cells = #[v]) (h1 : n = 1) (ho : one1 v = true)
    (h : f (w.setCell a v) kk → K (updO ρ d undef) (w.setCell a v)) : St P all ⟨d, .store T x y, ty, pos, af, g⟩ K ρ w := by
  subst h1
  obtain ⟨⟨v0, h2⟩, h3, h4⟩ := hM
  refine N.ofU (s := Instr.storeAt T (ev ρ x) (ev ρ y)) hg rfl ?_ (h h4)
  cases v <;> simp [one1] at ho <;> simp [Instr.storeAt, Instr.sureAddr, storeVar, hx, hy, hn, hc, storeCells, store, Sem.run, Addr.add, h2, h3]
theorem run_storeCells {P : Program} (a : Addr) : ∀ (vs : List Value) (i : Nat) (w : World), (∀ v ∈ vs, one1 v = true) → (∀ j, j < vs.length → (∃ v0, w.cell? (a.add (i + j)) = some v0) ∧ w.frozen? (a.add (i + j)) = false) →
    (storeCells a vs i).run P w = .ok () (setCells w a vs i)
  | [], _, _, _, _ => rfl
  | v :: vs, i, w, ho, h => by
    obtain ⟨⟨v0, h2⟩, h3⟩ := h 0 (by simp)
    simp only [Nat.add_zero] at h2 h3
    have ih := run_storeCells (P := P) a vs (i + 1) (w.setCell (a.add i) v) (fun u hu => ho u (List.mem_cons_of_mem _ hu)) (fun j hj => by
      obtain ⟨⟨u, g2⟩, g3⟩ := h (j + 1) (by simp; omega)
      rw [show i + (j + 1) = i + 1 + j by omega] at g2 g3
      refine ⟨?_, by rw [World.frozen?_setCell]; exact g3⟩
      by_cases he : a.add i = a.add (i + 1 + j)
      · exact ⟨v, by rw [← he]; exact World.cell?_setCell_same _ _ _ h2⟩
      · exact ⟨u, by rw [World.cell?_setCell_other _ _ _ _ he]; exact g2⟩)
    have hv := ho v List.mem_cons_self
    simp only [storeCells, setCells, Sem.run_bind]
    have h1 : (store (a.add i) v).run P w = .ok () (w.setCell (a.add i) v) := by
      cases v <;> simp [one1] at hv <;> simp [store, Sem.run, h2, h3]
    rw [h1]
    exact ih
theorem N.stA {a : Addr} {n : Nat} {cs : List Value} {γ : Type} {f : M γ} {kk : γ → World → Prop} (hg : wantedG all g ρ = true) (hn : ∀ w, (sizeOf T).run P w = .ok n w) (hM : M.stA a cs f w kk) (hx : ev ρ x = .pointer (some a)) (hy : ev ρ y = .agg cs.toArray) (hl : cs.length = n) (ho : ∀ v ∈ cs, one1 v = true)
    (h : f (setCells w a cs 0) kk → K (updO ρ d undef) (setCells w a cs 0)) : St P all ⟨d, .store T x y, ty, pos, af, g⟩ K ρ w := by
  subst hl
  obtain ⟨h2, h3⟩ := hM
  have := run_storeCells (P := P) a cs 0 w ho (by simpa using h2)
  refine N.ofU (s := Instr.storeAt T (ev ρ x) (ev ρ y)) hg rfl ?_ (h h3)
  simp [Instr.storeAt, Instr.sureAddr, storeVar, hx, hy, hn, Value.cells, this]
end

/-! ### The whole function -/
def envOf (args : List Value) : Env := fun t => args.getD t undef
theorem rep_start {n : Nat} (args : List Value) (h : args.length ≤ n) : Rep n [] { tmps := args.toArray ++ Array.replicate (n - args.length) undef, defers := [] } (envOf args) := by
  refine ⟨by simp; omega, rfl, fun t => ?_⟩
  simp only [envOf]
  by_cases h1 : t < args.length
  · simp [Array.getElem?_append_left, h1]
  · by_cases h2 : t < n
    · simp [Array.getElem?_append_right, h1, Nat.not_lt.1 h1]
      rw [Array.getElem?_eq_getElem (by simp; omega)]
      simp
    · simp [Array.getElem?_append_right, h1, Nat.not_lt.1 h1]
      rw [Array.getElem?_eq_none (by simp; omega)]
      rfl

/-- Where a function ends: its results are read. -/
def Fin (P : Program) (rs : Array ResultVar) (R : Ending → World → Prop) : Exit → Env → World → Prop
  | .normal, ρ, w | .ret, ρ, w => ∃ v, ∀ a : Act, (∀ t, a.tmps.getD t undef = ρ t) → (results { (default : Func) with results := rs } a.tmps).run P w = .ok v w ∧ R (.returned v) w
  | _, _, _ => False

theorem calls_of {P : Program} {f : FuncId} {fn : Func} {c : Code} {args : List Value} {w : World} {n : Nat} {rs : Array ResultVar} {R : Ending → World → Prop} (hf : P.funcs[f]? = some fn) (hb : fn.body = some c) (hn : fn.ntmps = n) (hr : fn.results = rs) (hok : okC n c = true) (hl : Nat.ble args.length n = true)
    (h : Dw ⟨none, [], true⟩ P n c (Fin P rs R) (envOf args) w) : Calls P f args.toArray w R := by
  subst hn hr
  have hl : args.length ≤ fn.ntmps := Nat.le_of_ble_eq_true hl
  refine calls_un (ro := none) (m := 0) (callsIn_of_wp_marks hf hb trivial ?_)
  have := h hok _ (rep_start args hl)
  simp only [List.size_toArray]
  refine wpIn_mono this ?_
  rintro e a' w' ⟨ρ', ⟨r, q⟩ | ⟨_, rfl, D, r, hD, q⟩⟩
  · have hd := r.defers
    cases e <;> simp only [Fin] at q <;> simp only [bodyPostM]
    case normal => obtain ⟨v, hv⟩ := q; rw [hd]; exact ⟨v, (hv a' r.get).1, (hv a' r.get).2⟩
    case ret => obtain ⟨v, hv⟩ := q; rw [hd]; exact ⟨v, (hv a' r.get).1, (hv a' r.get).2⟩
  · have hd := r.defers
    simp only [Fin] at q
    simp only [bodyPostM]
    obtain ⟨v, hv⟩ := q
    rw [hd]
    exact ⟨by simp, .inl ⟨D, _, rfl, run_takeDeferred hD, v, (hv a' r.get).1, (hv a' r.get).2⟩⟩

section
variable {P : Program} {R : Ending → World → Prop} {ρ : Env} {w : World}
theorem fin0 (h : R (.returned (.tuple #[])) w) : Fin P #[] R .ret ρ w := ⟨_, fun a _ => ⟨by simp [results], h⟩⟩
theorem fin1 {t : Tmp} {v : Value} (hv : ρ t = v) (h : R (.returned v) w) : Fin P #[.tmp t] R .ret ρ w := ⟨v, fun a ha => ⟨by
  have := ha t
  simp at this
  simp [results, this, hv], h⟩⟩
theorem fin2 {t s : Tmp} {v u : Value} (hv : ρ t = v) (hu : ρ s = u) (h : R (.returned (.tuple #[v, u])) w) : Fin P #[.tmp t, .tmp s] R .ret ρ w := ⟨_, fun a ha => ⟨by
  have h1 := ha t
  have h2 := ha s
  simp at h1 h2
  simp [results, h1, h2, hv, hu], h⟩⟩
theorem fin3 {t s r : Tmp} {v u z : Value} (hv : ρ t = v) (hu : ρ s = u) (hz : ρ r = z) (h : R (.returned (.tuple #[v, u, z])) w) : Fin P #[.tmp t, .tmp s, .tmp r] R .ret ρ w := ⟨_, fun a ha => ⟨by
  have h1 := ha t
  have h2 := ha s
  have h3 := ha r
  simp at h1 h2 h3
  simp [results, h1, h2, h3, hv, hu, hz], h⟩⟩
theorem finC {t : Tmp} {T n : Nat} {a : Addr} {cs : List Value} (hT : ∀ w, (isAgg T).run P w = .ok true w) (hn : ∀ w, (sizeOf T).run P w = .ok n w) (hl : cs.length = n) (ht : ρ t = vA a) (hc : Cells w a cs) (h : R (.returned (.agg cs.toArray)) w) : Fin P #[.cell t T] R .ret ρ w := ⟨.agg cs.toArray, fun b hb => ⟨by
  have h1 := hb t
  simp at h1
  subst hl
  simp [results, h1, ht, hT, hn, loadVar, asAddr, run_loadCells_list w a cs hc], h⟩⟩
theorem finC2 {t s : Tmp} {T n : Nat} {a : Addr} {cs : List Value} {u : Value} (hT : ∀ w, (isAgg T).run P w = .ok true w) (hn : ∀ w, (sizeOf T).run P w = .ok n w) (hl : cs.length = n) (ht : ρ t = vA a) (hu : ρ s = u) (hc : Cells w a cs) (h : R (.returned (.tuple #[.agg cs.toArray, u])) w) : Fin P #[.cell t T, .tmp s] R .ret ρ w := ⟨.tuple #[.agg cs.toArray, u], fun b hb => ⟨by
  have h1 := hb t
  have h2 := hb s
  simp at h1 h2
  subst hl
  simp [results, h1, h2, ht, hu, hT, hn, loadVar, asAddr, run_loadCells_list w a cs hc], h⟩⟩
end
end Go.Sh

namespace Go.Sh
open Go
/-! ### Loops, joins, and frames -/
def Off (S : Nat) (ρ0 ρ : Env) : Prop := ∀ t, Nat.testBit S t = false → ρ t = ρ0 t
theorem Off.refl (S : Nat) (ρ : Env) : Off S ρ ρ := fun _ _ => rfl
theorem Off.u {S d : Nat} {ρ0 ρ : Env} {v : Value} (hd : Nat.testBit S d = true) (h : Off S ρ0 ρ) : Off S ρ0 (upd ρ d v) := by
  intro t ht
  have : t ≠ d := by rintro rfl; rw [hd] at ht; cases ht
  simp only [upd, beq_ff this, cond_false]
  exact h t ht
theorem Off.m {S S' : Nat} {ρ0 ρ j : Env} (hs : S' &&& S = S') (h : Off S ρ0 ρ) : Off S ρ0 (mask ρ j S') := by
  intro t ht
  have : Nat.testBit S' t = false := by
    have := congrArg (fun n => Nat.testBit n t) hs
    simp only [Nat.testBit_and, ht, Bool.and_false] at this
    exact this.symm
  simp only [mask, this, cond_false]
  exact h t ht
theorem eqMask {S : Nat} {ρ0 ρ : Env} (h : Off S ρ0 ρ) : ρ = mask ρ0 ρ S := by
  funext t
  simp only [mask]
  cases ht : Nat.testBit S t
  · exact h t ht
  · rfl
theorem eqUpd {ρ ρ' : Env} {d : Nat} {v : Value} (hv : ρ d = v) (h : ρ = ρ') : ρ = upd ρ' d v := by
  subst h
  funext t
  simp only [upd]
  by_cases e : t = d
  · subst e; simp [hv]
  · simp [beq_ff e]

section
variable {P : Program} {G : Fm} {n : Nat} {Q : Exit → Env → World → Prop} {ρ : Env} {w : World} {γ σ : Type} {k : γ → World → Prop}
theorem Dw.loopM {c : Code} {body : (σ → M γ) → σ → M γ} {s0 : σ} (fr : σ → Env → Env → Env) (h : M.loop body s0 w k) (hf : ∃ j, ρ = fr s0 j ρ)
    (step : ∀ (I : σ → World → Prop) (μ : σ → World → Nat) (s : σ) (j : Env) (w : World), body (fun s' w' _ => I s' w' ∧ μ s' w' < μ s w) s w k →
      Dw G P n c (Th (fun ρ' w' => ∃ s', (I s' w' ∧ μ s' w' < μ s w) ∧ ∃ j, ρ' = fr s' j ρ) Q) (fr s j ρ) w) : Dw G P n (.loop c) Q ρ w := by
  obtain ⟨I, μ, h0, hr⟩ := h
  refine Dw.loop (fun s ρ' w' => I s w' ∧ ∃ j, ρ' = fr s j ρ) μ s0 ⟨h0, hf⟩ ?_
  rintro s _ w' ⟨hI, j, rfl⟩
  refine (step I μ s j w' (hr s w' hI)).mono ?_
  rintro e ρ' w'' hq
  cases e
  case normal => obtain ⟨s', ⟨h1, h2⟩, h3⟩ := hq; exact ⟨s', ⟨h1, h3⟩, h2⟩
  all_goals exact hq
theorem Dw.joinM {c c2 : Code} {J : σ → M γ} {body : (σ → M γ) → M γ} (fr : σ → Env → Env → Env) (h : M.join J body w k)
    (h1 : ∀ C : σ → World → Prop, body (fun s w' _ => C s w') w k → Dw G P n c (Th (fun ρ' w' => ∃ s, C s w' ∧ ∃ j, ρ' = fr s j ρ) Q) ρ w)
    (h2 : ∀ s j w', J s w' k → Dw G P n c2 Q (fr s j ρ) w') : Dw G P n (.seq c c2) Q ρ w := by
  obtain ⟨C, hb, hj⟩ := h
  refine Dw.seq ((h1 C hb).mono ?_)
  rintro e ρ' w' hq
  cases e
  case normal => obtain ⟨s, hs, j, rfl⟩ := hq; exact h2 s j w' (hj s w' hs)
  all_goals exact hq
theorem M.split {b : Bool} {f g : M γ} {G : Prop} (h : M.ite b f g w k) (ht : b = true → f w k → G) (hf : b = false → g w k → G) : G := by
  cases hb : b
  · exact hf hb (h.2 hb)
  · exact ht hb (h.1 hb)
theorem M.join_in {J : σ → M γ} {body : (σ → M γ) → M γ} (h : body (fun s w' _ => J s w' k) w k) : M.join J body w k := ⟨_, h, fun _ _ h => h⟩
theorem M.join_at {J : σ → M γ} {body : (σ → M γ) → M γ} (C : σ → World → Prop) (h : body (fun s w' _ => C s w') w k) (h2 : ∀ s w', C s w' → J s w' k) : M.join J body w k := ⟨C, h, h2⟩
theorem M.loop_at {body : (σ → M γ) → σ → M γ} {s : σ} (I : σ → World → Prop) (μ : σ → World → Nat) (h0 : I s w) (hr : ∀ s w, I s w → body (fun s' w' _ => I s' w' ∧ μ s' w' < μ s w) s w k) : M.loop body s w k := ⟨I, μ, h0, hr⟩
end

inductive PdF (o : Oper) : List (Nat × (World → Prop)) → List (Nat × (World → Prop)) → Prop
  | nil : PdF o [] []
  | keep {i : Nat} {S : World → Prop} {pd pd' : List (Nat × (World → Prop))} (h : aft o i = false) (r : PdF o pd pd') : PdF o ((i, S) :: pd) ((i, S) :: pd')
  | drop {i : Nat} {S : World → Prop} {pd pd' : List (Nat × (World → Prop))} (h : aft o i = true) (r : PdF o pd pd') : PdF o ((i, S) :: pd) pd'
theorem PdF.eq {o : Oper} {pd pd' : List (Nat × (World → Prop))} (h : PdF o pd pd') : pd.filter (fun p => !aft o p.1) = pd' := by
  induction h with
  | nil => rfl
  | keep h _ ih => simp [h, ih]
  | drop h _ ih => simp [h, ih]
theorem pdN {w : World} : ∀ p ∈ ([] : List (Nat × (World → Prop))), p.2 w := fun _ h => by cases h
theorem pdC {w : World} {i : Nat} {S : World → Prop} {pd : List (Nat × (World → Prop))} (h : S w) (r : ∀ p ∈ pd, p.2 w) : ∀ p ∈ (i, S) :: pd, p.2 w := by
  intro p hp
  rcases List.mem_cons.1 hp with rfl | hp
  · exact h
  · exact r p hp
theorem Gm.one' {P : Program} {ops : Array Oper} {K : Env → World → Prop} {fuel : Nat} {listed : Array Bool} {pd pd' : List (Nat × (World → Prop))} {ρ : Env} {w : World}
    (j : Nat) {o : Oper} (hj : ops[j]? = some o) (hr : Region.ready .any ops listed = [j]) (hp : PdF o pd pd')
    (h : St P ops o (fun ρ' w' => (∀ p ∈ pd', p.2 w') ∧ Gm P ops K fuel (listed.setIfInBounds j true) pd' ρ' w') ρ w) :
    Gm P ops K (fuel + 1) listed pd ρ w := by
  refine Gm.one j hj hr ?_
  rw [hp.eq]
  exact h
theorem Gm.two' {P : Program} {ops : Array Oper} {K : Env → World → Prop} {fuel : Nat} {listed : Array Bool} {pd pd1 pd2 : List (Nat × (World → Prop))} {ρ : Env} {w : World}
    (i j : Nat) {oi oj : Oper} (hi : ops[i]? = some oi) (hj : ops[j]? = some oj) (hr : Region.ready .any ops listed = [i, j]) (hp1 : PdF oi pd pd1) (hp2 : PdF oj pd pd2)
    (h1 : St P ops oi (fun ρ' w' => (∀ p ∈ pd1, p.2 w') ∧ Gm P ops K fuel (listed.setIfInBounds i true) pd1 ρ' w') ρ w)
    (h2 : St P ops oj (fun ρ' w' => (∀ p ∈ pd2, p.2 w') ∧ Gm P ops K fuel (listed.setIfInBounds j true) pd2 ρ' w') ρ w) :
    Gm P ops K (fuel + 1) listed pd ρ w := by
  refine Gm.noisy [i, j] hr rfl fun l hl o ho => ?_
  rcases List.mem_cons.1 hl with rfl | hl
  · obtain rfl : oi = o := by simpa [hi] using ho
    rw [hp1.eq]; exact h1
  · rw [List.mem_singleton] at hl
    subst hl
    obtain rfl : oj = o := by simpa [hj] using ho
    rw [hp2.eq]; exact h2
end Go.Sh
