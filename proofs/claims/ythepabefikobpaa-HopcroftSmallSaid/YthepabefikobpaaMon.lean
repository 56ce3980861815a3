/- The monad of the shallow texts, and what each operation of the deep text needs of it. No condition. -/
import Derived.Test.YthepabefikobpaaCore
import Derived.Laws.Append
namespace Go.Sh
open Go

abbrev M (γ : Type) := World → (γ → World → Prop) → Prop

/-- A slice's three words. -/
structure Sl where
  addr : Option Addr
  len : Nat
  cap : Nat
  deriving DecidableEq, Inhabited
@[reducible] def Sl.val (s : Sl) : Value := .slice s.addr s.len s.cap
@[reducible] def Sl.nil : Sl := ⟨none, 0, 0⟩
@[reducible] def vI (n : Int) : Value := .int .i64 n
@[reducible] def vU8 (n : Int) : Value := .int .u8 n
@[reducible] def vP (a : Option Addr) : Value := .pointer a
@[reducible] def vA (a : Addr) : Value := .pointer (some a)
@[reducible] def wI (n : Int) : Int := IntKind.i64.wrap n
@[reducible] def vUnit : Unit → Value := fun _ => .tuple #[]

def Cells (w : World) (a : Addr) (cs : List Value) : Prop := ∀ j v, cs[j]? = some v → w.cell? (a.add j) = some v

section
variable {α γ : Type}
def M.ret (r : γ) : M γ := fun w k => k r w
def M.ite (b : Bool) (f g : M γ) : M γ := fun w k => (b = true → f w k) ∧ (b = false → g w k)
def M.ld (e : α → Value) (a : Addr) (f : α → M γ) : M γ := fun w k => ∃ x, w.cell? a = some (e x) ∧ f x w k
def M.ldA (e : α → List Value) (a : Addr) (f : α → M γ) : M γ := fun w k => ∃ x, Cells w a (e x) ∧ f x w k
def M.st (a : Addr) (v : Value) (f : M γ) : M γ := fun w k => (∃ v0, w.cell? a = some v0) ∧ w.frozen? a = false ∧ f (w.setCell a v) k
def setCells (w : World) (a : Addr) : List Value → Nat → World
  | [], _ => w
  | v :: vs, i => setCells (w.setCell (a.add i) v) a vs (i + 1)
def M.stA (a : Addr) (cs : List Value) (f : M γ) : M γ := fun w k => (∀ j, j < cs.length → (∃ v0, w.cell? (a.add j) = some v0) ∧ w.frozen? (a.add j) = false) ∧ f (setCells w a cs 0) k
def M.new (T : TypeId) (cs : List Value) (f : Addr → M γ) : M γ := fun w k => f ⟨w.heap.size, 0, none⟩ (w.alloc (.cells cs.toArray T)) k
def M.ix (s : Sl) (i : Int) (sz : Nat) (f : Addr → M γ) : M γ := fun w k => ∃ a b, s.addr = some b ∧ (0 ≤ i ∧ i < s.len) ∧ a = b.add (i.toNat * sz) ∧ f a w k
def M.ixA (a : Addr) (len : Nat) (i : Int) (sz : Nat) (f : Addr → M γ) : M γ := fun w k => ∃ b, (0 ≤ i ∧ i < len) ∧ b = a.add (i.toNat * sz) ∧ f b w k
def M.nn (p : Option Addr) (f : Addr → M γ) : M γ := fun w k => ∃ a, p = some a ∧ f a w k
def M.asm (p : Prop) (f : M γ) : M γ := fun w k => p ∧ f w k
/-- Reslicing: 's[lo:hi:mx]'. -/
def Sl.cut (s : Sl) (lo hi mx : Int) (sz : Nat) : Sl :=
  ⟨if mx.toNat = lo.toNat then s.addr else s.addr.map (·.add (lo.toNat * sz)), hi.toNat - lo.toNat, mx.toNat - lo.toNat⟩
def M.cut (s : Sl) (lo hi mx : Int) (sz : Nat) (f : Sl → M γ) : M γ := fun w k => ∃ t, (0 ≤ lo ∧ lo ≤ hi ∧ hi ≤ mx ∧ mx ≤ s.cap) ∧ t = s.cut lo hi mx sz ∧ f t w k
/-- Whatever the model does. -/
def M.run (P : Program) (s : Sem Value) (e : α → Value) (f : α → M γ) : M γ := fun w k => ∃ x w', s.run P w = .ok (e x) w' ∧ f x w' k
def M.runU (P : Program) (s : Sem Unit) (f : M γ) : M γ := fun w k => ∃ w', s.run P w = .ok () w' ∧ f w' k
/-- The same, the world as it was, and in each world that meets S. -/
def M.look (P : Program) (s : Sem Value) (e : α → Value) (f : α → M γ) : M γ := fun w k => ∃ x, s.run P w = .ok (e x) w ∧ f x w k
def M.call (P : Program) (g : FuncId) (args : List Value) (e : α → Value) (f : α → M γ) : M γ := fun w k =>
  Calls P g args.toArray w fun x w' => ∃ r, x = .returned (e r) ∧ f r w' k
def Inv (P : Program) (fv : Value) (args : List Value) (w : World) (R : Value → World → Prop) : Prop :=
  (∃ g cap, fv = .func (.func g) #[] cap ∧ (∀ as w, (callFunc g as).run P w = .ok (.enter g as) w) ∧ Calls P g (args.toArray ++ cap) w fun e w' => ∃ v, e = .returned v ∧ R v w') ∨
  ∃ l, fv = .func (.yield l) #[] #[] ∧ YieldAt Fence.wide 0 P l args.toArray w fun e w' => ∃ v, e = .returned v ∧ R v w'
def M.callv (P : Program) (fv : Value) (args : List Value) (e : α → Value) (f : α → M γ) : M γ := fun w k => Inv P fv args w fun v w' => ∃ r, v = e r ∧ f r w' k
def M.loop {σ : Type} (body : (σ → M γ) → σ → M γ) (s : σ) : M γ := fun w k =>
  ∃ (I : σ → World → Prop) (μ : σ → World → Nat), I s w ∧ ∀ s w, I s w → body (fun s' w' _ => I s' w' ∧ μ s' w' < μ s w) s w k
def M.join {σ : Type} (J : σ → M γ) (body : (σ → M γ) → M γ) : M γ := fun w k =>
  ∃ C : σ → World → Prop, body (fun s w' _ => C s w') w k ∧ ∀ s w', C s w' → J s w' k
def M.drew (f : M γ) : M γ := fun w k => f w.drew k
def M.chk (p : World → Prop) (f : M γ) : M γ := fun w k => p w ∧ f w k
def M.both (f g : M γ) : M γ := fun w k => f w k ∧ g w k
end

/-- What a function hands back. -/
def Ret {γ : Type} (e : γ → Value) (R : γ → World → Prop) : Ending → World → Prop := fun x w => ∃ r, x = .returned (e r) ∧ R r w

section
variable {P : Program} {all : Array Oper} {K : Env → World → Prop} {os : List Oper} {ρ : Env} {w : World}
variable {d : Option Tmp} {op : Op} {ty : TypeId} {pos : String} {af : Array Edge} {g : Option (Nat × Bool)} {v : Value}

theorem Dl.q (hy : YieldsE P all w ⟨d, op, ty, pos, af, g⟩ v ρ) (h : Dl P all K os (updO ρ d v) w) : Dl P all K (⟨d, op, ty, pos, af, g⟩ :: os) ρ w := YieldsE.St hy h
theorem Dl.n (h : St P all ⟨d, op, ty, pos, af, g⟩ (Dl P all K os) ρ w) : Dl P all K (⟨d, op, ty, pos, af, g⟩ :: os) ρ w := h
theorem Dl.nil (h : K ρ w) : Dl P all K [] ρ w := h

theorem wantG {all : Array Oper} {ρ : Env} {j : Nat} {want b : Bool} {t : Tmp} (ht : (all[j]?).bind (·.dst) = some t) (hv : ρ t = .bool b) (hb : b = want) : wantedG all (some (j, want)) ρ = true := by
  subst hb
  simp [wantedG, yieldedE, ht, hv]
theorem unwantG {all : Array Oper} {ρ : Env} {j : Nat} {want b : Bool} {t : Tmp} (ht : (all[j]?).bind (·.dst) = some t) (hv : ρ t = .bool b) (hb : b = !want) : wantedG all (some (j, want)) ρ = false := by
  subst hb
  cases want <;> simp [wantedG, yieldedE, ht, hv]
/-- Of an operation that is passed over itself. -/
theorem unwantU {all : Array Oper} {ρ : Env} {j : Nat} {want : Bool} {t : Tmp} (ht : (all[j]?).bind (·.dst) = some t) (hv : ρ t = undef) : wantedG all (some (j, want)) ρ = false := by
  simp [wantedG, yieldedE, ht, hv, undef]

/-- What every lemma on an operation that leaves the world alone comes to. -/
theorem Y.of (hg : wantedG all g ρ = true) (hr : (execOp (ev ρ) ⟨d, op, ty, pos, af, g⟩).run P w = .ok (.value v) w) : YieldsE P all w ⟨d, op, ty, pos, af, g⟩ v ρ := .inl ⟨hg, .inl hr⟩
theorem Y.skip (hg : wantedG all g ρ = false) : YieldsE P all w ⟨d, op, ty, pos, af, g⟩ undef ρ := .inr ⟨hg, rfl⟩

/-- It fills one cell. -/
def one1 : Value → Bool
  | .agg _ | .tuple _ => false
  | _ => true

variable {x y z : Operand} {T T' : TypeId} {k : IntKind} {a b : Int}

theorem Y.mv (hg : wantedG all g ρ = true) (hx : ev ρ x = v) : YieldsE P all w ⟨d, .move x, ty, pos, af, g⟩ v ρ := Y.of hg (by simp [execOp, hx])
theorem Y.asg (hg : wantedG all g ρ = true) (hx : ev ρ x = v) : YieldsE P all w ⟨d, .assign x, ty, pos, af, g⟩ v ρ := Y.of hg (by simp [execOp, hx])
theorem Y.pickT {b : Bool} (hg : wantedG all g ρ = true) (hc : ev ρ x = .bool b) (hb : b = true) (hv : ev ρ y = v) : YieldsE P all w ⟨d, .pick x y z, ty, pos, af, g⟩ v ρ := Y.of hg (by simp [execOp, hc, hb, hv, asBool])
theorem Y.pickF {b : Bool} (hg : wantedG all g ρ = true) (hc : ev ρ x = .bool b) (hb : b = false) (hv : ev ρ z = v) : YieldsE P all w ⟨d, .pick x y z, ty, pos, af, g⟩ v ρ := Y.of hg (by simp [execOp, hc, hb, hv, asBool])
theorem Y.pick {b : Bool} {u : Value} (hg : wantedG all g ρ = true) (hc : ev ρ x = .bool b) (hy : ev ρ y = v) (hz : ev ρ z = u) : YieldsE P all w ⟨d, .pick x y z, ty, pos, af, g⟩ (if b = true then v else u) ρ := Y.of hg (by simp [execOp, hc, hy, hz, asBool])
theorem Y.add (hg : wantedG all g ρ = true) (hx : ev ρ x = .int k a) (hy : ev ρ y = .int k b) : YieldsE P all w ⟨d, .binOp .add T x y T', ty, pos, af, g⟩ (.int k (k.wrap (a + b))) ρ := Y.of hg (by simp [execOp, hx, hy, binOp, eqGuard, Op.intArith])
theorem Y.sub (hg : wantedG all g ρ = true) (hx : ev ρ x = .int k a) (hy : ev ρ y = .int k b) : YieldsE P all w ⟨d, .binOp .sub T x y T', ty, pos, af, g⟩ (.int k (k.wrap (a - b))) ρ := Y.of hg (by simp [execOp, hx, hy, binOp, eqGuard, Op.intArith])
theorem Y.mul (hg : wantedG all g ρ = true) (hx : ev ρ x = .int k a) (hy : ev ρ y = .int k b) : YieldsE P all w ⟨d, .binOp .mul T x y T', ty, pos, af, g⟩ (.int k (k.wrap (a * b))) ρ := Y.of hg (by simp [execOp, hx, hy, binOp, eqGuard, Op.intArith])
theorem Y.quo (hg : wantedG all g ρ = true) (hx : ev ρ x = .int k a) (hy : ev ρ y = .int k b) (h0 : b ≠ 0) : YieldsE P all w ⟨d, .binOp .quo T x y T', ty, pos, af, g⟩ (.int k (k.wrap (a.tdiv b))) ρ := Y.of hg (by simp [execOp, hx, hy, binOp, eqGuard, Op.intDiv, h0])
theorem Y.rem (hg : wantedG all g ρ = true) (hx : ev ρ x = .int k a) (hy : ev ρ y = .int k b) (h0 : b ≠ 0) : YieldsE P all w ⟨d, .binOp .rem T x y T', ty, pos, af, g⟩ (.int k (a.tmod b)) ρ := Y.of hg (by simp [execOp, hx, hy, binOp, eqGuard, Op.intDiv, h0])
theorem Y.lss (hg : wantedG all g ρ = true) (hx : ev ρ x = .int k a) (hy : ev ρ y = .int k b) : YieldsE P all w ⟨d, .binOp .lss T x y T', ty, pos, af, g⟩ (.bool (decide (a < b))) ρ := Y.of hg (by simp [execOp, hx, hy, binOp, eqGuard, Op.intCmp])
theorem Y.leq (hg : wantedG all g ρ = true) (hx : ev ρ x = .int k a) (hy : ev ρ y = .int k b) : YieldsE P all w ⟨d, .binOp .leq T x y T', ty, pos, af, g⟩ (.bool (decide (a ≤ b))) ρ := Y.of hg (by simp [execOp, hx, hy, binOp, eqGuard, Op.intCmp])
theorem Y.gtr (hg : wantedG all g ρ = true) (hx : ev ρ x = .int k a) (hy : ev ρ y = .int k b) : YieldsE P all w ⟨d, .binOp .gtr T x y T', ty, pos, af, g⟩ (.bool (decide (b < a))) ρ := Y.of hg (by simp [execOp, hx, hy, binOp, eqGuard, Op.intCmp])
theorem Y.geq (hg : wantedG all g ρ = true) (hx : ev ρ x = .int k a) (hy : ev ρ y = .int k b) : YieldsE P all w ⟨d, .binOp .geq T x y T', ty, pos, af, g⟩ (.bool (decide (b ≤ a))) ρ := Y.of hg (by simp [execOp, hx, hy, binOp, eqGuard, Op.intCmp])
theorem Y.eqI (hg : wantedG all g ρ = true) (hx : ev ρ x = .int k a) (hy : ev ρ y = .int k b) : YieldsE P all w ⟨d, .binOp .eql T x y T', ty, pos, af, g⟩ (.bool (decide (a = b))) ρ := Y.of hg (by simp [execOp, hx, hy, binOp, eqGuard, Op.intCmp]; rfl)
theorem Y.neI (hg : wantedG all g ρ = true) (hx : ev ρ x = .int k a) (hy : ev ρ y = .int k b) : YieldsE P all w ⟨d, .binOp .neq T x y T', ty, pos, af, g⟩ (.bool (!decide (a = b))) ρ := Y.of hg (by simp [execOp, hx, hy, binOp, eqGuard, Op.intCmp]; rfl)
theorem Y.not {b : Bool} (hg : wantedG all g ρ = true) (hx : ev ρ x = .bool b) : YieldsE P all w ⟨d, .unOp .not T x, ty, pos, af, g⟩ (.bool !b) ρ := Y.of hg (by simp [execOp, hx, Op.unary])
theorem Y.neg (hg : wantedG all g ρ = true) (hx : ev ρ x = .int k a) : YieldsE P all w ⟨d, .unOp .neg T x, ty, pos, af, g⟩ (.int k (k.wrap (0 - a))) ρ := Y.of hg (by simp [execOp, hx, Op.unary, Op.intArith])
theorem Y.eqS {s t : ByteArray} (hg : wantedG all g ρ = true) (hx : ev ρ x = .string s) (hy : ev ρ y = .string t) : YieldsE P all w ⟨d, .binOp .eql T x y T', ty, pos, af, g⟩ (.bool (s.toList == t.toList)) ρ := Y.of hg (by simp [execOp, hx, hy, binOp, eqGuard, Op.stringOp])
theorem Y.neS {s t : ByteArray} (hg : wantedG all g ρ = true) (hx : ev ρ x = .string s) (hy : ev ρ y = .string t) : YieldsE P all w ⟨d, .binOp .neq T x y T', ty, pos, af, g⟩ (.bool (!(s.toList == t.toList))) ρ := Y.of hg (by simp [execOp, hx, hy, binOp, eqGuard, Op.stringOp])
theorem Y.ext {vs : List Value} {i : Nat} (hg : wantedG all g ρ = true) (hx : ev ρ x = .tuple vs.toArray) (hv : vs[i]? = some v) : YieldsE P all w ⟨d, .extract x i, ty, pos, af, g⟩ v ρ := Y.of hg (by simp [execOp, hx, Instr.extract, hv])
theorem Y.nn {p : Option Addr} {a : Addr} (hg : wantedG all g ρ = true) (hx : ev ρ x = .pointer p) (hp : p = some a) : YieldsE P all w ⟨d, .nilCheck x, ty, pos, af, g⟩ (vA a) ρ := Y.of hg (by simp [execOp, hx, hp, vA])
theorem Y.nnF {f : Fn} {cs : Array Value} (hg : wantedG all g ρ = true) (hx : ev ρ x = .func f #[] cs) (hf : ∀ n, f ≠ .method n) : YieldsE P all w ⟨d, .nilCheck x, ty, pos, af, g⟩ (.func f #[] cs) ρ := Y.of hg (by
  cases f <;> simp_all [execOp])
theorem Y.ld {a : Addr} (hg : wantedG all g ρ = true) (hT : ∀ w, (isAgg T).run P w = .ok false w) (hx : ev ρ x = .pointer (some a)) (hc : w.cell? a = some v) : YieldsE P all w ⟨d, .load T x, ty, pos, af, g⟩ v ρ := Y.of hg (by simp [execOp, hx, Instr.loadAt, Instr.sureAddr, loadVar, hT, hc])
theorem Y.ldA {a : Addr} {cs : List Value} {n : Nat} (hg : wantedG all g ρ = true) (hT : ∀ w, (isAgg T).run P w = .ok true w) (hn : ∀ w, (sizeOf T).run P w = .ok n w) (hl : cs.length = n) (hx : ev ρ x = .pointer (some a)) (hc : Cells w a cs) : YieldsE P all w ⟨d, .load T x, ty, pos, af, g⟩ (.agg cs.toArray) ρ := Y.of hg (by
  subst hl
  simp [execOp, hx, Instr.loadAt, Instr.sureAddr, loadVar, hT, hn, run_loadCells_list w a cs hc])
theorem Y.fa {a : Addr} {fs : Array Field} {f : Field} {i n : Nat} (off : Nat) (hg : wantedG all g ρ = true) (hT : ∀ w, (underlying T).run P w = .ok (.struct fs) w) (hf : fs[i]? = some f) (hn : ∀ w, (sizeOf f.type).run P w = .ok n w) (h0 : n ≠ 0) (hx : ev ρ x = .pointer (some a)) (ho : f.offset = off) :
    YieldsE P all w ⟨d, .fieldAddr T x i, ty, pos, af, g⟩ (vA (a.add off)) ρ := Y.of hg (by
  subst ho
  simp [execOp, hx, Instr.fieldAt, Instr.sureAddr, hT, hf, fieldPlace, hn, h0])
theorem Y.ix {s : Sl} {a c : Addr} {E n : Nat} {i : Int} (hg : wantedG all g ρ = true) (hT : ∀ w, (underlying T).run P w = .ok (.slice E) w) (hn : ∀ w, (sizeOf E).run P w = .ok n w) (hx : ev ρ x = s.val) (hy : ev ρ y = .int k i) (ha : s.addr = some a) (hi : 0 ≤ i ∧ i < s.len) (hc : c = a.add (i.toNat * n)) :
    YieldsE P all w ⟨d, .indexAddr T x y, ty, pos, af, g⟩ (vA c) ρ := Y.of hg (by
  subst hc
  obtain ⟨ad, l, c⟩ := s
  simp only at ha hi
  subst ha
  simp [execOp, hx, hy, Instr.indexAt, asIntOf, hT, hn, hi])
theorem Y.ixA {a c : Addr} {l E n : Nat} {i : Int} (hg : wantedG all g ρ = true) (hT : ∀ w, (underlying T).run P w = .ok (.array l E) w) (hn : ∀ w, (sizeOf E).run P w = .ok n w) (hx : ev ρ x = vA a) (hy : ev ρ y = .int k i) (hi : 0 ≤ i ∧ i < l) (hc : c = a.add (i.toNat * n)) :
    YieldsE P all w ⟨d, .indexAddr T x y, ty, pos, af, g⟩ (vA c) ρ := Y.of hg (by
  subst hc
  simp [execOp, hx, hy, Instr.indexAt, Instr.sureAddr, asIntOf, hT, hn, hi])
theorem Y.len {s : Sl} {E : Nat} (hg : wantedG all g ρ = true) (hT : ∀ w, (underlying T).run P w = .ok (.slice E) w) (hx : ev ρ x = s.val) : YieldsE P all w ⟨d, .call ⟨.builtin .len, #[x], #[T]⟩, ty, pos, af, g⟩ (vI s.len) ρ := Y.of hg (by
  simp [execOp, resolve, invoke, builtin, Builtin.len_, hx, hT, goInt])
theorem Y.lenS {s : ByteArray} (hg : wantedG all g ρ = true) (hT : ∀ w, (underlying T).run P w = .ok .string w) (hx : ev ρ x = .string s) : YieldsE P all w ⟨d, .call ⟨.builtin .len, #[x], #[T]⟩, ty, pos, af, g⟩ (vI s.size) ρ := Y.of hg (by
  simp [execOp, resolve, invoke, builtin, Builtin.len_, hx, hT, goInt])
theorem Y.mkF {f : FuncId} {cs : List Operand} {vs : List Value} (hg : wantedG all g ρ = true) (hv : cs.map (ev ρ) = vs) : YieldsE P all w ⟨d, .makeFunc (.func f) #[] cs.toArray, ty, pos, af, g⟩ (.func (.func f) #[] vs.toArray) ρ := Y.of hg (by
  simp [execOp, Instr.makeFunc, hv])
theorem Y.conv {k' : IntKind} {s : TypeDesc} (hg : wantedG all g ρ = true) (hS : ∀ w, (underlying T).run P w = .ok s w) (hT : ∀ w, (underlying T').run P w = .ok (.int k') w) (hx : ev ρ x = .int k a) : YieldsE P all w ⟨d, .convert T T' x, ty, pos, af, g⟩ (.int k' (k'.wrap a)) ρ := Y.of hg (by
  cases s <;> simp [execOp, convert, hS, hT, hx, Conv.intToInt])
theorem Y.mkI {s : TypeDesc} (hg : wantedG all g ρ = true) (hT : ∀ w, (underlying T).run P w = .ok s w) (hs : (match s with | .interface _ => true | _ => false) = false) (hx : ev ρ x = v) : YieldsE P all w ⟨d, .makeInterface T x, ty, pos, af, g⟩ (.iface T v) ρ := Y.of hg (by
  cases s <;> simp_all [execOp, Instr.makeInterface])
theorem Y.run {s : Sem Value} (hg : wantedG all g ρ = true) (he : execOp (ev ρ) ⟨d, op, ty, pos, af, g⟩ = (do pure (.value (← s)))) (hr : s.run P w = .ok v w) : YieldsE P all w ⟨d, op, ty, pos, af, g⟩ v ρ := Y.of hg (by
  rw [he]; simp [hr])

/-! ### Operations that turn the world -/
theorem N.of {s : Sem Value} {w' : World} (hg : wantedG all g ρ = true) (he : execOp (ev ρ) ⟨d, op, ty, pos, af, g⟩ = (do pure (.value (← s)))) (hr : s.run P w = .ok v w') (h : K (updO ρ d v) w') : St P all ⟨d, op, ty, pos, af, g⟩ K ρ w := by
  unfold St
  rw [if_pos hg, he]
  simp [hr, h]
theorem N.ofU {s : Sem Unit} {w' : World} (hg : wantedG all g ρ = true) (he : execOp (ev ρ) ⟨d, op, ty, pos, af, g⟩ = (do s; pure .skip)) (hr : s.run P w = .ok () w') (h : K (updO ρ d undef) w') : St P all ⟨d, op, ty, pos, af, g⟩ K ρ w := by
  unfold St
  rw [if_pos hg, he]
  simp [hr, h]
theorem N.call {f : FuncId} {l : List Operand} {ts : Array TypeId} {vs : List Value} {α : Type} {e : α → Value} {R : α → World → Prop} (hg : wantedG all g ρ = true) (hf : ∀ as w, (callFunc f as).run P w = .ok (.enter f as) w) (hv : l.map (ev ρ) = vs)
    (h : Calls P f vs.toArray w fun x w' => ∃ r, x = .returned (e r) ∧ R r w') (hk : ∀ r w', R r w' → K (updO ρ d (e r)) w') : St P all ⟨d, .call ⟨.value (.func f), l.toArray, ts⟩, ty, pos, af, g⟩ K ρ w := by
  unfold St
  rw [if_pos hg]
  have he : (execOp (ev ρ) ⟨d, .call ⟨.value (.func f), l.toArray, ts⟩, ty, pos, af, g⟩).run P w = .ok (.enter f vs.toArray) w := by
    simp [execOp, resolve, Deferred.ofValue, invoke, hf, hv]
  rw [he]
  refine Calls.mono h ?_
  rintro x w' ⟨r, rfl, h2⟩
  exact ⟨_, rfl, hk _ _ h2⟩
theorem N.callv {fv : Value} {l : List Operand} {ts : Array TypeId} {vs : List Value} {α : Type} {e : α → Value} {R : α → World → Prop} (hg : wantedG all g ρ = true) (hx : ev ρ x = fv) (hv : l.map (ev ρ) = vs)
    (h : Inv P fv vs w fun v w' => ∃ r, v = e r ∧ R r w') (hk : ∀ r w', R r w' → K (updO ρ d (e r)) w') : St P all ⟨d, .call ⟨.value x, l.toArray, ts⟩, ty, pos, af, g⟩ K ρ w := by
  rcases h with ⟨f, cap, rfl, hf, hc⟩ | ⟨l0, rfl, fn, tm, asg, bd, hy, hc⟩
  case inr =>
    unfold St
    rw [if_pos hg]
    have he : (execOp (ev ρ) ⟨d, .call ⟨.value x, l.toArray, ts⟩, ty, pos, af, g⟩).run P w = .ok (.round l0 fn tm asg bd) w := by
      simp [execOp, resolve, Deferred.ofValue, invoke, hv, hx, hy]
    rw [he]
    refine RoundIn.mono hc ?_
    rintro x w' ⟨v, rfl, r, rfl, h2⟩
    exact ⟨_, rfl, hk _ _ h2⟩
  unfold St
  rw [if_pos hg]
  have he : (execOp (ev ρ) ⟨d, .call ⟨.value x, l.toArray, ts⟩, ty, pos, af, g⟩).run P w = .ok (.enter f (vs.toArray ++ cap)) w := by
    simp [execOp, resolve, Deferred.ofValue, invoke, hf, hv, hx]
  rw [he]
  refine Calls.mono hc ?_
  rintro x w' ⟨v, rfl, r, rfl, h2⟩
  exact ⟨_, rfl, hk _ _ h2⟩
theorem N.new {z : Value} {cs : List Value} {γ : Type} {f : Addr → M γ} {kk : γ → World → Prop} (hg : wantedG all g ρ = true) (hz : ∀ w, (zeroValue T).run P w = .ok z w) (hM : M.new T cs f w kk) (hc : z.cells = cs.toArray) (h : ∀ a : Addr, a = ⟨w.heap.size, 0, none⟩ → f a (w.alloc (.cells cs.toArray T)) kk → K (updO ρ d (vA a)) (w.alloc (.cells cs.toArray T))) :
    St P all ⟨d, .alloc T, ty, pos, af, g⟩ K ρ w :=
  N.of (s := Instr.alloc T true (.tuple #[])) hg rfl (by simp [Instr.alloc, hz, newVar, newRow, hc]) (h _ rfl hM)
theorem N.box {cs : List Value} {γ : Type} {f : Addr → M γ} {kk : γ → World → Prop} (hg : wantedG all g ρ = true) (hM : M.new T cs f w kk) (hx : ev ρ x = v) (hc : v.cells = cs.toArray) (h : ∀ a : Addr, a = ⟨w.heap.size, 0, none⟩ → f a (w.alloc (.cells cs.toArray T)) kk → K (updO ρ d (vA a)) (w.alloc (.cells cs.toArray T))) :
    St P all ⟨d, .box T x, ty, pos, af, g⟩ K ρ w :=
  N.of (s := Instr.box T (ev ρ x)) hg rfl (by simp [Instr.box, newVar, newRow, hx, hc]) (h _ rfl hM)
theorem N.st {a : Addr} {n : Nat} {γ : Type} {f : M γ} {kk : γ → World → Prop} (hg : wantedG all g ρ = true) (hn : ∀ w, (sizeOf T).run P w = .ok n w) (hM : M.st a v f w kk) (hx : ev ρ x = .pointer (some a)) (hy : ev ρ y = v) (hc : v.cells = #[v]) (h1 : n = 1) (ho : one1 v = true)
    (h : f (w.setCell a v) kk → K (updO ρ d undef) (w.setCell a v)) : St P all ⟨d, .store T x y, ty, pos, af, g⟩ K ρ w := by
  subst h1
  obtain ⟨⟨v0, h2⟩, h3, h4⟩ := hM
  refine N.ofU (s := Instr.storeAt T (ev ρ x) (ev ρ y)) hg rfl ?_ (h h4)
  cases v <;> simp [one1] at ho <;> simp [Instr.storeAt, Instr.sureAddr, storeVar, hx, hy, hn, hc, storeCells, store, Sem.run, Addr.add, h2, h3]
theorem run_storeCells {P : Program} (a : Addr) : ∀ (vs : List Value) (i : Nat) (w : World), (∀ v ∈ vs, one1 v = true) → (∀ j, j < vs.length → (∃ v0, w.cell? (a.add (i + j)) = some v0) ∧ w.frozen? (a.add (i + j)) = false) →
    (storeCells a vs i).run P w = .ok () (setCells w a vs i)
  | [], _, _, _, _ => rfl
  | v :: vs, i, w, ho, h => by
    obtain ⟨⟨v0, h2⟩, h3⟩ := h 0 (by simp)
    simp only [Nat.add_zero] at h2 h3
    have ih := run_storeCells (P := P) a vs (i + 1) (w.setCell (a.add i) v) (fun u hu => ho u (List.mem_cons_of_mem _ hu)) (fun j hj => by
      obtain ⟨⟨u, g2⟩, g3⟩ := h (j + 1) (by simp; omega)
      rw [show i + (j + 1) = i + 1 + j by omega] at g2 g3
      refine ⟨?_, by rw [World.frozen?_setCell]; exact g3⟩
      by_cases he : a.add i = a.add (i + 1 + j)
      · exact ⟨v, by rw [← he]; exact World.cell?_setCell_same _ _ _ h2⟩
      · exact ⟨u, by rw [World.cell?_setCell_other _ _ _ _ he]; exact g2⟩)
    have hv := ho v List.mem_cons_self
    simp only [storeCells, setCells, Sem.run_bind]
    have h1 : (store (a.add i) v).run P w = .ok () (w.setCell (a.add i) v) := by
      cases v <;> simp [one1] at hv <;> simp [store, Sem.run, h2, h3]
    rw [h1]
    exact ih
theorem N.stA {a : Addr} {n : Nat} {cs : List Value} {γ : Type} {f : M γ} {kk : γ → World → Prop} (hg : wantedG all g ρ = true) (hn : ∀ w, (sizeOf T).run P w = .ok n w) (hM : M.stA a cs f w kk) (hx : ev ρ x = .pointer (some a)) (hy : ev ρ y = .agg cs.toArray) (hl : cs.length = n) (ho : ∀ v ∈ cs, one1 v = true)
    (h : f (setCells w a cs 0) kk → K (updO ρ d undef) (setCells w a cs 0)) : St P all ⟨d, .store T x y, ty, pos, af, g⟩ K ρ w := by
  subst hl
  obtain ⟨h2, h3⟩ := hM
  have := run_storeCells (P := P) a cs 0 w ho (by simpa using h2)
  refine N.ofU (s := Instr.storeAt T (ev ρ x) (ev ρ y)) hg rfl ?_ (h h3)
  simp [Instr.storeAt, Instr.sureAddr, storeVar, hx, hy, hn, Value.cells, this]
end

/-! ### The whole function -/
def envOf (args : List Value) : Env := fun t => args.getD t undef
theorem rep_start {n : Nat} (args : List Value) (h : args.length ≤ n) : Rep n [] { tmps := args.toArray ++ Array.replicate (n - args.length) undef, defers := [] } (envOf args) := by
  refine ⟨by simp; omega, rfl, fun t => ?_⟩
  simp only [envOf]
  by_cases h1 : t < args.length
  · simp [Array.getElem?_append_left, h1]
  · by_cases h2 : t < n
    · simp [Array.getElem?_append_right, h1, Nat.not_lt.1 h1]
      rw [Array.getElem?_eq_getElem (by simp; omega)]
      simp
    · simp [Array.getElem?_append_right, h1, Nat.not_lt.1 h1]
      rw [Array.getElem?_eq_none (by simp; omega)]
      rfl

/-- Where a function ends: its results are read. -/
def Fin (P : Program) (rs : Array ResultVar) (R : Ending → World → Prop) : Exit → Env → World → Prop
  | .normal, ρ, w | .ret, ρ, w => ∃ v, ∀ a : Act, (∀ t, a.tmps.getD t undef = ρ t) → (results { (default : Func) with results := rs } a.tmps).run P w = .ok v w ∧ R (.returned v) w
  | _, _, _ => False

theorem calls_of {P : Program} {f : FuncId} {fn : Func} {c : Code} {args : List Value} {w : World} {n : Nat} {rs : Array ResultVar} {R : Ending → World → Prop} (hf : P.funcs[f]? = some fn) (hb : fn.body = some c) (hn : fn.ntmps = n) (hr : fn.results = rs) (hok : okC n c = true) (hl : Nat.ble args.length n = true)
    (h : Dw ⟨none, [], true⟩ P n c (Fin P rs R) (envOf args) w) : Calls P f args.toArray w R := by
  subst hn hr
  have hl : args.length ≤ fn.ntmps := Nat.le_of_ble_eq_true hl
  refine calls_un (ro := none) (m := 0) (callsIn_of_wp_marks hf hb trivial ?_)
  have := h hok _ (rep_start args hl)
  simp only [List.size_toArray]
  refine wpIn_mono this ?_
  rintro e a' w' ⟨ρ', ⟨r, q⟩ | ⟨_, rfl, D, r, hD, q⟩⟩
  · have hd := r.defers
    cases e <;> simp only [Fin] at q <;> simp only [bodyPostM]
    case normal => obtain ⟨v, hv⟩ := q; rw [hd]; exact ⟨v, (hv a' r.get).1, (hv a' r.get).2⟩
    case ret => obtain ⟨v, hv⟩ := q; rw [hd]; exact ⟨v, (hv a' r.get).1, (hv a' r.get).2⟩
  · have hd := r.defers
    simp only [Fin] at q
    simp only [bodyPostM]
    obtain ⟨v, hv⟩ := q
    rw [hd]
    exact ⟨by simp, .inl ⟨D, _, rfl, run_takeDeferred hD, v, (hv a' r.get).1, (hv a' r.get).2⟩⟩

section
variable {P : Program} {R : Ending → World → Prop} {ρ : Env} {w : World}
theorem fin0 (h : R (.returned (.tuple #[])) w) : Fin P #[] R .ret ρ w := ⟨_, fun a _ => ⟨by simp [results], h⟩⟩
theorem fin1 {t : Tmp} {v : Value} (hv : ρ t = v) (h : R (.returned v) w) : Fin P #[.tmp t] R .ret ρ w := ⟨v, fun a ha => ⟨by
  have := ha t
  simp at this
  simp [results, this, hv], h⟩⟩
theorem fin2 {t s : Tmp} {v u : Value} (hv : ρ t = v) (hu : ρ s = u) (h : R (.returned (.tuple #[v, u])) w) : Fin P #[.tmp t, .tmp s] R .ret ρ w := ⟨_, fun a ha => ⟨by
  have h1 := ha t
  have h2 := ha s
  simp at h1 h2
  simp [results, h1, h2, hv, hu], h⟩⟩
theorem fin3 {t s r : Tmp} {v u z : Value} (hv : ρ t = v) (hu : ρ s = u) (hz : ρ r = z) (h : R (.returned (.tuple #[v, u, z])) w) : Fin P #[.tmp t, .tmp s, .tmp r] R .ret ρ w := ⟨_, fun a ha => ⟨by
  have h1 := ha t
  have h2 := ha s
  have h3 := ha r
  simp at h1 h2 h3
  simp [results, h1, h2, h3, hv, hu, hz], h⟩⟩
theorem finC {t : Tmp} {T n : Nat} {a : Addr} {cs : List Value} (hT : ∀ w, (isAgg T).run P w = .ok true w) (hn : ∀ w, (sizeOf T).run P w = .ok n w) (hl : cs.length = n) (ht : ρ t = vA a) (hc : Cells w a cs) (h : R (.returned (.agg cs.toArray)) w) : Fin P #[.cell t T] R .ret ρ w := ⟨.agg cs.toArray, fun b hb => ⟨by
  have h1 := hb t
  simp at h1
  subst hl
  simp [results, h1, ht, hT, hn, loadVar, asAddr, run_loadCells_list w a cs hc], h⟩⟩
theorem finC2 {t s : Tmp} {T n : Nat} {a : Addr} {cs : List Value} {u : Value} (hT : ∀ w, (isAgg T).run P w = .ok true w) (hn : ∀ w, (sizeOf T).run P w = .ok n w) (hl : cs.length = n) (ht : ρ t = vA a) (hu : ρ s = u) (hc : Cells w a cs) (h : R (.returned (.tuple #[.agg cs.toArray, u])) w) : Fin P #[.cell t T, .tmp s] R .ret ρ w := ⟨.tuple #[.agg cs.toArray, u], fun b hb => ⟨by
  have h1 := hb t
  have h2 := hb s
  simp at h1 h2
  subst hl
  simp [results, h1, h2, ht, hu, hT, hn, loadVar, asAddr, run_loadCells_list w a cs hc], h⟩⟩
end
end Go.Sh

namespace Go.Sh
open Go
/-! ### Loops, joins, and frames -/
def Off (S : Nat) (ρ0 ρ : Env) : Prop := ∀ t, Nat.testBit S t = false → ρ t = ρ0 t
theorem Off.refl (S : Nat) (ρ : Env) : Off S ρ ρ := fun _ _ => rfl
theorem Off.u {S d : Nat} {ρ0 ρ : Env} {v : Value} (hd : Nat.testBit S d = true) (h : Off S ρ0 ρ) : Off S ρ0 (upd ρ d v) := by
  intro t ht
  have : t ≠ d := by rintro rfl; rw [hd] at ht; cases ht
  simp only [upd, beq_ff this, cond_false]
  exact h t ht
theorem Off.m {S S' : Nat} {ρ0 ρ j : Env} (hs : S' &&& S = S') (h : Off S ρ0 ρ) : Off S ρ0 (mask ρ j S') := by
  intro t ht
  have : Nat.testBit S' t = false := by
    have := congrArg (fun n => Nat.testBit n t) hs
    simp only [Nat.testBit_and, ht, Bool.and_false] at this
    exact this.symm
  simp only [mask, this, cond_false]
  exact h t ht
theorem eqMask {S : Nat} {ρ0 ρ : Env} (h : Off S ρ0 ρ) : ρ = mask ρ0 ρ S := by
  funext t
  simp only [mask]
  cases ht : Nat.testBit S t
  · exact h t ht
  · rfl
theorem eqUpd {ρ ρ' : Env} {d : Nat} {v : Value} (hv : ρ d = v) (h : ρ = ρ') : ρ = upd ρ' d v := by
  subst h
  funext t
  simp only [upd]
  by_cases e : t = d
  · subst e; simp [hv]
  · simp [beq_ff e]

section
variable {P : Program} {G : Fm} {n : Nat} {Q : Exit → Env → World → Prop} {ρ : Env} {w : World} {γ σ : Type} {k : γ → World → Prop}
theorem Dw.loopM {c : Code} {body : (σ → M γ) → σ → M γ} {s0 : σ} (fr : σ → Env → Env → Env) (h : M.loop body s0 w k) (hf : ∃ j, ρ = fr s0 j ρ)
    (step : ∀ (I : σ → World → Prop) (μ : σ → World → Nat) (s : σ) (j : Env) (w : World), body (fun s' w' _ => I s' w' ∧ μ s' w' < μ s w) s w k →
      Dw G P n c (Th (fun ρ' w' => ∃ s', (I s' w' ∧ μ s' w' < μ s w) ∧ ∃ j, ρ' = fr s' j ρ) Q) (fr s j ρ) w) : Dw G P n (.loop c) Q ρ w := by
  obtain ⟨I, μ, h0, hr⟩ := h
  refine Dw.loop (fun s ρ' w' => I s w' ∧ ∃ j, ρ' = fr s j ρ) μ s0 ⟨h0, hf⟩ ?_
  rintro s _ w' ⟨hI, j, rfl⟩
  refine (step I μ s j w' (hr s w' hI)).mono ?_
  rintro e ρ' w'' hq
  cases e
  case normal => obtain ⟨s', ⟨h1, h2⟩, h3⟩ := hq; exact ⟨s', ⟨h1, h3⟩, h2⟩
  all_goals exact hq
theorem Dw.joinM {c c2 : Code} {J : σ → M γ} {body : (σ → M γ) → M γ} (fr : σ → Env → Env → Env) (h : M.join J body w k)
    (h1 : ∀ C : σ → World → Prop, body (fun s w' _ => C s w') w k → Dw G P n c (Th (fun ρ' w' => ∃ s, C s w' ∧ ∃ j, ρ' = fr s j ρ) Q) ρ w)
    (h2 : ∀ s j w', J s w' k → Dw G P n c2 Q (fr s j ρ) w') : Dw G P n (.seq c c2) Q ρ w := by
  obtain ⟨C, hb, hj⟩ := h
  refine Dw.seq ((h1 C hb).mono ?_)
  rintro e ρ' w' hq
  cases e
  case normal => obtain ⟨s, hs, j, rfl⟩ := hq; exact h2 s j w' (hj s w' hs)
  all_goals exact hq
theorem M.split {b : Bool} {f g : M γ} {G : Prop} (h : M.ite b f g w k) (ht : b = true → f w k → G) (hf : b = false → g w k → G) : G := by
  cases hb : b
  · exact hf hb (h.2 hb)
  · exact ht hb (h.1 hb)
theorem M.join_in {J : σ → M γ} {body : (σ → M γ) → M γ} (h : body (fun s w' _ => J s w' k) w k) : M.join J body w k := ⟨_, h, fun _ _ h => h⟩
theorem M.join_at {J : σ → M γ} {body : (σ → M γ) → M γ} (C : σ → World → Prop) (h : body (fun s w' _ => C s w') w k) (h2 : ∀ s w', C s w' → J s w' k) : M.join J body w k := ⟨C, h, h2⟩
theorem M.loop_at {body : (σ → M γ) → σ → M γ} {s : σ} (I : σ → World → Prop) (μ : σ → World → Nat) (h0 : I s w) (hr : ∀ s w, I s w → body (fun s' w' _ => I s' w' ∧ μ s' w' < μ s w) s w k) : M.loop body s w k := ⟨I, μ, h0, hr⟩
end

inductive PdF (o : Oper) : List (Nat × (World → Prop)) → List (Nat × (World → Prop)) → Prop
  | nil : PdF o [] []
  | keep {i : Nat} {S : World → Prop} {pd pd' : List (Nat × (World → Prop))} (h : aft o i = false) (r : PdF o pd pd') : PdF o ((i, S) :: pd) ((i, S) :: pd')
  | drop {i : Nat} {S : World → Prop} {pd pd' : List (Nat × (World → Prop))} (h : aft o i = true) (r : PdF o pd pd') : PdF o ((i, S) :: pd) pd'
theorem PdF.eq {o : Oper} {pd pd' : List (Nat × (World → Prop))} (h : PdF o pd pd') : pd.filter (fun p => !aft o p.1) = pd' := by
  induction h with
  | nil => rfl
  | keep h _ ih => simp [h, ih]
  | drop h _ ih => simp [h, ih]
theorem pdN {w : World} : ∀ p ∈ ([] : List (Nat × (World → Prop))), p.2 w := fun _ h => by cases h
theorem pdC {w : World} {i : Nat} {S : World → Prop} {pd : List (Nat × (World → Prop))} (h : S w) (r : ∀ p ∈ pd, p.2 w) : ∀ p ∈ (i, S) :: pd, p.2 w := by
  intro p hp
  rcases List.mem_cons.1 hp with rfl | hp
  · exact h
  · exact r p hp
theorem Gm.one' {P : Program} {ops : Array Oper} {K : Env → World → Prop} {fuel : Nat} {listed : Array Bool} {pd pd' : List (Nat × (World → Prop))} {ρ : Env} {w : World}
    (j : Nat) {o : Oper} (hj : ops[j]? = some o) (hr : Region.ready .any ops listed = [j]) (hp : PdF o pd pd')
    (h : St P ops o (fun ρ' w' => (∀ p ∈ pd', p.2 w') ∧ Gm P ops K fuel (listed.setIfInBounds j true) pd' ρ' w') ρ w) :
    Gm P ops K (fuel + 1) listed pd ρ w := by
  refine Gm.one j hj hr ?_
  rw [hp.eq]
  exact h
theorem Gm.two' {P : Program} {ops : Array Oper} {K : Env → World → Prop} {fuel : Nat} {listed : Array Bool} {pd pd1 pd2 : List (Nat × (World → Prop))} {ρ : Env} {w : World}
    (i j : Nat) {oi oj : Oper} (hi : ops[i]? = some oi) (hj : ops[j]? = some oj) (hr : Region.ready .any ops listed = [i, j]) (hp1 : PdF oi pd pd1) (hp2 : PdF oj pd pd2)
    (h1 : St P ops oi (fun ρ' w' => (∀ p ∈ pd1, p.2 w') ∧ Gm P ops K fuel (listed.setIfInBounds i true) pd1 ρ' w') ρ w)
    (h2 : St P ops oj (fun ρ' w' => (∀ p ∈ pd2, p.2 w') ∧ Gm P ops K fuel (listed.setIfInBounds j true) pd2 ρ' w') ρ w) :
    Gm P ops K (fuel + 1) listed pd ρ w := by
  refine Gm.noisy [i, j] hr rfl fun l hl o ho => ?_
  rcases List.mem_cons.1 hl with rfl | hl
  · obtain rfl : oi = o := by simpa [hi] using ho
    rw [hp1.eq]; exact h1
  · rw [List.mem_singleton] at hl
    subst hl
    obtain rfl : oj = o := by simpa [hj] using ho
    rw [hp2.eq]; exact h2
end Go.Sh
/- More of what each operation of the deep text needs: comparisons, slices of slices, literals of slices. No condition. -/

namespace Go.Sh
open Go
section
variable {γ : Type} {k : γ → World → Prop} {w : World}
theorem M.iteT {b : Bool} {f g : M γ} (h : M.ite b f g w k) (hb : b = true) : f w k := h.1 hb
theorem M.iteF {b : Bool} {f g : M γ} (h : M.ite b f g w k) (hb : b = false) : g w k := h.2 hb
theorem M.drew_un {f : M γ} (h : M.drew f w k) : f w.drew k := h
def M.bad : M γ := fun _ _ => False
end
def eqAgg (op : BinOp) (T : TypeId) (a b : Value) : Sem Value := do
  if (← program).eqGuardType (← program).depth T then unsupported (.noEntry "")
  binOp op T a b

section
variable {P : Program} {all : Array Oper} {K : Env → World → Prop} {os : List Oper} {ρ : Env} {w : World}
variable {d : Option Tmp} {op : Op} {ty : TypeId} {pos : String} {af : Array Edge} {g : Option (Nat × Bool)} {v : Value}
variable {x y z : Operand} {T T' : TypeId} {k : IntKind} {a b : Int}
theorem eq_bool {p q : Bool} (hT : ∀ w, (underlying T).run P w = .ok .bool w) (n : Nat) : (Op.equalIn (n + 1) T (.bool p) (.bool q)).run P w = .ok (p == q) w := by
  simp [Op.equalIn, hT]
theorem eq_ptr {p : Option Addr} {E : TypeId} (hT : ∀ w, (underlying T).run P w = .ok (.pointer E) w) (n : Nat) : (Op.equalIn (n + 1) T (.pointer p) (.pointer none)).run P w = .ok p.isNone w := by
  cases p <;> simp [Op.equalIn, hT]
theorem exec_eql {u s : Value} {e : Bool} (hx : ev ρ x = u) (hy : ev ρ y = s) (hb : binOp .eql T u s = (do pure (.bool (← Op.equal T u s)))) (hgd : (eqGuard .eql T x y u s).run P w = .ok () w) (h : (Op.equal T u s).run P w = .ok e w) :
    (execOp (ev ρ) ⟨d, .binOp .eql T x y T', ty, pos, af, g⟩).run P w = .ok (.value (.bool e)) w := by
  simp only [execOp, hx, hy]
  rw [hb]
  simp [hgd, h]
theorem exec_neq {u s : Value} {e : Bool} (hx : ev ρ x = u) (hy : ev ρ y = s) (hb : binOp .neq T u s = (do pure (.bool (!(← Op.equal T u s))))) (hgd : (eqGuard .neq T x y u s).run P w = .ok () w) (h : (Op.equal T u s).run P w = .ok e w) :
    (execOp (ev ρ) ⟨d, .binOp .neq T x y T', ty, pos, af, g⟩).run P w = .ok (.value (.bool (!e))) w := by
  simp only [execOp, hx, hy]
  rw [hb]
  simp [hgd, h]
theorem Y.eqB {p q : Bool} (hg : wantedG all g ρ = true) (hT : ∀ w, (underlying T).run P w = .ok .bool w) (hx : ev ρ x = .bool p) (hy : ev ρ y = .bool q) : YieldsE P all w ⟨d, .binOp .eql T x y T', ty, pos, af, g⟩ (.bool (p == q)) ρ :=
  Y.of hg (exec_eql hx hy rfl (by simp [eqGuard]) (eq_bool hT 9999))
theorem Y.neB {p q : Bool} (hg : wantedG all g ρ = true) (hT : ∀ w, (underlying T).run P w = .ok .bool w) (hx : ev ρ x = .bool p) (hy : ev ρ y = .bool q) : YieldsE P all w ⟨d, .binOp .neq T x y T', ty, pos, af, g⟩ (.bool (!(p == q))) ρ :=
  Y.of hg (exec_neq hx hy rfl (by simp [eqGuard]) (eq_bool hT 9999))
theorem Y.eqP {p : Option Addr} {E : TypeId} (hg : wantedG all g ρ = true) (hT : ∀ w, (underlying T).run P w = .ok (.pointer E) w) (hx : ev ρ x = .pointer p) (hy : ev ρ y = .pointer none) : YieldsE P all w ⟨d, .binOp .eql T x y T', ty, pos, af, g⟩ (.bool p.isNone) ρ :=
  Y.of hg (exec_eql hx hy rfl (by simp [eqGuard]) (eq_ptr hT 9999))
theorem Y.neP {p : Option Addr} {E : TypeId} (hg : wantedG all g ρ = true) (hT : ∀ w, (underlying T).run P w = .ok (.pointer E) w) (hx : ev ρ x = .pointer p) (hy : ev ρ y = .pointer none) : YieldsE P all w ⟨d, .binOp .neq T x y T', ty, pos, af, g⟩ (.bool (!p.isNone)) ρ :=
  Y.of hg (exec_neq hx hy rfl (by simp [eqGuard]) (eq_ptr hT 9999))
theorem Y.binU {bop : BinOp} {k' : IntKind} (hg : wantedG all g ρ = true) (hx : ev ρ x = .int k a) (hy : ev ρ y = .int k' b) (hr : (binOp bop T (.int k a) (.int k' b)).run P w = .ok v w) : YieldsE P all w ⟨d, .binOp bop T x y T', ty, pos, af, g⟩ v ρ := Y.of hg (by
  have : (eqGuard bop T x y (.int k a) (.int k' b)).run P w = .ok () w := by cases bop <;> simp [eqGuard]
  simp [execOp, hx, hy, this, hr])
theorem Y.catS {s t : ByteArray} (hg : wantedG all g ρ = true) (hx : ev ρ x = .string s) (hy : ev ρ y = .string t) (hr : (Op.stringOp .add s t).run P w = .ok v w) : YieldsE P all w ⟨d, .binOp .add T x y T', ty, pos, af, g⟩ v ρ := Y.of hg (by
  simp [execOp, hx, hy, binOp, eqGuard, hr])
theorem Y.eqA {bop : BinOp} {p q : Array Value} (hg : wantedG all g ρ = true) (hx : ev ρ x = .agg p) (hy : ev ρ y = .agg q) (hr : (eqAgg bop T (.agg p) (.agg q)).run P w = .ok v w) : YieldsE P all w ⟨d, .binOp bop T x y T', ty, pos, af, g⟩ v ρ := Y.of hg (by
  have hE : P.eqGuardType P.depth T = false := by
    cases hE : P.eqGuardType P.depth T with
    | false => rfl
    | true => simp [eqAgg, program, hE, Sem.run, unsupported] at hr
  have hr' : (binOp bop T (.agg p) (.agg q)).run P w = .ok v w := by
    simpa [eqAgg, program, hE, Sem.run] using hr
  have : (eqGuard bop T x y (.agg p) (.agg q)).run P w = .ok () w := by cases bop <;> simp [eqGuard, program, hE, Sem.run]
  simp [execOp, hx, hy, this, hr'])
theorem Y.idx {u i : Value} (hg : wantedG all g ρ = true) (hx : ev ρ x = u) (hy : ev ρ y = i) (hr : (Instr.index T u i).run P w = .ok v w) : YieldsE P all w ⟨d, .index T x y, ty, pos, af, g⟩ v ρ := Y.of hg (by simp [execOp, hx, hy, hr])
theorem Y.bld {l : List (Nat × Operand)} (vs : List (Nat × Value)) (hg : wantedG all g ρ = true) (hv : l.map (fun p => (p.1, ev ρ p.2)) = vs) (hr : (Instr.build T vs.toArray).run P w = .ok v w) : YieldsE P all w ⟨d, .build T l.toArray, ty, pos, af, g⟩ v ρ := Y.of hg (by
  have : (l.toArray.map fun (p : Nat × Operand) => (p.1, ev ρ p.2)) = vs.toArray := by simp [hv]
  simp only [execOp]
  rw [show (Array.map (fun x => match x with | (i, x) => (i, ev ρ x)) l.toArray) = vs.toArray from this]
  simp [hr])
theorem Y.nnR {f : FuncId} {cs : Array Value} (hg : wantedG all g ρ = true) (hx : ev ρ x = v) (hv : v = .func (.func f) #[] cs) : YieldsE P all w ⟨d, .nilCheck x, ty, pos, af, g⟩ v ρ := Y.of hg (by
  subst hv; simp [execOp, hx])
theorem Y.cap {s : Sl} {E : Nat} (hg : wantedG all g ρ = true) (hT : ∀ w, (underlying T).run P w = .ok (.slice E) w) (hx : ev ρ x = s.val) : YieldsE P all w ⟨d, .call ⟨.builtin .cap, #[x], #[T]⟩, ty, pos, af, g⟩ (vI s.cap) ρ := Y.of hg (by
  simp [execOp, resolve, invoke, builtin, Builtin.cap_, hx, hT, goInt])
theorem Y.max {ts : Array TypeId} (hg : wantedG all g ρ = true) (hx : ev ρ x = .int k a) (hy : ev ρ y = .int k b) : YieldsE P all w ⟨d, .call ⟨.builtin .max, #[x, y], ts⟩, ty, pos, af, g⟩ (.int k (if b > a then b else a)) ρ := Y.of hg (by
  simp [execOp, resolve, invoke, builtin, Builtin.max_, Builtin.max2, hx, hy])
theorem Y.min {ts : Array TypeId} (hg : wantedG all g ρ = true) (hx : ev ρ x = .int k a) (hy : ev ρ y = .int k b) : YieldsE P all w ⟨d, .call ⟨.builtin .min, #[x, y], ts⟩, ty, pos, af, g⟩ (.int k (if b < a then b else a)) ρ := Y.of hg (by
  simp [execOp, resolve, invoke, builtin, Builtin.min_, Builtin.min2, hx, hy])

theorem sliceBounds_run {P : Program} {w : World} {s : Sl} {lo hi mx : Int} (h : 0 ≤ lo ∧ lo ≤ hi ∧ hi ≤ mx ∧ mx ≤ s.cap) (l h' m : Option Value) (hl : (∃ k, l = some (.int k lo)) ∨ l = none ∧ lo = 0) (hh : (∃ k, h' = some (.int k hi)) ∨ h' = none ∧ hi = s.len ∧ m = none) (hm : (∃ k, m = some (.int k mx)) ∨ m = none ∧ mx = s.cap) :
    (Instr.sliceBounds true s.len s.cap l h' m).run P w = .ok (lo.toNat, hi.toNat, mx.toNat) w := by
  have h0 : (0 : Int) ≤ hi := by omega
  have h1 : (0 : Int) ≤ mx := by omega
  have e1 : ((mx.toNat : Nat) : Int) = mx := by omega
  have e2 : ((hi.toNat : Nat) : Int) = hi := by omega
  rcases hm with ⟨km, rfl⟩ | ⟨rfl, rfl⟩ <;> rcases hh with ⟨kh, rfl⟩ | ⟨rfl, rfl, hh⟩ <;> rcases hl with ⟨kl, rfl⟩ | ⟨rfl, rfl⟩ <;>
    first
      | (simp at hh; done)
      | (simp [Instr.sliceBounds, Instr.sliceBound, asIntOf, h, h0, h1, e1, e2]; try omega)
theorem run_cut {P : Program} {w : World} {T E n : Nat} {s : Sl} {lo hi mx : Int} {l h' m : Option Value} (hT : ∀ w, (underlying T).run P w = .ok (.slice E) w) (hn : ∀ w, (sizeOf E).run P w = .ok n w)
    (hb : (Instr.sliceBounds true s.len s.cap l h' m).run P w = .ok (lo.toNat, hi.toNat, mx.toNat) w) : (Instr.sliceAt T s.val l h' m).run P w = .ok (s.cut lo hi mx n).val w := by
  obtain ⟨ad, ln, cp⟩ := s
  simp [Instr.sliceAt, Instr.slice, hT, hn, Sl.cut, hb]
section
variable {E n : Nat} {s t : Sl} {lo hi mx : Int} {k1 k2 k3 : IntKind} {u : Operand}
theorem Y.cut111 (hg : wantedG all g ρ = true) (hT : ∀ w, (underlying T).run P w = .ok (.slice E) w) (hx : ev ρ x = s.val) (hn : ∀ w, (sizeOf E).run P w = .ok n w) (h1 : ev ρ y = .int k1 lo) (h2 : ev ρ z = .int k2 hi) (h3 : ev ρ u = .int k3 mx) (h : 0 ≤ lo ∧ lo ≤ hi ∧ hi ≤ mx ∧ mx ≤ s.cap) (hc : t = s.cut lo hi mx n) :
    YieldsE P all w ⟨d, .slice T x (some y) (some z) (some u), ty, pos, af, g⟩ t.val ρ :=
  Y.run hg rfl (by subst hc; simp only [Option.map]; rw [hx, h1, h2, h3]; exact run_cut hT hn (sliceBounds_run h _ _ _ (.inl ⟨_, rfl⟩) (.inl ⟨_, rfl⟩) (.inl ⟨_, rfl⟩)))
theorem Y.cut011 (hg : wantedG all g ρ = true) (hT : ∀ w, (underlying T).run P w = .ok (.slice E) w) (hx : ev ρ x = s.val) (hn : ∀ w, (sizeOf E).run P w = .ok n w) (h2 : ev ρ z = .int k2 hi) (h3 : ev ρ u = .int k3 mx) (h : 0 ≤ (0 : Int) ∧ 0 ≤ hi ∧ hi ≤ mx ∧ mx ≤ s.cap) (hc : t = s.cut 0 hi mx n) :
    YieldsE P all w ⟨d, .slice T x none (some z) (some u), ty, pos, af, g⟩ t.val ρ :=
  Y.run hg rfl (by subst hc; simp only [Option.map]; rw [hx, h2, h3]; exact run_cut hT hn (sliceBounds_run h _ _ _ (.inr ⟨rfl, rfl⟩) (.inl ⟨_, rfl⟩) (.inl ⟨_, rfl⟩)))
theorem Y.cut110 (hg : wantedG all g ρ = true) (hT : ∀ w, (underlying T).run P w = .ok (.slice E) w) (hx : ev ρ x = s.val) (hn : ∀ w, (sizeOf E).run P w = .ok n w) (h1 : ev ρ y = .int k1 lo) (h2 : ev ρ z = .int k2 hi) (h : 0 ≤ lo ∧ lo ≤ hi ∧ hi ≤ (s.cap : Int) ∧ (s.cap : Int) ≤ s.cap) (hc : t = s.cut lo hi s.cap n) :
    YieldsE P all w ⟨d, .slice T x (some y) (some z) none, ty, pos, af, g⟩ t.val ρ :=
  Y.run hg rfl (by subst hc; simp only [Option.map]; rw [hx, h1, h2]; exact run_cut hT hn (sliceBounds_run h _ _ _ (.inl ⟨_, rfl⟩) (.inl ⟨_, rfl⟩) (.inr ⟨rfl, rfl⟩)))
theorem Y.cut010 (hg : wantedG all g ρ = true) (hT : ∀ w, (underlying T).run P w = .ok (.slice E) w) (hx : ev ρ x = s.val) (hn : ∀ w, (sizeOf E).run P w = .ok n w) (h2 : ev ρ z = .int k2 hi) (h : 0 ≤ (0 : Int) ∧ 0 ≤ hi ∧ hi ≤ (s.cap : Int) ∧ (s.cap : Int) ≤ s.cap) (hc : t = s.cut 0 hi s.cap n) :
    YieldsE P all w ⟨d, .slice T x none (some z) none, ty, pos, af, g⟩ t.val ρ :=
  Y.run hg rfl (by subst hc; simp only [Option.map]; rw [hx, h2]; exact run_cut hT hn (sliceBounds_run h _ _ _ (.inr ⟨rfl, rfl⟩) (.inl ⟨_, rfl⟩) (.inr ⟨rfl, rfl⟩)))
theorem Y.cut100 (hg : wantedG all g ρ = true) (hT : ∀ w, (underlying T).run P w = .ok (.slice E) w) (hx : ev ρ x = s.val) (hn : ∀ w, (sizeOf E).run P w = .ok n w) (h1 : ev ρ y = .int k1 lo) (h : 0 ≤ lo ∧ lo ≤ (s.len : Int) ∧ (s.len : Int) ≤ (s.cap : Int) ∧ (s.cap : Int) ≤ s.cap) (hc : t = s.cut lo s.len s.cap n) :
    YieldsE P all w ⟨d, .slice T x (some y) none none, ty, pos, af, g⟩ t.val ρ :=
  Y.run hg rfl (by subst hc; simp only [Option.map]; rw [hx, h1]; exact run_cut hT hn (sliceBounds_run h _ _ _ (.inl ⟨_, rfl⟩) (.inr ⟨rfl, rfl, rfl⟩) (.inr ⟨rfl, rfl⟩)))
end

theorem blt_exec {bi : Builtin} {l : List Operand} {ts : Array TypeId} {vs : List Value} {s : Sem Value} (hv : l.map (ev ρ) = vs) (he : ∀ cs, builtin bi ts ty cs vs.toArray = (do pure (.value (← s)))) :
    execOp (ev ρ) ⟨d, .call ⟨.builtin bi, l.toArray, ts⟩, ty, pos, af, g⟩ = (do pure (.value (← s))) := by
  simp only [execOp, resolve, pure_bind, invoke]
  rw [show l.toArray.map (ev ρ) = vs.toArray by simp [hv]]
  exact he _
theorem N.blt {bi : Builtin} {l : List Operand} {ts : Array TypeId} {vs : List Value} {s : Sem Value} {w' : World} (hg : wantedG all g ρ = true) (hv : l.map (ev ρ) = vs) (he : ∀ cs, builtin bi ts ty cs vs.toArray = (do pure (.value (← s)))) (hr : s.run P w = .ok v w') (h : K (updO ρ d v) w') :
    St P all ⟨d, .call ⟨.builtin bi, l.toArray, ts⟩, ty, pos, af, g⟩ K ρ w := N.of hg (blt_exec hv he) hr h
theorem Y.blt {bi : Builtin} {l : List Operand} {ts : Array TypeId} {vs : List Value} {s : Sem Value} (hg : wantedG all g ρ = true) (hv : l.map (ev ρ) = vs) (he : ∀ cs, builtin bi ts ty cs vs.toArray = (do pure (.value (← s)))) (hr : s.run P w = .ok v w) :
    YieldsE P all w ⟨d, .call ⟨.builtin bi, l.toArray, ts⟩, ty, pos, af, g⟩ v ρ := Y.run hg (blt_exec hv he) hr

/-! a slice's literal -/
theorem fold_put (off : Nat) : ∀ (l : List Value) (j : Nat) (cells : Array Value), off + j + l.length ≤ cells.size →
    ((l.zipIdx j).foldl (fun cs (p : Value × Nat) => cs.setIfInBounds (off + p.2) p.1) cells).toList = cells.toList.take (off + j) ++ l ++ cells.toList.drop (off + j + l.length)
  | [], j, cells, _ => by simp
  | v :: l, j, cells, h => by
    simp only [List.length_cons] at h
    rw [List.zipIdx_cons, List.foldl_cons, fold_put off l (j + 1) _ (by simp; omega)]
    simp only [Array.toList_setIfInBounds]
    rw [show off + (j + 1) = off + j + 1 by omega, List.take_set, List.drop_set_of_lt (by omega)]
    have hlt : off + j < cells.toList.length := by simp; omega
    rw [List.take_succ_eq_append_getElem hlt, List.set_append_right _ _ (by simp; omega)]
    simp [Nat.min_eq_left (Nat.le_of_lt (by simpa using hlt)), List.length_cons, show off + j + 1 + l.length = off + j + (l.length + 1) by omega]
theorem fill_step {place : Nat → Option (Nat × Nat)} {cells : List Value} {i off size : Nat} {v : Value} {vs : List Value} {rest : List (Nat × Value)} (hp : place i = some (off, size)) (hv : v.cells = vs.toArray) (hs : vs.length = size) (hl : off + size ≤ cells.length) :
    Instr.fill place cells.toArray ((i, v) :: rest) = Instr.fill place (cells.take off ++ vs ++ cells.drop (off + size)).toArray rest := by
  subst hs
  simp only [Instr.fill, hp]
  have h1 : ¬ (v.cells.size ≠ vs.length || decide (off + v.cells.size > cells.toArray.size)) = true := by
    rw [hv]; simp; omega
  rw [if_neg h1]
  congr 1
  have := fold_put off vs 0 cells.toArray (by simpa using hl)
  rw [hv]
  apply Array.ext'
  simp only [Nat.add_zero] at this
  rw [← this]
  simp
theorem fill_ones (vs : List Value) (ho : ∀ v ∈ vs, v.cells = #[v]) : ∀ (k : Nat) (pre z : List Value), pre.length = k → z.length = vs.length →
    Instr.fill (fun i => some (i * 1, 1)) (pre ++ z).toArray ((vs.zipIdx k).map fun p => (p.2, p.1)) = some (pre ++ vs).toArray := by
  induction vs with
  | nil => intro k pre z _ hz; obtain rfl : z = [] := by simpa using hz
           simp [Instr.fill]
  | cons v vs ih =>
    intro k pre z hk hz
    cases z with
    | nil => simp at hz
    | cons z0 z =>
      simp only [List.zipIdx_cons, List.map_cons]
      rw [fill_step (off := k * 1) (size := 1) (vs := [v]) rfl (by simpa using ho v List.mem_cons_self) rfl (by simp; omega)]
      have : (List.take (k * 1) (pre ++ z0 :: z) ++ [v] ++ List.drop (k * 1 + 1) (pre ++ z0 :: z)) = (pre ++ [v]) ++ z := by
        subst hk; simp
      rw [this, ih (fun u hu => ho u (List.mem_cons_of_mem _ hu)) (k + 1) (pre ++ [v]) z (by simp [hk]) (by simpa using hz)]
      simp
theorem idx_parts : ∀ (l : List (Nat × Operand)) (vs : List Value) (k : Nat), l.map (·.1) = List.range' k vs.length → l.map (fun p => ev ρ p.2) = vs → l.map (fun p => (p.1, ev ρ p.2)) = (vs.zipIdx k).map fun p => (p.2, p.1)
  | [], vs, k, _, h => by subst h; rfl
  | p :: l, vs, k, hi, h => by
    subst h
    simp only [List.map_cons, List.length_cons, List.range'_succ, List.cons.injEq, List.length_map] at hi
    simp only [List.map_cons, List.zipIdx_cons]
    rw [hi.1, idx_parts l _ (k + 1) (by simpa using hi.2) rfl]
theorem N.mkS {E n : Nat} {z : Value} {l : List (Nat × Operand)} {vs : List Value} {γ : Type} {f : Addr → M γ} {kk : γ → World → Prop} (hg : wantedG all g ρ = true) (hT : ∀ w, (underlying T).run P w = .ok (.slice E) w) (hn : ∀ w, (sizeOf E).run P w = .ok 1 w) (hz : ∀ w, (zeroValue E).run P w = .ok z w) (hM : M.new E vs f w kk)
    (hb : Nat.ble n 16777216 = true) (hi : l.map (·.1) = List.range' 0 vs.length) (hv : l.map (fun p => ev ρ p.2) = vs) (ho : vs.map Value.cells = vs.map fun v => #[v]) (hl : vs.length = n)
    (h : ∀ a : Addr, a = ⟨w.heap.size, 0, none⟩ → f a (w.alloc (.cells vs.toArray E)) kk → K (updO ρ d (Sl.val ⟨some a, n, n⟩)) (w.alloc (.cells vs.toArray E))) : St P all ⟨d, .buildSlice T n l.toArray, ty, pos, af, g⟩ K ρ w := by
  have ho : ∀ v ∈ vs, v.cells = #[v] := by simpa using ho
  refine N.of (s := Instr.buildSlice T n (l.toArray.map fun (p : Nat × Operand) => (p.1, ev ρ p.2))) hg (by simp only [execOp]) ?_ (h _ rfl hM)
  have hm : (l.toArray.map fun (p : Nat × Operand) => (p.1, ev ρ p.2)).toList = (vs.zipIdx 0).map fun p => (p.2, p.1) := by simpa using idx_parts l vs 0 hi hv
  have hb : ¬ n * 1 > 2 ^ 24 := by have := Nat.le_of_ble_eq_true hb; omega
  have key : ∀ zc : Array Value, Instr.fill (fun i => some (i * 1, 1)) ((Array.range (n * 1)).map fun i => zc[i % zc.size]!) (l.toArray.map fun (p : Nat × Operand) => (p.1, ev ρ p.2)).toList = some vs.toArray := by
    intro zc
    rw [hm]
    have := fill_ones vs ho 0 [] (((Array.range (n * 1)).map fun i => zc[i % zc.size]!).toList) rfl (by simp [hl])
    simpa only [List.nil_append, Array.toArray_toList] using this
  simp only [Instr.buildSlice, Sem.run_bind, hT, Result.andThen_ok, hn, if_neg hb, pure_bind]
  by_cases h0 : n * 1 = 0
  · simp only [if_pos h0]
    rw [key]
    simp [newRow]
  · simp only [if_neg h0, Sem.run_bind, hz, Result.andThen_ok]
    rw [key]
    simp [newRow]
theorem fill_many {m : Nat} (vss : List (List Value)) (hm : ∀ vs ∈ vss, vs.length = m) : ∀ (k : Nat) (pre z : List Value), pre.length = k * m → z.length = vss.length * m →
    Instr.fill (fun i => some (i * m, m)) (pre ++ z).toArray ((vss.zipIdx k).map fun p => (p.2, .agg p.1.toArray)) = some (pre ++ vss.flatten).toArray := by
  induction vss with
  | nil => intro k pre z _ hz; obtain rfl : z = [] := by simpa using hz
           simp [Instr.fill]
  | cons vs vss ih =>
    intro k pre z hk hz
    have hv := hm vs List.mem_cons_self
    simp only [List.zipIdx_cons, List.map_cons]
    rw [fill_step (off := k * m) (size := m) (vs := vs) rfl rfl hv (by simp [hk, hz, Nat.succ_mul])]
    have e1 : List.take (k * m) (pre ++ z) = pre := by rw [← hk]; simp
    have e2 : List.drop (k * m + m) (pre ++ z) = z.drop m := by
      rw [← hk, List.drop_append, List.drop_eq_nil_of_le (by omega)]
      simp
    rw [e1, e2, List.append_assoc, ← List.append_assoc]
    rw [ih (fun u hu => hm u (List.mem_cons_of_mem _ hu)) (k + 1) (pre ++ vs) (z.drop m) (by simp [hk, hv, Nat.succ_mul]) (by simp [hz, Nat.succ_mul])]
    simp
theorem N.mkSA {E n m : Nat} {z : Value} {l : List (Nat × Operand)} (vss : List (List Value)) {cs : List Value} {γ : Type} {f : Addr → M γ} {kk : γ → World → Prop} (hg : wantedG all g ρ = true) (hT : ∀ w, (underlying T).run P w = .ok (.slice E) w) (hn : ∀ w, (sizeOf E).run P w = .ok m w) (hz : ∀ w, (zeroValue E).run P w = .ok z w) (hM : M.new E cs f w kk)
    (hb : Nat.ble (n * m) 16777216 = true) (hi : l.map (·.1) = List.range' 0 vss.length) (hv : l.map (fun p => ev ρ p.2) = vss.map fun c => .agg c.toArray) (ho : ∀ vs ∈ vss, vs.length = m) (hl : vss.length = n) (hf : vss.flatten = cs)
    (h : ∀ a : Addr, a = ⟨w.heap.size, 0, none⟩ → f a (w.alloc (.cells cs.toArray E)) kk → K (updO ρ d (Sl.val ⟨some a, n, n⟩)) (w.alloc (.cells cs.toArray E))) : St P all ⟨d, .buildSlice T n l.toArray, ty, pos, af, g⟩ K ρ w := by
  subst hf
  refine N.of (s := Instr.buildSlice T n (l.toArray.map fun (p : Nat × Operand) => (p.1, ev ρ p.2))) hg (by simp only [execOp]) ?_ (h _ rfl hM)
  have hm : (l.toArray.map fun (p : Nat × Operand) => (p.1, ev ρ p.2)).toList = (vss.zipIdx 0).map fun p => (p.2, .agg p.1.toArray) := by
    have := idx_parts l (vss.map fun c => .agg c.toArray) 0 (by simpa using hi) hv
    simp only [List.zipIdx_map, List.map_map] at this
    simpa [Function.comp_def] using this
  have hb : ¬ n * m > 2 ^ 24 := by have := Nat.le_of_ble_eq_true hb; omega
  have key : ∀ zc : Array Value, Instr.fill (fun i => some (i * m, m)) ((Array.range (n * m)).map fun i => zc[i % zc.size]!) (l.toArray.map fun (p : Nat × Operand) => (p.1, ev ρ p.2)).toList = some vss.flatten.toArray := by
    intro zc
    rw [hm]
    have := fill_many vss ho 0 [] (((Array.range (n * m)).map fun i => zc[i % zc.size]!).toList) (by simp) (by simp [hl])
    simpa only [List.nil_append, Array.toArray_toList] using this
  simp only [Instr.buildSlice, Sem.run_bind, hT, Result.andThen_ok, hn, if_neg hb, pure_bind]
  by_cases h0 : n * m = 0
  · simp only [if_pos h0]
    rw [key]
    simp [newRow]
  · simp only [if_neg h0, Sem.run_bind, hz, Result.andThen_ok]
    rw [key]
    simp [newRow]
/-- nil against a slice. -/
theorem eq_sl {E : TypeId} {s : Sl} (hT : ∀ w, (underlying T).run P w = .ok (.slice E) w) (n : Nat) : (Op.equalIn (n + 1) T s.val (.slice none 0 0)).run P w = .ok s.addr.isNone w := by
  obtain ⟨ad, l, c⟩ := s
  cases ad <;> simp [Op.equalIn, hT, Sl.val]
theorem Y.eqN {s : Sl} {E : TypeId} (hg : wantedG all g ρ = true) (hT : ∀ w, (underlying T).run P w = .ok (.slice E) w) (hx : ev ρ x = s.val) (hy : ev ρ y = .slice none 0 0) : YieldsE P all w ⟨d, .binOp .eql T x y T', ty, pos, af, g⟩ (.bool s.addr.isNone) ρ :=
  Y.of hg (exec_eql hx hy rfl (by simp [eqGuard]) (eq_sl hT 9999))
theorem Y.neN {s : Sl} {E : TypeId} (hg : wantedG all g ρ = true) (hT : ∀ w, (underlying T).run P w = .ok (.slice E) w) (hx : ev ρ x = s.val) (hy : ev ρ y = .slice none 0 0) : YieldsE P all w ⟨d, .binOp .neq T x y T', ty, pos, af, g⟩ (.bool (!s.addr.isNone)) ρ :=
  Y.of hg (exec_neq hx hy rfl (by simp [eqGuard]) (eq_sl hT 9999))
end
end Go.Sh
