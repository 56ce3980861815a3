/- The structs and arrays of the shallow texts. No condition. -/
import Derived.Test.YthepabefikobpaaProg
import Derived.Test.YthepabefikobpaaRng
namespace Go.Sh
open Go
def Ar.cs (f : Nat → Int) : List Value := (List.range 256).map fun i => vU8 (f i)
def Ab.cs (f : Nat → Bool) : List Value := (List.range 256).map fun i => .bool (f i)
def A4.cs (f : Nat → Int) : List Value := (List.range 4).map fun i => .int .u64 (f i)
def Pr.cs (p : Int × Int) : List Value := [vI p.1, vI p.2]
structure Dfv where
  of : Nat → Int
  width : Int
  next : Sl
  label : Sl
  names : Sl
def Dfv.cs (d : Dfv) : List Value := Ar.cs d.of ++ [vI d.width, d.next.val, d.label.val, d.names.val]
structure Spv where
  lo : Int
  hi : Int
  mkd : Int
def Spv.cs (s : Spv) : List Value := [vI s.lo, vI s.hi, vI s.mkd]
structure Ptv where
  states : Sl
  pos : Sl
  block : Sl
  spans : Sl
  back : Sl
  waits : Sl
  asked : Option Nat
  width : Int
def Ptv.cs (p : Ptv) : List Value := [p.states.val, p.pos.val, p.block.val, p.spans.val, p.back.val, p.waits.val, .map p.asked, vI p.width]

theorem Ar_len (f : Nat → Int) : (Ar.cs f).length = 256 := by simp [Ar.cs]
theorem Ab_len (f : Nat → Bool) : (Ab.cs f).length = 256 := by simp [Ab.cs]
theorem A4_len (f : Nat → Int) : (A4.cs f).length = 4 := by simp [A4.cs]
theorem Pr_len (p : Int × Int) : (Pr.cs p).length = 2 := rfl
theorem Dfv_len (d : Dfv) : (Dfv.cs d).length = 260 := by simp [Dfv.cs, Ar_len]
theorem Spv_len (s : Spv) : (Spv.cs s).length = 3 := rfl
theorem Ptv_len (s : Ptv) : (Ptv.cs s).length = 8 := rfl
theorem Ar_one (f : Nat → Int) : ∀ v ∈ Ar.cs f, one1 v = true := by simp [Ar.cs, one1]
theorem Ab_one (f : Nat → Bool) : ∀ v ∈ Ab.cs f, one1 v = true := by simp [Ab.cs, one1]
theorem A4_one (f : Nat → Int) : ∀ v ∈ A4.cs f, one1 v = true := by simp [A4.cs, one1]
theorem Pr_one (p : Int × Int) : ∀ v ∈ Pr.cs p, one1 v = true := by simp [Pr.cs, one1]
theorem Dfv_one (d : Dfv) : ∀ v ∈ Dfv.cs d, one1 v = true := by
  intro v hv
  rw [Dfv.cs, List.mem_append] at hv
  rcases hv with hv | hv
  · exact Ar_one _ v hv
  · simp at hv; rcases hv with rfl | rfl | rfl | rfl <;> rfl
theorem Spv_one (s : Spv) : ∀ v ∈ Spv.cs s, one1 v = true := by simp [Spv.cs, one1]
theorem Ptv_one (s : Ptv) : ∀ v ∈ Ptv.cs s, one1 v = true := by simp [Ptv.cs, one1]
end Go.Sh

namespace Go.Proofs.Ythepabefikobpaa
open Go Go.Sh
/-! literals of structs -/
theorem Ar_b (w : World) : (Instr.build 22 #[]).run Try.prog w = .ok (.agg (Ar.cs (fun _ => 0)).toArray) w := by kernel_rfl
theorem Ab_b (w : World) : (Instr.build 121 #[]).run Try.prog w = .ok (.agg (Ab.cs (fun _ => false)).toArray) w := by kernel_rfl
theorem A4_b (w : World) : (Instr.build 120 #[]).run Try.prog w = .ok (.agg (A4.cs (fun _ => 0)).toArray) w := by kernel_rfl
theorem Pr_b01 (w : World) (a b : Int) : (Instr.build 54 #[(0, vI a), (1, vI b)]).run Try.prog w = .ok (.agg (Pr.cs (⟨a, b⟩ : Int × Int)).toArray) w := by kernel_rfl
theorem Spv_b01 (w : World) (a b : Int) : (Instr.build 75 #[(0, vI a), (1, vI b)]).run Try.prog w = .ok (.agg (Spv.cs ⟨a, b, 0⟩).toArray) w := by kernel_rfl
theorem Dfv_b (w : World) : (Instr.build 27 #[]).run Try.prog w = .ok (.agg (Dfv.cs ⟨fun _ => 0, 0, Sl.nil, Sl.nil, Sl.nil⟩).toArray) w := by kernel_rfl
theorem Dfv_b014 (w : World) (f : Nat → Int) (a : Int) (s : Sl) : (Instr.build 27 #[(0, .agg (Ar.cs f).toArray), (1, vI a), (4, s.val)]).run Try.prog w = .ok (.agg (Dfv.cs ⟨f, a, Sl.nil, Sl.nil, s⟩).toArray) w := by kernel_rfl
theorem Dfv_b1234 (w : World) (a : Int) (r s t : Sl) : (Instr.build 27 #[(1, vI a), (2, r.val), (3, s.val), (4, t.val)]).run Try.prog w = .ok (.agg (Dfv.cs ⟨fun _ => 0, a, r, s, t⟩).toArray) w := by kernel_rfl
end Go.Proofs.Ythepabefikobpaa
