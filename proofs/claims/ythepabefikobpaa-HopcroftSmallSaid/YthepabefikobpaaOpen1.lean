/- A machine that came as an argument is read as data. No condition. -/
import Derived.Test.YthepabefikobpaaC19
import Derived.Test.YthepabefikobpaaRows
import Derived.WalkKit
import Derived.ProofKit
import Derived.OpenShut
import Derived.ShutString
import Derived.ChangeOld
import Derived.Below
import Derived.Deep.Slices
import Derived.Deep.Strs
namespace Go.Proofs.Ythepabefikobpaa
open Go Go.Sh Go.Sp
open Go.ChangeShapes Go.WideShapes Go.ChangeAt Go.RowKit
section
variable {H : Type} {enc : TypeId × Value → H} {w : World}
theorem rd_cells {a : Addr} {len cap : Nat} {vs : Nat → Value} (hl : len ≤ cap) (h : ∀ i, i < len → w.cell? (a.add i) = some (vs i)) : Rd 1 (fun _ => True) w ⟨some a, len, cap⟩ ((List.range len).map vs) := by
  refine ⟨by simp, hl, fun h0 => ⟨a, rfl, ?_, trivial, fun i v hv => ?_⟩⟩
  · have h0 : len ≠ 0 := h0
    have := h 0 (by omega)
    obtain ⟨b, o, sp⟩ := a
    simpa [Addr.add] using World.cell?_spot this
  · have hi : i < len := by
      by_cases hi : i < len
      · exact hi
      · rw [List.getElem?_eq_none (by simp; omega)] at hv; cases hv
    rw [List.getElem?_map, List.getElem?_range hi] at hv
    cases hv
    exact h i hi
theorem open_row {spare : Nat → Bool} {fuel : Nat} {cs : List Value} {x : DataW H × List MemPlace} (h : DataW.trod enc Try.prog w 0 spare true fuel 24 cs = some x) :
    ∃ (s : Sl) (l : List Int), cs = [s.val] ∧ Rd 1 (fun _ => True) w s (l.map vI) := by
  rcases open_ints Try.underlying24 Try.underlying3 (by kernel_rfl) h with ⟨rfl, _⟩ | ⟨a, len, cap, zs, rfl, _, hl, hm, hz, _, hcell, _⟩
  · exact ⟨Sl.nil, [], rfl, Rd.nil _ _ _ _ rfl⟩
  · refine ⟨⟨some a, len, cap⟩, (List.range len).map fun i => zs.getD i 0, rfl, ?_⟩
    rw [List.map_map]
    exact rd_cells hl fun i hi => hcell i (by rw [hz]; split <;> omega)
theorem open_bytes {spare : Nat → Bool} {fuel : Nat} {cs : List Value} {x : DataW H × List MemPlace} {t : TypeId} (ht : Try.prog.underlying t = some (.slice 5)) (h : DataW.trod enc Try.prog w 0 spare true fuel t cs = some x) :
    ∃ (s : Sl) (l : List Int), cs = [s.val] ∧ Rd 1 (fun _ => True) w s (l.map vU8) ∧ (∀ z ∈ l, 0 ≤ z ∧ z < 256) ∧ s.cap ≤ maxLen := by
  rcases open_ints ht Try.underlying5 (by kernel_rfl) h with ⟨rfl, _⟩ | ⟨a, len, cap, zs, rfl, _, hl, hm, hz, _, hcell, hwf⟩
  · exact ⟨Sl.nil, [], rfl, Rd.nil _ _ _ _ rfl, fun _ h => (by cases h), Nat.zero_le _⟩
  · have hll : len ≤ zs.length := by rw [hz]; split <;> omega
    refine ⟨⟨some a, len, cap⟩, (List.range len).map fun i => zs.getD i 0, rfl, ?_, fun z hz => ?_, hm⟩
    · rw [List.map_map]
      exact rd_cells hl fun i hi => hcell i (by omega)
    · rw [List.mem_map] at hz
      obtain ⟨i, hi, rfl⟩ := hz
      have hi := List.mem_range.1 hi
      have := hwf (zs.getD i 0) (by rw [List.getD_eq_getElem?_getD, List.getElem?_eq_getElem (by omega)]; exact List.getElem_mem _)
      simp [Lit.wf, IntKind.min, IntKind.max, IntKind.signed, IntKind.bits] at this
      simp
      omega
theorem open_rows {spare : Nat → Bool} {fuel : Nat} {cs : List Value} {x : DataW H × List MemPlace} (h : DataW.trod enc Try.prog w 0 spare true fuel 23 cs = some x) :
    ∃ (s : Sl) (l : List (List Int)), cs = [s.val] ∧ RdRd w s l := by
  rcases Go.Deep.open_slice1 Try.underlying23 (by kernel_rfl) h with ⟨rfl, _⟩ | ⟨a, len, cap, m, n, V, D, Pl, rfl, _, hl, hm, hmm, _, hx⟩
  · exact ⟨Sl.nil, [], rfl, [], Rd.nil _ _ _ _ rfl, rfl, fun i t r h => by simp at h⟩
  · have hlm : len ≤ m := by rw [hmm]; split <;> omega
    obtain ⟨ss, hs⟩ : ∃ ss : Nat → Sl × List Int, ∀ i, i < len → V i = (ss i).1.val ∧ Rd 1 (fun _ => True) w (ss i).1 ((ss i).2.map vI) := by
      have : Inhabited (Sl × List Int) := ⟨(Sl.nil, [])⟩
      refine Go.Deep.choose_lt (p := fun i (y : Sl × List Int) => V i = y.1.val ∧ Rd 1 (fun _ => True) w y.1 (y.2.map vI)) fun i hi => ?_
      obtain ⟨s, l, e, hr⟩ := open_row (hx i (by omega)).2
      exact ⟨(s, l), by simpa using e, hr⟩
    refine ⟨⟨some a, len, cap⟩, (List.range len).map fun i => (ss i).2, rfl, (List.range len).map fun i => (ss i).1, ?_, by simp, fun i t r hi hr => ?_⟩
    · rw [List.map_map]
      exact rd_cells hl fun i hi => by rw [(hx i (by omega)).1, (hs i hi).1]; rfl
    · have hi' : i < len := by
        by_cases hi' : i < len
        · exact hi'
        · rw [List.getElem?_eq_none (by simp; omega)] at hi; cases hi
      simp only [List.getElem?_map, List.getElem?_range hi', Option.map_some, Option.some.injEq] at hi hr
      subst hi hr
      exact (hs i hi').2
theorem open_names {spare : Nat → Bool} {fuel : Nat} {cs : List Value} {x : DataW H × List MemPlace} (h : DataW.trod enc Try.prog w 0 spare true fuel 25 cs = some x) :
    ∃ (s : Sl) (l : List ByteArray), cs = [s.val] ∧ Rd 1 (fun _ => True) w s (l.map Value.string) ∧ ∀ x ∈ l, x.size ≤ maxLen := by
  rcases Go.Deep.open_strs Try.underlying25 Try.underlying9 (by kernel_rfl) h with ⟨rfl, _⟩ | ⟨a, len, cap, m, Sx, rfl, _, hl, hm, hmm, _, hx⟩
  · exact ⟨Sl.nil, [], rfl, Rd.nil _ _ _ _ rfl, fun _ h => (by cases h)⟩
  · have hlm : len ≤ m := by rw [hmm]; split <;> omega
    refine ⟨⟨some a, len, cap⟩, (List.range len).map Sx, rfl, ?_, fun x hx' => ?_⟩
    · rw [List.map_map]
      exact rd_cells hl fun i hi => (hx i (by omega)).1
    · rw [List.mem_map] at hx'
      obtain ⟨i, hi, rfl⟩ := hx'
      have := List.mem_range.1 hi
      exact (hx i (by omega)).2
theorem open_ar {spare : Nat → Bool} {fuel : Nat} {cs : List Value} {x : DataW H × List MemPlace} (h : DataW.trod enc Try.prog w 0 spare true fuel 22 cs = some x) :
    ∃ f : Nat → Int, cs = Ar.cs f ∧ ∀ i, i < 256 → 0 ≤ f i ∧ f i < 256 := by
  obtain ⟨xs, m, _, _, hl, hn, hx⟩ := DataW.trod_array Try.underlying22 h
  have h22 : Try.prog.cellsOf 22 = 256 := by kernel_rfl
  have h5 : Try.prog.cellsOf 5 = 1 := by kernel_rfl
  rw [h22] at hl
  obtain ⟨f, hf⟩ := Go.Deep.choose_lt (n := 256) (p := fun i (z : Int) => cs[i]? = some (vU8 z) ∧ 0 ≤ z ∧ z < 256) fun i hi => by
    have h1 := hx i hi
    rw [List.getElem?_eq_getElem (by omega)] at h1
    obtain ⟨z, hz, _, hwf⟩ := DataW.trod_int Try.underlying5 h1
    rw [h5, Nat.mul_one] at hz
    refine ⟨z, ?_, ?_⟩
    · have : ((cs.drop i).take 1)[0]? = some (vU8 z) := by rw [hz]; rfl
      simpa [List.getElem?_take, List.getElem?_drop] using this
    · simp [Lit.wf, IntKind.min, IntKind.max, IntKind.signed, IntKind.bits] at hwf
      omega
  refine ⟨f, ?_, fun i hi => (hf i hi).2⟩
  apply List.ext_getElem?
  intro i
  by_cases hi : i < 256
  · rw [(hf i hi).1, Ar_get _ hi]
  · rw [List.getElem?_eq_none (by omega), List.getElem?_eq_none (by rw [Ar_len]; omega)]
set_option maxRecDepth 100000 in
theorem open_dfa {spare : Nat → Bool} {v : Value} {d0 : DataW H} {p0 : List MemPlace} (hv : Value.okWide Try.prog w .any 0 27 v) (h : DataW.Trod enc Try.prog w 0 spare true 27 v d0 p0) :
    ∃ (d : Dfv) (m : Mc), v = .agg (Dfv.cs d).toArray ∧ DfaAt w d m := by
  obtain ⟨ar, rfl, hsz⟩ := okWide_struct Try.underlying27 hv
  obtain ⟨fuel, h⟩ := h
  obtain ⟨xs, n, _, _, hl, hn, hx⟩ := DataW.trod_struct Try.underlying27 h
  have h27 : Try.prog.cellsOf 27 = 260 := by kernel_rfl
  have h22 : Try.prog.cellsOf 22 = 256 := by kernel_rfl
  have h3 : Try.prog.cellsOf 3 = 1 := by kernel_rfl
  have h23 : Try.prog.cellsOf 23 = 1 := by kernel_rfl
  have h24 : Try.prog.cellsOf 24 = 1 := by kernel_rfl
  have h25 : Try.prog.cellsOf 25 = 1 := by kernel_rfl
  have hn : xs.length = 5 := hn
  rw [h27] at hl
  obtain ⟨cs, hcs⟩ : ∃ cs, cs = (Value.agg ar).cells.toList := ⟨_, rfl⟩
  have hcs' : cs = ar.toList := hcs
  rw [← hcs] at hl hx
  have f0 := hx 0 _ rfl
  have f1 := hx 1 _ rfl
  have f2 := hx 2 _ rfl
  have f3 := hx 3 _ rfl
  have f4 := hx 4 _ rfl
  rw [List.getElem?_eq_getElem (by omega)] at f0 f1 f2 f3 f4
  obtain ⟨of, e0, hof⟩ := open_ar f0
  obtain ⟨wd, e1, _, _⟩ := DataW.trod_int Try.underlying3 f1
  obtain ⟨nx, ln, e2, hnx⟩ := open_rows f2
  obtain ⟨lb, ll, e3, hlb⟩ := open_row f3
  obtain ⟨nm, lm, e4, hnm, hsz2⟩ := open_names f4
  have e0 : (cs.drop 0).take (Try.prog.cellsOf 22) = Ar.cs of := e0
  have e1 : (cs.drop 256).take (Try.prog.cellsOf 3) = [vI wd] := e1
  have e2 : (cs.drop 257).take (Try.prog.cellsOf 23) = [nx.val] := e2
  have e3 : (cs.drop 258).take (Try.prog.cellsOf 24) = [lb.val] := e3
  have e4 : (cs.drop 259).take (Try.prog.cellsOf 25) = [nm.val] := e4
  rw [h22] at e0
  rw [h3] at e1
  rw [h23] at e2
  rw [h24] at e3
  rw [h25] at e4
  refine ⟨⟨of, wd, nx, lb, nm⟩, ⟨of, wd, ln, ll, lm⟩, ?_, ⟨rfl, hof, rfl, hnx, hlb, hnm, hsz2⟩⟩
  have key : cs = Dfv.cs ⟨of, wd, nx, lb, nm⟩ := by
    have split5 : cs = cs.take 256 ++ ((cs.drop 256).take 1 ++ ((cs.drop 257).take 1 ++ ((cs.drop 258).take 1 ++ (cs.drop 259).take 1))) := by
      have hh : ∀ i, i < 260 → cs.drop i = (cs.drop i).take 1 ++ cs.drop (i + 1) := fun i hi => by
        rw [← List.drop_drop, List.take_append_drop]
      conv => lhs; rw [← List.take_append_drop 256 cs, hh 256 (by omega), hh 257 (by omega), hh 258 (by omega), hh 259 (by omega)]
      rw [List.drop_eq_nil_of_le (i := 260) (by omega), List.append_nil]
    rw [split5, Dfv.cs]
    have e0 : cs.take 256 = Ar.cs of := e0
    rw [e0]
    congr 1
    rw [e1, e2, e3, e4]
    rfl
  rw [← key, hcs']
end
end Go.Proofs.Ythepabefikobpaa
