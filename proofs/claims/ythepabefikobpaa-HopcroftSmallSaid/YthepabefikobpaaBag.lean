/- A region whose operations may come in any order that their edges allow: an invariant over those that have been carried out. No condition. -/
import Derived.Test.YthepabefikobpaaRng
namespace Go.Sh
open Go
theorem Any.bag {P : Program} {ops : Array Oper} {K : Env → World → Prop} (n : Nat) (hn : ops.size = n) (J : Array Bool → Env → World → Prop)
    (hdag : ∀ (j : Nat) (o : Oper), ops[j]? = some o → ∀ e ∈ o.after, Region.binds .any e = true → e.on < j)
    (step : ∀ listed ρ w (j : Nat) (o : Oper), listed.size = n → J listed ρ w → j < n → ops[j]? = some o → listed.getD j true = false → (∀ e ∈ o.after, Region.binds .any e = true → listed.getD e.on false = true) → St P ops o (fun ρ' w' => J (listed.setIfInBounds j true) ρ' w') ρ w)
    (fin : ∀ listed ρ w, listed.size = n → J listed ρ w → (∀ j, j < n → listed.getD j false = true) → K ρ w) :
    ∀ (fuel : Nat) (listed : Array Bool) (ρ : Env) (w : World), listed.size = n → listed.toList.count false ≤ fuel → J listed ρ w → Any P ops K fuel listed [] ρ w := by
  have hall : ∀ listed : Array Bool, listed.size = n → Region.ready .any ops listed = [] → ∀ j, j < n → listed.getD j false = true := by
    intro listed hs hr j
    induction j using Nat.strongRecOn with
    | _ j ih =>
      intro hj
      apply Classical.byContradiction
      intro hne
      have hlt : j < listed.size := by omega
      have h1 : listed.getD j true = false := by
        simp only [Array.getD_eq_getD_getElem?, Array.getElem?_eq_getElem hlt, Option.getD_some] at hne ⊢
        simpa using hne
      have ho : ops[j]? = some ops[j] := Array.getElem?_eq_getElem (by omega)
      have : j ∈ Region.ready .any ops listed := mem_ready.2 ⟨h1, _, ho, fun e he hb => ih e.on (hdag j _ ho e he hb) (by have := hdag j _ ho e he hb; omega)⟩
      rw [hr] at this
      cases this
  intro fuel
  induction fuel with
  | zero =>
    intro listed ρ w hs hc hJ
    have hnone : ∀ j, j < n → listed.getD j false = true := by
      intro j hj
      have hlt : j < listed.size := by omega
      have h0 : false ∉ listed.toList := List.count_eq_zero.1 (by omega)
      simp only [Array.getD_eq_getD_getElem?, Array.getElem?_eq_getElem hlt, Option.getD_some]
      cases hv : listed[j] with
      | true => rfl
      | false => exact absurd (hv ▸ (by simp : listed[j] ∈ listed.toList)) h0
    refine ⟨?_, fin listed ρ w hs hJ hnone⟩
    cases hr : Region.ready .any ops listed with
    | nil => rfl
    | cons j l =>
      have hm : j ∈ Region.ready .any ops listed := by rw [hr]; exact List.mem_cons_self
      obtain ⟨h1, o, ho, _⟩ := mem_ready.1 hm
      have hj : j < n := by rw [← hn]; exact (Array.getElem?_eq_some_iff.1 ho).1
      have := hnone j hj
      have hlt : j < listed.size := by omega
      simp only [Array.getD_eq_getD_getElem?, Array.getElem?_eq_getElem hlt, Option.getD_some] at this h1
      rw [this] at h1; cases h1
  | succ fuel ih =>
    intro listed ρ w hs hc hJ
    refine ⟨fun hr => fin listed ρ w hs hJ (hall listed hs hr), fun j hj o ho => ?_⟩
    obtain ⟨h1, o', ho', hd⟩ := mem_ready.1 hj
    obtain rfl : o = o' := by simpa [ho] using ho'
    have hjn : j < n := by rw [← hn]; exact (Array.getElem?_eq_some_iff.1 ho).1
    refine (step listed ρ w j o hs hJ hjn ho h1 hd).mono fun ρ' w' hJ' => ⟨(fun p hp => by cases hp), ?_⟩
    refine ih _ ρ' w' (by simpa using hs) ?_ hJ'
    have hlt : j < listed.toList.length := by simpa using (by omega : j < listed.size)
    rw [Array.toList_setIfInBounds, List.count_set hlt]
    have hv : listed.toList[j] = false := by
      simp only [Array.getD_eq_getD_getElem?, Array.getElem?_eq_getElem (show j < listed.size by omega), Option.getD_some] at h1
      simpa using h1
    rw [hv]
    have hpos : 0 < listed.toList.count false := List.count_pos_iff.2 (hv ▸ List.getElem_mem hlt)
    rw [if_pos (by rfl), if_neg (by decide)]
    omega
theorem getD_set_self {listed : Array Bool} {j k : Nat} (h : (listed.setIfInBounds j true).getD k false = true) : k = j ∨ listed.getD k false = true := by
  by_cases e : k = j
  · exact .inl e
  · right
    rwa [getD_set_ne false (fun e' => e e'.symm)] at h
def dagB (ops : Array Oper) : Bool := (List.range ops.size).all fun j => match ops[j]? with
  | some o => o.after.all fun e => !Region.binds .any e || decide (e.on < j)
  | none => true
theorem dag_of {ops : Array Oper} (h : dagB ops = true) : ∀ (j : Nat) (o : Oper), ops[j]? = some o → ∀ e ∈ o.after, Region.binds .any e = true → e.on < j := by
  intro j o ho e he hb
  rw [dagB, List.all_eq_true] at h
  have h1 := h j (List.mem_range.2 (Array.getElem?_eq_some_iff.1 ho).1)
  rw [ho] at h1
  simp only [Array.all_eq_true'] at h1
  have := h1 e he
  rw [hb] at this
  simpa using this
theorem getD_false {listed : Array Bool} {j : Nat} (h : listed.getD j true = false) : listed.getD j false = false := by
  by_cases hj : j < listed.size
  · simp only [Array.getD_eq_getD_getElem?, Array.getElem?_eq_getElem hj, Option.getD_some] at h ⊢
    exact h
  · rw [Array.getD_eq_getD_getElem?, Array.getElem?_eq_none (by omega)]; rfl
theorem oper_eq {ops : Array Oper} {j : Nat} {o : Oper} (ho : ops[j]? = some o) (d : Option Tmp) (op : Op) (h : (ops[j]?).map (fun o => (o.dst, o.op, o.guard)) = some (d, op, none)) : ∃ ty pos af, o = ⟨d, op, ty, pos, af, none⟩ := by
  rw [ho] at h
  obtain ⟨d', op', ty, pos, af, g⟩ := o
  simp only [Option.map_some, Option.some.injEq, Prod.mk.injEq] at h
  obtain ⟨rfl, rfl, rfl⟩ := h
  exact ⟨_, _, _, rfl⟩
def depB (l : List Nat) (o : Oper) : Bool := l.all fun i => o.after.any fun e => Region.binds .any e && Nat.beq e.on i
theorem oper_dep {ops : Array Oper} {j : Nat} {o : Oper} {listed : Array Bool} (ho : ops[j]? = some o) (l : List Nat) (h : (ops[j]?).map (depB l) = some true) (hdep : ∀ e ∈ o.after, Region.binds .any e = true → listed.getD e.on false = true) : ∀ i ∈ l, listed.getD i false = true := by
  intro i hi
  rw [ho, Option.map_some, Option.some.injEq, depB, List.all_eq_true] at h
  have := h i hi
  simp only [Array.any_eq_true', Bool.and_eq_true] at this
  obtain ⟨e, he, hb, hon⟩ := this
  rw [← Nat.eq_of_beq_eq_true hon]
  exact hdep e he hb
end Go.Sh
