/-
  Regions that draw their order: evaluated in the order of the text, with what may come in between.
-/
import Derived.Test.YtgmlcpmkonagcaaPlFw11
import Derived.Orders
namespace Go.Plat
open Go
set_option linter.unusedVariables false
set_option linter.unusedSimpArgs false

/-! schedules -/
def Sched (ops : Array Oper) : List Nat → List Nat → Prop
  | dn, [] => ∀ i, i < ops.size → i ∈ dn
  | dn, i :: π => i < ops.size ∧ i ∉ dn ∧ (∀ o, ops[i]? = some o → ∀ e ∈ o.after.toList, Region.binds .any e = true → e.on ∈ dn) ∧ Sched ops (i :: dn) π

theorem filter_lt {p q : Nat → Bool} (h : ∀ x, q x = true → p x = true) {i : Nat} (hp : p i = true) (hq : q i = false) : ∀ {l : List Nat}, i ∈ l → (l.filter q).length < (l.filter p).length
  | [], hi => by simp at hi
  | x :: l, hi => by
    have hle : ∀ l : List Nat, (l.filter q).length ≤ (l.filter p).length := by
      intro l
      induction l with
      | nil => simp
      | cons x l ih =>
        simp only [List.filter_cons]
        cases hqx : q x with
        | true => simp [h x hqx]; exact ih
        | false => cases p x <;> simp <;> omega
    simp only [List.filter_cons]
    rcases List.mem_cons.1 hi with rfl | hi
    · simp [hp, hq]; exact Nat.lt_succ_of_le (hle l)
    · have ih := filter_lt h hp hq hi
      cases hqx : q x with
      | true => simp [h x hqx]; exact ih
      | false => cases p x <;> simp <;> omega

theorem sched_go {ops : Array Oper} (hback : ∀ (i : Nat) o, ops[i]? = some o → ∀ e ∈ o.after.toList, Region.binds .any e = true → e.on < i) :
    ∀ (fuel t : Nat) (listed : Array Bool) (dn : List Nat), listed.size = ops.size → (∀ i, i < ops.size → (listed.getD i true = true ↔ i ∈ dn)) →
      ((List.range ops.size).filter fun i => !dn.contains i).length ≤ fuel → Sched ops dn (Region.linearise.go .any ops fuel t listed [])
  | 0, t, listed, dn, hs, hl, hf => by
    simp only [Region.linearise.go, List.reverse_nil, Sched]
    intro i hi
    have : (List.range ops.size).filter (fun i => !dn.contains i) = [] := List.eq_nil_of_length_eq_zero (by omega)
    rw [List.filter_eq_nil_iff] at this
    have := this i (List.mem_range.2 hi)
    simpa using this
  | fuel + 1, t, listed, dn, hs, hl, hf => by
    simp only [Region.linearise.go]
    generalize hrs : ((List.range ops.size).filter fun i => !listed.getD i true && ((ops[i]?).map (·.after.all fun e => !Region.binds .any e || listed.getD e.on false)).getD false) = rs
    have mem : ∀ i, i ∈ rs ↔ i < ops.size ∧ listed.getD i true = false ∧ ∃ o, ops[i]? = some o ∧ ∀ e ∈ o.after.toList, Region.binds .any e = true → listed.getD e.on false = true := by
      intro i
      rw [← hrs]
      simp only [List.mem_filter, List.mem_range, Bool.and_eq_true, Bool.not_eq_true']
      constructor
      · rintro ⟨h1, h2, h3⟩
        refine ⟨h1, h2, ops[i], Array.getElem?_eq_getElem h1, fun e he hb => ?_⟩
        rw [Array.getElem?_eq_getElem h1] at h3
        simp only [Option.map_some, Option.getD_some, Array.all_eq_true_iff_forall_mem] at h3
        have := h3 e (by simpa using he)
        simpa [hb] using this
      · rintro ⟨h1, h2, o, h3, h4⟩
        refine ⟨h1, h2, ?_⟩
        rw [h3]
        simp only [Option.map_some, Option.getD_some, Array.all_eq_true_iff_forall_mem]
        intro e he
        cases hb : Region.binds .any e with
        | false => simp
        | true => simp [h4 e (by simpa using he) hb]
    have hdn : ∀ j, listed.getD j false = true → j ∈ dn := fun j hj => by
      have hlt : j < listed.size := by
        rcases Nat.lt_or_ge j listed.size with h | h
        · exact h
        · rw [Array.getD_eq_getD_getElem?, Array.getElem?_eq_none h] at hj; simp at hj
      refine (hl j (by omega)).1 ?_
      rw [Array.getD_eq_getD_getElem?, Array.getElem?_eq_getElem hlt] at hj ⊢
      simpa using hj
    have hnd : ∀ j, j ∈ dn → j < ops.size → listed.getD j false = true := fun j hj hlt => by
      have := (hl j hlt).2 hj
      rw [Array.getD_eq_getD_getElem?, Array.getElem?_eq_getElem (by omega)] at this ⊢
      simpa using this
    cases hi : rs[t % rs.length]? with
    | none =>
      have hnil : rs = [] := by
        cases rs with
        | nil => rfl
        | cons x xs =>
          have hlt : t % (x :: xs).length < (x :: xs).length := Nat.mod_lt _ (by simp)
          rw [List.getElem?_eq_getElem hlt] at hi
          cases hi
      simp only [List.reverse_nil, Sched]
      intro i hi
      induction i using Nat.strongRecOn with
      | _ i ih =>
        rcases Classical.em (i ∈ dn) with h | h
        · exact h
        · exfalso
          have : i ∈ rs := (mem i).2 ⟨hi, by
            cases hb : listed.getD i true with
            | false => rfl
            | true => exact (h ((hl i hi).1 hb)).elim, ops[i], Array.getElem?_eq_getElem hi, fun e he hb => by
            have hlt := hback i _ (Array.getElem?_eq_getElem hi) e he hb
            exact hnd _ (ih e.on hlt (by omega)) (by omega)⟩
          rw [hnil] at this
          simp at this
    | some i =>
      simp only []
      rw [linearise_go_acc, List.reverse_singleton, List.singleton_append]
      obtain ⟨h1, h2, o, h3, h4⟩ := (mem i).1 (List.mem_of_getElem? hi)
      have hni : i ∉ dn := fun h => by
        have := (hl i h1).2 h
        rw [h2] at this
        cases this
      refine ⟨h1, hni, fun o' ho' e he hb => ?_, sched_go hback fuel _ _ (i :: dn) (by simpa using hs) (fun j hj => ?_) ?_⟩
      · rw [h3] at ho'
        cases ho'
        exact hdn _ (h4 e he hb)
      · rw [Array.getD_eq_getD_getElem?, Array.getElem?_setIfInBounds]
        split
        · rename_i hij
          subst hij
          simp [hs, hj]
        · rename_i hij
          rw [← Array.getD_eq_getD_getElem?, hl j hj]
          simp [Ne.symm hij]
      · have := filter_lt (p := fun i => !dn.contains i) (q := fun j => !(i :: dn).contains j) (fun x hx => by simp at hx ⊢; exact hx.2) (i := i) (by simpa using hni) (by simp) (List.mem_range.2 h1)
        omega

theorem sched_any {ops : Array Oper} (hback : ∀ (i : Nat) o, ops[i]? = some o → ∀ e ∈ o.after.toList, Region.binds .any e = true → e.on < i) (t : Nat) : Sched ops [] (Region.schedule true ops t) := by
  simp only [Region.schedule, Bool.true_or, if_true, Region.linearise]
  refine sched_go hback _ _ _ _ (by simp) (fun i hi => ?_) ?_
  · rw [Array.getD_eq_getD_getElem?, Array.getElem?_replicate, if_pos hi]
    simp
  · refine Nat.le_trans (List.length_filter_le _ _) ?_
    simp

end Go.Plat
