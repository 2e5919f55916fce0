/-
  append: the condition is enough.
-/
import Derived.Test.YtgmlcpmkonagcaaPlApp2
namespace Go.Plat
open Go
set_option linter.unusedVariables false
set_option linter.unusedSimpArgs false

/-- elements, as values one behind the other -/
def RowsOf (w : World) (F : Nat → Nat → Prop) (e : Nat) (ys : List D) (news : List Value) : Prop :=
  news.length = ys.length * e ∧ (∀ v ∈ news, v.oneCell' = true) ∧ ∀ (i : Nat) d (j : Nat) c, ys[i]? = some d → d.cells[j]? = some c → ∃ u, news[i * e + j]? = some u ∧ RepP w F c u

theorem ysK_sound {P : Program} {T : Tab} (hT : TabOk P T) {e : Nat} {j : TI} (hj : TIOk P e j) {t2 : Nat} {y : D} {K : List D → Prop} (h : ysK T t2 j.size y K) :
    ∃ ys, K ys ∧ ∀ (w : World) (ρ : Pl) (L : List Ob) (v : Value), Rep w (foot ρ L) ρ L y v → ys.length ≤ 4611686018427387904 →
      (∀ (i : Nat) d, ys[i]? = some d → d.cells.length = j.size) ∧ ∃ news, Appendix P w e j t2 v ys.length news ∧ RowsOf w (foot ρ L) j.size ys news := by
  unfold ysK at h
  split at h <;> try exact h.elim
  rename_i i2 hi2
  have hi2 := hT _ _ hi2
  split at h <;> try exact h.elim
  · rename_i e2 hd
    have hu := under_slice hi2 hd
    split at h <;> try exact h.elim
    · rename_i e' ys tok
      split at h <;> try exact h.elim
      rename_i hes
      have hes := Nat.eq_of_beq_eq_true hes
      subst hes
      have hcl : ∀ w F v, RepP w F (.sl j.size ys none) v → ∀ (i : Nat) d, ys[i]? = some d → d.cells.length = j.size := by
        intro w F v hv
        rcases hv.sl_shape with ⟨h1, _, _⟩ | ⟨b, off, cap, h1, h2, h3, h4⟩
        · subst h1; simp
        · exact h3
      · refine ⟨ys, h, fun w ρ L v hv hb => ⟨hcl _ _ _ hv.sl_inv, ?_⟩⟩
        rcases hv.sl_inv.sl_shape with ⟨h1, ad, h2⟩ | ⟨b, off, cap, h1, h2, h3, h4⟩
        · subst h1; subst h2
          refine ⟨[], ?_, ⟨by simp, by simp, by simp⟩⟩
          refine .of_cells hj hu (by intro k; simp) (fun w => rfl) (by simp) (by simp) fun w' hw => ?_
          cases ad <;> simp [Builtin.firstCells, loadCells, loadCellsFrom]
        · subst h1
          obtain ⟨vs, h5, h6, h7, h8⟩ := flat_cells (Nat.pos_of_ne_zero hj.pos) h3 h4 hv.sl_inv.sl_one
          refine ⟨vs, ?_, h5, h6, h8⟩
          refine .of_cells hj hu (by intro k; simp) (fun w => rfl) h5 hb fun w' hw => ?_
          exact run_firstCells_some w' _ _ ⟨b, off, none⟩ _ _ vs h5 fun q u hq => by
            rw [addr_add, hw]; exact (h7 q u hq).1
    · refine ⟨[], h, fun w ρ L v hv _ => ⟨by simp, ?_⟩⟩
      obtain ⟨a, hv⟩ := hv.nilsl_inv
      subst hv
      refine ⟨[], ?_, ⟨by simp, by simp, by simp⟩⟩
      refine .of_cells hj hu (by intro k; simp) (fun w => rfl) (by simp) (by simp) fun w' hw => ?_
      cases a <;> simp [Builtin.firstCells, loadCells, loadCellsFrom]
  · rename_i hd
    have hu := under_str hi2 hd
    split at h <;> try exact h.elim
    rename_i s
    split at h <;> try exact h.elim
    rename_i h1
    have h1 := Nat.eq_of_beq_eq_true h1
    refine ⟨_, h, fun w ρ L v hv hb => ⟨fun i d hd => ?_, ?_⟩⟩
    · simp only [List.getElem?_map, Option.map_eq_some_iff] at hd
      obtain ⟨c, _, rfl⟩ := hd
      exact h1.symm
    · have hv := hv.str_inv
      subst hv
      refine ⟨s.map fun c => .int .u8 c.toNat, ?_, by simp [h1], by simp; intro a _; rfl, fun i d q c hi hq => ?_⟩
      · refine .of_cells hj hu (by intro k; simp) (fun w => ?_) (by simp [h1]) hb fun w' hw => ?_
        · simp [Builtin.lenOf, size_mk]
        · simp [Builtin.firstCells]
      · simp only [List.getElem?_map, Option.map_eq_some_iff] at hi
        obtain ⟨c', h2, rfl⟩ := hi
        cases q with
        | zero =>
          simp [D.cells] at hq
          subst hq
          exact ⟨.int .u8 c'.toNat, by simp [h1, h2], .int _ _⟩
        | succ q => simp [D.cells] at hq

end Go.Plat
