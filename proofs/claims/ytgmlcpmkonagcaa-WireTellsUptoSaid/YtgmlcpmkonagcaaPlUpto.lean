/-
  What the bound on what is handed in gives.
-/
import Derived.Test.YtgmlcpmkonagcaaPlTab
import Derived.Test.YtgmlcpmkonagcaaPlBr4
import Derived.Test.YtgmlcpmkonagcaaRows
import Derived.WalkKit
import Derived.ProofKit
import Derived.OpenShut
import Derived.JoinedCond
namespace Go.Proofs.Ytgmlcpmkonagcaa
open Go Go.Plat
set_option linter.unusedVariables false
set_option linter.unusedSimpArgs false
set_option maxRecDepth 100000
set_option maxHeartbeats 2000000
attribute [local irreducible] BytesS NormL Arith QuoS RemS ShlS ShrS BitS CatS SplitS SideS IdxS CallS LoopEnd EndS ModeS DrawS AWP Meets
theorem own : ownKnob Try.prog.godebug = none := by kernel_rfl

theorem one_le {H : Type} (d : DataW H) : 1 ≤ Rows.uptoBulk d := by
  cases d with
  | lit l => cases l <;> simp [Rows.uptoBulk]
  | nil => simp [Rows.uptoBulk]
  | ptr d => simp [Rows.uptoBulk]
  | slice el sp => simp [Rows.uptoBulk]
  | agg ps => simp [Rows.uptoBulk]
  | iface t d => simp [Rows.uptoBulk]
  | map es => simp [Rows.uptoBulk]
  | held h => simp [Rows.uptoBulk]
theorem part_le {H : Type} {d : DataW H} {l : List (DataW H)} (h : d ∈ l) : Rows.uptoBulk d ≤ Rows.uptoBulkAll l := by
  induction l with
  | nil => cases h
  | cons x r ih =>
    simp only [Rows.uptoBulkAll]
    cases List.mem_cons.1 h with
    | inl e => subst e; omega
    | inr e => have := ih e; omega
theorem length_le {H : Type} (l : List (DataW H)) : l.length ≤ Rows.uptoBulkAll l := by
  induction l with
  | nil => simp [Rows.uptoBulkAll]
  | cons x r ih => have := one_le x; simp only [Rows.uptoBulkAll, List.length_cons]; omega
theorem elems_all {H : Type} (d : DataW H) : Rows.uptoBulkAll (elems d) ≤ Rows.uptoBulk d := by
  cases d <;> simp only [elems, Rows.uptoBulk, Rows.uptoBulkAll] <;> omega
theorem elems_le {H : Type} (d : DataW H) : (elems d).length ≤ Rows.uptoBulk d := Nat.le_trans (length_le _) (elems_all d)
theorem bound {H : Type} {l : List (DataW H)} (hk : Rows.uptoSmall H l = true) : Rows.uptoBulkAll l ≤ 1048576 := of_decide_eq_true hk
end Go.Proofs.Ytgmlcpmkonagcaa
