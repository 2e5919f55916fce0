/-
  The statement: whatever is handed in, of bounded bulk, the law answers true and leaves it as it was.
-/
import Derived.Test.YtgmlcpmkonagcaaSt1
/-
  The closed sentence: each constant has its value.
-/
namespace Go.Proofs.Ytgmlcpmkonagcaa
open Go Go.Plat
set_option linter.unusedVariables false
set_option linter.unusedSimpArgs false
set_option maxRecDepth 100000
set_option maxHeartbeats 2000000
attribute [local irreducible] BytesS NormL Arith QuoS RemS ShlS ShrS BitS CatS SplitS SideS IdxS CallS LoopEnd EndS ModeS DrawS AWP Meets
open Go.ChangeShapes Go.WideShapes Go.ChangeAt Go.RowKit

abbrev names_spec : Plat.Spec := SpecP (fun _ : Unit => True) (fun _ => []) fun _ => .bool true
theorem names_def {H : Type} {ds : List (DataW H)} (h : fitAll [] ds) : Rows.namesSpec.fn H (ds ++ []) = { results := [.lit (.bool true)], args := ds } := by
  obtain rfl := fitAll0 h
  rfl
theorem names_fits {H : Type} {ds : List (DataW H)} (h : fitAll [] ds) (hl : Rows.uptoBulkAll ds ≤ 1048576) : names_spec (rdAll [] ds) [] (.bool true) [] := by
  obtain rfl := fitAll0 h
  exact ⟨(), trivial, LeL.refl _, rfl, rfl, rfl⟩
theorem names_params : chkAll Try.prog [] Try.f6.params.toList = true := by kernel_rfl
theorem names_contract {H : Type} {enc : TypeId × Value → H} {W : World} {base : Nat} {args : Array Value} {ds gs : List (DataW H)} {before : List MemPlace}
    (hval : ∀ (j : Nat) t v, Try.f6.params[j]? = some t → args[j]? = some v → Value.okWide Try.prog W .any base t v)
    (hW : DataW.Whole enc Try.prog Try.f6.params.toList Rows.namesSpec.vars false W args.toList ds gs before) (hk : Rows.uptoSmall H (ds ++ gs) = true)
    (hsp : fitAll [] ds → Rows.uptoBulkAll ds ≤ 1048576 → names_spec (rdAll [] ds) [] (.bool true) []) (hdef : fitAll [] ds → Rows.namesSpec.fn H (ds ++ []) = { results := [.lit (.bool true)], args := ds }) :
    Calls Try.prog n_pltop_Names args W fun e W' => ∃ v, e = .returned v ∧ Rows.namesSpec.post enc Try.prog Try.f6 false true false false W args v W' := by
  have hgs : gs = [] := by obtain ⟨p, q, _, hV, _⟩ := hW; cases gs with | nil => rfl | cons g gs => exact hV.elim
  subst hgs
  exact law_contract (s := Rows.namesSpec) (tb := 4) names_params rfl (by kernel_rfl) (by kernel_rfl) hdef (fun j t v h1 h2 => ⟨_, _, hval j t v h1 h2⟩) hW names_meets
    fun h => hsp h (by have := bound hk; rwa [List.append_nil] at this)
theorem names_lifted (os : Os) (started : os.Started) (H : Type) (enc : TypeId × Value → H) (F : Stop.Interp) :
    ReturnsInHanded {} Try.checked os n_pltop_Names .any ((Rows.OpenSpec.upto Rows.namesSpec).pre6 enc Try.prog Try.f6 Rows.namesUptoRow.domain false) (((Rows.OpenSpec.upto Rows.namesSpec).at F).post enc Try.prog Try.f6 false true false false) := by
  refine returnsInHanded_of_cond (C := Try.checked) (s := Rows.OpenSpec.upto Rows.namesSpec) (k := Rows.uptoSmall) rfl own started (by kernel_rfl) Try.func6
    (OpenSpec.witness (enc := enc) (C := Try.checked) (s := Rows.OpenSpec.upto Rows.namesSpec) (k := Rows.uptoSmall) rfl false ⟨#[], #[], []⟩ 8 (by kernel_rfl) (by kernel_rfl) (by kernel_rfl)
      (x := ([], [], [])) (by kernel_rfl) rfl (by kernel_rfl)) ?_
  intro W base args ds gs before hval hW _ hk _
  refine names_contract hval hW hk (fun h hl => ?_) fun h => names_def h
  exact names_fits h hl
theorem names_holds : Rows.NamesUptoSaid :=
  OpenClaim.holds_of_cond n_pltop_Names Try.f6 rfl rfl rfl rfl rfl rfl rfl ⟨rfl, rfl, rfl, rfl, rfl⟩ rfl rfl rfl rfl rfl (by kernel_rfl) Try.func6 (by kernel_rfl)
    (of_decide_eq_true (by kernel_rfl)) (by unfold Func.isWrapper; first | (rw [if_pos (by decide +kernel)]; kernel_rfl) | (rw [if_neg (by decide +kernel)]; exact ⟨rfl, rfl⟩))
    (fun os started H enc _ F => names_lifted os started H enc F)
end Go.Proofs.Ytgmlcpmkonagcaa
