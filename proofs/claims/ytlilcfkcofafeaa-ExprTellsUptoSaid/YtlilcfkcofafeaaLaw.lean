/-
  The statement: whatever is handed in, of bounded bulk, the law answers true and leaves it as it was.
-/
import Derived.Test.YtlilcfkcofafeaaSt3
/-
  The statement that tells of expressions: whatever tokens, expression and names, of bounded bulk, the law answers true.
-/
namespace Go.Proofs.Ytlilcfkcofafeaa
open Go Go.Plat
set_option linter.unusedVariables false
set_option linter.unusedSimpArgs false
set_option maxRecDepth 100000
set_option maxHeartbeats 2000000
attribute [local irreducible] NilS LookS NormM bitI BytesS NormL Arith QuoS RemS ShlS ShrS BitS CatS SplitS SideS IdxS CallS LoopEnd EndS ModeS DrawS AWP Meets
open Go.ChangeShapes Go.WideShapes Go.ChangeAt Go.RowKit

theorem exprTells_params (K : Nat) : chkAll Try.prog (tellSh K) Try.f3.params.toList = true := by
  have h : chkAll Try.prog (tellSh K) Try.f3.params.toList = (chk Try.prog (exprSh (K + 1)) (.inl 25) && true) := by kernel_rfl
  rw [h, expr_chk]; rfl
theorem exprTells_vd (K : Nat) : ∀ σ ∈ tellSh K, vdB K σ = true := by
  intro σ h
  simp only [tellSh, List.mem_cons, List.not_mem_nil, or_false] at h
  rcases h with rfl | rfl | rfl
  · exact fullB_vd _ _ rfl
  · exact expr_vd K
  · exact fullB_vd _ _ rfl
theorem exprTells_def {H : Type} {K : Nat} {ds : List (DataW H)} (h : fitAll (tellSh K) ds) : Rows.exprTellsSpec.fn H (ds ++ []) = { results := [.lit (.bool true)], args := ds } := by
  obtain ⟨d1, d2, d3, rfl, _⟩ := fitAll3 h
  rfl
theorem exprTells_contract {H : Type} {enc : TypeId × Value → H} {W : World} {base : Nat} {args : Array Value} {ds gs : List (DataW H)} {before : List MemPlace}
    (hval : ∀ (j : Nat) t v, Try.f3.params[j]? = some t → args[j]? = some v → Value.okWide Try.prog W .any base t v)
    (hW : DataW.Whole enc Try.prog Try.f3.params.toList Rows.exprTellsSpec.vars false W args.toList ds gs before) (hk : Rows.uptoSmall H (ds ++ gs) = true) :
    Calls Try.prog n_pllaw3_ExprTells args W fun e W' => ∃ v, e = .returned v ∧ Rows.exprTellsSpec.post enc Try.prog Try.f3 false true false false W args v W' := by
  have hgs : gs = [] := by obtain ⟨p, q, _, hV, _⟩ := hW; cases gs with | nil => rfl | cons g gs => exact hV.elim
  subst hgs
  refine law_contractK (s := Rows.exprTellsSpec) (σs := tellSh) (tb := 4) exprTells_params exprTells_vd (by kernel_rfl) rfl (by kernel_rfl) (fun K h => exprTells_def h) (fun j t v h1 h2 => ⟨_, _, hval j t v h1 h2⟩) hW tells_meets fun K h => ?_
  obtain ⟨L, e, l, h1, h2, h3, h4, h5⟩ := fit_tells h (by have := bound hk; rwa [List.append_nil] at this)
  exact ⟨(L, e, l), ⟨h2, h3, h4, h5⟩, by rw [h1]; exact LeL.refl _, rfl, rfl, rfl⟩
theorem exprTells_lifted (os : Os) (started : os.Started) (H : Type) (enc : TypeId × Value → H) (F : Stop.Interp) :
    ReturnsInHanded {} Try.checked os n_pllaw3_ExprTells .any ((Rows.OpenSpec.upto Rows.exprTellsSpec).pre6 enc Try.prog Try.f3 Rows.exprTellsUptoRow.domain false) (((Rows.OpenSpec.upto Rows.exprTellsSpec).at F).post enc Try.prog Try.f3 false true false false) := by
  refine returnsInHanded_of_cond (C := Try.checked) (s := Rows.OpenSpec.upto Rows.exprTellsSpec) (k := Rows.uptoSmall) rfl own started (by kernel_rfl) Try.func3
    (OpenSpec.witness (enc := enc) (C := Try.checked) (s := Rows.OpenSpec.upto Rows.exprTellsSpec) (k := Rows.uptoSmall) rfl false ⟨#[], #[.slice none 0 0, .agg #[.int .i64 0, .int .i64 0, .string ⟨#[]⟩, .slice none 0 0], .slice none 0 0], []⟩ 8 (by kernel_rfl) (by kernel_rfl) (by kernel_rfl)
      (x := ([.nil, .agg [.lit (.int .i64 0), .lit (.int .i64 0), .lit (.string []), .nil], .nil], [], [])) (by kernel_rfl) rfl (by kernel_rfl)) ?_
  intro W base args ds gs before hval hW _ hk _
  exact exprTells_contract hval hW hk
theorem exprTells_holds : Rows.ExprTellsUptoSaid :=
  OpenClaim.holds_of_cond n_pllaw3_ExprTells Try.f3 rfl rfl rfl rfl rfl rfl rfl ⟨rfl, rfl, rfl, rfl, rfl⟩ rfl rfl rfl rfl rfl (by kernel_rfl) Try.func3 (by kernel_rfl)
    (of_decide_eq_true (by kernel_rfl)) (by unfold Func.isWrapper; first | (rw [if_pos (by decide +kernel)]; kernel_rfl) | (rw [if_neg (by decide +kernel)]; exact ⟨rfl, rfl⟩))
    (fun os started H enc _ F => exprTells_lifted os started H enc F)
end Go.Proofs.Ytlilcfkcofafeaa
