/-
  The statement: whatever is handed in, of bounded bulk, the law answers true and leaves it as it was.
-/
import Derived.Test.YtholdembikenfaaDoorSt1
import Derived.Test.YtholdembikenfaaDoorSt2
import Derived.Test.YtholdembikenfaaDoorFw4
import Derived.Test.YtholdembikenfaaDoorCards
import Derived.Test.YtholdembikenfaaDoorTie
/-
  The statement on expressions where a name is a place, or a number: whatever is handed in, of bounded bulk, the law answers true; and its card.
-/
namespace Go.Proofs.YtholdembikenfaaDoor
open Go Go.Plat
set_option linter.unusedVariables false
set_option linter.unusedSimpArgs false
set_option maxRecDepth 100000
set_option maxHeartbeats 2000000
attribute [local irreducible] NilS LookS NormM bitI BytesS NormL Arith QuoS RemS ShlS ShrS BitS CatS SplitS SideS IdxS CallS LoopEnd EndS ModeS DrawS AWP Meets
open Go.ChangeShapes Go.WideShapes Go.ChangeAt Go.RowKit

abbrev moveSh (K : Nat) : List Sh := [exprSh (K + 1), .str, i64Sh]
theorem exprMoves_params (K : Nat) : chkAll Tryd.prog (moveSh K) Tryd.f5.params.toList = true := by
  have h : chkAll Tryd.prog (moveSh K) Tryd.f5.params.toList = (chk Tryd.prog (exprSh (K + 1)) (.inl 43) && true) := by kernel_rfl
  rw [h, expr_chk]; rfl
theorem exprMoves_vd (K : Nat) : ∀ σ ∈ moveSh K, vdB K σ = true := by
  intro σ h
  simp only [moveSh, List.mem_cons, List.not_mem_nil, or_false] at h
  rcases h with rfl | rfl | rfl
  · exact expr_vd K
  · exact fullB_vd _ _ rfl
  · exact fullB_vd _ _ rfl
theorem exprMoves_def {H : Type} {K : Nat} {ds : List (DataW H)} (h : fitAll (moveSh K) ds) : Rows.exprMovesSpec.fn H (ds ++ []) = { results := [.lit (.bool true)], args := ds } := by
  obtain ⟨d1, d2, d3, rfl, _⟩ := fitAll3 h
  rfl
theorem expr_glob {W : World} (h : laidMetH Tryd.prog Rows.exprMovesUptoRow.laid W) : GOk W F0 := by
  rw [MakeChecks.laidMetH_plain _ _ _ (by kernel_rfl)] at h
  obtain ⟨ps, h, _⟩ := h
  obtain ⟨h1, q1, h⟩ := tab_of_vars (k := .u8) (zs := [0, 1, 28, 2, 29, 14, 24, 3, 30, 22, 20, 15, 25, 17, 4, 8, 31, 27, 13, 23, 21, 19, 16, 7, 26, 12, 18, 6, 11, 5, 10, 9]) (g := 8) (t := 306) (e := 5) (n := 32) (by kernel_rfl) (by kernel_rfl) (by kernel_rfl) (by kernel_rfl) (by kernel_rfl) (by kernel_rfl) (by kernel_rfl) h
  obtain ⟨h2, q2, h⟩ := tab_of_vars (k := .u8) (zs := [0, 1, 56, 2, 57, 49, 28, 3, 61, 58, 42, 50, 38, 29, 17, 4, 62, 47, 59, 36, 45, 43, 51, 22, 53, 39, 33, 30, 24, 18, 12, 5, 63, 55, 48, 27, 60, 41, 37, 16, 46, 35, 44, 21, 52, 32, 23, 11, 54, 26, 40, 15, 34, 20, 31, 10, 25, 14, 19, 9, 13, 8, 7, 6]) (g := 9) (t := 307) (e := 5) (n := 64) (by kernel_rfl) (by kernel_rfl) (by kernel_rfl) (by kernel_rfl) (by kernel_rfl) (by kernel_rfl) (by kernel_rfl) h
  obtain ⟨h3, q3, h⟩ := tab_of_vars (k := .u64) (zs := Lib.pow10Tab) (g := 3) (t := 287) (e := 210) (n := 20) (by kernel_rfl) (by kernel_rfl) (by kernel_rfl) (by kernel_rfl) (by kernel_rfl) (by kernel_rfl) (by kernel_rfl) h
  show GOkL W F0 globs
  unfold globs
  exact gokl_cons (gfact (k := .u64) (by kernel_rfl) h3 (by kernel_rfl)) (gokl_cons (gfact (k := .u8) (by kernel_rfl) h1 (by kernel_rfl)) (gokl_cons (gfact (k := .u8) (by kernel_rfl) h2 (by kernel_rfl)) gokl_nil))
theorem exprMoves_contract {H : Type} {enc : TypeId × Value → H} {W : World} {base : Nat} {args : Array Value} {ds gs : List (DataW H)} {before : List MemPlace}
    (hval : ∀ (j : Nat) t v, Tryd.f5.params[j]? = some t → args[j]? = some v → Value.okWide Tryd.prog W .any base t v)
    (hW : DataW.Whole enc Tryd.prog Tryd.f5.params.toList Rows.exprMovesSpec.vars false W args.toList ds gs before) (hG : GOk W F0) (hk : Rows.uptoSmall H (ds ++ gs) = true) :
    Calls Tryd.prog n_pllaw3_ExprMoves args W fun e W' => ∃ v, e = .returned v ∧ Rows.exprMovesSpec.post enc Tryd.prog Tryd.f5 false true false false W args v W' := by
  have hgs : gs = [] := by obtain ⟨p, q, _, hV, _⟩ := hW; cases gs with | nil => rfl | cons g gs => exact hV.elim
  subst hgs
  refine law_contractK (s := Rows.exprMovesSpec) (σs := moveSh) (tb := 4) exprMoves_params exprMoves_vd (by kernel_rfl) rfl (by kernel_rfl) (fun K h => exprMoves_def h) (fun j t v h1 h2 => ⟨_, _, hval j t v h1 h2⟩) hW hG moves_meets fun K h => ?_
  obtain ⟨d1, d2, d3, rfl, h1, h2, h3⟩ := fitAll3 h
  have hb := bound hk
  rw [List.append_nil] at hb
  simp only [Rows.uptoBulkAll] at hb
  obtain ⟨e, e1, l1⟩ := fit_expr h1
  obtain ⟨s, rfl, e2⟩ := fit_str h2
  obtain ⟨n, e3, hn⟩ := fit_i64 h3
  refine ⟨(e, s, n), ⟨by omega, hn⟩, ?_, rfl, rfl, rfl⟩
  show LeL (rdAll (moveSh K) [d1, .lit (.string s), d3]) _
  simp only [rdAll, e1, e2, e3]
  exact LeL.refl _
theorem exprMoves_lifted (os : Os) (started : os.Started) (H : Type) (enc : TypeId × Value → H) (F : Stop.Interp) :
    ReturnsInHanded {} Tryd.checked os n_pllaw3_ExprMoves .any ((Rows.OpenSpec.upto Rows.exprMovesSpec).preRow enc Tryd.prog Tryd.f5 Rows.exprMovesUptoRow.domain false Rows.exprMovesUptoRow.laid) (((Rows.OpenSpec.upto Rows.exprMovesSpec).at F).post enc Tryd.prog Tryd.f5 false true false false) := by
  refine returnsInHanded_of_row (C := Tryd.checked) (s := Rows.OpenSpec.upto Rows.exprMovesSpec) own started (by kernel_rfl) Tryd.func5
    (witness_row_at (enc := enc) (C := Tryd.checked) (s := Rows.OpenSpec.upto Rows.exprMovesSpec) false (World.laidAll Tryd.prog os Rows.exprMovesUptoRow.laid) #[.agg #[.int .i64 0, .int .i64 0, .string ⟨#[]⟩, .slice none 0 0], .string ⟨#[]⟩, .int .i64 0] (World.laidAll_os _ _ _) (by kernel_rfl) (by kernel_rfl) (by kernel_rfl)
      (OpenSpec.preRow_of_cond 8 (x := ([.agg [.lit (.int .i64 0), .lit (.int .i64 0), .lit (.string []), .nil], .lit (.string []), .lit (.int .i64 0)], [], [])) (by kernel_rfl) (by kernel_rfl) (fun k h => by cases h; kernel_rfl) (by kernel_rfl)
        (by rw [MakeChecks.laidMetH_plain _ _ _ (by kernel_rfl)]; exact laidMet_laidAll _ (by kernel_rfl) (by kernel_rfl)))) ?_
  intro W base args ds gs before hval hW _ hk _ hL _ _
  exact exprMoves_contract hval hW (expr_glob hL) (hk _ rfl)
theorem exprMoves_holds : Rows.ExprMovesUptoSaid :=
  OpenClaim.holds_of_cond n_pllaw3_ExprMoves Tryd.f5 rfl rfl rfl rfl rfl rfl rfl ⟨rfl, rfl, rfl, rfl, rfl⟩ rfl rfl rfl rfl rfl (by kernel_rfl) Tryd.func5 (by kernel_rfl)
    (of_decide_eq_true (by kernel_rfl)) (by unfold Func.isWrapper; first | (rw [if_pos (by decide +kernel)]; kernel_rfl) | (rw [if_neg (by decide +kernel)]; exact ⟨rfl, rfl⟩))
    (fun os started H enc _ F => by rw [OpenClaim.pre_eq_preRow]; exact exprMoves_lifted os started H enc F)
theorem exprMoves_card_holds : Rows.ExprMovesUptoCardSaid :=
  Claim7.holds_tied_plain_at .later [] [.data, .data, .data] true (true, "03d146af7469c8a64736cf4fcde31e23cc98cca8df65312b03610b37a2f2347f") true
    exprMoves_holds (fun _ h => by cases h) (by kernel_rfl) (fun _ h => by cases h) exprMovesUpto_row_tie rfl ⟨rfl, rfl⟩ (by kernel_rfl) rfl
    (fun f fn hf hfn => by
      obtain rfl : f = n_pllaw3_ExprMoves := Option.some.inj ((show Tryd.prog.funcNamed "platelayer/pllaw3.ExprMoves" = some n_pllaw3_ExprMoves by kernel_rfl).symm.trans hf) |>.symm
      obtain rfl : fn = Tryd.f5 := (Option.some.inj (Tryd.func5.symm.trans hfn)).symm
      exact ⟨by kernel_rfl, fun j t ht => by
        have hall : (Tryd.f5.params.toList.all fun u => !Tryd.prog.wantsStandIn u) = true := by kernel_rfl
        have hm : t ∈ Tryd.f5.params.toList := by simpa using Array.mem_of_getElem? ht
        exact (show Tryd.prog.wantsStandIn t = false by simpa using List.all_eq_true.1 hall t hm)⟩)
    (by kernel_rfl)
end Go.Proofs.YtholdembikenfaaDoor
