/-
  The statement: whatever is handed in, of bounded bulk, the law answers true and leaves it as it was.
-/
import Derived.Test.YtdhpodgaeholmaaDoorSt1
import Derived.Test.YtdhpodgaeholmaaDoorSt2
import Derived.Test.YtdhpodgaeholmaaDoorFw4
import Derived.Test.YtdhpodgaeholmaaDoorCards
import Derived.Test.YtdhpodgaeholmaaDoorTie
/-
  The statement on expressions that are written, and read again: whatever is handed in, of bounded bulk, the law answers true; and its card.
-/
namespace Go.Proofs.YtdhpodgaeholmaaDoor
open Go Go.Plat
set_option linter.unusedVariables false
set_option linter.unusedSimpArgs false
set_option maxRecDepth 100000
set_option maxHeartbeats 2000000
attribute [local irreducible] NilS LookS NormM bitI BytesS NormL Arith QuoS RemS ShlS ShrS BitS CatS SplitS SideS IdxS CallS LoopEnd EndS ModeS DrawS AWP Meets
open Go.ChangeShapes Go.WideShapes Go.ChangeAt Go.RowKit

abbrev printSh : List Sh := [.sl 3 tokSh, .sl 2 equSh]
theorem exprPrint_params : chkAll Tryd.prog printSh Tryd.f3.params.toList = true := by kernel_rfl
theorem exprPrint_vd : ∀ σ ∈ printSh, fullB σ = true := by decide
theorem exprPrint_def {H : Type} {ds : List (DataW H)} (h : fitAll printSh ds) : Rows.exprPrintSpec.fn H (ds ++ []) = { results := [.lit (.bool true)], args := ds } := by
  obtain ⟨d1, d2, rfl, _⟩ := fitAll2 h
  rfl
theorem expr_glob {W : World} (h : laidMetH Tryd.prog Rows.exprPrintUptoRow.laid W) : GOk W F0 := by
  rw [MakeChecks.laidMetH_plain _ _ _ (by kernel_rfl)] at h
  obtain ⟨ps, h, _⟩ := h
  obtain ⟨h1, q1, h⟩ := tab_of_vars (k := .u8) (zs := [0, 1, 28, 2, 29, 14, 24, 3, 30, 22, 20, 15, 25, 17, 4, 8, 31, 27, 13, 23, 21, 19, 16, 7, 26, 12, 18, 6, 11, 5, 10, 9]) (g := 8) (t := 205) (e := 5) (n := 32) (by kernel_rfl) (by kernel_rfl) (by kernel_rfl) (by kernel_rfl) (by kernel_rfl) (by kernel_rfl) (by kernel_rfl) h
  obtain ⟨h2, q2, h⟩ := tab_of_vars (k := .u8) (zs := [0, 1, 56, 2, 57, 49, 28, 3, 61, 58, 42, 50, 38, 29, 17, 4, 62, 47, 59, 36, 45, 43, 51, 22, 53, 39, 33, 30, 24, 18, 12, 5, 63, 55, 48, 27, 60, 41, 37, 16, 46, 35, 44, 21, 52, 32, 23, 11, 54, 26, 40, 15, 34, 20, 31, 10, 25, 14, 19, 9, 13, 8, 7, 6]) (g := 9) (t := 206) (e := 5) (n := 64) (by kernel_rfl) (by kernel_rfl) (by kernel_rfl) (by kernel_rfl) (by kernel_rfl) (by kernel_rfl) (by kernel_rfl) h
  obtain ⟨h3, q3, h⟩ := tab_of_vars (k := .u64) (zs := Lib.pow10Tab) (g := 3) (t := 187) (e := 145) (n := 20) (by kernel_rfl) (by kernel_rfl) (by kernel_rfl) (by kernel_rfl) (by kernel_rfl) (by kernel_rfl) (by kernel_rfl) h
  show GOkL W F0 globs
  unfold globs
  exact gokl_cons (gfact (k := .u64) (by kernel_rfl) h3 (by kernel_rfl)) (gokl_cons (gfact (k := .u8) (by kernel_rfl) h1 (by kernel_rfl)) (gokl_cons (gfact (k := .u8) (by kernel_rfl) h2 (by kernel_rfl)) gokl_nil))
theorem exprPrint_contract {H : Type} {enc : TypeId × Value → H} {W : World} {base : Nat} {args : Array Value} {ds gs : List (DataW H)} {before : List MemPlace}
    (hval : ∀ (j : Nat) t v, Tryd.f3.params[j]? = some t → args[j]? = some v → Value.okWide Tryd.prog W .any base t v)
    (hW : DataW.Whole enc Tryd.prog Tryd.f3.params.toList Rows.exprPrintSpec.vars false W args.toList ds gs before) (hG : GOk W F0) (hk : Rows.uptoSmall H (ds ++ gs) = true) :
    Calls Tryd.prog n_pllaw3_ExprPrint args W fun e W' => ∃ v, e = .returned v ∧ Rows.exprPrintSpec.post enc Tryd.prog Tryd.f3 false true false false W args v W' := by
  have hgs : gs = [] := by obtain ⟨p, q, _, hV, _⟩ := hW; cases gs with | nil => rfl | cons g gs => exact hV.elim
  subst hgs
  refine law_contract (s := Rows.exprPrintSpec) (tb := 4) exprPrint_params (by kernel_rfl) rfl (by kernel_rfl) (by kernel_rfl) (fun h => exprPrint_def h) (fun j t v h1 h2 => ⟨_, _, hval j t v h1 h2⟩) hW hG print_walk fun h => ?_
  obtain ⟨d1, d2, rfl, h1, h3⟩ := fitAll2 h
  have hb := bound hk
  rw [List.append_nil] at hb
  simp only [Rows.uptoBulkAll] at hb
  obtain ⟨L, e1, l1, q1⟩ := fit_sl (g := tokD) (Q := fun d t => 1 + t.text.length ≤ Rows.uptoBulk d) h1 fun x _ hx => fit_tok hx
  obtain ⟨l, e3, l3, _⟩ := fit_sl (g := equD) (Q := fun _ _ => True) h3 fun x _ hx => by
    obtain ⟨s, h⟩ := fit_equ hx
    exact ⟨s, h, trivial⟩
  have w := wt_le l1 q1
  have b1 := elems_all d1
  have b2 := elems_le d1
  have b3 := elems_le d2
  refine ⟨(L, l), ⟨by omega, by omega, by omega⟩, ?_, rfl, rfl, rfl⟩
  show LeL (rdAll printSh [d1, d2]) _
  simp only [rdAll, e1, e3]
  exact LeL.refl _
theorem exprPrint_lifted (os : Os) (started : os.Started) (H : Type) (enc : TypeId × Value → H) (F : Stop.Interp) :
    ReturnsInHanded {} Tryd.checked os n_pllaw3_ExprPrint .any ((Rows.OpenSpec.upto Rows.exprPrintSpec).preRow enc Tryd.prog Tryd.f3 Rows.exprPrintUptoRow.domain false Rows.exprPrintUptoRow.laid) (((Rows.OpenSpec.upto Rows.exprPrintSpec).at F).post enc Tryd.prog Tryd.f3 false true false false) := by
  refine returnsInHanded_of_row (C := Tryd.checked) (s := Rows.OpenSpec.upto Rows.exprPrintSpec) own started (by kernel_rfl) Tryd.func3
    (witness_row_at (enc := enc) (C := Tryd.checked) (s := Rows.OpenSpec.upto Rows.exprPrintSpec) false (World.laidAll Tryd.prog os Rows.exprPrintUptoRow.laid) #[.slice none 0 0, .slice none 0 0] (World.laidAll_os _ _ _) (by kernel_rfl) (by kernel_rfl) (by kernel_rfl)
      (OpenSpec.preRow_of_cond 8 (x := ([.nil, .nil], [], [])) (by kernel_rfl) (by kernel_rfl) (fun k h => by cases h; kernel_rfl) (by kernel_rfl)
        (by rw [MakeChecks.laidMetH_plain _ _ _ (by kernel_rfl)]; exact laidMet_laidAll _ (by kernel_rfl) (by kernel_rfl)))) ?_
  intro W base args ds gs before hval hW _ hk _ hL _ _
  exact exprPrint_contract hval hW (expr_glob hL) (hk _ rfl)
theorem exprPrint_holds : Rows.ExprPrintUptoSaid :=
  OpenClaim.holds_of_cond n_pllaw3_ExprPrint Tryd.f3 rfl rfl rfl rfl rfl rfl rfl ⟨rfl, rfl, rfl, rfl, rfl⟩ rfl rfl rfl rfl rfl (by kernel_rfl) Tryd.func3 (by kernel_rfl)
    (of_decide_eq_true (by kernel_rfl)) (by unfold Func.isWrapper; first | (rw [if_pos (by decide +kernel)]; kernel_rfl) | (rw [if_neg (by decide +kernel)]; exact ⟨rfl, rfl⟩))
    (fun os started H enc _ F => by rw [OpenClaim.pre_eq_preRow]; exact exprPrint_lifted os started H enc F)
theorem exprPrint_card_holds : Rows.ExprPrintUptoCardSaid :=
  Claim7.holds_tied_plain_at .later [] [.data, .data, .data] true (true, "6e8e81f99d426c840953de0376e0efe1560c096b2c5e75d719ee119155564e78") true
    exprPrint_holds (fun _ h => by cases h) (by kernel_rfl) (fun _ h => by cases h) exprPrintUpto_row_tie rfl ⟨rfl, rfl⟩ (by kernel_rfl) rfl
    (fun f fn hf hfn => by
      obtain rfl : f = n_pllaw3_ExprPrint := Option.some.inj ((show Tryd.prog.funcNamed "platelayer/pllaw3.ExprPrint" = some n_pllaw3_ExprPrint by kernel_rfl).symm.trans hf) |>.symm
      obtain rfl : fn = Tryd.f3 := (Option.some.inj (Tryd.func3.symm.trans hfn)).symm
      exact ⟨by kernel_rfl, fun j t ht => by
        have hall : (Tryd.f3.params.toList.all fun u => !Tryd.prog.wantsStandIn u) = true := by kernel_rfl
        have hm : t ∈ Tryd.f3.params.toList := by simpa using Array.mem_of_getElem? ht
        exact (show Tryd.prog.wantsStandIn t = false by simpa using List.all_eq_true.1 hall t hm)⟩)
    (by kernel_rfl)
end Go.Proofs.YtdhpodgaeholmaaDoor
