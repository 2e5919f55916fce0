/-
  The statement: whatever is handed in, of bounded bulk, the law answers true and leaves it as it was.
-/
import Derived.Test.YthmdddenbfbefaaGreatDoorSt4
import Derived.Test.YthmdddenbfbefaaGreatDoorCards
import Derived.Test.YthmdddenbfbefaaGreatDoorTie
namespace Go.Proofs.YthmdddenbfbefaaGreatDoor
open Go Go.Plat
set_option linter.unusedVariables false
set_option linter.unusedSimpArgs false
set_option maxRecDepth 100000
set_option maxHeartbeats 2000000
open Go.ChangeShapes Go.WideShapes Go.ChangeAt Go.RowKit
attribute [local irreducible] AWP Arith BitS BytesS CallS CatS DrawS EndS IdxS LookS LoopEnd Meets ModeS NilS NormL NormM QuoS RemS ShlS ShrS SideS SplitS bitI
abbrev asmFarSh : List Sh := [.int .i64, .bool, .bool]
theorem asmFar_params : chkAll Tryz.prog asmFarSh Tryz.f3.params.toList = true := by kernel_rfl
theorem asmFar_def {H : Type} {ds : List (DataW H)} (h : fitAll asmFarSh ds) : Rows.asmFarSpec.fn H (ds ++ []) = { results := [.lit (.bool true)], args := ds } := by
 obtain ⟨d1, d2, d3, rfl, _⟩ := fitAll3 h
 rfl
theorem asmFar_contract {H : Type} {enc : TypeId × Value → H} {W : World} {base : Nat} {args : Array Value} {ds gs : List (DataW H)} {before : List MemPlace}
  (hval : ∀ (j : Nat) t v, Tryz.f3.params[j]? = some t → args[j]? = some v → Value.okWide Tryz.prog W .any base t v)
  (hW : DataW.Whole enc Tryz.prog Tryz.f3.params.toList Rows.asmFarSpec.vars false W args.toList ds gs before) (hG : GOk W F0) (hk : Rows.uptoSmall H (ds ++ gs) = true) :
  Calls Tryz.prog n_pllaw5_AsmFar args W fun e W' => ∃ v, e = .returned v ∧ Rows.asmFarSpec.post enc Tryz.prog Tryz.f3 false true false false W args v W' := by
 have hgs : gs = [] := by obtain ⟨p, q, _, hV, _⟩ := hW; cases gs with | nil => rfl | cons g gs => exact hV.elim
 subst hgs
 refine law_contract (s := Rows.asmFarSpec) (tb := 4) asmFar_params (by kernel_rfl) rfl (by kernel_rfl) (by kernel_rfl) (fun h => asmFar_def h) (fun j t v h1 h2 => ⟨_, _, hval j t v h1 h2⟩) hW hG asmfar_meets fun h => ?_
 obtain ⟨d1, d2, d3, rfl, h1, h2, h3⟩ := fitAll3 h
 obtain ⟨n, e1, hn⟩ := fit_i64 h1
 obtain ⟨back, e2⟩ := fit_bool h2
 obtain ⟨not, e3⟩ := fit_bool h3
 refine ⟨(n, back, not), hn, ?_, rfl, rfl, rfl⟩
 show LeL (rdAll asmFarSh [d1, d2, d3]) _
 simp only [rdAll, e1, e2, e3]
 exact LeL.refl _
theorem asmFar_lifted (os : Os) (started : os.Started) (H : Type) (enc : TypeId × Value → H) (F : Stop.Interp) :
  ReturnsInHanded {} Tryz.checked os n_pllaw5_AsmFar .any ((Rows.OpenSpec.upto Rows.asmFarSpec).preRow enc Tryz.prog Tryz.f3 Rows.asmFarUptoRow.domain false Rows.asmFarUptoRow.laid) (((Rows.OpenSpec.upto Rows.asmFarSpec).at F).post enc Tryz.prog Tryz.f3 false true false false) := by
 refine returnsInHanded_of_row (C := Tryz.checked) (s := Rows.OpenSpec.upto Rows.asmFarSpec) own started (by kernel_rfl) Tryz.func3
  (witness_row_at (enc := enc) (C := Tryz.checked) (s := Rows.OpenSpec.upto Rows.asmFarSpec) false (World.laidAll Tryz.prog os Rows.asmFarUptoRow.laid) #[.int .i64 0, .bool false, .bool false] (World.laidAll_os _ _ _) (by kernel_rfl) (by kernel_rfl) (by kernel_rfl)
    (OpenSpec.preRow_of_cond 8 (x := ([.lit (.int .i64 0), .lit (.bool false), .lit (.bool false)], [], [])) (by kernel_rfl) (by kernel_rfl) (fun k h => by cases h; kernel_rfl) (by kernel_rfl)
      (by rw [MakeChecks.laidMetH_plain _ _ _ (by kernel_rfl)]; exact laidMet_laidAll _ (by kernel_rfl) (by kernel_rfl)))) ?_
 intro W base args ds gs before hval hW _ hk _ hL _ _
 exact asmFar_contract hval hW (asm_glob hL) (hk _ rfl)
theorem asmFar_holds : Rows.AsmFarUptoSaid :=
 OpenClaim.holds_of_cond n_pllaw5_AsmFar Tryz.f3 rfl rfl rfl rfl rfl rfl rfl ⟨rfl, rfl, rfl, rfl, rfl⟩ rfl rfl rfl rfl rfl (by kernel_rfl) Tryz.func3 (by kernel_rfl)
  (of_decide_eq_true (by kernel_rfl)) (by unfold Func.isWrapper; first | (rw [if_pos (by decide +kernel)]; kernel_rfl) | (rw [if_neg (by decide +kernel)]; exact ⟨rfl, rfl⟩))
  (fun os started H enc _ F => by rw [OpenClaim.pre_eq_preRow]; exact asmFar_lifted os started H enc F)
theorem asmFar_card_holds : Rows.AsmFarUptoCardSaid :=
 Claim7.holds_tied_plain_at .later [] [.data, .data, .data, .data, .sentinel, .sentinel, .pinned] true (true, "413ba7900f36baf0664c3eeb8ce18f686abc68dd269b52bf4c1577be4c3a87cf") true
  asmFar_holds (fun _ h => by cases h) (by kernel_rfl) (fun _ h => by cases h) asmFarUpto_row_tie rfl ⟨rfl, rfl⟩ (by kernel_rfl) rfl
  (fun f fn hf hfn => by
    obtain rfl : f = n_pllaw5_AsmFar := Option.some.inj ((show Tryz.prog.funcNamed "platelayer/pllaw5.AsmFar" = some n_pllaw5_AsmFar by kernel_rfl).symm.trans hf) |>.symm
    obtain rfl : fn = Tryz.f3 := (Option.some.inj (Tryz.func3.symm.trans hfn)).symm
    exact ⟨by kernel_rfl, fun j t ht => by
     have hall : (Tryz.f3.params.toList.all fun u => !Tryz.prog.wantsStandIn u) = true := by kernel_rfl
     have hm : t ∈ Tryz.f3.params.toList := by simpa using Array.mem_of_getElem? ht
     exact (show Tryz.prog.wantsStandIn t = false by simpa using List.all_eq_true.1 hall t hm)⟩)
  (by kernel_rfl)
end Go.Proofs.YthmdddenbfbefaaGreatDoor
