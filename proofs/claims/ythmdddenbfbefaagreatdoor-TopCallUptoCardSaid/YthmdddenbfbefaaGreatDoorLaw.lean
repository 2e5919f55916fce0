/-
  The statement: whatever is handed in, of bounded bulk, the law answers true and leaves it as it was.
-/
import Derived.Test.YthmdddenbfbefaaGreatDoorSt4
import Derived.Test.YthmdddenbfbefaaGreatDoorCards
import Derived.Test.YthmdddenbfbefaaGreatDoorTie
namespace Go.Proofs.YthmdddenbfbefaaGreatDoor
open Go Go.Plat
set_option linter.unusedVariables false
set_option linter.unusedSimpArgs false
set_option maxRecDepth 100000
set_option maxHeartbeats 2000000
open Go.ChangeShapes Go.WideShapes Go.ChangeAt Go.RowKit
attribute [local irreducible] AWP Arith BitS BytesS CallS CatS DrawS EndS IdxS LookS LoopEnd Meets ModeS NilS NormL NormM QuoS RemS ShlS ShrS SideS SplitS bitI
theorem fitAll4 {H : Type} {a b c d : Sh} {ds : List (DataW H)} (h : fitAll [a, b, c, d] ds) : ∃ d1 d2 d3 d4, ds = [d1, d2, d3, d4] ∧ fit a (.inl d1) ∧ fit b (.inl d2) ∧ fit c (.inl d3) ∧ fit d (.inl d4) := by
 obtain ⟨d1, r, rfl, h1, h⟩ := fitAll_cons h
 obtain ⟨d2, d3, d4, rfl, h2, h3, h4⟩ := fitAll3 h
 exact ⟨d1, d2, d3, d4, rfl, h1, h2, h3, h4⟩
abbrev topCallSh : List Sh := [.int .i64, .int .i64, .bool, .int .i64]
theorem topCall_params : chkAll Tryz.prog topCallSh Tryz.f7.params.toList = true := by kernel_rfl
theorem topCall_def {H : Type} {ds : List (DataW H)} (h : fitAll topCallSh ds) : Rows.topCallSpec.fn H (ds ++ []) = { results := [.lit (.bool true)], args := ds } := by
 obtain ⟨d1, d2, d3, d4, rfl, _⟩ := fitAll4 h
 rfl
theorem topCall_contract {H : Type} {enc : TypeId × Value → H} {W : World} {base : Nat} {args : Array Value} {ds gs : List (DataW H)} {before : List MemPlace}
  (hval : ∀ (j : Nat) t v, Tryz.f7.params[j]? = some t → args[j]? = some v → Value.okWide Tryz.prog W .any base t v)
  (hW : DataW.Whole enc Tryz.prog Tryz.f7.params.toList Rows.topCallSpec.vars false W args.toList ds gs before) (hG : GOk W F0) (hk : Rows.uptoSmall H (ds ++ gs) = true) :
  Calls Tryz.prog n_pltop_TopCall args W fun e W' => ∃ v, e = .returned v ∧ Rows.topCallSpec.post enc Tryz.prog Tryz.f7 false true false false W args v W' := by
 have hgs : gs = [] := by obtain ⟨p, q, _, hV, _⟩ := hW; cases gs with | nil => rfl | cons g gs => exact hV.elim
 subst hgs
 refine law_contract (s := Rows.topCallSpec) (tb := 4) topCall_params (by kernel_rfl) rfl (by kernel_rfl) (by kernel_rfl) (fun h => topCall_def h) (fun j t v h1 h2 => ⟨_, _, hval j t v h1 h2⟩) hW hG topcall_meets fun h => ?_
 obtain ⟨d1, d2, d3, d4, rfl, h1, h2, h3, h4⟩ := fitAll4 h
 obtain ⟨n1, e1, q1⟩ := fit_i64 h1
 obtain ⟨n2, e2, q2⟩ := fit_i64 h2
 obtain ⟨turned, e3⟩ := fit_bool h3
 obtain ⟨n4, e4, q4⟩ := fit_i64 h4
 refine ⟨(n1, n2, turned, n4), ⟨q1, q2, q4⟩, ?_, rfl, rfl, rfl⟩
 show LeL (rdAll topCallSh [d1, d2, d3, d4]) _
 simp only [rdAll, e1, e2, e3, e4]
 exact LeL.refl _
theorem topCall_lifted (os : Os) (started : os.Started) (H : Type) (enc : TypeId × Value → H) (F : Stop.Interp) :
  ReturnsInHanded {} Tryz.checked os n_pltop_TopCall .any ((Rows.OpenSpec.upto Rows.topCallSpec).preRow enc Tryz.prog Tryz.f7 Rows.topCallUptoRow.domain false Rows.topCallUptoRow.laid) (((Rows.OpenSpec.upto Rows.topCallSpec).at F).post enc Tryz.prog Tryz.f7 false true false false) := by
 refine returnsInHanded_of_row (C := Tryz.checked) (s := Rows.OpenSpec.upto Rows.topCallSpec) own started (by kernel_rfl) Tryz.func7
  (witness_row_at (enc := enc) (C := Tryz.checked) (s := Rows.OpenSpec.upto Rows.topCallSpec) false (World.laidAll Tryz.prog os Rows.topCallUptoRow.laid) #[.int .i64 0, .int .i64 0, .bool false, .int .i64 0] (World.laidAll_os _ _ _) (by kernel_rfl) (by kernel_rfl) (by kernel_rfl)
    (OpenSpec.preRow_of_cond 8 (x := ([.lit (.int .i64 0), .lit (.int .i64 0), .lit (.bool false), .lit (.int .i64 0)], [], [])) (by kernel_rfl) (by kernel_rfl) (fun k h => by cases h; kernel_rfl) (by kernel_rfl)
      (by rw [MakeChecks.laidMetH_plain _ _ _ (by kernel_rfl)]; exact laidMet_laidAll _ (by kernel_rfl) (by kernel_rfl)))) ?_
 intro W base args ds gs before hval hW _ hk _ hL _ _
 exact topCall_contract hval hW (asm_glob hL) (hk _ rfl)
theorem topCall_holds : Rows.TopCallUptoSaid :=
 OpenClaim.holds_of_cond n_pltop_TopCall Tryz.f7 rfl rfl rfl rfl rfl rfl rfl ⟨rfl, rfl, rfl, rfl, rfl⟩ rfl rfl rfl rfl rfl (by kernel_rfl) Tryz.func7 (by kernel_rfl)
  (of_decide_eq_true (by kernel_rfl)) (by unfold Func.isWrapper; first | (rw [if_pos (by decide +kernel)]; kernel_rfl) | (rw [if_neg (by decide +kernel)]; exact ⟨rfl, rfl⟩))
  (fun os started H enc _ F => by rw [OpenClaim.pre_eq_preRow]; exact topCall_lifted os started H enc F)
theorem topCall_card_holds : Rows.TopCallUptoCardSaid :=
 Claim7.holds_tied_plain_at .later [] [.data, .data, .data, .data, .sentinel, .sentinel, .pinned] true (true, "413ba7900f36baf0664c3eeb8ce18f686abc68dd269b52bf4c1577be4c3a87cf") true
  topCall_holds (fun _ h => by cases h) (by kernel_rfl) (fun _ h => by cases h) topCallUpto_row_tie rfl ⟨rfl, rfl⟩ (by kernel_rfl) rfl
  (fun f fn hf hfn => by
    obtain rfl : f = n_pltop_TopCall := Option.some.inj ((show Tryz.prog.funcNamed "platelayer/pltop.TopCall" = some n_pltop_TopCall by kernel_rfl).symm.trans hf) |>.symm
    obtain rfl : fn = Tryz.f7 := (Option.some.inj (Tryz.func7.symm.trans hfn)).symm
    exact ⟨by kernel_rfl, fun j t ht => by
     have hall : (Tryz.f7.params.toList.all fun u => !Tryz.prog.wantsStandIn u) = true := by kernel_rfl
     have hm : t ∈ Tryz.f7.params.toList := by simpa using Array.mem_of_getElem? ht
     exact (show Tryz.prog.wantsStandIn t = false by simpa using List.all_eq_true.1 hall t hm)⟩)
  (by kernel_rfl)
end Go.Proofs.YthmdddenbfbefaaGreatDoor
