/-
  The statement: whatever is handed in, of bounded bulk, the law answers true and leaves it as it was.
-/
import Derived.Test.YthmdddenbfbefaaGreatDoorSt4
import Derived.Test.YthmdddenbfbefaaGreatDoorCards
import Derived.Test.YthmdddenbfbefaaGreatDoorTie
namespace Go.Proofs.YthmdddenbfbefaaGreatDoor
open Go Go.Plat
set_option linter.unusedVariables false
set_option linter.unusedSimpArgs false
set_option maxRecDepth 100000
set_option maxHeartbeats 2000000
open Go.ChangeShapes Go.WideShapes Go.ChangeAt Go.RowKit
attribute [local irreducible] AWP zC yg zJ zo yw z8 zH z1 z6 zt za zP yx zp z7 yt yu yi yk zw zx zy
abbrev zgb : List Sh := [.int .i64, .int .i64]
theorem zkc : qw Tryz.prog zgb Tryz.f8.params.toList = true := by kernel_rfl
theorem zoZ {H : Type} {ds : List (DataW H)} (h : qa zgb ds) : Rows.topLeapSpec.fn H (ds ++ []) = { results := [.lit (.bool true)], args := ds } := by
 obtain ⟨d1, d2, rfl, _⟩ := zpb h
 rfl
theorem zhX {H : Type} {enc : TypeId × Value → H} {W : World} {base : Nat} {args : Array Value} {ds gs : List (DataW H)} {before : List MemPlace}
  (hval : ∀ (j : Nat) t v, Tryz.f8.params[j]? = some t → args[j]? = some v → Value.okWide Tryz.prog W .any base t v)
  (hW : DataW.Whole enc Tryz.prog Tryz.f8.params.toList Rows.topLeapSpec.vars false W args.toList ds gs before) (hG : GOk W F0) (hk : Rows.uptoSmall H (ds ++ gs) = true) :
  Calls Tryz.prog w5 args W fun e W' => ∃ v, e = .returned v ∧ Rows.topLeapSpec.post enc Tryz.prog Tryz.f8 false true false false W args v W' := by
 have hgs : gs = [] := by obtain ⟨p, q, _, hV, _⟩ := hW; cases gs with | nil => rfl | cons g gs => exact hV.elim
 subst hgs
 refine zmB (s := Rows.topLeapSpec) (tb := 4) zkc (by kernel_rfl) rfl (by kernel_rfl) (by kernel_rfl) (fun h => zoZ h) (fun j t v h1 h2 => ⟨_, _, hval j t v h1 h2⟩) hW hG zlA fun h => ?_
 obtain ⟨d1, d2, rfl, h1, h2⟩ := zpb h
 obtain ⟨n1, e1, q1⟩ := zpa h1
 obtain ⟨n2, e2, q2⟩ := zpa h2
 refine ⟨(n1, n2), ⟨q1, q2⟩, ?_, rfl, rfl, rfl⟩
 show LeL (jk zgb [d1, d2]) _
 simp only [jk, e1, e2]
 exact LeL.refl _
theorem zkd (os : Os) (started : os.Started) (H : Type) (enc : TypeId × Value → H) (F : Stop.Interp) :
  ReturnsInHanded {} Tryz.checked os w5 .any ((Rows.OpenSpec.upto Rows.topLeapSpec).preRow enc Tryz.prog Tryz.f8 Rows.topLeapUptoRow.domain false Rows.topLeapUptoRow.laid) (((Rows.OpenSpec.upto Rows.topLeapSpec).at F).post enc Tryz.prog Tryz.f8 false true false false) := by
 refine returnsInHanded_of_row (C := Tryz.checked) (s := Rows.OpenSpec.upto Rows.topLeapSpec) own started (by kernel_rfl) Tryz.func8
  (witness_row_at (enc := enc) (C := Tryz.checked) (s := Rows.OpenSpec.upto Rows.topLeapSpec) false (World.laidAll Tryz.prog os Rows.topLeapUptoRow.laid) #[.int .i64 0, .int .i64 0] (World.laidAll_os _ _ _) (by kernel_rfl) (by kernel_rfl) (by kernel_rfl)
    (OpenSpec.preRow_of_cond 8 (x := ([.lit (.int .i64 0), .lit (.int .i64 0)], [], [])) (by kernel_rfl) (by kernel_rfl) (fun k h => by cases h; kernel_rfl) (by kernel_rfl)
      (by rw [MakeChecks.laidMetH_plain _ _ _ (by kernel_rfl)]; exact laidMet_laidAll _ (by kernel_rfl) (by kernel_rfl)))) ?_
 intro W base args ds gs before hval hW _ hk _ hL _ _
 exact zhX hval hW (zuU hL) (hk _ rfl)
theorem zlB : Rows.TopLeapUptoSaid :=
 OpenClaim.holds_of_cond w5 Tryz.f8 rfl rfl rfl rfl rfl rfl rfl ⟨rfl, rfl, rfl, rfl, rfl⟩ rfl rfl rfl rfl rfl (by kernel_rfl) Tryz.func8 (by kernel_rfl)
  (of_decide_eq_true (by kernel_rfl)) (by unfold Func.isWrapper; first | (rw [if_pos (by decide +kernel)]; kernel_rfl) | (rw [if_neg (by decide +kernel)]; exact ⟨rfl, rfl⟩))
  (fun os started H enc _ F => by rw [OpenClaim.pre_eq_preRow]; exact zkd os started H enc F)
theorem topLeap_card_holds : Rows.TopLeapUptoCardSaid :=
 Claim7.holds_tied_plain_at .later [] [.data, .data, .data, .data, .sentinel, .sentinel, .pinned] true (true, "413ba7900f36baf0664c3eeb8ce18f686abc68dd269b52bf4c1577be4c3a87cf") true
  zlB (fun _ h => by cases h) (by kernel_rfl) (fun _ h => by cases h) topLeapUpto_row_tie rfl ⟨rfl, rfl⟩ (by kernel_rfl) rfl
  (fun f fn hf hfn => by
    obtain rfl : f = w5 := Option.some.inj ((show Tryz.prog.funcNamed "platelayer/pltop.TopLeap" = some w5 by kernel_rfl).symm.trans hf) |>.symm
    obtain rfl : fn = Tryz.f8 := (Option.some.inj (Tryz.func8.symm.trans hfn)).symm
    exact ⟨by kernel_rfl, fun j t ht => by
     have hall : (Tryz.f8.params.toList.all fun u => !Tryz.prog.wantsStandIn u) = true := by kernel_rfl
     have hm : t ∈ Tryz.f8.params.toList := by simpa using Array.mem_of_getElem? ht
     exact (show Tryz.prog.wantsStandIn t = false by simpa using List.all_eq_true.1 hall t hm)⟩)
  (by kernel_rfl)
end Go.Proofs.YthmdddenbfbefaaGreatDoor
