/-
  The statement: whatever is handed in, of bounded bulk, the law answers true and leaves it as it was.
-/
import Derived.Test.YthmdddenbfbefaaGreatDoorSt4
import Derived.Test.YthmdddenbfbefaaGreatDoorCards
import Derived.Test.YthmdddenbfbefaaGreatDoorTie
namespace Go.Proofs.YthmdddenbfbefaaGreatDoor
open Go Go.Plat
set_option linter.unusedVariables false
set_option linter.unusedSimpArgs false
set_option maxRecDepth 100000
set_option maxHeartbeats 2000000
open Go.ChangeShapes Go.WideShapes Go.ChangeAt Go.RowKit
attribute [local irreducible] AWP zy ye zF zn yt z6 zE zW zY zp za zN yu zo zZ yp yq yj yl zt zu zw
abbrev zhx : List Sh := [.sl 1 (.int .i64), .int .i64]
theorem zkZ : qc Tryz.prog zhx Tryz.f6.params.toList = true := by kernel_rfl
theorem zqK {H : Type} {ds : List (DataW H)} (h : vJ zhx ds) : Rows.topSumSpec.fn H (ds ++ []) = { results := [.lit (.bool true)], args := ds } := by
 obtain ⟨d1, d2, rfl, _⟩ := zow h
 rfl
theorem ziU {H : Type} {enc : TypeId × Value → H} {W : World} {base : Nat} {args : Array Value} {ds gs : List (DataW H)} {before : List MemPlace}
  (hval : ∀ (j : Nat) t v, Tryz.f6.params[j]? = some t → args[j]? = some v → Value.okWide Tryz.prog W .any base t v)
  (hW : DataW.Whole enc Tryz.prog Tryz.f6.params.toList Rows.topSumSpec.vars false W args.toList ds gs before) (hG : GOk W F0) (hk : Rows.uptoSmall H (ds ++ gs) = true) :
  Calls Tryz.prog vd args W fun e W' => ∃ v, e = .returned v ∧ Rows.topSumSpec.post enc Tryz.prog Tryz.f6 false true false false W args v W' := by
 have hgs : gs = [] := by obtain ⟨p, q, _, hV, _⟩ := hW; cases gs with | nil => rfl | cons g gs => exact hV.elim
 subst hgs
 refine zlY (s := Rows.topSumSpec) (tb := 4) zkZ (by kernel_rfl) rfl (by kernel_rfl) (by kernel_rfl) (fun h => zqK h) (fun j t v h1 h2 => ⟨_, _, hval j t v h1 h2⟩) hW hG zns fun h => ?_
 obtain ⟨d1, d2, rfl, h1, h2⟩ := zow h
 have hb := zw8 hk
 rw [List.append_nil] at hb
 simp only [Rows.uptoBulkAll] at hb
 obtain ⟨l, e1, l1, q1⟩ := zvW (g := D.int .i64) (Q := fun _ n => -9223372036854775808 ≤ n ∧ n ≤ 9223372036854775807) h1 fun x _ hx => zov hx
 obtain ⟨n2, e2, q2⟩ := zov h2
 have b1 := zt6 d1
 refine ⟨(l, n2), ⟨⟨by omega, fun n hn => ?_⟩, q2⟩, ?_, rfl, rfl, rfl⟩
 ·obtain ⟨i, hi, rfl⟩ := List.getElem_of_mem hn
  exact q1 i _ _ (List.getElem?_eq_getElem (by omega)) (List.getElem?_eq_getElem hi)
 ·show LeL (kV zhx [d1, d2]) _
  simp only [kV, e1, e2]
  exact LeL.refl _
theorem zk0 (os : Os) (started : os.Started) (H : Type) (enc : TypeId × Value → H) (F : Stop.Interp) :
  ReturnsInHanded {} Tryz.checked os vd .any ((Rows.OpenSpec.upto Rows.topSumSpec).preRow enc Tryz.prog Tryz.f6 Rows.topSumUptoRow.domain false Rows.topSumUptoRow.laid) (((Rows.OpenSpec.upto Rows.topSumSpec).at F).post enc Tryz.prog Tryz.f6 false true false false) := by
 refine returnsInHanded_of_row (C := Tryz.checked) (s := Rows.OpenSpec.upto Rows.topSumSpec) own started (by kernel_rfl) Tryz.func6
  (witness_row_at (enc := enc) (C := Tryz.checked) (s := Rows.OpenSpec.upto Rows.topSumSpec) false (World.laidAll Tryz.prog os Rows.topSumUptoRow.laid) #[.slice none 0 0, .int .i64 0] (World.laidAll_os _ _ _) (by kernel_rfl) (by kernel_rfl) (by kernel_rfl)
    (OpenSpec.preRow_of_cond 8 (x := ([.nil, .lit (.int .i64 0)], [], [])) (by kernel_rfl) (by kernel_rfl) (fun k h => by cases h; kernel_rfl) (by kernel_rfl)
      (by rw [MakeChecks.laidMetH_plain _ _ _ (by kernel_rfl)]; exact laidMet_laidAll _ (by kernel_rfl) (by kernel_rfl)))) ?_
 intro W base args ds gs before hval hW _ hk _ hL _ _
 exact ziU hval hW (zt8 hL) (hk _ rfl)
theorem znt : Rows.TopSumUptoSaid :=
 OpenClaim.holds_of_cond vd Tryz.f6 rfl rfl rfl rfl rfl rfl rfl ⟨rfl, rfl, rfl, rfl, rfl⟩ rfl rfl rfl rfl rfl (by kernel_rfl) Tryz.func6 (by kernel_rfl)
  (of_decide_eq_true (by kernel_rfl)) (by unfold Func.isWrapper; first | (rw [if_pos (by decide +kernel)]; kernel_rfl) | (rw [if_neg (by decide +kernel)]; exact ⟨rfl, rfl⟩))
  (fun os started H enc _ F => by rw [OpenClaim.pre_eq_preRow]; exact zk0 os started H enc F)
theorem topSum_card_holds : Rows.TopSumUptoCardSaid :=
 Claim7.holds_tied_plain_at .later [] [.data, .data, .data, .data, .sentinel, .sentinel, .pinned] true (true, "413ba7900f36baf0664c3eeb8ce18f686abc68dd269b52bf4c1577be4c3a87cf") true
  znt (fun _ h => by cases h) (by kernel_rfl) (fun _ h => by cases h) topSumUpto_row_tie rfl ⟨rfl, rfl⟩ (by kernel_rfl) rfl
  (fun f fn hf hfn => by
    obtain rfl : f = vd := Option.some.inj ((show Tryz.prog.funcNamed "platelayer/pltop.TopSum" = some vd by kernel_rfl).symm.trans hf) |>.symm
    obtain rfl : fn = Tryz.f6 := (Option.some.inj (Tryz.func6.symm.trans hfn)).symm
    exact ⟨by kernel_rfl, fun j t ht => by
     have hall : (Tryz.f6.params.toList.all fun u => !Tryz.prog.wantsStandIn u) = true := by kernel_rfl
     have hm : t ∈ Tryz.f6.params.toList := by simpa using Array.mem_of_getElem? ht
     exact (show Tryz.prog.wantsStandIn t = false by simpa using List.all_eq_true.1 hall t hm)⟩)
  (by kernel_rfl)
end Go.Proofs.YthmdddenbfbefaaGreatDoor
