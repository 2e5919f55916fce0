/-
  The statement: whatever is handed in, of bounded bulk, the law answers true and leaves it as it was.
-/
import Derived.Test.YtdhpodgaeholmaaDoorSt2
import Derived.Test.YtdhpodgaeholmaaDoorCards
import Derived.Test.YtdhpodgaeholmaaDoorTie
/-
  The statement on lines, line by line: whatever is handed in, of bounded bulk, the law answers true; and its card.
-/
namespace Go.Proofs.YtdhpodgaeholmaaDoor
open Go Go.Plat
set_option linter.unusedVariables false
set_option linter.unusedSimpArgs false
set_option maxRecDepth 100000
set_option maxHeartbeats 2000000
attribute [local irreducible] NilS LookS NormM bitI BytesS NormL Arith QuoS RemS ShlS ShrS BitS CatS SplitS SideS IdxS CallS LoopEnd EndS ModeS DrawS AWP Meets
open Go.ChangeShapes Go.WideShapes Go.ChangeAt Go.RowKit

abbrev scanLinesSh : List Sh := [sbytesSh, sbytesSh]
theorem scanLines_params : chkAll Tryd.prog scanLinesSh Tryd.f8.params.toList = true := by kernel_rfl
theorem scanLines_def {H : Type} {ds : List (DataW H)} (h : fitAll scanLinesSh ds) : Rows.scanLinesSpec.fn H (ds ++ []) = { results := [.lit (.bool true)], args := ds } := by
  obtain ⟨d1, d2, rfl, _⟩ := fitAll2 h
  rfl
theorem scanLines_contract {H : Type} {enc : TypeId × Value → H} {W : World} {base : Nat} {args : Array Value} {ds gs : List (DataW H)} {before : List MemPlace}
    (hval : ∀ (j : Nat) t v, Tryd.f8.params[j]? = some t → args[j]? = some v → Value.okWide Tryd.prog W .any base t v)
    (hW : DataW.Whole enc Tryd.prog Tryd.f8.params.toList Rows.scanLinesSpec.vars false W args.toList ds gs before) (hG : GOk W F0) (hk : Rows.uptoSmall H (ds ++ gs) = true) :
    Calls Tryd.prog n_pllaw2_ScanLines args W fun e W' => ∃ v, e = .returned v ∧ Rows.scanLinesSpec.post enc Tryd.prog Tryd.f8 false true false false W args v W' := by
  have hgs : gs = [] := by obtain ⟨p, q, _, hV, _⟩ := hW; cases gs with | nil => rfl | cons g gs => exact hV.elim
  subst hgs
  refine law_contract (s := Rows.scanLinesSpec) (tb := 4) scanLines_params (by kernel_rfl) rfl (by kernel_rfl) (by kernel_rfl) (fun h => scanLines_def h) (fun j t v h1 h2 => ⟨_, _, hval j t v h1 h2⟩) hW hG scan_by_meets fun h => ?_
  obtain ⟨d1, d2, rfl, h1, h2⟩ := fitAll2 h
  have hb := bound hk
  rw [List.append_nil] at hb
  simp only [Rows.uptoBulkAll] at hb
  obtain ⟨a, e1, ha⟩ := fit_bytes h1
  obtain ⟨b, e2, hbl⟩ := fit_bytes h2
  have b1 := elems_le d1
  have b2 := elems_le d2
  refine ⟨(a, b), ⟨by omega, by omega⟩, ?_, rfl, rfl, rfl⟩
  show LeL (rdAll scanLinesSh [d1, d2]) _
  simp only [rdAll, e1, e2]
  exact LeL.refl _
theorem scanLines_lifted (os : Os) (started : os.Started) (H : Type) (enc : TypeId × Value → H) (F : Stop.Interp) :
    ReturnsInHanded {} Tryd.checked os n_pllaw2_ScanLines .any ((Rows.OpenSpec.upto Rows.scanLinesSpec).preRow enc Tryd.prog Tryd.f8 Rows.scanLinesUptoRow.domain false Rows.scanLinesUptoRow.laid) (((Rows.OpenSpec.upto Rows.scanLinesSpec).at F).post enc Tryd.prog Tryd.f8 false true false false) := by
  refine returnsInHanded_of_row (C := Tryd.checked) (s := Rows.OpenSpec.upto Rows.scanLinesSpec) own started (by kernel_rfl) Tryd.func8
    (witness_row_at (enc := enc) (C := Tryd.checked) (s := Rows.OpenSpec.upto Rows.scanLinesSpec) false (World.laidAll Tryd.prog os Rows.scanLinesUptoRow.laid) #[.slice none 0 0, .slice none 0 0] (World.laidAll_os _ _ _) (by kernel_rfl) (by kernel_rfl) (by kernel_rfl)
      (OpenSpec.preRow_of_cond 8 (x := ([.nil, .nil], [], [])) (by kernel_rfl) (by kernel_rfl) (fun k h => by cases h; kernel_rfl) (by kernel_rfl)
        (by rw [MakeChecks.laidMetH_plain _ _ _ (by kernel_rfl)]; exact laidMet_laidAll _ (by kernel_rfl) (by kernel_rfl)))) ?_
  intro W base args ds gs before hval hW _ hk _ hL _ _
  exact scanLines_contract hval hW (scan_glob hL) (hk _ rfl)
theorem scanLines_holds : Rows.ScanLinesUptoSaid :=
  OpenClaim.holds_of_cond n_pllaw2_ScanLines Tryd.f8 rfl rfl rfl rfl rfl rfl rfl ⟨rfl, rfl, rfl, rfl, rfl⟩ rfl rfl rfl rfl rfl (by kernel_rfl) Tryd.func8 (by kernel_rfl)
    (of_decide_eq_true (by kernel_rfl)) (by unfold Func.isWrapper; first | (rw [if_pos (by decide +kernel)]; kernel_rfl) | (rw [if_neg (by decide +kernel)]; exact ⟨rfl, rfl⟩))
    (fun os started H enc _ F => by rw [OpenClaim.pre_eq_preRow]; exact scanLines_lifted os started H enc F)
theorem scanLines_card_holds : Rows.ScanLinesUptoCardSaid :=
  Claim7.holds_tied_plain_at .later [] [.data, .data, .data, .data, .sentinel, .sentinel, .pinned] true (true, "6e8e81f99d426c840953de0376e0efe1560c096b2c5e75d719ee119155564e78") true
    scanLines_holds (fun _ h => by cases h) (by kernel_rfl) (fun _ h => by cases h) scanLinesUpto_row_tie rfl ⟨rfl, rfl⟩ (by kernel_rfl) rfl
    (fun f fn hf hfn => by
      obtain rfl : f = n_pllaw2_ScanLines := Option.some.inj ((show Tryd.prog.funcNamed "platelayer/pllaw2.ScanLines" = some n_pllaw2_ScanLines by kernel_rfl).symm.trans hf) |>.symm
      obtain rfl : fn = Tryd.f8 := (Option.some.inj (Tryd.func8.symm.trans hfn)).symm
      exact ⟨by kernel_rfl, fun j t ht => by
        have hall : (Tryd.f8.params.toList.all fun u => !Tryd.prog.wantsStandIn u) = true := by kernel_rfl
        have hm : t ∈ Tryd.f8.params.toList := by simpa using Array.mem_of_getElem? ht
        exact (show Tryd.prog.wantsStandIn t = false by simpa using List.all_eq_true.1 hall t hm)⟩)
    (by kernel_rfl)
end Go.Proofs.YtdhpodgaeholmaaDoor
