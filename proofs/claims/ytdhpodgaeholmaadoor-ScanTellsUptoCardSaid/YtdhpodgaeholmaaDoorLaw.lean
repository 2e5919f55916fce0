/-
  The statement: whatever is handed in, of bounded bulk, the law answers true and leaves it as it was.
-/
import Derived.Test.YtdhpodgaeholmaaDoorSt2
import Derived.Test.YtdhpodgaeholmaaDoorCards
import Derived.Test.YtdhpodgaeholmaaDoorTie
/-
  The statement that tells of lines: whatever is handed in, of bounded bulk, the law answers true; and its card.
-/
namespace Go.Proofs.YtdhpodgaeholmaaDoor
open Go Go.Plat
set_option linter.unusedVariables false
set_option linter.unusedSimpArgs false
set_option maxRecDepth 100000
set_option maxHeartbeats 2000000
attribute [local irreducible] NilS LookS NormM bitI BytesS NormL Arith QuoS RemS ShlS ShrS BitS CatS SplitS SideS IdxS CallS LoopEnd EndS ModeS DrawS AWP Meets
open Go.ChangeShapes Go.WideShapes Go.ChangeAt Go.RowKit

abbrev scanTellsSh : List Sh := [.str, sbytesSh, .sl 3 stokSh]
theorem scanTells_params : chkAll Tryd.prog scanTellsSh Tryd.f6.params.toList = true := by kernel_rfl
theorem scanTells_def {H : Type} {ds : List (DataW H)} (h : fitAll scanTellsSh ds) : Rows.scanTellsSpec.fn H (ds ++ []) = { results := [.lit (.bool true)], args := ds } := by
  obtain ⟨d1, d2, d3, rfl, _⟩ := fitAll3 h
  rfl
theorem scanTells_contract {H : Type} {enc : TypeId × Value → H} {W : World} {base : Nat} {args : Array Value} {ds gs : List (DataW H)} {before : List MemPlace}
    (hval : ∀ (j : Nat) t v, Tryd.f6.params[j]? = some t → args[j]? = some v → Value.okWide Tryd.prog W .any base t v)
    (hW : DataW.Whole enc Tryd.prog Tryd.f6.params.toList Rows.scanTellsSpec.vars false W args.toList ds gs before) (hG : GOk W F0) (hk : Rows.uptoSmall H (ds ++ gs) = true) :
    Calls Tryd.prog n_pllaw2_ScanTells args W fun e W' => ∃ v, e = .returned v ∧ Rows.scanTellsSpec.post enc Tryd.prog Tryd.f6 false true false false W args v W' := by
  have hgs : gs = [] := by obtain ⟨p, q, _, hV, _⟩ := hW; cases gs with | nil => rfl | cons g gs => exact hV.elim
  subst hgs
  refine law_contract (s := Rows.scanTellsSpec) (tb := 4) scanTells_params (by kernel_rfl) rfl (by kernel_rfl) (by kernel_rfl) (fun h => scanTells_def h) (fun j t v h1 h2 => ⟨_, _, hval j t v h1 h2⟩) hW hG scan_tells_meets fun h => ?_
  obtain ⟨d1, d2, d3, rfl, h1, h2, h3⟩ := fitAll3 h
  have hb := bound hk
  rw [List.append_nil] at hb
  simp only [Rows.uptoBulkAll] at hb
  obtain ⟨s, rfl, e1⟩ := fit_str h1
  obtain ⟨b, e2, hbl⟩ := fit_bytes h2
  obtain ⟨l, e3, l3, q3⟩ := fit_sl (g := ltokD) (Q := fun d t => TokB t ∧ 4 + t.text.length ≤ Rows.uptoBulk d) h3 fun x _ hx => fit_ltok hx
  obtain ⟨t1, t2⟩ := tsum_le l3 q3
  have b2 := elems_le d2
  have b3 := elems_all d3
  simp only [Rows.uptoBulk] at hb
  refine ⟨(s, b, l), ⟨by omega, by omega, t2, by omega⟩, ?_, rfl, rfl, rfl⟩
  show LeL (rdAll scanTellsSh [.lit (.string s), d2, d3]) _
  simp only [rdAll, e1, e2, e3]
  exact LeL.refl _
theorem scanTells_lifted (os : Os) (started : os.Started) (H : Type) (enc : TypeId × Value → H) (F : Stop.Interp) :
    ReturnsInHanded {} Tryd.checked os n_pllaw2_ScanTells .any ((Rows.OpenSpec.upto Rows.scanTellsSpec).preRow enc Tryd.prog Tryd.f6 Rows.scanTellsUptoRow.domain false Rows.scanTellsUptoRow.laid) (((Rows.OpenSpec.upto Rows.scanTellsSpec).at F).post enc Tryd.prog Tryd.f6 false true false false) := by
  refine returnsInHanded_of_row (C := Tryd.checked) (s := Rows.OpenSpec.upto Rows.scanTellsSpec) own started (by kernel_rfl) Tryd.func6
    (witness_row_at (enc := enc) (C := Tryd.checked) (s := Rows.OpenSpec.upto Rows.scanTellsSpec) false (World.laidAll Tryd.prog os Rows.scanTellsUptoRow.laid) #[.string ⟨#[]⟩, .slice none 0 0, .slice none 0 0] (World.laidAll_os _ _ _) (by kernel_rfl) (by kernel_rfl) (by kernel_rfl)
      (OpenSpec.preRow_of_cond 8 (x := ([.lit (.string []), .nil, .nil], [], [])) (by kernel_rfl) (by kernel_rfl) (fun k h => by cases h; kernel_rfl) (by kernel_rfl)
        (by rw [MakeChecks.laidMetH_plain _ _ _ (by kernel_rfl)]; exact laidMet_laidAll _ (by kernel_rfl) (by kernel_rfl)))) ?_
  intro W base args ds gs before hval hW _ hk _ hL _ _
  exact scanTells_contract hval hW (scan_glob hL) (hk _ rfl)
theorem scanTells_holds : Rows.ScanTellsUptoSaid :=
  OpenClaim.holds_of_cond n_pllaw2_ScanTells Tryd.f6 rfl rfl rfl rfl rfl rfl rfl ⟨rfl, rfl, rfl, rfl, rfl⟩ rfl rfl rfl rfl rfl (by kernel_rfl) Tryd.func6 (by kernel_rfl)
    (of_decide_eq_true (by kernel_rfl)) (by unfold Func.isWrapper; first | (rw [if_pos (by decide +kernel)]; kernel_rfl) | (rw [if_neg (by decide +kernel)]; exact ⟨rfl, rfl⟩))
    (fun os started H enc _ F => by rw [OpenClaim.pre_eq_preRow]; exact scanTells_lifted os started H enc F)
theorem scanTells_card_holds : Rows.ScanTellsUptoCardSaid :=
  Claim7.holds_tied_plain_at .later [] [.data, .data, .data, .data, .sentinel, .sentinel, .pinned] true (true, "6e8e81f99d426c840953de0376e0efe1560c096b2c5e75d719ee119155564e78") true
    scanTells_holds (fun _ h => by cases h) (by kernel_rfl) (fun _ h => by cases h) scanTellsUpto_row_tie rfl ⟨rfl, rfl⟩ (by kernel_rfl) rfl
    (fun f fn hf hfn => by
      obtain rfl : f = n_pllaw2_ScanTells := Option.some.inj ((show Tryd.prog.funcNamed "platelayer/pllaw2.ScanTells" = some n_pllaw2_ScanTells by kernel_rfl).symm.trans hf) |>.symm
      obtain rfl : fn = Tryd.f6 := (Option.some.inj (Tryd.func6.symm.trans hfn)).symm
      exact ⟨by kernel_rfl, fun j t ht => by
        have hall : (Tryd.f6.params.toList.all fun u => !Tryd.prog.wantsStandIn u) = true := by kernel_rfl
        have hm : t ∈ Tryd.f6.params.toList := by simpa using Array.mem_of_getElem? ht
        exact (show Tryd.prog.wantsStandIn t = false by simpa using List.all_eq_true.1 hall t hm)⟩)
    (by kernel_rfl)
end Go.Proofs.YtdhpodgaeholmaaDoor
