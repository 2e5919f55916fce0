/-
  The statement: whatever is handed in, of bounded bulk, the law answers true and leaves it as it was.
-/
import Derived.Test.YthmdddenbfbefaaGreatDoorSt3
import Derived.Test.YthmdddenbfbefaaGreatDoorSt4
import Derived.Test.YthmdddenbfbefaaGreatDoorCards
import Derived.Test.YthmdddenbfbefaaGreatDoorTie
namespace Go.Proofs.YthmdddenbfbefaaGreatDoor
open Go Go.Plat
set_option linter.unusedVariables false
set_option linter.unusedSimpArgs false
set_option maxRecDepth 100000
set_option maxHeartbeats 2000000
open Go.ChangeShapes Go.WideShapes Go.ChangeAt Go.RowKit
attribute [local irreducible] AWP Arith BitS BytesS CallS CatS DrawS EndS IdxS LookS LoopEnd Meets ModeS NilS NormL NormM QuoS RemS ShlS ShrS SideS SplitS bitI
theorem asmnames_meets : Meets Tryz.prog n_pllaw5_AsmNames (SpecP (fun ((b, f, g) : List UInt8 × List UInt8 × List UInt8) => b.length ≤ 1000000000 ∧ f.length ≤ 1000000000 ∧ g.length ≤ 1000000000) (fun (b, f, g) => [.sl 1 (b.map byteD) none, .str f, .str g]) fun _ => .bool true) :=
 asmnames_walk (fun f g l h1 h2 h3 h4 h5 => build_sim ⟨⟨h1, h2⟩, regno_ren h3, regno_ren h4⟩ h5) (fun b l h => source_lines h) source_ok
abbrev asmNamesSh : List Sh := [.sl 1 (.int .u8), .str, .str]
theorem asmNames_params : chkAll Tryz.prog asmNamesSh Tryz.f4.params.toList = true := by kernel_rfl
theorem asmNames_def {H : Type} {ds : List (DataW H)} (h : fitAll asmNamesSh ds) : Rows.asmNamesSpec.fn H (ds ++ []) = { results := [.lit (.bool true)], args := ds } := by
 obtain ⟨d1, d2, d3, rfl, _⟩ := fitAll3 h
 rfl
theorem asmNames_contract {H : Type} {enc : TypeId × Value → H} {W : World} {base : Nat} {args : Array Value} {ds gs : List (DataW H)} {before : List MemPlace}
  (hval : ∀ (j : Nat) t v, Tryz.f4.params[j]? = some t → args[j]? = some v → Value.okWide Tryz.prog W .any base t v)
  (hW : DataW.Whole enc Tryz.prog Tryz.f4.params.toList Rows.asmNamesSpec.vars false W args.toList ds gs before) (hG : GOk W F0) (hk : Rows.uptoSmall H (ds ++ gs) = true) :
  Calls Tryz.prog n_pllaw5_AsmNames args W fun e W' => ∃ v, e = .returned v ∧ Rows.asmNamesSpec.post enc Tryz.prog Tryz.f4 false true false false W args v W' := by
 have hgs : gs = [] := by obtain ⟨p, q, _, hV, _⟩ := hW; cases gs with | nil => rfl | cons g gs => exact hV.elim
 subst hgs
 refine law_contract (s := Rows.asmNamesSpec) (tb := 4) asmNames_params (by kernel_rfl) rfl (by kernel_rfl) (by kernel_rfl) (fun h => asmNames_def h) (fun j t v h1 h2 => ⟨_, _, hval j t v h1 h2⟩) hW hG asmnames_meets fun h => ?_
 obtain ⟨d1, d2, d3, rfl, h1, h2, h3⟩ := fitAll3 h
 have hb := bound hk
 rw [List.append_nil] at hb
 simp only [Rows.uptoBulkAll] at hb
 obtain ⟨b, e1, hbl⟩ := fit_bytes h1
 obtain ⟨f, rfl, e2⟩ := fit_str h2
 obtain ⟨g, rfl, e3⟩ := fit_str h3
 have b1 := elems_le d1
 simp only [Rows.uptoBulk] at hb
 refine ⟨(b, f, g), ⟨by omega, by omega, by omega⟩, ?_, rfl, rfl, rfl⟩
 show LeL (rdAll asmNamesSh [d1, .lit (.string f), .lit (.string g)]) _
 simp only [rdAll, e1, e2, e3]
 exact LeL.refl _
theorem asmNames_lifted (os : Os) (started : os.Started) (H : Type) (enc : TypeId × Value → H) (F : Stop.Interp) :
  ReturnsInHanded {} Tryz.checked os n_pllaw5_AsmNames .any ((Rows.OpenSpec.upto Rows.asmNamesSpec).preRow enc Tryz.prog Tryz.f4 Rows.asmNamesUptoRow.domain false Rows.asmNamesUptoRow.laid) (((Rows.OpenSpec.upto Rows.asmNamesSpec).at F).post enc Tryz.prog Tryz.f4 false true false false) := by
 refine returnsInHanded_of_row (C := Tryz.checked) (s := Rows.OpenSpec.upto Rows.asmNamesSpec) own started (by kernel_rfl) Tryz.func4
  (witness_row_at (enc := enc) (C := Tryz.checked) (s := Rows.OpenSpec.upto Rows.asmNamesSpec) false (World.laidAll Tryz.prog os Rows.asmNamesUptoRow.laid) #[.slice none 0 0, .string ⟨#[]⟩, .string ⟨#[]⟩] (World.laidAll_os _ _ _) (by kernel_rfl) (by kernel_rfl) (by kernel_rfl)
    (OpenSpec.preRow_of_cond 8 (x := ([.nil, .lit (.string []), .lit (.string [])], [], [])) (by kernel_rfl) (by kernel_rfl) (fun k h => by cases h; kernel_rfl) (by kernel_rfl)
      (by rw [MakeChecks.laidMetH_plain _ _ _ (by kernel_rfl)]; exact laidMet_laidAll _ (by kernel_rfl) (by kernel_rfl)))) ?_
 intro W base args ds gs before hval hW _ hk _ hL _ _
 exact asmNames_contract hval hW (asm_glob hL) (hk _ rfl)
theorem asmNames_holds : Rows.AsmNamesUptoSaid :=
 OpenClaim.holds_of_cond n_pllaw5_AsmNames Tryz.f4 rfl rfl rfl rfl rfl rfl rfl ⟨rfl, rfl, rfl, rfl, rfl⟩ rfl rfl rfl rfl rfl (by kernel_rfl) Tryz.func4 (by kernel_rfl)
  (of_decide_eq_true (by kernel_rfl)) (by unfold Func.isWrapper; first | (rw [if_pos (by decide +kernel)]; kernel_rfl) | (rw [if_neg (by decide +kernel)]; exact ⟨rfl, rfl⟩))
  (fun os started H enc _ F => by rw [OpenClaim.pre_eq_preRow]; exact asmNames_lifted os started H enc F)
theorem asmNames_card_holds : Rows.AsmNamesUptoCardSaid :=
 Claim7.holds_tied_plain_at .later [] [.data, .data, .data, .data, .sentinel, .sentinel, .pinned] true (true, "413ba7900f36baf0664c3eeb8ce18f686abc68dd269b52bf4c1577be4c3a87cf") true
  asmNames_holds (fun _ h => by cases h) (by kernel_rfl) (fun _ h => by cases h) asmNamesUpto_row_tie rfl ⟨rfl, rfl⟩ (by kernel_rfl) rfl
  (fun f fn hf hfn => by
    obtain rfl : f = n_pllaw5_AsmNames := Option.some.inj ((show Tryz.prog.funcNamed "platelayer/pllaw5.AsmNames" = some n_pllaw5_AsmNames by kernel_rfl).symm.trans hf) |>.symm
    obtain rfl : fn = Tryz.f4 := (Option.some.inj (Tryz.func4.symm.trans hfn)).symm
    exact ⟨by kernel_rfl, fun j t ht => by
     have hall : (Tryz.f4.params.toList.all fun u => !Tryz.prog.wantsStandIn u) = true := by kernel_rfl
     have hm : t ∈ Tryz.f4.params.toList := by simpa using Array.mem_of_getElem? ht
     exact (show Tryz.prog.wantsStandIn t = false by simpa using List.all_eq_true.1 hall t hm)⟩)
  (by kernel_rfl)
end Go.Proofs.YthmdddenbfbefaaGreatDoor
