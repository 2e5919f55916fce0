/-
  The statement: whatever is handed in, of bounded bulk, the law answers true and leaves it as it was.
-/
import Derived.Test.YtnkdeacghopkiaaGreatDoorSt4
import Derived.Test.YtnkdeacghopkiaaGreatDoorCards
import Derived.Test.YtnkdeacghopkiaaGreatDoorTie
namespace Go.Proofs.YtnkdeacghopkiaaGreatDoor
open Go Go.Plat
set_option linter.unusedVariables false
set_option linter.unusedSimpArgs false
set_option maxRecDepth 100000
set_option maxHeartbeats 2000000
open Go.ChangeShapes Go.WideShapes Go.ChangeAt Go.RowKit
attribute [local irreducible] AWP zA yh zE zn yu z6 zF zX zY zq za zL yv zo zZ yq yr yj ym zr zu zz
abbrev zfa : List Sh := [.sl 1 (.int .i64)]
theorem zjD : qw Tryz.prog zfa Tryz.f4.params.toList = true := by kernel_rfl
theorem zoq {H : Type} {ds : List (DataW H)} (h : qx zfa ds) : Rows.topMacroSpec.fn H (ds ++ []) = { results := [.lit (.bool true)], args := ds } := by
 obtain ⟨d1, rfl, _⟩ := zpt h
 rfl
theorem zg6 {H : Type} {enc : TypeId × Value → H} {W : World} {base : Nat} {args : Array Value} {ds gs : List (DataW H)} {before : List MemPlace}
  (hval : ∀ (j : Nat) t v, Tryz.f4.params[j]? = some t → args[j]? = some v → Value.okWide Tryz.prog W .any base t v)
  (hW : DataW.Whole enc Tryz.prog Tryz.f4.params.toList Rows.topMacroSpec.vars false W args.toList ds gs before) (hG : GOk W F0) (hk : Rows.uptoSmall H (ds ++ gs) = true) :
  Calls Tryz.prog wI args W fun e W' => ∃ v, e = .returned v ∧ Rows.topMacroSpec.post enc Tryz.prog Tryz.f4 false true false false W args v W' := by
 have hgs : gs = [] := by obtain ⟨p, q, _, hV, _⟩ := hW; cases gs with | nil => rfl | cons g gs => exact hV.elim
 subst hgs
 refine zmI (s := Rows.topMacroSpec) (tb := 4) zjD (by kernel_rfl) rfl (by kernel_rfl) (by kernel_rfl) (fun h => zoq h) (fun j t v h1 h2 => ⟨_, _, hval j t v h1 h2⟩) hW hG zku fun h => ?_
 obtain ⟨d1, rfl, h1⟩ := zpt h
 have hb := zx8 hk
 rw [List.append_nil] at hb
 simp only [Rows.uptoBulkAll] at hb
 obtain ⟨l, e1, l1, q1⟩ := zwR (g := D.int .i64) (Q := fun _ n => -9223372036854775808 ≤ n ∧ n ≤ 9223372036854775807) h1 fun x _ hx => zvD hx
 have b1 := zuZ d1
 refine ⟨l, ⟨by omega, fun n hn => ?_⟩, ?_, rfl, rfl, rfl⟩
 ·obtain ⟨i, hi, rfl⟩ := List.getElem_of_mem hn
  exact q1 i _ _ (List.getElem?_eq_getElem (by omega)) (List.getElem?_eq_getElem hi)
 ·show LeL (jj zfa [d1]) _
  simp only [jj, e1]
  exact LeL.refl _
theorem zjE (os : Os) (started : os.Started) (H : Type) (enc : TypeId × Value → H) (F : Stop.Interp) :
  ReturnsInHanded {} Tryz.checked os wI .any ((Rows.OpenSpec.upto Rows.topMacroSpec).preRow enc Tryz.prog Tryz.f4 Rows.topMacroUptoRow.domain false Rows.topMacroUptoRow.laid) (((Rows.OpenSpec.upto Rows.topMacroSpec).at F).post enc Tryz.prog Tryz.f4 false true false false) := by
 refine returnsInHanded_of_row (C := Tryz.checked) (s := Rows.OpenSpec.upto Rows.topMacroSpec) own started (by kernel_rfl) Tryz.func4
  (witness_row_at (enc := enc) (C := Tryz.checked) (s := Rows.OpenSpec.upto Rows.topMacroSpec) false (World.laidAll Tryz.prog os Rows.topMacroUptoRow.laid) #[.slice none 0 0] (World.laidAll_os _ _ _) (by kernel_rfl) (by kernel_rfl) (by kernel_rfl)
    (OpenSpec.preRow_of_cond 8 (x := ([.nil], [], [])) (by kernel_rfl) (by kernel_rfl) (fun k h => by cases h; kernel_rfl) (by kernel_rfl)
      (by rw [MakeChecks.laidMetH_plain _ _ _ (by kernel_rfl)]; exact laidMet_laidAll _ (by kernel_rfl) (by kernel_rfl)))) ?_
 intro W base args ds gs before hval hW _ hk _ hL _ _
 exact zg6 hval hW (zu1 hL) (hk _ rfl)
theorem zkv : Rows.TopMacroUptoSaid :=
 OpenClaim.holds_of_cond wI Tryz.f4 rfl rfl rfl rfl rfl rfl rfl ⟨rfl, rfl, rfl, rfl, rfl⟩ rfl rfl rfl rfl rfl (by kernel_rfl) Tryz.func4 (by kernel_rfl)
  (of_decide_eq_true (by kernel_rfl)) (by unfold Func.isWrapper; first | (rw [if_pos (by decide +kernel)]; kernel_rfl) | (rw [if_neg (by decide +kernel)]; exact ⟨rfl, rfl⟩))
  (fun os started H enc _ F => by rw [OpenClaim.pre_eq_preRow]; exact zjE os started H enc F)
theorem topMacro_card_holds : Rows.TopMacroUptoCardSaid :=
 Claim7.holds_tied_plain_at .later [] [.data, .data, .data, .data, .sentinel, .sentinel, .pinned] true (true, "bdee3c06a9bdaa6a218e0ad7a14596d2a7dd10994daf51c2cb86c72990b8e4ee") true
  zkv (fun _ h => by cases h) (by kernel_rfl) (fun _ h => by cases h) topMacroUpto_row_tie rfl ⟨rfl, rfl⟩ (by kernel_rfl) rfl
  (fun f fn hf hfn => by
    obtain rfl : f = wI := Option.some.inj ((show Tryz.prog.funcNamed "platelayer/pltop.TopMacro" = some wI by kernel_rfl).symm.trans hf) |>.symm
    obtain rfl : fn = Tryz.f4 := (Option.some.inj (Tryz.func4.symm.trans hfn)).symm
    exact ⟨by kernel_rfl, fun j t ht => by
     have hall : (Tryz.f4.params.toList.all fun u => !Tryz.prog.wantsStandIn u) = true := by kernel_rfl
     have hm : t ∈ Tryz.f4.params.toList := by simpa using Array.mem_of_getElem? ht
     exact (show Tryz.prog.wantsStandIn t = false by simpa using List.all_eq_true.1 hall t hm)⟩)
  (by kernel_rfl)
end Go.Proofs.YtnkdeacghopkiaaGreatDoor
