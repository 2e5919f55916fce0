/-
  The statement: whatever is handed in, of bounded bulk, the law answers true and leaves it as it was.
-/
import Derived.Test.YtnkdeacghopkiaaGreatDoorSt4
import Derived.Test.YtnkdeacghopkiaaGreatDoorCards
import Derived.Test.YtnkdeacghopkiaaGreatDoorTie
namespace Go.Proofs.YtnkdeacghopkiaaGreatDoor
open Go Go.Plat
set_option linter.unusedVariables false
set_option linter.unusedSimpArgs false
set_option maxRecDepth 100000
set_option maxHeartbeats 2000000
open Go.ChangeShapes Go.WideShapes Go.ChangeAt Go.RowKit
attribute [local irreducible] AWP zN yv zU zo yC yh zG yb yf zx za zY yz zr yg yx yy yn yo zw zy zT
abbrev zei : List Sh := [.sl 1 (.sl 1 (.int .u8)), .int .i64, .int .i64]
theorem ziI : vX Tryz.prog zei Tryz.f3.params.toList = true := by kernel_rfl
theorem zne {H : Type} {ds : List (DataW H)} (h : w9 zei ds) : Rows.fairDeadSpec.fn H (ds ++ []) = { results := [.lit (.bool true)], args := ds } := by
 obtain ⟨d1, d2, d3, rfl, _⟩ := zoy h
 rfl
theorem zgf {H : Type} {enc : TypeId × Value → H} {W : World} {base : Nat} {args : Array Value} {ds gs : List (DataW H)} {before : List MemPlace}
  (hval : ∀ (j : Nat) t v, Tryz.f3.params[j]? = some t → args[j]? = some v → Value.okWide Tryz.prog W .any base t v)
  (hW : DataW.Whole enc Tryz.prog Tryz.f3.params.toList Rows.fairDeadSpec.vars false W args.toList ds gs before) (hG : GOk W F0) (hk : Rows.uptoSmall H (ds ++ gs) = true) :
  Calls Tryz.prog xQ args W fun e W' => ∃ v, e = .returned v ∧ Rows.fairDeadSpec.post enc Tryz.prog Tryz.f3 false true false false W args v W' := by
 have hgs : gs = [] := by obtain ⟨p, q, _, hV, _⟩ := hW; cases gs with | nil => rfl | cons g gs => exact hV.elim
 subst hgs
 refine zlM (s := Rows.fairDeadSpec) (tb := 4) ziI (by kernel_rfl) rfl (by kernel_rfl) (by kernel_rfl) (fun h => zne h) (fun j t v h1 h2 => ⟨_, _, hval j t v h1 h2⟩) hW hG zjv fun h => ?_
 obtain ⟨d1, d2, d3, rfl, h1, h2, h3⟩ := zoy h
 have hb := zvS hk
 rw [List.append_nil] at hb
 simp only [Rows.uptoBulkAll] at hb
 obtain ⟨l, e1, l1, q1⟩ := zqS (g := zm) (Q := fun d (b : List UInt8) => b.length ≤ Rows.uptoBulk d) h1 fun x _ hx => by
  obtain ⟨b, h4, h5⟩ := zqT hx
  exact ⟨b, h4, by rw [h5]; exact znd x⟩
 obtain ⟨n2, e2, r2⟩ := zox h2
 obtain ⟨n3, e3, r3⟩ := zox h3
 have b1 := znd d1
 have b2 := zkk d1
 refine ⟨(l, n2, n3), ⟨⟨by omega, fun s hs => ?_⟩, r2, r3⟩, ?_, rfl, rfl, rfl⟩
 ·obtain ⟨i, hi, rfl⟩ := List.getElem_of_mem hs
  have hie : i < (wQ d1).length := by omega
  have h4 := q1 i _ _ (List.getElem?_eq_getElem hie) (List.getElem?_eq_getElem hi)
  have h5 := zuB (List.getElem_mem hie)
  omega
 ·show LeL (kI zei [d1, d2, d3]) _
  simp only [kI, e1, e2, e3]
  exact LeL.refl _
theorem ziJ (os : Os) (started : os.Started) (H : Type) (enc : TypeId × Value → H) (F : Stop.Interp) :
  ReturnsInHanded {} Tryz.checked os xQ .any ((Rows.OpenSpec.upto Rows.fairDeadSpec).preRow enc Tryz.prog Tryz.f3 Rows.fairDeadUptoRow.domain false Rows.fairDeadUptoRow.laid) (((Rows.OpenSpec.upto Rows.fairDeadSpec).at F).post enc Tryz.prog Tryz.f3 false true false false) := by
 refine returnsInHanded_of_row (C := Tryz.checked) (s := Rows.OpenSpec.upto Rows.fairDeadSpec) own started (by kernel_rfl) Tryz.func3
  (witness_row_at (enc := enc) (C := Tryz.checked) (s := Rows.OpenSpec.upto Rows.fairDeadSpec) false (World.laidAll Tryz.prog os Rows.fairDeadUptoRow.laid) #[.slice none 0 0, .int .i64 0, .int .i64 0] (World.laidAll_os _ _ _) (by kernel_rfl) (by kernel_rfl) (by kernel_rfl)
    (OpenSpec.preRow_of_cond 8 (x := ([.nil, .lit (.int .i64 0), .lit (.int .i64 0)], [], [])) (by kernel_rfl) (by kernel_rfl) (fun k h => by cases h; kernel_rfl) (by kernel_rfl)
      (by rw [MakeChecks.laidMetH_plain _ _ _ (by kernel_rfl)]; exact laidMet_laidAll _ (by kernel_rfl) (by kernel_rfl)))) ?_
 intro W base args ds gs before hval hW _ hk _ hL _ _
 exact zgf hval hW (ztn hL) (hk _ rfl)
theorem zjw : Rows.FairDeadUptoSaid :=
 OpenClaim.holds_of_cond xQ Tryz.f3 rfl rfl rfl rfl rfl rfl rfl ⟨rfl, rfl, rfl, rfl, rfl⟩ rfl rfl rfl rfl rfl (by kernel_rfl) Tryz.func3 (by kernel_rfl)
  (of_decide_eq_true (by kernel_rfl)) (by unfold Func.isWrapper; first | (rw [if_pos (by decide +kernel)]; kernel_rfl) | (rw [if_neg (by decide +kernel)]; exact ⟨rfl, rfl⟩))
  (fun os started H enc _ F => by rw [OpenClaim.pre_eq_preRow]; exact ziJ os started H enc F)
theorem fairDead_card_holds : Rows.FairDeadUptoCardSaid :=
 Claim7.holds_tied_plain_at .later [] [.data, .data, .data, .data, .sentinel, .sentinel, .pinned] true (true, "bdee3c06a9bdaa6a218e0ad7a14596d2a7dd10994daf51c2cb86c72990b8e4ee") true
  zjw (fun _ h => by cases h) (by kernel_rfl) (fun _ h => by cases h) fairDeadUpto_row_tie rfl ⟨rfl, rfl⟩ (by kernel_rfl) rfl
  (fun f fn hf hfn => by
    obtain rfl : f = xQ := Option.some.inj ((show Tryz.prog.funcNamed "platelayer/pllaw12.FairDead" = some xQ by kernel_rfl).symm.trans hf) |>.symm
    obtain rfl : fn = Tryz.f3 := (Option.some.inj (Tryz.func3.symm.trans hfn)).symm
    exact ⟨by kernel_rfl, fun j t ht => by
     have hall : (Tryz.f3.params.toList.all fun u => !Tryz.prog.wantsStandIn u) = true := by kernel_rfl
     have hm : t ∈ Tryz.f3.params.toList := by simpa using Array.mem_of_getElem? ht
     exact (show Tryz.prog.wantsStandIn t = false by simpa using List.all_eq_true.1 hall t hm)⟩)
  (by kernel_rfl)
end Go.Proofs.YtnkdeacghopkiaaGreatDoor
