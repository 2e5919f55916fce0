/-
  The statement: whatever is handed in, of bounded bulk, the law answers true and leaves it as it was.
-/
import Derived.Test.YtfahnaccpncdpaaGreatDoorSt4
import Derived.Deep.DeepWitnessRowRef
import Derived.Test.YtfahnaccpncdpaaGreatDoorCards
import Derived.Test.YtfahnaccpncdpaaGreatDoorTie
namespace Go.Proofs.YtfahnaccpncdpaaGreatDoor
open Go Go.Plat
set_option linter.unusedVariables false
set_option linter.unusedSimpArgs false
set_option maxRecDepth 100000
set_option maxHeartbeats 2000000
open Go.ChangeShapes Go.WideShapes Go.ChangeAt Go.RowKit
attribute [local irreducible] AWP Arith BitS BytesS CallS CatS DrawS EndS IdxS LookS LoopEnd Meets ModeS NilS NormL NormM QuoS RemS ShlS ShrS SideS SplitS bitI
theorem dis_glob {W:World} (h:laidMetH Tryz.prog Rows.disTurnsUptoRow.laid W):GOk W F0:=by
 rw [MakeChecks.laidMetH_plain _ _ _ (by kernel_rfl)] at h
 obtain ⟨ps,h,_⟩:=h
 obtain ⟨h1,q1,h⟩:=tab_of_vars (k:=.u8) (zs:=[0,1,28,2,29,14,24,3,30,22,20,15,25,17,4,8,31,27,13,23,21,19,16,7,26,12,18,6,11,5,10,9]) (g:=6) (t:=247) (e:=5) (n:=32) (by kernel_rfl) (by kernel_rfl) (by kernel_rfl) (by kernel_rfl) (by kernel_rfl) (by kernel_rfl) (by kernel_rfl) h
 obtain ⟨h2,q2,h⟩:=tab_of_vars (k:=.u8) (zs:=[0,1,56,2,57,49,28,3,61,58,42,50,38,29,17,4,62,47,59,36,45,43,51,22,53,39,33,30,24,18,12,5,63,55,48,27,60,41,37,16,46,35,44,21,52,32,23,11,54,26,40,15,34,20,31,10,25,14,19,9,13,8,7,6]) (g:=7) (t:=248) (e:=5) (n:=64) (by kernel_rfl) (by kernel_rfl) (by kernel_rfl) (by kernel_rfl) (by kernel_rfl) (by kernel_rfl) (by kernel_rfl) h
 obtain ⟨h3,q3,h⟩:=tab_of_vars (k:=.u64) (zs:=Lib.pow10Tab) (g:=2) (t:=213) (e:=161) (n:=20) (by kernel_rfl) (by kernel_rfl) (by kernel_rfl) (by kernel_rfl) (by kernel_rfl) (by kernel_rfl) (by kernel_rfl) h
 obtain ⟨q4,h⟩:=laid_tail h
 obtain ⟨h5,q5,h⟩:=iface_of_vars (g:=9) (t:=55) (by kernel_rfl) (by kernel_rfl) (by kernel_rfl) rfl h
 obtain ⟨h6,q6,h⟩:=iface_of_vars (g:=8) (t:=55) (by kernel_rfl) (by kernel_rfl) (by kernel_rfl) rfl h
 obtain ⟨q8,h⟩:=laid_tail h
 obtain ⟨h7,q7,h⟩:=tab_of_vars (k:=.u8) (zs:=Lib.asciiSpaceTab) (g:=0) (t:=111) (e:=5) (n:=256) (by kernel_rfl) (by kernel_rfl) (by kernel_rfl) (by kernel_rfl) (by kernel_rfl) (by kernel_rfl) (by kernel_rfl) h
 show GOkL W F0 globs
 unfold globs
 exact gokl_cons (gfact (k:=.u8) (by kernel_rfl) h7 (by kernel_rfl)) (gokl_cons (gfact (k:=.u64) (by kernel_rfl) h3 (by kernel_rfl)) (gokl_cons (gfact (k:=.u8) (by kernel_rfl) h1 (by kernel_rfl)) (gokl_cons (gfact (k:=.u8) (by kernel_rfl) h2 (by kernel_rfl)) (gokl_cons h6 (gokl_cons h5 gokl_nil)))))
abbrev disTurnsSh:List Sh:=[.sl 1 (.int .u8)]
theorem disTurns_params:chkAll Tryz.prog disTurnsSh Tryz.f3.params.toList=true:=by kernel_rfl
theorem disTurns_def {H:Type} {ds:List (DataW H)} (h:fitAll disTurnsSh ds):Rows.disTurnsSpec.fn H (ds++[])={ results:=[.lit (.bool true)],args:=ds }:=by
 obtain ⟨d1,rfl,_⟩:=fitAll1 h
 rfl
theorem disTurns_contract {H:Type} {enc:TypeId×Value→H} {W:World} {base:Nat} {args:Array Value} {ds gs:List (DataW H)} {before:List MemPlace}
  (hval:∀ (j:Nat) t v,Tryz.f3.params[j]?=some t→args[j]?=some v→Value.okWide Tryz.prog W .any base t v)
  (hW:DataW.Whole enc Tryz.prog Tryz.f3.params.toList Rows.disTurnsSpec.vars false W args.toList ds gs before) (hG:GOk W F0) (hk:Rows.uptoSmall H (ds++gs)=true) :
  Calls Tryz.prog n_pllaw8_DisTurns args W fun e W'=>∃ v,e= .returned v∧Rows.disTurnsSpec.post enc Tryz.prog Tryz.f3 false true false false W args v W':=by
 have hgs:gs=[]:=by obtain ⟨p,q,_,hV,_⟩:=hW;cases gs with | nil=>rfl | cons g gs=>exact hV.elim
 subst hgs
 refine law_contract (s:=Rows.disTurnsSpec) (tb:=4) disTurns_params (by kernel_rfl) rfl (by kernel_rfl) (by kernel_rfl) (fun h=>disTurns_def h) (fun j t v h1 h2=>⟨_,_,hval j t v h1 h2⟩) hW hG disturns_meets fun h=>?_
 obtain ⟨d1,rfl,h1⟩:=fitAll1 h
 have hb:=bound hk
 rw [List.append_nil] at hb
 simp only [Rows.uptoBulkAll] at hb
 obtain ⟨b,e1,l1⟩:=fit_bytes h1
 have b1:=elems_le d1
 refine ⟨b,by show b.length≤_;omega,?_,rfl,rfl,rfl⟩
 show LeL (rdAll disTurnsSh [d1]) _
 simp only [rdAll,e1]
 exact LeL.refl _
theorem disTurns_lifted (os:Os) (started:os.Started) (H:Type) (enc:TypeId×Value→H) (F:Stop.Interp) :
  ReturnsInHanded {} Tryz.checked os n_pllaw8_DisTurns .any ((Rows.OpenSpec.upto Rows.disTurnsSpec).preRow enc Tryz.prog Tryz.f3 Rows.disTurnsUptoRow.domain false Rows.disTurnsUptoRow.laid) (((Rows.OpenSpec.upto Rows.disTurnsSpec).at F).post enc Tryz.prog Tryz.f3 false true false false):=by
 refine returnsInHanded_of_row (C:=Tryz.checked) (s:=Rows.OpenSpec.upto Rows.disTurnsSpec) own started (by kernel_rfl) Tryz.func3
  (witness_row_atRef (enc:=enc) (C:=Tryz.checked) (s:=Rows.OpenSpec.upto Rows.disTurnsSpec) false (World.laidAll Tryz.prog os Rows.disTurnsUptoRow.laid) #[.slice none 0 0] (World.laidAll_os _ _ _) (by kernel_rfl) (by kernel_rfl) (by kernel_rfl)
    (OpenSpec.preRow_of_cond 8 (x:=([.nil],[],[])) (by kernel_rfl) (by kernel_rfl) (fun k h=>by cases h;kernel_rfl) (by kernel_rfl)
      (by rw [MakeChecks.laidMetH_plain _ _ _ (by kernel_rfl)];exact laidMet_laidAll _ (by kernel_rfl) (by kernel_rfl)))) ?_
 intro W base args ds gs before hval hW _ hk _ hL _ _
 exact disTurns_contract hval hW (dis_glob hL) (hk _ rfl)
theorem disTurns_holds:Rows.DisTurnsUptoSaid:=
 OpenClaim.holds_of_cond n_pllaw8_DisTurns Tryz.f3 rfl rfl rfl rfl rfl rfl rfl ⟨rfl,rfl,rfl,rfl,rfl⟩ rfl rfl rfl rfl rfl (by kernel_rfl) Tryz.func3 (by kernel_rfl)
  (of_decide_eq_true (by kernel_rfl)) (by unfold Func.isWrapper;first | (rw [if_pos (by decide +kernel)];kernel_rfl) | (rw [if_neg (by decide +kernel)];exact ⟨rfl,rfl⟩))
  (fun os started H enc _ F=>by rw [OpenClaim.pre_eq_preRow];exact disTurns_lifted os started H enc F)
theorem disTurns_card_holds:Rows.DisTurnsUptoCardSaid:=
 Claim7.holds_tied_plain_at .later [] [.data, .data, .data, .data, .sentinel, .sentinel, .listed, .data, .pinned] true (true, "be7ba5d4f372fd7eac8d7c1aad03eee44366c6948131e856aee9ee22b9b01143") true
  disTurns_holds (fun _ h=>by cases h) (by kernel_rfl) (fun _ h=>by cases h) disTurnsUpto_row_tie rfl ⟨rfl,rfl⟩ (by kernel_rfl) rfl
  (fun f fn hf hfn=>by
    obtain rfl : f = n_pllaw8_DisTurns := Option.some.inj ((show Tryz.prog.funcNamed "platelayer/pllaw8.DisTurns" = some n_pllaw8_DisTurns by kernel_rfl).symm.trans hf) |>.symm
    obtain rfl:fn=Tryz.f3:=(Option.some.inj (Tryz.func3.symm.trans hfn)).symm
    exact ⟨by kernel_rfl,fun j t ht=>by
     have hall:(Tryz.f3.params.toList.all fun u=>!Tryz.prog.wantsStandIn u)=true:=by kernel_rfl
     have hm:t∈Tryz.f3.params.toList:=by simpa using Array.mem_of_getElem? ht
     exact (show Tryz.prog.wantsStandIn t=false by simpa using List.all_eq_true.1 hall t hm)⟩)
  (by kernel_rfl)
end Go.Proofs.YtfahnaccpncdpaaGreatDoor
