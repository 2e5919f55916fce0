/-
  The statement: whatever is handed in, of bounded bulk, the law answers true and leaves it as it was.
-/
import Derived.Test.YtfahnaccpncdpaaDoorSt2
import Derived.Deep.DeepWitnessRowRef
import Derived.Test.YtfahnaccpncdpaaDoorCards
import Derived.Test.YtfahnaccpncdpaaDoorTie
namespace Go.Proofs.YtfahnaccpncdpaaDoor
open Go Go.Plat
set_option linter.unusedVariables false
set_option linter.unusedSimpArgs false
set_option maxRecDepth 100000
set_option maxHeartbeats 2000000
open Go.ChangeShapes Go.WideShapes Go.ChangeAt Go.RowKit
attribute [local irreducible] AWP Arith BitS BytesS CallS CatS DrawS EndS IdxS LookS LoopEnd Meets ModeS NilS NormL NormM QuoS RemS ShlS ShrS SideS SplitS bitI
def dinsSh:Sh:=.fld (.int .i64) (.fld (.int .i64) (.fld (.int .i64) (.fld (.int .i64) .fin)))
theorem fit_dins {H:Type} {d:DataW H} (h:fit dinsSh (.inl d)):∃ i:Ins,rd dinsSh d=insD i:=by
 obtain ⟨p0,r0,rfl,h0,k0⟩:=fit_fld h
 obtain ⟨p1,r1,rfl,h1,k1⟩:=fit_more k0
 obtain ⟨p2,r2,rfl,h2,k2⟩:=fit_more k1
 obtain ⟨p3,r3,rfl,h3,k3⟩:=fit_more k2
 obtain rfl:=fit_fin k3
 obtain ⟨n0,e0,_⟩:=fit_i64 h0
 obtain ⟨n1,e1,_⟩:=fit_i64 h1
 obtain ⟨n2,e2,_⟩:=fit_i64 h2
 obtain ⟨n3,e3,_⟩:=fit_i64 h3
 refine ⟨⟨n0,n1,n2,n3⟩,?_⟩
 unfold dinsSh
 rw [rd_fld]
 simp only [rdF_cons,rdF_nil]
 rw [cl_one e0 rfl (by simp),cl_one e1 rfl (by simp),cl_one e2 rfl (by simp),cl_one e3 rfl (by simp)]
 rfl
theorem dis_glob {W:World} (h:laidMetH Tryd.prog Rows.disTellsUptoRow.laid W):GOk W F0:=by
 rw [MakeChecks.laidMetH_plain _ _ _ (by kernel_rfl)] at h
 obtain ⟨ps,h,_⟩:=h
 obtain ⟨h1,q1,h⟩:=tab_of_vars (k:=.u8) (zs:=[0,1,28,2,29,14,24,3,30,22,20,15,25,17,4,8,31,27,13,23,21,19,16,7,26,12,18,6,11,5,10,9]) (g:=5) (t:=116) (e:=5) (n:=32) (by kernel_rfl) (by kernel_rfl) (by kernel_rfl) (by kernel_rfl) (by kernel_rfl) (by kernel_rfl) (by kernel_rfl) h
 obtain ⟨h2,q2,h⟩:=tab_of_vars (k:=.u8) (zs:=[0,1,56,2,57,49,28,3,61,58,42,50,38,29,17,4,62,47,59,36,45,43,51,22,53,39,33,30,24,18,12,5,63,55,48,27,60,41,37,16,46,35,44,21,52,32,23,11,54,26,40,15,34,20,31,10,25,14,19,9,13,8,7,6]) (g:=6) (t:=117) (e:=5) (n:=64) (by kernel_rfl) (by kernel_rfl) (by kernel_rfl) (by kernel_rfl) (by kernel_rfl) (by kernel_rfl) (by kernel_rfl) h
 obtain ⟨h3,q3,h⟩:=tab_of_vars (k:=.u64) (zs:=Lib.pow10Tab) (g:=2) (t:=105) (e:=88) (n:=20) (by kernel_rfl) (by kernel_rfl) (by kernel_rfl) (by kernel_rfl) (by kernel_rfl) (by kernel_rfl) (by kernel_rfl) h
 obtain ⟨q4,h⟩:=laid_tail h
 obtain ⟨q5,h⟩:=laid_tail h
 obtain ⟨h7,q7,h⟩:=tab_of_vars (k:=.u8) (zs:=Lib.asciiSpaceTab) (g:=0) (t:=78) (e:=5) (n:=256) (by kernel_rfl) (by kernel_rfl) (by kernel_rfl) (by kernel_rfl) (by kernel_rfl) (by kernel_rfl) (by kernel_rfl) h
 show GOkL W F0 globs
 unfold globs
 exact gokl_cons (gfact (k:=.u8) (by kernel_rfl) h7 (by kernel_rfl)) (gokl_cons (gfact (k:=.u64) (by kernel_rfl) h3 (by kernel_rfl)) (gokl_cons (gfact (k:=.u8) (by kernel_rfl) h1 (by kernel_rfl)) (gokl_cons (gfact (k:=.u8) (by kernel_rfl) h2 (by kernel_rfl)) gokl_nil)))
abbrev disTellsSh:List Sh:=[.sl 1 (.int .u8),dinsSh,.int .i64]
theorem disTells_params:chkAll Tryd.prog disTellsSh Tryd.f3.params.toList=true:=by kernel_rfl
theorem disTells_def {H:Type} {ds:List (DataW H)} (h:fitAll disTellsSh ds):Rows.disTellsSpec.fn H (ds++[])={ results:=[.lit (.bool true)],args:=ds }:=by
 obtain ⟨d1,d2,d3,rfl,_⟩:=fitAll3 h
 rfl
theorem disTells_contract {H:Type} {enc:TypeId×Value→H} {W:World} {base:Nat} {args:Array Value} {ds gs:List (DataW H)} {before:List MemPlace}
  (hval:∀ (j:Nat) t v,Tryd.f3.params[j]?=some t→args[j]?=some v→Value.okWide Tryd.prog W .any base t v)
  (hW:DataW.Whole enc Tryd.prog Tryd.f3.params.toList Rows.disTellsSpec.vars false W args.toList ds gs before) (hG:GOk W F0) (hk:Rows.uptoSmall H (ds++gs)=true) :
  Calls Tryd.prog n_pllaw8_DisTells args W fun e W'=>∃ v,e= .returned v∧Rows.disTellsSpec.post enc Tryd.prog Tryd.f3 false true false false W args v W':=by
 have hgs:gs=[]:=by obtain ⟨p,q,_,hV,_⟩:=hW;cases gs with | nil=>rfl | cons g gs=>exact hV.elim
 subst hgs
 refine law_contract (s:=Rows.disTellsSpec) (tb:=4) disTells_params (by kernel_rfl) rfl (by kernel_rfl) (by kernel_rfl) (fun h=>disTells_def h) (fun j t v h1 h2=>⟨_,_,hval j t v h1 h2⟩) hW hG distells_meets fun h=>?_
 obtain ⟨d1,d2,d3,rfl,h1,h2,h3⟩:=fitAll3 h
 have hb:=bound hk
 rw [List.append_nil] at hb
 simp only [Rows.uptoBulkAll] at hb
 obtain ⟨b,e1,l1⟩:=fit_bytes h1
 obtain ⟨i,e2⟩:=fit_dins h2
 obtain ⟨n3,e3,r3⟩:=fit_i64 h3
 have b1:=elems_le d1
 refine ⟨(b,i,n3),by show b.length≤_;omega,?_,rfl,rfl,rfl⟩
 show LeL (rdAll disTellsSh [d1,d2,d3]) _
 simp only [rdAll,e1,e2,e3]
 exact LeL.refl _
theorem disTells_lifted (os:Os) (started:os.Started) (H:Type) (enc:TypeId×Value→H) (F:Stop.Interp) :
  ReturnsInHanded {} Tryd.checked os n_pllaw8_DisTells .any ((Rows.OpenSpec.upto Rows.disTellsSpec).preRow enc Tryd.prog Tryd.f3 Rows.disTellsUptoRow.domain false Rows.disTellsUptoRow.laid) (((Rows.OpenSpec.upto Rows.disTellsSpec).at F).post enc Tryd.prog Tryd.f3 false true false false):=by
 refine returnsInHanded_of_row (C:=Tryd.checked) (s:=Rows.OpenSpec.upto Rows.disTellsSpec) own started (by kernel_rfl) Tryd.func3
  (witness_row_atRef (enc:=enc) (C:=Tryd.checked) (s:=Rows.OpenSpec.upto Rows.disTellsSpec) false (World.laidAll Tryd.prog os Rows.disTellsUptoRow.laid) #[.slice none 0 0,.agg #[.int .i64 0,.int .i64 0,.int .i64 0,.int .i64 0],.int .i64 0] (World.laidAll_os _ _ _) (by kernel_rfl) (by kernel_rfl) (by kernel_rfl)
    (OpenSpec.preRow_of_cond 8 (x:=([.nil,.agg [.lit (.int .i64 0),.lit (.int .i64 0),.lit (.int .i64 0),.lit (.int .i64 0)],.lit (.int .i64 0)],[],[])) (by kernel_rfl) (by kernel_rfl) (fun k h=>by cases h;kernel_rfl) (by kernel_rfl)
      (by rw [MakeChecks.laidMetH_plain _ _ _ (by kernel_rfl)];exact laidMet_laidAll _ (by kernel_rfl) (by kernel_rfl)))) ?_
 intro W base args ds gs before hval hW _ hk _ hL _ _
 exact disTells_contract hval hW (dis_glob hL) (hk _ rfl)
theorem disTells_holds:Rows.DisTellsUptoSaid:=
 OpenClaim.holds_of_cond n_pllaw8_DisTells Tryd.f3 rfl rfl rfl rfl rfl rfl rfl ⟨rfl,rfl,rfl,rfl,rfl⟩ rfl rfl rfl rfl rfl (by kernel_rfl) Tryd.func3 (by kernel_rfl)
  (of_decide_eq_true (by kernel_rfl)) (by unfold Func.isWrapper;first | (rw [if_pos (by decide +kernel)];kernel_rfl) | (rw [if_neg (by decide +kernel)];exact ⟨rfl,rfl⟩))
  (fun os started H enc _ F=>by rw [OpenClaim.pre_eq_preRow];exact disTells_lifted os started H enc F)
theorem disTells_card_holds:Rows.DisTellsUptoCardSaid:=
 Claim7.holds_tied_plain_at .later [] [.data, .data, .data, .data, .listed, .data, .pinned] true (true, "1f9b078bbfc214957a4db9674ffb24966b8c006c61948e28ed9f056896c40a48") false
  disTells_holds (fun _ h=>by cases h) (by kernel_rfl) (fun _ h=>by cases h) disTellsUpto_row_tie rfl ⟨rfl,rfl⟩ (by kernel_rfl) rfl
  (fun f fn hf hfn=>by
    obtain rfl : f = n_pllaw8_DisTells := Option.some.inj ((show Tryd.prog.funcNamed "platelayer/pllaw8.DisTells" = some n_pllaw8_DisTells by kernel_rfl).symm.trans hf) |>.symm
    obtain rfl:fn=Tryd.f3:=(Option.some.inj (Tryd.func3.symm.trans hfn)).symm
    exact ⟨by kernel_rfl,fun j t ht=>by
     have hall:(Tryd.f3.params.toList.all fun u=>!Tryd.prog.wantsStandIn u)=true:=by kernel_rfl
     have hm:t∈Tryd.f3.params.toList:=by simpa using Array.mem_of_getElem? ht
     exact (show Tryd.prog.wantsStandIn t=false by simpa using List.all_eq_true.1 hall t hm)⟩)
  (by kernel_rfl)
end Go.Proofs.YtfahnaccpncdpaaDoor
