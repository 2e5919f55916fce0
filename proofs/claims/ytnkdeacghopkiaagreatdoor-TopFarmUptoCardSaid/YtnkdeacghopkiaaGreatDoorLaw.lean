/-
  The statement: whatever is handed in, of bounded bulk, the law answers true and leaves it as it was.
-/
import Derived.Test.YtnkdeacghopkiaaGreatDoorSt5
import Derived.Test.YtnkdeacghopkiaaGreatDoorCards
import Derived.Test.YtnkdeacghopkiaaGreatDoorTie
namespace Go.Proofs.YtnkdeacghopkiaaGreatDoor
open Go Go.Plat
set_option linter.unusedVariables false
set_option linter.unusedSimpArgs false
set_option maxRecDepth 100000
set_option maxHeartbeats 2000000
open Go.ChangeShapes Go.WideShapes Go.ChangeAt Go.RowKit
attribute [local irreducible] AWP zG yn zK zn yA z8 zI zY z6 zw za zN yB zt z7 yx yy yq yt zx zz zD
def znW:Sh:=.fld (.int .i64) (.fld (.int .i64) .fin)
theorem zzA {H:Type} {d:DataW H} (h:fit znW (.inl d)):∃ s:Stp,rd znW d=zgf s∧(-9223372036854775808≤s.kind∧s.kind≤9223372036854775807)∧-9223372036854775808≤s.n∧s.n≤9223372036854775807:=by
 obtain ⟨p0,r0,rfl,h0,k0⟩:=zyz h
 obtain ⟨p1,r1,rfl,h1,k1⟩:=zwE k0
 obtain rfl:=zyA k1
 obtain ⟨n0,e0,b0⟩:=zh4 h0
 obtain ⟨n1,e1,b1⟩:=zh4 h1
 refine ⟨⟨n0,n1⟩,?_,b0,b1⟩
 unfold znW
 rw [zzQ]
 simp only [zwF,zyB]
 rw [zuA e0 rfl (by simp),zuA e1 rfl (by simp)]
 rfl
abbrev zhI:List Sh:=[.int .i64,.int .i64,.sl 2 znW]
theorem zl5:kj Tryz.prog zhI Tryz.f5.params.toList=true:=by kernel_rfl
theorem zrC {H:Type} {ds:List (DataW H)} (h:qf zhI ds):Rows.topFarmSpec.fn H (ds++[])={ results:=[.lit (.bool true)],args:=ds }:=by
 obtain ⟨d1,d2,d3,rfl,_⟩:=zrQ h
 rfl
theorem zjF {H:Type} {enc:TypeId×Value→H} {W:World} {base:Nat} {args:Array Value} {ds gs:List (DataW H)} {before:List MemPlace}
  (hval:∀ (j:Nat) t v,Tryz.f5.params[j]?=some t→args[j]?=some v→Value.okWide Tryz.prog W .any base t v)
  (hW:DataW.Whole enc Tryz.prog Tryz.f5.params.toList Rows.topFarmSpec.vars false W args.toList ds gs before) (hG:GOk W F0) (hk:Rows.uptoSmall H (ds++gs)=true) :
  Calls Tryz.prog vv args W fun e W'=>∃ v,e= .returned v∧Rows.topFarmSpec.post enc Tryz.prog Tryz.f5 false true false false W args v W':=by
 have hgs:gs=[]:=by obtain ⟨p,q,_,hV,_⟩:=hW;cases gs with | nil=>rfl | cons g gs=>exact hV.elim
 subst hgs
 refine zoE (s:=Rows.topFarmSpec) (tb:=4) zl5 (by kernel_rfl) rfl (by kernel_rfl) (by kernel_rfl) (fun h=>zrC h) (fun j t v h1 h2=>⟨_,_,hval j t v h1 h2⟩) hW hG znB fun h=>?_
 obtain ⟨d1,d2,d3,rfl,h1,h2,h3⟩:=zrQ h
 have hb:=zBb hk
 rw [List.append_nil] at hb
 simp only [Rows.uptoBulkAll] at hb
 obtain ⟨n1,e1,r1⟩:=zh4 h1
 obtain ⟨n2,e2,r2⟩:=zh4 h2
 obtain ⟨l,e3,l3,q3⟩:=zzP (g:=zgf) (Q:=fun _ (s:Stp)=>(-9223372036854775808≤s.kind∧s.kind≤9223372036854775807)∧-9223372036854775808≤s.n∧s.n≤9223372036854775807) h3 fun x _ hx=>zzA hx
 have b3:=zxX d3
 refine ⟨(n1,n2,l),⟨r1,r2,by show l.length≤_;omega,fun s hs=>?_⟩,?_,rfl,rfl,rfl⟩
 ·obtain ⟨i,hi,rfl⟩:=List.getElem_of_mem hs
  have hie:i < (qm d3).length:=by omega
  exact q3 i _ _ (List.getElem?_eq_getElem hie) (List.getElem?_eq_getElem hi)
 ·show LeL (zal zhI [d1,d2,d3]) _
  simp only [zal,e1,e2,e3]
  exact LeL.refl _
theorem zl6 (os:Os) (started:os.Started) (H:Type) (enc:TypeId×Value→H) (F:Stop.Interp) :
  ReturnsInHanded {} Tryz.checked os vv .any ((Rows.OpenSpec.upto Rows.topFarmSpec).preRow enc Tryz.prog Tryz.f5 Rows.topFarmUptoRow.domain false Rows.topFarmUptoRow.laid) (((Rows.OpenSpec.upto Rows.topFarmSpec).at F).post enc Tryz.prog Tryz.f5 false true false false):=by
 refine returnsInHanded_of_row (C:=Tryz.checked) (s:=Rows.OpenSpec.upto Rows.topFarmSpec) own started (by kernel_rfl) Tryz.func5
  (witness_row_at (enc:=enc) (C:=Tryz.checked) (s:=Rows.OpenSpec.upto Rows.topFarmSpec) false (World.laidAll Tryz.prog os Rows.topFarmUptoRow.laid) #[.int .i64 0,.int .i64 0,.slice none 0 0] (World.laidAll_os _ _ _) (by kernel_rfl) (by kernel_rfl) (by kernel_rfl)
    (OpenSpec.preRow_of_cond 8 (x:=([.lit (.int .i64 0),.lit (.int .i64 0),.nil],[],[])) (by kernel_rfl) (by kernel_rfl) (fun k h=>by cases h;kernel_rfl) (by kernel_rfl)
      (by rw [MakeChecks.laidMetH_plain _ _ _ (by kernel_rfl)];exact laidMet_laidAll _ (by kernel_rfl) (by kernel_rfl)))) ?_
 intro W base args ds gs before hval hW _ hk _ hL _ _
 exact zjF hval hW (zxZ hL) (hk _ rfl)
theorem znC:Rows.TopFarmUptoSaid:=
 OpenClaim.holds_of_cond vv Tryz.f5 rfl rfl rfl rfl rfl rfl rfl ⟨rfl,rfl,rfl,rfl,rfl⟩ rfl rfl rfl rfl rfl (by kernel_rfl) Tryz.func5 (by kernel_rfl)
  (of_decide_eq_true (by kernel_rfl)) (by unfold Func.isWrapper;first | (rw [if_pos (by decide +kernel)];kernel_rfl) | (rw [if_neg (by decide +kernel)];exact ⟨rfl,rfl⟩))
  (fun os started H enc _ F=>by rw [OpenClaim.pre_eq_preRow];exact zl6 os started H enc F)
theorem topFarm_card_holds:Rows.TopFarmUptoCardSaid:=
 Claim7.holds_tied_plain_at .later [] [.data, .data, .data, .data, .sentinel, .sentinel, .pinned] true (true, "bdee3c06a9bdaa6a218e0ad7a14596d2a7dd10994daf51c2cb86c72990b8e4ee") true
  znC (fun _ h=>by cases h) (by kernel_rfl) (fun _ h=>by cases h) topFarmUpto_row_tie rfl ⟨rfl,rfl⟩ (by kernel_rfl) rfl
  (fun f fn hf hfn=>by
    obtain rfl : f = vv := Option.some.inj ((show Tryz.prog.funcNamed "platelayer/pltop.TopFarm" = some vv by kernel_rfl).symm.trans hf) |>.symm
    obtain rfl:fn=Tryz.f5:=(Option.some.inj (Tryz.func5.symm.trans hfn)).symm
    exact ⟨by kernel_rfl,fun j t ht=>by
     have hall:(Tryz.f5.params.toList.all fun u=>!Tryz.prog.wantsStandIn u)=true:=by kernel_rfl
     have hm:t∈Tryz.f5.params.toList:=by simpa using Array.mem_of_getElem? ht
     exact (show Tryz.prog.wantsStandIn t=false by simpa using List.all_eq_true.1 hall t hm)⟩)
  (by kernel_rfl)
end Go.Proofs.YtnkdeacghopkiaaGreatDoor
