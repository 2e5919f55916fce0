/-
  A part of the proof: what the given program's functions answer, each once; conditions that are enough for it.
-/
import Derived.Test.YtfahnaccpncdpaaDoorSt1
import Derived.Test.YtfahnaccpncdpaaDoorFw3
import Derived.Test.YtfahnaccpncdpaaDoorRows
import Derived.WalkKit
import Derived.ProofKit
import Derived.OpenShut
import Derived.JoinedCond
import Derived.Deep.DeepHandedRow
import Derived.Lay
namespace Go.Proofs.YtfahnaccpncdpaaDoor
open Go Go.Plat
set_option linter.unusedVariables false
set_option linter.unusedSimpArgs false
set_option maxRecDepth 100000
set_option maxHeartbeats 2000000
attribute [local irreducible] AWP Arith BitS BytesS CallS CatS DrawS EndS IdxS LookS LoopEnd Meets ModeS NilS NormL NormM QuoS RemS ShlS ShrS SideS SplitS bitI decI getN hexI infoR irows rinfo rrows shapeM signedI
theorem shapes_in:irows.all (fun r=>decide (0≤r.shape∧r.shape≤11))=true:=by unfold irows;decide
theorem shape_in {op:Int} {r:IRow} (h:infoR op=some r):0≤r.shape∧r.shape≤11:=by
 unfold infoR at h
 exact of_decide_eq_true (p:=0≤r.shape∧r.shape≤11) (List.all_eq_true.1 shapes_in r (List.mem_of_find?_eq_some h))
theorem fill_snoc (i:Ins) (td:Int) (l:List UInt8) (c:UInt8):fillF i td (l++[c])=fillF i td l++fillC i td c:=by
 unfold fillF
 rw [List.flatMap_append,List.flatMap_cons,List.flatMap_nil,List.append_nil]
theorem rline_meets:Meets Tryd.prog n_plref6_Line (SpecP (fun ((i,at_):Ins×Int)=>LineIn i at_) (fun (i,at_)=>[insD i,.int .i64 at_]) fun (i,at_)=>.str (lineH i at_)):=by
 refine meets_f tabOk Tryd.func10 rfl (by decide) ?_
 rintro ⟨i,at_⟩ h
 have h:LineIn i at_:=h
 obtain ⟨r,hr⟩:=h.op
 have hn:=h.n
 have hm:=h.m
 have hi:=h.imm
 have hp:=h.pl
 have ht:=to_in h
 refine ⟨Nat.le_refl _,by simp [Tryd.f10],fun E hE=>?_⟩
 have hE0:E.L.length=0:=by rw [hE];rfl
 have ln:=Lib.itoa_length_le i.n (by omega) (by omega)
 have lm:=Lib.itoa_length_le i.m (by omega) (by omega)
 have li:=Lib.itoa_length_le i.imm (by omega) (by omega)
 have hnl:=hexI_len (toM i at_)
 have hrw:=irow_ok hr
 obtain ⟨q,hq,q1,q2,q3,q4⟩:=rinfo_some hr
 have hg:getM (.int .i64 i.op) rrowsM=some (rrowD q):=by rw [getM_rows,hq];rfl
 dsimp only
 refine awp_seqK (vcOk _ ?_)
 (all_goals refine qgp ?_<;>(repeat' first | exact trivial | intro hc | refine And.intro ?_ ?_)<;>refine Lf.mk ?_)
 refine awp_cut (α:=Unit) (fun _=>True) (fun _=>[(1,.int .i64 at_),(2,.loc 0 0),(5,.loc 1 0),(6,.bool true)]) (fun _=>[.cells (insD i).cells,.cells (rrowD q).cells]) (vcOk _ ?_) (fun _ _=>?_)
 ·(all_goals refine qgn ?_<;>(repeat' first | exact trivial | intro hc | refine And.intro ?_ ?_)<;>refine Lf.mk ?_)
  refine dr_awp ?_
  refine draw_two tabOk mixed 0 7 [7,0,1,2,3,4,5,6,8,9] [1,2,3,4,5,6,7,0,8,9] rfl rfl rfl ?_ ?_
  ·(all_goals refine qgo ?_<;>(repeat' first | exact trivial | intro hc | refine And.intro ?_ ?_)<;>refine Lf.mk ?_)
   refine call_f rrows_meets [] [1] () trivial rfl rfl ?_
   refine And.intro (VS.mk (LeL.refl _)) (And.intro (VS.mk rfl) ?_)
   (all_goals refine qgo ?_<;>(repeat' first | exact trivial | intro hc | refine And.intro ?_ ?_)<;>refine Lf.mk ?_)
   refine renM_rows ?_
   (all_goals refine qgo ?_<;>(repeat' first | exact trivial | intro hc | refine And.intro ?_ ?_)<;>refine Lf.mk ?_)
   (repeat' (first | (refine lk_none hg ?_) | (refine lk_some hg ?_) | (refine VS.mk ?_) | (refine dr_mk ?_) | (refine md_l ?_) | ((first | refine sp_not_dec ?_ ?_ | refine sp_dec ?_ ?_ | refine sp_beq ?_ ?_ | refine sp_bne ?_ ?_ | refine sp_seq ?_ ?_ | refine sp_sne ?_ ?_ | refine sp_not ?_ ?_ | refine sp_any ?_ ?_)<;>(intro hc;try simp only [List.length_map,List.length_append,List.length_cons,List.length_nil,Bool.and_true,Bool.and_eq_true,beq_iff_eq,Bool.and_eq_false_iff,beq_eq_false_iff_ne,Bool.true_and,ne_eq] at hc)) | (with_reducible first | refine norm_one ?_ | refine norm_app ?_ | refine norm_cutEnd ?_ | refine norm_cut ?_ | refine norm_bytes1 ?_ | refine norm_bytes2 ?_ | refine norm_setByte ?_ | refine norm_int1 ?_ | refine norm_mk ?_) | (with_reducible refine bytes_mk ?_) | (refine ar_byte ?_) | (refine ar_i64 (by omega) (by omega) ?_) | (refine ar_low ?_) | (refine ix_byteN (by omega) ?_) | (refine ix_byteK (by simp only [Int.reduceToNat];exact rfl) (by decide) (by omega) ?_) | (refine ix_byte (by omega) (by omega) ?_) | (refine ix_rfl (by decide) rfl ?_) | (refine sd_mk rfl ?_) | (refine sd_mk (by decide +kernel) ?_) | (refine sd_mk (by first | (simp only [List.length_map,List.length_append,List.length_cons,List.length_nil];done) | ((try simp only [List.length_map,List.length_append,List.length_cons,List.length_nil,List.length_set,List.length_replicate,List.length_drop,List.length_take,true_and,and_true]);omega) | (dsimp only;omega)) ?_) | (first | refine shl8 (by omega) (by omega) ?_ | refine shl4 (by omega) (by omega) ?_ | refine shl1 (by omega) (by omega) ?_ | refine shl16 (by omega) (by omega) ?_ | refine shl24 (by omega) (by omega) ?_ | refine shr8 (by decide) ?_ | refine shr4 (by decide) ?_ | refine shr1 (by decide) ?_ | refine shr16 (by decide) ?_ | refine shr24 (by decide) ?_) | (with_reducible first | refine bit_mk and_1 ?_ | refine bit_mk and_15 ?_ | refine bit_mk and_255 ?_ | refine bit_mk and_4095 ?_ | refine bit_mk and_65535 ?_) | (refine quo_pos (by omega) (by omega) (by omega) ?_) | (refine rem_pos (by omega) (by omega) ?_)))
   refine ⟨(),trivial,?_⟩
   refine weak_keepO [0,2] rfl (by rw [hE0];rfl) ?_ ⟨.flat .int,.loc rfl,.loc rfl,.flat .bool,trivial⟩
   exact .cons rfl ⟨_,rfl,.cons (.flat .int) (.cons (.flat .int) (.cons (.flat .int) (.cons (.flat .int) .nil)))⟩ (.cons rfl ⟨_,rfl,.cons (.flat .str) (.cons (.flat .int) (.cons (.flat .str) .nil))⟩ .nil)
  ·(all_goals refine qgo ?_<;>(repeat' first | exact trivial | intro hc | refine And.intro ?_ ?_)<;>refine Lf.mk ?_)
   refine call_f rrows_meets [] [2] () trivial rfl rfl ?_
   refine And.intro (VS.mk (LeL.refl _)) (And.intro (VS.mk rfl) ?_)
   (all_goals refine qgo ?_<;>(repeat' first | exact trivial | intro hc | refine And.intro ?_ ?_)<;>refine Lf.mk ?_)
   refine renM_rows ?_
   (all_goals refine qgo ?_<;>(repeat' first | exact trivial | intro hc | refine And.intro ?_ ?_)<;>refine Lf.mk ?_)
   (repeat' (first | (refine lk_none hg ?_) | (refine lk_some hg ?_) | (refine VS.mk ?_) | (refine dr_mk ?_) | (refine md_l ?_) | ((first | refine sp_not_dec ?_ ?_ | refine sp_dec ?_ ?_ | refine sp_beq ?_ ?_ | refine sp_bne ?_ ?_ | refine sp_seq ?_ ?_ | refine sp_sne ?_ ?_ | refine sp_not ?_ ?_ | refine sp_any ?_ ?_)<;>(intro hc;try simp only [List.length_map,List.length_append,List.length_cons,List.length_nil,Bool.and_true,Bool.and_eq_true,beq_iff_eq,Bool.and_eq_false_iff,beq_eq_false_iff_ne,Bool.true_and,ne_eq] at hc)) | (with_reducible first | refine norm_one ?_ | refine norm_app ?_ | refine norm_cutEnd ?_ | refine norm_cut ?_ | refine norm_bytes1 ?_ | refine norm_bytes2 ?_ | refine norm_setByte ?_ | refine norm_int1 ?_ | refine norm_mk ?_) | (with_reducible refine bytes_mk ?_) | (refine ar_byte ?_) | (refine ar_i64 (by omega) (by omega) ?_) | (refine ar_low ?_) | (refine ix_byteN (by omega) ?_) | (refine ix_byteK (by simp only [Int.reduceToNat];exact rfl) (by decide) (by omega) ?_) | (refine ix_byte (by omega) (by omega) ?_) | (refine ix_rfl (by decide) rfl ?_) | (refine sd_mk rfl ?_) | (refine sd_mk (by decide +kernel) ?_) | (refine sd_mk (by first | (simp only [List.length_map,List.length_append,List.length_cons,List.length_nil];done) | ((try simp only [List.length_map,List.length_append,List.length_cons,List.length_nil,List.length_set,List.length_replicate,List.length_drop,List.length_take,true_and,and_true]);omega) | (dsimp only;omega)) ?_) | (first | refine shl8 (by omega) (by omega) ?_ | refine shl4 (by omega) (by omega) ?_ | refine shl1 (by omega) (by omega) ?_ | refine shl16 (by omega) (by omega) ?_ | refine shl24 (by omega) (by omega) ?_ | refine shr8 (by decide) ?_ | refine shr4 (by decide) ?_ | refine shr1 (by decide) ?_ | refine shr16 (by decide) ?_ | refine shr24 (by decide) ?_) | (with_reducible first | refine bit_mk and_1 ?_ | refine bit_mk and_15 ?_ | refine bit_mk and_255 ?_ | refine bit_mk and_4095 ?_ | refine bit_mk and_65535 ?_) | (refine quo_pos (by omega) (by omega) (by omega) ?_) | (refine rem_pos (by omega) (by omega) ?_)))
   refine ⟨(),trivial,?_⟩
   refine weak_keepO [0,1] rfl (by rw [hE0];rfl) ?_ ⟨.flat .int,.loc rfl,.loc rfl,.flat .bool,trivial⟩
   exact .cons rfl ⟨_,rfl,.cons (.flat .int) (.cons (.flat .int) (.cons (.flat .int) (.cons (.flat .int) .nil)))⟩ (.cons rfl ⟨_,rfl,.cons (.flat .str) (.cons (.flat .int) (.cons (.flat .str) .nil))⟩ .nil)
 unfold insD D.cells rrowD
 dsimp only
 refine vcOk _ ?_
 (all_goals refine qgp ?_<;>(repeat' first | exact trivial | intro hc | refine And.intro ?_ ?_)<;>refine Lf.mk ?_)
 (any_goals (first | (exfalso;refine Bool.false_ne_true ?_;assumption) | (exfalso;refine Bool.false_ne_true (Eq.symm ?_);assumption) | (exfalso;refine absurd trivial ?_;assumption) | skip))
 refine call_p rto_meets (i,at_) ⟨by show -4096≤i.imm;omega,by show i.imm≤4096;omega,by show _≤at_;omega,by show at_≤_;omega⟩ (VS.mk (LeL.of_eq rfl)) ?_
 dsimp only
 generalize htd:toM i at_=td at *
 (all_goals refine qgp ?_<;>(repeat' first | exact trivial | intro hc | refine And.intro ?_ ?_)<;>refine Lf.mk ?_)
 have hsh:=shape_in hr
 refine ix_rfl (d:=.str (formI r.shape)) (by rw [q2];omega) (by
  rw [q2]
  show (formsL.map D.str)[r.shape.toNat]?=_
  have hl:r.shape.toNat < formsL.length:=by show r.shape.toNat < 12;omega
  rw [List.getElem?_map,List.getElem?_eq_getElem hl]
  unfold formI
  rw [List.getD_eq_getElem?_getD,List.getElem?_eq_getElem hl]
  rfl) ?_
 (all_goals refine qgp ?_<;>(repeat' first | exact trivial | intro hc | refine And.intro ?_ ?_)<;>refine Lf.mk ?_)
 have hfl:=form_len r.shape
 generalize hf:formI r.shape=f at *
 have hll:=fill_len (i:=i) (td:=td) ln lm li f
 refine awp_loopW (α:=Nat) (fun k=>k≤f.length) (fun k=>[(2,.loc 0 0),(7,.int .i64 td),(9,.str f),(10,.str (r.name++fillF i td (f.take k))),(34,.str f),(35,.int .i64 f.length),(36,.int .i64 k)]) (fun _=>[.cells [.int .i64 i.op,.int .i64 i.n,.int .i64 i.m,.int .i64 i.imm],.cells [.str q.name,.int .i64 q.shape,.str q.bits]]) (fun k=>f.length - k) (fun _=>by rw [hE0];exact Nat.zero_le _) 0 (Nat.zero_le _) ?_ ?_
 ·exact weak_same rfl ⟨rfl,rfl,rfl,congrArg D.str (by rw [q1];show r.name=r.name++[];rw [List.append_nil]),rfl,rfl,rfl,trivial⟩
 intro k hk
 have hk:k≤f.length:=hk
 have hacc:(r.name++fillF i td (f.take k)).length≤150:=by
  have h1:=fill_len (i:=i) (td:=td) ln lm li (f.take k)
  have h2:(f.take k).length≤6:=by rw [List.length_take];omega
  have h3:=hrw.2.2
  rw [List.length_append]
  omega
 have hnm:(nameH td).length≤18:=by unfold nameH;rw [List.length_cons];omega
 refine vcOk _ ?_
 (all_goals refine qgp ?_<;>(repeat' first | exact trivial | intro hc | refine And.intro ?_ ?_)<;>refine Lf.mk ?_)
 ·have hkl:k < f.length:=by omega
  obtain ⟨c,hck⟩:=at_of_lt (l:=f) (k:=k) hkl
  have hgd:f.getD ((k:Nat):Int).toNat 0=c:=by rw [Int.toNat_natCast,List.getD_eq_getElem?_getD,hck];rfl
  simp only [hgd] at *
  have htk:f.take (k+1)=f.take k++[c]:=by rw [List.take_add_one,hck];rfl
  have step:∀ s,fillC i td c=s→(r.name++fillF i td (f.take k))++s=r.name++fillF i td (f.take (k+1)):=fun s e=>by rw [htk,fill_snoc,e,List.append_assoc]
  have no:∀ v:UInt8,¬ (c.toNat:Int)=(v.toNat:Int)→c≠v:=fun v h e=>h (by rw [e])
  have yes:∀ v:UInt8,(c.toNat:Int)=(v.toNat:Int)→c=v:=fun v h=>UInt8.toNat_inj.1 (by omega)
  refine call_p itoa_meets i.imm ⟨by omega,by omega⟩ (VS.mk (LeL.of_eq rfl)) ?_
  (all_goals refine qgp ?_<;>(repeat' first | exact trivial | intro hc | refine And.intro ?_ ?_)<;>refine Lf.mk ?_)
  refine cat_gen 150 21 hacc li (by decide) fun y1 e1 l1=>?_
  (all_goals refine qgp ?_<;>(repeat' first | exact trivial | intro hc | refine And.intro ?_ ?_)<;>refine Lf.mk ?_)
  exact loop_same (k+1) (by show k+1≤_;omega) (by omega) rfl ⟨rfl,rfl,rfl,congrArg D.str (by rw [e1];exact step _ (by unfold fillC;rw [if_pos (yes 105 hc)])),rfl,rfl,rfl,trivial⟩
 ·have hkl:k < f.length:=by omega
  obtain ⟨c,hck⟩:=at_of_lt (l:=f) (k:=k) hkl
  have hgd:f.getD ((k:Nat):Int).toNat 0=c:=by rw [Int.toNat_natCast,List.getD_eq_getElem?_getD,hck];rfl
  simp only [hgd] at *
  have htk:f.take (k+1)=f.take k++[c]:=by rw [List.take_add_one,hck];rfl
  have step:∀ s,fillC i td c=s→(r.name++fillF i td (f.take k))++s=r.name++fillF i td (f.take (k+1)):=fun s e=>by rw [htk,fill_snoc,e,List.append_assoc]
  have no:∀ v:UInt8,¬ (c.toNat:Int)=(v.toNat:Int)→c≠v:=fun v h e=>h (by rw [e])
  have yes:∀ v:UInt8,(c.toNat:Int)=(v.toNat:Int)→c=v:=fun v h=>UInt8.toNat_inj.1 (by omega)
  refine cat_gen 150 1 hacc (by decide) (by decide) fun y1 e1 l1=>?_
  (all_goals refine qgp ?_<;>(repeat' first | exact trivial | intro hc | refine And.intro ?_ ?_)<;>refine Lf.mk ?_)
  refine call_p itoa_meets i.n ⟨by omega,by omega⟩ (VS.mk (LeL.of_eq rfl)) ?_
  (all_goals refine qgp ?_<;>(repeat' first | exact trivial | intro hc | refine And.intro ?_ ?_)<;>refine Lf.mk ?_)
  refine cat_gen 151 21 l1 ln (by decide) fun y2 e2 l2=>?_
  (all_goals refine qgp ?_<;>(repeat' first | exact trivial | intro hc | refine And.intro ?_ ?_)<;>refine Lf.mk ?_)
  exact loop_same (k+1) (by show k+1≤_;omega) (by omega) rfl ⟨rfl,rfl,rfl,congrArg D.str (by rw [e2,e1,List.append_assoc];exact step _ (by unfold fillC;rw [if_neg (no 105 (by assumption)),if_pos (yes 110 hc)];rfl)),rfl,rfl,rfl,trivial⟩
 ·have hkl:k < f.length:=by omega
  obtain ⟨c,hck⟩:=at_of_lt (l:=f) (k:=k) hkl
  have hgd:f.getD ((k:Nat):Int).toNat 0=c:=by rw [Int.toNat_natCast,List.getD_eq_getElem?_getD,hck];rfl
  simp only [hgd] at *
  have htk:f.take (k+1)=f.take k++[c]:=by rw [List.take_add_one,hck];rfl
  have step:∀ s,fillC i td c=s→(r.name++fillF i td (f.take k))++s=r.name++fillF i td (f.take (k+1)):=fun s e=>by rw [htk,fill_snoc,e,List.append_assoc]
  have no:∀ v:UInt8,¬ (c.toNat:Int)=(v.toNat:Int)→c≠v:=fun v h e=>h (by rw [e])
  have yes:∀ v:UInt8,(c.toNat:Int)=(v.toNat:Int)→c=v:=fun v h=>UInt8.toNat_inj.1 (by omega)
  refine cat_gen 150 1 hacc (by decide) (by decide) fun y1 e1 l1=>?_
  (all_goals refine qgp ?_<;>(repeat' first | exact trivial | intro hc | refine And.intro ?_ ?_)<;>refine Lf.mk ?_)
  refine call_p itoa_meets i.m ⟨by omega,by omega⟩ (VS.mk (LeL.of_eq rfl)) ?_
  (all_goals refine qgp ?_<;>(repeat' first | exact trivial | intro hc | refine And.intro ?_ ?_)<;>refine Lf.mk ?_)
  refine cat_gen 151 21 l1 lm (by decide) fun y2 e2 l2=>?_
  (all_goals refine qgp ?_<;>(repeat' first | exact trivial | intro hc | refine And.intro ?_ ?_)<;>refine Lf.mk ?_)
  exact loop_same (k+1) (by show k+1≤_;omega) (by omega) rfl ⟨rfl,rfl,rfl,congrArg D.str (by rw [e2,e1,List.append_assoc];exact step _ (by unfold fillC;rw [if_neg (no 105 (by assumption)),if_neg (no 110 (by assumption)),if_pos (yes 109 hc)];rfl)),rfl,rfl,rfl,trivial⟩
 ·have hkl:k < f.length:=by omega
  obtain ⟨c,hck⟩:=at_of_lt (l:=f) (k:=k) hkl
  have hgd:f.getD ((k:Nat):Int).toNat 0=c:=by rw [Int.toNat_natCast,List.getD_eq_getElem?_getD,hck];rfl
  simp only [hgd] at *
  have htk:f.take (k+1)=f.take k++[c]:=by rw [List.take_add_one,hck];rfl
  have step:∀ s,fillC i td c=s→(r.name++fillF i td (f.take k))++s=r.name++fillF i td (f.take (k+1)):=fun s e=>by rw [htk,fill_snoc,e,List.append_assoc]
  have no:∀ v:UInt8,¬ (c.toNat:Int)=(v.toNat:Int)→c≠v:=fun v h e=>h (by rw [e])
  have yes:∀ v:UInt8,(c.toNat:Int)=(v.toNat:Int)→c=v:=fun v h=>UInt8.toNat_inj.1 (by omega)
  refine call_p rhex_meets td ht (VS.mk (LeL.of_eq rfl)) ?_
  (all_goals refine qgp ?_<;>(repeat' first | exact trivial | intro hc | refine And.intro ?_ ?_)<;>refine Lf.mk ?_)
  refine cat_gen 150 18 hacc hnm (by decide) fun y1 e1 l1=>?_
  (all_goals refine qgp ?_<;>(repeat' first | exact trivial | intro hc | refine And.intro ?_ ?_)<;>refine Lf.mk ?_)
  exact loop_same (k+1) (by show k+1≤_;omega) (by omega) rfl ⟨rfl,rfl,rfl,congrArg D.str (by rw [e1];exact step _ (by unfold fillC;rw [if_neg (no 105 (by assumption)),if_neg (no 110 (by assumption)),if_neg (no 109 (by assumption)),if_pos (yes 112 hc)])),rfl,rfl,rfl,trivial⟩
 ·have hkl:k < f.length:=by omega
  obtain ⟨c,hck⟩:=at_of_lt (l:=f) (k:=k) hkl
  have hgd:f.getD ((k:Nat):Int).toNat 0=c:=by rw [Int.toNat_natCast,List.getD_eq_getElem?_getD,hck];rfl
  simp only [hgd] at *
  have htk:f.take (k+1)=f.take k++[c]:=by rw [List.take_add_one,hck];rfl
  have step:∀ s,fillC i td c=s→(r.name++fillF i td (f.take k))++s=r.name++fillF i td (f.take (k+1)):=fun s e=>by rw [htk,fill_snoc,e,List.append_assoc]
  have no:∀ v:UInt8,¬ (c.toNat:Int)=(v.toNat:Int)→c≠v:=fun v h e=>h (by rw [e])
  have yes:∀ v:UInt8,(c.toNat:Int)=(v.toNat:Int)→c=v:=fun v h=>UInt8.toNat_inj.1 (by omega)
  have hdr:(f.take ((k:Int)+1).toNat).drop ((k:Nat):Int).toNat=[c]:=by rw [Int.toNat_natCast,show ((k:Int)+1).toNat=k+1 by omega,htk,List.drop_left' (by rw [List.length_take];omega)]
  refine cat_gen 150 1 hacc (by rw [hdr];exact Nat.le_refl _) (by decide) fun y1 e1 l1=>?_
  (all_goals refine qgp ?_<;>(repeat' first | exact trivial | intro hc | refine And.intro ?_ ?_)<;>refine Lf.mk ?_)
  exact loop_same (k+1) (by show k+1≤_;omega) (by omega) rfl ⟨rfl,rfl,rfl,congrArg D.str (by rw [e1,hdr];exact step _ (by unfold fillC;rw [if_neg (no 105 (by assumption)),if_neg (no 110 (by assumption)),if_neg (no 109 (by assumption)),if_neg (no 112 (by assumption))])),rfl,rfl,rfl,trivial⟩
 ·have hkf:k=f.length:=by omega
  refine end_p (VS.mk (LeD.of_eq (congrArg D.str ?_)))
  unfold lineH
  rw [hr,hkf,List.take_length,htd]
  dsimp only
  rw [hf]
attribute [local irreducible] encV ldM toM
def finI (i:Ins) (at_ n:Int):Bool:=!ldM i || (decide (0≤toM i at_) && decide (toM i at_ < n))
theorem fine_meets:Meets Tryd.prog n_dis_fine (SpecP (fun ((i,at_,n):Ins×Int×Int)=>-4096≤i.imm∧i.imm≤4096∧-4000000000000≤at_∧at_≤4000000000000) (fun (i,at_,n)=>[insD i,.int .i64 at_,.int .i64 n]) fun (i,at_,n)=>.bool (finI i at_ n)):=by
 refine meets_f tabOk Tryd.func14 rfl (by decide) ?_
 rintro ⟨i,at_,n⟩ h
 have h: -4096≤i.imm∧i.imm≤4096∧-4000000000000≤at_∧at_≤4000000000000:=h
 refine ⟨Nat.le_refl _,by simp [Tryd.f14],fun E hE=>?_⟩
 have hF:finI i at_ n=(!ldM i || (decide (0≤toM i at_) && decide (toM i at_ < n))):=rfl
 dsimp only
 generalize finI i at_ n=F at *
 refine vcOk _ ?_
 (all_goals refine qgp ?_<;>(repeat' first | exact trivial | intro hc | refine And.intro ?_ ?_)<;>refine Lf.mk ?_)
 refine call_p to_meets (i,at_) h (VS.mk (LeL.of_eq rfl)) ?_
 dsimp only
 generalize toM i at_=td at *
 generalize ldM i=l at *
 (all_goals refine qgp ?_<;>(repeat' first | exact trivial | intro hc | refine And.intro ?_ ?_)<;>refine Lf.mk ?_)
 all_goals refine end_p (VS.mk ?_)
 ·exact LeD.tt (by simp_all)
 ·exact LeD.of_eq (congrArg D.bool (by simp_all))
 ·exact LeD.ff (by simp_all)
def isI (b:List UInt8) (at_:Int):Option Ins:=if (b.length:Int) < at_+2∨(decI (getN b at_ 2)).2≠0∨finI (decI (getN b at_ 2)).1 at_ b.length=false then none else some (decI (getN b at_ 2)).1
def isD (b:List UInt8) (at_:Int):D:=.tup [insD ((isI b at_).getD ins0),.bool (isI b at_).isSome]
attribute [local irreducible] finI wrongI
structure LineIn0 (i:Ins):Prop where
 op:∃ r,infoR i.op=some r
 n:0≤i.n∧i.n≤15
 m:0≤i.m∧i.m≤15
 imm: -4096≤i.imm∧i.imm≤4096
theorem LineIn0.at {i:Ins} (h:LineIn0 i) {at_:Int} (h0:0≤at_) (h1:at_≤2000000):LineIn i at_:=⟨h.op,h.n,h.m,h.imm,h0,h1⟩
theorem low_high (s:Int): -2048≤lowI s∧highI s≤2047:=by
 unfold lowI highI
 refine ⟨?_,?_⟩
 ·split
  ·decide
  split<;>decide
 ·split
  ·decide
  split
  ·decide
  split<;>decide
theorem wr_in {i:Ins} (h:wrongI i=0):LineIn0 i:=by
 unfold wrongI at h
 split at h
 ·exact absurd h (by decide)
 ·rename_i r hr
  split at h
  ·exact absurd h (by decide)
  ·rename_i hb
   have hl:=low_high r.shape
   unfold badReg at hb
   exact ⟨⟨r,hr⟩,by omega,by omega,by omega⟩
theorem dec_in (w:Int): -4096≤(decI w).1.imm∧(decI w).1.imm≤4096:=by
 by_cases h:(decI w).2=0
 ·exact (wr_in (turn2 h).2.2.1).imm
 ·rw [turn0 h]
  exact ⟨by decide,by decide⟩
theorem is_meets:Meets Tryd.prog n_dis_Text_1 (SpecF (fun ((b,at_):List UInt8×Int)=>0≤at_∧at_≤4000000∧b.length≤4000000) (fun (_,at_)=>[.int .i64 at_,.loc 0 0]) (fun (b,_)=>[.cells [bytesD b]]) (fun (b,at_)=>isD b at_) fun (b,_)=>[.cells [bytesD b]]):=by
 refine meets_f tabOk Tryd.func11 rfl (by decide) ?_
 rintro ⟨b,at_⟩ ⟨h0,h1,h2⟩
 have h0:0≤at_:=h0
 have h1:at_≤4000000:=h1
 have h2:b.length≤4000000:=h2
 have hcl:∀ x∈[Ob.cells [bytesD b]],ClO 1 x:=fun x hx=>by rw [List.mem_singleton.1 hx];exact .cells (.cons .sl .nil)
 have hI:isI b at_=if (b.length:Int) < at_+2∨(decI (getN b at_ 2)).2≠0∨finI (decI (getN b at_ 2)).1 at_ b.length=false then none else some (decI (getN b at_ 2)).1:=rfl
 unfold isD
 dsimp only
 generalize isI b at_=I at *
 refine ⟨Nat.le_refl _,by simp [Tryd.f11],fun E hE=>?_⟩
 refine vcOk _ ?_
 have fin:∀ {X:List Ob} {r:D} {d:Option Ins},I=d→LeD r (.tup [insD (d.getD ins0),.bool d.isSome])→EndS [Ob.cells [bytesD b]].length r (.tup [insD (I.getD ins0),.bool I.isSome]) (.cells [bytesD b]::X) [.cells [bytesD b]]:=fun {X r d} h hr=>by
  rw [h]
  exact end_le hr (end_pre [.cells [bytesD b]] X rfl (Nat.le_refl _) (.tup (.cons (.agg (.cons .int (.cons .int (.cons .int (.cons .int .nil))))) (.cons .bool .nil))) hcl) (Nat.le_refl _)
 (all_goals refine qgp ?_<;>(repeat' first | exact trivial | intro hc | refine And.intro ?_ ?_)<;>refine Lf.mk ?_)
 ·rw [if_pos (.inl hc)] at hI
  exact fin hI (LeD.tup (.cons (.refl _) (.cons (LeD.ff rfl) .nil)))
 ·refine call_p get_meets (b,at_,2) ⟨by show _≤at_;omega,by show at_≤_;omega,by show 2≤4;decide⟩ (VS.mk (LeL.of_eq rfl)) ?_
  dsimp only
  generalize hgw:getN b at_ 2=w at *
  (all_goals refine qgp ?_<;>(repeat' first | exact trivial | intro hc | refine And.intro ?_ ?_)<;>refine Lf.mk ?_)
  refine call_p decode_meets w trivial (VS.mk (LeL.of_eq rfl)) ?_
  dsimp only
  have hd:=@turn2 w
  have hin:=dec_in w
  generalize decI w=R at *
  obtain ⟨j,e⟩:=R
  dsimp only at hI hd hin ⊢
  (all_goals refine qgp ?_<;>(repeat' first | exact trivial | intro hc | refine And.intro ?_ ?_)<;>refine Lf.mk ?_)
  ·rw [if_pos (.inr (.inl hc))] at hI
   exact fin hI (LeD.tup (.cons (.refl _) (.cons (LeD.ff rfl) .nil)))
  ·obtain ⟨w0,w1,hwr,hen⟩:=hd hc
   refine call_p fine_meets (j,at_,b.length) ⟨hin.1,hin.2,by show _≤at_;omega,by show at_≤_;omega⟩ (VS.mk (LeL.of_eq rfl)) ?_
   dsimp only
   generalize finI j at_ b.length=fi at *
   cases fi with
   | false=>
    rw [if_pos (.inr (.inr rfl))] at hI
    (all_goals refine qgp ?_<;>(repeat' first | exact trivial | intro hc | refine And.intro ?_ ?_)<;>refine Lf.mk ?_)
    (any_goals (first | (exfalso;refine Bool.false_ne_true ?_;assumption) | (exfalso;refine Bool.false_ne_true (Eq.symm ?_);assumption) | (exfalso;refine absurd trivial ?_;assumption) | skip))
    all_goals exact fin hI (LeD.tup (.cons (.refl _) (.cons (LeD.ff rfl) .nil)))
   | true=>
    rw [if_neg (fun h=>by rcases h with h | h | h;omega;exact h hc;exact Bool.noConfusion h)] at hI
    (all_goals refine qgp ?_<;>(repeat' first | exact trivial | intro hc | refine And.intro ?_ ?_)<;>refine Lf.mk ?_)
    (any_goals (first | (exfalso;refine Bool.false_ne_true ?_;assumption) | (exfalso;refine Bool.false_ne_true (Eq.symm ?_);assumption) | (exfalso;refine absurd trivial ?_;assumption) | skip))
    refine call_p encode_meets j trivial (VS.mk (LeL.of_eq rfl)) ?_
    dsimp only
    rw [if_pos hwr,hwr,hen]
    (all_goals refine qgp ?_<;>(repeat' first | exact trivial | intro hc | refine And.intro ?_ ?_)<;>refine Lf.mk ?_)
    all_goals first
     | (exfalso;exact (by assumption:¬ True) trivial)
     | skip
    refine call_p get_meets (b,at_,2) ⟨by show _≤at_;omega,by show at_≤_;omega,by show 2≤4;decide⟩ (VS.mk (LeL.of_eq rfl)) ?_
    dsimp only
    rw [hgw]
    (all_goals refine qgp ?_<;>(repeat' first | exact trivial | intro hc | refine And.intro ?_ ?_)<;>refine Lf.mk ?_)
    all_goals exact fin hI (LeD.tup (.cons (.refl _) (.cons (LeD.of_eq (congrArg D.bool (beq_self_eq_true w))) .nil)))
end Go.Proofs.YtfahnaccpncdpaaDoor
namespace Go.Proofs.YtfahnaccpncdpaaDoor
open Go Go.Plat
set_option linter.unusedVariables false
set_option linter.unusedSimpArgs false
set_option maxRecDepth 100000
set_option maxHeartbeats 2000000
attribute [local irreducible] AWP Arith BitS BytesS CallS CatS DrawS EndS IdxS LookS LoopEnd Meets ModeS NilS NormL NormM QuoS RemS ShlS ShrS SideS SplitS bitI
def idxN (x:Int):List Int→Nat→Int
 | [],_=>-1
 | y::l,k=>if x=y then (k:Int) else idxN x l (k+1)
theorem idxN_ge (x:Int):∀ (l:List Int) (k:Nat),(0≤idxN x l k↔x∈l)
 | [],k=>⟨fun h=>absurd h (by show ¬ (0:Int)≤-1;decide),fun h=>by cases h⟩
 | y::l,k=>by
  rw [idxN]
  split
  ·rename_i h;subst h
   exact ⟨fun _=>List.mem_cons_self,fun _=>Int.natCast_nonneg k⟩
  ·rename_i h
   rw [idxN_ge x l (k+1),List.mem_cons]
   exact ⟨.inr,fun h2=>h2.resolve_left h⟩
theorem nindex_meets:Meets Tryd.prog n_slices_Index_int_int (SpecP (fun ((l,_):List Int×Int)=>l.length≤1000000000) (fun (l,x)=>[.sl 1 (l.map (.int .i64)) none,.int .i64 x]) fun (l,x)=>.int .i64 (idxN x l 0)):=by
 refine meets_f tabOk Tryd.func33 rfl (by decide) ?_
 rintro ⟨l,x⟩ hl
 have hl:l.length≤1000000000:=hl
 refine ⟨Nat.le_refl _,by simp [Tryd.f33],fun E hE=>?_⟩
 refine vcOk _ ?_
 (all_goals refine qgp ?_<;>(repeat' first | exact trivial | intro hc | refine And.intro ?_ ?_)<;>refine Lf.mk ?_)
 refine awp_loop (α:=Nat) (fun k=>k≤l.length∧idxN x l 0=idxN x (l.drop k) k) (fun k=>[(0,.sl 1 (l.map (.int .i64)) none),(1,.int .i64 x),(7,.int .i64 l.length),(8,.int .i64 k)]) (fun _=>[]) (fun k=>l.length - k) (fun _=>by simp [hE]) 0 ⟨Nat.zero_le _,rfl⟩ ?_ ?_
 ·(repeat' (first | (refine VS.mk ?_) | exact trivial | exact rfl | refine And.intro ?_ ?_))
 rintro k ⟨hk,hf⟩
 have hk:k≤l.length:=hk
 refine vcOk _ ?_
 (all_goals refine qgp ?_<;>(repeat' first | exact trivial | intro hc | refine And.intro ?_ ?_)<;>refine Lf.mk ?_)
 ·obtain ⟨y,hy⟩:=at_of_lt (l:=l) (k:=k) (by omega)
  have hkl:k < l.length:=by omega
  have hg:l[k]=y:=by rw [List.getElem?_eq_getElem hkl] at hy;exact Option.some.inj hy
  rw [List.drop_eq_getElem_cons hkl,hg,idxN] at hf
  refine ix_map y (Int.natCast_nonneg _) (by rw [Int.toNat_natCast];exact hy) ?_
  (all_goals refine qgp ?_<;>(repeat' first | exact trivial | intro hc | refine And.intro ?_ ?_)<;>refine Lf.mk ?_)
  ·rw [if_pos hc] at hf
   exact end_p (VS.mk (LeD.of_eq (congrArg (D.int .i64) hf.symm)))
  ·rw [if_neg hc] at hf
   refine loop_end (k+1) ⟨by omega,hf⟩ (by omega) ?_
   (repeat' (first | (refine VS.mk ?_) | exact trivial | exact rfl | refine And.intro ?_ ?_))
 ·rw [List.drop_of_length_le (by omega),idxN] at hf
  exact end_p (VS.mk (LeD.of_eq (congrArg (D.int .i64) hf.symm)))
theorem ncontains_meets:Meets Tryd.prog n_slices_Contains_int_int (SpecP (fun ((l,_):List Int×Int)=>l.length≤1000000000) (fun (l,x)=>[.sl 1 (l.map (.int .i64)) none,.int .i64 x]) fun (l,x)=>.bool (decide (x∈l))):=by
 refine meets_f tabOk Tryd.func16 rfl (by decide) ?_
 rintro ⟨l,x⟩ hl
 refine ⟨Nat.le_refl _,by simp [Tryd.f16],fun E hE=>?_⟩
 refine vcOk _ ?_
 (all_goals refine qgp ?_<;>(repeat' first | exact trivial | intro hc | refine And.intro ?_ ?_)<;>refine Lf.mk ?_)
 refine call_p nindex_meets (l,x) hl (VS.mk (LeL.of_eq rfl)) ?_
 (all_goals refine qgp ?_<;>(repeat' first | exact trivial | intro hc | refine And.intro ?_ ?_)<;>refine Lf.mk ?_)
 refine end_p (VS.mk (LeD.of_eq (congrArg D.bool ?_)))
 exact decide_eq_decide.2 (idxN_ge x l 0)
attribute [local irreducible] decI encV finI getN hexI infoR irows isI ldM lineH rinfo rrows shapeM signedI toM wrongI
def ledI (b:List UInt8) (k:Nat):List Int:=match isI b (2 * (k:Int)) with
 | some i=>if ldM i=true then [toM i (2 * (k:Int))] else []
 | none=>[]
def ledF (b:List UInt8):Nat→List Int
 | 0=>[]
 | k+1=>ledF b k++ledI b k
def byteT:List UInt8:=[46,98,121,116,101,32]
def wordT:List UInt8:=[46,119,111,114,100,32]
def itemI (b:List UInt8) (k:Nat):List UInt8:=match isI b (2 * (k:Int)) with
 | some i=>lineH i (2 * (k:Int))++[10]
 | none=>if (b.length:Int) < 2 * (k:Int)+2 then (byteT++Lib.itoa ((b.getD (2 * k) 0).toNat:Int))++[10] else (wordT++Lib.itoa (getN b (2 * (k:Int)) 2))++[10]
def markI (P:List Int) (k:Nat):List UInt8:=if (2 * (k:Int))∈P then nameH (2 * (k:Int))++[58,10] else []
def textF (b:List UInt8) (P:List Int):Nat→List UInt8
 | 0=>[]
 | k+1=>(textF b P k++markI P k)++itemI b k
def halves (b:List UInt8):Nat:=(b.length+1) / 2
def disT (b:List UInt8):List UInt8:=textF b (ledF b (halves b)) (halves b)
attribute [local irreducible] ledI itemI markI
theorem isI_in {b:List UInt8} {at_:Int} {i:Ins} (h:isI b at_=some i):LineIn0 i:=by
 unfold isI at h
 split at h
 ·cases h
 ·rename_i hn
  cases h
  refine wr_in (turn2 ?_).2.2.1
  by_cases h0:(decI (getN b at_ 2)).2=0
  ·exact h0
  ·exact absurd (.inr (.inl h0)) hn
theorem led_len (b:List UInt8):∀ k,(ledF b k).length≤k
 | 0=>Nat.le_refl _
 | k+1=>by
  have h:=led_len b k
  rw [ledF,List.length_append]
  have:(ledI b k).length≤1:=by
   unfold ledI
   split
   ·split
    ·exact Nat.le_refl _
    ·exact Nat.zero_le _
   ·exact Nat.zero_le _
  omega
theorem box_cl (b:List UInt8):∀ x∈[Ob.cells [bytesD b]],ClO 1 x:=fun x hx=>by rw [List.mem_singleton.1 hx];exact .cells (.cons .sl .nil)
theorem fn_cl {n f:Nat} (h:0 < n):ClD n (.fn f [.loc 0 0]):=ClD.of fun m hm=>by
 show renLoc m 0 0 (fun d=>D.fn f [d]= .fn f [.loc 0 0])
 unfold renLoc
 simp [hm 0 h]
theorem isD_cl (b:List UInt8) (at_:Int):ClD 1 (isD b at_):=.tup (.cons (.agg (.cons .int (.cons .int (.cons .int (.cons .int .nil))))) (.cons .bool .nil))
def adrF:Bool→D
 | true=>.loc 3 0
 | false=>.tnil 3 43 2
def frO (b:List UInt8) (n:Nat) (u:Bool) (bs:List UInt8):List Ob:=[.cells [bytesD b],.spare n,.arr 1 (bs.map fun c=>.int .u8 (c.toNat:Int)),.cells [adrF u,.tosl 5 2 bs.length]]
theorem renS_pure {m:Nat→Option Nat} {ds:List D} {K:List D→Prop} (h:∀ d∈ds,ClD 0 d∧ClL 0 d.cells) (hK:K ds):RenS m ds K:=by
 unfold RenS
 refine ⟨ds,⟨rfl,fun i d d' h1 h2=>?_⟩,fun i d d' h1 h2=>?_,hK⟩
 ·rw [h1] at h2;cases h2;exact (h d (List.mem_of_getElem? h1)).1 m fun k hk=>absurd hk (Nat.not_lt_zero k)
 ·rw [h1] at h2;cases h2
  exact ⟨rfl,(h d (List.mem_of_getElem? h1)).2.ren fun k hk=>absurd hk (Nat.not_lt_zero k)⟩
theorem byte_flat (l:List UInt8):∀ d∈l.map (fun c=>D.int .u8 (c.toNat:Int)),ClD 0 d∧ClL 0 d.cells:=fun d hd=>by
 obtain ⟨c,_,rfl⟩:=List.mem_map.1 hd
 exact ⟨.int,.cons .int .nil⟩
theorem call_ws {b bs s:List UInt8} {n:Nat} {u:Bool} {av:List D} {L:List Ob} {KP:D→Prop} {KW:D→List Ob→Prop} (X:List Ob) (hL:L=frO b n u bs++X) (ha:av=[.loc 3 0,.str s]) (hb:bs.length+s.length≤4294967296)
  (hK:KW (.tup [.int .i64 s.length,.nilif]) (frO b n true (bs++s)++X)):CallS Tryd.prog n_strings_Builder_WriteString av L KP KW:=by
 subst hL
 subst ha
 refine call_f ws_meets [3,2] [3,2] (u,bs,s) hb rfl ?_ ?_
 ·show prefB [3,2] [3,2] _=true
  rfl
 cases u
 all_goals
  refine VS.mk (renS_pure (byte_flat bs) ?_)
  refine And.intro (VS.mk (LeL.refl _)) (And.intro (VS.mk rfl) ?_)
  refine VS.mk (renS_pure (byte_flat (bs++s)) ?_)
  show KW (.tup [.int .i64 s.length,.nilif]) ((frO b n true (bs++s)++X)++[])
  rw [List.append_nil]
  exact hK
theorem name_len (n:Int):(nameH n).length≤18:=by
 unfold nameH
 have:=hexI_len n
 rw [List.length_cons]
 omega
theorem getN_le (b:List UInt8) (at_:Int):getN b at_ 2≤65535:=by
 have h0:=byteAt_bd b (at_+((0:Nat):Int))
 have h1:=byteAt_bd b (at_+((1:Nat):Int))
 unfold getN
 unfold getN
 unfold getN
 omega
theorem line_len {i:Ins} {at_:Int} (h:LineIn0 i):(lineH i at_).length≤200:=by
 obtain ⟨r,hr⟩:=h.op
 have hn:=h.n
 have hm:=h.m
 have hi:=h.imm
 have h1:=fill_len (i:=i) (td:=toM i at_) (Lib.itoa_length_le i.n (by omega) (by omega)) (Lib.itoa_length_le i.m (by omega) (by omega)) (Lib.itoa_length_le i.imm (by omega) (by omega)) (formI r.shape)
 have h2:=form_len r.shape
 have h3:=(irow_ok hr).2.2
 unfold lineH
 rw [hr]
 dsimp only
 rw [List.length_append]
 omega
theorem text_len (b:List UInt8) (P:List Int):∀ k,(textF b P k).length≤300 * k
 | 0=>Nat.le_refl _
 | k+1=>by
  have h:=text_len b P k
  have h1:(markI P k).length≤20:=by
   unfold markI
   split
   ·rw [List.length_append];have:=name_len (2 * (k:Int));show _+2≤20;omega
   ·exact Nat.zero_le _
  have h2:(itemI b k).length≤201:=by
   unfold itemI
   split
   ·rename_i i hi
    rw [List.length_append]
    have:=line_len (at_:=2 * (k:Int)) (isI_in hi)
    show _+1≤201
    omega
   split
   ·have hbt:=(b.getD (2 * k) 0).toNat_lt
    have:=Lib.itoa_length_le ((b.getD (2 * k) 0).toNat:Int) (by omega) (by omega)
    rw [List.length_append,List.length_append]
    show 6+_+1≤201
    omega
   ·have hg0:=getN_nn b (2 * (k:Int)) 2
    have hg1:=getN_le b (2 * (k:Int))
    have:=Lib.itoa_length_le (getN b (2 * (k:Int)) 2) (by omega) (by omega)
    rw [List.length_append,List.length_append]
    show 6+_+1≤201
    omega
  rw [textF,List.length_append,List.length_append]
  omega
theorem frO_cl (b:List UInt8) (n:Nat) (u:Bool) (bs:List UInt8):∀ x∈frO b n u bs,ClO 4 x:=fun x hx=>by
 simp only [frO,List.mem_cons,List.not_mem_nil,or_false] at hx
 rcases hx with rfl | rfl | rfl | rfl
 ·exact .cells (.cons .sl .nil)
 ·exact .spare
 ·exact .arr (byte_cl bs)
 ·refine .cells (.cons ?_ (.cons (cl_tosl (by decide)) .nil))
  cases u
  ·exact cl_tnil (by decide)
  ·exact .loc (by decide)
theorem text_meets:Meets Tryd.prog n_dis_Text (SpecP (fun b:List UInt8=>b.length≤1048576) (fun b=>[bytesD b]) fun b=>.str (disT b)):=by
 refine meets_f tabOk Tryd.func4 rfl (by decide) ?_
 rintro b hb
 have hb:b.length≤1048576:=hb
 refine ⟨Nat.le_refl _,by simp [Tryd.f4],fun E hE=>?_⟩
 have hE0:E.L.length=0:=by rw [hE];rfl
 have hhv:2 * halves b=b.length∨2 * halves b=b.length+1:=by unfold halves;omega
 refine vcOk _ ?_
 (all_goals refine qgp ?_<;>(repeat' first | exact trivial | intro hc | refine And.intro ?_ ?_)<;>refine Lf.mk ?_)
 refine awp_weak (weak_nil 3 1 rfl) ?_
 refine awp_loopW (α:=Nat) (fun k=>k≤halves b) (fun k=>[(1,.loc 0 0),(3,.sl 1 ((ledF b k).map (.int .i64)) (some 1)),(4,.fn n_dis_Text_1 [.loc 0 0]),(5,.int .i64 (2 * (k:Int)))]) (fun k=>[.cells [bytesD b],.spare (ledF b k).length]) (fun k=>halves b - k) (fun _=>by rw [hE0];exact Nat.zero_le _) 0 (Nat.zero_le _) ?_ ?_
 ·exact weak_same rfl ⟨rfl,rfl,rfl,rfl,trivial⟩
 ·intro k hk
  have hk:k≤halves b:=hk
  have hln:=led_len b k
  refine vcOk _ ?_
  (all_goals refine qgp ?_<;>(repeat' first | exact trivial | intro hc | refine And.intro ?_ ?_)<;>refine Lf.mk ?_)
  ·refine call_pre is_meets [.cells [bytesD b]] [.spare _] [.cells [bytesD b]] (d:=isD b (2 * (k:Int))) rfl ⟨(b,2 * (k:Int)),⟨by show 0≤2 * (k:Int);omega,by show 2 * (k:Int)≤_;omega,by show b.length≤_;omega⟩,LeL.refl _,rfl,rfl,rfl⟩ rfl (.cons .int (.cons (.loc (by show 0 < 1;decide)) .nil)) (isD_cl _ _) (box_cl b) (box_cl b) ?_
   have hled:ledI b k=match isI b (2 * (k:Int)) with
    | some i=>if ldM i=true then [toM i (2 * (k:Int))] else []
    | none=>[]:=by unfold ledI;rfl
   unfold isD insD
   have fin:∀ {σ:List (Nat×D)} {L:List Ob} (X:List Ob),L=[.cells [bytesD b],.spare (ledF b (k+1)).length]++X→Plat.look σ 1=D.loc 0 0→Plat.look σ 3= .sl 1 ((ledF b (k+1)).map (.int .i64)) (some 1)→Plat.look σ 4= .fn n_dis_Text_1 [.loc 0 0]→Plat.look σ 5= .int .i64 (2 * (k:Int)+2) →
     LoopEnd E.L.length (fun k=>k≤halves b) (fun k=>[(1,.loc 0 0),(3,.sl 1 ((ledF b k).map (.int .i64)) (some 1)),(4,.fn n_dis_Text_1 [.loc 0 0]),(5,.int .i64 (2 * (k:Int)))]) (fun k=>[.cells [bytesD b],.spare (ledF b k).length]) (fun k=>halves b - k) k σ L:=fun {σ L} X hL a1 a2 a3 a4=>
    loop_pre (k+1) X (by show k+1≤_;omega) (by omega) hL (by rw [hE0];exact Nat.zero_le _) (fun o ho=>by
     simp only [List.mem_cons,List.not_mem_nil,or_false] at ho
     rcases ho with rfl | rfl
     ·exact .cells (.cons .sl .nil)
     ·exact .spare) ⟨a1,a2,a3,a4.trans (congrArg (D.int .i64) (by omega)),trivial⟩ (.cons (.loc (by show 0 < 2;decide)) (.cons (.tok (by show 1 < 2;decide)) (.cons (fn_cl (by show 0 < 2;decide)) (.cons .int .nil))))
   cases hi:isI b (2 * (k:Int)) with
   | none=>
    rw [hi] at hled
    have hk1:ledF b (k+1)=ledF b k:=by rw [ledF,hled,List.append_nil]
    rw [hk1] at fin
    (all_goals refine qgp ?_<;>(repeat' first | exact trivial | intro hc | refine And.intro ?_ ?_)<;>refine Lf.mk ?_)
    (any_goals (first | (exfalso;refine Bool.false_ne_true ?_;assumption) | (exfalso;refine Bool.false_ne_true (Eq.symm ?_);assumption) | (exfalso;refine absurd trivial ?_;assumption) | skip))
    exact fin [_] rfl rfl rfl rfl rfl
   | some i=>
    rw [hi] at hled
    have hin:=isI_in hi
    have himm:=hin.imm
    (all_goals refine qgp ?_<;>(repeat' first | exact trivial | intro hc | refine And.intro ?_ ?_)<;>refine Lf.mk ?_)
    (any_goals (first | (exfalso;refine Bool.false_ne_true ?_;assumption) | (exfalso;refine Bool.false_ne_true (Eq.symm ?_);assumption) | (exfalso;refine absurd trivial ?_;assumption) | skip))
    refine call_p to_meets (i,2 * (k:Int)) ⟨himm.1,himm.2,by show _≤2 * (k:Int);omega,by show 2 * (k:Int)≤_;omega⟩ (VS.mk (LeL.of_eq rfl)) ?_
    dsimp only at hled ⊢
    generalize toM i (2 * (k:Int))=td at *
    cases hl:ldM i with
    | false=>
     rw [hl,if_neg (by decide)] at hled
     have hk1:ledF b (k+1)=ledF b k:=by rw [ledF,hled,List.append_nil]
     rw [hk1] at fin
     (all_goals refine qgp ?_<;>(repeat' first | exact trivial | intro hc | refine And.intro ?_ ?_)<;>refine Lf.mk ?_)
     (any_goals (first | (exfalso;refine Bool.false_ne_true ?_;assumption) | (exfalso;refine Bool.false_ne_true (Eq.symm ?_);assumption) | (exfalso;refine absurd trivial ?_;assumption) | skip))
     exact fin [_] rfl rfl rfl rfl rfl
    | true=>
     rw [hl,if_pos rfl] at hled
     have hk1:ledF b (k+1)=ledF b k++[td]:=by rw [ledF,hled]
     rw [hk1,List.map_append,List.length_append] at fin
     (all_goals refine qgp ?_<;>(repeat' first | exact trivial | intro hc | refine And.intro ?_ ?_)<;>refine Lf.mk ?_)
     (any_goals (first | (exfalso;refine Bool.false_ne_true ?_;assumption) | (exfalso;refine Bool.false_ne_true (Eq.symm ?_);assumption) | (exfalso;refine absurd trivial ?_;assumption) | skip))
     exact fin [_] (by simp only [List.length_append,List.length_map];rfl) rfl rfl rfl rfl
  ·have hkh:k=halves b:=by omega
   subst hkh
   refine awp_loopW (α:=Nat×Bool) (fun (k,_)=>k≤halves b) (fun (k,_)=>[(1,.loc 0 0),(3,.sl 1 ((ledF b (halves b)).map (.int .i64)) (some 1)),(4,.fn n_dis_Text_1 [.loc 0 0]),(10,.loc 3 0),(11,.int .i64 (2 * (k:Int)))]) (fun (k,u)=>frO b (ledF b (halves b)).length u (textF b (ledF b (halves b)) k)) (fun (k,_)=>halves b - k) (fun _=>by rw [hE0];exact Nat.zero_le _) (0,false) (Nat.zero_le _) ?_ ?_
   ·exact weak_same rfl ⟨rfl,rfl,rfl,rfl,rfl,trivial⟩
   rintro ⟨k,u⟩ hk
   have hk:k≤halves b:=hk
   dsimp only
   have hP:=led_len b (halves b)
   have htl:=text_len b (ledF b (halves b)) k
   have hmk:markI (ledF b (halves b)) k=if (2 * (k:Int))∈ledF b (halves b) then nameH (2 * (k:Int))++[58,10] else []:=by unfold markI;rfl
   generalize hPd:ledF b (halves b)=P at *
   generalize htx:textF b P k=T at *
   have hit:itemI b k=match isI b (2 * (k:Int)) with
    | some i=>lineH i (2 * (k:Int))++[10]
    | none=>if (b.length:Int) < 2 * (k:Int)+2 then (byteT++Lib.itoa ((b.getD (2 * k) 0).toNat:Int))++[10] else (wordT++Lib.itoa (getN b (2 * (k:Int)) 2))++[10]:=by unfold itemI;rfl
   have hkk:2 * (k:Int) < b.length→k+1≤halves b:=fun h=>by omega
   have fin:∀ {σ:List (Nat×D)} {L:List Ob} (T' z:List UInt8) (X:List Ob),(T++markI P k)++itemI b k=T'++z→L=frO b P.length true (T'++z)++X→Plat.look σ 1=D.loc 0 0→Plat.look σ 3= .sl 1 (P.map (.int .i64)) (some 1)→Plat.look σ 4= .fn n_dis_Text_1 [.loc 0 0]→Plat.look σ 10= .loc 3 0→Plat.look σ 11= .int .i64 (2 * (k:Int)+2)→k+1≤halves b →
     LoopEnd E.L.length (fun p:Nat×Bool=>p.1≤halves b) (fun p=>[(1,.loc 0 0),(3,.sl 1 (P.map (.int .i64)) (some 1)),(4,.fn n_dis_Text_1 [.loc 0 0]),(10,.loc 3 0),(11,.int .i64 (2 * (p.1:Int)))]) (fun p=>frO b P.length p.2 (textF b P p.1)) (fun p=>halves b - p.1) (k,u) σ L:=fun {σ L} T' z X hz hL a1 a2 a3 a4 a5 hk1=>by
    have hL2:L=frO b P.length true (textF b P (k+1))++X:=by rw [hL,textF,htx,hz]
    exact loop_pre (k+1,true) X hk1 (by show halves b - (k+1) < halves b - k;omega) hL2 (by rw [hE0];exact Nat.zero_le _) (frO_cl _ _ _ _) ⟨a1,a2,a3,a4,a5.trans (congrArg (D.int .i64) (by show 2 * (k:Int)+2=2 * ((k+1:Nat):Int);omega)),trivial⟩ (.cons (.loc (by show 0 < 4;decide)) (.cons (.tok (by show 1 < 4;decide)) (.cons (fn_cl (by show 0 < 4;decide)) (.cons (.loc (by show 3 < 4;decide)) (.cons .int .nil)))))
   unfold frO
   refine vcOk _ ?_
   (all_goals refine qgp ?_<;>(repeat' first | exact trivial | intro hc | refine And.intro ?_ ?_)<;>refine Lf.mk ?_)
   ·refine call_p ncontains_meets (P,2 * (k:Int)) (by show P.length≤_;omega) (VS.mk (LeL.of_eq rfl)) ?_
    dsimp only
    by_cases hm:(2 * (k:Int))∈P
    ·rw [decide_eq_true hm]
     rw [if_pos hm] at hmk
     (all_goals refine qgp ?_<;>(repeat' first | exact trivial | intro hc | refine And.intro ?_ ?_)<;>refine Lf.mk ?_)
     (any_goals (first | (exfalso;refine Bool.false_ne_true ?_;assumption) | (exfalso;refine Bool.false_ne_true (Eq.symm ?_);assumption) | (exfalso;refine absurd trivial ?_;assumption) | skip))
     refine call_p dname_meets (2 * (k:Int)) ⟨by omega,by omega⟩ (VS.mk (LeL.of_eq rfl)) ?_
     (all_goals refine qgp ?_<;>(repeat' first | exact trivial | intro hc | refine And.intro ?_ ?_)<;>refine Lf.mk ?_)
     refine cat_gen 18 2 (name_len _) (by decide) (by decide) fun y1 e1 l1=>?_
     (all_goals refine qgp ?_<;>(repeat' first | exact trivial | intro hc | refine And.intro ?_ ?_)<;>refine Lf.mk ?_)
     refine call_ws (b:=b) (n:=P.length) (u:=u) (bs:=T) (s:=y1) [] rfl rfl (by omega) ?_
     subst e1
     have hTl:(T++(nameH (2 * (k:Int))++[58,10])).length≤T.length+20:=by
      have h20:(nameH (2 * (k:Int))++[58,10]).length≤18+2:=l1
      rw [List.length_append]
      omega
     (all_goals refine qgp ?_<;>(repeat' first | exact trivial | intro hc | refine And.intro ?_ ?_)<;>refine Lf.mk ?_)
     refine call_pre is_meets [.cells [bytesD b]] [.spare P.length,.arr 1 ((T++(nameH (2 * (k:Int))++[58,10])).map fun c:UInt8=>.int .u8 (c.toNat:Int)),.cells [adrF true,.tosl 5 2 (T++(nameH (2 * (k:Int))++[58,10])).length]] [.cells [bytesD b]] (d:=isD b (2 * (k:Int))) rfl ⟨(b,2 * (k:Int)),⟨by show 0≤2 * (k:Int);omega,by show 2 * (k:Int)≤_;omega,by show b.length≤_;omega⟩,LeL.refl _,rfl,rfl,rfl⟩ rfl (.cons .int (.cons (.loc (by show 0 < 1;decide)) .nil)) (isD_cl _ _) (box_cl b) (box_cl b) ?_
     unfold isD insD
     cases hi:isI b (2 * (k:Int)) with
     | none=>
      rw [hi] at hit
      dsimp only at hit
      (all_goals refine qgp ?_<;>(repeat' first | exact trivial | intro hc | refine And.intro ?_ ?_)<;>refine Lf.mk ?_)
      (any_goals (first | (exfalso;refine Bool.false_ne_true ?_;assumption) | (exfalso;refine Bool.false_ne_true (Eq.symm ?_);assumption) | (exfalso;refine absurd trivial ?_;assumption) | skip))
      ·rename_i hlt
       rw [if_pos (by omega),show (2 * k:Nat)=(2 * (k:Int)).toNat by omega] at hit
       have hbt:=(b.getD (2 * (k:Int)).toNat 0).toNat_lt
       generalize b.getD (2 * (k:Int)).toNat 0=c at *
       refine call_p itoa_meets (c.toNat:Int) ⟨by omega,by omega⟩ (VS.mk (LeL.of_eq rfl)) ?_
       have lg:=Lib.itoa_length_le (c.toNat:Int) (by omega) (by omega)
       (all_goals refine qgp ?_<;>(repeat' first | exact trivial | intro hc | refine And.intro ?_ ?_)<;>refine Lf.mk ?_)
       refine cat_gen 6 21 (by decide) lg (by decide) fun z1 d1 m1=>?_
       (all_goals refine qgp ?_<;>(repeat' first | exact trivial | intro hc | refine And.intro ?_ ?_)<;>refine Lf.mk ?_)
       refine cat_gen 27 1 m1 (by decide) (by decide) fun z2 d2 m2=>?_
       (all_goals refine qgp ?_<;>(repeat' first | exact trivial | intro hc | refine And.intro ?_ ?_)<;>refine Lf.mk ?_)
       refine call_ws (b:=b) (n:=P.length) (u:=true) (bs:=T++(nameH (2 * (k:Int))++[58,10])) (s:=z2) [_] rfl rfl (by omega) ?_
       (all_goals refine qgp ?_<;>(repeat' first | exact trivial | intro hc | refine And.intro ?_ ?_)<;>refine Lf.mk ?_)
       exact fin (T++(nameH (2 * (k:Int))++[58,10])) z2 [_] (by rw [hmk,hit,d2,d1];try (first | rfl | simp [byteT])) rfl rfl rfl rfl rfl rfl (by omega)
      ·rename_i hlt
       rw [if_neg (by omega)] at hit
       refine call_p get_meets (b,2 * (k:Int),2) ⟨by show _≤2 * (k:Int);omega,by show 2 * (k:Int)≤_;omega,by show 2≤4;decide⟩ (VS.mk (LeL.of_eq rfl)) ?_
       dsimp only
       have hg0:=getN_nn b (2 * (k:Int)) 2
       have hg1:=getN_le b (2 * (k:Int))
       (all_goals refine qgp ?_<;>(repeat' first | exact trivial | intro hc | refine And.intro ?_ ?_)<;>refine Lf.mk ?_)
       refine call_p itoa_meets (getN b (2 * (k:Int)) 2) ⟨by omega,by omega⟩ (VS.mk (LeL.of_eq rfl)) ?_
       have lg:=Lib.itoa_length_le (getN b (2 * (k:Int)) 2) (by omega) (by omega)
       (all_goals refine qgp ?_<;>(repeat' first | exact trivial | intro hc | refine And.intro ?_ ?_)<;>refine Lf.mk ?_)
       refine cat_gen 6 21 (by decide) lg (by decide) fun z1 d1 m1=>?_
       (all_goals refine qgp ?_<;>(repeat' first | exact trivial | intro hc | refine And.intro ?_ ?_)<;>refine Lf.mk ?_)
       refine cat_gen 27 1 m1 (by decide) (by decide) fun z2 d2 m2=>?_
       (all_goals refine qgp ?_<;>(repeat' first | exact trivial | intro hc | refine And.intro ?_ ?_)<;>refine Lf.mk ?_)
       refine call_ws (b:=b) (n:=P.length) (u:=true) (bs:=T++(nameH (2 * (k:Int))++[58,10])) (s:=z2) [_] rfl rfl (by omega) ?_
       (all_goals refine qgp ?_<;>(repeat' first | exact trivial | intro hc | refine And.intro ?_ ?_)<;>refine Lf.mk ?_)
       exact fin (T++(nameH (2 * (k:Int))++[58,10])) z2 [_] (by rw [hmk,hit,d2,d1];try (first | rfl | simp [wordT])) rfl rfl rfl rfl rfl rfl (by omega)
     | some i=>
      rw [hi] at hit
      dsimp only at hit
      have hin:=(isI_in hi).at (at_:=2 * (k:Int)) (by omega) (by omega)
      have hll:=line_len (at_:=2 * (k:Int)) (isI_in hi)
      (all_goals refine qgp ?_<;>(repeat' first | exact trivial | intro hc | refine And.intro ?_ ?_)<;>refine Lf.mk ?_)
      (any_goals (first | (exfalso;refine Bool.false_ne_true ?_;assumption) | (exfalso;refine Bool.false_ne_true (Eq.symm ?_);assumption) | (exfalso;refine absurd trivial ?_;assumption) | skip))
      refine call_p dline_meets (i,2 * (k:Int)) hin (VS.mk (LeL.of_eq rfl)) ?_
      dsimp only
      (all_goals refine qgp ?_<;>(repeat' first | exact trivial | intro hc | refine And.intro ?_ ?_)<;>refine Lf.mk ?_)
      refine cat_gen 200 1 hll (by decide) (by decide) fun z1 d1 m1=>?_
      (all_goals refine qgp ?_<;>(repeat' first | exact trivial | intro hc | refine And.intro ?_ ?_)<;>refine Lf.mk ?_)
      refine call_ws (b:=b) (n:=P.length) (u:=true) (bs:=T++(nameH (2 * (k:Int))++[58,10])) (s:=z1) [_] rfl rfl (by omega) ?_
      (all_goals refine qgp ?_<;>(repeat' first | exact trivial | intro hc | refine And.intro ?_ ?_)<;>refine Lf.mk ?_)
      exact fin (T++(nameH (2 * (k:Int))++[58,10])) z1 [_] (by rw [hmk,hit,d1];try (first | rfl | simp)) rfl rfl rfl rfl rfl rfl (by omega)
    ·rw [decide_eq_false hm]
     rw [if_neg hm] at hmk
     (all_goals refine qgp ?_<;>(repeat' first | exact trivial | intro hc | refine And.intro ?_ ?_)<;>refine Lf.mk ?_)
     (any_goals (first | (exfalso;refine Bool.false_ne_true ?_;assumption) | (exfalso;refine Bool.false_ne_true (Eq.symm ?_);assumption) | (exfalso;refine absurd trivial ?_;assumption) | skip))
     refine call_pre is_meets [.cells [bytesD b]] [.spare P.length,.arr 1 ((T).map fun c:UInt8=>.int .u8 (c.toNat:Int)),.cells [adrF u,.tosl 5 2 (T).length]] [.cells [bytesD b]] (d:=isD b (2 * (k:Int))) rfl ⟨(b,2 * (k:Int)),⟨by show 0≤2 * (k:Int);omega,by show 2 * (k:Int)≤_;omega,by show b.length≤_;omega⟩,LeL.refl _,rfl,rfl,rfl⟩ rfl (.cons .int (.cons (.loc (by show 0 < 1;decide)) .nil)) (isD_cl _ _) (box_cl b) (box_cl b) ?_
     unfold isD insD
     cases hi:isI b (2 * (k:Int)) with
     | none=>
      rw [hi] at hit
      dsimp only at hit
      (all_goals refine qgp ?_<;>(repeat' first | exact trivial | intro hc | refine And.intro ?_ ?_)<;>refine Lf.mk ?_)
      (any_goals (first | (exfalso;refine Bool.false_ne_true ?_;assumption) | (exfalso;refine Bool.false_ne_true (Eq.symm ?_);assumption) | (exfalso;refine absurd trivial ?_;assumption) | skip))
      ·rename_i hlt
       rw [if_pos (by omega),show (2 * k:Nat)=(2 * (k:Int)).toNat by omega] at hit
       have hbt:=(b.getD (2 * (k:Int)).toNat 0).toNat_lt
       generalize b.getD (2 * (k:Int)).toNat 0=c at *
       refine call_p itoa_meets (c.toNat:Int) ⟨by omega,by omega⟩ (VS.mk (LeL.of_eq rfl)) ?_
       have lg:=Lib.itoa_length_le (c.toNat:Int) (by omega) (by omega)
       (all_goals refine qgp ?_<;>(repeat' first | exact trivial | intro hc | refine And.intro ?_ ?_)<;>refine Lf.mk ?_)
       refine cat_gen 6 21 (by decide) lg (by decide) fun z1 d1 m1=>?_
       (all_goals refine qgp ?_<;>(repeat' first | exact trivial | intro hc | refine And.intro ?_ ?_)<;>refine Lf.mk ?_)
       refine cat_gen 27 1 m1 (by decide) (by decide) fun z2 d2 m2=>?_
       (all_goals refine qgp ?_<;>(repeat' first | exact trivial | intro hc | refine And.intro ?_ ?_)<;>refine Lf.mk ?_)
       refine call_ws (b:=b) (n:=P.length) (u:=u) (bs:=T) (s:=z2) [_] rfl rfl (by omega) ?_
       (all_goals refine qgp ?_<;>(repeat' first | exact trivial | intro hc | refine And.intro ?_ ?_)<;>refine Lf.mk ?_)
       exact fin (T) z2 [_] (by rw [hmk,hit,d2,d1];try (first | rfl | simp [byteT])) rfl rfl rfl rfl rfl rfl (by omega)
      ·rename_i hlt
       rw [if_neg (by omega)] at hit
       refine call_p get_meets (b,2 * (k:Int),2) ⟨by show _≤2 * (k:Int);omega,by show 2 * (k:Int)≤_;omega,by show 2≤4;decide⟩ (VS.mk (LeL.of_eq rfl)) ?_
       dsimp only
       have hg0:=getN_nn b (2 * (k:Int)) 2
       have hg1:=getN_le b (2 * (k:Int))
       (all_goals refine qgp ?_<;>(repeat' first | exact trivial | intro hc | refine And.intro ?_ ?_)<;>refine Lf.mk ?_)
       refine call_p itoa_meets (getN b (2 * (k:Int)) 2) ⟨by omega,by omega⟩ (VS.mk (LeL.of_eq rfl)) ?_
       have lg:=Lib.itoa_length_le (getN b (2 * (k:Int)) 2) (by omega) (by omega)
       (all_goals refine qgp ?_<;>(repeat' first | exact trivial | intro hc | refine And.intro ?_ ?_)<;>refine Lf.mk ?_)
       refine cat_gen 6 21 (by decide) lg (by decide) fun z1 d1 m1=>?_
       (all_goals refine qgp ?_<;>(repeat' first | exact trivial | intro hc | refine And.intro ?_ ?_)<;>refine Lf.mk ?_)
       refine cat_gen 27 1 m1 (by decide) (by decide) fun z2 d2 m2=>?_
       (all_goals refine qgp ?_<;>(repeat' first | exact trivial | intro hc | refine And.intro ?_ ?_)<;>refine Lf.mk ?_)
       refine call_ws (b:=b) (n:=P.length) (u:=u) (bs:=T) (s:=z2) [_] rfl rfl (by omega) ?_
       (all_goals refine qgp ?_<;>(repeat' first | exact trivial | intro hc | refine And.intro ?_ ?_)<;>refine Lf.mk ?_)
       exact fin (T) z2 [_] (by rw [hmk,hit,d2,d1];try (first | rfl | simp [wordT])) rfl rfl rfl rfl rfl rfl (by omega)
     | some i=>
      rw [hi] at hit
      dsimp only at hit
      have hin:=(isI_in hi).at (at_:=2 * (k:Int)) (by omega) (by omega)
      have hll:=line_len (at_:=2 * (k:Int)) (isI_in hi)
      (all_goals refine qgp ?_<;>(repeat' first | exact trivial | intro hc | refine And.intro ?_ ?_)<;>refine Lf.mk ?_)
      (any_goals (first | (exfalso;refine Bool.false_ne_true ?_;assumption) | (exfalso;refine Bool.false_ne_true (Eq.symm ?_);assumption) | (exfalso;refine absurd trivial ?_;assumption) | skip))
      refine call_p dline_meets (i,2 * (k:Int)) hin (VS.mk (LeL.of_eq rfl)) ?_
      dsimp only
      (all_goals refine qgp ?_<;>(repeat' first | exact trivial | intro hc | refine And.intro ?_ ?_)<;>refine Lf.mk ?_)
      refine cat_gen 200 1 hll (by decide) (by decide) fun z1 d1 m1=>?_
      (all_goals refine qgp ?_<;>(repeat' first | exact trivial | intro hc | refine And.intro ?_ ?_)<;>refine Lf.mk ?_)
      refine call_ws (b:=b) (n:=P.length) (u:=u) (bs:=T) (s:=z1) [_] rfl rfl (by omega) ?_
      (all_goals refine qgp ?_<;>(repeat' first | exact trivial | intro hc | refine And.intro ?_ ?_)<;>refine Lf.mk ?_)
      exact fin (T) z1 [_] (by rw [hmk,hit,d1];try (first | rfl | simp)) rfl rfl rfl rfl rfl rfl (by omega)
   ·have hkh:k=halves b:=by omega
    refine call_f st_meets [3,2] [3,2] (u,T) (by show T.length≤_;omega) rfl rfl ?_
    cases u
    all_goals
     refine VS.mk (renS_pure (byte_flat T) ?_)
     refine And.intro (VS.mk (LeL.refl _)) (And.intro (VS.mk rfl) ?_)
     (all_goals refine qgp ?_<;>(repeat' first | exact trivial | intro hc | refine And.intro ?_ ?_)<;>refine Lf.mk ?_)
     refine end_p (VS.mk (LeD.of_eq (congrArg D.str ?_)))
     unfold disT
     rw [hPd,← hkh,htx]
end Go.Proofs.YtfahnaccpncdpaaDoor
namespace Go.Proofs.YtfahnaccpncdpaaDoor
open Go Go.Plat
set_option linter.unusedVariables false
set_option linter.unusedSimpArgs false
set_option maxRecDepth 100000
set_option maxHeartbeats 2000000
attribute [local irreducible] AWP Arith BitS BytesS CallS CatS DrawS EndS IdxS LookS LoopEnd Meets ModeS NilS NormL NormM QuoS RemS ShlS ShrS SideS SplitS bitI
def mkM (ps:List Int):List (D×D):=ps.map fun p=>(.int .i64 p,.tt)
def insP (p:Int) (ps:List Int):List Int:=if p∈ps then ps else ps++[p]
theorem key_int (x y:Int):keyB (.int .i64 x) (.int .i64 y)=decide (x=y):=by
 unfold keyB
 first | rfl | simp
theorem get_mk (x:Int):∀ ps:List Int,getM (.int .i64 x) (mkM ps)=if x∈ps then some .tt else none
 | []=>rfl
 | p::ps=>by
  have ih:=get_mk x ps
  unfold getM at ih ⊢
  show (idxM (.int .i64 x) ((.int .i64 p,.tt)::mkM ps)).bind (fun i=>(((.int .i64 p,.tt)::mkM ps:List (D×D))[i]?).map (·.2))=_
  rw [idxM,key_int]
  by_cases h:x=p
  ·subst h;simp
  ·rw [decide_eq_false h]
   dsimp only
   rw [Option.bind_map]
   have e:(fun i=>(((.int .i64 p,.tt)::mkM ps:List (D×D))[i]?).map (·.2)) ∘ (·+1)=fun i=>((mkM ps)[i]?).map (·.2):=by funext i;rfl
   rw [e,ih]
   simp [h]
theorem set_mk (x:Int):∀ ps:List Int,Plat.setM (.int .i64 x) .tt (mkM ps)=mkM (insP x ps)
 | []=>rfl
 | p::ps=>by
  have ih:=set_mk x ps
  show Plat.setM (.int .i64 x) .tt ((.int .i64 p,.tt)::mkM ps)=_
  rw [Plat.setM,key_int]
  by_cases h:x=p
  ·subst h
   rw [decide_eq_true rfl]
   unfold insP
   rw [if_pos List.mem_cons_self]
   rfl
  ·rw [decide_eq_false h]
   dsimp only
   rw [ih]
   unfold insP
   by_cases hm:x∈ps
   ·rw [if_pos hm,if_pos (List.mem_cons_of_mem _ hm)];rfl
   ·rw [if_neg hm,if_neg (fun h2=>by rcases List.mem_cons.1 h2 with h2 | h2;exact h h2;exact hm h2)];rfl
theorem mem_ins (x p:Int) (ps:List Int):x∈insP p ps↔x∈ps∨x=p:=by
 unfold insP
 split
 ·rename_i h
  exact ⟨.inl,fun h2=>h2.elim id fun e=>e ▸ h⟩
 ·rw [List.mem_append,List.mem_singleton]
def putF (b:List UInt8):Nat→List Int
 | 0=>[]
 | k+1=>(ledI b k).foldl (fun ps p=>insP p ps) (putF b k)
theorem mem_putF (b:List UInt8) (x:Int):∀ k,x∈putF b k↔x∈ledF b k
 | 0=>Iff.rfl
 | k+1=>by
  have ih:=mem_putF b x k
  have key:∀ (l:List Int) (ps:List Int),x∈l.foldl (fun ps p=>insP p ps) ps↔x∈ps∨x∈l:=by
   intro l
   induction l with
   | nil=>intro ps;simp
   | cons p l ih2=>intro ps;rw [List.foldl_cons,ih2,mem_ins,List.mem_cons,or_assoc]
  rw [putF,ledF,key,List.mem_append,ih]
theorem keys_mk (ps:List Int):∀ p∈mkM ps,keyOk (TD.int .i64) p.1=true:=fun p hp=>by
 obtain ⟨x,_,rfl⟩:=List.mem_map.1 hp
 rfl
def lineT (b:List UInt8) (k:Nat):List UInt8:=match isI b (2 * (k:Int)) with
 | some i=>lineH i (2 * (k:Int))
 | none=>if (b.length:Int) < 2 * (k:Int)+2 then byteT++Lib.itoa ((b.getD (2 * k) 0).toNat:Int) else wordT++Lib.itoa (getN b (2 * (k:Int)) 2)
theorem item_line (b:List UInt8) (k:Nat):itemI b k=lineT b k++[10]:=by
 unfold itemI lineT
 cases isI b (2 * (k:Int)) with
 | some i=>rfl
 | none=>
  dsimp only
  by_cases h:(b.length:Int) < 2 * (k:Int)+2
  ·rw [if_pos h,if_pos h]
  ·rw [if_neg h,if_neg h]
attribute [local irreducible] decI encV finI getN hexI infoR irows isI ldM ledI lineH lineT rinfo rrows shapeM signedI toM wrongI
def linesT (b:List UInt8):Nat→List (List UInt8)
 | 0=>[]
 | k+1=>linesT b k++[lineT b k]
theorem linesT_len (b:List UInt8):∀ k,(linesT b k).length=k
 | 0=>rfl
 | k+1=>by rw [linesT,List.length_append,linesT_len b k];rfl
theorem getN_two {b:List UInt8} {at_:Int} (h0:0≤at_) (h1:at_+1 < b.length):256 * ((b.getD at_.toNat 0).toNat:Int)+((b.getD (at_+1).toNat 0).toNat:Int)=getN b at_ 2:=by
 unfold getN
 unfold getN
 unfold getN
 unfold byteAt
 rw [if_pos ⟨by omega,by omega⟩,if_pos ⟨by omega,by omega⟩]
 rw [show at_+((0:Nat):Int)=at_ by omega,show at_+((1:Nat):Int)=at_+1 by omega]
 omega
theorem mp_cl {n k:Nat} (h:k < n):ClD n (.mp k):=ClD.of fun m hm=>by
 show renMp m k (fun d'=>d'= .mp k)
 unfold renMp
 simp [hm k h]
theorem linesT_at (b:List UInt8):∀ (n k:Nat),k < n→(linesT b n)[k]?=some (lineT b k)
 | n+1,k,h=>by
  rw [linesT]
  by_cases hk:k < n
  ·rw [List.getElem?_append_left (by rw [linesT_len];exact hk)]
   exact linesT_at b n k hk
  ·have:k=n:=by omega
   subst this
   rw [List.getElem?_append_right (by rw [linesT_len];exact Nat.le_refl _),linesT_len,Nat.sub_self]
   rfl
theorem cat_le {s t:List UInt8} {K:D→Prop} (n:Nat) (h:s.length+t.length≤n) (hn:n≤1000000000) (hK:K (.str (s++t))):CatS s t K:=cat_mk (Int.le_trans (Int.ofNat_le.2 (Nat.le_trans h hn)) (by decide)) hK
theorem map_cl {n:Nat} (ps:List Int):ClO n (.map (mkM ps)):=fun m hm=>⟨rfl,fun p hp=>by
 obtain ⟨x,_,rfl⟩:=List.mem_map.1 hp
 exact renOf_self rfl⟩
theorem rtext_meets:Meets Tryd.prog n_plref6_Text (SpecP (fun b:List UInt8=>b.length≤1048576) (fun b=>[bytesD b]) fun b=>.str (disT b)):=by
 refine meets_f tabOk Tryd.func5 rfl (by decide) ?_
 rintro b hb
 have hb:b.length≤1048576:=hb
 refine ⟨Nat.le_refl _,by simp [Tryd.f5],fun E hE=>?_⟩
 have hE0:E.L.length=0:=by rw [hE];rfl
 have hhv:2 * halves b=b.length∨2 * halves b=b.length+1:=by unfold halves;omega
 refine awp_seqK (vcOk _ ?_)
 (all_goals refine qgp ?_<;>(repeat' first | exact trivial | intro hc | refine And.intro ?_ ?_)<;>refine Lf.mk ?_)
 refine awp_seqK (vcOk _ ?_)
 (all_goals refine qgp ?_<;>(repeat' first | exact trivial | intro hc | refine And.intro ?_ ?_)<;>refine Lf.mk ?_)
 refine awp_seqK (vcOk _ ?_)
 (all_goals refine qgp ?_<;>(repeat' first | exact trivial | intro hc | refine And.intro ?_ ?_)<;>refine Lf.mk ?_)
 refine awp_weak (weak_nil 3 1 rfl) ?_
 refine awp_cut (α:=Unit) (fun _=>True) (fun _=>[(3,.sl 1 ((linesT b (halves b)).map D.str) (some 1)),(4,.mp 0)]) (fun _=>[.map (mkM (putF b (halves b))),.spare (linesT b (halves b)).length]) (vcOk _ ?_) (fun _ _=>?_)
 ·(all_goals refine qgp ?_<;>(repeat' first | exact trivial | intro hc | refine And.intro ?_ ?_)<;>refine Lf.mk ?_)
  refine awp_loopW (α:=Nat) (fun k=>k≤halves b) (fun k=>[(0,bytesD b),(3,.sl 1 ((linesT b k).map D.str) (some 1)),(4,.mp 0),(5,.int .i64 (2 * (k:Int)))]) (fun k=>[.map (mkM (putF b k)),.spare (linesT b k).length]) (fun k=>halves b - k) (fun _=>by rw [hE0];exact Nat.zero_le _) 0 (Nat.zero_le _) ?_ ?_
  ·exact weak_same rfl ⟨rfl,rfl,rfl,rfl,trivial⟩
  intro k hk
  have hk:k≤halves b:=hk
  have hI:isI b (2 * (k:Int))=if (b.length:Int) < 2 * (k:Int)+2∨(decI (getN b (2 * (k:Int)) 2)).2≠0∨finI (decI (getN b (2 * (k:Int)) 2)).1 (2 * (k:Int)) b.length=false then none else some (decI (getN b (2 * (k:Int)) 2)).1:=by unfold isI;rfl
  have hled:ledI b k=match isI b (2 * (k:Int)) with
   | some i=>if ldM i=true then [toM i (2 * (k:Int))] else []
   | none=>[]:=by unfold ledI;rfl
  have hli:lineT b k=match isI b (2 * (k:Int)) with
   | some i=>lineH i (2 * (k:Int))
   | none=>if (b.length:Int) < 2 * (k:Int)+2 then byteT++Lib.itoa ((b.getD (2 * k) 0).toNat:Int) else wordT++Lib.itoa (getN b (2 * (k:Int)) 2):=by unfold lineT;rfl
  have hll:=linesT_len b k
  have hx:=(b.getD (2 * (k:Int)).toNat 0).toNat_lt
  have hy:=(b.getD (2 * (k:Int)+1).toNat 0).toNat_lt
  have hk1:(2 * (k:Int)) < b.length→k+1≤halves b:=fun h=>by omega
  have fin:∀ {σ:List (Nat×D)} {L:List Ob} (z:List UInt8) (X:List Ob),lineT b k=z→∀ ps,(ledI b k).foldl (fun ps p=>insP p ps) (putF b k)=ps→L=[.map (mkM ps),.spare ((linesT b k).length+1)]++X→Plat.look σ 0=bytesD b→Plat.look σ 3= .sl 1 ((linesT b k).map D.str++[.str z]) (some 1)→Plat.look σ 4= .mp 0→Plat.look σ 5= .int .i64 (2 * (k:Int)+2)→(2 * (k:Int)) < b.length →
    LoopEnd E.L.length (fun k:Nat=>k≤halves b) (fun k=>[(0,bytesD b),(3,.sl 1 ((linesT b k).map D.str) (some 1)),(4,.mp 0),(5,.int .i64 (2 * (k:Int)))]) (fun k=>[.map (mkM (putF b k)),.spare (linesT b k).length]) (fun k=>halves b - k) k σ L:=fun {σ L} z X hz ps hps hL a0 a3 a4 a5 hlt=>by
   have e1:linesT b (k+1)=linesT b k++[z]:=by rw [linesT,hz]
   have e2:putF b (k+1)=ps:=by rw [putF,hps]
   have:=hk1 hlt
   refine loop_pre (k+1) X (by show k+1≤_;omega) (by omega) (by rw [hL,e1,e2,List.length_append];rfl) (by rw [hE0];exact Nat.zero_le _) (fun o ho=>?_) ⟨a0,?_,a4,a5.trans (congrArg (D.int .i64) (by omega)),trivial⟩ (.cons .sl (.cons (.tok (by show 1 < 2;decide)) (.cons (mp_cl (by show 0 < 2;decide)) (.cons .int .nil))))
   ·simp only [List.mem_cons,List.not_mem_nil,or_false] at ho
    rcases ho with rfl | rfl
    ·exact map_cl _
    ·exact .spare
   ·rw [a3,e1,List.map_append];rfl
  refine vcOk _ ?_
  (all_goals refine qgp ?_<;>(repeat' first | exact trivial | intro hc | refine And.intro ?_ ?_)<;>refine Lf.mk ?_)
  ·have hlt:(b.length:Int) < 2 * (k:Int)+2:=by omega
   rw [hI,if_pos (.inl hlt)] at hled hli
   dsimp only at hled hli
   rw [if_pos hlt,show (2 * k:Nat)=(2 * (k:Int)).toNat by omega] at hli
   have hkh:halves b=k+1:=by omega
   generalize b.getD (2 * (k:Int)).toNat 0=c at *
   refine call_p itoa_meets (c.toNat:Int) ⟨by omega,by omega⟩ (VS.mk (LeL.of_eq rfl)) ?_
   have lg:=Lib.itoa_length_le (c.toNat:Int) (by omega) (by omega)
   (all_goals refine qgp ?_<;>(repeat' first | exact trivial | intro hc | refine And.intro ?_ ?_)<;>refine Lf.mk ?_)
   refine cat_gen 6 21 (by decide) lg (by decide) fun z1 d1 m1=>?_
   (all_goals refine qgp ?_<;>(repeat' first | exact trivial | intro hc | refine And.intro ?_ ?_)<;>refine Lf.mk ?_)
   have hz:z1=lineT b k:=by rw [d1,hli];try rfl
   have e1:linesT b (halves b)=linesT b k++[z1]:=by rw [hkh,linesT,hz]
   have e2:putF b (halves b)=putF b k:=by rw [hkh,putF,hled];rfl
   rw [e1,e2,List.map_append]
   exact ⟨(),trivial,weak_same (by simp only [List.length_append,List.length_map];try rfl) ⟨rfl,rfl,trivial⟩⟩
  ·have hw:256 * ((b.getD (2 * (k:Int)).toNat 0).toNat:Int)+((b.getD (2 * (k:Int)+1).toNat 0).toNat:Int)=getN b (2 * (k:Int)) 2:=getN_two (by omega) (by omega)
   rw [hw]
   have hg0:=getN_nn b (2 * (k:Int)) 2
   have hg1:=getN_le b (2 * (k:Int))
   generalize getN b (2 * (k:Int)) 2=w at *
   refine call_p rdecode w trivial (VS.mk (LeL.of_eq rfl)) ?_
   dsimp only
   have hd:=@turn2 w
   have hin:=dec_in w
   generalize decI w=R at *
   obtain ⟨j,e⟩:=R
   dsimp only at hI hd hin ⊢
   (all_goals refine qgp ?_<;>(repeat' first | exact trivial | intro hc | refine And.intro ?_ ?_)<;>refine Lf.mk ?_)
   refine call_p rto_meets (j,2 * (k:Int)) ⟨hin.1,hin.2,by show _≤2 * (k:Int);omega,by show 2 * (k:Int)≤_;omega⟩ (VS.mk (LeL.of_eq rfl)) ?_
   dsimp only
   have hF:finI j (2 * (k:Int)) b.length=(!ldM j || (decide (0≤toM j (2 * (k:Int))) && decide (toM j (2 * (k:Int)) < b.length))):=by unfold finI;rfl
   (all_goals refine qgp ?_<;>(repeat' first | exact trivial | intro hc | refine And.intro ?_ ?_)<;>refine Lf.mk ?_)
   ·have hn:isI b (2 * (k:Int))=none:=by rw [hI,if_pos (.inr (.inl hc))]
    rw [hn] at hled hli
    dsimp only at hled hli
    rw [if_neg (by omega)] at hli
    refine call_p itoa_meets w ⟨by omega,by omega⟩ (VS.mk (LeL.of_eq rfl)) ?_
    have lg:=Lib.itoa_length_le w (by omega) (by omega)
    (all_goals refine qgp ?_<;>(repeat' first | exact trivial | intro hc | refine And.intro ?_ ?_)<;>refine Lf.mk ?_)
    refine cat_gen 6 21 (by decide) lg (by decide) fun z1 d1 m1=>?_
    (all_goals refine qgp ?_<;>(repeat' first | exact trivial | intro hc | refine And.intro ?_ ?_)<;>refine Lf.mk ?_)
    exact fin z1 [_] (by rw [hli,d1];try rfl) (putF b k) (by rw [hled];rfl) (by simp only [List.length_append,List.length_map];try rfl) rfl rfl rfl rfl (by omega)
   ·have hn:isI b (2 * (k:Int))=none:=by rw [hI,if_pos (.inr (.inr (by rw [hF];simp_all;try omega)))]
    rw [hn] at hled hli
    dsimp only at hled hli
    rw [if_neg (by omega)] at hli
    refine call_p itoa_meets w ⟨by omega,by omega⟩ (VS.mk (LeL.of_eq rfl)) ?_
    have lg:=Lib.itoa_length_le w (by omega) (by omega)
    (all_goals refine qgp ?_<;>(repeat' first | exact trivial | intro hc | refine And.intro ?_ ?_)<;>refine Lf.mk ?_)
    refine cat_gen 6 21 (by decide) lg (by decide) fun z1 d1 m1=>?_
    (all_goals refine qgp ?_<;>(repeat' first | exact trivial | intro hc | refine And.intro ?_ ?_)<;>refine Lf.mk ?_)
    exact fin z1 [_] (by rw [hli,d1];try rfl) (putF b k) (by rw [hled];rfl) (by simp only [List.length_append,List.length_map];try rfl) rfl rfl rfl rfl (by omega)
   ·have hn:isI b (2 * (k:Int))=none:=by rw [hI,if_pos (.inr (.inr (by rw [hF];simp_all;try omega)))]
    rw [hn] at hled hli
    dsimp only at hled hli
    rw [if_neg (by omega)] at hli
    refine call_p itoa_meets w ⟨by omega,by omega⟩ (VS.mk (LeL.of_eq rfl)) ?_
    have lg:=Lib.itoa_length_le w (by omega) (by omega)
    (all_goals refine qgp ?_<;>(repeat' first | exact trivial | intro hc | refine And.intro ?_ ?_)<;>refine Lf.mk ?_)
    refine cat_gen 6 21 (by decide) lg (by decide) fun z1 d1 m1=>?_
    (all_goals refine qgp ?_<;>(repeat' first | exact trivial | intro hc | refine And.intro ?_ ?_)<;>refine Lf.mk ?_)
    exact fin z1 [_] (by rw [hli,d1];try rfl) (putF b k) (by rw [hled];rfl) (by simp only [List.length_append,List.length_map];try rfl) rfl rfl rfl rfl (by omega)
   ·have hs:isI b (2 * (k:Int))=some j:=by rw [hI,if_neg (fun h=>by rcases h with h | h | h;omega;exact h (by assumption);rw [hF] at h;simp_all;try omega)]
    rw [hs] at hled hli
    dsimp only at hled hli
    have hlin:=(wr_in (hd (by assumption)).2.2.1).at (at_:=2 * (k:Int)) (by omega) (by omega)
    rw [if_pos (by assumption)] at hled
    refine sd_mk (keys_mk _) (VS.mk (norm_m (es':=mkM (insP (toM j (2 * (k:Int))) (putF b k))) (set_mk (toM j (2 * (k:Int))) (putF b k)) ?_))
    (all_goals refine qgp ?_<;>(repeat' first | exact trivial | intro hc | refine And.intro ?_ ?_)<;>refine Lf.mk ?_)
    refine call_p rline_meets (j,2 * (k:Int)) hlin (VS.mk (LeL.of_eq rfl)) ?_
    dsimp only
    (all_goals refine qgp ?_<;>(repeat' first | exact trivial | intro hc | refine And.intro ?_ ?_)<;>refine Lf.mk ?_)
    exact fin (lineH j (2 * (k:Int))) [_] hli (insP (toM j (2 * (k:Int))) (putF b k)) (by rw [hled];rfl) (by simp only [List.length_append,List.length_map];try rfl) rfl rfl rfl rfl (by omega)
   ·exfalso;simp_all
   ·exfalso;simp_all
   ·have hs:isI b (2 * (k:Int))=some j:=by rw [hI,if_neg (fun h=>by rcases h with h | h | h;omega;exact h (by assumption);rw [hF] at h;simp_all;try omega)]
    rw [hs] at hled hli
    dsimp only at hled hli
    have hlin:=(wr_in (hd (by assumption)).2.2.1).at (at_:=2 * (k:Int)) (by omega) (by omega)
    rw [if_neg (by simp_all)] at hled
    refine call_p rline_meets (j,2 * (k:Int)) hlin (VS.mk (LeL.of_eq rfl)) ?_
    dsimp only
    (all_goals refine qgp ?_<;>(repeat' first | exact trivial | intro hc | refine And.intro ?_ ?_)<;>refine Lf.mk ?_)
    exact fin (lineH j (2 * (k:Int))) [_] hli (putF b k) (by rw [hled];rfl) (by simp only [List.length_append,List.length_map];try rfl) rfl rfl rfl rfl (by omega)
  ·have hkh:k=halves b:=by omega
   subst hkh
   exact ⟨(),trivial,weak_same rfl ⟨rfl,rfl,trivial⟩⟩
 ·refine vcOk _ ?_
  (all_goals refine qgp ?_<;>(repeat' first | exact trivial | intro hc | refine And.intro ?_ ?_)<;>refine Lf.mk ?_)
  have hln:=linesT_len b (halves b)
  refine awp_loopW (α:=Nat) (fun k=>k≤halves b) (fun k=>[(4,.mp 0),(11,.str (textF b (ledF b (halves b)) k)),(90,.sl 1 ((linesT b (halves b)).map D.str) (some 1)),(91,.int .i64 (halves b:Int)),(92,.int .i64 (k:Int))]) (fun _=>[.map (mkM (putF b (halves b))),.spare (linesT b (halves b)).length]) (fun k=>halves b - k) (fun _=>by rw [hE0];exact Nat.zero_le _) 0 (Nat.zero_le _) ?_ ?_
  ·exact weak_same rfl ⟨rfl,rfl,rfl,congrArg (fun n:Nat=>D.int .i64 (n:Int)) hln,rfl,trivial⟩
  intro k hk
  have hk:k≤halves b:=hk
  have htl:=text_len b (ledF b (halves b)) k
  have hmk:markI (ledF b (halves b)) k=if (2 * (k:Int))∈ledF b (halves b) then nameH (2 * (k:Int))++[58,10] else []:=by unfold markI;rfl
  have hmem:=mem_putF b (2 * (k:Int)) (halves b)
  have hget:=get_mk (2 * (k:Int)) (putF b (halves b))
  have hit:=item_line b k
  refine vcOk _ ?_
  (all_goals refine qgp ?_<;>(repeat' first | exact trivial | intro hc | refine And.intro ?_ ?_)<;>refine Lf.mk ?_)
  ·have hkl:k < (linesT b (halves b)).length:=by omega
   refine ix_map (enc:=D.str) (lineT b k) (Int.natCast_nonneg _) (by rw [Int.toNat_natCast];exact linesT_at b _ k (by omega)) ?_
   (all_goals refine qgp ?_<;>(repeat' first | exact trivial | intro hc | refine And.intro ?_ ?_)<;>refine Lf.mk ?_)
   have htl1:=text_len b (ledF b (halves b)) (k+1)
   have hst:textF b (ledF b (halves b)) (k+1)=(textF b (ledF b (halves b)) k++markI (ledF b (halves b)) k)++(lineT b k++[10]):=by rw [textF,hit]
   rw [hst] at htl1
   simp only [List.length_append,List.length_cons,List.length_nil] at htl1
   refine sd_mk (keys_mk _) (VS.mk ?_)
   by_cases hm:(2 * (k:Int))∈ledF b (halves b)
   ·rw [if_pos (hmem.2 hm)] at hget
    rw [if_pos hm] at hmk
    rw [hmk] at hst htl1
    refine lk_some hget ?_
    generalize textF b (ledF b (halves b)) k=T at *
    simp only [List.length_append,List.length_cons,List.length_nil] at htl1
    (all_goals refine qgp ?_<;>(repeat' first | exact trivial | intro hc | refine And.intro ?_ ?_)<;>refine Lf.mk ?_)
    refine call_p rhex_meets (2 * (k:Int)) ⟨by omega,by omega⟩ (VS.mk (LeL.of_eq rfl)) ?_
    (all_goals refine qgp ?_<;>(repeat' first | exact trivial | intro hc | refine And.intro ?_ ?_)<;>refine Lf.mk ?_)
    refine cat_le 300000000 (by first | omega | (simp;omega)) (by decide) ?_
    (all_goals refine qgp ?_<;>(repeat' first | exact trivial | intro hc | refine And.intro ?_ ?_)<;>refine Lf.mk ?_)
    refine cat_le 300000000 (by first | omega | (simp;omega)) (by decide) ?_
    (all_goals refine qgp ?_<;>(repeat' first | exact trivial | intro hc | refine And.intro ?_ ?_)<;>refine Lf.mk ?_)
    refine cat_le 300000000 (by first | omega | (simp;omega)) (by decide) ?_
    (all_goals refine qgp ?_<;>(repeat' first | exact trivial | intro hc | refine And.intro ?_ ?_)<;>refine Lf.mk ?_)
    refine cat_le 300000000 (by first | omega | (simp;omega)) (by decide) ?_
    (all_goals refine qgp ?_<;>(repeat' first | exact trivial | intro hc | refine And.intro ?_ ?_)<;>refine Lf.mk ?_)
    exact loop_same (k+1) (by show k+1≤_;omega) (by omega) rfl ⟨rfl,congrArg D.str (by rw [hst];simp),rfl,rfl,rfl,trivial⟩
   ·rw [if_neg (fun h=>hm (hmem.1 h))] at hget
    rw [if_neg hm] at hmk
    rw [hmk] at hst htl1
    refine lk_none hget ?_
    generalize textF b (ledF b (halves b)) k=T at *
    simp only [List.length_nil] at htl1
    (all_goals refine qgp ?_<;>(repeat' first | exact trivial | intro hc | refine And.intro ?_ ?_)<;>refine Lf.mk ?_)
    refine cat_le 300000000 (by first | omega | (simp;omega)) (by decide) ?_
    (all_goals refine qgp ?_<;>(repeat' first | exact trivial | intro hc | refine And.intro ?_ ?_)<;>refine Lf.mk ?_)
    refine cat_le 300000000 (by first | omega | (simp;omega)) (by decide) ?_
    (all_goals refine qgp ?_<;>(repeat' first | exact trivial | intro hc | refine And.intro ?_ ?_)<;>refine Lf.mk ?_)
    exact loop_same (k+1) (by show k+1≤_;omega) (by omega) rfl ⟨rfl,congrArg D.str (by rw [hst];simp),rfl,rfl,rfl,trivial⟩
  ·have hkh:k=halves b:=by omega
   subst hkh
   refine end_p (VS.mk (LeD.of_eq (congrArg D.str ?_)))
   unfold disT
   rfl
attribute [local irreducible] disT
theorem distells_meets:Meets Tryd.prog n_pllaw8_DisTells (SpecP (fun ((b,i,at_):List UInt8×Ins×Int)=>b.length≤1048576) (fun (b,i,at_)=>[bytesD b,insD i,.int .i64 at_]) fun _=>.bool true):=by
 refine meets_f tabOk Tryd.func3 rfl (by decide) ?_
 rintro ⟨b,i,at_⟩ hb
 have hb:b.length≤1048576:=hb
 refine ⟨Nat.le_refl _,by simp [Tryd.f3],fun E hE=>?_⟩
 have hE0:E.L.length=0:=by rw [hE];rfl
 refine vcOk _ ?_
 (all_goals refine qgp ?_<;>(repeat' first | exact trivial | intro hc | refine And.intro ?_ ?_)<;>refine Lf.mk ?_)
 refine call_p text_meets b hb (VS.mk (LeL.of_eq rfl)) ?_
 (all_goals refine qgp ?_<;>(repeat' first | exact trivial | intro hc | refine And.intro ?_ ?_)<;>refine Lf.mk ?_)
 refine call_p rtext_meets b hb (VS.mk (LeL.of_eq rfl)) ?_
 (all_goals refine qgp ?_<;>(repeat' first | exact trivial | intro hc | refine And.intro ?_ ?_)<;>refine Lf.mk ?_)
 (any_goals (first | (exfalso;refine Bool.false_ne_true ?_;assumption) | (exfalso;refine Bool.false_ne_true (Eq.symm ?_);assumption) | (exfalso;refine absurd trivial ?_;assumption) | skip))
 all_goals first
  | (exfalso;exact (by assumption:¬ True) trivial)
  | (exfalso;exact absurd rfl (by assumption))
  | skip
 refine call_p rwrong_meets i trivial (VS.mk (LeL.of_eq rfl)) ?_
 (all_goals refine qgp ?_<;>(repeat' first | exact trivial | intro hc | refine And.intro ?_ ?_)<;>refine Lf.mk ?_)
 all_goals first
  | exact end_p (VS.mk (LeD.tt rfl))
  | skip
 have hwr:wrongI i=0:=by assumption
 have h0:=wr_in hwr
 have himm:=h0.imm
 have hlin:=h0.at (at_:=at_) (by omega) (by omega)
 refine call_p to_meets (i,at_) ⟨himm.1,himm.2,by show _≤at_;omega,by show at_≤_;omega⟩ (VS.mk (LeL.of_eq rfl)) ?_
 dsimp only
 (all_goals refine qgp ?_<;>(repeat' first | exact trivial | intro hc | refine And.intro ?_ ?_)<;>refine Lf.mk ?_)
 refine call_p rto_meets (i,at_) ⟨himm.1,himm.2,by show _≤at_;omega,by show at_≤_;omega⟩ (VS.mk (LeL.of_eq rfl)) ?_
 dsimp only
 generalize toM i at_=td at *
 generalize ldM i=ll at *
 (all_goals refine qgp ?_<;>(repeat' first | exact trivial | intro hc | refine And.intro ?_ ?_)<;>refine Lf.mk ?_)
 all_goals first
  | (exfalso;exact (by assumption:¬ True) trivial)
  | skip
 refine call_p dline_meets (i,at_) hlin (VS.mk (LeL.of_eq rfl)) ?_
 (all_goals refine qgp ?_<;>(repeat' first | exact trivial | intro hc | refine And.intro ?_ ?_)<;>refine Lf.mk ?_)
 refine call_p rline_meets (i,at_) hlin (VS.mk (LeL.of_eq rfl)) ?_
 (all_goals refine qgp ?_<;>(repeat' first | exact trivial | intro hc | refine And.intro ?_ ?_)<;>refine Lf.mk ?_)
 all_goals exact end_p (VS.mk (LeD.of_eq (congrArg D.bool (beq_self_eq_true _))))
end Go.Proofs.YtfahnaccpncdpaaDoor
namespace Go.Proofs.YtfahnaccpncdpaaDoor
open Go Go.Plat
set_option linter.unusedVariables false
set_option linter.unusedSimpArgs false
set_option maxRecDepth 100000
set_option maxHeartbeats 2000000
attribute [local irreducible] AWP Arith BitS BytesS CallS CatS DrawS EndS IdxS LookS LoopEnd Meets ModeS NilS NormL NormM QuoS RemS ShlS ShrS SideS SplitS bitI
theorem own:ownKnob Tryd.prog.godebug=none:=by kernel_rfl
theorem one_le {H:Type} (d:DataW H):1≤Rows.uptoBulk d:=by
 cases d with
 | lit l=>cases l<;>simp [Rows.uptoBulk]
 | nil=>simp [Rows.uptoBulk]
 | ptr d=>simp [Rows.uptoBulk]
 | slice el sp=>simp [Rows.uptoBulk]
 | agg ps=>simp [Rows.uptoBulk]
 | iface t d=>simp [Rows.uptoBulk]
 | map es=>simp [Rows.uptoBulk]
 | held h=>simp [Rows.uptoBulk]
theorem length_le {H:Type} (l:List (DataW H)):l.length≤Rows.uptoBulkAll l:=by
 induction l with
 | nil=>simp [Rows.uptoBulkAll]
 | cons x r ih=>have:=one_le x;simp only [Rows.uptoBulkAll,List.length_cons];omega
theorem elems_all {H:Type} (d:DataW H):Rows.uptoBulkAll (elems d)≤Rows.uptoBulk d:=by
 cases d<;>simp only [elems,Rows.uptoBulk,Rows.uptoBulkAll]<;>omega
theorem elems_le {H:Type} (d:DataW H):(elems d).length≤Rows.uptoBulk d:=Nat.le_trans (length_le _) (elems_all d)
theorem bound {H:Type} {l:List (DataW H)} (hk:Rows.uptoSmall H l=true):Rows.uptoBulkAll l≤1048576:=of_decide_eq_true hk
end Go.Proofs.YtfahnaccpncdpaaDoor
namespace Go.Plat
open Go
set_option linter.unusedVariables false
set_option linter.unusedSimpArgs false
abbrev GFact (w:World) (F:Nat→Nat→Prop) (g:Nat) (cs:List D):Prop:=RepP w F (.ptr cs) (.pointer (some ⟨g,0,none⟩)) ∧
 (∀ off,¬ F g off)∧(∃ row t z,w.heap[g]?=some (.cells row t z)∧(row.size=cs.length∨cs=[.any])) ∧
 (cs=[.any]→∃ u v,w.cell? ⟨g,0,none⟩=some (.iface u v))
def GOkL (w:World) (F:Nat→Nat→Prop) (l:List (Nat×Nat×List Nat)):Prop:=∀ g cs,findG l g=some cs→GFact w F g cs
theorem gokl_nil {w:World} {F:Nat→Nat→Prop}:GOkL w F []:=fun g cs h=>by cases h
theorem gokl_cons {w:World} {F:Nat→Nat→Prop} {h k:Nat} {ns:List Nat} {r:List (Nat×Nat×List Nat)} (hf:GFact w F h (globD k ns)) (hr:GOkL w F r):GOkL w F ((h,k,ns)::r):=by
 intro g cs hg
 rw [findG] at hg
 cases hb:Nat.beq h g with
 | false=>rw [hb] at hg;exact hr g cs hg
 | true=>
  rw [hb] at hg
  have e:=Nat.eq_of_beq_eq_true hb
  subst e
  cases hg
  exact hf
theorem gfact {P:Program} {w:World} {name:String} {g:Nat} {k:IntKind} {zs:List Int} {ns:List Nat} (hn:P.globalNamed name=some g) (h:Lib.TabIs P w name k zs)
  (hz:zs=ns.map fun n:Nat=>(n:Int)):GFact w F0 g (ns.map fun n=>D.int k (n:Nat)):=by
 have hc:=fun i hi=>h.cell hn i hi
 refine ⟨.ptr _ _ _ (fun j=>.int k (zs.getD j 0)) (fun j c hj=>⟨?_,fun f=>f⟩) (fun j c hj=>?_),fun off f=>f,?_,fun e=>absurd e (fun e=>?_)⟩
 ·have hjl:j < ns.length:=by
   have:=(List.getElem?_eq_some_iff.1 hj).1
   simpa using this
  rw [Nat.zero_add]
  exact hc j (by rw [hz];simpa using hjl)
 ·have hjl:j < ns.length:=by
   have:=(List.getElem?_eq_some_iff.1 hj).1
   simpa using this
  rw [List.getElem?_map,List.getElem?_eq_getElem hjl] at hj
  cases hj
  have:zs.getD j 0=(ns[j]:Int):=by
   rw [hz,List.getD_eq_getElem?_getD,List.getElem?_map,List.getElem?_eq_getElem hjl];rfl
  dsimp only
  rw [this]
  exact .int _ _
 ·unfold Lib.TabIs World.var? at h
  rw [hn] at h
  dsimp only [Option.bind_some] at h
  split at h
  ·rename_i cs t z hh
   cases h
   exact ⟨_,_,_,hh,.inl (by rw [hz];simp)⟩
  ·cases h
 ·match ns,e with
  | [],e=>cases e
  | n::r,e=>cases (List.cons.inj e).1
theorem tab_of_vars {P:Program} {W:World} {name:String} {k:IntKind} {zs:List Int} {rest:List (String×DataW Unit)} {g:Nat} {t e:TypeId} {n:Nat} {ps:List MemPlace} {d:DataW Unit}
  (hg:P.globalNamed name=some g) (hty:(P.globals[g]?).map (·.type)=some t) (ht:P.underlying t=some (.array n e)) (he:P.underlying e=some (.int k)) (hce:P.cellsOf e=1) (hct:P.cellsOf t=n)
  (hd:d=Lib.tabData k zs) (h:DataW.LaidVars P W ((name,d)::rest) ps):Lib.TabIs P W name k zs∧∃ q,DataW.LaidVars P W rest q:=by
 subst hd
 obtain ⟨g',t',cs,fuel,p,q,hg',ht',hvar,hd,hr,_⟩:=h
 obtain rfl:=Option.some.inj (hg.symm.trans hg')
 obtain rfl:=Option.some.inj (hty.symm.trans ht')
 refine ⟨?_,q,hr⟩
 unfold Lib.TabIs
 rw [hvar,← Lib.cells_of_tab ht he hce hct hd]
theorem laid_tail {P:Program} {W:World} {x:String×DataW Unit} {rest:List (String×DataW Unit)} {ps:List MemPlace} (h:DataW.LaidVars P W (x::rest) ps):∃ q,DataW.LaidVars P W rest q:=by
 obtain ⟨g',t',cs,fuel,p,q,hg',ht',hvar,hd,hr,_⟩:=h
 exact ⟨q,hr⟩
end Go.Plat
