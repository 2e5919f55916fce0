/-
  A part of the proof: what the given program's functions answer, each once; conditions that are enough for it.
-/
import Derived.Test.YtfahnaccpncdpaaGreatDoorSt2
import Derived.Test.YtfahnaccpncdpaaGreatDoorFw3
import Derived.Test.YtfahnaccpncdpaaGreatDoorSt1
namespace Go.Proofs.YtfahnaccpncdpaaGreatDoor
open Go Go.Plat
set_option linter.unusedVariables false
set_option linter.unusedSimpArgs false
set_option maxRecDepth 100000
set_option maxHeartbeats 2000000
attribute [local irreducible] AWP Arith BitS BytesS CallS CatS DrawS EndS IdxS LookS LoopEnd Meets ModeS NilS NormL NormM QuoS RemS ShlS ShrS SideS SplitS bitI
theorem posF_bound {α:Type} (p:α→Bool):∀ (l:List α) (k:Nat),posF p l k= -1∨∃ j:Nat,j < l.length∧posF p l k=((k+j:Nat):Int)
 | [],_=>.inl rfl
 | x::l,k=>by
  rw [posF]
  split
  ·exact .inr ⟨0,by simp,rfl⟩
  ·rcases posF_bound p l (k+1) with h | ⟨j,h1,h2⟩
   ·exact .inl h
   ·exact .inr ⟨j+1,by simp;omega,by rw [h2,Nat.add_right_comm,Nat.add_assoc]⟩
theorem idx_syms {av:List D} {L:List Ob} {KP:D→Prop} {KW:D→List Ob→Prop} (g:Nat) (caps:List D) (p:OSym→Bool) (l:List OSym) (c0 c1:Ob) (R:List Ob) (hl:l.length≤1000000000)
  (hL:L=c0::c1:: .arr 2 (l.map symD)::R) (has:av=[.osl 2 2 l.length 0 l.length,.fn g caps])
  (hg:∀ s∈l,∀ (KP:D→Prop) (KW:D→List Ob→Prop),KW (.bool (p s)) L→CallS Tryz.prog g (symD s::caps) L KP KW)
  (hK:KW (.int .i64 (posF p l 0)) L):CallS Tryz.prog n_slices_IndexFunc_api_Sym_api_Sym av L KP KW:=by
 subst has
 refine call_inline tabOk Tryz.func118 rfl (by decide) (.int .i64 (posF p l 0)) L (Nat.le_refl _) (by simp [Tryz.f118]) (fun E hE=>?_) hK
 have hE0:E.L.length=L.length:=by rw [hE]
 subst hL
 refine vcOk _ ?_
 (all_goals refine qgo (Lf.mk ?_))
 refine awp_loopW (α:=Nat) (fun k=>k≤l.length∧posF p l 0=posF p (l.drop k) k)
  (fun k=>[(0,.osl 2 2 l.length 0 l.length),(1,.fn g caps),(7,.int .i64 l.length),(8,.int .i64 k)]) (fun _=>c0::c1:: .arr 2 (l.map symD)::R) (fun k=>l.length - k) (fun _=>by rw [hE0];exact Nat.le_refl _) 0 ⟨Nat.zero_le _,by simp⟩ ?_ ?_
 ·exact weak_same rfl ⟨rfl,rfl,rfl,rfl,trivial⟩
 rintro k ⟨hk,hf⟩
 refine vcOk _ ?_
 (all_goals refine qgp ?_<;>(repeat' first | exact trivial | intro hc | refine And.intro ?_ ?_)<;>refine Lf.mk ?_)
 ·obtain ⟨s,hsk⟩:=at_of_lt (l:=l) (k:=k) (by omega)
  have hkl:k < l.length:=by omega
  have hget:l[k]=s:=by rw [List.getElem?_eq_getElem hkl] at hsk;exact Option.some.inj hsk
  rw [List.drop_eq_getElem_cons hkl,hget,posF] at hf
  refine ix_map s (by omega) (by simpa using hsk) ?_
  (all_goals refine qgp (Lf.mk ?_))
  refine hg s (List.mem_of_getElem? hsk) _ _ ?_
  cases hb:p s with
  | true=>
   rw [hb,if_pos rfl] at hf
   (all_goals refine qgp ?_<;>(repeat' first | exact trivial | intro hc | refine And.intro ?_ ?_)<;>refine Lf.mk ?_)
   (any_goals (first | (exfalso;refine Bool.false_ne_true ?_;assumption) | (exfalso;refine Bool.false_ne_true (Eq.symm ?_);assumption) | (exfalso;refine absurd trivial ?_;assumption) | skip))
   exact end_eq (by rw [hf];rfl) rfl
  | false=>
   rw [hb,if_neg (by decide)] at hf
   (all_goals refine qgp ?_<;>(repeat' first | exact trivial | intro hc | refine And.intro ?_ ?_)<;>refine Lf.mk ?_)
   (any_goals (first | (exfalso;refine Bool.false_ne_true ?_;assumption) | (exfalso;refine Bool.false_ne_true (Eq.symm ?_);assumption) | (exfalso;refine absurd trivial ?_;assumption) | skip))
   exact loop_same (k+1) ⟨by omega,hf⟩ (by omega) rfl ⟨rfl,rfl,rfl,rfl,trivial⟩
 ·rw [List.drop_of_length_le (by omega),posF] at hf
  exact end_eq (by rw [hf];rfl) rfl
theorem idx_items {av:List D} {L:List Ob} {KP:D→Prop} {KW:D→List Ob→Prop} (g:Nat) (caps:List D) (p:AItem→Bool) (l:List AItem) (c0:Ob) (R:List Ob) (hl:l.length≤1000000000)
  (hL:L=c0:: .arr 13 (l.map itemD)::R) (has:av=[.osl 13 1 l.length 0 l.length,.fn g caps])
  (hg:∀ s∈l,∀ (KP:D→Prop) (KW:D→List Ob→Prop),KW (.bool (p s)) L→CallS Tryz.prog g (itemD s::caps) L KP KW)
  (hK:KW (.int .i64 (posF p l 0)) L):CallS Tryz.prog n_slices_IndexFunc_asm_item_asm_item av L KP KW:=by
 subst has
 refine call_inline tabOk Tryz.func77 rfl (by decide) (.int .i64 (posF p l 0)) L (Nat.le_refl _) (by simp [Tryz.f77]) (fun E hE=>?_) hK
 have hE0:E.L.length=L.length:=by rw [hE]
 subst hL
 refine vcOk _ ?_
 (all_goals refine qgo (Lf.mk ?_))
 refine awp_loopW (α:=Nat) (fun k=>k≤l.length∧posF p l 0=posF p (l.drop k) k)
  (fun k=>[(0,.osl 13 1 l.length 0 l.length),(1,.fn g caps),(7,.int .i64 l.length),(8,.int .i64 k)]) (fun _=>c0:: .arr 13 (l.map itemD)::R) (fun k=>l.length - k) (fun _=>by rw [hE0];exact Nat.le_refl _) 0 ⟨Nat.zero_le _,by simp⟩ ?_ ?_
 ·exact weak_same rfl ⟨rfl,rfl,rfl,rfl,trivial⟩
 rintro k ⟨hk,hf⟩
 refine vcOk _ ?_
 (all_goals refine qgp ?_<;>(repeat' first | exact trivial | intro hc | refine And.intro ?_ ?_)<;>refine Lf.mk ?_)
 ·obtain ⟨s,hsk⟩:=at_of_lt (l:=l) (k:=k) (by omega)
  have hkl:k < l.length:=by omega
  have hget:l[k]=s:=by rw [List.getElem?_eq_getElem hkl] at hsk;exact Option.some.inj hsk
  rw [List.drop_eq_getElem_cons hkl,hget,posF] at hf
  refine ix_map s (by omega) (by simpa using hsk) ?_
  (all_goals refine qgp (Lf.mk ?_))
  refine hg s (List.mem_of_getElem? hsk) _ _ ?_
  cases hb:p s with
  | true=>
   rw [hb,if_pos rfl] at hf
   (all_goals refine qgp ?_<;>(repeat' first | exact trivial | intro hc | refine And.intro ?_ ?_)<;>refine Lf.mk ?_)
   (any_goals (first | (exfalso;refine Bool.false_ne_true ?_;assumption) | (exfalso;refine Bool.false_ne_true (Eq.symm ?_);assumption) | (exfalso;refine absurd trivial ?_;assumption) | skip))
   exact end_eq (by rw [hf];rfl) rfl
  | false=>
   rw [hb,if_neg (by decide)] at hf
   (all_goals refine qgp ?_<;>(repeat' first | exact trivial | intro hc | refine And.intro ?_ ?_)<;>refine Lf.mk ?_)
   (any_goals (first | (exfalso;refine Bool.false_ne_true ?_;assumption) | (exfalso;refine Bool.false_ne_true (Eq.symm ?_);assumption) | (exfalso;refine absurd trivial ?_;assumption) | skip))
   exact loop_same (k+1) ⟨by omega,hf⟩ (by omega) rfl ⟨rfl,rfl,rfl,rfl,trivial⟩
 ·rw [List.drop_of_length_le (by omega),posF] at hf
  exact end_eq (by rw [hf];rfl) rfl
theorem idx_equs {av:List D} {L:List Ob} {KP:D→Prop} {KW:D→List Ob→Prop} (g:Nat) (caps:List D) (p:OEqu→Bool) (l:List OEqu) (hl:l.length≤1000000000)
  (has:av=[.sl 2 (l.map equD) none,.fn g caps])
  (hg:∀ s∈l,∀ (KP:D→Prop) (KW:D→List Ob→Prop),KW (.bool (p s)) L→CallS Tryz.prog g (equD s::caps) L KP KW)
  (hK:KW (.int .i64 (posF p l 0)) L):CallS Tryz.prog n_slices_IndexFunc_api_Equ_api_Equ av L KP KW:=by
 subst has
 refine call_inline tabOk Tryz.func141 rfl (by decide) (.int .i64 (posF p l 0)) L (Nat.le_refl _) (by simp [Tryz.f141]) (fun E hE=>?_) hK
 have hE0:E.L.length=L.length:=by rw [hE]
 refine vcOk _ ?_
 (all_goals refine qgo (Lf.mk ?_))
 refine awp_loopW (α:=Nat) (fun k=>k≤l.length∧posF p l 0=posF p (l.drop k) k)
  (fun k=>[(0,.sl 2 (l.map equD) none),(1,.fn g caps),(7,.int .i64 l.length),(8,.int .i64 k)]) (fun _=>L) (fun k=>l.length - k) (fun _=>by rw [hE0];exact Nat.le_refl _) 0 ⟨Nat.zero_le _,by simp⟩ ?_ ?_
 ·exact weak_same rfl ⟨rfl,rfl,rfl,rfl,trivial⟩
 rintro k ⟨hk,hf⟩
 refine vcOk _ ?_
 (all_goals refine qgp ?_<;>(repeat' first | exact trivial | intro hc | refine And.intro ?_ ?_)<;>refine Lf.mk ?_)
 ·obtain ⟨s,hsk⟩:=at_of_lt (l:=l) (k:=k) (by omega)
  have hkl:k < l.length:=by omega
  have hget:l[k]=s:=by rw [List.getElem?_eq_getElem hkl] at hsk;exact Option.some.inj hsk
  rw [List.drop_eq_getElem_cons hkl,hget,posF] at hf
  refine ix_map s (by omega) (by simpa using hsk) ?_
  (all_goals refine qgp (Lf.mk ?_))
  refine hg s (List.mem_of_getElem? hsk) _ _ ?_
  cases hb:p s with
  | true=>
   rw [hb,if_pos rfl] at hf
   (all_goals refine qgp ?_<;>(repeat' first | exact trivial | intro hc | refine And.intro ?_ ?_)<;>refine Lf.mk ?_)
   (any_goals (first | (exfalso;refine Bool.false_ne_true ?_;assumption) | (exfalso;refine Bool.false_ne_true (Eq.symm ?_);assumption) | (exfalso;refine absurd trivial ?_;assumption) | skip))
   exact end_eq (by rw [hf];rfl) rfl
  | false=>
   rw [hb,if_neg (by decide)] at hf
   (all_goals refine qgp ?_<;>(repeat' first | exact trivial | intro hc | refine And.intro ?_ ?_)<;>refine Lf.mk ?_)
   (any_goals (first | (exfalso;refine Bool.false_ne_true ?_;assumption) | (exfalso;refine Bool.false_ne_true (Eq.symm ?_);assumption) | (exfalso;refine absurd trivial ?_;assumption) | skip))
   exact loop_same (k+1) ⟨by omega,hf⟩ (by omega) rfl ⟨rfl,rfl,rfl,rfl,trivial⟩
 ·rw [List.drop_of_length_le (by omega),posF] at hf
  exact end_eq (by rw [hf];rfl) rfl
theorem any_pos {α:Type} (p:α→Bool):∀ (l:List α) (k:Nat),decide (0≤posF p l k)=l.any p
 | [],_=>rfl
 | x::l,k=>by
  rw [posF,List.any_cons]
  cases h:p x with
  | true=>rw [if_pos rfl];simp
  | false=>rw [if_neg (by decide),any_pos p l (k+1)];simp
theorem has_syms {av:List D} {L:List Ob} {KP:D→Prop} {KW:D→List Ob→Prop} (g:Nat) (caps:List D) (p:OSym→Bool) (l:List OSym) (c0 c1:Ob) (R:List Ob) (hl:l.length≤1000000000)
  (hL:L=c0::c1:: .arr 2 (l.map symD)::R) (has:av=[.osl 2 2 l.length 0 l.length,.fn g caps])
  (hg:∀ s∈l,∀ (KP:D→Prop) (KW:D→List Ob→Prop),KW (.bool (p s)) L→CallS Tryz.prog g (symD s::caps) L KP KW)
  (hK:KW (.bool (l.any p)) L):CallS Tryz.prog n_slices_ContainsFunc_api_Sym_api_Sym av L KP KW:=by
 subst has
 refine call_inline tabOk Tryz.func109 rfl (by decide) (.bool (l.any p)) L (Nat.le_refl _) (by simp [Tryz.f109]) (fun E hE=>?_) hK
 have hE0:E.L.length=L.length:=by rw [hE]
 subst hL
 refine vcOk _ ?_
 (all_goals refine qgo (Lf.mk ?_))
 refine idx_syms g caps p l c0 c1 R hl rfl rfl hg ?_
 (all_goals refine qgo (Lf.mk ?_))
 exact end_eq (congrArg D.bool (any_pos p l 0)) rfl
theorem has_equs {av:List D} {L:List Ob} {KP:D→Prop} {KW:D→List Ob→Prop} (g:Nat) (caps:List D) (p:OEqu→Bool) (l:List OEqu) (hl:l.length≤1000000000)
  (has:av=[.sl 2 (l.map equD) none,.fn g caps])
  (hg:∀ s∈l,∀ (KP:D→Prop) (KW:D→List Ob→Prop),KW (.bool (p s)) L→CallS Tryz.prog g (equD s::caps) L KP KW)
  (hK:KW (.bool (l.any p)) L):CallS Tryz.prog n_slices_ContainsFunc_api_Equ_api_Equ av L KP KW:=by
 subst has
 refine call_inline tabOk Tryz.func102 rfl (by decide) (.bool (l.any p)) L (Nat.le_refl _) (by simp [Tryz.f102]) (fun E hE=>?_) hK
 have hE0:E.L.length=L.length:=by rw [hE]
 refine vcOk _ ?_
 (all_goals refine qgo (Lf.mk ?_))
 refine idx_equs g caps p l hl rfl hg ?_
 (all_goals refine qgo (Lf.mk ?_))
 exact end_eq (congrArg D.bool (any_pos p l 0)) rfl
attribute [local irreducible] Lib.itoa OExpr.kids OExpr.kind OExpr.n OExpr.name allA evalE exprD idxV nodes oneA pRes regI slotV takeA withV
def bCk (q:List OEqu) (b:Bld):List D:=[.sl 2 (q.map equD) none,.osl 13 1 b.items.length 0 b.items.length,.osl 2 2 b.syms.length 0 b.syms.length,.sl 1 (b.marks.map (.int .i64)) (some 3),
 .osl 1 4 (b.shut.length+1) 0 (b.shut.length+1),.int .i64 b.shut.length,.nilsl,.nilsl,.nilsl,.int .i64 b.fe,.int .i64 b.fa]
def bOk (k:Nat) (q:List OEqu) (b:Bld) (X:List Ob):List Ob:=
 [.cells (bCk q b),.arr 13 (b.items.map itemD),.arr 2 (b.syms.map symD),.spare b.marks.length,.arr 1 (b.shut.map shutD++[.sl 2 (b.cur.map valD) (some k)]),.dead]++X++[.spare b.cur.length]
theorem bC_cl5 (q:List OEqu) (b:Bld):ClL 5 (bC q b):=
 .cons .sl (.cons (.osl (by decide)) (.cons (.osl (by decide)) (.cons (.tok (by decide)) (.cons (.osl (by decide)) (.cons .int (.cons .nilsl (.cons .nilsl (.cons .nilsl (.cons .int (.cons .int .nil))))))))))
theorem pools_ren {m:Nat→Option Nat} {k k':Nat} (hm:m k=some k') (a:List (List OVal)) (c:List OVal):ObRen m (.arr 1 (a.map shutD++[.sl 2 (c.map valD) (some k)])) (.arr 1 (a.map shutD++[.sl 2 (c.map valD) (some k')])):=by
 refine ⟨_,rfl,by simp,fun i d d' h1 h2=>?_⟩
 rcases Nat.lt_or_ge i (a.map shutD).length with h | h
 ·rw [List.getElem?_append_left h] at h1 h2
  rw [h1] at h2
  cases h2
  obtain ⟨l,_,rfl⟩:=List.mem_map.1 (List.mem_of_getElem? h1)
  exact ⟨rfl,ClL.ren (n:=0) (.cons .sl .nil) fun k hk=>absurd hk (Nat.not_lt_zero _)⟩
 ·rw [List.getElem?_append_right h] at h1 h2
  cases hi:i - (a.map shutD).length with
  | zero=>
   rw [hi] at h1 h2
   cases h1
   cases h2
   refine ⟨rfl,rfl,fun i d d' g1 g2=>?_⟩
   cases i with
   | zero=>
    cases g1
    cases g2
    have:renK m (.sl 2 (c.map valD) (some k)) (fun d'=>d'= .sl 2 (c.map valD) (some k')):=by
     show renSl m 2 (c.map valD) (some k) (renLK m (c.map valD)) (fun d'=>d'= .sl 2 (c.map valD) (some k'))
     unfold renSl
     simp [hm]
    obtain ⟨d',h3,rfl⟩:=renK_eq this
    exact h3
   | succ i=>cases g1
  | succ j=>rw [hi] at h1;simp at h1
theorem call_put7 {av:List D} {KP:D→Prop} {KW:D→List Ob→Prop} {L:List Ob} (q:List OEqu) (items:List AItem) (syms:List OSym) (marks:List Int) (shut:List (List OVal)) (cur:List OVal) (fe fa:Int) (x:AItem) (B:Ob) (hl:items.length≤1000000)
  (hL:L=bOk 7 q ⟨items,syms,marks,shut,true,cur,fe,fa⟩ [B]) (has:LeL av [.loc 0 0,itemD x]) (hK:KW (.tup []) (bOk 7 q ⟨items++[x],syms,marks,shut,true,cur,fe,fa⟩ [B])):CallS Tryz.prog n_asm_builder_put av L KP KW:=by
 refine call_le has ?_
 subst hL
 have hp:(poolsD ⟨items,syms,marks,shut,true,cur,fe,fa⟩).length=shut.length+1:=by unfold poolsD;simp
 have hk:bCk q ⟨items,syms,marks,shut,true,cur,fe,fa⟩=bC q ⟨items,syms,marks,shut,true,cur,fe,fa⟩:=by unfold bCk bC;rw [hp]
 have hk':bCk q ⟨items++[x],syms,marks,shut,true,cur,fe,fa⟩=bC q ⟨items++[x],syms,marks,shut,true,cur,fe,fa⟩:=by unfold bCk bC;rw [show (poolsD ⟨items++[x],syms,marks,shut,true,cur,fe,fa⟩).length=shut.length+1 from hp]
 refine call_mk (.tup []) _ (fun w ρ vs hf hr=>?_) aput_meets.can hK
 have key:∀ k,k < 5→keepAt [0,1,2,3,4,7] 0 k=some k:=by decide
 have key':∀ k,k < 5→nthO [0,1,2,3,4,7] k=some k:=by decide
 refine frame_call aput_meets (ks:=[0,1,2,3,4,7]) (js:=[0,1,2,3,4,7]) (as1:=[.loc 0 0,itemD x]) (L1:=bO q ⟨items,syms,marks,shut,true,cur,fe,fa⟩) (d1:=.tup []) (d:=.tup []) (L:=bOk 7 q ⟨items,syms,marks,shut,true,cur,fe,fa⟩ [B]) (L':=bOk 7 q ⟨items++[x],syms,marks,shut,true,cur,fe,fa⟩ [B]) (L1':=bO q ⟨items++[x],syms,marks,shut,true,cur,fe,fa⟩)
  rfl (by intro k hk;show k < 8;revert k;decide) (fun _ _=>rfl) (fun i j h=>by simp at h) ?_ rfl (fun i o' ho=>?_) ⟨(⟨items,syms,marks,shut,true,cur,fe,fa⟩,x,q),hl,LeL.refl _,rfl,rfl,rfl⟩ ?_ (Nat.le_refl 6) rfl (fun k hk hn=>?_) (fun i k hi=>?_) (fun i o ho=>?_) hf hr
 ·exact ClL.ren (n:=1) (.cons (.loc (by decide)) (.cons (itemD_cl x) .nil)) fun k hk=>key k (by omega)
 ·match i,ho with
  | 0,ho=>cases ho;exact ⟨0,_,rfl,rfl,by rw [hk];exact ClO.cells (bC_cl5 _ _) _ key⟩
  | 1,ho=>cases ho;exact ⟨1,_,rfl,rfl,ClO.arr (items_cl _) _ key⟩
  | 2,ho=>cases ho;exact ⟨2,_,rfl,rfl,ClO.arr (syms_cl _) _ key⟩
  | 3,ho=>cases ho;exact ⟨3,_,rfl,rfl,rfl⟩
  | 4,ho=>cases ho;exact ⟨4,_,rfl,rfl,pools_ren (k:=7) (k':=5) (m:=keepAt [0,1,2,3,4,7] 0) rfl shut cur⟩
  | 5,ho=>cases ho;exact ⟨7,_,rfl,rfl,rfl⟩
  | i+6,ho=>simp [bO,bT] at ho
 ·exact ClD.tup0 _ key'
 ·match k,hk,hn with
  | 0,_,hn=>exact absurd (by decide) hn
  | 1,_,hn=>exact absurd (by decide) hn
  | 2,_,hn=>exact absurd (by decide) hn
  | 3,_,hn=>exact absurd (by decide) hn
  | 4,_,hn=>exact absurd (by decide) hn
  | 5,_,_=>rfl
  | 6,_,_=>rfl
  | 7,_,hn=>exact absurd (by decide) hn
  | k+8,hk,_=>exact absurd hk (by simp [bOk])
 ·match i,hi with
  | 0,hi=>cases hi;exact ⟨_,_,rfl,rfl,by rw [hk'];exact ClO.cells (bC_cl5 _ _) _ key'⟩
  | 1,hi=>cases hi;exact ⟨_,_,rfl,rfl,ClO.arr (items_cl _) _ key'⟩
  | 2,hi=>cases hi;exact ⟨_,_,rfl,rfl,ClO.arr (syms_cl _) _ key'⟩
  | 3,hi=>cases hi;exact ⟨_,_,rfl,rfl,rfl⟩
  | 4,hi=>cases hi;exact ⟨_,_,rfl,rfl,pools_ren (k:=5) (k':=7) (m:=nthO [0,1,2,3,4,7]) rfl shut cur⟩
  | 5,hi=>cases hi;exact ⟨_,_,rfl,rfl,rfl⟩
  | i+6,hi=>simp at hi
 ·simp [bO,bT] at ho
theorem alit_new:Meets Tryz.prog n_asm_builder_literal (SpecF (fun ((b,_,_,_,_):Bld×OVal×Int×Int×List OEqu)=>b.has=false∧b.cur=[]∧b.items.length≤1000000∧b.shut.length≤1000000) (fun (_,v,reg,line,_)=>[.loc 0 0,valD v,.int .i64 reg,.int .i64 line])
  (fun (b,_,_,_,q)=>bO q b) (fun _=>.tup []) fun (b,v,reg,line,q)=>bOk 6 q (litB b v reg line) []):=by
 refine meets_f tabOk Tryz.func114 rfl (by decide) ?_
 rintro ⟨⟨items,syms,marks,shut,has,cur,fe,fa⟩,v,reg,line,q⟩ ⟨hh,hcu,hl,hp⟩
 have hh:has=false:=hh
 subst hh
 have hcu:cur=[]:=hcu
 subst hcu
 have hl:items.length≤1000000:=hl
 have hp:shut.length≤1000000:=hp
 have hlen:(poolsD ⟨items,syms,marks,shut,false,[],fe,fa⟩).length=shut.length:=by unfold poolsD;simp
 refine ⟨by show 6≤7;decide,by simp [Tryz.f114],fun E hE=>?_⟩
 refine vcOk _ ?_
 (all_goals refine qgp ?_<;>(repeat' first | exact trivial | intro hc | refine And.intro ?_ ?_)<;>refine Lf.mk ?_)
 have hget:(poolsD ⟨items,syms,marks,shut,false,[],fe,fa⟩++[.nilsl])[shut.length]?=some .nilsl:=by
  show (shut.map shutD++[D.nilsl])[shut.length]?=_
  simp
 refine ix_rfl (d:=.nilsl) (Int.natCast_nonneg _) (by simpa using hget) ?_
 (all_goals refine qgp (Lf.mk ?_))
 refine call_p aindex_meets ([],v) (by show (0:Nat)≤_;decide) (VS.mk (.cons (.nil 2) (LeL.refl _))) ?_
 have hidx:idxV v [] 0= -1:=by rw [idxV]
 have s1:slotV v []=0:=by unfold slotV;rw [hidx];rfl
 have s2:withV v []=[v]:=by unfold withV;rw [hidx];rfl
 dsimp only
 rw [hidx]
 (all_goals refine qgk ?_<;>(repeat' first | exact trivial | intro hc | refine And.intro ?_ ?_)<;>refine Lf.mk ?_)
 ·refine ix_rfl (d:=.nilsl) (Int.natCast_nonneg _) (by simpa using hget) ?_
  (all_goals refine qgk (Lf.mk ?_))
  refine ix_rfl (d:=.nilsl) (Int.natCast_nonneg _) (by simpa using hget) ?_
  (all_goals refine qgk (Lf.mk ?_))
  refine norm_eq ([v].map valD) rfl ?_
  (all_goals refine qgk (Lf.mk ?_))
  refine ix_rfl (d:=.nilsl) (Int.natCast_nonneg _) (by simpa using hget) ?_
  (all_goals refine qgp (Lf.mk ?_))
  have hset:(poolsD ⟨items,syms,marks,shut,false,[],fe,fa⟩++[D.nilsl]).set (0+((shut.length:Nat):Int).toNat) (.sl 2 ([v].map valD) (some 7))=shut.map shutD++[.sl 2 ([v].map valD) (some 7)]:=by
   show (shut.map shutD++[D.nilsl]).set _ _=_
   rw [Nat.zero_add,Int.toNat_natCast,List.set_append_right _ _ (by simp)]
   simp
  have hlen2:(poolsD ⟨items,syms,marks,shut,false,[],fe,fa⟩++[D.nilsl]).length=shut.length+1:=by rw [List.length_append,hlen];rfl
  have e:∀ (P:List D) (n:Nat),P=shut.map shutD++[.sl 2 ([v].map valD) (some 7)]→n=shut.length+1→[Ob.cells [.sl 2 (q.map equD) none,.osl 13 1 items.length 0 items.length,.osl 2 2 syms.length 0 syms.length,
    .sl 1 (marks.map (.int .i64)) (some 3),.osl 1 4 n 0 n,.int .i64 shut.length,.nilsl,.nilsl,.nilsl,.int .i64 fe,.int .i64 fa],.arr 13 (items.map itemD),.arr 2 (syms.map symD),.spare marks.length,.arr 1 P,.dead,
    .cells [.str v.name,.int .i64 v.n],.spare 1]=bOk 7 q ⟨items,syms,marks,shut,true,[v],fe,fa⟩ [.cells [.str v.name,.int .i64 v.n]]:=by
   rintro _ _ rfl rfl
   rfl
  refine call_put7 q items syms marks shut [v] fe fa ⟨6,0,line,⟨24,reg,0,0⟩,false,0,noV,shut.length,0⟩ (.cells [.str v.name,.int .i64 v.n]) hl (e _ _ hset hlen2) item_le ?_
  (all_goals refine qgp (Lf.mk ?_))
  have key':∀ k,k < 5→keepAt [0,1,2,3,4,5,7] 0 k=some k:=by decide
  have hlit:litB ⟨items,syms,marks,shut,false,[],fe,fa⟩ v reg line=⟨items++[⟨6,0,line,⟨24,reg,0,0⟩,false,0,noV,shut.length,0⟩],syms,marks,shut,true,[v],fe,fa⟩:=by
   unfold litB putB
   rw [s1,s2]
  show EndS _ _ _ _ (bOk 6 q (litB ⟨items,syms,marks,shut,false,[],fe,fa⟩ v reg line) [])
  rw [hlit]
  refine end_keepO [0,1,2,3,4,5,7] rfl rfl ?_ (ClD.tup0 (n:=5) _ key')
  refine .cons (o:=.cells (bCk q ⟨items++[⟨6,0,line,⟨24,reg,0,0⟩,false,0,noV,shut.length,0⟩],syms,marks,shut,true,[v],fe,fa⟩)) rfl (ClO.cells (n:=5) ?_ _ key') (.cons (o:=.arr 13 _) rfl (ClO.arr (n:=5) (items_cl _) _ key') (.cons (o:=.arr 2 _) rfl (ClO.arr (n:=5) (syms_cl _) _ key') (.cons (o:=.spare _) rfl rfl
   (.cons (o:=.arr 1 _) rfl (pools_ren (k:=7) (k':=6) rfl _ _) (.cons (o:=.dead) rfl rfl (.cons (o:=.spare _) rfl rfl .nil))))))
  exact .cons .sl (.cons (.osl (by decide)) (.cons (.osl (by decide)) (.cons (.tok (by decide)) (.cons (.osl (by decide)) (.cons .int (.cons .nilsl (.cons .nilsl (.cons .nilsl (.cons .int (.cons .int .nil))))))))))
 ·exact absurd (by decide) hc
theorem sgs_step {l:List AOp} {k:Nat} {o:AOp} (h:l[k]?=some o):sgsA (l.take (k+1))=sgsA (l.take k)++sgA o:=by
 unfold sgsA
 rw [List.take_add_one,h]
 simp
theorem sg_one {o:AOp} (h:o.sign.length≤1):(sgA o).length=1:=by
 unfold sgA
 split
 ·rfl
 ·rename_i hn
  cases hs:o.sign with
  | nil=>exact absurd hs hn
  | cons c r=>rw [hs] at h;simp at h ⊢;exact h
theorem sgs_len:∀ {l:List AOp},(∀ o∈l,o.sign.length≤1)→(sgsA l).length=l.length
 | [],_=>rfl
 | o::l,h=>by
  have h1:=sg_one (h o List.mem_cons_self)
  have h2:=sgs_len (l:=l) fun x hx=>h x (List.mem_cons_of_mem _ hx)
  unfold sgsA at h2 ⊢
  rw [List.map_cons,List.flatten_cons,List.length_append,h1,h2,List.length_cons]
  omega
theorem shapes_meets:Meets Tryz.prog n_asm_shapes (SpecP (fun l:List AOp=>l.length≤1000000∧∀ o∈l,o.sign.length≤1) (fun l=>[.sl 4 (l.map aopD) none]) fun l=>.sl 1 ((shapesT (sgsA l)).map (.int .i64)) none):=by
 refine meets_f tabOk Tryz.func115 rfl (by decide) ?_
 rintro l ⟨hl,hs⟩
 refine ⟨Nat.le_refl _,by simp [Tryz.f115],fun E hE=>?_⟩
 refine vcOk _ ?_
 (all_goals refine qgo (Lf.mk ?_))
 refine awp_loop (α:=Nat) (fun k=>k≤l.length) (fun k=>[(6,.sl 4 (l.map aopD) none),(7,.int .i64 l.length),(8,.int .i64 k),(3,.str (sgsA (l.take k)))]) (fun _=>[]) (fun k=>l.length - k) (fun _=>by simp [hE]) 0 (Nat.zero_le _) ?_ ?_
 ·(repeat' (first | (refine VS.mk ?_) | exact trivial | exact rfl | refine And.intro ?_ ?_))
 rintro k hk
 have hk:k≤l.length:=hk
 have hlen:(sgsA (l.take k)).length≤1000000:=by
  rw [sgs_len fun o ho=>hs o (List.mem_of_mem_take ho),List.length_take];omega
 refine vcOk _ ?_
 (all_goals refine qgo ?_<;>(repeat' first | exact trivial | intro hc | refine And.intro ?_ ?_)<;>refine Lf.mk ?_)
 ·obtain ⟨o,ho⟩:=at_of_lt (l:=l) (k:=k) (by omega)
  have hstep:=sgs_step ho
  have hs1:=hs o (List.mem_of_getElem? ho)
  refine ix_map o (by omega) (by simpa using ho) ?_
  (all_goals refine qgo ?_<;>(repeat' first | exact trivial | intro hc | refine And.intro ?_ ?_)<;>refine Lf.mk ?_)
  ·refine cat_mk (by simp only [List.length_cons,List.length_nil];omega) ?_
   (all_goals refine qgo (Lf.mk ?_))
   refine loop_end (k+1) (by show k+1≤_;omega) (by omega) ?_
   rw [hstep,show sgA o=[112] by unfold sgA;rw [if_pos hc]]
   (repeat' (first | (refine VS.mk ?_) | exact trivial | exact rfl | refine And.intro ?_ ?_))
  ·refine cat_mk (by omega) ?_
   (all_goals refine qgo (Lf.mk ?_))
   refine loop_end (k+1) (by show k+1≤_;omega) (by omega) ?_
   rw [hstep,show sgA o=o.sign by unfold sgA;rw [if_neg hc]]
   (repeat' (first | (refine VS.mk ?_) | exact trivial | exact rfl | refine And.intro ?_ ?_))
 all_goals
  have hk2:k=l.length:=by omega
  clear hlen
  subst hk2
  simp only [List.take_length] at *
  refine end_p (VS.mk ?_)
  unfold shapesT
  (repeat (first | (rw [if_pos (by assumption)]) | (rw [if_neg (by assumption)])))
  first
   | exact LeD.of_eq rfl
   | exact LeD.nil 1
def outO (q:List OEqu) (b b':Bld):List Ob:=if b.has=false∧b'.has=true then bOk 6 q b' [] else bO q b'
theorem outO_len (q:List OEqu) (b b':Bld):6≤(outO q b b').length:=by
 unfold outO
 split
 ·exact Nat.le_succ 6
 ·exact Nat.le_refl 6
theorem outO_same {q:List OEqu} {b b':Bld} (h:b'.has=b.has):outO q b b'=bO q b':=by
 unfold outO
 rw [if_neg fun e=>by rw [h,e.1] at e;exact absurd e.2 (by decide)]
theorem outO_old {q:List OEqu} {b b':Bld} (h:b.has=true):outO q b b'=bO q b':=by
 unfold outO
 rw [if_neg fun e=>by rw [h] at e;exact absurd e.1 (by decide)]
theorem outO_new {q:List OEqu} {b b':Bld} (h:b.has=false) (h':b'.has=true):outO q b b'=bOk 6 q b' []:=by
 unfold outO
 rw [if_pos ⟨h,h'⟩]
theorem failB_has (b:Bld) (e line:Int):(failB b e line).has=b.has:=by unfold failB;split<;>rfl
structure InB (b:Bld):Prop where
 cur:b.has=false→b.cur=[]
 items:b.items.length≤1000000
 shut:b.shut.length≤1000000
 curl:b.cur.length≤1000000
theorem alit_meets:Meets Tryz.prog n_asm_builder_literal (SpecF (fun ((b,_,_,_,_):Bld×OVal×Int×Int×List OEqu)=>InB b) (fun (_,v,reg,line,_)=>[.loc 0 0,valD v,.int .i64 reg,.int .i64 line])
  (fun (b,_,_,_,q)=>bO q b) (fun _=>.tup []) fun (b,v,reg,line,q)=>outO q b (litB b v reg line)):=by
 refine meets_or alit_open alit_new ?_
 rintro av L d L' ⟨⟨b,v,reg,line,q⟩,h,h1,h2,h3,h4⟩
 cases hb:b.has with
 | true=>exact .inl ⟨(b,v,reg,line,q),⟨hb,h.items,h.shut,h.curl⟩,h1,h2,h3,by rw [h4];exact outO_old hb⟩
 | false=>exact .inr ⟨(b,v,reg,line,q),⟨hb,h.cur hb,h.items,h.shut⟩,h1,h2,h3,by rw [h4];exact outO_new hb rfl⟩
theorem pick_in (name:List UInt8):∀ (L:List Int) (p:Int×Int),pickS name L p=p∨(pickS name L p).2∈L
 | [],p=>.inl rfl
 | s::L,p=>by
  rw [pickS]
  rcases pick_in name L (if 0 < findI name s then (findI name s,s) else p) with h | h
  ·rw [h]
   split
   ·exact .inr List.mem_cons_self
   ·exact .inl rfl
  ·exact .inr (List.mem_cons_of_mem _ h)
theorem shapes_of (s:List UInt8):∀ x∈shapesT s,(x=0∧s.length=0)∨((x=3∨x=4∨x=5∨x=6∨x=11)∧s.length=1)∨((x=1∨x=2∨x=7∨x=8∨x=9∨x=10)∧s.length=2):=by
 intro x hx
 unfold shapesT at hx
 repeat' split at hx
 all_goals first
  | (rename_i h;subst h;simp at hx;subst hx;decide)
  | (rename_i h;subst h;simp at hx;rcases hx with rfl | rfl<;>decide)
  | simp at hx
theorem pick_of {name:List UInt8} {l:List AOp} (h:∀ o∈l,o.sign.length≤1) {S:Int×Int} (hS:pickS name (shapesT (sgsA l)) (0,0)=S):(S.1=0∧S.2=0)∨(S.2=0∧l.length=0)∨((S.2=3∨S.2=4∨S.2=5∨S.2=6∨S.2=11)∧l.length=1) ∨
  ((S.2=1∨S.2=2∨S.2=7∨S.2=8∨S.2=9∨S.2=10)∧l.length=2):=by
 subst hS
 rcases pick_in name (shapesT (sgsA l)) (0,0) with h1 | h1
 ·rw [h1];exact .inl ⟨rfl,rfl⟩
 ·have:=shapes_of _ _ h1
  rw [sgs_len h] at this
  exact .inr this
theorem call_find {av:List D} {L:List Ob} {KP:D→Prop} {KW:D→List Ob→Prop} (name:List UInt8) (s:Int) (has:av=[.str name,.int .i64 s]) (hK:KP (.int .i64 (findI name s))):CallS Tryz.prog n_isa_Find av L KP KW:=by
 subst has
 exact call_p find_meets (name,s) trivial (VS.mk (LeL.of_eq rfl)) hK
attribute [local irreducible] findI wrongI
def kindsM:List (D×D):=[(.int .i64 4,.int .i64 2),(.int .i64 5,.int .i64 3)]
theorem get_kindsM_4 {s:Int} (h:s=4):getM (.int .i64 s) kindsM=some (.int .i64 2):=by subst h;rfl
theorem get_kindsM_5 {s:Int} (h:s=5):getM (.int .i64 s) kindsM=some (.int .i64 3):=by subst h;rfl
def kindsMt:List (D×D):=[(.int .i64 5,.int .i64 3),(.int .i64 4,.int .i64 2)]
theorem get_kindsMt_5 {s:Int} (h:s=5):getM (.int .i64 s) kindsMt=some (.int .i64 3):=by subst h;rfl
theorem get_kindsMt_4 {s:Int} (h:s=4):getM (.int .i64 s) kindsMt=some (.int .i64 2):=by subst h;rfl
def kindsN:List (D×D):=[(.int .i64 7,.int .i64 4),(.int .i64 8,.int .i64 5)]
theorem get_kindsN_7 {s:Int} (h:s=7):getM (.int .i64 s) kindsN=some (.int .i64 4):=by subst h;rfl
theorem get_kindsN_8 {s:Int} (h:s=8):getM (.int .i64 s) kindsN=some (.int .i64 5):=by subst h;rfl
def kindsNt:List (D×D):=[(.int .i64 8,.int .i64 5),(.int .i64 7,.int .i64 4)]
theorem get_kindsNt_8 {s:Int} (h:s=8):getM (.int .i64 s) kindsNt=some (.int .i64 5):=by subst h;rfl
theorem get_kindsNt_7 {s:Int} (h:s=7):getM (.int .i64 s) kindsNt=some (.int .i64 4):=by subst h;rfl
theorem draft1 {op sh line:Int} {l:List AOp} (h:sh=1):draftI op sh l line=⟨1,0,line,⟨op,(aop l 1).reg,0,(aop l 0).val.n⟩,false,0,(aop l 0).val,0,0⟩:=by subst h;rfl
theorem draft2 {op sh line:Int} {l:List AOp} (h:sh=2∨sh=9∨sh=10):draftI op sh l line=⟨1,0,line,⟨op,(aop l 1).reg,(aop l 0).reg,0⟩,false,0,noV,0,0⟩:=by rcases h with rfl | rfl | rfl<;>rfl
theorem draft3 {op sh line:Int} {l:List AOp} (h:sh=3∨sh=6):draftI op sh l line=⟨1,0,line,⟨op,(aop l 0).reg,0,0⟩,false,0,noV,0,0⟩:=by rcases h with rfl | rfl<;>rfl
theorem draft4 {op sh line:Int} {l:List AOp} (h:sh=4):draftI op sh l line=⟨2,0,line,⟨op,0,0,0⟩,false,0,(aop l 0).val,0,0⟩:=by subst h;rfl
theorem draft5 {op sh line:Int} {l:List AOp} (h:sh=5):draftI op sh l line=⟨3,0,line,⟨op,0,0,0⟩,false,0,(aop l 0).val,0,0⟩:=by subst h;rfl
theorem draft7 {op sh line:Int} {l:List AOp} (h:sh=7):draftI op sh l line=⟨4,0,line,⟨op,(aop l 1).reg,0,0⟩,false,0,(aop l 0).val,0,0⟩:=by subst h;rfl
theorem draft8 {op sh line:Int} {l:List AOp} (h:sh=8):draftI op sh l line=⟨5,0,line,⟨op,(aop l 1).reg,0,0⟩,false,0,(aop l 0).val,0,0⟩:=by subst h;rfl
theorem draft11 {op sh line:Int} {l:List AOp} (h:sh=11):draftI op sh l line=⟨1,0,line,⟨op,0,0,(aop l 0).val.n⟩,false,0,(aop l 0).val,0,0⟩:=by subst h;rfl
theorem draft0 {op sh line:Int} {l:List AOp} (h:sh=0):draftI op sh l line=⟨1,0,line,⟨op,0,0,0⟩,false,0,noV,0,0⟩:=by subst h;rfl
theorem shapes_two (s:List UInt8):(shapesT s).length≤2:=by
 unfold shapesT
 repeat' split
 all_goals decide
theorem instr_meets:Meets Tryz.prog n_asm_builder_instr (SpecF (fun ((b,_,l,_,_):Bld×List UInt8×List AOp×Int×List OEqu)=>InB b∧l.length≤1000000∧∀ o∈l,o.sign.length≤1) (fun (_,name,l,line,_)=>[.loc 0 0,.str name,.sl 4 (l.map aopD) none,.int .i64 line])
  (fun (b,_,_,_,q)=>bO q b) (fun _=>.tup []) fun (b,name,l,line,q)=>outO q b (instrB b name l line)):=by
 refine meets_f tabOk Tryz.func68 rfl (by decide) ?_
 rintro ⟨b,name,l,line,q⟩ ⟨hb,hl,hs⟩
 have hl:l.length≤1000000:=hl
 have hs:∀ o∈l,o.sign.length≤1:=hs
 refine ⟨outO_len _ _ _,by simp [Tryz.f68],fun E hE=>?_⟩
 have hE6:E.L.length=6:=by rw [hE];rfl
 have hget:∀ k:Nat,k < l.length→l[k]?=some (aop l k):=fun k hk=>by unfold aop;rw [List.getElem?_eq_getElem hk];rfl
 refine awp_cut (α:=Unit) (fun _=>¬ (name=[109,111,118,46,108]∧l.length=2∧(aop l 0).sign=[61]∧(aop l 1).sign=[114]))
  (fun _=>[(0,.loc 0 0),(1,.str name),(2,.sl 4 (l.map aopD) none),(3,.int .i64 line)]) (fun _=>bO q b) ?_ ?_
 ·refine vcOk _ ?_
  (all_goals refine qgp ?_<;>(repeat' first | exact trivial | intro hc | refine And.intro ?_ ?_)<;>refine Lf.mk ?_)
  ·refine ix_map (aop l 0) (by decide) (hget 0 (by omega)) ?_
   (all_goals refine qgp ?_<;>(repeat' first | exact trivial | intro hc | refine And.intro ?_ ?_)<;>refine Lf.mk ?_)
   ·refine ix_map (aop l 1) (by decide) (hget 1 (by omega)) ?_
    (all_goals refine qgp ?_<;>(repeat' first | exact trivial | intro hc | refine And.intro ?_ ?_)<;>refine Lf.mk ?_)
    ·refine ix_map (aop l 0) (by decide) (hget 0 (by omega)) ?_
     (all_goals refine qgp (Lf.mk ?_))
     refine ix_map (aop l 1) (by decide) (hget 1 (by omega)) ?_
     (all_goals refine qgp (Lf.mk ?_))
     refine call_all alit_meets (b,(aop l 0).val,(aop l 1).reg,line,q) hb rfl (LeL.refl _) ?_
     (all_goals refine qgp (Lf.mk ?_))
     refine end_eq rfl ?_
     show outO q b _=outO q b (instrB b name l line)
     unfold instrB
     rw [if_pos ⟨by assumption,by omega,by assumption,by assumption⟩]
    ·exact ⟨(),fun h=>absurd h.2.2.2 hc,weak_same rfl ⟨rfl,rfl,rfl,rfl,trivial⟩⟩
   ·exact ⟨(),fun h=>absurd h.2.2.1 hc,weak_same rfl ⟨rfl,rfl,rfl,rfl,trivial⟩⟩
  ·exact ⟨(),fun h=>by have:=h.2.1;omega,weak_same rfl ⟨rfl,rfl,rfl,rfl,trivial⟩⟩
  ·exact ⟨(),fun h=>absurd h.1 hc,weak_same rfl ⟨rfl,rfl,rfl,rfl,trivial⟩⟩
 ·rintro _ hM
  have hgo:instrB b name l line=if (pickS name (shapesT (sgsA l)) (0,0)).1=0 then failB b 1 line else if ((pickS name (shapesT (sgsA l)) (0,0)).2=1∨(pickS name (shapesT (sgsA l)) (0,0)).2=11)∧(aop l 0).val.name≠[] then failB b 8 line
    else if wrongI (draftI (pickS name (shapesT (sgsA l)) (0,0)).1 (pickS name (shapesT (sgsA l)) (0,0)).2 l line).ins=0 then putB b (draftI (pickS name (shapesT (sgsA l)) (0,0)).1 (pickS name (shapesT (sgsA l)) (0,0)).2 l line)
    else failB b (wrongI (draftI (pickS name (shapesT (sgsA l)) (0,0)).1 (pickS name (shapesT (sgsA l)) (0,0)).2 l line).ins) line:=by
   unfold instrB
   rw [if_neg hM]
  have hB:outO q b (instrB b name l line)=bO q (instrB b name l line):=by
   refine outO_same ?_
   rw [hgo]
   repeat' split
   all_goals first | rw [failB_has] | rfl
  show AWP _ _ _ _ (FinQ _ _ _ _ (outO q b (instrB b name l line))) _ _
  rw [hB]
  generalize instrB b name l line=B at *
  refine vcOk _ ?_
  (all_goals refine qgp (Lf.mk ?_))
  refine call_p shapes_meets l ⟨hl,hs⟩ (VS.mk (LeL.of_eq rfl)) ?_
  have hlen:=sgs_len hs
  have hS0:=pick_of hs (name:=name) rfl
  have hTl:=shapes_two (sgsA l)
  generalize hS:pickS name (shapesT (sgsA l)) (0,0)=S at *
  generalize hT:shapesT (sgsA l)=T at *
  (all_goals refine qgp (Lf.mk ?_))
  refine awp_loopW (α:=Nat×Int×Int) (fun p=>p.1≤T.length∧pickS name (T.drop p.1) p.2=S) (fun p=>[(48,.sl 1 (T.map (.int .i64)) none),(49,.int .i64 T.length),(50,.int .i64 p.1),(8,.int .i64 p.2.1),(9,.int .i64 p.2.2),(0,.loc 0 0),(1,.str name),(2,.sl 4 (l.map aopD) none),(3,.int .i64 line)])
   (fun _=>bO q b) (fun p=>T.length - p.1) (fun _=>by rw [hE6];exact Nat.le_refl 6) (0,0,0) ⟨Nat.zero_le _,hS⟩ ?_ ?_
  ·exact weak_same rfl ⟨rfl,rfl,rfl,rfl,rfl,rfl,rfl,rfl,rfl,trivial⟩
  rintro ⟨k,o,sh⟩ ⟨hk,hp⟩
  dsimp only at hk hp ⊢
  refine vcOk _ ?_
  (all_goals refine qgpn ?_<;>(repeat' first | exact trivial | intro hc | refine And.intro ?_ ?_)<;>refine Lf.mk ?_)
  ·obtain ⟨x,hx⟩:=at_of_lt (l:=T) (k:=k) (by omega)
   have hkl:k < T.length:=by omega
   have hgx:T[k]=x:=by rw [List.getElem?_eq_getElem hkl] at hx;exact Option.some.inj hx
   rw [List.drop_eq_getElem_cons hkl,hgx,pickS] at hp
   refine ix_map x (by omega) (by simpa using hx) ?_
   (all_goals refine qgp (Lf.mk ?_))
   refine call_find name x rfl ?_
   (all_goals refine qgp ?_<;>(repeat' first | exact trivial | intro hc | refine And.intro ?_ ?_)<;>refine Lf.mk ?_)
   ·rw [if_pos (by omega)] at hp
    exact loop_same (k+1,findI name x,x) ⟨by show k+1≤_;omega,hp⟩ (by dsimp only;omega) rfl ⟨rfl,rfl,rfl,rfl,rfl,rfl,rfl,rfl,rfl,trivial⟩
   ·rw [if_neg (by omega)] at hp
    exact loop_same (k+1,o,sh) ⟨by show k+1≤_;omega,hp⟩ (by dsimp only;omega) rfl ⟨rfl,rfl,rfl,rfl,rfl,rfl,rfl,rfl,rfl,trivial⟩
  all_goals
   have hk2:k=T.length:=by omega
   rw [hk2,List.drop_length,pickS] at hp
   obtain ⟨rfl,rfl⟩:o=S.1∧sh=S.2:=by rw [← hp];exact ⟨rfl,rfl⟩
  all_goals first
   | (have hS4 : S.2 = 4 ∨ S.2 = 5 := by omega
      refine dr_awp ?_;refine draw_two tabOk mixed 1 2 [0,2,1,3,4,5,6,7,8,9,10,11,12,13] [0,2,1,3,4,5,6,7,8,9,10,11,12,13] rfl rfl rfl ?_ ?_)
   | (have hS7 : S.2 = 7 ∨ S.2 = 8 := by omega
      refine dr_awp ?_;refine draw_two tabOk mixed 1 2 [0,2,1,3,4,5,6,7,8,9,10,11,12,13,14,15,16,17,18,19,20] [0,2,1,3,4,5,6,7,8,9,10,11,12,13,14,15,16,17,18,19,20] rfl rfl rfl ?_ ?_)
   | (refine dr_mk ?_)
   | skip
  all_goals (try (all_goals refine qgo (Lf.mk ?_)))
  all_goals (try (refine norm_m (show _=[(D.int .i64 4,D.int .i64 2)] from rfl) ?_;(all_goals refine qgo (Lf.mk ?_));refine norm_m (show _=kindsM from rfl) ?_;(all_goals refine qgo (Lf.mk ?_));first | (refine lk_some (get_kindsM_4 (show S.2=4 by omega)) ?_) | (refine lk_some (get_kindsM_5 (show S.2=5 by omega)) ?_)))
  all_goals (try (refine norm_m (show _=[(D.int .i64 5,D.int .i64 3)] from rfl) ?_;(all_goals refine qgo (Lf.mk ?_));refine norm_m (show _=kindsMt from rfl) ?_;(all_goals refine qgo (Lf.mk ?_));first | (refine lk_some (get_kindsMt_5 (show S.2=5 by omega)) ?_) | (refine lk_some (get_kindsMt_4 (show S.2=4 by omega)) ?_)))
  all_goals (try (refine norm_m (show _=[(D.int .i64 7,D.int .i64 4)] from rfl) ?_;(all_goals refine qgo (Lf.mk ?_));refine norm_m (show _=kindsN from rfl) ?_;(all_goals refine qgo (Lf.mk ?_));first | (refine lk_some (get_kindsN_7 (show S.2=7 by omega)) ?_) | (refine lk_some (get_kindsN_8 (show S.2=8 by omega)) ?_)))
  all_goals (try (refine norm_m (show _=[(D.int .i64 8,D.int .i64 5)] from rfl) ?_;(all_goals refine qgo (Lf.mk ?_));refine norm_m (show _=kindsNt from rfl) ?_;(all_goals refine qgo (Lf.mk ?_));first | (refine lk_some (get_kindsNt_8 (show S.2=8 by omega)) ?_) | (refine lk_some (get_kindsNt_7 (show S.2=7 by omega)) ?_)))
  all_goals (try (all_goals refine qgo (Lf.mk ?_)))
  all_goals (try (refine ix_map (aop l 0) (by decide) (hget 0 (by omega)) ?_;(all_goals refine qgo ?_<;>(repeat' first | exact trivial | intro hc | refine And.intro ?_ ?_)<;>refine Lf.mk ?_)))
  all_goals (try (exfalso;first | omega | exact absurd trivial (by assumption)))
  all_goals (try (refine ix_map (aop l 1) (by decide) (hget 1 (by omega)) ?_;(all_goals refine qgo ?_<;>(repeat' first | exact trivial | intro hc | refine And.intro ?_ ?_)<;>refine Lf.mk ?_)))
  all_goals (try (exfalso;first | omega | exact absurd trivial (by assumption)))
  all_goals (try (refine ix_map (aop l 0) (by decide) (hget 0 (by omega)) ?_;(all_goals refine qgo ?_<;>(repeat' first | exact trivial | intro hc | refine And.intro ?_ ?_)<;>refine Lf.mk ?_)))
  all_goals (try (exfalso;first | omega | exact absurd trivial (by assumption)))
  all_goals (try (refine ix_map (aop l 1) (by decide) (hget 1 (by omega)) ?_;(all_goals refine qgo ?_<;>(repeat' first | exact trivial | intro hc | refine And.intro ?_ ?_)<;>refine Lf.mk ?_)))
  all_goals (try (exfalso;first | omega | exact absurd trivial (by assumption)))
  all_goals (try (refine call_fail q b 1 line [] rfl rfl ?_;(all_goals refine qgp (Lf.mk ?_));exact end_bO [] rfl (by rw [hgo,if_pos (by assumption)]) rfl (Nat.le_of_eq rfl) .tup0))
  all_goals first
   | (have hd:=draft1 (op:=S.1) (line:=line) (l:=l) (show S.2=1 by omega);rw [hd] at hgo;clear hd;rw [if_neg (by omega)] at hgo)
   | (have hd:=draft2 (op:=S.1) (line:=line) (l:=l) (show S.2=2∨S.2=9∨S.2=10 by omega);rw [hd] at hgo;clear hd;rw [if_neg (by omega)] at hgo)
   | (have hd:=draft3 (op:=S.1) (line:=line) (l:=l) (show S.2=3∨S.2=6 by omega);rw [hd] at hgo;clear hd;rw [if_neg (by omega)] at hgo)
   | (have hd:=draft4 (op:=S.1) (line:=line) (l:=l) (show S.2=4 by omega);rw [hd] at hgo;clear hd;rw [if_neg (by omega)] at hgo)
   | (have hd:=draft5 (op:=S.1) (line:=line) (l:=l) (show S.2=5 by omega);rw [hd] at hgo;clear hd;rw [if_neg (by omega)] at hgo)
   | (have hd:=draft7 (op:=S.1) (line:=line) (l:=l) (show S.2=7 by omega);rw [hd] at hgo;clear hd;rw [if_neg (by omega)] at hgo)
   | (have hd:=draft8 (op:=S.1) (line:=line) (l:=l) (show S.2=8 by omega);rw [hd] at hgo;clear hd;rw [if_neg (by omega)] at hgo)
   | (have hd:=draft11 (op:=S.1) (line:=line) (l:=l) (show S.2=11 by omega);rw [hd] at hgo;clear hd;rw [if_neg (by omega)] at hgo)
   | (have hd:=draft0 (op:=S.1) (line:=line) (l:=l) (show S.2=0 by omega);rw [hd] at hgo;clear hd;rw [if_neg (by omega)] at hgo)
  all_goals (try (refine call_fail q b 8 line [_] rfl rfl ?_;(all_goals refine qgp (Lf.mk ?_));exact end_bO [_] rfl (by rw [hgo,if_pos ⟨by omega,by assumption⟩]) rfl (Nat.le_of_eq rfl) .tup0))
  all_goals rw [if_neg (fun h=>by first | exact absurd (by assumption) h.2 | omega)] at hgo
  all_goals first
   | (refine call_p iwrong_meets ⟨S.1,(aop l 1).reg,0,(aop l 0).val.n⟩ trivial (VS.mk (LeL.of_eq rfl)) ?_)
   | (refine call_p iwrong_meets ⟨S.1,(aop l 1).reg,(aop l 0).reg,0⟩ trivial (VS.mk (LeL.of_eq rfl)) ?_)
   | (refine call_p iwrong_meets ⟨S.1,(aop l 0).reg,0,0⟩ trivial (VS.mk (LeL.of_eq rfl)) ?_)
   | (refine call_p iwrong_meets ⟨S.1,0,0,0⟩ trivial (VS.mk (LeL.of_eq rfl)) ?_)
   | (refine call_p iwrong_meets ⟨S.1,(aop l 1).reg,0,0⟩ trivial (VS.mk (LeL.of_eq rfl)) ?_)
   | (refine call_p iwrong_meets ⟨S.1,0,0,(aop l 0).val.n⟩ trivial (VS.mk (LeL.of_eq rfl)) ?_)
  all_goals (all_goals refine qgp ?_<;>(repeat' first | exact trivial | intro hc | refine And.intro ?_ ?_)<;>refine Lf.mk ?_)
  all_goals first
   | (refine call_fail q b _ line [_] rfl rfl ?_;(all_goals refine qgp (Lf.mk ?_));exact end_bO [_] rfl (by rw [hgo,if_neg (by assumption)]) rfl (Nat.le_of_eq rfl) .tup0)
   | (refine call_put q b ⟨1,0,line,⟨S.1,(aop l 1).reg,0,(aop l 0).val.n⟩,false,0,(aop l 0).val,0,0⟩ [_] hb.items rfl item_le ?_;(all_goals refine qgp (Lf.mk ?_));exact end_bO [_] rfl (by rw [hgo,if_pos (by assumption)]) rfl (Nat.le_of_eq rfl) .tup0)
   | (refine call_put q b ⟨1,0,line,⟨S.1,(aop l 1).reg,(aop l 0).reg,0⟩,false,0,noV,0,0⟩ [_] hb.items rfl item_le ?_;(all_goals refine qgp (Lf.mk ?_));exact end_bO [_] rfl (by rw [hgo,if_pos (by assumption)]) rfl (Nat.le_of_eq rfl) .tup0)
   | (refine call_put q b ⟨1,0,line,⟨S.1,(aop l 0).reg,0,0⟩,false,0,noV,0,0⟩ [_] hb.items rfl item_le ?_;(all_goals refine qgp (Lf.mk ?_));exact end_bO [_] rfl (by rw [hgo,if_pos (by assumption)]) rfl (Nat.le_of_eq rfl) .tup0)
   | (refine call_put q b ⟨2,0,line,⟨S.1,0,0,0⟩,false,0,(aop l 0).val,0,0⟩ [_] hb.items rfl item_le ?_;(all_goals refine qgp ?_<;>(repeat' first | exact trivial | intro hc | refine And.intro ?_ ?_)<;>refine Lf.mk ?_);exact end_bO [_] rfl (by rw [hgo,if_pos (by assumption)]) rfl (Nat.le_of_eq rfl) .tup0)
   | (refine call_put q b ⟨3,0,line,⟨S.1,0,0,0⟩,false,0,(aop l 0).val,0,0⟩ [_] hb.items rfl item_le ?_;(all_goals refine qgp ?_<;>(repeat' first | exact trivial | intro hc | refine And.intro ?_ ?_)<;>refine Lf.mk ?_);exact end_bO [_] rfl (by rw [hgo,if_pos (by assumption)]) rfl (Nat.le_of_eq rfl) .tup0)
   | (refine call_put q b ⟨4,0,line,⟨S.1,(aop l 1).reg,0,0⟩,false,0,(aop l 0).val,0,0⟩ [_] hb.items rfl item_le ?_;(all_goals refine qgp ?_<;>(repeat' first | exact trivial | intro hc | refine And.intro ?_ ?_)<;>refine Lf.mk ?_);exact end_bO [_] rfl (by rw [hgo,if_pos (by assumption)]) rfl (Nat.le_of_eq rfl) .tup0)
   | (refine call_put q b ⟨5,0,line,⟨S.1,(aop l 1).reg,0,0⟩,false,0,(aop l 0).val,0,0⟩ [_] hb.items rfl item_le ?_;(all_goals refine qgp ?_<;>(repeat' first | exact trivial | intro hc | refine And.intro ?_ ?_)<;>refine Lf.mk ?_);exact end_bO [_] rfl (by rw [hgo,if_pos (by assumption)]) rfl (Nat.le_of_eq rfl) .tup0)
   | (refine call_put q b ⟨1,0,line,⟨S.1,0,0,(aop l 0).val.n⟩,false,0,(aop l 0).val,0,0⟩ [_] hb.items rfl item_le ?_;(all_goals refine qgp (Lf.mk ?_));exact end_bO [_] rfl (by rw [hgo,if_pos (by assumption)]) rfl (Nat.le_of_eq rfl) .tup0)
   | (refine call_put q b ⟨1,0,line,⟨S.1,0,0,0⟩,false,0,noV,0,0⟩ [_] hb.items rfl item_le ?_;(all_goals refine qgp (Lf.mk ?_));exact end_bO [_] rfl (by rw [hgo,if_pos (by assumption)]) rfl (Nat.le_of_eq rfl) .tup0)
   | (refine call_fail q b _ line [_,_] rfl rfl ?_;(all_goals refine qgp (Lf.mk ?_));exact end_bO [_,_] rfl (by rw [hgo,if_neg (by assumption)]) rfl (Nat.le_of_eq rfl) .tup0)
   | (refine call_put q b ⟨1,0,line,⟨S.1,(aop l 1).reg,0,(aop l 0).val.n⟩,false,0,(aop l 0).val,0,0⟩ [_,_] hb.items rfl item_le ?_;(all_goals refine qgp ?_<;>(repeat' first | exact trivial | intro hc | refine And.intro ?_ ?_)<;>refine Lf.mk ?_);exact end_bO [_,_] rfl (by rw [hgo,if_pos (by assumption)]) rfl (Nat.le_of_eq rfl) .tup0)
   | (refine call_put q b ⟨1,0,line,⟨S.1,(aop l 1).reg,(aop l 0).reg,0⟩,false,0,noV,0,0⟩ [_,_] hb.items rfl item_le ?_;(all_goals refine qgp ?_<;>(repeat' first | exact trivial | intro hc | refine And.intro ?_ ?_)<;>refine Lf.mk ?_);exact end_bO [_,_] rfl (by rw [hgo,if_pos (by assumption)]) rfl (Nat.le_of_eq rfl) .tup0)
   | (refine call_put q b ⟨1,0,line,⟨S.1,(aop l 0).reg,0,0⟩,false,0,noV,0,0⟩ [_,_] hb.items rfl item_le ?_;(all_goals refine qgp ?_<;>(repeat' first | exact trivial | intro hc | refine And.intro ?_ ?_)<;>refine Lf.mk ?_);exact end_bO [_,_] rfl (by rw [hgo,if_pos (by assumption)]) rfl (Nat.le_of_eq rfl) .tup0)
   | (refine call_put q b ⟨2,0,line,⟨S.1,0,0,0⟩,false,0,(aop l 0).val,0,0⟩ [_,_] hb.items rfl item_le ?_;(all_goals refine qgp (Lf.mk ?_));exact end_bO [_,_] rfl (by rw [hgo,if_pos (by assumption)]) rfl (Nat.le_of_eq rfl) .tup0)
   | (refine call_put q b ⟨3,0,line,⟨S.1,0,0,0⟩,false,0,(aop l 0).val,0,0⟩ [_,_] hb.items rfl item_le ?_;(all_goals refine qgp (Lf.mk ?_));exact end_bO [_,_] rfl (by rw [hgo,if_pos (by assumption)]) rfl (Nat.le_of_eq rfl) .tup0)
   | (refine call_put q b ⟨4,0,line,⟨S.1,(aop l 1).reg,0,0⟩,false,0,(aop l 0).val,0,0⟩ [_,_] hb.items rfl item_le ?_;(all_goals refine qgp (Lf.mk ?_));exact end_bO [_,_] rfl (by rw [hgo,if_pos (by assumption)]) rfl (Nat.le_of_eq rfl) .tup0)
   | (refine call_put q b ⟨5,0,line,⟨S.1,(aop l 1).reg,0,0⟩,false,0,(aop l 0).val,0,0⟩ [_,_] hb.items rfl item_le ?_;(all_goals refine qgp (Lf.mk ?_));exact end_bO [_,_] rfl (by rw [hgo,if_pos (by assumption)]) rfl (Nat.le_of_eq rfl) .tup0)
   | (refine call_put q b ⟨1,0,line,⟨S.1,0,0,(aop l 0).val.n⟩,false,0,(aop l 0).val,0,0⟩ [_,_] hb.items rfl item_le ?_;(all_goals refine qgp ?_<;>(repeat' first | exact trivial | intro hc | refine And.intro ?_ ?_)<;>refine Lf.mk ?_);exact end_bO [_,_] rfl (by rw [hgo,if_pos (by assumption)]) rfl (Nat.le_of_eq rfl) .tup0)
   | (refine call_put q b ⟨1,0,line,⟨S.1,0,0,0⟩,false,0,noV,0,0⟩ [_,_] hb.items rfl item_le ?_;(all_goals refine qgp ?_<;>(repeat' first | exact trivial | intro hc | refine And.intro ?_ ?_)<;>refine Lf.mk ?_);exact end_bO [_,_] rfl (by rw [hgo,if_pos (by assumption)]) rfl (Nat.le_of_eq rfl) .tup0)
attribute [local irreducible] nameB
theorem label1_meets:Meets Tryz.prog n_asm_builder_label_1 (SpecF (fun _:OSym×LTok=>True) (fun (s,_)=>[symD s,.loc 0 0]) (fun (_,t)=>[.cells [.int .i64 t.kind,.int .i64 t.n,.str t.text]]) (fun (s,t)=>.bool (s.name==t.text))
  fun (_,t)=>[.cells [.int .i64 t.kind,.int .i64 t.n,.str t.text]]):=by
 refine meets_f tabOk Tryz.func110 rfl (by decide) ?_
 rintro ⟨s,t⟩ _
 refine ⟨Nat.le_refl _,by simp [Tryz.f110],fun E hE=>?_⟩
 refine vcOk _ ?_
 (all_goals refine qgo (Lf.mk ?_))
 exact end_pre [.cells [.int .i64 t.kind,.int .i64 t.n,.str t.text]] [_] rfl (Nat.le_refl 1) .bool (by intro o ho;rw [List.mem_singleton] at ho;subst ho;exact .cells (.cons .int (.cons .int (.cons .str .nil))))
theorem label2_meets:Meets Tryz.prog n_asm_builder_label_2 (SpecF (fun _:OEqu×LTok=>True) (fun (s,_)=>[equD s,.loc 0 0]) (fun (_,t)=>[.cells [.int .i64 t.kind,.int .i64 t.n,.str t.text]]) (fun (s,t)=>.bool (s.name==t.text))
  fun (_,t)=>[.cells [.int .i64 t.kind,.int .i64 t.n,.str t.text]]):=by
 refine meets_f tabOk Tryz.func111 rfl (by decide) ?_
 rintro ⟨s,t⟩ _
 refine ⟨Nat.le_refl _,by simp [Tryz.f111],fun E hE=>?_⟩
 refine vcOk _ ?_
 (all_goals refine qgo (Lf.mk ?_))
 exact end_pre [.cells [.int .i64 t.kind,.int .i64 t.n,.str t.text]] [_] rfl (Nat.le_refl 1) .bool (by intro o ho;rw [List.mem_singleton] at ho;subst ho;exact .cells (.cons .int (.cons .int (.cons .str .nil))))
def labelB (q:List OEqu) (b:Bld) (t:LTok) (line:Int):Bld:=
 if nameB t.text=false∨0≤regI t∨b.syms.any (fun s=>s.name==t.text)=true∨q.any (fun s=>s.name==t.text)=true then failB b 7 line else { b with syms:=b.syms++[⟨t.text,0⟩],marks:=b.marks++[(b.items.length:Int)] }
theorem label_meets:Meets Tryz.prog n_asm_builder_label (SpecF (fun ((b,t,_,q):Bld×LTok×Int×List OEqu)=>b.items.length≤1000000∧b.syms.length≤1000000∧b.marks.length≤1000000∧q.length≤1000000∧t.text.length≤1000000000) (fun (_,t,line,_)=>[.loc 0 0,ltokD t,.int .i64 line])
  (fun (b,_,_,q)=>bO q b) (fun _=>.tup []) fun (b,t,line,q)=>bO q (labelB q b t line)):=by
 refine meets_f tabOk Tryz.func63 rfl (by decide) ?_
 rintro ⟨b,t,line,q⟩ ⟨h1,h2,h3,h4,h5⟩
 have h1:b.items.length≤1000000:=h1
 have h2:b.syms.length≤1000000:=h2
 have h3:b.marks.length≤1000000:=h3
 have h4:q.length≤1000000:=h4
 have h5:t.text.length≤1000000000:=h5
 refine ⟨Nat.le_refl _,by simp [Tryz.f63],fun E hE=>?_⟩
 show AWP _ _ _ _ (FinQ _ _ _ _ (bO q (labelB q b t line))) _ (bO q b)
 have hdef:labelB q b t line=if nameB t.text=false∨0≤regI t∨b.syms.any (fun s=>s.name==t.text)=true∨q.any (fun s=>s.name==t.text)=true then failB b 7 line else { b with syms:=b.syms++[⟨t.text,0⟩],marks:=b.marks++[(b.items.length:Int)] }:=rfl
 generalize labelB q b t line=B at *
 refine vcOk _ ?_
 (all_goals refine qgp (Lf.mk ?_))
 refine call_p name_meets t.text h5 (VS.mk (LeL.of_eq rfl)) ?_
 (all_goals refine qgp ?_<;>(repeat' first | exact trivial | intro hc | refine And.intro ?_ ?_)<;>refine Lf.mk ?_)
 ·refine call_fail q b 7 line [_] rfl rfl ?_
  (all_goals refine qgp (Lf.mk ?_))
  exact end_bO [_] rfl (by rw [hdef,if_pos (.inl (by simpa using hc))]) rfl (Nat.le_of_eq rfl) .tup0
 refine call_p register_meets t h5 (VS.mk (LeL.of_eq rfl)) ?_
 (all_goals refine qgp ?_<;>(repeat' first | exact trivial | intro hc | refine And.intro ?_ ?_)<;>refine Lf.mk ?_)
 ·refine call_fail q b 7 line [_] rfl rfl ?_
  (all_goals refine qgp (Lf.mk ?_))
  exact end_bO [_] rfl (by rw [hdef,if_pos (.inr (.inl hc))]) rfl (Nat.le_of_eq rfl) .tup0
 refine has_syms n_asm_builder_label_1 [.loc 6 0] (fun s=>s.name==t.text) b.syms (.cells (bC q b)) (.arr 13 (b.items.map itemD)) [.spare b.marks.length,.arr 1 (poolsD b),curO b,.cells [.int .i64 t.kind,.int .i64 t.n,.str t.text]] (by omega) rfl rfl
  (fun s hs KP KW hK=>?_) ?_
 ·exact call_f label1_meets [6] [6] (s,t) trivial rfl rfl ⟨VS.mk (LeL.refl _),VS.mk rfl,hK⟩
 cases hs:b.syms.any (fun s=>s.name==t.text) with
 | true=>
  (all_goals refine qgp ?_<;>(repeat' first | exact trivial | intro hc | refine And.intro ?_ ?_)<;>refine Lf.mk ?_)
  (any_goals (first | (exfalso;refine Bool.false_ne_true ?_;assumption) | (exfalso;refine Bool.false_ne_true (Eq.symm ?_);assumption) | (exfalso;refine absurd trivial ?_;assumption) | skip))
  refine call_fail q b 7 line [_] rfl rfl ?_
  (all_goals refine qgp (Lf.mk ?_))
  exact end_bO [_] rfl (by rw [hdef,if_pos (.inr (.inr (.inl hs)))]) rfl (Nat.le_of_eq rfl) .tup0
 | false=>
  (all_goals refine qgp ?_<;>(repeat' first | exact trivial | intro hc | refine And.intro ?_ ?_)<;>refine Lf.mk ?_)
  (any_goals (first | (exfalso;refine Bool.false_ne_true ?_;assumption) | (exfalso;refine Bool.false_ne_true (Eq.symm ?_);assumption) | (exfalso;refine absurd trivial ?_;assumption) | skip))
  refine has_equs n_asm_builder_label_2 [.loc 6 0] (fun s=>s.name==t.text) q (by omega) rfl (fun s hs KP KW hK=>?_) ?_
  ·exact call_f label2_meets [6] [6] (s,t) trivial rfl rfl ⟨VS.mk (LeL.refl _),VS.mk rfl,hK⟩
  cases hq:q.any (fun s=>s.name==t.text) with
  | true=>
   (all_goals refine qgp ?_<;>(repeat' first | exact trivial | intro hc | refine And.intro ?_ ?_)<;>refine Lf.mk ?_)
   (any_goals (first | (exfalso;refine Bool.false_ne_true ?_;assumption) | (exfalso;refine Bool.false_ne_true (Eq.symm ?_);assumption) | (exfalso;refine absurd trivial ?_;assumption) | skip))
   refine call_fail q b 7 line [_] rfl rfl ?_
   (all_goals refine qgp (Lf.mk ?_))
   exact end_bO [_] rfl (by rw [hdef,if_pos (.inr (.inr (.inr hq)))]) rfl (Nat.le_of_eq rfl) .tup0
  | false=>
   (all_goals refine qgk ?_<;>(repeat' first | exact trivial | intro hc | refine And.intro ?_ ?_)<;>refine Lf.mk ?_)
   (any_goals (first | (exfalso;refine Bool.false_ne_true ?_;assumption) | (exfalso;refine Bool.false_ne_true (Eq.symm ?_);assumption) | (exfalso;refine absurd trivial ?_;assumption) | skip))
   refine norm_eq ((b.syms++[(⟨t.text,0⟩:OSym)]).map symD) (by rw [List.map_append];rfl) ?_
   rw [List.length_map]
   (all_goals refine qgk (Lf.mk ?_))
   refine norm_eq ((b.marks++[((b.items.length:Nat):Int)]).map (D.int .i64)) (by rw [List.map_append];rfl) ?_
   rw [List.length_map]
   (all_goals refine qgk (Lf.mk ?_))
   rw [if_neg (fun h=>?_)] at hdef
   ·rw [hdef]
    exact end_bO [_] rfl rfl rfl (Nat.le_of_eq rfl) .tup0
   ·rcases h with h | h | h | h
    ·simp_all
    ·omega
    ·rw [hs] at h;cases h
    ·rw [hq] at h;cases h
end Go.Proofs.YtfahnaccpncdpaaGreatDoor
namespace Go.Proofs.YtfahnaccpncdpaaGreatDoor
open Go Go.Plat
set_option linter.unusedVariables false
set_option linter.unusedSimpArgs false
set_option maxRecDepth 100000
set_option maxHeartbeats 2000000
attribute [local irreducible] AWP Arith BitS BytesS CallS CatS DrawS EndS IdxS Lib.itoa LookS LoopEnd Meets ModeS NilS NormL NormM QuoS RemS ShlS ShrS SideS SplitS bitI evalE pRes regI
theorem allF_len (q:List OEqu) (line:Int):∀ (f:Nat) (out:List AOp) (s:RB),s.fe=0→(allF q line f out s).1.length≤out.length+s.rest.length
 | 0,out,s,_=>Nat.le_add_right _ _
 | f+1,out,s,hs=>by
  rw [allF]
  split
  ·exact Nat.le_add_right _ _
  ·rename_i hn
   have h1:1≤s.rest.length:=by
    cases hr:s.rest with
    | nil=>exact absurd (.inl hr) hn
    | cons a l=>simp
   have h2:=(one_less q line s).1
   split
   ·simp only [List.length_append,List.length_cons,List.length_nil];omega
   ·by_cases h3:(commaA line (oneA q line s).2).fe=0
    ·have h4:=comma_eats line _ h3
     have:=allF_len q line f (out++[(oneA q line s).1]) _ h3
     simp only [List.length_append,List.length_cons,List.length_nil] at this
     omega
    ·rw [allF_end (.inr h3)]
     simp only [List.length_append,List.length_cons,List.length_nil];omega
theorem allA_len (q:List OEqu) (line:Int) (s:RB) (h:s.fe=0):(allA q line s).1.length≤s.rest.length:=by
 have:=allF_len q line (s.rest.length+1) [] s h
 simpa [allA] using this
theorem signA_len (s:RB):(signA s).1.length≤1:=by
 unfold signA
 repeat' split
 all_goals simp
theorem oneA_sign (q:List OEqu) (line:Int) (s:RB):(oneA q line s).1.sign.length≤1:=by
 have:=signA_len s
 unfold oneA oneB
 split
 ·dsimp only
  split
  ·simp
  ·exact this
 split
 ·exact this
 ·exact this
theorem allF_sign (q:List OEqu) (line:Int):∀ (f:Nat) (out:List AOp) (s:RB),(∀ o∈out,o.sign.length≤1)→∀ o∈(allF q line f out s).1,o.sign.length≤1
 | 0,out,s,h=>h
 | f+1,out,s,h=>by
  have h':∀ o∈out++[(oneA q line s).1],o.sign.length≤1:=by
   intro o ho
   rcases List.mem_append.1 ho with ho | ho
   ·exact h o ho
   ·rw [List.mem_singleton] at ho;subst ho;exact oneA_sign q line s
  rw [allF]
  split
  ·exact h
  split
  ·exact h'
  ·exact allF_sign q line f _ _ h'
theorem allA_sign (q:List OEqu) (line:Int) (s:RB):∀ o∈(allA q line s).1,o.sign.length≤1:=allF_sign q line _ [] s (by simp)
def labsF (q:List OEqu) (line:Int):List LTok→Bld→Bld×List LTok
 | t::c::r,b=>if t.kind=1∧c.kind=3∧c.text=[58] then labsF q line r (labelB q b t line) else (b,t::c::r)
 | [t],b=>(b,[t])
 | [],b=>(b,[])
def wordB (b:Bld) (w:List UInt8) (ops:List AOp) (line:Int):Bld:=
 if w=[46,98,121,116,101] then dataB b 1 ops line else if w=[46,119,111,114,100] then dataB b 2 ops line else if w=[46,108,111,110,103] then dataB b 4 ops line
 else if w=[46,97,108,105,103,110] then alignB b ops line else if w=[46,112,111,111,108] then (if 0 < ops.length then failB b 2 line else poolB b line) else instrB b w ops line
def restB (q:List OEqu) (b:Bld) (line:Int):List LTok→Bld
 | []=>b
 | t::r=>if b.fe≠0 then b else if t.kind≠1 then failB b 2 line else
  if (allA q line ⟨r,b.fe,b.fa⟩).2.fe≠0 then setF b (allA q line ⟨r,b.fe,b.fa⟩).2 else wordB (setF b (allA q line ⟨r,b.fe,b.fa⟩).2) t.text (allA q line ⟨r,b.fe,b.fa⟩).1 line
def lineB (q:List OEqu) (b:Bld) (x:LLine):Bld:=restB q (labsF q x.pos x.toks b).1 x.pos (labsF q x.pos x.toks b).2
structure Room (b:Bld) (k:Nat):Prop where
 items:b.items.length+k≤1000000
 syms:b.syms.length+k≤1000000
 marks:b.marks.length+k≤1000000
 shut:b.shut.length+k≤1000000
 curl:b.cur.length+k≤1000000
 cur:b.has=false→b.cur=[]
theorem Room.less {b:Bld} {k j:Nat} (h:Room b k) (hj:j≤k):Room b j:=⟨by have:=h.items;omega,by have:=h.syms;omega,by have:=h.marks;omega,by have:=h.shut;omega,by have:=h.curl;omega,h.cur⟩
theorem Room.inB {b:Bld} {k:Nat} (h:Room b k):InB b:=⟨h.cur,by have:=h.items;omega,by have:=h.shut;omega,by have:=h.curl;omega⟩
theorem Room.fail {b:Bld} {k:Nat} (h:Room b k) (e line:Int):Room (failB b e line) k:=by
 unfold failB
 split
 ·exact ⟨h.items,h.syms,h.marks,h.shut,h.curl,h.cur⟩
 ·exact h
theorem Room.put {b:Bld} {k:Nat} (h:Room b (k+1)) (x:AItem):Room (putB b x) k:=
 ⟨by have:=h.items;simp only [putB,List.length_append,List.length_cons,List.length_nil];omega,by have:=h.syms;simp only [putB];omega,by have:=h.marks;simp only [putB];omega,by have:=h.shut;simp only [putB];omega,by have:=h.curl;simp only [putB];omega,h.cur⟩
theorem Room.label {q:List OEqu} {b:Bld} {k:Nat} (h:Room b (k+1)) (t:LTok) (line:Int):Room (labelB q b t line) k:=by
 unfold labelB
 split
 ·exact (h.less (Nat.le_succ k)).fail _ _
 ·exact ⟨by have:=h.items;dsimp only;omega,by have:=h.syms;simp only [List.length_append,List.length_cons,List.length_nil];omega,by have:=h.marks;simp only [List.length_append,List.length_cons,List.length_nil];omega,by have:=h.shut;dsimp only;omega,by have:=h.curl;dsimp only;omega,h.cur⟩
theorem Room.set {b:Bld} {k:Nat} (h:Room b k) (s:RB):Room (setF b s) k:=⟨h.items,h.syms,h.marks,h.shut,h.curl,h.cur⟩
theorem Room.dat {b:Bld} {k:Nat} (h:Room b (k+1)) (size line:Int) (o:AOp):Room (datB size line b o) k:=by
 unfold datB
 repeat' split
 ·exact (h.fail _ _).put _
 ·exact (h.fail _ _).put _
 ·exact (h.fail _ _).put _
 ·exact h.put _
theorem Room.datas {size line:Int}:∀ (l:List AOp) {b:Bld} {k:Nat},Room b (k+l.length)→Room (l.foldl (datB size line) b) k
 | [],b,k,h=>h
 | o::l,b,k,h=>Room.datas l (Room.dat (by rw [Nat.add_assoc];exact h) size line o)
theorem Room.data {b:Bld} {k:Nat} {l:List AOp} (h:Room b (k+l.length)) (size line:Int):Room (dataB b size l line) k:=by
 unfold dataB
 refine Room.datas l ?_
 split
 ·exact h.fail _ _
 ·exact h
theorem Room.align {b:Bld} {k:Nat} {l:List AOp} (h:Room b (k+1)) (line:Int):Room (alignB b l line) k:=by
 unfold alignB
 repeat' split
 ·exact (h.less (Nat.le_succ k)).fail _ _
 ·exact (h.less (Nat.le_succ k)).fail _ _
 ·exact h.put _
theorem Room.pool {b:Bld} {k:Nat} (h:Room b (k+1)) (line:Int):Room (poolB b line) k:=by
 unfold poolB
 split
 ·have:=h.put ⟨9,0,line,noI,false,0,noV,b.shut.length,0⟩
  exact ⟨this.items,this.syms,this.marks,by have:=h.shut;simp only [List.length_append,List.length_cons,List.length_nil];omega,by have:=h.curl;simp only [List.length_nil];omega,fun _=>rfl⟩
 ·exact h.less (Nat.le_succ k)
theorem withV_len (v:OVal) (l:List OVal):(withV v l).length≤l.length+1:=by
 unfold withV
 split
 ·simp
 ·omega
theorem Room.lit {b:Bld} {k:Nat} (h:Room b (k+1)) (v:OVal) (reg line:Int):Room (litB b v reg line) k:=by
 have hw:=withV_len v b.cur
 refine ⟨by have:=h.items;simp only [litB,putB,List.length_append,List.length_cons,List.length_nil];omega,by have:=h.syms;simp only [litB,putB];omega,by have:=h.marks;simp only [litB,putB];omega,by have:=h.shut;simp only [litB,putB];omega,?_,fun h=>by simp only [litB,putB] at h;cases h⟩
 have:=h.curl
 simp only [litB,putB];omega
theorem Room.instr {b:Bld} {k:Nat} (h:Room b (k+1)) (name:List UInt8) (l:List AOp) (line:Int):Room (instrB b name l line) k:=by
 unfold instrB
 split
 ·exact h.lit _ _ _
 repeat' split
 ·exact (h.less (Nat.le_succ k)).fail _ _
 ·exact (h.less (Nat.le_succ k)).fail _ _
 ·exact h.put _
 ·exact (h.less (Nat.le_succ k)).fail _ _
theorem Room.word {b:Bld} {k:Nat} {l:List AOp} (h:Room b (k+1+l.length)) (w:List UInt8) (line:Int):Room (wordB b w l line) k:=by
 have h1:Room b (k+1):=h.less (by omega)
 have h2:Room b (k+l.length):=h.less (by omega)
 unfold wordB
 repeat' split
 ·exact h2.data _ _
 ·exact h2.data _ _
 ·exact h2.data _ _
 ·exact h1.align _
 ·exact (h1.less (Nat.le_succ k)).fail _ _
 ·exact h1.pool _
 ·exact h1.instr _ _ _
theorem labs_room {q:List OEqu} {line:Int}:∀ (l:List LTok) {b:Bld} {k:Nat},Room b (k+l.length)→Room (labsF q line l b).1 (k+(labsF q line l b).2.length)∧(labsF q line l b).2.length≤l.length ∧
  wt ((labsF q line l b).2.map tk)≤wt (l.map tk)∧(∀ t∈(labsF q line l b).2,t∈l)∧(labsF q line l b).1.has=b.has
 | [],b,k,h=>by rw [labsF];exact ⟨h,Nat.le_refl _,Nat.le_refl _,fun _ h=>h,rfl⟩
 | [t],b,k,h=>by rw [labsF];exact ⟨h,Nat.le_refl _,Nat.le_refl _,fun _ h=>h,rfl⟩
 | t::c::r,b,k,h=>by
  rw [labsF]
  split
  ·have hl:Room (labelB q b t line) (k+r.length):=(h.less (by simp only [List.length_cons];omega):Room b (k+r.length+1)).label t line
   obtain ⟨h1,h2,h3,h4,h5⟩:=labs_room r hl
   refine ⟨h1,by simp only [List.length_cons];omega,by simp only [List.map_cons,wt];omega,fun x hx=>List.mem_cons_of_mem _ (List.mem_cons_of_mem _ (h4 x hx)),h5.trans ?_⟩
   unfold labelB
   split
   ·exact failB_has _ _ _
   ·rfl
  ·exact ⟨h,Nat.le_refl _,Nat.le_refl _,fun _ h=>h,rfl⟩
theorem Room.rest {q:List OEqu} {b:Bld} {k:Nat} {l:List LTok} (h:Room b (k+l.length)) (line:Int):Room (restB q b line l) k:=by
 cases l with
 | nil=>exact h
 | cons t r=>
  have h0:Room b k:=h.less (by omega)
  rw [restB]
  split
  ·exact h0
  rename_i hf
  have hf:b.fe=0:=Classical.not_not.1 hf
  split
  ·exact h0.fail _ _
  split
  ·exact h0.set _
  ·have hl:=allA_len q line ⟨r,b.fe,b.fa⟩ hf
   have hl:(allA q line ⟨r,b.fe,b.fa⟩).1.length≤r.length:=hl
   exact Room.word ((h.less (by simp only [List.length_cons];omega)).set _) _ _
theorem Room.line {q:List OEqu} {b:Bld} {k:Nat} (x:LLine) (h:Room b (k+x.toks.length)):Room (lineB q b x) k:=(labs_room x.toks h).1.rest x.pos
attribute [local irreducible] OExpr.kids OExpr.kind OExpr.n OExpr.name allA exprD findI idxV labelB nameB nodes oneA slotV takeA withV wrongI
def lineO (x:LLine):Ob:=.cells [.int .i64 x.pos,.sl 3 (x.toks.map ltokD) none]
theorem call_label {av:List D} {L:List Ob} {KP:D→Prop} {KW:D→List Ob→Prop} (q:List OEqu) (b:Bld) (t:LTok) (line:Int) (X:List Ob) {k:Nat} (hr:Room b k) (hq:q.length≤1000000) (ht:t.text.length≤1000000000) (hL:L=bO q b++X) (has:av=[.loc 0 0,ltokD t,.int .i64 line])
  (hK:KW (.tup []) (bO q (labelB q b t line)++X)):CallS Tryz.prog n_asm_builder_label av L KP KW:=by
 subst has
 have hr:=hr.less (Nat.zero_le k)
 exact call_b label_meets X (b,t,line,q) ⟨hr.items,hr.syms,hr.marks,hq,ht⟩ hL (LeL.refl _) rfl (.cons (.loc (Nat.lt_of_lt_of_le (by decide:0 < 6) (Nat.le_of_eq rfl))) (.cons (.agg (.cons .int (.cons .int (.cons .str .nil)))) (.cons .int .nil))) .tup0 (bO_cl _ _) (bO_cl _ _) hK
theorem bO_at (q:List OEqu) (b:Bld) (i:Nat) (o:Ob) (h:(bO q b)[i]?=some o):ClO 6 o:=bO_cl _ _ _ (List.mem_of_getElem? h)
theorem arC_cl (s:RB) (line:Int):ClO 6 (arC s line):=.cells (.cons (.loc (by decide)) (.cons .sl (.cons .int .nil)))
theorem call_ops {av:List D} {L:List Ob} {KP:D→Prop} {KW:D→List Ob→Prop} (q:List OEqu) (b:Bld) (s:RB) (line:Int) (Y:Ob) (hl:inVal s q) (ht:∀ t∈s.rest,t.text.length≤1000000000) (hL:L=bO q (setF b s)++[Y,arC s line]) (has:av=[.loc 7 0])
  (hK:KW (.sl 4 ((allA q line s).1.map aopD) none) (bO q (setF b (allA q line s).2)++[Y,arC (allA q line s).2 line])):CallS Tryz.prog n_asm_reader_all av L KP KW:=by
 subst has
 subst hL
 have key:∀ k,k < 6→keepAt [0,1,2,3,4,5,7] 0 k=some k:=by decide
 have key':∀ k,k < 6→nthO [0,1,2,3,4,5,7] k=some k:=by decide
 refine call_sel (L':=bO q (setF b (allA q line s).2)++[Y,arC (allA q line s).2 line]) (d:=.sl 4 ((allA q line s).1.map aopD) none) (as1:=[.loc 6 0]) (L1:=ardO q b s line) (L1':=ardO q b (allA q line s).2 line) (d1:=.sl 4 ((allA q line s).1.map aopD) none) all_meets [0,1,2,3,4,5,7] rfl ⟨rfl,fun i d d' h1 h2=>?_⟩ ?_ ⟨(b,s,q,line),⟨hl,ht⟩,LeL.refl _,rfl,rfl,rfl⟩ (ClD.sl (n:=0) _ fun k hk=>absurd hk (Nat.not_lt_zero k)) rfl rfl (fun k hk hn=>?_) (fun i k hi=>?_) hK
 ·cases i with
  | zero=>
   cases h1
   cases h2
   obtain ⟨d',h3,rfl⟩:=renK_eq (show renK (keepAt [0,1,2,3,4,5,7] 0) (.loc 7 0) (fun d'=>d'= .loc 6 0) from rfl)
   exact h3
  | succ i=>simp at h1
 ·exact .cons (o:=.cells (bC q (setF b s))) rfl (bO_at q (setF b s) 0 _ rfl _ key) (.cons (o:=.arr 13 (b.items.map itemD)) rfl (bO_at q (setF b s) 1 _ rfl _ key) (.cons (o:=.arr 2 (b.syms.map symD)) rfl (bO_at q (setF b s) 2 _ rfl _ key)
   (.cons (o:=.spare b.marks.length) rfl (bO_at q (setF b s) 3 _ rfl _ key) (.cons (o:=.arr 1 (poolsD (setF b s))) rfl (bO_at q (setF b s) 4 _ rfl _ key) (.cons (o:=curO (setF b s)) rfl (bO_at q (setF b s) 5 _ rfl _ key) (.cons (o:=arC s line) rfl (arC_cl s line _ key) .nil))))))
 ·match k,hk,hn with
  | 0,_,hn=>exact absurd (by decide) hn
  | 1,_,hn=>exact absurd (by decide) hn
  | 2,_,hn=>exact absurd (by decide) hn
  | 3,_,hn=>exact absurd (by decide) hn
  | 4,_,hn=>exact absurd (by decide) hn
  | 5,_,hn=>exact absurd (by decide) hn
  | 6,_,_=>rfl
  | 7,_,hn=>exact absurd (by decide) hn
  | k+8,hk,_=>exact absurd hk (by simp [bO,bT])
 ·match i,hi with
  | 0,hi=>cases hi;exact ⟨.cells (bC q (setF b (allA q line s).2)),_,rfl,rfl,bO_at q (setF b (allA q line s).2) 0 _ rfl _ key'⟩
  | 1,hi=>cases hi;exact ⟨.arr 13 (b.items.map itemD),_,rfl,rfl,bO_at q (setF b (allA q line s).2) 1 _ rfl _ key'⟩
  | 2,hi=>cases hi;exact ⟨.arr 2 (b.syms.map symD),_,rfl,rfl,bO_at q (setF b (allA q line s).2) 2 _ rfl _ key'⟩
  | 3,hi=>cases hi;exact ⟨.spare b.marks.length,_,rfl,rfl,bO_at q (setF b (allA q line s).2) 3 _ rfl _ key'⟩
  | 4,hi=>cases hi;exact ⟨.arr 1 (poolsD (setF b (allA q line s).2)),_,rfl,rfl,bO_at q (setF b (allA q line s).2) 4 _ rfl _ key'⟩
  | 5,hi=>cases hi;exact ⟨curO (setF b (allA q line s).2),_,rfl,rfl,bO_at q (setF b (allA q line s).2) 5 _ rfl _ key'⟩
  | 6,hi=>cases hi;exact ⟨arC (allA q line s).2 line,_,rfl,rfl,arC_cl _ _ _ key'⟩
  | i+7,hi=>simp at hi
theorem outO_no {q:List OEqu} {b b':Bld} (h:b'.has=true→b.has=true):outO q b b'=bO q b':=by
 unfold outO
 rw [if_neg fun e=>by have:=h e.2;rw [e.1] at this;cases this]
def bOn (k:Nat) (q:List OEqu) (b:Bld):List Ob:=
 [.cells (bCk q b),.arr 13 (b.items.map itemD),.arr 2 (b.syms.map symD),.spare b.marks.length,.arr 1 (b.shut.map shutD++[.sl 2 (b.cur.map valD) (some k)]),.dead]
theorem bCk_cl (q:List OEqu) (b:Bld):ClL 5 (bCk q b):=
 .cons .sl (.cons (.osl (by decide)) (.cons (.osl (by decide)) (.cons (.tok (by decide)) (.cons (.osl (by decide)) (.cons .int (.cons .nilsl (.cons .nilsl (.cons .nilsl (.cons .int (.cons .int .nil))))))))))
theorem bOn_ren {m:Nat→Option Nat} {k k':Nat} (q:List OEqu) (b:Bld) (hm:∀ j,j < 5→m j=some j) (hk:m k=some k'):∀ (i:Nat) x y,(bOn k q b)[i]?=some x→(bOn k' q b)[i]?=some y→ObRen m x y:=by
 intro i x y h1 h2
 match i,h1,h2 with
 | 0,h1,h2=>cases h1;cases h2;exact ClO.cells (bCk_cl q b) _ hm
 | 1,h1,h2=>cases h1;cases h2;exact ClO.arr (n:=5) (items_cl _) _ hm
 | 2,h1,h2=>cases h1;cases h2;exact ClO.arr (n:=5) (syms_cl _) _ hm
 | 3,h1,h2=>cases h1;cases h2;rfl
 | 4,h1,h2=>cases h1;cases h2;exact pools_ren hk _ _
 | 5,h1,h2=>cases h1;cases h2;rfl
 | i+6,h1,h2=>simp [bOn] at h1
theorem call_instr {av:List D} {L:List Ob} {KP:D→Prop} {KW:D→List Ob→Prop} (q:List OEqu) (b:Bld) (name:List UInt8) (l:List AOp) (line:Int) (X:List Ob) (hb:InB b) (hl:l.length≤1000000) (hs:∀ o∈l,o.sign.length≤1)
  (hL:L=bO q b++X) (has:av=[.loc 0 0,.str name,.sl 4 (l.map aopD) none,.int .i64 line])
  (hK1:((instrB b name l line).has=true→b.has=true)→KW (.tup []) (bO q (instrB b name l line)++X))
  (hK2:b.has=false→(instrB b name l line).has=true→KW (.tup []) (bOn L.length q (instrB b name l line)++X++[.spare (instrB b name l line).cur.length])):CallS Tryz.prog n_asm_builder_instr av L KP KW:=by
 subst has
 have hcl:ClL (bO q b).length [.loc 0 0,.str name,.sl 4 (l.map aopD) none,.int .i64 line]:=.cons (.loc (Nat.lt_of_lt_of_le (by decide:0 < 6) (Nat.le_of_eq rfl))) (.cons .str (.cons .sl (.cons .int .nil)))
 by_cases h:b.has=false∧(instrB b name l line).has=true
 ·refine call_pre1 instr_meets (bO q b) X (bOn 6 q (instrB b name l line)) (bOn L.length q (instrB b name l line)) (.spare (instrB b name l line).cur.length) (d:=.tup []) hL ⟨(b,name,l,line,q),⟨hb,hl,hs⟩,LeL.refl _,rfl,rfl,(outO_new h.1 h.2).symm⟩ rfl rfl hcl .tup0 (bO_cl _ _)
   (fun m hm hk=>bOn_ren q _ (fun j hj=>hm j (Nat.lt_of_lt_of_le hj (by decide:5≤6))) hk) .spare (hK2 h.1 h.2)
 ·have hn:(instrB b name l line).has=true→b.has=true:=fun e=>by
   cases hb:b.has with
   | true=>rfl
   | false=>exact absurd ⟨hb,e⟩ h
  refine call_pre instr_meets (bO q b) X (bO q (instrB b name l line)) (d:=.tup []) hL ⟨(b,name,l,line,q),⟨hb,hl,hs⟩,LeL.refl _,rfl,rfl,(outO_no hn).symm⟩ rfl hcl .tup0 (bO_cl _ _) (bO_cl _ _) (hK1 hn)
theorem call_data {av:List D} {L:List Ob} {KP:D→Prop} {KW:D→List Ob→Prop} (q:List OEqu) (b:Bld) (size:Int) (l:List AOp) (line:Int) (X:List Ob) (hl:b.items.length+l.length≤1000000) (hs:size=1∨size=2∨size=4)
  (hL:L=bO q b++X) (has:av=[.loc 0 0,.int .i64 size,.sl 4 (l.map aopD) none,.int .i64 line]) (hK:KW (.tup []) (bO q (dataB b size l line)++X)):CallS Tryz.prog n_asm_builder_data av L KP KW:=by
 subst has
 exact call_b adata_meets X (b,size,l,line,q) ⟨hl,hs⟩ hL (LeL.refl _) rfl (.cons (.loc (Nat.lt_of_lt_of_le (by decide:0 < 6) (Nat.le_of_eq rfl))) (.cons .int (.cons .sl (.cons .int .nil)))) .tup0 (bO_cl _ _) (bO_cl _ _) hK
theorem call_align {av:List D} {L:List Ob} {KP:D→Prop} {KW:D→List Ob→Prop} (q:List OEqu) (b:Bld) (l:List AOp) (line:Int) (X:List Ob) (hl:b.items.length≤1000000) (hs:l.length≤1000000000)
  (hL:L=bO q b++X) (has:av=[.loc 0 0,.sl 4 (l.map aopD) none,.int .i64 line]) (hK:KW (.tup []) (bO q (alignB b l line)++X)):CallS Tryz.prog n_asm_builder_align av L KP KW:=by
 subst has
 exact call_b aalign_meets X (b,l,line,q) ⟨hl,hs⟩ hL (LeL.refl _) rfl (.cons (.loc (Nat.lt_of_lt_of_le (by decide:0 < 6) (Nat.le_of_eq rfl))) (.cons .sl (.cons .int .nil))) .tup0 (bO_cl _ _) (bO_cl _ _) hK
theorem call_pool {av:List D} {L:List Ob} {KP:D→Prop} {KW:D→List Ob→Prop} (q:List OEqu) (b:Bld) (line:Int) (X:List Ob) (hl:b.items.length≤1000000) (hs:b.shut.length≤1000000)
  (hL:L=bO q b++X) (has:av=[.loc 0 0,.int .i64 line]) (hK:KW (.tup []) (bO q (poolB b line)++X)):CallS Tryz.prog n_asm_builder_pool av L KP KW:=by
 subst has
 exact call_b apool_meets X (b,line,q) ⟨hl,hs⟩ hL (LeL.refl _) rfl (.cons (.loc (Nat.lt_of_lt_of_le (by decide:0 < 6) (Nat.le_of_eq rfl))) (.cons .int .nil)) .tup0 (bO_cl _ _) (bO_cl _ _) hK
theorem data_has {size line:Int}:∀ (l:List AOp) (b:Bld),(l.foldl (datB size line) b).has=b.has
 | [],b=>rfl
 | o::l,b=>by
  rw [List.foldl_cons,data_has l]
  unfold datB
  repeat' split
  all_goals first | exact failB_has _ _ _ | rfl
theorem dataB_has (b:Bld) (size:Int) (l:List AOp) (line:Int):(dataB b size l line).has=b.has:=by
 unfold dataB
 rw [data_has]
 split
 ·exact failB_has _ _ _
 ·rfl
theorem alignB_has (b:Bld) (l:List AOp) (line:Int):(alignB b l line).has=b.has:=by
 unfold alignB
 repeat' split
 all_goals first | exact failB_has _ _ _ | rfl
theorem poolB_has (b:Bld) (line:Int):(poolB b line).has=true→b.has=true:=by
 unfold poolB
 split
 ·intro _;assumption
 ·exact id
theorem line_meets:Meets Tryz.prog n_asm_builder_line (SpecF (fun ((b,x,q):Bld×LLine×List OEqu)=>Room b (1+x.toks.length)∧wt (x.toks.map tk)≤1048576∧q.length≤1000000) (fun (_,x,_)=>[.loc 0 0,llineD x])
  (fun (b,_,q)=>bO q b) (fun _=>.tup []) fun (b,x,q)=>outO q b (lineB q b x)):=by
 refine meets_f tabOk Tryz.func37 rfl (by decide) ?_
 rintro ⟨b,x,q⟩ ⟨hr,hw,hq⟩
 have hr:Room b (1+x.toks.length):=hr
 have hw:wt (x.toks.map tk)≤1048576:=hw
 have hq:q.length≤1000000:=hq
 have htx:∀ t∈x.toks,t.text.length≤1000000000:=fun t ht=>by
  have:∀ l:List LTok,t∈l→t.text.length≤wt (l.map tk):=by
   intro l
   induction l with
   | nil=>intro h;cases h
   | cons a l ih=>
    intro h
    rw [List.map_cons,wt]
    rcases List.mem_cons.1 h with rfl | h
    ·show t.text.length≤1+t.text.length+_;omega
    ·have:=ih h;omega
  have:=this _ ht
  omega
 refine ⟨outO_len _ _ _,by simp [Tryz.f37],fun E hE=>?_⟩
 have hE6:E.L.length=6:=by rw [hE];rfl
 have hlen:x.toks.length≤1048576:=by have:=wt_len (x.toks.map tk);rw [List.length_map] at this;omega
 refine awp_seqK (vcOk _ ?_)
 (all_goals refine qgp (Lf.mk ?_))
 refine awp_seqK (vcOk _ ?_)
 (all_goals refine qgp (Lf.mk ?_))
 refine awp_cut (α:=Unit) (fun _=>True) (fun _=>[(0,.loc 0 0),(3,.loc 6 0),(4,.sl 3 ((labsF q x.pos x.toks b).2.map ltokD) none)]) (fun _=>bO q (labsF q x.pos x.toks b).1++[lineO x]) ?_ ?_
 ·refine vcOk _ ?_
  (all_goals refine qgp (Lf.mk ?_))
  have hout:∀ (l:List LTok) (b1:Bld),labsF q x.pos l b1=labsF q x.pos x.toks b→labsF q x.pos l b1=(b1,l)→(labsF q x.pos x.toks b).1=b1∧(labsF q x.pos x.toks b).2=l:=fun l b1 h h'=>by rw [← h,h'];exact ⟨rfl,rfl⟩
  refine awp_loopW (α:=List LTok×Bld) (fun p=>labsF q x.pos p.1 p.2=labsF q x.pos x.toks b∧Room p.2 (1+p.1.length)∧(∀ t∈p.1,t∈x.toks)∧p.1.length≤1048576) (fun p=>[(0,.loc 0 0),(3,.loc 6 0),(4,.sl 3 (p.1.map ltokD) none)])
   (fun p=>bO q p.2++[lineO x]) (fun p=>p.1.length) (fun _=>by rw [hE6];exact Nat.le_succ 6) (x.toks,b) ⟨rfl,hr,fun _ h=>h,hlen⟩ ?_ ?_
  ·exact weak_same rfl ⟨rfl,rfl,rfl,trivial⟩
  rintro ⟨l,b1⟩ ⟨i1,i2,i3,i4⟩
  dsimp only at i1 i2 i3 i4 ⊢
  match l,i1,i2,i3,i4 with
  | [],i1,i2,i3,i4=>
   refine vcOk _ ?_
   (all_goals refine qgp ?_<;>(repeat' first | exact trivial | intro hc | refine And.intro ?_ ?_)<;>refine Lf.mk ?_)
   obtain ⟨h1,h2⟩:=hout [] b1 i1 (by rw [labsF])
   exact ⟨(),trivial,weak_same (by rw [h1]) ⟨rfl,rfl,by rw [h2];rfl,trivial⟩⟩
  | [t],i1,i2,i3,i4=>
   refine vcOk _ ?_
   (all_goals refine qgp ?_<;>(repeat' first | exact trivial | intro hc | refine And.intro ?_ ?_)<;>refine Lf.mk ?_)
   obtain ⟨h1,h2⟩:=hout [t] b1 i1 (by rw [labsF])
   exact ⟨(),trivial,weak_same (by rw [h1]) ⟨rfl,rfl,by rw [h2];rfl,trivial⟩⟩
  | t::c::r,i1,i2,i3,i4=>
   have i4:r.length+1+1≤1048576:=i4
   refine vcOk _ ?_
   (all_goals refine qgp ?_<;>(repeat' first | exact trivial | intro hc | refine And.intro ?_ ?_)<;>refine Lf.mk ?_)
   ·rw [labsF,if_pos ⟨by assumption,by assumption,by assumption⟩] at i1
    refine call_label q b1 t x.pos [lineO x] i2 hq (htx t (i3 t List.mem_cons_self)) rfl rfl ?_
    (all_goals refine qgp (Lf.mk ?_))
    exact loop_same (r,labelB q b1 t x.pos) ⟨i1,Room.label (i2.less (by simp only [List.length_cons];omega)) t x.pos,fun y hy=>i3 y (List.mem_cons_of_mem _ (List.mem_cons_of_mem _ hy)),show r.length≤1048576 by omega⟩ (by simp only [List.length_cons];omega) rfl ⟨rfl,rfl,rfl,trivial⟩
   all_goals
    obtain ⟨h1,h2⟩:=hout (t::c::r) b1 i1 (by rw [labsF,if_neg];rintro ⟨e1,e2,e3⟩;first | exact absurd e1 hc | exact absurd e2 hc | exact absurd e3 hc)
    exact ⟨(),trivial,weak_same (by rw [h1]) ⟨rfl,rfl,by rw [h2];rfl,trivial⟩⟩
 ·rintro _ _
  obtain ⟨g1,g2,g3,g4,g5⟩:=labs_room x.toks hr
  have hB:lineB q b x=restB q (labsF q x.pos x.toks b).1 x.pos (labsF q x.pos x.toks b).2:=rfl
  show AWP _ _ _ _ (FinQ _ _ _ _ (outO q b (lineB q b x))) _ _
  have hO:outO q b (lineB q b x)=outO q (labsF q x.pos x.toks b).1 (lineB q b x):=by unfold outO;rw [g5]
  rw [hO,hB]
  generalize (labsF q x.pos x.toks b).1=b1 at *
  generalize (labsF q x.pos x.toks b).2=l at *
  clear hO hB
  cases l with
  | nil=>
   refine vcOk _ ?_
   (all_goals refine qgp ?_<;>(repeat' first | exact trivial | intro hc | refine And.intro ?_ ?_)<;>refine Lf.mk ?_)
   rw [restB,outO_same rfl]
   exact end_bO [_] rfl rfl rfl (Nat.le_of_eq rfl) .tup0
  | cons t r=>
   have g2:r.length+1≤x.toks.length:=g2
   rw [restB]
   refine vcOk _ ?_
   (all_goals refine qgp ?_<;>(repeat' first | exact trivial | intro hc | refine And.intro ?_ ?_)<;>refine Lf.mk ?_)
   ·rw [if_pos hc,outO_same rfl]
    exact end_bO [_] rfl rfl rfl (Nat.le_of_eq rfl) .tup0
   ·rw [if_neg (fun h=>h (by assumption)),if_pos hc,outO_same (failB_has _ _ _)]
    refine call_fail q b1 2 x.pos [_] rfl rfl ?_
    (all_goals refine qgp (Lf.mk ?_))
    exact end_bO [_] rfl rfl rfl (Nat.le_of_eq rfl) .tup0
   ·have hfe:b1.fe=0:=by assumption
    rw [if_neg (fun h=>h hfe),if_neg (fun h=>h hc)]
    have hAl:=allA_len q x.pos ⟨r,b1.fe,b1.fa⟩ hfe
    have hAs:=allA_sign q x.pos ⟨r,b1.fe,b1.fa⟩
    rw [List.map_cons,wt] at g3
    refine call_ops q b1 ⟨r,b1.fe,b1.fa⟩ x.pos (lineO x) ⟨by show wt (r.map tk)≤_;omega,by omega⟩ (fun y hy=>htx y (g4 y (List.mem_cons_of_mem _ hy))) rfl rfl ?_
    generalize allA q x.pos ⟨r,b1.fe,b1.fa⟩=A at *
    obtain ⟨ops,s2⟩:=A
    dsimp only at hAl hAs ⊢
    have hroom:Room (setF b1 s2) (1+ops.length):=(g1.less (by simp only [List.length_cons];omega)).set s2
    have hops:ops.length≤1000000:=by have:=hroom.items;omega
    have hb2:(setF b1 s2).has=b1.has:=rfl
    rw [show s2.fe=(setF b1 s2).fe from rfl,show ∀ b',outO q b1 b'=outO q (setF b1 s2) b' from fun b'=>rfl]
    generalize setF b1 s2=b2 at *
    have hin:=hroom.inB
    have hri:=hroom.items
    have hrs:=hroom.shut
    (all_goals refine qgp ?_<;>(repeat' first | exact trivial | intro hc | refine And.intro ?_ ?_)<;>refine Lf.mk ?_)
    ·rw [if_pos hc,outO_same rfl]
     exact end_bO [_,_] rfl rfl rfl (Nat.le_of_eq rfl) .tup0
    all_goals rw [if_neg (fun h=>h (by assumption))]
    all_goals unfold wordB
    all_goals (repeat (first | (rw [if_pos (by assumption)]) | (rw [if_neg (by assumption)])))
    ·rw [outO_same (dataB_has _ _ _ _)]
     refine call_data q b2 1 ops x.pos [_,_] (by omega) (by decide) rfl rfl ?_
     (all_goals refine qgp (Lf.mk ?_))
     exact end_bO [_,_] rfl rfl rfl (Nat.le_of_eq rfl) .tup0
    ·rw [outO_same (dataB_has _ _ _ _)]
     refine call_data q b2 2 ops x.pos [_,_] (by omega) (by decide) rfl rfl ?_
     (all_goals refine qgp (Lf.mk ?_))
     exact end_bO [_,_] rfl rfl rfl (Nat.le_of_eq rfl) .tup0
    ·rw [outO_same (dataB_has _ _ _ _)]
     refine call_data q b2 4 ops x.pos [_,_] (by omega) (by decide) rfl rfl ?_
     (all_goals refine qgp (Lf.mk ?_))
     exact end_bO [_,_] rfl rfl rfl (Nat.le_of_eq rfl) .tup0
    ·rw [outO_same (alignB_has _ _ _)]
     refine call_align q b2 ops x.pos [_,_] (by omega) (by omega) rfl rfl ?_
     (all_goals refine qgp (Lf.mk ?_))
     exact end_bO [_,_] rfl rfl rfl (Nat.le_of_eq rfl) .tup0
    ·rw [if_pos (show 0 < ops.length by omega),outO_same (failB_has _ _ _)]
     refine call_fail q b2 2 x.pos [_,_] rfl rfl ?_
     (all_goals refine qgp (Lf.mk ?_))
     exact end_bO [_,_] rfl rfl rfl (Nat.le_of_eq rfl) .tup0
    ·rw [if_neg (show ¬ 0 < ops.length by omega),outO_no (poolB_has _ _)]
     refine call_pool q b2 x.pos [_,_] (by omega) (by omega) rfl rfl ?_
     (all_goals refine qgp (Lf.mk ?_))
     exact end_bO [_,_] rfl rfl rfl (Nat.le_of_eq rfl) .tup0
    ·refine call_instr q b2 t.text ops x.pos [_,_] hin hops hAs rfl rfl (fun hn=>?_) (fun hn hn'=>?_)
     ·rw [outO_no hn]
      (all_goals refine qgp (Lf.mk ?_))
      exact end_bO [_,_] rfl rfl rfl (Nat.le_of_eq rfl) .tup0
     ·rw [outO_new hn hn']
      (all_goals refine qgp (Lf.mk ?_))
      have key:∀ k,k < 5→keepAt [0,1,2,3,4,5,8] 0 k=some k:=by decide
      generalize instrB b2 t.text ops x.pos=b3 at *
      refine end_keepO [0,1,2,3,4,5,8] rfl rfl ?_ (ClD.tup0 (n:=5) _ key)
      have hr:=bOn_ren (m:=keepAt [0,1,2,3,4,5,8] 0) (k:=8) (k':=6) q b3 key rfl
      exact .cons (o:=.cells (bCk q b3)) rfl (hr 0 _ _ rfl rfl) (.cons (o:=.arr 13 (b3.items.map itemD)) rfl (hr 1 _ _ rfl rfl) (.cons (o:=.arr 2 (b3.syms.map symD)) rfl (hr 2 _ _ rfl rfl) (.cons (o:=.spare b3.marks.length) rfl (hr 3 _ _ rfl rfl)
       (.cons (o:=.arr 1 (b3.shut.map shutD++[.sl 2 (b3.cur.map valD) (some 8)])) rfl (hr 4 _ _ rfl rfl) (.cons (o:=.dead) rfl rfl (.cons (o:=.spare b3.cur.length) rfl rfl .nil))))))
theorem upA_le {n k:Int} (h:0 < k):upA n k≤n+k - 1∧n≤upA n k:=by
 unfold upA
 have h1:=Int.ediv_mul_le (n+k - 1) (b:=k) (by omega)
 have h2:=Int.lt_ediv_add_one_mul_self (n+k - 1) h
 rw [Int.add_mul,Int.one_mul] at h2
 omega
theorem up_meets:Meets Tryz.prog n_asm_up (SpecP (fun ((n,k):Int×Int)=>0≤n∧n≤1000000000000000∧0 < k∧k≤1000000) (fun (n,k)=>[.int .i64 n,.int .i64 k]) fun (n,k)=>.int .i64 (upA n k)):=by
 refine meets_f tabOk Tryz.func75 rfl (by decide) ?_
 rintro ⟨n,k⟩ ⟨h1,h2,h3,h4⟩
 have h1:0≤n:=h1
 have h2:n≤1000000000000000:=h2
 have h3:0 < k:=h3
 have h4:k≤1000000:=h4
 have hu:=upA_le (n:=n) h3
 refine ⟨Nat.le_refl _,by simp [Tryz.f75],fun E hE=>?_⟩
 refine vcOk _ ?_
 (all_goals refine qgp (Lf.mk ?_))
 refine ar_i64 (show -9223372036854775808≤upA n k by omega) (show upA n k≤9223372036854775807 by omega) ?_
 (all_goals refine qgp (Lf.mk ?_))
 exact end_p (VS.mk (LeD.refl _))
def SizeOk (pools:List (List OVal)) (x:AItem):Prop:=(x.kind=8→0 < x.size∧x.size≤16)∧(x.kind=7→0 < x.size∧x.size≤4)∧(x.kind=9→0≤x.pool∧x.pool < pools.length)∧∀ p∈pools,p.length≤1000000
theorem size_meets:Meets Tryz.prog n_asm_builder_size (SpecF (fun ((b,k,x,a,_):Bld×Nat×AItem×Int×List OEqu)=>b.has=false∧b.items[k]?=some x∧SizeOk b.shut x∧0≤a∧a≤100000000000000) (fun (b,k,_,a,_)=>[.loc 0 0,.aloc 1 b.items.length k 0,.int .i64 a])
  (fun (b,_,_,_,q)=>bO q b) (fun (b,_,x,a,_)=>.int .i64 (sizeA b.shut x a)) fun (b,_,_,_,q)=>bO q b):=by
 refine meets_f tabOk Tryz.func117 rfl (by decide) ?_
 rintro ⟨⟨items,syms,marks,shut,has,cur,fe,fa⟩,k,x,a,q⟩ ⟨hh,hx,⟨hs1,hs2,hs3,hs4⟩,ha0,ha1⟩
 have hh:has=false:=hh
 subst hh
 have hx:items[k]?=some x:=hx
 have hs3:x.kind=9→0≤x.pool∧x.pool < shut.length:=hs3
 have hs4:∀ p∈shut,p.length≤1000000:=hs4
 have ha0:0≤a:=ha0
 have ha1:a≤100000000000000:=ha1
 refine ⟨Nat.le_refl _,by simp [Tryz.f117],fun E hE=>?_⟩
 refine vcOk _ ?_
 (all_goals refine qgp (Lf.mk ?_))
 have hxn:items[((k:Nat):Int).toNat]?=some x:=by rw [Int.toNat_natCast];exact hx
 have hz:sizeA shut x a=if x.kind=2∧x.long=true then 6 else if x.kind=7 then x.size else if x.kind=8 then upA a x.size - a else if x.kind=9 then upA a 4 - a+4 * poolLen shut x.pool else 2:=rfl
 have hu4:=upA_le (n:=a) (k:=4) (by decide)
 show IdxS (items.map itemD) _ _
 refine ix_map x (Int.natCast_nonneg k) hxn ?_
 (all_goals refine qgp ?_<;>(repeat' first | exact trivial | intro hc | refine And.intro ?_ ?_)<;>refine Lf.mk ?_)
 ·refine ix_map x (Int.natCast_nonneg k) hxn ?_
  (all_goals refine qgp ?_<;>(repeat' first | exact trivial | intro hc | refine And.intro ?_ ?_)<;>refine Lf.mk ?_)
  ·refine end_eq ?_ rfl
   show D.int .i64 6=D.int .i64 (sizeA shut x a)
   rw [hz,if_pos ⟨by assumption,by assumption⟩]
  ·refine end_eq ?_ rfl
   show D.int .i64 2=D.int .i64 (sizeA shut x a)
   rw [hz,if_neg (fun h=>by simp_all),if_neg (by omega),if_neg (by omega),if_neg (by omega)]
 ·refine ix_map x (Int.natCast_nonneg k) hxn ?_
  (all_goals refine qgp (Lf.mk ?_))
  refine end_eq ?_ rfl
  show D.int .i64 x.size=D.int .i64 (sizeA shut x a)
  rw [hz,if_neg (by omega),if_pos hc]
 ·have h8:=hs1 hc
  have hu:=upA_le (n:=a) h8.1
  refine ix_map x (Int.natCast_nonneg k) hxn ?_
  (all_goals refine qgp (Lf.mk ?_))
  refine call_p up_meets (a,x.size) ⟨ha0,by show a≤_;omega,h8.1,by show x.size≤_;omega⟩ (VS.mk (LeL.of_eq rfl)) ?_
  (all_goals refine qgp (Lf.mk ?_))
  refine end_eq ?_ rfl
  show D.int .i64 (upA a x.size - a)=D.int .i64 (sizeA shut x a)
  rw [hz,if_neg (by omega),if_neg (by omega),if_pos hc]
 ·have h9:=hs3 hc
  refine call_p up_meets (a,4) ⟨ha0,by show a≤_;omega,by decide,by decide⟩ (VS.mk (LeL.of_eq rfl)) ?_
  (all_goals refine qgp (Lf.mk ?_))
  refine ix_map x (Int.natCast_nonneg k) hxn ?_
  (all_goals refine qgp (Lf.mk ?_))
  have hpl:(poolsD ⟨items,syms,marks,shut,false,cur,fe,fa⟩).length=shut.length:=by unfold poolsD;simp
  refine sd_mk ⟨h9.1,by rw [hpl];exact h9.2⟩ ?_
  (all_goals refine qgp (Lf.mk ?_))
  have hp:((shut[x.pool.toNat]?).getD []).length≤1000000:=by
   cases hg:shut[x.pool.toNat]? with
   | none=>simp
   | some p=>exact hs4 p (List.mem_of_getElem? hg)
  (all_goals refine qgp (Lf.mk ?_))
  have hgp:(poolsD ⟨items,syms,marks,shut,false,cur,fe,fa⟩)[((0+x.pool.toNat:Nat):Int).toNat]?=some (shutD ((shut[x.pool.toNat]?).getD [])):=by
   have hlt:x.pool.toNat < shut.length:=by omega
   rw [Int.toNat_natCast,Nat.zero_add]
   unfold poolsD
   simp [List.getElem?_eq_getElem hlt]
  refine ix_rfl (Int.natCast_nonneg _) hgp ?_
  (all_goals refine qgp (Lf.mk ?_))
  refine end_eq ?_ rfl
  show _=D.int .i64 (sizeA shut x a)
  rw [hz,if_neg (by omega),if_neg (by omega),if_neg (by omega),if_pos hc]
  rfl
 ·refine end_eq ?_ rfl
  show D.int .i64 2=D.int .i64 (sizeA shut x a)
  rw [hz,if_neg (by omega),if_neg (by omega),if_neg (by omega),if_neg (by omega)]
attribute [local irreducible] sizeA
theorem placeI_len (pools:List (List OVal)):∀ (l:List AItem) (a:Int),(placeI pools l a).1.length=l.length
 | [],a=>rfl
 | x::l,a=>by rw [placeI];simp [placeI_len pools l]
theorem size_le {pools:List (List OVal)} {x:AItem} {a:Int} (h:SizeOk pools x) (h0:0≤a):0≤sizeA pools x a∧sizeA pools x a≤5000000:=by
 obtain ⟨h8,h7,h9,hp⟩:=h
 have hu4:=upA_le (n:=a) (k:=4) (by decide)
 have hl:poolLen pools x.pool≤1000000∧0≤poolLen pools x.pool:=by
  unfold poolLen
  cases hg:pools[x.pool.toNat]? with
  | none=>simp
  | some p=>have:=hp p (List.mem_of_getElem? hg);simp;omega
 unfold sizeA
 split
 ·omega
 split
 ·rename_i h;have:=h7 h;omega
 split
 ·rename_i h
  have:=h8 h
  have hu:=upA_le (n:=a) this.1
  omega
 split
 ·omega
 ·omega
theorem set_mid {α:Type} {f:α→D} {a b:List α} {x:α} (y:α) {k:Nat} (hk:a.length=k) {d:D} (hd:d=f y):((a++x::b).map f).set (0+((k:Nat):Int).toNat) d=((a++[y])++b).map f:=by
 subst hd;subst hk
 rw [Nat.zero_add,Int.toNat_natCast,List.map_append,List.set_append_right _ _ (by simp)]
 simp
theorem get_mid {α:Type} {a b:List α} {x:α} {k:Nat} (hk:a.length=k):(a++x::b)[k]?=some x:=by
 subst hk
 rw [List.getElem?_append_right (Nat.le_refl _)]
 simp
theorem bC_same {q:List OEqu} {b b':Bld} (h1:b.items.length=b'.items.length) (h2:b.syms.length=b'.syms.length) (h3:b.marks=b'.marks) (h4:poolsD b=poolsD b') (h5:b.shut=b'.shut) (h6:b.fe=b'.fe) (h7:b.fa=b'.fa):bC q b=bC q b':=by
 unfold bC
 rw [h1,h2,h3,h4,h5,h6,h7]
theorem call_size {av:List D} {L:List Ob} {KP:D→Prop} {KW:D→List Ob→Prop} (q:List OEqu) (b:Bld) (k:Nat) (x:AItem) (a:Int) (hh:b.has=false) (hx:b.items[k]?=some x) (hs:SizeOk b.shut x) (h0:0≤a) (h1:a≤100000000000000) (hL:L=bO q b)
  (has:av=[.loc 0 0,.aloc 1 b.items.length k 0,.int .i64 a]) (hK:KW (.int .i64 (sizeA b.shut x a)) (bO q b)):CallS Tryz.prog n_asm_builder_size av L KP KW:=by
 subst has
 exact call_all size_meets (b,k,x,a,q) ⟨hh,hx,hs,h0,h1⟩ hL (LeL.refl _) hK
theorem set_mid2 {α:Type} {f:α→D} {a b:List α} {x:α} (y:α) {k:Nat} (hk:a.length=k) {d:D} (hd:d=f y):((a++x::b).map f).set (0+((k:Nat):Int).toNat) d=(a++y::b).map f:=by
 rw [set_mid y hk hd,List.append_assoc];rfl
theorem placeS_snoc (items:List AItem) (e:Int):∀ (ss:List OSym) (ms:List Int) (s:OSym) (m:Int),ss.length=ms.length→placeS items e (ss++[s]) (ms++[m])=placeS items e ss ms++[⟨s.name,markAt items e m⟩]
 | [],[],s,m,_=>rfl
 | a::ss,b::ms,s,m,h=>by
  show _::placeS items e (ss++[s]) (ms++[m])=_::(placeS items e ss ms++_)
  rw [placeS_snoc items e ss ms s m (by simpa using h)]
 | [],_::_,_,_,h=>by simp at h
 | _::_,[],_,_,h=>by simp at h
theorem placeS_len (items:List AItem) (e:Int):∀ (ss:List OSym) (ms:List Int),(placeS items e ss ms).length=ss.length
 | [],_=>by rw [placeS];intro _ _ _ _ h;cases h
 | s::ss,[]=>rfl
 | s::ss,m::ms=>by rw [placeS,List.length_cons,placeS_len items e ss ms,List.length_cons]
theorem place_meets:Meets Tryz.prog n_asm_builder_place (SpecF (fun ((b,_):Bld×List OEqu)=>b.has=false∧(∀ x∈b.items,SizeOk b.shut x)∧b.items.length≤1000000∧b.marks.length=b.syms.length∧b.marks.length≤1000000∧∀ m∈b.marks,0≤m) (fun _=>[.loc 0 0])
  (fun (b,q)=>bO q b) (fun (b,_)=>.int .i64 (placeI b.shut b.items 0).2) fun (b,q)=>bO q { b with items:=(placeI b.shut b.items 0).1,syms:=placeS (placeI b.shut b.items 0).1 (placeI b.shut b.items 0).2 b.syms b.marks }):=by
 refine meets_f tabOk Tryz.func70 rfl (by decide) ?_
 rintro ⟨⟨items,syms,marks,shut,has,cur,fe,fa⟩,q⟩ ⟨hh,hsz,hil,hms,hml,hm0⟩
 have hh:has=false:=hh
 subst hh
 have hsz:∀ x∈items,SizeOk shut x:=hsz
 have hil:items.length≤1000000:=hil
 have hms:marks.length=syms.length:=hms
 have hml:marks.length≤1000000:=hml
 have hm0:∀ m∈marks,0≤m:=hm0
 refine ⟨Nat.le_refl _,by simp [Tryz.f70],fun E hE=>?_⟩
 have hE6:E.L.length=6:=by rw [hE];rfl
 show AWP _ _ _ _ (FinQ _ _ _ (.int .i64 (placeI shut items 0).2) (bO q ⟨(placeI shut items 0).1,placeS (placeI shut items 0).1 (placeI shut items 0).2 syms marks,marks,shut,false,cur,fe,fa⟩)) _ (bO q ⟨items,syms,marks,shut,false,cur,fe,fa⟩)
 have hPl:=placeI_len shut items 0
 generalize hP:placeI shut items 0=P at *
 obtain ⟨PI,PE⟩:=P
 dsimp only at hPl ⊢
 refine vcOk _ ?_
 (all_goals refine qgp (Lf.mk ?_))
 refine awp_loopW (α:=Nat×Int) (fun p=>p.1≤items.length∧placeI shut (items.drop p.1) p.2=(PI.drop p.1,PE)∧0≤p.2∧p.2≤5000000 * (p.1:Int)) (fun p=>[(0,.loc 0 0),(3,.int .i64 p.2),(11,.int .i64 items.length),(12,.int .i64 p.1)])
  (fun p=>bO q ⟨PI.take p.1++items.drop p.1,syms,marks,shut,false,cur,fe,fa⟩) (fun p=>items.length - p.1) (fun _=>by rw [hE6];exact Nat.le_refl 6) (0,0) ⟨Nat.zero_le _,hP,Int.le_refl 0,by simp⟩ ?_ ?_
 ·exact weak_same rfl ⟨rfl,rfl,rfl,rfl,trivial⟩
 rintro ⟨k,a⟩ ⟨i1,i2,i3,i4⟩
 dsimp only at i1 i2 i3 i4 ⊢
 have hlen:(PI.take k++items.drop k).length=items.length:=by rw [List.length_append,List.length_take,List.length_drop];omega
 refine vcOk _ ?_
 (all_goals refine qgp ?_<;>(repeat' first | exact trivial | intro hc | refine And.intro ?_ ?_)<;>refine Lf.mk ?_)
 ·have hkl:k < items.length:=by omega
  obtain ⟨x,hx⟩:=at_of_lt (l:=items) (k:=k) (by omega)
  have hgx:items[k]=x:=by rw [List.getElem?_eq_getElem hkl] at hx;exact Option.some.inj hx
  have hxs:=hsz x (List.mem_of_getElem? hx)
  have hsl:=size_le (a:=a) hxs i3
  rw [List.drop_eq_getElem_cons hkl,hgx,placeI] at i2
  obtain ⟨e1,e2⟩:=Prod.mk.inj i2
  have hkP:k < PI.length:=by omega
  rw [List.drop_eq_getElem_cons hkP] at e1
  obtain ⟨e3,e4⟩:=List.cons.inj e1
  have hnext:placeI shut (items.drop (k+1)) (a+sizeA shut x a)=(PI.drop (k+1),PE):=by rw [← e4,← e2]
  have htake:PI.take (k+1)=PI.take k++[{ x with at_:=a }]:=by rw [List.take_succ_eq_append_getElem hkP,← e3]
  have hlk:(PI.take k).length=k:=by rw [List.length_take];omega
  have hdrop:items.drop k=x::items.drop (k+1):=by rw [List.drop_eq_getElem_cons hkl,hgx]
  have hmid:=get_mid (a:=PI.take k) (b:=items.drop (k+1)) (x:=x) hlk
  have hlen2:(PI.take (k+1)++items.drop (k+1)).length=items.length:=by rw [List.length_append,List.length_take,List.length_drop];omega
  rw [hdrop] at hlen ⊢
  refine ix_map x (Int.natCast_nonneg _) (by rw [Int.toNat_natCast,Nat.zero_add,Int.toNat_natCast];exact hmid) ?_
  (all_goals refine qgk (Lf.mk ?_))
  refine norm_eq ((PI.take (k+1)++items.drop (k+1)).map itemD) (by rw [htake];exact set_mid { x with at_:=a } hlk rfl) ?_
  (all_goals refine qgk (Lf.mk ?_))
  have hb:(PI.take k++x::items.drop (k+1)).length=(PI.take (k+1)++items.drop (k+1)).length:=by rw [hlen,hlen2]
  have hx2:(PI.take (k+1)++items.drop (k+1))[k]?=some { x with at_:=a }:=by rw [htake,List.append_assoc];exact get_mid hlk
  have hs2:sizeA shut { x with at_:=a } a=sizeA shut x a:=by unfold sizeA;rfl
  refine call_size q ⟨PI.take (k+1)++items.drop (k+1),syms,marks,shut,false,cur,fe,fa⟩ k { x with at_:=a } a rfl hx2 hxs i3 (by omega) ?_ ?_ ?_
  ·exact congrArg (fun c=>Ob.cells c::bT ⟨PI.take (k+1)++items.drop (k+1),syms,marks,shut,false,cur,fe,fa⟩) (bC_same hb rfl rfl rfl rfl rfl rfl)
  ·show [D.loc 0 0,.aloc 1 (PI.take k++x::items.drop (k+1)).length (0+((k:Nat):Int).toNat) 0,.int .i64 a]=_
   rw [hb,Nat.zero_add,Int.toNat_natCast]
  rw [show sizeA (Bld.shut ⟨PI.take (k+1)++items.drop (k+1),syms,marks,shut,false,cur,fe,fa⟩) { x with at_:=a } a=sizeA shut x a from hs2]
  (all_goals refine qgp (Lf.mk ?_))
  exact loop_same (k+1,a+sizeA shut x a) ⟨by show k+1≤_;omega,hnext,by dsimp only;omega,by dsimp only;omega⟩ (by dsimp only;omega) rfl ⟨rfl,rfl,rfl,rfl,trivial⟩
 ·have hk:k=items.length:=by omega
  rw [hk,List.drop_length,placeI] at i2
  obtain ⟨e1,e2⟩:=Prod.mk.inj i2
  have hI:PI.take k++items.drop k=PI:=by rw [hk,List.drop_length,List.append_nil,← hPl,List.take_length]
  rw [hI] at hlen ⊢
  subst e2
  clear e1 i2
  refine awp_loopW (α:=Nat) (fun j=>j≤marks.length) (fun j=>[(0,.loc 0 0),(3,.int .i64 a),(38,.sl 1 (marks.map (.int .i64)) none),(39,.int .i64 marks.length),(40,.int .i64 j)])
   (fun j=>bO q ⟨PI,placeS PI a (syms.take j) (marks.take j)++syms.drop j,marks,shut,false,cur,fe,fa⟩) (fun j=>marks.length - j) (fun _=>by rw [hE6];exact Nat.le_refl 6) 0 (Nat.zero_le _) ?_ ?_
  ·refine weak_leS rfl ⟨.refl _,.refl _,.strip _ _ _,.refl _,.refl _,trivial⟩
  intro j hj
  have hj:j≤marks.length:=hj
  refine vcOk _ ?_
  have hSl:(placeS PI a (syms.take j) (marks.take j)).length=j:=by rw [placeS_len,List.length_take];omega
  (all_goals refine qgp ?_<;>(repeat' first | exact trivial | intro hc | refine And.intro ?_ ?_)<;>refine Lf.mk ?_)
  ·have hjm:j < marks.length:=by omega
   have hjs:j < syms.length:=by omega
   obtain ⟨m,hm⟩:=at_of_lt (l:=marks) (k:=j) (by omega)
   obtain ⟨s,hs⟩:=at_of_lt (l:=syms) (k:=j) (by omega)
   have hgm:marks[j]=m:=by rw [List.getElem?_eq_getElem hjm] at hm;exact Option.some.inj hm
   have hgs:syms[j]=s:=by rw [List.getElem?_eq_getElem hjs] at hs;exact Option.some.inj hs
   have hm0:=hm0 m (List.mem_of_getElem? hm)
   have hdrop:syms.drop j=s::syms.drop (j+1):=by rw [List.drop_eq_getElem_cons hjs,hgs]
   have hsn:placeS PI a (syms.take (j+1)) (marks.take (j+1))=placeS PI a (syms.take j) (marks.take j)++[⟨s.name,markAt PI a m⟩]:=by
    rw [List.take_succ_eq_append_getElem hjs,List.take_succ_eq_append_getElem hjm,hgs,hgm]
    exact placeS_snoc _ _ _ _ _ _ (by rw [List.length_take,List.length_take];omega)
   generalize placeS PI a (syms.take j) (marks.take j)=SJ at *
   rw [hdrop]
   refine ix_map m (by omega) (by simpa using hm) ?_
   have hlen3:(SJ++s::syms.drop (j+1)).length=syms.length:=by rw [List.length_append,List.length_cons,List.length_drop];omega
   have hmid:=get_mid (a:=SJ) (b:=syms.drop (j+1)) (x:=s) hSl
   (all_goals refine qgk (Lf.mk ?_))
   refine ix_map s (Int.natCast_nonneg _) (by rw [Int.toNat_natCast,Nat.zero_add,Int.toNat_natCast];exact hmid) ?_
   (all_goals refine qgk (Lf.mk ?_))
   refine norm_eq ((SJ++(⟨s.name,a⟩:OSym)::syms.drop (j+1)).map symD) (set_mid2 ⟨s.name,a⟩ hSl rfl) ?_
   (all_goals refine qgk ?_<;>(repeat' first | exact trivial | intro hc | refine And.intro ?_ ?_)<;>refine Lf.mk ?_)
   ·have hmn:m.toNat < PI.length:=by omega
    have hmk:markAt PI a m=(itA PI m).at_:=by unfold markAt;rw [if_pos hc]
    have hit:PI[m.toNat]?=some (itA PI m):=by unfold itA;rw [List.getElem?_eq_getElem hmn];rfl
    have hmid2:=get_mid (a:=SJ) (b:=syms.drop (j+1)) (x:=(⟨s.name,a⟩:OSym)) hSl
    refine ix_map (itA PI m) (Int.natCast_nonneg _) (by rw [Int.toNat_natCast,Nat.zero_add];exact hit) ?_
    (all_goals refine qgk (Lf.mk ?_))
    refine ix_map (⟨s.name,a⟩:OSym) (Int.natCast_nonneg _) (by rw [Int.toNat_natCast,Nat.zero_add,Int.toNat_natCast];exact hmid2) ?_
    (all_goals refine qgk (Lf.mk ?_))
    refine norm_eq ((SJ++(⟨s.name,(itA PI m).at_⟩:OSym)::syms.drop (j+1)).map symD) (set_mid2 ⟨s.name,(itA PI m).at_⟩ hSl rfl) ?_
    (all_goals refine qgk (Lf.mk ?_))
    refine loop_same (j+1) (by show j+1≤_;omega) (by omega) ?_ ⟨rfl,rfl,rfl,rfl,rfl,trivial⟩
    dsimp only
    rw [hsn,hmk,List.append_assoc]
    exact congrArg (fun c=>Ob.cells c::bT ⟨PI,SJ++(⟨s.name,(itA PI m).at_⟩:OSym)::syms.drop (j+1),marks,shut,false,cur,fe,fa⟩) (bC_same rfl (by simp) rfl rfl rfl rfl rfl)
   ·have hmk:markAt PI a m=a:=by unfold markAt;rw [if_neg hc]
    refine loop_same (j+1) (by show j+1≤_;omega) (by omega) ?_ ⟨rfl,rfl,rfl,rfl,rfl,trivial⟩
    dsimp only
    rw [hsn,hmk,List.append_assoc]
    exact congrArg (fun c=>Ob.cells c::bT ⟨PI,SJ++(⟨s.name,a⟩:OSym)::syms.drop (j+1),marks,shut,false,cur,fe,fa⟩) (bC_same rfl (by simp) rfl rfl rfl rfl rfl)
  ·have hj2:j=marks.length:=by omega
   rw [hj2,List.take_length,hms,List.take_length,List.drop_length,List.append_nil]
   exact end_eq rfl rfl
attribute [local irreducible] infoR
theorem ar_w {n:Int} {K:D→Prop} (h:K (.int .i64 (w64 n))):Arith .i64 n K:=by unfold Arith;exact h
theorem rem_w {x y:Int} {K:D→Prop} (hy:y≠0) (h:K (.int .i64 (x.tmod y))):RemS .i64 x y K:=by unfold RemS;exact ⟨hy,h⟩
theorem quo_w {x y:Int} {K:D→Prop} (hy:y≠0) (h:K (.int .i64 (w64 (x.tdiv y)))):QuoS .i64 x y K:=by unfold QuoS;exact ⟨hy,h⟩
theorem target1_meets:Meets Tryz.prog n_asm_builder_target_1 (SpecF (fun _:OSym×OVal=>True) (fun (s,_)=>[symD s,.loc 0 0]) (fun (_,v)=>[.cells [.str v.name,.int .i64 v.n]]) (fun (s,v)=>.bool (s.name==v.name))
  fun (_,v)=>[.cells [.str v.name,.int .i64 v.n]]):=by
 refine meets_f tabOk Tryz.func119 rfl (by decide) ?_
 rintro ⟨s,v⟩ _
 refine ⟨Nat.le_refl _,by simp [Tryz.f119],fun E hE=>?_⟩
 refine vcOk _ ?_
 (all_goals refine qgo (Lf.mk ?_))
 exact end_pre [.cells [.str v.name,.int .i64 v.n]] [_] rfl (Nat.le_refl 1) .bool (by intro o ho;rw [List.mem_singleton] at ho;subst ho;exact .cells (.cons .str (.cons .int .nil)))
theorem target_meets:Meets Tryz.prog n_asm_builder_target (SpecF (fun ((b,_,_):Bld×OVal×List OEqu)=>b.syms.length≤1000000) (fun (_,v,_)=>[.loc 0 0,valD v])
  (fun (b,_,q)=>bO q b) (fun (b,v,_)=>.tup [.int .i64 (targetA b.syms v).1,.int .i64 (targetA b.syms v).2]) fun (b,_,q)=>bO q b):=by
 refine meets_f tabOk Tryz.func71 rfl (by decide) ?_
 rintro ⟨b,v,q⟩ hl
 have hl:b.syms.length≤1000000:=hl
 refine ⟨Nat.le_refl _,by simp [Tryz.f71],fun E hE=>?_⟩
 show AWP _ _ _ _ (FinQ _ _ _ (.tup [.int .i64 (targetA b.syms v).1,.int .i64 (targetA b.syms v).2]) (bO q b)) _ (bO q b)
 have hT:targetA b.syms v=if v.name=[] then (0,8) else if idxN v.name b.syms 0 < 0 then (0,6) else (w64 ((symA b.syms (idxN v.name b.syms 0)).at_+v.n),0):=rfl
 generalize targetA b.syms v=T at *
 refine vcOk _ ?_
 (all_goals refine qgp ?_<;>(repeat' first | exact trivial | intro hc | refine And.intro ?_ ?_)<;>refine Lf.mk ?_)
 ·rw [if_pos hc] at hT
  subst hT
  exact end_bO [_] rfl rfl rfl (Nat.le_of_eq rfl) (.tup (.cons .int (.cons .int .nil)))
 rw [if_neg hc] at hT
 refine idx_syms n_asm_builder_target_1 [.loc 6 0] (fun s=>s.name==v.name) b.syms (.cells (bC q b)) (.arr 13 (b.items.map itemD)) [.spare b.marks.length,.arr 1 (poolsD b),curO b,.cells [.str v.name,.int .i64 v.n]] (by omega) rfl rfl
  (fun s hs KP KW hK=>?_) ?_
 ·exact call_f target1_meets [6] [6] (s,v) trivial rfl rfl ⟨VS.mk (LeL.refl _),VS.mk rfl,hK⟩
 have hp:=posF_bound (fun s:OSym=>s.name==v.name) b.syms 0
 have hT:T=if posF (fun s:OSym=>s.name==v.name) b.syms 0 < 0 then (0,6) else (w64 ((symA b.syms (posF (fun s:OSym=>s.name==v.name) b.syms 0)).at_+v.n),0):=hT
 generalize posF (fun s:OSym=>s.name==v.name) b.syms 0=p at *
 (all_goals refine qgp ?_<;>(repeat' first | exact trivial | intro hc | refine And.intro ?_ ?_)<;>refine Lf.mk ?_)
 ·rw [if_pos hc] at hT
  subst hT
  exact end_bO [_] rfl rfl rfl (Nat.le_of_eq rfl) (.tup (.cons .int (.cons .int .nil)))
 have hpl:p.toNat < b.syms.length:=by
  rcases hp with h | ⟨j,h1,h2⟩
  ·omega
  ·rw [h2,Int.toNat_natCast,Nat.zero_add];exact h1
 have hs:b.syms[p.toNat]?=some (symA b.syms p):=by unfold symA;rw [List.getElem?_eq_getElem hpl];rfl
 rw [if_neg hc] at hT
 refine ix_map (symA b.syms p) (Int.natCast_nonneg _) (by rw [Int.toNat_natCast,Nat.zero_add];exact hs) ?_
 (all_goals refine qgp (Lf.mk ?_))
 refine ar_w ?_
 (all_goals refine qgp (Lf.mk ?_))
 subst hT
 exact end_bO [_] rfl rfl rfl (Nat.le_of_eq rfl) (.tup (.cons .int (.cons .int .nil)))
theorem anot_bits:∀ i:Fin 64,(~~~ (3#64)).getLsbD i=decide (2≤i.1):=by decide
theorem anot_bv (x:BitVec 64):x &&& ~~~ (3#64)=(x >>> 2) <<< 2:=by
 apply BitVec.eq_of_getLsbD_eq
 intro i hi
 rw [BitVec.getLsbD_and,anot_bits ⟨i,hi⟩,BitVec.getLsbD_shiftLeft,BitVec.getLsbD_ushiftRight]
 by_cases h:2≤i
 ·simp [h,hi,show ¬ i < 2 by omega,show 2+(i - 2)=i by omega]
 ·simp [h,show i < 2 by omega]
theorem anot_3 {n:Int} (h0:0≤n) (h1:n≤9223372036854775807):bitI .andNot .i64 n 3=n - n % 4:=by
 obtain ⟨a,rfl⟩:=Int.eq_ofNat_of_zero_le h0
 have ha:a≤9223372036854775807:=by omega
 unfold bitI
 have e:(BitVec.ofInt IntKind.i64.bits (a:Int) &&& ~~~ BitVec.ofInt IntKind.i64.bits 3).toNat=a / 4 * 4:=by
  have e2:BitVec.ofInt IntKind.i64.bits (a:Int)=BitVec.ofNat 64 a:=rfl
  rw [e2]
  show (BitVec.ofNat 64 a &&& ~~~ (3#64)).toNat=_
  rw [anot_bv,BitVec.toNat_shiftLeft,BitVec.toNat_ushiftRight,BitVec.toNat_ofNat,Nat.mod_eq_of_lt (by omega:a < 2 ^ 64),Nat.shiftRight_eq_div_pow,Nat.shiftLeft_eq]
  omega
 show IntKind.i64.wrap ((_:Nat):Int)=_
 rw [e,wrap_i64 (by omega) (by omega)]
 omega
theorem info_tup (op:Int):∃ s:List UInt8,infoD op= .tup [.str s,.int .i64 (shapeI op)]:=by
 unfold infoD shapeI
 cases infoR op with
 | none=>exact ⟨[],rfl⟩
 | some r=>exact ⟨r.name,rfl⟩
theorem away_meets:Meets Tryz.prog n_asm_away (SpecP (fun ((_,a,_):Int×Int×Int)=>0≤a∧a≤1000000000000000) (fun (op,a,to)=>[.int .i64 op,.int .i64 a,.int .i64 to])
  fun (op,a,to)=>.tup [.int .i64 (awayA op a to).1,.int .i64 (awayA op a to).2]):=by
 refine meets_f tabOk Tryz.func72 rfl (by decide) ?_
 rintro ⟨op,a,to⟩ ⟨h0,h1⟩
 have h0:0≤a:=h0
 have h1:a≤1000000000000000:=h1
 refine ⟨Nat.le_refl _,by simp [Tryz.f72],fun E hE=>?_⟩
 show AWP _ _ _ _ (FinQ _ _ _ (.tup [.int .i64 (awayA op a to).1,.int .i64 (awayA op a to).2]) []) _ []
 have hA:awayA op a to=if (w64 (to - fromA op a)).tmod (ofA op)≠0 then (0,11)
  else if farA op a to < lowI (shapeI op)∨highI (shapeI op) < farA op a to then (farA op a to,3) else (farA op a to,0):=rfl
 have hF:farA op a to=w64 ((w64 (to - fromA op a)).tdiv (ofA op)):=rfl
 obtain ⟨s,hI⟩:=info_tup op
 have hof:ofA op≠0:=by unfold ofA;split<;>decide
 generalize awayA op a to=A at *
 generalize shapeI op=sh at *
 refine awp_seqK (vcOk _ ?_)
 (all_goals refine qgp (Lf.mk ?_))
 refine awp_seqK (vcOk _ ?_)
 (all_goals refine qgp (Lf.mk ?_))
 refine awp_cut (α:=Unit) (fun _=>True) (fun _=>[(0,.int .i64 op),(1,.int .i64 a),(2,.int .i64 to),(8,.int .i64 (fromA op a)),(9,.int .i64 (ofA op))]) (fun _=>[]) ?_ ?_
 ·refine vcOk _ ?_
  (all_goals refine qgp ?_<;>(repeat' first | exact trivial | intro hc | refine And.intro ?_ ?_)<;>refine Lf.mk ?_)
  ·refine bit_mk (anot_3 (by omega) (by omega)) ?_
   (all_goals refine qgp (Lf.mk ?_))
   refine ⟨(),trivial,weak_same rfl ⟨rfl,rfl,rfl,?_,?_,trivial⟩⟩
   ·show D.int .i64 (a+4 - (a+4) % 4)=_
    unfold fromA;rw [if_pos hc]
   ·show D.int .i64 4=_
    unfold ofA;rw [if_pos hc]
  ·refine ⟨(),trivial,weak_same rfl ⟨rfl,rfl,rfl,?_,?_,trivial⟩⟩
   ·show D.int .i64 (a+4)=_
    unfold fromA;rw [if_neg hc]
   ·show D.int .i64 2=_
    unfold ofA;rw [if_neg hc]
 ·rintro _ _
  refine vcOk _ ?_
  generalize fromA op a=fr at *
  generalize ofA op=o at *
  (all_goals refine qgp (Lf.mk ?_))
  refine ar_w ?_
  (all_goals refine qgp (Lf.mk ?_))
  refine rem_w hof ?_
  (all_goals refine qgp ?_<;>(repeat' first | exact trivial | intro hc | refine And.intro ?_ ?_)<;>refine Lf.mk ?_)
  ·rw [if_pos hc] at hA
   subst hA
   exact end_p (VS.mk (LeD.refl _))
  ·rw [if_neg (fun h=>h hc)] at hA
   refine ar_w ?_
   (all_goals refine qgp (Lf.mk ?_))
   refine quo_w hof ?_
   (all_goals refine qgp (Lf.mk ?_))
   refine call_p info_meets op trivial (VS.mk (LeL.of_eq rfl)) ?_
   rw [hI]
   rw [← hF]
   (all_goals refine qgp (Lf.mk ?_))
   refine call_p range_meets sh trivial (VS.mk (LeL.of_eq rfl)) ?_
   (all_goals refine qgp ?_<;>(repeat' first | exact trivial | intro hc | refine And.intro ?_ ?_)<;>refine Lf.mk ?_)
   ·rw [if_pos (.inl hc)] at hA
    subst hA
    exact end_p (VS.mk (LeD.refl _))
   ·rw [if_pos (.inr hc)] at hA
    subst hA
    exact end_p (VS.mk (LeD.refl _))
   ·rw [if_neg (by omega)] at hA
    subst hA
    exact end_p (VS.mk (LeD.refl _))
attribute [local irreducible] awayA targetA
structure LayIn (shut:List (List OVal)) (marks:List Int) (s:Lay):Prop where
 size:∀ x∈s.items,SizeOk shut x
 items:s.items.length≤1000000
 len:marks.length=s.syms.length
 marksl:marks.length≤1000000
 pos:∀ m∈marks,0≤m
theorem placeI_at {pools:List (List OVal)}:∀ (l:List AItem) (a:Int),0≤a→(∀ x∈l,SizeOk pools x)→∀ x∈(placeI pools l a).1,SizeOk pools x∧0≤x.at_∧x.at_≤a+5000000 * (l.length:Int)
 | [],a,h0,_,x,hx=>by cases hx
 | y::l,a,h0,hs,x,hx=>by
  have hy:=hs y List.mem_cons_self
  have hz:=size_le (a:=a) hy h0
  rw [placeI] at hx
  rcases List.mem_cons.1 hx with rfl | hx
  ·exact ⟨hy,h0,by dsimp only;simp only [List.length_cons];omega⟩
  ·obtain ⟨h1,h2,h3⟩:=placeI_at l (a+sizeA pools y a) (by omega) (fun z hz=>hs z (List.mem_cons_of_mem _ hz)) x hx
   exact ⟨h1,h2,by simp only [List.length_cons];omega⟩
theorem placeI_short (pools:List (List OVal)):∀ (l:List AItem) (a:Int),shortN (placeI pools l a).1=shortN l
 | [],a=>rfl
 | x::l,a=>by
  have ih:=placeI_short pools l (a+sizeA pools x a)
  unfold shortN at ih ⊢
  rw [placeI,List.filter_cons,List.filter_cons]
  split
  ·rw [List.length_cons,List.length_cons,ih]
  ·exact ih
theorem grow_size {pools:List (List OVal)} {syms:List OSym} {x:AItem} (h:SizeOk pools x):SizeOk pools (growI syms x):=by
 unfold growI
 split
 ·exact h
 ·exact h
theorem grow_short (syms:List OSym):∀ l:List AItem,shortN (l.map (growI syms))≤shortN l∧(l.any (mustL syms)=true→shortN (l.map (growI syms)) < shortN l)
 | []=>⟨Nat.le_refl _,fun h=>by cases h⟩
 | x::l=>by
  obtain ⟨h1,h2⟩:=grow_short syms l
  unfold shortN at h1 h2 ⊢
  rw [List.map_cons,List.filter_cons,List.filter_cons,List.any_cons]
  cases hm:mustL syms x with
  | true=>
   have hs:x.kind=2∧x.long=false:=by unfold mustL at hm;simp at hm;exact ⟨hm.1,hm.2.1⟩
   have hg:growI syms x={ x with long:=true }:=by unfold growI;rw [if_pos hm]
   rw [hg]
   rw [if_neg (show ¬ decide (x.kind=2∧true=false)=true by simp),if_pos (show decide (x.kind=2∧x.long=false)=true by simpa using hs),List.length_cons]
   exact ⟨by omega,fun _=>by omega⟩
  | false=>
   have hg:growI syms x=x:=by unfold growI;rw [if_neg (by rw [hm];decide)]
   rw [hg,Bool.false_or]
   split
   ·rw [List.length_cons,List.length_cons]
    exact ⟨by omega,fun h=>by have:=h2 h;omega⟩
   ·exact ⟨h1,h2⟩
theorem LayIn.place {shut:List (List OVal)} {marks:List Int} {s:Lay} (h:LayIn shut marks s):LayIn shut marks (placeL shut marks s).1:=
 ⟨fun x hx=>(placeI_at s.items 0 (Int.le_refl 0) h.size x hx).1,by show (placeI shut s.items 0).1.length≤_;rw [placeI_len];exact h.items,by show _=(placeS _ _ _ _).length;rw [placeS_len];exact h.len,h.marksl,h.pos⟩
theorem LayIn.grow {shut:List (List OVal)} {marks:List Int} {s:Lay} {syms:List OSym} (h:LayIn shut marks s):LayIn shut marks ⟨s.items.map (growI syms),s.syms⟩:=
 ⟨fun x hx=>by obtain ⟨y,hy,rfl⟩:=List.mem_map.1 hx;exact grow_size (h.size y hy),by rw [List.length_map];exact h.items,h.len,h.marksl,h.pos⟩
theorem call_target {av:List D} {L:List Ob} {KP:D→Prop} {KW:D→List Ob→Prop} (q:List OEqu) (b:Bld) (v:OVal) (X:List Ob) (hl:b.syms.length≤1000000) (hL:L=bO q b++X) (has:av=[.loc 0 0,valD v])
  (hK:KW (.tup [.int .i64 (targetA b.syms v).1,.int .i64 (targetA b.syms v).2]) (bO q b++X)):CallS Tryz.prog n_asm_builder_target av L KP KW:=by
 subst has
 exact call_b target_meets X (b,v,q) hl hL (LeL.refl _) rfl (.cons (.loc (Nat.lt_of_lt_of_le (by decide:0 < 6) (Nat.le_of_eq rfl))) (.cons (valD_cl v) .nil)) (.tup (.cons .int (.cons .int .nil))) (bO_cl _ _) (bO_cl _ _) hK
theorem call_place {av:List D} {L:List Ob} {KP:D→Prop} {KW:D→List Ob→Prop} (q:List OEqu) (s:Lay) (marks:List Int) (shut:List (List OVal)) (cur:List OVal) (fe fa:Int) (X:List Ob) (h:LayIn shut marks s) (hL:L=bO q ⟨s.items,s.syms,marks,shut,false,cur,fe,fa⟩++X) (has:av=[.loc 0 0])
  (hK:KW (.int .i64 (placeL shut marks s).2) (bO q ⟨(placeL shut marks s).1.items,(placeL shut marks s).1.syms,marks,shut,false,cur,fe,fa⟩++X)):CallS Tryz.prog n_asm_builder_place av L KP KW:=by
 subst has
 exact call_b place_meets X (⟨s.items,s.syms,marks,shut,false,cur,fe,fa⟩,q) ⟨rfl,h.size,h.items,h.len,h.marksl,h.pos⟩ hL (LeL.refl _) rfl (.cons (.loc (Nat.lt_of_lt_of_le (by decide:0 < 6) (Nat.le_of_eq rfl))) .nil) .int (bO_cl _ _) (bO_cl _ _) hK
theorem relaxF_step (shut : List (List OVal)) (marks : List Int) (f : Nat) (s : Lay) : relaxF shut marks (f + 1) s = if ((placeL shut marks s).1.items.any (mustL (placeL shut marks s).1.syms)) = false ∨ 8000 < (placeL shut marks s).2
      then (⟨(placeL shut marks s).1.items.map (growI (placeL shut marks s).1.syms),(placeL shut marks s).1.syms⟩,(placeL shut marks s).2)
      else relaxF shut marks f ⟨(placeL shut marks s).1.items.map (growI (placeL shut marks s).1.syms),(placeL shut marks s).1.syms⟩:=rfl
theorem relax_meets:Meets Tryz.prog n_asm_builder_relax (SpecF (fun ((s,marks,shut,_,_,_,_):Lay×List Int×List (List OVal)×List OVal×Int×Int×List OEqu)=>LayIn shut marks s) (fun _=>[.loc 0 0])
  (fun (s,marks,shut,cur,fe,fa,q)=>bO q ⟨s.items,s.syms,marks,shut,false,cur,fe,fa⟩) (fun (s,marks,shut,_,_,_,_)=>.int .i64 (relaxL shut marks s).2)
  fun (s,marks,shut,cur,fe,fa,q)=>bO q ⟨(relaxL shut marks s).1.items,(relaxL shut marks s).1.syms,marks,shut,false,cur,fe,fa⟩):=by
 refine meets_f tabOk Tryz.func39 rfl (by decide) ?_
 rintro ⟨s,marks,shut,cur,fe,fa,q⟩ h
 have h:LayIn shut marks s:=h
 refine ⟨Nat.le_refl _,by simp [Tryz.f39],fun E hE=>?_⟩
 have hE6:E.L.length=6:=by rw [hE];rfl
 show AWP _ _ _ _ (FinQ _ _ _ (.int .i64 (relaxL shut marks s).2) (bO q ⟨(relaxL shut marks s).1.items,(relaxL shut marks s).1.syms,marks,shut,false,cur,fe,fa⟩)) _ (bO q ⟨s.items,s.syms,marks,shut,false,cur,fe,fa⟩)
 generalize hT:relaxL shut marks s=T
 have hT:relaxF shut marks (shortN s.items+1) s=T:=hT
 refine vcOk _ ?_
 (all_goals refine qgp (Lf.mk ?_))
 refine awp_loopW (α:=Nat×Lay) (fun p=>relaxF shut marks p.1 p.2=T∧shortN p.2.items < p.1∧LayIn shut marks p.2) (fun _=>[(0,.loc 0 0)]) (fun p=>bO q ⟨p.2.items,p.2.syms,marks,shut,false,cur,fe,fa⟩) (fun p=>p.1)
  (fun _=>by rw [hE6];exact Nat.le_refl 6) (shortN s.items+1,s) ⟨hT,Nat.lt_succ_self _,h⟩ ?_ ?_
 ·exact weak_same rfl ⟨rfl,trivial⟩
 rintro ⟨f,s1⟩ ⟨i1,i2,i3⟩
 dsimp only at i1 i2 i3 ⊢
 obtain ⟨f,rfl⟩:∃ g,f=g+1:=⟨f - 1,by omega⟩
 rw [relaxF_step] at i1
 have hpl:=i3.place
 have hat:∀ x∈(placeL shut marks s1).1.items,0≤x.at_∧x.at_≤1000000000000000:=fun x hx=>by
  obtain ⟨_,h1,h2⟩:=placeI_at s1.items 0 (Int.le_refl 0) i3.size x hx
  have:=i3.items
  exact ⟨h1,by omega⟩
 have hsh:shortN (placeL shut marks s1).1.items=shortN s1.items:=placeI_short shut s1.items 0
 refine vcOk _ ?_
 (all_goals refine qgp (Lf.mk ?_))
 refine call_place q s1 marks shut cur fe fa [] i3 rfl rfl ?_
 generalize placeL shut marks s1=P at *
 obtain ⟨⟨PI,PS⟩,n⟩:=P
 dsimp only at i1 hpl hat hsh ⊢
 have hPIl:PI.length≤1000000:=hpl.items
 have hgs:=grow_short PS PI
 have hgl:=hpl.grow (syms:=PS)
 dsimp only at hgl
 (all_goals refine qgp (Lf.mk ?_))
 refine awp_loopW (α:=Nat) (fun k=>k≤PI.length) (fun k=>[(0,.loc 0 0),(3,.int .i64 n),(4,.bool ((PI.take k).any (mustL PS))),(17,.int .i64 PI.length),(18,.int .i64 k)])
  (fun k=>bO q ⟨(PI.take k).map (growI PS)++PI.drop k,PS,marks,shut,false,cur,fe,fa⟩) (fun k=>PI.length - k) (fun _=>by rw [hE6];exact Nat.le_refl 6) 0 (Nat.zero_le _) ?_ ?_
 ·exact weak_leS rfl ⟨.refl _,.refl _,.ff rfl,.refl _,.refl _,trivial⟩
 intro k hk
 have hk:k≤PI.length:=hk
 refine vcOk _ ?_
 (all_goals refine qgp ?_<;>(repeat' first | exact trivial | intro hc | refine And.intro ?_ ?_)<;>refine Lf.mk ?_)
 ·have hkl:k < PI.length:=by omega
  obtain ⟨x,hx⟩:=at_of_lt (l:=PI) (k:=k) (by omega)
  have hgx:PI[k]=x:=by rw [List.getElem?_eq_getElem hkl] at hx;exact Option.some.inj hx
  have hxa:=hat x (List.mem_of_getElem? hx)
  have hdrop:PI.drop k=x::PI.drop (k+1):=by rw [List.drop_eq_getElem_cons hkl,hgx]
  have htake:(PI.take (k+1)).map (growI PS)=(PI.take k).map (growI PS)++[growI PS x]:=by rw [List.take_succ_eq_append_getElem hkl,hgx,List.map_append];rfl
  have hany:(PI.take (k+1)).any (mustL PS)=((PI.take k).any (mustL PS) || mustL PS x):=by rw [List.take_succ_eq_append_getElem hkl,hgx,List.any_append,List.any_cons,List.any_nil,Bool.or_false]
  have hGl:((PI.take k).map (growI PS)).length=k:=by rw [List.length_map,List.length_take];omega
  rw [hdrop]
  generalize (PI.take k).map (growI PS)=G at *
  generalize (PI.take k).any (mustL PS)=c at *
  have hmid:=get_mid (a:=G) (b:=PI.drop (k+1)) (x:=x) hGl
  have hget:(G++x::PI.drop (k+1))[(((0+((k:Nat):Int).toNat:Nat)):Int).toNat]?=some x:=by rw [Int.toNat_natCast,Nat.zero_add,Int.toNat_natCast];exact hmid
  have hno:mustL PS x=false→growI PS x=x:=fun h=>by unfold growI;rw [if_neg (by rw [h];decide)]
  have hyes:mustL PS x=true→growI PS x={ x with long:=true }:=fun h=>by unfold growI;rw [if_pos h]
  have hms:mustL PS x=decide (x.kind=2∧x.long=false∧(targetA PS x.val).2=0∧(awayA x.ins.op x.at_ (targetA PS x.val).1).2=3):=rfl
  have hLn:mustL PS x=false→bO q ⟨G++x::PI.drop (k+1),PS,marks,shut,false,cur,fe,fa⟩=bO q ⟨(PI.take (k+1)).map (growI PS)++PI.drop (k+1),PS,marks,shut,false,cur,fe,fa⟩:=fun h=>by rw [htake,hno h,List.append_assoc];rfl
  have hAn:mustL PS x=false→(PI.take (k+1)).any (mustL PS)=c:=fun h=>by rw [hany,h,Bool.or_false]
  have stop:∀ {σ:List (Nat×D)},mustL PS x=false→sameS σ [(0,.loc 0 0),(3,.int .i64 n),(4,.bool c),(17,.int .i64 PI.length),(18,.int .i64 ((k:Int)+1))] →
    LoopEnd E.L.length (fun k=>k≤PI.length) (fun k=>[(0,.loc 0 0),(3,.int .i64 n),(4,.bool ((PI.take k).any (mustL PS))),(17,.int .i64 PI.length),(18,.int .i64 k)])
     (fun k=>bO q ⟨(PI.take k).map (growI PS)++PI.drop k,PS,marks,shut,false,cur,fe,fa⟩) (fun k=>PI.length - k) k σ (bO q ⟨G++x::PI.drop (k+1),PS,marks,shut,false,cur,fe,fa⟩):=fun {σ} hm hs=>
   loop_same (k+1) (by show k+1≤_;omega) (by omega) (hLn hm) (by rw [hAn hm];exact hs)
  refine ix_map x (Int.natCast_nonneg _) hget ?_
  (all_goals refine qgp ?_<;>(repeat' first | exact trivial | intro hc | refine And.intro ?_ ?_)<;>refine Lf.mk ?_)
  ·refine stop (by rw [hms];simp [hc]) ?_
   exact ⟨rfl,rfl,rfl,rfl,rfl,trivial⟩
  refine ix_map x (Int.natCast_nonneg _) hget ?_
  (all_goals refine qgp ?_<;>(repeat' first | exact trivial | intro hc | refine And.intro ?_ ?_)<;>refine Lf.mk ?_)
  ·refine stop (by rw [hms];simp [hc]) ?_
   exact ⟨rfl,rfl,rfl,rfl,rfl,trivial⟩
  refine ix_map x (Int.natCast_nonneg _) hget ?_
  (all_goals refine qgp (Lf.mk ?_))
  refine call_target q ⟨G++x::PI.drop (k+1),PS,marks,shut,false,cur,fe,fa⟩ x.val [] (by show PS.length≤_;have:=hpl.len;have:=hpl.marksl;dsimp only at *;omega) rfl rfl ?_
  rw [show Bld.syms ⟨G++x::PI.drop (k+1),PS,marks,shut,false,cur,fe,fa⟩=PS from rfl]
  generalize targetA PS x.val=W at *
  obtain ⟨to,e⟩:=W
  dsimp only at hms ⊢
  (all_goals refine qgp ?_<;>(repeat' first | exact trivial | intro hc | refine And.intro ?_ ?_)<;>refine Lf.mk ?_)
  ·refine ix_map x (Int.natCast_nonneg _) hget ?_
   (all_goals refine qgp (Lf.mk ?_))
   refine ix_map x (Int.natCast_nonneg _) hget ?_
   (all_goals refine qgp (Lf.mk ?_))
   refine call_p away_meets (x.ins.op,x.at_,to) hxa (VS.mk (LeL.of_eq rfl)) ?_
   (all_goals refine qgk ?_<;>(repeat' first | exact trivial | intro hc | refine And.intro ?_ ?_)<;>refine Lf.mk ?_)
   ·have hm:mustL PS x=true:=by rw [hms];simp [*]
    refine ix_map x (Int.natCast_nonneg _) hget ?_
    (all_goals refine qgk (Lf.mk ?_))
    refine norm_mk ?_
    (all_goals refine qgk (Lf.mk ?_))
    refine loop_weak (k+1) (by show k+1≤_;omega) (by omega) (weak_trans (weak_els (k:=1) (e:=13) ((G++{ x with long:=true }::PI.drop (k+1)).map itemD) rfl (by simp) ?_) (weak_leS ?_ ⟨.refl _,.refl _,?_,.refl _,.refl _,trivial⟩))
    ·rw [← set_mid2 (f:=itemD) (x:=x) { x with long:=true } hGl rfl]
     exact set_leL (.cons (.refl _) (.cons (.refl _) (.cons (.refl _) (.cons (.refl _) (.cons (.refl _) (.cons (.refl _) (.cons (.refl _) (.cons (.tt rfl) (LeL.refl _)))))))))
    ·dsimp only
     rw [htake,hyes hm,List.append_assoc]
     exact congrArg (fun c=>Ob.cells c::bT ⟨G++{ x with long:=true }::PI.drop (k+1),PS,marks,shut,false,cur,fe,fa⟩) (bC_same (by simp) rfl rfl rfl rfl rfl rfl)
    ·rw [hany,hm,Bool.or_true]
     exact .tt rfl
   ·refine stop (by rw [hms];simp [hc]) ?_
    exact ⟨rfl,rfl,rfl,rfl,rfl,trivial⟩
  ·refine stop (by rw [hms];simp [hc]) ?_
   exact ⟨rfl,rfl,rfl,rfl,rfl,trivial⟩
 all_goals
  have hk2:k=PI.length:=by omega
  have hT:PI.take k=PI:=by rw [hk2,List.take_length]
  have hD:PI.drop k=[]:=by rw [hk2,List.drop_length]
  rw [hT,hD,List.append_nil]
 ·rw [hT] at hc
  rw [if_pos (.inl hc)] at i1
  subst i1
  exact end_eq rfl rfl
 ·rw [if_pos (.inr hc)] at i1
  subst i1
  exact end_eq rfl rfl
 ·have hany:(PI.take k).any (mustL PS)=true:=by assumption
  rw [hT] at hany
  rw [if_neg (fun h=>h.elim (fun h=>by rw [hany] at h;cases h) (fun h=>by omega))] at i1
  have:=hgs.2 hany
  exact loop_same (f,⟨PI.map (growI PS),PS⟩) ⟨i1,by dsimp only;omega,hgl⟩ (by dsimp only;omega) rfl ⟨rfl,trivial⟩
attribute [local irreducible] encV putN
def eC (q:List OEqu) (b:Bld) (o:Out):List D:=[.sl 2 (q.map equD) none,.osl 13 1 b.items.length 0 b.items.length,.osl 2 2 b.syms.length 0 b.syms.length,.sl 1 (b.marks.map (.int .i64)) (some 3),
 .osl 1 4 (poolsD b).length 0 (poolsD b).length,.int .i64 b.shut.length,.sl 1 (o.code.map byteD) (some 6),.nilsl,.sl 4 (o.rels.map relD) (some 5),.int .i64 o.fe,.int .i64 o.fa]
def eT (b:Bld) (o:Out):List Ob:=[.arr 13 (b.items.map itemD),.arr 2 (b.syms.map symD),.spare b.marks.length,.arr 1 (b.shut.map shutD),.spare o.rels.length,.spare o.code.length]
def eO (q:List OEqu) (b:Bld) (o:Out):List Ob:=.cells (eC q b o)::eT b o
theorem shuts_cl {n:Nat} (l:List (List OVal)):∀ d∈l.map shutD,ClL n d.cells:=by
 intro d hd
 obtain ⟨x,_,rfl⟩:=List.mem_map.1 hd
 exact .cons .sl .nil
theorem eO_cl (q:List OEqu) (b:Bld) (o:Out):∀ x∈eO q b o,ClO 7 x:=by
 intro x hx
 simp only [eO,eT,List.mem_cons,List.not_mem_nil,or_false] at hx
 rcases hx with rfl | rfl | rfl | rfl | rfl | rfl | rfl
 ·exact .cells (.cons .sl (.cons (.osl (by decide)) (.cons (.osl (by decide)) (.cons (.tok (by decide)) (.cons (.osl (by decide)) (.cons .int (.cons (.tok (by decide)) (.cons .nilsl (.cons (.tok (by decide)) (.cons .int (.cons .int .nil)))))))))))
 ·exact .arr (items_cl _)
 ·exact .arr (syms_cl _)
 ·exact .spare
 ·exact .arr (shuts_cl _)
 ·exact .spare
 ·exact .spare
theorem end_eO {n0:Nat} {q:List OEqu} {b:Bld} {o o':Out} {r d:D} {L:List Ob} (X:List Ob) (hL:L=eO q b o'++X) (ho:o'=o) (hr:r=d) (hn:n0≤7) (hd:ClD 7 d):EndS n0 r d L (eO q b o):=by
 subst ho;subst hr
 exact end_pre (eO q b o') X hL hn hd (eO_cl _ _ _)
theorem fail_eO (q:List OEqu) (b:Bld) (o:Out) (e line:Int):Ob.cells [.sl 2 (q.map equD) none,.osl 13 1 b.items.length 0 b.items.length,.osl 2 2 b.syms.length 0 b.syms.length,.sl 1 (b.marks.map (.int .i64)) (some 3),
  .osl 1 4 (poolsD b).length 0 (poolsD b).length,.int .i64 b.shut.length,.sl 1 (o.code.map byteD) (some 6),.nilsl,.sl 4 (o.rels.map relD) (some 5),.int .i64 (if o.fe=0 then e else o.fe),.int .i64 (if o.fe=0 then line else o.fa)]::eT b o=eO q b (failE o e line):=by
 unfold failE
 by_cases h:o.fe=0
 ·rw [if_pos h,if_pos h,if_pos h];rfl
 ·rw [if_neg h,if_neg h,if_neg h];rfl
theorem call_efail {av:List D} {L:List Ob} {KP:D→Prop} {KW:D→List Ob→Prop} (q:List OEqu) (b:Bld) (o:Out) (e line:Int) (X:List Ob) (hL:L=eO q b o++X) (has:av=[.loc 0 0,.int .i64 e,.int .i64 line])
  (hK:KW .ff (eO q b (failE o e line)++X)):CallS Tryz.prog n_asm_builder_fail av L KP KW:=by
 subst has
 refine call_b afail_meets X ((.sl 2 (q.map equD) none,.osl 13 1 b.items.length 0 b.items.length,.osl 2 2 b.syms.length 0 b.syms.length,.sl 1 (b.marks.map (.int .i64)) (some 3),
  .osl 1 4 (poolsD b).length 0 (poolsD b).length,.int .i64 b.shut.length,.sl 1 (o.code.map byteD) (some 6),.nilsl,.sl 4 (o.rels.map relD) (some 5)),o.fe,o.fa,e,line,eT b o) trivial hL (LeL.refl _) rfl ?_ .ff (eO_cl q b o) ?_ ?_
 ·exact .cons (.loc (Nat.lt_of_lt_of_le (by decide:0 < 7) (Nat.le_of_eq rfl))) (.cons .int (.cons .int .nil))
 ·dsimp only
  rw [fail_eO]
  exact eO_cl q b _
 ·dsimp only
  rw [fail_eO]
  exact hK
theorem half_meets:Meets Tryz.prog n_asm_builder_half (SpecF (fun ((_,o,_,_,_):Bld×Out×Ins×Int×List OEqu)=>o.code.length≤1000000000) (fun (_,_,i,line,_)=>[.loc 0 0,insD i,.int .i64 line])
  (fun (b,o,_,_,q)=>eO q b o) (fun _=>.tup []) fun (b,o,i,line,q)=>eO q b (halfE o i line)):=by
 refine meets_f tabOk Tryz.func76 rfl (by decide) ?_
 rintro ⟨b,o,i,line,q⟩ hl
 have hl:o.code.length≤1000000000:=hl
 refine ⟨Nat.le_refl _,by simp [Tryz.f76],fun E hE=>?_⟩
 show AWP _ _ _ _ (FinQ _ _ _ _ (eO q b (halfE o i line))) _ (eO q b o)
 have hH:halfE o i line=if wrongI i=0 then ⟨o.code++[lowByte (encV i / 256),lowByte (encV i)],o.rels,o.fe,o.fa⟩ else failE o (wrongI i) line:=rfl
 generalize halfE o i line=H at *
 refine vcOk _ ?_
 (all_goals refine qgp (Lf.mk ?_))
 refine call_p encode_meets i trivial (VS.mk (LeL.of_eq rfl)) ?_
 generalize wrongI i=W at *
 (all_goals refine qgp ?_<;>(repeat' first | exact trivial | intro hc | refine And.intro ?_ ?_)<;>refine Lf.mk ?_)
 ·rw [if_neg hc] at hH
  refine call_efail q b o W line [_] rfl rfl ?_
  rw [← hH]
  (all_goals refine qgp (Lf.mk ?_))
  exact end_eO [_] rfl rfl rfl (Nat.le_of_eq rfl) .tup0
 ·rw [if_pos hc] at hH
  subst hH
  have he:(if W=0 then encV i else 0)=encV i:=if_pos hc
  simp only [he]
  exact end_eO (o':=⟨o.code++[lowByte (encV i / 256),lowByte (encV i)],o.rels,o.fe,o.fa⟩) [_] rfl rfl rfl (Nat.le_of_eq rfl) .tup0
theorem insD_cl {n:Nat} (i:Ins):ClD n (insD i):=.agg (.cons .int (.cons .int (.cons .int (.cons .int .nil))))
theorem call_half {av:List D} {L:List Ob} {KP:D→Prop} {KW:D→List Ob→Prop} (q:List OEqu) (b:Bld) (o:Out) (i:Ins) (line:Int) (X:List Ob) (hl:o.code.length≤1000000000) (hL:L=eO q b o++X) (has:LeL av [.loc 0 0,insD i,.int .i64 line])
  (hK:KW (.tup []) (eO q b (halfE o i line)++X)):CallS Tryz.prog n_asm_builder_half av L KP KW:=by
 refine call_le has ?_
 exact call_b half_meets X (b,o,i,line,q) hl hL (LeL.refl _) rfl (.cons (.loc (Nat.lt_of_lt_of_le (by decide:0 < 7) (Nat.le_of_eq rfl))) (.cons (insD_cl i) (.cons .int .nil))) .tup0 (eO_cl _ _ _) (eO_cl _ _ _) hK
theorem half_len (o:Out) (i:Ins) (line:Int):(halfE o i line).code.length≤o.code.length+2:=by
 unfold halfE failE
 repeat' split
 all_goals simp
theorem lead_len (o:Out) (i:Ins) (a to line:Int):(leadE o i a to line).code.length≤o.code.length+2:=by
 unfold leadE
 split
 ·exact half_len _ _ _
 ·unfold failE;split<;>simp
attribute [local irreducible] halfE
theorem lead_meets:Meets Tryz.prog n_asm_builder_lead (SpecF (fun ((_,o,_,a,_,_,_):Bld×Out×Ins×Int×Int×Int×List OEqu)=>o.code.length≤1000000000∧0≤a∧a≤1000000000000000) (fun (_,_,i,a,to,line,_)=>[.loc 0 0,insD i,.int .i64 a,.int .i64 to,.int .i64 line])
  (fun (b,o,_,_,_,_,q)=>eO q b o) (fun _=>.tup []) fun (b,o,i,a,to,line,q)=>eO q b (leadE o i a to line)):=by
 refine meets_f tabOk Tryz.func79 rfl (by decide) ?_
 rintro ⟨b,o,i,a,to,line,q⟩ ⟨hl,h0,h1⟩
 have hl:o.code.length≤1000000000:=hl
 refine ⟨Nat.le_refl _,by simp [Tryz.f79],fun E hE=>?_⟩
 show AWP _ _ _ _ (FinQ _ _ _ _ (eO q b (leadE o i a to line))) _ (eO q b o)
 have hH:leadE o i a to line=if (awayA i.op a to).2=0 then halfE o ⟨i.op,i.n,i.m,(awayA i.op a to).1⟩ line else failE o (awayA i.op a to).2 line:=rfl
 generalize leadE o i a to line=H at *
 refine vcOk _ ?_
 (all_goals refine qgp (Lf.mk ?_))
 refine call_p away_meets (i.op,a,to) ⟨h0,h1⟩ (VS.mk (LeL.of_eq rfl)) ?_
 dsimp only
 generalize awayA i.op a to=W at *
 (all_goals refine qgp ?_<;>(repeat' first | exact trivial | intro hc | refine And.intro ?_ ?_)<;>refine Lf.mk ?_)
 ·rw [if_neg hc] at hH
  refine call_efail q b o W.2 line [_] rfl rfl ?_
  rw [← hH]
  (all_goals refine qgp (Lf.mk ?_))
  exact end_eO [_] rfl rfl rfl (Nat.le_of_eq rfl) .tup0
 ·rw [if_pos hc] at hH
  refine call_half q b o ⟨i.op,i.n,i.m,W.1⟩ line [_] hl rfl (LeL.of_eq rfl) ?_
  rw [← hH]
  (all_goals refine qgp (Lf.mk ?_))
  exact end_eO [_] rfl rfl rfl (Nat.le_of_eq rfl) .tup0
theorem call_lead {av:List D} {L:List Ob} {KP:D→Prop} {KW:D→List Ob→Prop} (q:List OEqu) (b:Bld) (o:Out) (i:Ins) (a to line:Int) (X:List Ob) (hl:o.code.length≤1000000000) (h0:0≤a) (h1:a≤1000000000000000) (hL:L=eO q b o++X)
  (has:LeL av [.loc 0 0,insD i,.int .i64 a,.int .i64 to,.int .i64 line]) (hK:KW (.tup []) (eO q b (leadE o i a to line)++X)):CallS Tryz.prog n_asm_builder_lead av L KP KW:=by
 refine call_le has ?_
 exact call_b lead_meets X (b,o,i,a,to,line,q) ⟨hl,h0,h1⟩ hL (LeL.refl _) rfl (.cons (.loc (Nat.lt_of_lt_of_le (by decide:0 < 7) (Nat.le_of_eq rfl))) (.cons (insD_cl i) (.cons .int (.cons .int (.cons .int .nil))))) .tup0 (eO_cl _ _ _) (eO_cl _ _ _) hK
attribute [local irreducible] leadE
theorem near_meets:Meets Tryz.prog n_asm_builder_near (SpecF (fun ((b,o,k,x,_,_):Bld×Out×Nat×AItem×Int×List OEqu)=>o.code.length≤900000000∧b.items[k]?=some x∧0≤x.at_∧x.at_≤100000000000000) (fun (b,_,k,_,to,_)=>[.loc 0 0,.aloc 1 b.items.length k 0,.int .i64 to])
  (fun (b,o,_,_,_,q)=>eO q b o) (fun _=>.tup []) fun (b,o,_,x,to,q)=>eO q b (nearE o x to)):=by
 refine meets_f tabOk Tryz.func80 rfl (by decide) ?_
 rintro ⟨b,o,k,x,to,q⟩ ⟨hl,hx,h0,h1⟩
 have hl:o.code.length≤900000000:=hl
 have hx:b.items[k]?=some x:=hx
 have h0:0≤x.at_:=h0
 have h1:x.at_≤100000000000000:=h1
 have hxn:b.items[((k:Nat):Int).toNat]?=some x:=by rw [Int.toNat_natCast];exact hx
 refine ⟨Nat.le_refl _,by simp [Tryz.f80],fun E hE=>?_⟩
 show AWP _ _ _ _ (FinQ _ _ _ _ (eO q b (nearE o x to))) _ (eO q b o)
 have hH:nearE o x to=if x.long=false then leadE o x.ins x.at_ to x.line else halfE (leadE (halfE o ⟨w64 (35 - x.ins.op),0,0,1⟩ x.line) ⟨19,0,0,0⟩ (x.at_+2) to x.line) ⟨1,0,0,0⟩ x.line:=rfl
 generalize nearE o x to=H at *
 have hl1:=half_len o ⟨w64 (35 - x.ins.op),0,0,1⟩ x.line
 have hl2:=lead_len (halfE o ⟨w64 (35 - x.ins.op),0,0,1⟩ x.line) ⟨19,0,0,0⟩ (x.at_+2) to x.line
 refine vcOk _ ?_
 (all_goals refine qgp (Lf.mk ?_))
 refine ix_map x (Int.natCast_nonneg k) hxn ?_
 (all_goals refine qgp ?_<;>(repeat' first | exact trivial | intro hc | refine And.intro ?_ ?_)<;>refine Lf.mk ?_)
 ·rw [if_pos hc] at hH
  refine ix_map x (Int.natCast_nonneg k) hxn ?_
  (all_goals refine qgp (Lf.mk ?_))
  refine ix_map x (Int.natCast_nonneg k) hxn ?_
  (all_goals refine qgp (Lf.mk ?_))
  refine ix_map x (Int.natCast_nonneg k) hxn ?_
  (all_goals refine qgp (Lf.mk ?_))
  refine call_lead q b o x.ins x.at_ to x.line [] (by omega) h0 (by omega) rfl (LeL.of_eq rfl) ?_
  rw [← hH]
  (all_goals refine qgp (Lf.mk ?_))
  exact end_eO [] rfl rfl rfl (Nat.le_of_eq rfl) .tup0
 ·rw [if_neg (by rw [hc];decide)] at hH
  refine ix_map x (Int.natCast_nonneg k) hxn ?_
  (all_goals refine qgp (Lf.mk ?_))
  refine ar_w ?_
  (all_goals refine qgp (Lf.mk ?_))
  refine ix_map x (Int.natCast_nonneg k) hxn ?_
  (all_goals refine qgp (Lf.mk ?_))
  refine call_half q b o ⟨w64 (35 - x.ins.op),0,0,1⟩ x.line [_] (by omega) rfl (LeL.of_eq rfl) ?_
  generalize halfE o ⟨w64 (35 - x.ins.op),0,0,1⟩ x.line=o1 at *
  (all_goals refine qgp (Lf.mk ?_))
  refine ix_map x (Int.natCast_nonneg k) hxn ?_
  (all_goals refine qgp (Lf.mk ?_))
  refine ix_map x (Int.natCast_nonneg k) hxn ?_
  (all_goals refine qgp (Lf.mk ?_))
  refine call_lead q b o1 ⟨19,0,0,0⟩ (x.at_+2) to x.line [_] (by omega) (by omega) (by omega) rfl (LeL.of_eq rfl) ?_
  generalize leadE o1 ⟨19,0,0,0⟩ (x.at_+2) to x.line=o2 at *
  (all_goals refine qgp (Lf.mk ?_))
  refine ix_map x (Int.natCast_nonneg k) hxn ?_
  (all_goals refine qgp (Lf.mk ?_))
  refine call_half q b o2 ⟨1,0,0,0⟩ x.line [_] (by omega) rfl (LeL.of_eq rfl) ?_
  rw [← hH]
  (all_goals refine qgp (Lf.mk ?_))
  exact end_eO [_] rfl rfl rfl (Nat.le_of_eq rfl) .tup0
end Go.Proofs.YtfahnaccpncdpaaGreatDoor
namespace Go.Proofs.YtfahnaccpncdpaaGreatDoor
open Go Go.Plat
set_option linter.unusedVariables false
set_option linter.unusedSimpArgs false
set_option maxRecDepth 100000
set_option maxHeartbeats 2000000
attribute [local irreducible] AWP Arith BitS BytesS CallS CatS DrawS EndS IdxS Lib.itoa LookS LoopEnd Meets ModeS NilS NormL NormM OExpr.kids OExpr.kind OExpr.n OExpr.name QuoS RemS ShlS ShrS SideS SplitS allA awayA bitI encV evalE exprD findI idxV infoR labelB nameB nodes oneA pRes putN regI signedI sizeA slotV takeA withV wrongI
theorem target_e {av:List D} {L:List Ob} {KP:D→Prop} {KW:D→List Ob→Prop} (q:List OEqu) (b:Bld) (o:Out) (v:OVal) (X:List Ob) (hl:b.syms.length≤1000000) (hL:L=eO q b o++X) (has:av=[.loc 0 0,valD v])
  (hK:KW (.tup [.int .i64 (targetA b.syms v).1,.int .i64 (targetA b.syms v).2]) (eO q b o++X)):CallS Tryz.prog n_asm_builder_target av L KP KW:=by
 subst has
 have hm:Meets Tryz.prog n_asm_builder_target (SpecF (fun ((b,_,_,_):Bld×Out×OVal×List OEqu)=>b.syms.length≤1000000) (fun (_,_,v,_)=>[.loc 0 0,valD v])
   (fun (b,o,_,q)=>eO q b o) (fun (b,_,v,_)=>.tup [.int .i64 (targetA b.syms v).1,.int .i64 (targetA b.syms v).2]) fun (b,o,_,q)=>eO q b o):=by
  clear hK hL hl
  refine meets_f tabOk Tryz.func71 rfl (by decide) ?_
  rintro ⟨b,o,v,q⟩ hl
  have hl:b.syms.length≤1000000:=hl
  refine ⟨Nat.le_refl _,by simp [Tryz.f71],fun E hE=>?_⟩
  show AWP _ _ _ _ (FinQ _ _ _ (.tup [.int .i64 (targetA b.syms v).1,.int .i64 (targetA b.syms v).2]) (eO q b o)) _ (eO q b o)
  have hT:targetA b.syms v=if v.name=[] then (0,8) else if idxN v.name b.syms 0 < 0 then (0,6) else (w64 ((symA b.syms (idxN v.name b.syms 0)).at_+v.n),0):=rfl
  generalize targetA b.syms v=T at *
  refine vcOk _ ?_
  (all_goals refine qgp ?_<;>(repeat' first | exact trivial | intro hc | refine And.intro ?_ ?_)<;>refine Lf.mk ?_)
  ·rw [if_pos hc] at hT
   subst hT
   exact end_eO [_] rfl rfl rfl (Nat.le_of_eq rfl) (.tup (.cons .int (.cons .int .nil)))
  rw [if_neg hc] at hT
  refine idx_syms n_asm_builder_target_1 [.loc 7 0] (fun s=>s.name==v.name) b.syms (.cells (eC q b o)) (.arr 13 (b.items.map itemD)) [.spare b.marks.length,.arr 1 (b.shut.map shutD),.spare o.rels.length,.spare o.code.length,.cells [.str v.name,.int .i64 v.n]] (by omega) rfl rfl
   (fun s hs KP KW hK=>?_) ?_
  ·exact call_f target1_meets [7] [7] (s,v) trivial rfl rfl ⟨VS.mk (LeL.refl _),VS.mk rfl,hK⟩
  have hp:=posF_bound (fun s:OSym=>s.name==v.name) b.syms 0
  have hT:T=if posF (fun s:OSym=>s.name==v.name) b.syms 0 < 0 then (0,6) else (w64 ((symA b.syms (posF (fun s:OSym=>s.name==v.name) b.syms 0)).at_+v.n),0):=hT
  generalize posF (fun s:OSym=>s.name==v.name) b.syms 0=p at *
  (all_goals refine qgp ?_<;>(repeat' first | exact trivial | intro hc | refine And.intro ?_ ?_)<;>refine Lf.mk ?_)
  ·rw [if_pos hc] at hT
   subst hT
   exact end_eO [_] rfl rfl rfl (Nat.le_of_eq rfl) (.tup (.cons .int (.cons .int .nil)))
  have hpl:p.toNat < b.syms.length:=by
   rcases hp with h | ⟨j,h1,h2⟩
   ·omega
   ·rw [h2,Int.toNat_natCast,Nat.zero_add];exact h1
  have hs:b.syms[p.toNat]?=some (symA b.syms p):=by unfold symA;rw [List.getElem?_eq_getElem hpl];rfl
  rw [if_neg hc] at hT
  refine ix_map (symA b.syms p) (Int.natCast_nonneg _) (by rw [Int.toNat_natCast,Nat.zero_add];exact hs) ?_
  (all_goals refine qgp (Lf.mk ?_))
  refine ar_w ?_
  (all_goals refine qgp (Lf.mk ?_))
  subst hT
  exact end_eO [_] rfl rfl rfl (Nat.le_of_eq rfl) (.tup (.cons .int (.cons .int .nil)))
 exact call_b hm X (b,o,v,q) hl hL (LeL.refl _) rfl (.cons (.loc (Nat.lt_of_lt_of_le (by decide:0 < 7) (Nat.le_of_eq rfl))) (.cons (valD_cl v) .nil)) (.tup (.cons .int (.cons .int .nil))) (eO_cl _ _ _) (eO_cl _ _ _) hK
attribute [local irreducible] targetA
theorem wordE_len (syms:List OSym) (o:Out) (v:OVal) (size:Nat):(wordE syms o v size).code.length=o.code.length+size:=by
 unfold wordE
 split
 ·dsimp only
  rw [putN_len]
  simp
 ·simp
theorem aword_meets:Meets Tryz.prog n_asm_builder_word (SpecF (fun ((b,o,_,size,_):Bld×Out×OVal×Nat×List OEqu)=>b.syms.length≤1000000∧o.code.length≤500000000∧o.rels.length≤500000000∧0 < size∧size≤4) (fun (_,_,v,size,_)=>[.loc 0 0,valD v,.int .i64 size])
  (fun (b,o,_,_,q)=>eO q b o) (fun _=>.tup []) fun (b,o,v,size,q)=>eO q b (wordE b.syms o v size)):=by
 refine meets_g 6 tabOk Tryz.func73 rfl (by decide) ?_
 rintro ⟨b,o,v,size,q⟩ ⟨hs,hl,hr,h0,h4⟩
 have hs:b.syms.length≤1000000:=hs
 have hl:o.code.length≤500000000:=hl
 have hr:o.rels.length≤500000000:=hr
 have h0:0 < size:=h0
 have h4:size≤4:=h4
 have hlen:=wordE_len b.syms o v size
 refine ⟨Nat.le_succ 6,?_,Nat.le_refl _,by simp [Tryz.f73],fun E hE=>?_⟩
 ·intro k hk hk2
  obtain rfl:k=6:=by
   have:k < 7:=hk2
   omega
  exact ⟨_,_,rfl,rfl,by rw [hlen];omega⟩
 show AWP _ _ _ _ (FinQ _ _ _ _ (eO q b (wordE b.syms o v size))) _ (eO q b o)
 have hW:wordE b.syms o v size=if v.name=[] then ⟨putN (o.code++List.replicate size 0) o.code.length size v.n,o.rels,o.fe,o.fa⟩
  else ⟨o.code++List.replicate size 0,o.rels++[relE b.syms o.code.length size v],o.fe,o.fa⟩:=rfl
 generalize wordE b.syms o v size=W at *
 refine vcOk _ ?_
 (all_goals refine qgk (Lf.mk ?_))
 refine norm_eq ((o.code++List.replicate size 0).map byteD) (by rw [List.map_append,List.map_replicate];rfl) ?_
 have hcl:(o.code++List.replicate size 0).length=o.code.length+size:=by simp
 rw [List.length_map]
 (all_goals refine qgk ?_<;>(repeat' first | exact trivial | intro hc | refine And.intro ?_ ?_)<;>refine Lf.mk ?_)
 ·rw [if_pos hc] at hW
  refine call_f put_meets [] [8] (o.code++List.replicate size 0,o.code.length,size,v.n) ⟨by show -1000000000000≤((o.code.length:Nat):Int);omega,by show ((o.code.length:Nat):Int)≤_;omega,by show size≤_;omega,by show (o.code++List.replicate size 0).length≤_;omega⟩ rfl rfl ?_
  refine And.intro (VS.mk (LeL.of_eq rfl)) (And.intro (VS.mk rfl) ?_)
  (all_goals refine qgk (Lf.mk ?_))
  have key:∀ k,k < 6→keepAt [0,1,2,3,4,5,8] 0 k=some k:=by decide
  subst hW
  have hpl:=putN_len o.code.length size (o.code++List.replicate size 0) v.n
  refine end_keepO [0,1,2,3,4,5,8] rfl rfl ?_ (ClD.tup0 (n:=6) _ key)
  refine .cons (o:=.cells [.sl 2 (q.map equD) none,.osl 13 1 b.items.length 0 b.items.length,.osl 2 2 b.syms.length 0 b.syms.length,.sl 1 (b.marks.map (.int .i64)) (some 3),.osl 1 4 (poolsD b).length 0 (poolsD b).length,.int .i64 b.shut.length,
   .sl 1 ((putN (o.code++List.replicate size 0) o.code.length size v.n).map byteD) (some 8),.nilsl,.sl 4 (o.rels.map relD) (some 5),.int .i64 o.fe,.int .i64 o.fa]) rfl
   ⟨_,rfl,.cons (ClD.sl (n:=6) _ key) (.cons (ClD.osl (n:=6) (by decide) _ key) (.cons (ClD.osl (n:=6) (by decide) _ key) (.cons (ClD.tok (n:=6) (by decide) _ key) (.cons (ClD.osl (n:=6) (by decide) _ key) (.cons (ClD.int (n:=6) _ key)
     (.cons (.tok rfl) (.cons (ClD.nilsl (n:=6) _ key) (.cons (ClD.tok (n:=6) (by decide) _ key) (.cons (ClD.int (n:=6) _ key) (.cons (ClD.int (n:=6) _ key) .nil))))))))))⟩
   (.cons (o:=.arr 13 (b.items.map itemD)) rfl (ClO.arr (n:=6) (items_cl _) _ key) (.cons (o:=.arr 2 (b.syms.map symD)) rfl (ClO.arr (n:=6) (syms_cl _) _ key) (.cons (o:=.spare b.marks.length) rfl rfl
   (.cons (o:=.arr 1 (b.shut.map shutD)) rfl (ClO.arr (n:=6) (shuts_cl _) _ key) (.cons (o:=.spare o.rels.length) rfl rfl (.cons (o:=.spare (o.code++List.replicate size 0).length) rfl (by rw [hpl];rfl) .nil))))))
 ·rw [if_neg hc] at hW
  refine target_e q b ⟨o.code++List.replicate size 0,o.rels,o.fe,o.fa⟩ v [_,_] hs rfl rfl ?_
  have hR:relE b.syms o.code.length size v=if (targetA b.syms v).2=0 then ⟨o.code.length,size,[],signedI (targetA b.syms v).1 32⟩ else ⟨o.code.length,size,v.name,v.n⟩:=rfl
  generalize targetA b.syms v=T at *
  (all_goals refine qgk ?_<;>(repeat' first | exact trivial | intro hc | refine And.intro ?_ ?_)<;>refine Lf.mk ?_)
  ·rw [if_pos hc] at hR
   refine call_p signed_meets2 T.1 trivial (VS.mk (LeL.of_eq rfl)) ?_
   (all_goals refine qgk (Lf.mk ?_))
   refine norm_eq ((o.rels++[relE b.syms o.code.length size v]).map relD) (by rw [hR,List.map_append];rfl) ?_
   rw [List.length_map]
   (all_goals refine qgk (Lf.mk ?_))
   subst hW
   exact end_eO (o':=⟨o.code++List.replicate size 0,o.rels++[relE b.syms o.code.length size v],o.fe,o.fa⟩) [_,_] rfl rfl rfl (by decide) .tup0
  ·rw [if_neg hc] at hR
   refine norm_eq ((o.rels++[relE b.syms o.code.length size v]).map relD) (by rw [hR,List.map_append];rfl) ?_
   rw [List.length_map]
   (all_goals refine qgk (Lf.mk ?_))
   subst hW
   exact end_eO (o':=⟨o.code++List.replicate size 0,o.rels++[relE b.syms o.code.length size v],o.fe,o.fa⟩) [_,_] rfl rfl rfl (by decide) .tup0
attribute [local irreducible] halfE leadE nearE
theorem fillE_zero {o:Out} {to:Int} (h:to≤o.code.length):fillE o to=o:=by
 unfold fillE
 rw [show (to - (o.code.length:Int)).toNat=0 by omega]
 simp
theorem fillE_more {o:Out} {to:Int} (h:(o.code.length:Int) < to):fillE ⟨o.code++[0],o.rels,o.fe,o.fa⟩ to=fillE o to:=by
 unfold fillE
 have:(to - (o.code.length:Int)).toNat=(to - ((o.code++[0]).length:Int)).toNat+1:=by simp;omega
 rw [this,List.replicate_succ]
 simp
theorem fill_le {o:Out} {to:Int} {m:Nat} (h1:o.code.length≤m) (h2:to≤m):(fillE o to).code.length≤m:=by
 unfold fillE
 simp only [List.length_append,List.length_replicate]
 omega
theorem fill_rels (o:Out) (to:Int):(fillE o to).rels=o.rels:=by unfold fillE;rfl
theorem word_rels (syms:List OSym) (o:Out) (v:OVal) (size:Nat):(wordE syms o v size).rels.length≤o.rels.length+1:=by
 unfold wordE
 split
 ·exact Nat.le_succ _
 ·simp
theorem afill_meets:Meets Tryz.prog n_asm_builder_fill (SpecF (fun ((_,o,to,_):Bld×Out×Int×List OEqu)=>o.code.length≤1000000000∧to≤1000000000) (fun (_,_,to,_)=>[.loc 0 0,.int .i64 to])
  (fun (b,o,_,q)=>eO q b o) (fun _=>.tup []) fun (b,o,to,q)=>eO q b (fillE o to)):=by
 refine meets_f tabOk Tryz.func74 rfl (by decide) ?_
 rintro ⟨b,o,to,q⟩ ⟨hl,ht⟩
 have hl:o.code.length≤1000000000:=hl
 have ht:to≤1000000000:=ht
 refine ⟨Nat.le_refl _,by simp [Tryz.f74],fun E hE=>?_⟩
 have hE7:E.L.length=7:=by rw [hE];rfl
 show AWP _ _ _ _ (FinQ _ _ _ _ (eO q b (fillE o to))) _ (eO q b o)
 generalize hF:fillE o to=F
 refine vcOk _ ?_
 (all_goals refine qgp (Lf.mk ?_))
 refine awp_loopW (α:=Out) (fun p=>fillE p to=F∧p.code.length≤1000000000) (fun _=>[(0,.loc 0 0),(1,.int .i64 to)]) (fun p=>eO q b p) (fun p=>(to - (p.code.length:Int)).toNat) (fun _=>by rw [hE7];exact Nat.le_refl 7) o ⟨hF,hl⟩ ?_ ?_
 ·exact weak_same rfl ⟨rfl,rfl,trivial⟩
 rintro p ⟨i1,i2⟩
 refine vcOk _ ?_
 (all_goals refine qgk ?_<;>(repeat' first | exact trivial | intro hc | refine And.intro ?_ ?_)<;>refine Lf.mk ?_)
 ·refine norm_eq ((p.code++[0]).map byteD) (by rw [List.map_append];rfl) ?_
  rw [List.length_map]
  (all_goals refine qgk (Lf.mk ?_))
  exact loop_same (⟨p.code++[0],p.rels,p.fe,p.fa⟩:Out) ⟨by rw [fillE_more hc];exact i1,by show (p.code++[0]).length≤_;simp;omega⟩ (by show (to - ((p.code++[0]).length:Int)).toNat < _;simp;omega) rfl ⟨rfl,rfl,trivial⟩
 ·rw [fillE_zero (by omega)] at i1
  subst i1
  exact end_eq rfl rfl
theorem call_fill {av:List D} {L:List Ob} {KP:D→Prop} {KW:D→List Ob→Prop} (q:List OEqu) (b:Bld) (o:Out) (to:Int) (X:List Ob) (hl:o.code.length≤1000000000) (ht:to≤1000000000) (hL:L=eO q b o++X) (has:av=[.loc 0 0,.int .i64 to])
  (hK:KW (.tup []) (eO q b (fillE o to)++X)):CallS Tryz.prog n_asm_builder_fill av L KP KW:=by
 subst has
 exact call_b afill_meets X (b,o,to,q) ⟨hl,ht⟩ hL (LeL.refl _) rfl (.cons (.loc (Nat.lt_of_lt_of_le (by decide:0 < 7) (Nat.le_of_eq rfl))) (.cons .int .nil)) .tup0 (eO_cl _ _ _) (eO_cl _ _ _) hK
theorem call_word {av:List D} {L:List Ob} {KP:D→Prop} {KW:D→List Ob→Prop} (q:List OEqu) (b:Bld) (o:Out) (v:OVal) (size:Nat) (X:List Ob) (hs:b.syms.length≤1000000) (hl:o.code.length≤500000000) (hr:o.rels.length≤500000000) (h0:0 < size) (h4:size≤4) (hL:L=eO q b o++X)
  (has:LeL av [.loc 0 0,valD v,.int .i64 size]) (hK:KW (.tup []) (eO q b (wordE b.syms o v size)++X)):CallS Tryz.prog n_asm_builder_word av L KP KW:=by
 refine call_le has ?_
 exact call_b aword_meets X (b,o,v,size,q) ⟨hs,hl,hr,h0,h4⟩ hL (LeL.refl _) rfl (.cons (.loc (Nat.lt_of_lt_of_le (by decide:0 < 7) (Nat.le_of_eq rfl))) (.cons (valD_cl v) (.cons .int .nil))) .tup0 (eO_cl _ _ _) (eO_cl _ _ _) hK
theorem call_near {av:List D} {L:List Ob} {KP:D→Prop} {KW:D→List Ob→Prop} (q:List OEqu) (b:Bld) (o:Out) (k:Nat) (x:AItem) (to:Int) (X:List Ob) (hl:o.code.length≤900000000) (hx:b.items[k]?=some x) (h0:0≤x.at_) (h1:x.at_≤100000000000000) (hL:L=eO q b o++X)
  (has:av=[.loc 0 0,.aloc 1 b.items.length k 0,.int .i64 to]) (hK:KW (.tup []) (eO q b (nearE o x to)++X)):CallS Tryz.prog n_asm_builder_near av L KP KW:=by
 subst has
 exact call_b near_meets X (b,o,k,x,to,q) ⟨hl,hx,h0,h1⟩ hL (LeL.refl _) rfl (.cons (.loc (Nat.lt_of_lt_of_le (by decide:0 < 7) (Nat.le_of_eq rfl))) (.cons (.aloc (Nat.lt_of_lt_of_le (by decide:1 < 7) (Nat.le_of_eq rfl))) (.cons .int .nil))) .tup0 (eO_cl _ _ _) (eO_cl _ _ _) hK
def boxO (b:Bld) (k:Nat):Ob:=.cells [.aloc 1 b.items.length k 0]
theorem eOb_cl (q:List OEqu) (b:Bld) (o:Out) (k:Nat):∀ x∈eO q b o++[boxO b k],ClO (eO q b o++[boxO b k]).length x:=by
 intro x hx
 have hl:(eO q b o++[boxO b k]).length=8:=rfl
 rw [hl]
 rcases List.mem_append.1 hx with hx | hx
 ·exact ClO.up (eO_cl q b o x hx) (by decide)
 ·rw [List.mem_singleton] at hx
  subst hx
  exact .cells (.cons (.aloc (by decide)) .nil)
theorem call_emit1 {av:List D} {L:List Ob} {KP:D→Prop} {KW:D→List Ob→Prop} (q:List OEqu) (b:Bld) (o:Out) (k:Nat) (x y:AItem) (hx:b.items[k]?=some x) (hL:L=eO q b o++[boxO b k]) (has:av=[itemD y,.loc 7 0])
  (hK:KW (.bool (y.kind==9 && y.pool==x.pool)) L):CallS Tryz.prog n_asm_builder_emit_1 av L KP KW:=by
 subst has
 refine call_inline tabOk Tryz.func78 rfl (by decide) (.bool (y.kind==9 && y.pool==x.pool)) L (Nat.le_refl _) (by simp [Tryz.f78]) (fun E hE=>?_) hK
 subst hL
 have hxn:b.items[((k:Nat):Int).toNat]?=some x:=by rw [Int.toNat_natCast];exact hx
 refine vcOk _ ?_
 (all_goals refine qgp ?_<;>(repeat' first | exact trivial | intro hc | refine And.intro ?_ ?_)<;>refine Lf.mk ?_)
 ·refine ix_map x (Int.natCast_nonneg k) hxn ?_
  (all_goals refine qgp (Lf.mk ?_))
  have he:(y.kind==9 && y.pool==x.pool)=(y.pool==x.pool):=by rw [hc];simp
  rw [he]
  exact end_pre (eO q b o++[boxO b k]) [_] rfl (Nat.le_refl _) .bool (eOb_cl q b o k)
 ·have he:(y.kind==9 && y.pool==x.pool)=false:=by simp [hc]
  rw [he]
  exact end_le (.ff rfl) (end_pre (eO q b o++[boxO b k]) [_] rfl (Nat.le_refl _) .bool (eOb_cl q b o k)) (Nat.le_refl _)
structure EmitIn (b:Bld) (x:AItem):Prop where
 size:SizeOk b.shut x
 lo:0≤x.at_
 hi:x.at_≤100000000
 idx:0≤x.idx∧x.idx≤100000000
 pool:x.kind=6→0≤idxP x.pool b.items 0
def emB (b:Bld) (o:Out) (x:AItem):Out:=emitE b.shut b.items b.syms o x
attribute [local irreducible] fillE wordE
theorem aemit_meets:Meets Tryz.prog n_asm_builder_emit (SpecF (fun ((b,o,k,x,_):Bld×Out×Nat×AItem×List OEqu)=>b.has=false∧b.items[k]?=some x∧(∀ y∈b.items,EmitIn b y)∧b.items.length≤1000000∧b.syms.length≤1000000∧o.code.length≤400000000∧o.rels.length≤400000000) (fun (b,_,k,_,_)=>[.loc 0 0,.aloc 1 b.items.length k 0])
  (fun (b,o,_,_,q)=>eO q b o) (fun _=>.tup []) fun (b,o,_,x,q)=>eO q b (emB b o x)):=by
 refine meets_f tabOk Tryz.func40 rfl (by decide) ?_
 rintro ⟨b,o,k,x,q⟩ ⟨hh,hx,hin,hil,hsl,hcl,hrl⟩
 have hh:b.has=false:=hh
 have hx:b.items[k]?=some x:=hx
 have hin:∀ y∈b.items,EmitIn b y:=hin
 have hil:b.items.length≤1000000:=hil
 have hsl:b.syms.length≤1000000:=hsl
 have hcl:o.code.length≤400000000:=hcl
 have hrl:o.rels.length≤400000000:=hrl
 have hxe:=hin x (List.mem_of_getElem? hx)
 obtain ⟨⟨hs8,hs7,hs9,hsp⟩,hlo,hhi,⟨hi0,hi1⟩,hpool⟩:=hxe
 have hxn:b.items[((k:Nat):Int).toNat]?=some x:=by rw [Int.toNat_natCast];exact hx
 refine ⟨Nat.le_refl _,by simp [Tryz.f40],fun E hE=>?_⟩
 have hE7:E.L.length=7:=by rw [hE];rfl
 show AWP _ _ _ _ (FinQ _ _ _ _ (eO q b (emB b o x))) _ (eO q b o)
 have hH:emB b o x=if x.kind=7 then (if x.at_ % x.size≠0 then failE o 11 x.line else wordE b.syms o x.val x.size.toNat)
  else if x.kind=8 then fillE o (upA x.at_ x.size)
  else if x.kind=9 then ((b.shut[x.pool.toNat]?).getD []).foldl (fun o v=>wordE b.syms o v 4) (fillE o (upA x.at_ 4))
  else if x.at_ % 2≠0 then failE o 11 x.line
  else if x.kind=1 then halfE o x.ins x.line
  else if x.kind=6 then leadE o x.ins x.at_ (upA (itA b.items (idxP x.pool b.items 0)).at_ 4+4 * x.idx) x.line
  else if (targetA b.syms x.val).2≠0 then failE o (targetA b.syms x.val).2 x.line
  else if x.kind=2 then nearE o x (targetA b.syms x.val).1
  else leadE o x.ins x.at_ (targetA b.syms x.val).1 x.line:=rfl
 generalize emB b o x=H at *
 refine vcOk _ ?_
 (all_goals refine qgp (Lf.mk ?_))
 refine ix_map x (Int.natCast_nonneg k) hxn ?_
 (all_goals refine qgp ?_<;>(repeat' first | exact trivial | intro hc | refine And.intro ?_ ?_)<;>refine Lf.mk ?_)
 ·rw [if_pos hc] at hH
  have h7:=hs7 hc
  refine ix_map x (Int.natCast_nonneg k) hxn ?_
  (all_goals refine qgp (Lf.mk ?_))
  refine ix_map x (Int.natCast_nonneg k) hxn ?_
  (all_goals refine qgp ?_<;>(repeat' first | exact trivial | intro hc | refine And.intro ?_ ?_)<;>refine Lf.mk ?_)
  ·rw [if_pos hc] at hH
   refine ix_map x (Int.natCast_nonneg k) hxn ?_
   (all_goals refine qgp (Lf.mk ?_))
   refine call_efail q b o 11 x.line [_] rfl rfl ?_
   rw [← hH]
   (all_goals refine qgp (Lf.mk ?_))
   exact end_eO [_] rfl rfl rfl (Nat.le_of_eq rfl) .tup0
  ·rw [if_neg (fun h=>h hc)] at hH
   refine ix_map x (Int.natCast_nonneg k) hxn ?_
   (all_goals refine qgp (Lf.mk ?_))
   refine ix_map x (Int.natCast_nonneg k) hxn ?_
   (all_goals refine qgp (Lf.mk ?_))
   refine call_word q b o x.val x.size.toNat [_] hsl (by omega) (by omega) (by omega) (by omega) rfl (LeL.of_eq (by rw [Int.toNat_of_nonneg (by omega)];rfl)) ?_
   rw [← hH]
   (all_goals refine qgp (Lf.mk ?_))
   exact end_eO [_] rfl rfl rfl (Nat.le_of_eq rfl) .tup0
 ·rw [if_neg (by assumption),if_pos hc] at hH
  have h8:=hs8 hc
  have hu:=upA_le (n:=x.at_) h8.1
  refine ix_map x (Int.natCast_nonneg k) hxn ?_
  (all_goals refine qgp (Lf.mk ?_))
  refine ix_map x (Int.natCast_nonneg k) hxn ?_
  (all_goals refine qgp (Lf.mk ?_))
  refine call_p up_meets (x.at_,x.size) ⟨hlo,by show x.at_≤_;omega,h8.1,by show x.size≤_;omega⟩ (VS.mk (LeL.of_eq rfl)) ?_
  (all_goals refine qgp (Lf.mk ?_))
  refine call_fill q b o (upA x.at_ x.size) [_] (by omega) (by omega) rfl rfl ?_
  rw [← hH]
  (all_goals refine qgp (Lf.mk ?_))
  exact end_eO [_] rfl rfl rfl (Nat.le_of_eq rfl) .tup0
 ·rw [if_neg (by assumption),if_neg (by assumption),if_pos hc] at hH
  have h9:=hs9 hc
  have hu:=upA_le (n:=x.at_) (k:=4) (by decide)
  have hpl:poolsD b=b.shut.map shutD:=by unfold poolsD;rw [hh]
  have hlt:x.pool.toNat < b.shut.length:=by omega
  have hgp:b.shut[x.pool.toNat]?=some ((b.shut[x.pool.toNat]?).getD []):=by rw [List.getElem?_eq_getElem hlt];rfl
  have hpm:=hsp _ (List.mem_of_getElem? hgp)
  generalize (b.shut[x.pool.toNat]?).getD []=p at *
  refine ix_map x (Int.natCast_nonneg k) hxn ?_
  (all_goals refine qgp (Lf.mk ?_))
  refine call_p up_meets (x.at_,4) ⟨hlo,by show x.at_≤_;omega,by decide,by decide⟩ (VS.mk (LeL.of_eq rfl)) ?_
  (all_goals refine qgp (Lf.mk ?_))
  refine call_fill q b o (upA x.at_ 4) [_] (by omega) (by omega) rfl rfl ?_
  have hfl:=fill_le (o:=o) (to:=upA x.at_ 4) (m:=400000000) hcl (by omega)
  have hfr:=fill_rels o (upA x.at_ 4)
  generalize fillE o (upA x.at_ 4)=o1 at *
  (all_goals refine qgp (Lf.mk ?_))
  refine ix_map x (Int.natCast_nonneg k) hxn ?_
  (all_goals refine qgp (Lf.mk ?_))
  refine sd_mk ⟨h9.1,by rw [hpl,List.length_map];exact h9.2⟩ ?_
  (all_goals refine qgp (Lf.mk ?_))
  refine sd_mk (by rw [hpl]) ?_
  refine VS.mk ?_
  refine ix_map (enc:=shutD) (l:=b.shut) (n:=((0+x.pool.toNat:Nat):Int)) p (Int.natCast_nonneg _) (by rw [Int.toNat_natCast,Nat.zero_add];exact hgp) ?_
  (all_goals refine qgp (Lf.mk ?_))
  refine awp_loopW (α:=Nat×Out) (fun r=>r.1≤p.length∧(p.drop r.1).foldl (fun o v=>wordE b.syms o v 4) r.2=H∧r.2.code.length≤400000000+4 * r.1∧r.2.rels.length≤400000000+r.1)
   (fun r=>[(0,.loc 0 0),(72,.sl 2 (p.map valD) none),(73,.int .i64 p.length),(74,.int .i64 r.1)]) (fun r=>eO q b r.2) (fun r=>p.length - r.1) (fun _=>by rw [hE7];exact Nat.le_refl 7) (0,o1) ⟨Nat.zero_le _,hH.symm,by dsimp only;omega,by dsimp only;rw [hfr];omega⟩ ?_ ?_
  ·exact weak_pre (eO q b o1) [boxO b k] rfl (by rw [hE7];exact Nat.le_refl 7) (eO_cl _ _ _) ⟨rfl,rfl,rfl,rfl,trivial⟩ (.cons (.loc (Nat.lt_of_lt_of_le (by decide:0 < 7) (Nat.le_of_eq rfl))) (.cons .sl (.cons .int (.cons .int .nil))))
  rintro ⟨j,o2⟩ ⟨j1,j2,j3,j4⟩
  dsimp only at j1 j2 j3 j4 ⊢
  refine vcOk _ ?_
  (all_goals refine qgp ?_<;>(repeat' first | exact trivial | intro hc | refine And.intro ?_ ?_)<;>refine Lf.mk ?_)
  ·obtain ⟨v,hv⟩:=at_of_lt (l:=p) (k:=j) (by omega)
   have hjl:j < p.length:=by omega
   have hgv:p[j]=v:=by rw [List.getElem?_eq_getElem hjl] at hv;exact Option.some.inj hv
   rw [List.drop_eq_getElem_cons hjl,hgv,List.foldl_cons] at j2
   have hwl:=wordE_len b.syms o2 v 4
   have hwr:=word_rels b.syms o2 v 4
   refine ix_map v (by omega) (by simpa using hv) ?_
   (all_goals refine qgp (Lf.mk ?_))
   refine call_word q b o2 v 4 [_] hsl (by omega) (by omega) (by decide) (by decide) rfl (LeL.of_eq rfl) ?_
   generalize wordE b.syms o2 v 4=o3 at *
   (all_goals refine qgp (Lf.mk ?_))
   exact loop_pre (j+1,o3) [_] ⟨by show j+1≤_;omega,j2,by dsimp only;omega,by dsimp only;omega⟩ (by dsimp only;omega) rfl (by rw [hE7];exact Nat.le_refl 7) (eO_cl _ _ _) ⟨rfl,rfl,rfl,rfl,trivial⟩
    (.cons (.loc (Nat.lt_of_lt_of_le (by decide:0 < 7) (Nat.le_of_eq rfl))) (.cons .sl (.cons .int (.cons .int .nil))))
  ·have hj:j=p.length:=by omega
   rw [hj,List.drop_length] at j2
   exact end_eO [] rfl j2 rfl (Nat.le_of_eq rfl) .tup0
 ·rw [if_neg (by assumption),if_neg (by assumption),if_neg hc] at hH
  refine ix_map x (Int.natCast_nonneg k) hxn ?_
  (all_goals refine qgp ?_<;>(repeat' first | exact trivial | intro hc | refine And.intro ?_ ?_)<;>refine Lf.mk ?_)
  ·rw [if_pos hc] at hH
   refine ix_map x (Int.natCast_nonneg k) hxn ?_
   (all_goals refine qgp (Lf.mk ?_))
   refine call_efail q b o 11 x.line [_] rfl rfl ?_
   rw [← hH]
   (all_goals refine qgp (Lf.mk ?_))
   exact end_eO [_] rfl rfl rfl (Nat.le_of_eq rfl) .tup0
  ·rw [if_neg (fun h=>h hc)] at hH
   refine ix_map x (Int.natCast_nonneg k) hxn ?_
   (all_goals refine qgp ?_<;>(repeat' first | exact trivial | intro hc | refine And.intro ?_ ?_)<;>refine Lf.mk ?_)
   ·rw [if_pos hc] at hH
    refine ix_map x (Int.natCast_nonneg k) hxn ?_
    (all_goals refine qgp (Lf.mk ?_))
    refine ix_map x (Int.natCast_nonneg k) hxn ?_
    (all_goals refine qgp (Lf.mk ?_))
    refine call_half q b o x.ins x.line [_] (by omega) rfl (LeL.of_eq rfl) ?_
    rw [← hH]
    (all_goals refine qgp (Lf.mk ?_))
    exact end_eO [_] rfl rfl rfl (Nat.le_of_eq rfl) .tup0
   ·rw [if_neg (by assumption),if_pos hc] at hH
    have hp6:=hpool hc
    have hpos:=posF_bound (fun y:AItem=>y.kind==9 && y.pool==x.pool) b.items 0
    have hidx:idxP x.pool b.items 0=posF (fun y:AItem=>y.kind==9 && y.pool==x.pool) b.items 0:=rfl
    rw [hidx] at hp6 hH
    refine idx_items n_asm_builder_emit_1 [.loc 7 0] (fun y=>y.kind==9 && y.pool==x.pool) b.items (.cells (eC q b o)) [.arr 2 (b.syms.map symD),.spare b.marks.length,.arr 1 (b.shut.map shutD),.spare o.rels.length,.spare o.code.length,boxO b k] (by omega) rfl rfl
     (fun y hy KP KW hK=>call_emit1 q b o k x y hx rfl rfl hK) ?_
    generalize posF (fun y:AItem=>y.kind==9 && y.pool==x.pool) b.items 0=z at *
    have hz:z.toNat < b.items.length:=by
     rcases hpos with h | ⟨j,h1,h2⟩
     ·omega
     ·rw [h2,Int.toNat_natCast,Nat.zero_add];exact h1
    have hit:b.items[z.toNat]?=some (itA b.items z):=by unfold itA;rw [List.getElem?_eq_getElem hz];rfl
    have hie:=hin _ (List.mem_of_getElem? hit)
    have hilo:=hie.lo
    have hihi:=hie.hi
    have hu:=upA_le (n:=(itA b.items z).at_) (k:=4) (by decide)
    (all_goals refine qgp (Lf.mk ?_))
    refine ix_map x (Int.natCast_nonneg k) hxn ?_
    (all_goals refine qgp (Lf.mk ?_))
    refine ix_map x (Int.natCast_nonneg k) hxn ?_
    (all_goals refine qgp (Lf.mk ?_))
    refine ix_map (itA b.items z) (Int.natCast_nonneg _) (by rw [Int.toNat_natCast,Nat.zero_add];exact hit) ?_
    (all_goals refine qgp (Lf.mk ?_))
    refine call_p up_meets ((itA b.items z).at_,4) ⟨hilo,by show (itA b.items z).at_≤_;omega,by decide,by decide⟩ (VS.mk (LeL.of_eq rfl)) ?_
    (all_goals refine qgp (Lf.mk ?_))
    refine ix_map x (Int.natCast_nonneg k) hxn ?_
    (all_goals refine qgp (Lf.mk ?_))
    refine ix_map x (Int.natCast_nonneg k) hxn ?_
    (all_goals refine qgp (Lf.mk ?_))
    refine call_lead q b o x.ins x.at_ (upA (itA b.items z).at_ 4+4 * x.idx) x.line [_] (by omega) hlo (by omega) rfl (LeL.of_eq rfl) ?_
    rw [← hH]
    (all_goals refine qgp (Lf.mk ?_))
    exact end_eO [_] rfl rfl rfl (Nat.le_of_eq rfl) .tup0
   ·rw [if_neg (by assumption),if_neg hc] at hH
    refine ix_map x (Int.natCast_nonneg k) hxn ?_
    (all_goals refine qgp (Lf.mk ?_))
    refine target_e q b o x.val [_] hsl rfl rfl ?_
    generalize targetA b.syms x.val=T at *
    (all_goals refine qgp ?_<;>(repeat' first | exact trivial | intro hc | refine And.intro ?_ ?_)<;>refine Lf.mk ?_)
    ·rw [if_pos hc] at hH
     refine ix_map x (Int.natCast_nonneg k) hxn ?_
     (all_goals refine qgp (Lf.mk ?_))
     refine call_efail q b o T.2 x.line [_] rfl rfl ?_
     rw [← hH]
     (all_goals refine qgp (Lf.mk ?_))
     exact end_eO [_] rfl rfl rfl (Nat.le_of_eq rfl) .tup0
    ·rw [if_neg (fun h=>h hc)] at hH
     refine ix_map x (Int.natCast_nonneg k) hxn ?_
     (all_goals refine qgp ?_<;>(repeat' first | exact trivial | intro hc | refine And.intro ?_ ?_)<;>refine Lf.mk ?_)
     ·rw [if_pos hc] at hH
      refine call_near q b o k x T.1 [_] (by omega) hx hlo (by omega) rfl rfl ?_
      rw [← hH]
      (all_goals refine qgp (Lf.mk ?_))
      exact end_eO [_] rfl rfl rfl (Nat.le_of_eq rfl) .tup0
     ·rw [if_neg hc] at hH
      refine ix_map x (Int.natCast_nonneg k) hxn ?_
      (all_goals refine qgp (Lf.mk ?_))
      refine ix_map x (Int.natCast_nonneg k) hxn ?_
      (all_goals refine qgp (Lf.mk ?_))
      refine ix_map x (Int.natCast_nonneg k) hxn ?_
      (all_goals refine qgp (Lf.mk ?_))
      refine call_lead q b o x.ins x.at_ T.1 x.line [_] (by omega) hlo (by omega) rfl (LeL.of_eq rfl) ?_
      rw [← hH]
      (all_goals refine qgp (Lf.mk ?_))
      exact end_eO [_] rfl rfl rfl (Nat.le_of_eq rfl) .tup0
end Go.Proofs.YtfahnaccpncdpaaGreatDoor
namespace Go.Proofs.YtfahnaccpncdpaaGreatDoor
open Go Go.Plat
set_option linter.unusedVariables false
set_option linter.unusedSimpArgs false
set_option maxRecDepth 100000
set_option maxHeartbeats 2000000
attribute [local irreducible] AWP Arith BitS BytesS CallS CatS DrawS EndS IdxS Lib.itoa LookS LoopEnd Meets ModeS NilS NormL NormM QuoS RemS ShlS ShrS SideS SplitS allA bitI evalE findI idxV nameB pRes regI wrongI
def one? (h:Bool):Int:=match h with | true=>1 | false=>0
structure ItOk (n:Nat) (h:Bool) (x:AItem):Prop where
 al:x.kind=8→0 < x.size∧x.size≤16
 da:x.kind=7→0 < x.size∧x.size≤4
 po:x.kind=9→0≤x.pool∧x.pool < n
 li:x.kind=6→0≤x.pool∧x.pool < n+one? h
 ix:0≤x.idx∧x.idx≤1000000
structure OkB (T:Nat) (b:Bld):Prop where
 its:∀ x∈b.items,ItOk b.shut.length b.has x
 put:∀ j:Nat,j < b.shut.length→∃ x∈b.items,x.kind=9∧x.pool=j
 len:b.marks.length=b.syms.length
 pos:∀ m∈b.marks,0≤m
 shl:∀ p∈b.shut,p.length≤T
theorem OkB.fail {T:Nat} {b:Bld} (h:OkB T b) (e line:Int):OkB T (failB b e line):=by
 unfold failB
 split
 ·exact ⟨h.its,h.put,h.len,h.pos,h.shl⟩
 ·exact h
theorem OkB.set {T:Nat} {b:Bld} (h:OkB T b) (s:RB):OkB T (setF b s):=⟨h.its,h.put,h.len,h.pos,h.shl⟩
theorem OkB.puts {T:Nat} {b:Bld} (h:OkB T b) {x:AItem} (hx:ItOk b.shut.length b.has x):OkB T (putB b x):=
 ⟨fun y hy=>by
   rcases List.mem_append.1 hy with hy | hy
   ·exact h.its y hy
   ·rw [List.mem_singleton] at hy;subst hy;exact hx,
 fun j hj=>by obtain ⟨y,h1,h2⟩:=h.put j hj;exact ⟨y,List.mem_append_left _ h1,h2⟩,h.len,h.pos,h.shl⟩
theorem OkB.label {T:Nat} {q:List OEqu} {b:Bld} (h:OkB T b) (t:LTok) (line:Int):OkB T (labelB q b t line):=by
 unfold labelB
 split
 ·exact h.fail _ _
 ·refine ⟨h.its,h.put,by simp [h.len],fun m hm=>?_,h.shl⟩
  rcases List.mem_append.1 hm with hm | hm
  ·exact h.pos m hm
  ·rw [List.mem_singleton] at hm;subst hm;omega
theorem it_plain {n:Nat} {h:Bool} {x:AItem} (h8:x.kind≠8) (h7:x.kind≠7) (h9:x.kind≠9) (h6:x.kind≠6) (hi:x.idx=0):ItOk n h x:=
 ⟨fun e=>absurd e h8,fun e=>absurd e h7,fun e=>absurd e h9,fun e=>absurd e h6,by omega⟩
theorem it_data {n:Nat} {h:Bool} {size line:Int} {v:OVal} (hs:size=1∨size=2∨size=4):ItOk n h ⟨7,0,line,noI,false,size,v,0,0⟩:=
 ⟨fun e=>absurd e (by dsimp only;decide),fun _=>by dsimp only;omega,fun e=>absurd e (by dsimp only;decide),fun e=>absurd e (by dsimp only;decide),by dsimp only;decide⟩
theorem OkB.dat {T:Nat} {b:Bld} (h:OkB T b) {size:Int} (hs:size=1∨size=2∨size=4) (line:Int) (o:AOp):OkB T (datB size line b o):=by
 unfold datB
 refine OkB.puts ?_ (it_data hs)
 repeat' split
 all_goals first | exact h.fail _ _ | exact h
theorem OkB.datas {T:Nat} {size:Int} (hs:size=1∨size=2∨size=4) {line:Int}:∀ (l:List AOp) {b:Bld},OkB T b→OkB T (l.foldl (datB size line) b)
 | [],b,h=>h
 | o::l,b,h=>OkB.datas hs l (h.dat hs line o)
theorem OkB.data {T:Nat} {b:Bld} (h:OkB T b) {size:Int} (hs:size=1∨size=2∨size=4) (l:List AOp) (line:Int):OkB T (dataB b size l line):=by
 unfold dataB
 refine OkB.datas hs l ?_
 split
 ·exact h.fail _ _
 ·exact h
theorem OkB.align {T:Nat} {b:Bld} (h:OkB T b) (l:List AOp) (line:Int):OkB T (alignB b l line):=by
 unfold alignB
 split
 ·exact h.fail _ _
 split
 ·exact h.fail _ _
 ·rename_i hn
  exact h.puts ⟨fun _=>by dsimp only;omega,fun e=>absurd e (by dsimp only;decide),fun e=>absurd e (by dsimp only;decide),fun e=>absurd e (by dsimp only;decide),by dsimp only;decide⟩
theorem OkB.pool {T:Nat} {b:Bld} (h:OkB T b) (hc:b.cur.length≤T) (line:Int):OkB T (poolB b line):=by
 unfold poolB
 split
 ·rename_i hh
  have hl:(b.shut++[b.cur]).length=b.shut.length+1:=by simp
  refine ⟨fun x hx=>?_,fun j hj=>?_,h.len,h.pos,fun p hp=>?_⟩
  ·dsimp only at hx ⊢
   rw [hl]
   rcases List.mem_append.1 hx with hx | hx
   ·have:=h.its x hx
    refine ⟨this.al,this.da,fun e=>?_,fun e=>?_,this.ix⟩
    ·have:=this.po e;omega
    ·have:=this.li e
     rw [hh] at this
     have h1:one? true=1:=rfl
     have h0:one? false=0:=rfl
     rw [h1] at this
     rw [h0]
     omega
   ·rw [List.mem_singleton] at hx
    subst hx
    exact ⟨fun e=>absurd e (by dsimp only;decide),fun e=>absurd e (by dsimp only;decide),fun _=>by dsimp only;omega,fun e=>absurd e (by dsimp only;decide),by dsimp only;decide⟩
  ·have hj:j < (b.shut++[b.cur]).length:=hj
   rw [hl] at hj
   by_cases hjn:j < b.shut.length
   ·obtain ⟨y,h1,h2⟩:=h.put j hjn
    exact ⟨y,List.mem_append_left _ h1,h2⟩
   ·refine ⟨⟨9,0,line,noI,false,0,noV,b.shut.length,0⟩,List.mem_append_right _ (List.mem_singleton.2 rfl),rfl,?_⟩
    show ((b.shut.length:Nat):Int)=j
    omega
  ·rcases List.mem_append.1 hp with hp | hp
   ·exact h.shl p hp
   ·rw [List.mem_singleton] at hp;subst hp;exact hc
 ·exact h
theorem pool_shut (b:Bld) (line:Int):(poolB b line).has=false:=by
 unfold poolB
 split
 ·rfl
 ·rename_i h
  cases hb:b.has with
  | true=>exact absurd hb h
  | false=>rfl
theorem idxV_le (v:OVal):∀ (l:List OVal) (k:Nat),idxV v l k≤k+l.length
 | [],k=>by rw [idxV];simp
 | x::l,k=>by
  rw [idxV]
  split
  ·simp;omega
  ·have:=idxV_le v l (k+1)
   simp only [List.length_cons];omega
theorem OkB.lit {T:Nat} {b:Bld} (h:OkB T b) (hc:b.cur.length≤1000000) (v:OVal) (reg line:Int):OkB T (litB b v reg line):=by
 have hs:0≤slotV v b.cur∧slotV v b.cur≤1000000:=by
  have:=idxV_le v b.cur 0
  unfold slotV
  split
  ·omega
  ·omega
 have h1:one? true=1:=rfl
 have hb:OkB T { b with has:=true,cur:=withV v b.cur }:=by
  refine ⟨fun x hx=>?_,h.put,h.len,h.pos,h.shl⟩
  have:=h.its x hx
  refine ⟨this.al,this.da,this.po,fun e=>?_,this.ix⟩
  have:=this.li e
  dsimp only
  rw [h1]
  cases hb:b.has with
  | true=>rw [hb,h1] at this;exact this
  | false=>
   rw [hb] at this
   have h0:one? false=0:=rfl
   rw [h0] at this
   omega
 exact hb.puts ⟨fun e=>absurd e (by dsimp only;decide),fun e=>absurd e (by dsimp only;decide),fun e=>absurd e (by dsimp only;decide),fun _=>by dsimp only;rw [h1];omega,hs⟩
theorem draft_ok {n:Nat} {h:Bool} (op sh:Int) (l:List AOp) (line:Int):ItOk n h (draftI op sh l line):=by
 unfold draftI
 repeat' split
 all_goals exact it_plain (by dsimp only;decide) (by dsimp only;decide) (by dsimp only;decide) (by dsimp only;decide) rfl
theorem OkB.instr {T:Nat} {b:Bld} (h:OkB T b) (hc:b.cur.length≤1000000) (name:List UInt8) (l:List AOp) (line:Int):OkB T (instrB b name l line):=by
 unfold instrB
 split
 ·exact h.lit hc _ _ _
 split
 ·exact h.fail _ _
 split
 ·exact h.fail _ _
 split
 ·exact h.puts (draft_ok _ _ _ _)
 ·exact h.fail _ _
theorem OkB.word {T:Nat} {b:Bld} (h:OkB T b) (hT:b.cur.length≤T) (hc:b.cur.length≤1000000) (w:List UInt8) (l:List AOp) (line:Int):OkB T (wordB b w l line):=by
 unfold wordB
 split
 ·exact h.data (by decide) _ _
 split
 ·exact h.data (by decide) _ _
 split
 ·exact h.data (by decide) _ _
 split
 ·exact h.align _ _
 split
 ·split
  ·exact h.fail _ _
  ·exact h.pool hT _
 ·exact h.instr hc _ _ _
theorem OkB.rest {T:Nat} {q:List OEqu} {b:Bld} (h:OkB T b) (hT:b.cur.length≤T) (hc:b.cur.length≤1000000) (line:Int) (l:List LTok):OkB T (restB q b line l):=by
 cases l with
 | nil=>exact h
 | cons t r=>
  rw [restB]
  split
  ·exact h
  split
  ·exact h.fail _ _
  split
  ·exact h.set _
  ·exact (h.set _).word hT hc _ _ _
theorem labs_ok {T:Nat} {q:List OEqu} {line:Int}:∀ (l:List LTok) {b:Bld},OkB T b→OkB T (labsF q line l b).1∧(labsF q line l b).1.cur=b.cur
 | [],b,h=>by rw [labsF];exact ⟨h,rfl⟩
 | [t],b,h=>by rw [labsF];exact ⟨h,rfl⟩
 | t::c::r,b,h=>by
  rw [labsF]
  split
  ·obtain ⟨h1,h2⟩:=labs_ok r (h.label (q:=q) t line)
   refine ⟨h1,h2.trans ?_⟩
   unfold labelB
   split
   ·unfold failB;split<;>rfl
   ·rfl
  ·exact ⟨h,rfl⟩
theorem OkB.line {T:Nat} {q:List OEqu} {b:Bld} (h:OkB T b) (hT:b.cur.length≤T) (hc:b.cur.length≤1000000) (x:LLine):OkB T (lineB q b x):=by
 obtain ⟨h1,h2⟩:=labs_ok (q:=q) (line:=x.pos) x.toks h
 exact h1.rest (by rw [h2];exact hT) (by rw [h2];exact hc) _ _
def totL:List LLine→Nat
 | []=>0
 | x::l=>x.toks.length+totL l
def b0:Bld:=⟨[],[],[],[],false,[],0,0⟩
def linesB (q:List OEqu) (l:List LLine) (b:Bld):Bld:=l.foldl (lineB q) b
def lastL (l:List LLine):Int:=l.foldl (fun _ x=>x.pos) 0
def noO:OObj:=⟨[],[],[]⟩
def layR (b:Bld):OObj×Int×Int:=
 if b.fe≠0 then (noO,b.fe,b.fa) else if 8000 < (relaxL b.shut b.marks ⟨b.items,b.syms⟩).2 then (noO,4,0)
 else if (emitAll b.shut (relaxL b.shut b.marks ⟨b.items,b.syms⟩).1.items (relaxL b.shut b.marks ⟨b.items,b.syms⟩).1.syms ⟨[],[],b.fe,b.fa⟩).fe≠0
  then (noO,(emitAll b.shut (relaxL b.shut b.marks ⟨b.items,b.syms⟩).1.items (relaxL b.shut b.marks ⟨b.items,b.syms⟩).1.syms ⟨[],[],b.fe,b.fa⟩).fe,
   (emitAll b.shut (relaxL b.shut b.marks ⟨b.items,b.syms⟩).1.items (relaxL b.shut b.marks ⟨b.items,b.syms⟩).1.syms ⟨[],[],b.fe,b.fa⟩).fa)
 else (⟨(emitAll b.shut (relaxL b.shut b.marks ⟨b.items,b.syms⟩).1.items (relaxL b.shut b.marks ⟨b.items,b.syms⟩).1.syms ⟨[],[],b.fe,b.fa⟩).code,(relaxL b.shut b.marks ⟨b.items,b.syms⟩).1.syms,
  (emitAll b.shut (relaxL b.shut b.marks ⟨b.items,b.syms⟩).1.items (relaxL b.shut b.marks ⟨b.items,b.syms⟩).1.syms ⟨[],[],b.fe,b.fa⟩).rels⟩,0,0)
def buildR (q:List OEqu) (l:List LLine):OObj×Int×Int:=layR (poolB (linesB q l b0) (lastL l))
attribute [local irreducible] OExpr.kids OExpr.kind OExpr.n OExpr.name awayA encV exprD halfE infoR labelB leadE nearE nodes oneA putN signedI sizeA slotV takeA targetA withV wordE
def T4:Ob:=.cells [.nilsl,.nilsl,.nilsl]
def T5:Ob:=.cells [.int .i64 0,.int .i64 0]
def newB (q:List OEqu):List D:=[.sl 2 (q.map equD) none,.nilsl,.nilsl,.nilsl,.nilsl,.int .i64 0,.nilsl,.nilsl,.nilsl,.int .i64 0,.int .i64 0]
theorem start_weak {σ σ':List (Nat×D)} (q:List OEqu) (h:keptS (keepAt [2,3,4,5,6,7,0,1] 0) σ σ'):Weak 0 σ [T4,T5,.cells (newB q)] σ' (bO q b0++[T4,T5]):=by
 have key:keepAt [2,3,4,5,6,7,0,1] 0 3=some 1:=rfl
 refine weak_trans (weak_cellarr 2 13 [.sl 2 (q.map equD) none,.osl 13 3 0 0 0,.nilsl,.nilsl,.nilsl,.int .i64 0,.nilsl,.nilsl,.nilsl,.int .i64 0,.int .i64 0] rfl ⟨.same,.here,.same,.same,.same,.same,.same,.same,.same,.same,.same,trivial⟩) ?_
 refine weak_trans (weak_cellarr 2 2 [.sl 2 (q.map equD) none,.osl 13 3 0 0 0,.osl 2 4 0 0 0,.nilsl,.nilsl,.int .i64 0,.nilsl,.nilsl,.nilsl,.int .i64 0,.int .i64 0] rfl ⟨.same,.same,.here,.same,.same,.same,.same,.same,.same,.same,.same,trivial⟩) ?_
 refine weak_trans (weak_cellnil' 2 1 [.sl 2 (q.map equD) none,.osl 13 3 0 0 0,.osl 2 4 0 0 0,.sl 1 [] (some 5),.nilsl,.int .i64 0,.nilsl,.nilsl,.nilsl,.int .i64 0,.int .i64 0] rfl ⟨.same,.same,.same,.here,.same,.same,.same,.same,.same,.same,.same,trivial⟩) ?_
 refine weak_trans (weak_cellarr 2 1 [.sl 2 (q.map equD) none,.osl 13 3 0 0 0,.osl 2 4 0 0 0,.sl 1 [] (some 5),.osl 1 6 0 0 0,.int .i64 0,.nilsl,.nilsl,.nilsl,.int .i64 0,.int .i64 0] rfl ⟨.same,.same,.same,.same,.here,.same,.same,.same,.same,.same,.same,trivial⟩) ?_
 refine weak_trans weak_snocdead ?_
 refine weak_keepO [2,3,4,5,6,7,0,1] rfl rfl ?_ h
 refine .cons (o:=.cells [.sl 2 (q.map equD) none,.osl 13 3 0 0 0,.osl 2 4 0 0 0,.sl 1 [] (some 5),.osl 1 6 0 0 0,.int .i64 0,.nilsl,.nilsl,.nilsl,.int .i64 0,.int .i64 0]) rfl
  ⟨_,rfl,.cons (.flat .sl) (.cons (.osl rfl) (.cons (.osl rfl) (.cons (.tok rfl) (.cons (.osl rfl) (.cons (.flat .int) (.cons (.flat .nilsl) (.cons (.flat .nilsl) (.cons (.flat .nilsl) (.cons (.flat .int) (.cons (.flat .int) .nil))))))))))⟩
  (.cons (o:=.arr 13 []) rfl ⟨_,rfl,rfl,by simp⟩ (.cons (o:=.arr 2 []) rfl ⟨_,rfl,rfl,by simp⟩ (.cons (o:=.spare 0) rfl rfl (.cons (o:=.arr 1 []) rfl ⟨_,rfl,rfl,by simp⟩ (.cons (o:=.dead) rfl rfl
  (.cons (o:=T4) rfl ⟨_,rfl,.cons (.flat .nilsl) (.cons (.flat .nilsl) (.cons (.flat .nilsl) .nil))⟩ (.cons (o:=T5) rfl ⟨_,rfl,.cons (.flat .int) (.cons (.flat .int) .nil)⟩ .nil)))))))
theorem call_line {av:List D} {L:List Ob} {KP:D→Prop} {KW:D→List Ob→Prop} (q:List OEqu) (b:Bld) (x:LLine) (X:List Ob) (hr:Room b (1+x.toks.length)) (hw:wt (x.toks.map tk)≤1048576) (hq:q.length≤1000000)
  (hL:L=bO q b++X) (has:av=[.loc 0 0,llineD x])
  (hK1:((lineB q b x).has=true→b.has=true)→KW (.tup []) (bO q (lineB q b x)++X))
  (hK2:b.has=false→(lineB q b x).has=true→KW (.tup []) (bOn L.length q (lineB q b x)++X++[.spare (lineB q b x).cur.length])):CallS Tryz.prog n_asm_builder_line av L KP KW:=by
 subst has
 have hcl:ClL (bO q b).length [.loc 0 0,llineD x]:=.cons (.loc (Nat.lt_of_lt_of_le (by decide:0 < 6) (Nat.le_of_eq rfl))) (.cons (.agg (.cons .int (.cons .sl .nil))) .nil)
 by_cases h:b.has=false∧(lineB q b x).has=true
 ·refine call_pre1 line_meets (bO q b) X (bOn 6 q (lineB q b x)) (bOn L.length q (lineB q b x)) (.spare (lineB q b x).cur.length) (d:=.tup []) hL ⟨(b,x,q),⟨hr,hw,hq⟩,LeL.refl _,rfl,rfl,(outO_new h.1 h.2).symm⟩ rfl rfl hcl .tup0 (bO_cl _ _)
   (fun m hm hk=>bOn_ren q _ (fun j hj=>hm j (Nat.lt_of_lt_of_le hj (by decide:5≤6))) hk) .spare (hK2 h.1 h.2)
 ·have hn:(lineB q b x).has=true→b.has=true:=fun e=>by
   cases hb:b.has with
   | true=>rfl
   | false=>exact absurd ⟨hb,e⟩ h
  refine call_pre line_meets (bO q b) X (bO q (lineB q b x)) (d:=.tup []) hL ⟨(b,x,q),⟨hr,hw,hq⟩,LeL.refl _,rfl,rfl,(outO_no hn).symm⟩ rfl hcl .tup0 (bO_cl _ _) (bO_cl _ _) (hK1 hn)
theorem bO2_cl (q:List OEqu) (b:Bld):∀ x∈bO q b++[T4,T5],ClO (bO q b++[T4,T5]).length x:=by
 intro x hx
 have hl:(bO q b++[T4,T5]).length=8:=rfl
 rw [hl]
 rcases List.mem_append.1 hx with hx | hx
 ·exact ClO.up (bO_cl q b x hx) (by decide)
 ·simp only [List.mem_cons,List.not_mem_nil,or_false] at hx
  rcases hx with rfl | rfl
  ·exact .cells (.cons .nilsl (.cons .nilsl (.cons .nilsl .nil)))
  ·exact .cells (.cons .int (.cons .int .nil))
theorem bO_has (q:List OEqu) (b:Bld) (h:b.has=true):bO q b=[.cells (bCk q b),.arr 13 (b.items.map itemD),.arr 2 (b.syms.map symD),.spare b.marks.length,.arr 1 (b.shut.map shutD++[.sl 2 (b.cur.map valD) (some 5)]),.spare b.cur.length]:=by
 have hp:poolsD b=b.shut.map shutD++[.sl 2 (b.cur.map valD) (some 5)]:=by unfold poolsD;rw [h]
 have hc:curO b= .spare b.cur.length:=by unfold curO;rw [h]
 have hb:bC q b=bCk q b:=by unfold bC bCk;rw [hp];simp
 unfold bO bT
 rw [hb,hp,hc]
theorem round_new {σ σ':List (Nat×D)} (q:List OEqu) (b:Bld) (Y:Ob) (h:b.has=true) (hs:keptS (keepAt [0,1,2,3,4,9,6,7] 0) σ σ'):Weak 0 σ (bOn 9 q b++[T4,T5,Y]++[.spare b.cur.length]) σ' (bO q b++[T4,T5]):=by
 have key:∀ k,k < 5→keepAt [0,1,2,3,4,9,6,7] 0 k=some k:=by decide
 have hr:=bOn_ren (m:=keepAt [0,1,2,3,4,9,6,7] 0) (k:=9) (k':=5) q b key rfl
 rw [bO_has q b h]
 refine weak_keepO [0,1,2,3,4,9,6,7] rfl rfl ?_ hs
 exact .cons (o:=.cells (bCk q b)) rfl (hr 0 _ _ rfl rfl) (.cons (o:=.arr 13 (b.items.map itemD)) rfl (hr 1 _ _ rfl rfl) (.cons (o:=.arr 2 (b.syms.map symD)) rfl (hr 2 _ _ rfl rfl) (.cons (o:=.spare b.marks.length) rfl (hr 3 _ _ rfl rfl)
  (.cons (o:=.arr 1 (b.shut.map shutD++[.sl 2 (b.cur.map valD) (some 9)])) rfl (hr 4 _ _ rfl rfl) (.cons (o:=.spare b.cur.length) rfl rfl
  (.cons (o:=T4) rfl ⟨_,rfl,.cons (.flat .nilsl) (.cons (.flat .nilsl) (.cons (.flat .nilsl) .nil))⟩ (.cons (o:=T5) rfl ⟨_,rfl,.cons (.flat .int) (.cons (.flat .int) .nil)⟩ .nil)))))))
theorem linesB_step (q:List OEqu) (x:LLine) (l:List LLine) (b:Bld):linesB q (x::l) b=linesB q l (lineB q b x):=rfl
theorem lines_room {q:List OEqu}:∀ (l:List LLine) {b:Bld} {k:Nat},Room b (k+totL l)→Room (linesB q l b) k
 | [],b,k,h=>h
 | x::l,b,k,h=>lines_room l (Room.line x (by rw [totL] at h;exact h.less (by omega)))
theorem lines_ok {T:Nat} {q:List OEqu} (hT:T≤1000000):∀ (l:List LLine) {b:Bld},Room b (1000000 - T+totL l)→OkB T b→OkB T (linesB q l b)
 | [],b,_,h=>h
 | x::l,b,hr,h=>by
  rw [totL] at hr
  have hc:=hr.curl
  exact lines_ok hT l (Room.line x (hr.less (by omega))) (h.line (by omega) (by omega) x)
theorem room0:Room b0 1000000:=⟨by decide,by decide,by decide,by decide,by decide,fun _=>rfl⟩
theorem ok0 (T:Nat):OkB T b0:=⟨(fun x hx=>by cases hx),fun j hj=>absurd hj (Nat.not_lt_zero j),rfl,(fun m hm=>by cases hm),(fun p hp=>by cases hp)⟩
end Go.Proofs.YtfahnaccpncdpaaGreatDoor
namespace Go.Proofs.YtfahnaccpncdpaaGreatDoor
open Go Go.Plat
set_option linter.unusedVariables false
set_option linter.unusedSimpArgs false
set_option maxRecDepth 100000
set_option maxHeartbeats 2000000
attribute [local irreducible] AWP Arith BitS BytesS CallS CatS DrawS EndS IdxS Lib.itoa LookS LoopEnd Meets ModeS NilS NormL NormM QuoS RemS ShlS ShrS SideS SplitS allA awayA bitI encV evalE findI idxV infoR nameB pRes putN regI sizeA targetA wrongI
structure Sim (x y:AItem):Prop where
 kind:y.kind=x.kind
 size:y.size=x.size
 pool:y.pool=x.pool
 idx:y.idx=x.idx
structure SimL (l m:List AItem):Prop where
 len:m.length=l.length
 from_:∀ y∈m,∃ x∈l,Sim x y
 to_:∀ x∈l,∃ y∈m,Sim x y
theorem SimL.refl (l:List AItem):SimL l l:=⟨rfl,fun y h=>⟨y,h,rfl,rfl,rfl,rfl⟩,fun y h=>⟨y,h,rfl,rfl,rfl,rfl⟩⟩
theorem Sim.trans {x y z:AItem} (h:Sim x y) (k:Sim y z):Sim x z:=⟨k.kind.trans h.kind,k.size.trans h.size,k.pool.trans h.pool,k.idx.trans h.idx⟩
theorem SimL.trans {a b c:List AItem} (h:SimL a b) (k:SimL b c):SimL a c:=
 ⟨k.len.trans h.len,fun z hz=>by obtain ⟨y,h1,h2⟩:=k.from_ z hz;obtain ⟨x,h3,h4⟩:=h.from_ y h1;exact ⟨x,h3,h4.trans h2⟩,
   fun x hx=>by obtain ⟨y,h1,h2⟩:=h.to_ x hx;obtain ⟨z,h3,h4⟩:=k.to_ y h1;exact ⟨z,h3,h2.trans h4⟩⟩
theorem SimL.cons {x y:AItem} {l m:List AItem} (h:Sim x y) (k:SimL l m):SimL (x::l) (y::m):=
 ⟨by simp [k.len],fun z hz=>by
   rcases List.mem_cons.1 hz with rfl | hz
   ·exact ⟨x,List.mem_cons_self,h⟩
   ·obtain ⟨w,h1,h2⟩:=k.from_ z hz;exact ⟨w,List.mem_cons_of_mem _ h1,h2⟩,
 fun z hz=>by
  rcases List.mem_cons.1 hz with rfl | hz
  ·exact ⟨y,List.mem_cons_self,h⟩
  ·obtain ⟨w,h1,h2⟩:=k.to_ z hz;exact ⟨w,List.mem_cons_of_mem _ h1,h2⟩⟩
theorem sim_place (pools:List (List OVal)):∀ (l:List AItem) (a:Int),SimL l (placeI pools l a).1
 | [],a=>.refl _
 | x::l,a=>by rw [placeI];exact .cons ⟨rfl,rfl,rfl,rfl⟩ (sim_place pools l _)
theorem sim_grow (syms:List OSym):∀ l:List AItem,SimL l (l.map (growI syms))
 | []=>.refl _
 | x::l=>.cons (by unfold growI;split<;>exact ⟨rfl,rfl,rfl,rfl⟩) (sim_grow syms l)
theorem sim_ok {pools:List (List OVal)} {x y:AItem} (h:Sim x y) (k:SizeOk pools x):SizeOk pools y:=
 ⟨fun e=>by rw [h.size];exact k.1 (by rw [← h.kind];exact e),fun e=>by rw [h.size];exact k.2.1 (by rw [← h.kind];exact e),fun e=>by rw [h.pool];exact k.2.2.1 (by rw [← h.kind];exact e),k.2.2.2⟩
theorem place_end {pools:List (List OVal)}:∀ (l:List AItem) (a:Int),0≤a→(∀ x∈l,SizeOk pools x)→a≤(placeI pools l a).2∧∀ x∈(placeI pools l a).1,0≤x.at_∧x.at_≤(placeI pools l a).2
 | [],a,h0,_=>⟨Int.le_refl a,fun x hx=>by cases hx⟩
 | y::l,a,h0,hs=>by
  have hz:=size_le (a:=a) (hs y List.mem_cons_self) h0
  obtain ⟨h1,h2⟩:=place_end l (a+sizeA pools y a) (by omega) (fun z hz=>hs z (List.mem_cons_of_mem _ hz))
  rw [placeI]
  refine ⟨by dsimp only;omega,fun x hx=>?_⟩
  rcases List.mem_cons.1 hx with rfl | hx
  ·exact ⟨h0,by dsimp only;omega⟩
  ·exact h2 x hx
structure Laid (pools:List (List OVal)) (s:Lay) (R:Lay×Int):Prop where
 sim:SimL s.items R.1.items
 syms:R.1.syms.length=s.syms.length
 at_:∀ x∈R.1.items,0≤x.at_∧x.at_≤R.2
theorem relax_laid {pools:List (List OVal)} {marks:List Int}:∀ (f:Nat) (s:Lay),shortN s.items < f→(∀ x∈s.items,SizeOk pools x)→Laid pools s (relaxF pools marks f s)
 | 0,s,h,_=>absurd h (Nat.not_lt_zero _)
 | f+1,s,h,hs=>by
  have h1:=sim_place pools s.items 0
  have h2:=place_end s.items 0 (Int.le_refl 0) hs
  have h3:=placeI_short pools s.items 0
  have h4:(placeL pools marks s).1.syms.length=s.syms.length:=placeS_len _ _ _ _
  have hP:(placeL pools marks s).1.items=(placeI pools s.items 0).1:=rfl
  have hE:(placeL pools marks s).2=(placeI pools s.items 0).2:=rfl
  rw [relaxF_step]
  generalize placeL pools marks s=P at *
  rw [← hP] at h1 h2 h3
  rw [← hE] at h2
  clear hP hE
  have h5:=sim_grow P.1.syms P.1.items
  have hgr:=grow_short P.1.syms P.1.items
  have hat:∀ x∈P.1.items.map (growI P.1.syms),0≤x.at_∧x.at_≤P.2:=by
   intro x hx
   obtain ⟨y,hy,rfl⟩:=List.mem_map.1 hx
   have:=h2.2 y hy
   unfold growI
   split
   ·exact this
   ·exact this
  have hso:∀ x∈P.1.items.map (growI P.1.syms),SizeOk pools x:=by
   intro x hx
   obtain ⟨y,hy,h6⟩:=(h1.trans h5).from_ x hx
   exact sim_ok h6 (hs y hy)
  split
  ·exact ⟨h1.trans h5,h4,hat⟩
  ·rename_i hn
   have hany:P.1.items.any (mustL P.1.syms)=true:=by
    cases hb:P.1.items.any (mustL P.1.syms) with
    | true=>rfl
    | false=>exact absurd (.inl hb) hn
   have:=hgr.2 hany
   have ih:=relax_laid (pools:=pools) (marks:=marks) f ⟨P.1.items.map (growI P.1.syms),P.1.syms⟩ (by show shortN (P.1.items.map (growI P.1.syms)) < f;omega) hso
   exact ⟨(h1.trans h5).trans ih.sim,ih.syms.trans h4,ih.at_⟩
theorem words_len (syms:List OSym):∀ (p:List OVal) (o:Out),(p.foldl (fun o v=>wordE syms o v 4) o).code.length=o.code.length+4 * p.length∧(p.foldl (fun o v=>wordE syms o v 4) o).rels.length≤o.rels.length+p.length
 | [],o=>by simp
 | v::p,o=>by
  have h1:=wordE_len syms o v 4
  have h2:=word_rels syms o v 4
  obtain ⟨h3,h4⟩:=words_len syms p (wordE syms o v 4)
  rw [List.foldl_cons]
  simp only [List.length_cons]
  omega
theorem fail_len (o:Out) (e line:Int):(failE o e line).code=o.code∧(failE o e line).rels=o.rels:=by unfold failE;split<;>exact ⟨rfl,rfl⟩
theorem half_rels (o:Out) (i:Ins) (line:Int):(halfE o i line).rels=o.rels:=by
 unfold halfE
 split
 ·rfl
 ·exact (fail_len _ _ _).2
theorem lead_rels (o:Out) (i:Ins) (a to line:Int):(leadE o i a to line).rels=o.rels:=by
 unfold leadE
 split
 ·exact half_rels _ _ _
 ·exact (fail_len _ _ _).2
theorem near_len (o:Out) (x:AItem) (to:Int):(nearE o x to).code.length≤o.code.length+6∧(nearE o x to).rels=o.rels:=by
 unfold nearE
 split
 ·exact ⟨by have:=lead_len o x.ins x.at_ to x.line;omega,lead_rels _ _ _ _ _⟩
 ·have h1:=half_len o ⟨w64 (35 - x.ins.op),0,0,1⟩ x.line
  have h2:=lead_len (halfE o ⟨w64 (35 - x.ins.op),0,0,1⟩ x.line) ⟨19,0,0,0⟩ (x.at_+2) to x.line
  have h3:=half_len (leadE (halfE o ⟨w64 (35 - x.ins.op),0,0,1⟩ x.line) ⟨19,0,0,0⟩ (x.at_+2) to x.line) ⟨1,0,0,0⟩ x.line
  exact ⟨by omega,by rw [half_rels,lead_rels,half_rels]⟩
theorem fill_grow (o:Out) (to:Int):(fillE o to).code.length≤o.code.length+to.toNat:=by
 unfold fillE
 simp only [List.length_append,List.length_replicate]
 omega
theorem emit_grow {pools:List (List OVal)} {items:List AItem} {syms:List OSym} {o:Out} {x:AItem} (hs:SizeOk pools x) (h0:0≤x.at_) (h1:x.at_≤8000) (hp:∀ p∈pools,p.length≤9000) :
  (emitE pools items syms o x).code.length≤o.code.length+44100∧(emitE pools items syms o x).rels.length≤o.rels.length+9000:=by
 have hu4:=upA_le (n:=x.at_) (k:=4) (by decide)
 unfold emitE
 split
 ·rename_i h7
  have:=hs.2.1 h7
  split
  ·rw [(fail_len _ _ _).1,(fail_len _ _ _).2];omega
  ·have h2:=wordE_len syms o x.val x.size.toNat
   have h3:=word_rels syms o x.val x.size.toNat
   omega
 split
 ·rename_i h8
  have:=hs.1 h8
  have hu:=upA_le (n:=x.at_) this.1
  have h2:=fill_grow o (upA x.at_ x.size)
  rw [fill_rels]
  omega
 split
 ·have h2:=fill_grow o (upA x.at_ 4)
  have h3:=words_len syms ((pools[x.pool.toNat]?).getD []) (fillE o (upA x.at_ 4))
  rw [fill_rels] at h3
  have h4:((pools[x.pool.toNat]?).getD []).length≤9000:=by
   cases hg:pools[x.pool.toNat]? with
   | none=>simp
   | some p=>exact hp p (List.mem_of_getElem? hg)
  omega
 split
 ·rw [(fail_len _ _ _).1,(fail_len _ _ _).2];omega
 split
 ·have:=half_len o x.ins x.line;rw [half_rels];omega
 split
 ·have:=lead_len o x.ins x.at_ (upA (itA items (idxP x.pool items 0)).at_ 4+4 * x.idx) x.line;rw [lead_rels];omega
 split
 ·rw [(fail_len _ _ _).1,(fail_len _ _ _).2];omega
 split
 ·have:=near_len o x (targetA syms x.val).1;rw [this.2];omega
 ·have:=lead_len o x.ins x.at_ (targetA syms x.val).1 x.line;rw [lead_rels];omega
theorem posF_has {α:Type} (p:α→Bool):∀ (l:List α) (k:Nat),(∃ x∈l,p x=true)→0≤posF p l k
 | [],k,h=>by obtain ⟨x,h,_⟩:=h;cases h
 | y::l,k,h=>by
  rw [posF]
  split
  ·omega
  ·rename_i hn
   obtain ⟨x,h1,h2⟩:=h
   rcases List.mem_cons.1 h1 with rfl | h1
   ·exact absurd h2 hn
   ·exact posF_has p l (k+1) ⟨x,h1,h2⟩
attribute [local irreducible] OExpr.kids OExpr.kind OExpr.n OExpr.name exprD halfE labelB leadE nearE nodes oneA signedI slotV takeA withV wordE
theorem strip_syms (l:List OSym):StripEls (l.map symD) (l.map symD):=by
 refine ⟨rfl,fun i d d' h1 h2=>?_⟩
 rw [h1] at h2
 cases h2
 simp only [List.getElem?_map,Option.map_eq_some_iff] at h1
 obtain ⟨c,_,rfl⟩:=h1
 refine ⟨rfl,rfl,fun j x x' h3 h4=>?_⟩
 rw [h3] at h4
 cases h4
 match j,h3 with
 | 0,h3=>
  cases h3
  intro w F ρ L v h
  cases h with | pure _ _ h=>exact h
 | 1,h3=>
  cases h3
  intro w F ρ L v h
  cases h with | pure _ _ h=>exact h
 | j+2,h3=>simp [symD,D.cells] at h3
theorem put_weak {σ σ':List (Nat×D)} (q:List OEqu) (items:List AItem) (syms:List OSym) (marks:List Int) (shut:List (List OVal)) (cur:List OVal) (fe fa:Int) (h:keptS (keepAt [0,1,2,3,4,8,9,6,7] 0) σ σ') :
  Weak 0 σ (bO q ⟨items,syms,marks,shut,false,cur,fe,fa⟩++[T4,T5]) σ' (eO q ⟨items,syms,marks,shut,false,cur,fe,fa⟩ ⟨[],[],fe,fa⟩++[T4,T5]):=by
 have key:∀ k,k < 5→keepAt [0,1,2,3,4,8,9,6,7] 0 k=some k:=by decide
 refine weak_trans (weak_cellnil' 0 4 [.sl 2 (q.map equD) none,.osl 13 1 items.length 0 items.length,.osl 2 2 syms.length 0 syms.length,.sl 1 (marks.map (.int .i64)) (some 3),.osl 1 4 (poolsD ⟨items,syms,marks,shut,false,cur,fe,fa⟩).length 0 (poolsD ⟨items,syms,marks,shut,false,cur,fe,fa⟩).length,
  .int .i64 shut.length,.nilsl,.nilsl,.sl 4 [] (some 8),.int .i64 fe,.int .i64 fa] rfl ⟨.same,.same,.same,.same,.same,.same,.same,.same,.here,.same,.same,trivial⟩) ?_
 refine weak_trans (weak_cellnil' 0 1 [.sl 2 (q.map equD) none,.osl 13 1 items.length 0 items.length,.osl 2 2 syms.length 0 syms.length,.sl 1 (marks.map (.int .i64)) (some 3),.osl 1 4 (poolsD ⟨items,syms,marks,shut,false,cur,fe,fa⟩).length 0 (poolsD ⟨items,syms,marks,shut,false,cur,fe,fa⟩).length,
  .int .i64 shut.length,.sl 1 [] (some 9),.nilsl,.sl 4 [] (some 8),.int .i64 fe,.int .i64 fa] rfl ⟨.same,.same,.same,.same,.same,.same,.here,.same,.same,.same,.same,trivial⟩) ?_
 refine weak_keepO [0,1,2,3,4,8,9,6,7] rfl rfl ?_ h
 exact .cons (o:=.cells [.sl 2 (q.map equD) none,.osl 13 1 items.length 0 items.length,.osl 2 2 syms.length 0 syms.length,.sl 1 (marks.map (.int .i64)) (some 3),.osl 1 4 (poolsD ⟨items,syms,marks,shut,false,cur,fe,fa⟩).length 0 (poolsD ⟨items,syms,marks,shut,false,cur,fe,fa⟩).length,
   .int .i64 shut.length,.sl 1 [] (some 9),.nilsl,.sl 4 [] (some 8),.int .i64 fe,.int .i64 fa]) rfl
  ⟨_,rfl,.cons (.flat .sl) (.cons (.osl rfl) (.cons (.osl rfl) (.cons (.tok rfl) (.cons (.osl rfl) (.cons (.flat .int) (.cons (.tok rfl) (.cons (.flat .nilsl) (.cons (.tok rfl) (.cons (.flat .int) (.cons (.flat .int) .nil))))))))))⟩
  (.cons (o:=.arr 13 (items.map itemD)) rfl (ClO.arr (n:=5) (items_cl _) _ key) (.cons (o:=.arr 2 (syms.map symD)) rfl (ClO.arr (n:=5) (syms_cl _) _ key) (.cons (o:=.spare marks.length) rfl rfl (.cons (o:=.arr 1 (shut.map shutD)) rfl (ClO.arr (n:=5) (shuts_cl _) _ key)
  (.cons (o:=.spare 0) rfl rfl (.cons (o:=.spare 0) rfl rfl
  (.cons (o:=T4) rfl ⟨_,rfl,.cons (.flat .nilsl) (.cons (.flat .nilsl) (.cons (.flat .nilsl) .nil))⟩ (.cons (o:=T5) rfl ⟨_,rfl,.cons (.flat .int) (.cons (.flat .int) .nil)⟩ .nil))))))))
theorem emitAll_step (pools:List (List OVal)) (items:List AItem) (syms:List OSym) (x:AItem) (l:List AItem) (o:Out):(x::l).foldl (fun o x=>if o.fe=0 then emitE pools items syms o x else o) o=l.foldl (fun o x=>if o.fe=0 then emitE pools items syms o x else o) (if o.fe=0 then emitE pools items syms o x else o):=rfl
theorem build_meets:Meets Tryz.prog n_asm_Build (SpecP (fun ((l,q):List LLine×List OEqu)=>totL l≤9000∧(∀ x∈l,wt (x.toks.map tk)≤1048576)∧q.length≤1000000∧l.length≤1000000) (fun (l,q)=>[.sl 2 (l.map llineD) none,.sl 2 (q.map equD) none])
  fun (l,q)=>.tup [objD (buildR q l).1,.agg [.int .i64 (buildR q l).2.1,.int .i64 (buildR q l).2.2]]):=by
 refine meets_f tabOk Tryz.func22 rfl (by decide) ?_
 rintro ⟨l,q⟩ ⟨ht,hw,hq,hll⟩
 have ht:totL l≤9000:=ht
 have hw:∀ x∈l,wt (x.toks.map tk)≤1048576:=hw
 have hq:q.length≤1000000:=hq
 have hll:l.length≤1000000:=hll
 refine ⟨Nat.le_refl _,by simp [Tryz.f22],fun E hE=>?_⟩
 have hE0:E.L.length=0:=by rw [hE];rfl
 show AWP _ _ _ _ (FinQ _ _ _ (.tup [objD (buildR q l).1,.agg [.int .i64 (buildR q l).2.1,.int .i64 (buildR q l).2.2]]) []) _ []
 refine awp_seqK (vcOk _ ?_)
 (all_goals refine qgp (Lf.mk ?_))
 refine awp_seqK (vcOk _ ?_)
 (all_goals refine qgp (Lf.mk ?_))
 refine awp_seqK (vcOk _ ?_)
 (all_goals refine qgp (Lf.mk ?_))
 refine awp_cut (α:=Unit) (fun _=>True) (fun _=>[(4,.loc 6 0),(5,.loc 7 0),(6,.loc 0 0),(7,.int .i64 (lastL l))]) (fun _=>bO q (linesB q l b0)++[T4,T5]) ?_ ?_
 ·refine vcOk _ ?_
  (all_goals refine qgp (Lf.mk ?_))
  refine awp_loopW (α:=Nat×Bld×Int) (fun p=>p.1≤l.length∧linesB q (l.drop p.1) p.2.1=linesB q l b0∧(l.drop p.1).foldl (fun _ x=>x.pos) p.2.2=lastL l∧Room p.2.1 (1+totL (l.drop p.1)))
   (fun p=>[(4,.loc 6 0),(5,.loc 7 0),(6,.loc 0 0),(7,.int .i64 p.2.2),(14,.sl 2 (l.map llineD) none),(15,.int .i64 l.length),(16,.int .i64 p.1)]) (fun p=>bO q p.2.1++[T4,T5]) (fun p=>l.length - p.1) (fun _=>by rw [hE0];exact Nat.zero_le _) (0,b0,0)
   ⟨Nat.zero_le _,rfl,rfl,room0.less (by show 1+totL l≤_;omega)⟩ ?_ ?_
  ·rw [hE0]
   exact start_weak q ⟨.loc rfl,.loc rfl,.loc rfl,.flat .int,.flat .sl,.flat .int,.flat .int,trivial⟩
  rintro ⟨k,b,la⟩ ⟨i1,i2,i3,i4⟩
  dsimp only at i1 i2 i3 i4 ⊢
  refine vcOk _ ?_
  (all_goals refine qgp ?_<;>(repeat' first | exact trivial | intro hc | refine And.intro ?_ ?_)<;>refine Lf.mk ?_)
  ·obtain ⟨x,hx⟩:=at_of_lt (l:=l) (k:=k) (by omega)
   have hkl:k < l.length:=by omega
   have hgx:l[k]=x:=by rw [List.getElem?_eq_getElem hkl] at hx;exact Option.some.inj hx
   rw [List.drop_eq_getElem_cons hkl,hgx] at i2 i3 i4
   rw [linesB_step] at i2
   rw [List.foldl_cons] at i3
   rw [totL] at i4
   have hr':Room (lineB q b x) (1+totL (l.drop (k+1))):=Room.line x (i4.less (by omega))
   refine ix_map x (by omega) (by simpa using hx) ?_
   (all_goals refine qgp (Lf.mk ?_))
   refine call_line q b x [T4,T5,.cells [.int .i64 x.pos,.sl 3 (x.toks.map ltokD) none]] (i4.less (by omega)) (hw x (List.mem_of_getElem? hx)) hq rfl rfl (fun hn=>?_) (fun hn hn'=>?_)
   ·(all_goals refine qgp (Lf.mk ?_))
    exact loop_pre (k+1,lineB q b x,x.pos) [.cells [.int .i64 x.pos,.sl 3 (x.toks.map ltokD) none]] ⟨by show k+1≤_;omega,i2,i3,hr'⟩ (by dsimp only;omega) (by simp) (by rw [hE0];exact Nat.zero_le _) (bO2_cl _ _) ⟨rfl,rfl,rfl,rfl,rfl,rfl,rfl,trivial⟩
     (.cons (.loc (Nat.lt_of_lt_of_le (by decide:6 < 8) (Nat.le_of_eq rfl))) (.cons (.loc (Nat.lt_of_lt_of_le (by decide:7 < 8) (Nat.le_of_eq rfl))) (.cons (.loc (Nat.lt_of_lt_of_le (by decide:0 < 8) (Nat.le_of_eq rfl))) (.cons .int (.cons .sl (.cons .int (.cons .int .nil)))))))
   ·(all_goals refine qgp (Lf.mk ?_))
    refine loop_weak (k+1,lineB q b x,x.pos) ⟨by show k+1≤_;omega,i2,i3,hr'⟩ (by dsimp only;omega) ?_
    rw [hE0]
    exact round_new q (lineB q b x) _ hn' ⟨.loc rfl,.loc rfl,.loc rfl,.flat .int,.flat .sl,.flat .int,.flat .int,trivial⟩
  ·have hk:k=l.length:=by omega
   rw [hk,List.drop_length] at i2 i3
   have e1:b=linesB q l b0:=i2
   have e2:la=lastL l:=i3
   subst e1
   exact ⟨(),trivial,weak_same rfl ⟨rfl,rfl,rfl,by rw [← e2];rfl,trivial⟩⟩
 ·rintro _ _
  have hroom:Room (linesB q l b0) (1000000 - 9000):=lines_room l (room0.less (by omega))
  have hok:OkB 9000 (linesB q l b0):=lines_ok (by decide) l (room0.less (by omega)) (ok0 9000)
  have hroom2:Room (poolB (linesB q l b0) (lastL l)) 990999:=(hroom.less (by decide:990999+1≤1000000 - 9000)).pool _
  have hok2:OkB 9000 (poolB (linesB q l b0) (lastL l)):=hok.pool (by have:=hroom.curl;omega) _
  have hsh:=pool_shut (linesB q l b0) (lastL l)
  have hbi:=hroom.items
  have hbs:=hroom.shut
  have hR:buildR q l=layR (poolB (linesB q l b0) (lastL l)):=rfl
  rw [hR]
  generalize linesB q l b0=b1 at *
  refine awp_seqK (vcOk _ ?_)
  (all_goals refine qgp (Lf.mk ?_))
  refine call_pool q b1 (lastL l) [T4,T5] (by omega) (by omega) rfl rfl ?_
  generalize poolB b1 (lastL l)=b2 at *
  (all_goals refine qgp (Lf.mk ?_))
  obtain ⟨items,syms,marks,shut,has,cur,fe,fa⟩:=b2
  have hsh:has=false:=hsh
  subst hsh
  clear hR hroom hok hbi hbs
  have hL:layR ⟨items,syms,marks,shut,false,cur,fe,fa⟩=if fe≠0 then (noO,fe,fa) else if 8000 < (relaxL shut marks ⟨items,syms⟩).2 then (noO,4,0)
   else if (emitAll shut (relaxL shut marks ⟨items,syms⟩).1.items (relaxL shut marks ⟨items,syms⟩).1.syms ⟨[],[],fe,fa⟩).fe≠0
    then (noO,(emitAll shut (relaxL shut marks ⟨items,syms⟩).1.items (relaxL shut marks ⟨items,syms⟩).1.syms ⟨[],[],fe,fa⟩).fe,(emitAll shut (relaxL shut marks ⟨items,syms⟩).1.items (relaxL shut marks ⟨items,syms⟩).1.syms ⟨[],[],fe,fa⟩).fa)
   else (⟨(emitAll shut (relaxL shut marks ⟨items,syms⟩).1.items (relaxL shut marks ⟨items,syms⟩).1.syms ⟨[],[],fe,fa⟩).code,(relaxL shut marks ⟨items,syms⟩).1.syms,
    (emitAll shut (relaxL shut marks ⟨items,syms⟩).1.items (relaxL shut marks ⟨items,syms⟩).1.syms ⟨[],[],fe,fa⟩).rels⟩,0,0):=rfl
  generalize layR ⟨items,syms,marks,shut,false,cur,fe,fa⟩=R at *
  refine awp_seqK (vcOk _ ?_)
  (all_goals refine qgp ?_<;>(repeat' first | exact trivial | intro hc | refine And.intro ?_ ?_)<;>refine Lf.mk ?_)
  ·rw [if_pos hc] at hL
   subst hL
   exact end_p (VS.mk (LeD.tup (.cons (LeD.agg (.cons (.nil 1) (.cons (.nil 2) (.cons (.nil 4) .nil)))) (LeL.refl _))))
  have hfe:fe=0:=hc
  rw [if_neg (fun h=>h hc)] at hL
  have hTl:∀ p∈shut,p.length≤9000:=hok2.shl
  have hsz:∀ x∈items,SizeOk shut x:=fun x hx=>by
   have:=hok2.its x hx
   exact ⟨this.al,this.da,this.po,fun p hp=>by have:=hTl p hp;omega⟩
  have hil:items.length≤9001:=by have:=hroom2.items;dsimp only at this;omega
  have hml:marks.length≤9001:=by have:=hroom2.marks;dsimp only at this;omega
  have hlay:LayIn shut marks ⟨items,syms⟩:=⟨hsz,by show items.length≤_;omega,hok2.len,by omega,hok2.pos⟩
  have hW:=relax_laid (pools:=shut) (marks:=marks) (shortN items+1) ⟨items,syms⟩ (Nat.lt_succ_self _) hsz
  have hW:Laid shut ⟨items,syms⟩ (relaxL shut marks ⟨items,syms⟩):=hW
  refine awp_seqK (vcOk _ ?_)
  (all_goals refine qgp (Lf.mk ?_))
  refine call_b relax_meets [T4,T5] (⟨items,syms⟩,marks,shut,cur,fe,fa,q) hlay rfl (LeL.refl _) rfl (.cons (.loc (Nat.lt_of_lt_of_le (by decide:0 < 6) (Nat.le_of_eq rfl))) .nil) .int (bO_cl _ _) (bO_cl _ _) ?_
  dsimp only
  generalize relaxL shut marks ⟨items,syms⟩=W at *
  obtain ⟨⟨its,sys⟩,n⟩:=W
  dsimp only at hL ⊢
  (all_goals refine qgp ?_<;>(repeat' first | exact trivial | intro hc | refine And.intro ?_ ?_)<;>refine Lf.mk ?_)
  ·rw [if_pos hc] at hL
   subst hL
   exact end_p (VS.mk (LeD.tup (.cons (LeD.agg (.cons (.nil 1) (.cons (.nil 2) (.cons (.nil 4) .nil)))) (LeL.refl _))))
  rw [if_neg hc] at hL
  have hlen:its.length=items.length:=hW.sim.len
  have hsl:sys.length=syms.length:=hW.syms
  have hsyl:syms.length≤9001:=by have:=hok2.len;dsimp only at this;omega
  have hin:∀ y∈its,EmitIn ⟨its,sys,marks,shut,false,cur,fe,fa⟩ y:=fun y hy=>by
   obtain ⟨x,hx,hs⟩:=hW.sim.from_ y hy
   have hi:=hok2.its x hx
   have ha:=hW.at_ y hy
   refine ⟨sim_ok hs (hsz x hx),ha.1,by omega,?_,fun h6=>?_⟩
   ·rw [hs.idx];have:=hi.ix;omega
   ·have hl:=hi.li (by rw [← hs.kind];exact h6)
    have h0:one? false=0:=rfl
    rw [h0] at hl
    dsimp only at hl
    obtain ⟨z,hz,hz9,hzp⟩:=hok2.put x.pool.toNat (by dsimp only;omega)
    obtain ⟨u,hu,hzu⟩:=hW.sim.to_ z hz
    refine posF_has _ _ _ ⟨u,hu,?_⟩
    rw [hzu.kind,hz9,hzu.pool,hzp,hs.pool,Int.toNat_of_nonneg hl.1]
    simp
  have hgrow:∀ (o:Out),∀ y∈its,(emitE shut its sys o y).code.length≤o.code.length+44100∧(emitE shut its sys o y).rels.length≤o.rels.length+9000:=fun o y hy=>by
   have ha:=hW.at_ y hy
   exact emit_grow (hin y hy).size ha.1 (by omega) hTl
  have hF:emitAll shut its sys ⟨[],[],fe,fa⟩=its.foldl (fun o x=>if o.fe=0 then emitE shut its sys o x else o) ⟨[],[],fe,fa⟩:=rfl
  generalize emitAll shut its sys ⟨[],[],fe,fa⟩=F at *
  refine awp_cut (α:=Unit) (fun _=>True) (fun _=>[(4,.loc 7 0),(5,.loc 8 0),(6,.loc 0 0)]) (fun _=>eO q ⟨its,sys,marks,shut,false,cur,fe,fa⟩ F++[T4,T5]) ?_ ?_
  ·refine vcOk _ ?_
   (all_goals refine qgp (Lf.mk ?_))
   refine awp_loopW (α:=Nat×Out) (fun p=>p.1≤its.length∧(its.drop p.1).foldl (fun o x=>if o.fe=0 then emitE shut its sys o x else o) p.2=F∧p.2.code.length≤44100 * p.1∧p.2.rels.length≤9000 * p.1)
    (fun p=>[(4,.loc 7 0),(5,.loc 8 0),(6,.loc 0 0),(49,.int .i64 its.length),(50,.int .i64 p.1)]) (fun p=>eO q ⟨its,sys,marks,shut,false,cur,fe,fa⟩ p.2++[T4,T5]) (fun p=>its.length - p.1) (fun _=>by rw [hE0];exact Nat.zero_le _) (0,⟨[],[],fe,fa⟩)
    ⟨Nat.zero_le _,hF.symm,Nat.le_refl _,Nat.le_refl _⟩ ?_ ?_
   ·rw [hE0]
    exact put_weak q its sys marks shut cur fe fa ⟨.loc rfl,.loc rfl,.loc rfl,.flat .int,.flat .int,trivial⟩
   rintro ⟨k,o⟩ ⟨j1,j2,j3,j4⟩
   dsimp only at j1 j2 j3 j4 ⊢
   refine vcOk _ ?_
   (all_goals refine qgp ?_<;>(repeat' first | exact trivial | intro hc | refine And.intro ?_ ?_)<;>refine Lf.mk ?_)
   ·obtain ⟨x,hx⟩:=at_of_lt (l:=its) (k:=k) (by omega)
    have hkl:k < its.length:=by omega
    have hgx:its[k]=x:=by rw [List.getElem?_eq_getElem hkl] at hx;exact Option.some.inj hx
    rw [List.drop_eq_getElem_cons hkl,hgx,emitAll_step,if_pos (by assumption)] at j2
    obtain ⟨g1,g2⟩:=hgrow o x (List.mem_of_getElem? hx)
    refine call_b aemit_meets [T4,T5] (⟨its,sys,marks,shut,false,cur,fe,fa⟩,o,k,x,q) ⟨rfl,hx,hin,by show its.length≤_;omega,by show sys.length≤_;omega,by show o.code.length≤_;omega,by show o.rels.length≤_;omega⟩ rfl
     (LeL.of_eq (by show [D.loc 0 0,.aloc 1 its.length (0+((k:Nat):Int).toNat) 0]=_;rw [Nat.zero_add,Int.toNat_natCast])) rfl
     (.cons (.loc (Nat.lt_of_lt_of_le (by decide:0 < 7) (Nat.le_of_eq rfl))) (.cons (.aloc (Nat.lt_of_lt_of_le (by decide:1 < 7) (Nat.le_of_eq rfl))) .nil)) .tup0 (eO_cl _ _ _) (eO_cl _ _ _) ?_
    have hem:emB ⟨its,sys,marks,shut,false,cur,fe,fa⟩ o x=emitE shut its sys o x:=rfl
    dsimp only
    rw [hem]
    generalize emitE shut its sys o x=o2 at *
    (all_goals refine qgp (Lf.mk ?_))
    exact loop_same (k+1,o2) ⟨by show k+1≤_;omega,j2,by dsimp only;omega,by dsimp only;omega⟩ (by dsimp only;omega) rfl ⟨rfl,rfl,rfl,rfl,rfl,trivial⟩
   ·have hkl:k < its.length:=by omega
    rw [List.drop_eq_getElem_cons hkl,emitAll_step,if_neg hc] at j2
    exact loop_same (k+1,o) ⟨by show k+1≤_;omega,j2,by dsimp only;omega,by dsimp only;omega⟩ (by dsimp only;omega) rfl ⟨rfl,rfl,rfl,rfl,rfl,trivial⟩
   ·have hk:k=its.length:=by omega
    rw [hk,List.drop_length] at j2
    have j2:o=F:=j2
    subst j2
    exact ⟨(),trivial,weak_same rfl ⟨rfl,rfl,rfl,trivial⟩⟩
  ·rintro _ _
   refine vcOk _ ?_
   (all_goals refine qgp ?_<;>(repeat' first | exact trivial | intro hc | refine And.intro ?_ ?_)<;>refine Lf.mk ?_)
   ·rw [if_pos hc] at hL
    subst hL
    exact end_p (VS.mk (LeD.tup (.cons (LeD.agg (.cons (.nil 1) (.cons (.nil 2) (.cons (.nil 4) .nil)))) (LeL.refl _))))
   ·rw [if_neg (fun h=>h hc)] at hL
    subst hL
    refine end_freeze (k:=2) (e:=2) (els:=sys.map symD) (els':=sys.map symD) (r1:=.tup [.agg [.sl 1 (F.code.map byteD) (some 6),.sl 2 (sys.map symD) (some 9),.sl 4 (F.rels.map relD) (some 5)],.agg [.int .i64 0,.int .i64 0]]) rfl (Nat.zero_le 2) (strip_syms sys) ?_ ?_ (Nat.zero_le _)
    ·refine .tup _ _ rfl fun i d d' h1 h2=>?_
     match i,h1,h2 with
     | 0,h1,h2=>
      cases h1
      cases h2
      refine .agg _ _ rfl fun j c c' g1 g2=>?_
      match j,g1,g2 with
      | 0,g1,g2=>cases g1;cases g2;exact .keep _
      | 1,g1,g2=>cases g1;cases g2;exact .here _ _ (by simp) (by simp)
      | 2,g1,g2=>cases g1;cases g2;exact .keep _
      | j+3,g1,g2=>cases g1
     | 1,h1,h2=>cases h1;cases h2;exact .keep _
     | i+2,h1,h2=>cases h1
    ·exact end_p (VS.mk (LeD.tup (.cons (LeD.agg (.cons (.strip _ _ _) (.cons (.strip _ _ _) (.cons (.strip _ _ _) .nil)))) (LeL.refl _))))
end Go.Proofs.YtfahnaccpncdpaaGreatDoor
namespace Go.Proofs.YtfahnaccpncdpaaGreatDoor
open Go Go.Plat
set_option linter.unusedVariables false
set_option linter.unusedSimpArgs false
set_option maxRecDepth 100000
set_option maxHeartbeats 2000000
attribute [local irreducible] AWP Arith BitS BytesS CallS CatS DrawS EndS IdxS LookS LoopEnd Meets ModeS NilS NormL NormM QuoS RemS ShlS ShrS SideS SplitS bitI blankC digV digitB kindB letterB lexF lexL lexR numC numR numTok okC puF puR signT spanF wordC
theorem take_snoc {α:Type} {l:List α} {k:Nat} {x:α} (h:l[k]?=some x):l.take (k+1)=l.take k++[x]:=by
 have hk:=(List.getElem?_eq_some_iff.1 h).1
 rw [List.take_succ_eq_append_getElem hk]
 congr 2
 rw [List.getElem?_eq_getElem hk] at h
 exact Option.some.inj h
theorem sown_meets:Meets Tryz.prog n_scan_Own (SpecP (fun l:List LLine=>l.length≤1000000000∧∀ x∈l,x.toks.length≤1000000000) (fun l=>[.sl 2 (l.map llineD) none]) fun l=>.sl 2 (l.map llineD) none):=by
 refine meets_f tabOk Tryz.func62 rfl (by decide) ?_
 rintro l ⟨hl,ht⟩
 refine ⟨Nat.le_refl _,by simp [Tryz.f62],fun E hE=>?_⟩
 refine vcOk _ ?_
 (all_goals refine qgp (Lf.mk ?_))
 refine awp_weak (weak_nil 3 2 rfl) ?_
 refine awp_loop (α:=Nat) (fun k=>k≤l.length)
  (fun k=>[(3,.sl 2 ((l.take k).map llineD) (some 0)),(6,.sl 2 (l.map llineD) none),(7,.int .i64 l.length),(8,.int .i64 k)])
  (fun k=>[.spare (l.take k).length]) (fun k=>l.length - k) (fun _=>by simp [hE]) 0 (Nat.zero_le _) ?_ ?_
 ·(repeat' (first | (refine VS.mk ?_) | exact trivial | exact rfl | refine And.intro ?_ ?_))
 intro k hk
 have hkl:(l.take k).length=k:=by rw [List.length_take];omega
 refine vcOk _ ?_
 (all_goals refine qgp ?_<;>(repeat' first | exact trivial | intro hc | refine And.intro ?_ ?_)<;>refine Lf.mk ?_)
 ·obtain ⟨x,hx⟩:∃ x,l[k]?=some x:=⟨_,List.getElem?_eq_getElem (by omega)⟩
  have hS:=take_snoc hx
  have hkl1:(l.take (k+1)).length=k+1:=by rw [List.length_take];omega
  have hxt:=ht x (List.mem_of_getElem? hx)
  refine ix_map x (by omega) (by simpa using hx) ?_
  (all_goals refine qgp (Lf.mk ?_))
  refine loop_end (k+1) (by omega) (by omega) ?_
  (repeat' (first | (refine VS.mk ?_) | exact trivial | exact rfl | refine And.intro ?_ ?_))
  ·rw [hkl1,List.length_append,List.length_map,hkl];rfl
  ·rw [hS,List.map_append,List.map_cons,List.map_nil];rfl
 ·have e:l.take k=l:=List.take_of_length_le (by omega)
  rw [e]
  exact end_p (VS.mk (LeD.of_eq rfl))
end Go.Proofs.YtfahnaccpncdpaaGreatDoor
namespace Go.Proofs.YtfahnaccpncdpaaGreatDoor
open Go Go.Plat
set_option linter.unusedVariables false
set_option linter.unusedSimpArgs false
set_option maxRecDepth 100000
set_option maxHeartbeats 2000000
attribute [local irreducible] AWP Arith BitS BytesS CallS CatS DrawS EndS IdxS Lib.itoa LookS LoopEnd Meets ModeS NilS NormL NormM OExpr.kids OExpr.kind OExpr.n OExpr.name QuoS RemS ShlS ShrS SideS SplitS allA awayA bitI buildR encV evalE exprD findI halfE idxV infoR labelB leadE linesR nameB nearE nodes oneA pRes putN regI signedI sizeA slotV takeA targetA withV wordE wrongI
def headM (x:LLine):List UInt8:=match x.toks with
 | t::_=>if t.kind=1 then t.text else []
 | []=>[]
theorem mhead_meets:Meets Tryz.prog n_macro_head (SpecP (fun x:LLine=>x.toks.length≤1000000000) (fun x=>[llineD x]) fun x=>.str (headM x)):=by
 refine meets_f tabOk Tryz.func57 rfl (by decide) ?_
 rintro ⟨pos,toks⟩ hl
 have hl:toks.length≤1000000000:=hl
 refine ⟨Nat.le_refl _,by simp [Tryz.f57],fun E hE=>?_⟩
 cases toks with
 | nil=>
  refine vcOk _ ?_
  (all_goals refine qgp ?_<;>(repeat' first | exact trivial | intro hc | refine And.intro ?_ ?_)<;>refine Lf.mk ?_)
  exact end_p (VS.mk (LeD.refl _))
 | cons t r=>
  have hl:r.length+1≤1000000000:=hl
  refine vcOk _ ?_
  (all_goals refine qgp ?_<;>(repeat' first | exact trivial | intro hc | refine And.intro ?_ ?_)<;>refine Lf.mk ?_)
  all_goals refine end_p (VS.mk (LeD.of_eq (congrArg D.str ?_)))
  ·unfold headM;dsimp only;rw [if_neg hc]
  ·unfold headM;dsimp only;rw [if_pos hc]
def mC (out:List LLine) (looked fe fa:Int):List D:=[.nilsl,.nilsl,.sl 2 (out.map llineD) (some 1),.int .i64 looked,.int .i64 fe,.int .i64 fa]
def mO (out:List LLine) (looked fe fa:Int):List Ob:=[.cells (mC out looked fe fa),.spare out.length]
theorem mO_cl (out:List LLine) (looked fe fa:Int):∀ x∈mO out looked fe fa,ClO 2 x:=by
 intro x hx
 simp only [mO,List.mem_cons,List.not_mem_nil,or_false] at hx
 rcases hx with rfl | rfl
 ·exact .cells (.cons .nilsl (.cons .nilsl (.cons (.tok (by decide)) (.cons .int (.cons .int (.cons .int .nil))))))
 ·exact .spare
theorem mfind_meets:Meets Tryz.prog n_macro_maker_find (SpecF (fun _:List LLine×Int×Int×Int×List UInt8=>True) (fun (_,_,_,_,name)=>[.loc 0 0,.str name]) (fun (out,looked,fe,fa,_)=>mO out looked fe fa) (fun _=>.int .i64 (-1)) fun (out,looked,fe,fa,_)=>mO out looked fe fa):=by
 refine meets_f tabOk Tryz.func60 rfl (by decide) ?_
 rintro ⟨out,looked,fe,fa,name⟩ _
 refine ⟨Nat.le_refl _,by simp [Tryz.f60],fun E hE=>?_⟩
 refine vcOk _ ?_
 (all_goals refine qgp (Lf.mk ?_))
 refine call_inline tabOk Tryz.func104 rfl (by decide) (.int .i64 (-1)) (mO out looked fe fa++[.cells [.str name]]) (Nat.le_refl _) (by simp [Tryz.f104]) (fun E' hE'=>?_) ?_
 ·refine vcOk _ ?_
  (all_goals refine qgp (Lf.mk ?_))
  refine awp_unroll (vcOk _ ?_)
  (all_goals refine qgp ?_<;>(repeat' first | exact trivial | intro hc | refine And.intro ?_ ?_)<;>refine Lf.mk ?_)
  exact end_eq rfl rfl
 ·(all_goals refine qgp (Lf.mk ?_))
  exact end_pre (mO out looked fe fa) [_] rfl (Nat.le_refl _) .int (mO_cl _ _ _ _)
def plainH (h:List UInt8):Prop:=h≠[46,109,97,99,114,111]∧h≠[46,114,101,112,116]∧h≠[46,105,102]∧h≠[46,101,110,100,109]∧h≠[46,101,110,100,114]∧h≠[46,101,110,100,105,102]∧h≠[46,101,108,115,101]∧h≠[46,101,113,117]
instance (h:List UInt8):Decidable (plainH h):=by unfold plainH;infer_instance
theorem mlines_plain:Meets Tryz.prog n_macro_maker_lines (SpecF (fun ((l,out,looked,deep):List LLine×List LLine×Int×Int)=>0≤deep∧deep≤6∧out.length+l.length≤200∧0≤looked∧looked+(l.length:Int)≤4000∧∀ x∈l,plainH (headM x)∧x.toks.length≤1000000000)
  (fun (l,_,_,deep)=>[.loc 0 0,.sl 2 (l.map llineD) none,.int .i64 deep]) (fun (_,out,looked,_)=>mO out looked 0 0) (fun _=>.tup []) fun (l,out,looked,_)=>mO (out++l) (looked+(l.length:Int)) 0 0):=by
 refine meets_f tabOk Tryz.func36 rfl (by decide) ?_
 rintro ⟨l,out,looked,deep⟩ ⟨hd0,hd1,hol,hk0,hk1,hl⟩
 have hd1:deep≤6:=hd1
 have hol:out.length+l.length≤200:=hol
 have hk0:0≤looked:=hk0
 have hk1:looked+(l.length:Int)≤4000:=hk1
 have hl:∀ x∈l,plainH (headM x)∧x.toks.length≤1000000000:=hl
 refine ⟨Nat.le_refl _,by simp [Tryz.f36],fun E hE=>?_⟩
 have hE2:E.L.length=2:=by rw [hE];rfl
 refine vcOk _ ?_
 (all_goals refine qgp ?_<;>(repeat' first | exact trivial | intro hc | refine And.intro ?_ ?_)<;>refine Lf.mk ?_)
 refine awp_loopW (α:=Nat) (fun k=>k≤l.length) (fun k=>[(0,.loc 0 0),(1,.sl 2 (l.map llineD) none),(2,.int .i64 deep),(7,.int .i64 k)]) (fun k=>mO (out++l.take k) (looked+(k:Int)) 0 0) (fun k=>l.length - k) (fun _=>by rw [hE2];exact Nat.le_refl 2) 0 (Nat.zero_le _) ?_ ?_
 ·exact weak_same (by simp) ⟨rfl,rfl,rfl,rfl,trivial⟩
 intro k hk
 have hk:k≤l.length:=hk
 refine vcOk _ ?_
 (all_goals refine qgp ?_<;>(repeat' first | exact trivial | intro hc | refine And.intro ?_ ?_)<;>refine Lf.mk ?_)
 ·obtain ⟨x,hx⟩:=at_of_lt (l:=l) (k:=k) (by omega)
  have hkl:k < l.length:=by omega
  have hgx:l[k]=x:=by rw [List.getElem?_eq_getElem hkl] at hx;exact Option.some.inj hx
  obtain ⟨hp,hxl⟩:=hl x (List.mem_of_getElem? hx)
  have hxk:l[((k:Nat):Int).toNat]?=some x:=by rw [Int.toNat_natCast];exact hx
  refine ix_map x (Int.natCast_nonneg k) hxk ?_
  (all_goals refine qgp (Lf.mk ?_))
  refine call_p mhead_meets x hxl (VS.mk (LeL.of_eq rfl)) ?_
  obtain ⟨p1,p2,p3,p4,p5,p6,p7,p8⟩:=hp
  (all_goals refine qgp ?_<;>(repeat' first | exact trivial | intro hc | refine And.intro ?_ ?_)<;>refine Lf.mk ?_)
  all_goals first
   | (exfalso;exact p1 (by assumption))
   | (exfalso;exact p2 (by assumption))
   | (exfalso;exact p3 (by assumption))
   | (exfalso;exact p4 (by assumption))
   | (exfalso;exact p5 (by assumption))
   | (exfalso;exact p6 (by assumption))
   | (exfalso;exact p7 (by assumption))
   | (exfalso;exact p8 (by assumption))
   | skip
  have hok:(out++l.take k).length=out.length+k:=by rw [List.length_append,List.length_take];omega
  refine call_b mfind_meets [] (out++l.take k,looked+(k:Int)+1,0,0,headM x) trivial rfl (LeL.refl _) rfl (.cons (.loc (Nat.lt_of_lt_of_le (by decide:0 < 2) (Nat.le_of_eq rfl))) (.cons .str .nil)) .int (mO_cl _ _ _ _) (mO_cl _ _ _ _) ?_
  have htk:(l.take (k+1)).drop k=[x]:=by
   rw [List.take_succ_eq_append_getElem hkl,List.drop_left' (by rw [List.length_take];omega),hgx]
  have htk2:out++l.take (k+1)=(out++l.take k)++[x]:=by rw [List.take_succ_eq_append_getElem hkl,hgx,List.append_assoc]
  generalize out++l.take k=ok at *
  (all_goals refine qgk ?_<;>(repeat' first | exact trivial | intro hc | refine And.intro ?_ ?_)<;>refine Lf.mk ?_)
  ·exact absurd hc (by decide)
  ·exfalso;omega
  refine call_p sown_meets [x] ⟨by simp,fun y hy=>by rw [List.mem_singleton] at hy;subst hy;exact hxl⟩ (VS.mk (LeL.of_eq (by rw [Int.toNat_natCast,show (((k:Nat):Int)+1).toNat=k+1 by omega,htk]))) ?_
  (all_goals refine qgk (Lf.mk ?_))
  exact loop_same (k+1) (by show k+1≤_;omega) (by omega) (by dsimp only;rw [htk2,show looked+(((k+1:Nat)):Int)=looked+(k:Int)+1 by omega];rfl) ⟨rfl,rfl,rfl,rfl,trivial⟩
 ·exact absurd trivial hc
 ·have hk2:k=l.length:=by omega
  rw [hk2,List.take_length]
  exact end_eq rfl rfl
def plainL (l:List LLine):Prop:=l.length≤200∧∀ x∈l,plainH (headM x)∧x.toks.length≤1000000000
theorem expand_plain:Meets Tryz.prog n_macro_Expand (SpecP (fun l:List LLine=>plainL l) (fun l=>[.sl 2 (l.map llineD) none]) fun l=>.tup [.sl 2 (l.map llineD) none,.sl 2 [] none,.agg [.int .i64 0,.int .i64 0]]):=by
 refine meets_f tabOk Tryz.func21 rfl (by decide) ?_
 rintro l ⟨hl,hp⟩
 refine ⟨Nat.le_refl _,by simp [Tryz.f21],fun E hE=>?_⟩
 have hE0:E.L.length=0:=by rw [hE];rfl
 refine awp_seqK (vcOk _ ?_)
 (all_goals refine qgp (Lf.mk ?_))
 refine awp_seqK (vcOk _ ?_)
 (all_goals refine qgp (Lf.mk ?_))
 refine awp_weak (σ':=[(0,.sl 2 (l.map llineD) none),(4,.loc 2 0),(5,.loc 0 0)]) (L':=mO [] 0 0 0++[T5]) ?_ ?_
 ·rw [hE0]
  refine weak_trans (weak_cellnil' 1 2 [.nilsl,.nilsl,.sl 2 [] (some 2),.int .i64 0,.int .i64 0,.int .i64 0] rfl ⟨.same,.same,.here,.same,.same,.same,trivial⟩) ?_
  refine weak_keepO [1,2,0] rfl rfl ?_ ⟨.flat .sl,.loc rfl,.loc rfl,trivial⟩
  exact .cons (o:=.cells [.nilsl,.nilsl,.sl 2 [] (some 2),.int .i64 0,.int .i64 0,.int .i64 0]) rfl ⟨_,rfl,.cons (.flat .nilsl) (.cons (.flat .nilsl) (.cons (.tok rfl) (.cons (.flat .int) (.cons (.flat .int) (.cons (.flat .int) .nil)))))⟩
   (.cons (o:=.spare 0) rfl rfl (.cons (o:=T5) rfl ⟨_,rfl,.cons (.flat .int) (.cons (.flat .int) .nil)⟩ .nil))
 refine vcOk _ ?_
 (all_goals refine qgp (Lf.mk ?_))
 refine call_b mlines_plain [T5] (l,[],0,0) ⟨by decide,by decide,by simpa using hl,by decide,by show 0+(l.length:Int)≤4000;omega,hp⟩ rfl (LeL.refl _) rfl (.cons (.loc (Nat.lt_of_lt_of_le (by decide:0 < 2) (Nat.le_of_eq rfl))) (.cons .sl (.cons .int .nil))) .tup0 (mO_cl _ _ _ _) (mO_cl _ _ _ _) ?_
 dsimp only
 rw [List.nil_append]
 (all_goals refine qgp ?_<;>(repeat' first | exact trivial | intro hc | refine And.intro ?_ ?_)<;>refine Lf.mk ?_)
 ·exact absurd trivial hc
 ·exact end_p (VS.mk (LeD.tup (.cons (.strip _ _ _) (.cons (.nil 2) (LeL.refl _)))))
end Go.Proofs.YtfahnaccpncdpaaGreatDoor
namespace Go.Proofs.YtfahnaccpncdpaaGreatDoor
open Go Go.Plat
set_option linter.unusedVariables false
set_option linter.unusedSimpArgs false
set_option maxRecDepth 100000
set_option maxHeartbeats 2000000
attribute [local irreducible] AWP Arith BitS BytesS CallS CatS DrawS EndS IdxS LookS LoopEnd Meets ModeS NilS NormL NormM QuoS RemS ShlS ShrS SideS SplitS bitI blankC digV digitB kindB letterB lexF lexL lexR numC numR numTok okC puF puR signT spanF wordC
end Go.Proofs.YtfahnaccpncdpaaGreatDoor
namespace Go.Proofs.YtfahnaccpncdpaaGreatDoor
open Go Go.Plat
set_option linter.unusedVariables false
set_option linter.unusedSimpArgs false
set_option maxRecDepth 100000
set_option maxHeartbeats 2000000
attribute [local irreducible] AWP Arith BitS BytesS CallS CatS DrawS EndS IdxS Lib.itoa LookS LoopEnd Meets ModeS NilS NormL NormM OExpr.kids OExpr.kind OExpr.n OExpr.name QuoS RemS ShlS ShrS SideS SplitS allA awayA bitI buildR encV evalE exprD findI halfE idxV infoR labelB leadE linesR nameB nearE nodes oneA pRes putN regI signedI sizeA slotV takeA targetA withV wordE wrongI
def unitP (b:List UInt8):OObj×Int×Int:=if (linesR b).2.1≠0 then (noO,(linesR b).2.1,(linesR b).2.2) else buildR [] (linesR b).1
structure PlainB (b:List UInt8):Prop where
 len:b.length≤1000000000
 plain:plainL (linesR b).1
 tot:totL (linesR b).1≤9000
 wts:∀ x∈(linesR b).1,wt (x.toks.map tk)≤1048576
theorem unit_plain:Meets Tryz.prog n_asm_Unit (SpecP PlainB (fun b=>[.sl 1 (b.map byteD) none]) fun b=>.tup [objD (unitP b).1,.agg [.int .i64 (unitP b).2.1,.int .i64 (unitP b).2.2]]):=by
 refine meets_f tabOk Tryz.func6 rfl (by decide) ?_
 rintro b ⟨h1,h2,h3,h4⟩
 refine ⟨Nat.le_refl _,by simp [Tryz.f6],fun E hE=>?_⟩
 have hU:unitP b=if (linesR b).2.1≠0 then (noO,(linesR b).2.1,(linesR b).2.2) else buildR [] (linesR b).1:=rfl
 generalize unitP b=U at *
 refine vcOk _ ?_
 (all_goals refine qgp (Lf.mk ?_))
 refine call_p scan_lines_meets b h1 (VS.mk (LeL.of_eq rfl)) ?_
 have hD:linesD (linesR b)= .tup [.sl 2 ((linesR b).1.map llineD) none,.agg [.int .i64 (linesR b).2.1,.int .i64 (linesR b).2.2]]:=rfl
 rw [hD]
 generalize linesR b=W at *
 obtain ⟨l,e,a⟩:=W
 dsimp only at h2 h3 h4 hU ⊢
 (all_goals refine qgp ?_<;>(repeat' first | exact trivial | intro hc | refine And.intro ?_ ?_)<;>refine Lf.mk ?_)
 ·rw [if_pos hc] at hU
  subst hU
  exact end_p (VS.mk (LeD.tup (.cons (LeD.agg (.cons (.nil 1) (.cons (.nil 2) (.cons (.nil 4) .nil)))) (LeL.refl _))))
 rw [if_neg (fun h=>h hc)] at hU
 refine call_p expand_plain l h2 (VS.mk (LeL.of_eq rfl)) ?_
 (all_goals refine qgp ?_<;>(repeat' first | exact trivial | intro hc | refine And.intro ?_ ?_)<;>refine Lf.mk ?_)
 ·exact absurd trivial hc
 refine call_p build_meets (l,[]) ⟨h3,h4,by decide,by have:=h2.1;show l.length≤_;omega⟩ (VS.mk (LeL.of_eq rfl)) ?_
 dsimp only
 rw [← hU]
 (all_goals refine qgp (Lf.mk ?_))
 exact end_p (VS.mk (LeD.refl _))
end Go.Proofs.YtfahnaccpncdpaaGreatDoor
namespace Go.Proofs.YtfahnaccpncdpaaGreatDoor
open Go Go.Plat
set_option linter.unusedVariables false
set_option linter.unusedSimpArgs false
set_option maxRecDepth 100000
set_option maxHeartbeats 2000000
attribute [local irreducible] AWP Arith BitS BytesS CallS CatS DrawS EndS IdxS LookS LoopEnd Meets ModeS NilS NormL NormM QuoS RemS ShlS ShrS SideS SplitS bitI blankC digV digitB kindB letterB lexF lexL lexR nameB numC numR numTok okC puF puR signT spanF wordC
theorem lexF_len:∀ (f:Nat) (l:List UInt8) (out r:List LTok),lexF f l out=some r→r.length≤out.length+l.length
 | 0,l,out,r,h=>by rw [lexF] at h;cases h;omega
 | f+1,[],out,r,h=>by rw [lexF] at h;cases h;simp
 | f+1,c::l,out,r,h=>by
  have ih:=lexF_len f
  have hd:∀ n,1≤n→((c::l).drop n).length≤l.length:=fun n hn=>by rw [List.length_drop,List.length_cons];omega
  rw [lexF] at h
  rw [List.length_cons]
  split at h
  ·have:=ih _ _ _ h;omega
  split at h
  ·rename_i h1
   have:=ih _ _ _ h
   have:=hd _ (word_first (r:=l) h1)
   rw [List.length_append,List.length_cons,List.length_nil] at *
   omega
  split at h
  ·rename_i h1
   split at h
   ·have:=ih _ _ _ h
    have:=hd _ (num_first (r:=l) h1)
    rw [List.length_append,List.length_cons,List.length_nil] at *
    omega
   ·cases h
  split at h
  ·cases h;omega
  split at h
  ·have:=ih _ _ _ h
   rw [List.length_append,List.length_drop,List.length_cons,List.length_nil] at this
   omega
  split at h
  ·have:=ih _ _ _ h
   rw [List.length_append,List.length_cons,List.length_nil] at this
   omega
  ·cases h
theorem lexR_len (s:List UInt8):(lexR s).1.length≤80:=by
 rw [lexR_eq]
 split
 ·simp
 ·rename_i h
  unfold lexL lexFin
  cases hl:lexF (s.length+1) s [] with
  | none=>simp
  | some r=>
   have:=lexF_len _ _ _ _ hl
   simp at this ⊢
   omega
theorem linesF_ok:∀ (ps:List (List UInt8)) (k:Int) (out:List LLine),(∀ x∈out,x.toks.length≤80)→(linesF ps k out).1.length≤out.length+ps.length∧∀ x∈(linesF ps k out).1,x.toks.length≤80
 | [],k,out,h=>⟨by rw [linesF];simp,h⟩
 | p::r,k,out,h=>by
  rw [linesF_cons]
  split
  ·exact ⟨by simp,fun x hx=>by simp at hx⟩
  split
  ·obtain ⟨h1,h2⟩:=linesF_ok r (k+1) out h
   exact ⟨by rw [List.length_cons];omega,h2⟩
  ·obtain ⟨h1,h2⟩:=linesF_ok r (k+1) (out++[⟨k,(lexR p).1⟩]) fun x hx=>by
    rcases List.mem_append.1 hx with hx | hx
    ·exact h x hx
    ·rw [List.mem_singleton] at hx;rw [hx];exact lexR_len p
   rw [List.length_append,List.length_cons,List.length_nil] at h1
   exact ⟨by rw [List.length_cons];omega,h2⟩
theorem linesR_ok (b:List UInt8):(linesR b).1.length≤1201∧∀ x∈(linesR b).1,x.toks.length≤80:=by
 unfold linesR
 split
 ·exact ⟨by simp,fun x hx=>by simp at hx⟩
 ·obtain ⟨h1,h2⟩:=linesF_ok (splitC 10 b) 1 [] (fun x hx=>by simp at hx)
  have h3:=split_len 10 b
  have h4:=List.count_le_length (a:=10) (l:=b)
  exact ⟨by simp at h1;omega,h2⟩
attribute [local irreducible] linesR
end Go.Proofs.YtfahnaccpncdpaaGreatDoor
namespace Go.Proofs.YtfahnaccpncdpaaGreatDoor
open Go Go.Plat
set_option linter.unusedVariables false
set_option linter.unusedSimpArgs false
set_option maxRecDepth 100000
set_option maxHeartbeats 2000000
attribute [local irreducible] AWP Arith BitS BytesS CallS CatS DrawS EndS IdxS LookS LoopEnd Meets ModeS NilS NormL NormM QuoS RemS ShlS ShrS SideS SplitS bitI blankC digV digitB kindB letterB lexF lexL lexR nameB numC numR numTok okC puF puR signT spanF wordC
theorem split_app (a b:List UInt8):splitC 10 (a++10::b)=splitC 10 a++splitC 10 b:=by
 induction a with
 | nil=>
  show (if (10:UInt8)=10 then []::splitC 10 b else _)=_
  rw [if_pos rfl];rfl
 | cons c a ih=>
  rw [List.cons_append,splitC,splitC,ih]
  split
  ·rfl
  ·have h:=split_len 10 a
   cases hs:splitC 10 a with
   | nil=>rw [hs] at h;simp at h
   | cons x r=>rfl
end Go.Proofs.YtfahnaccpncdpaaGreatDoor
namespace Go.Proofs.YtfahnaccpncdpaaGreatDoor
open Go Go.Plat
set_option linter.unusedVariables false
set_option linter.unusedSimpArgs false
set_option maxRecDepth 100000
set_option maxHeartbeats 2000000
attribute [local irreducible] AWP Arith BitS BytesS CallS CatS DrawS EndS IdxS LookS LoopEnd Meets ModeS NilS NormL NormM QuoS RemS ShlS ShrS SideS SplitS bitI
theorem all_num0 (n k:Int):allA [] k ⟨[⟨2,n,[]⟩],0,0⟩=([⟨[],0,⟨[],signedI (signedI n 32) 32⟩⟩],⟨[],0,0⟩):=by kernel_rfl
theorem signed_two (n:Int):signedI (signedI n 32) 32=signedI n 32:=by
 have h:∀ n,signedI n 32=if n % 4294967296 / 2147483648=1 then n % 4294967296 - 4294967296 else n % 4294967296:=fun _=>rfl
 have h1:=h n
 have h2:=h (signedI n 32)
 generalize signedI n 32=m at *
 rw [h2]
 split at h1<;>split<;>omega
theorem all_num (n k:Int):allA [] k ⟨[⟨2,n,[]⟩],0,0⟩=([⟨[],0,⟨[],signedI n 32⟩⟩],⟨[],0,0⟩):=by rw [all_num0,signed_two]
theorem signed32 {n:Int} (h0:0≤n) (h1:n < 4294967296):signedI n 32=if n < 2147483648 then n else n - 4294967296:=by
 have:signedI n 32=if n % 4294967296 / 2147483648=1 then n % 4294967296 - 4294967296 else n % 4294967296:=rfl
 rw [this]
 split
 ·rw [if_neg (by omega)];omega
 ·rw [if_pos (by omega)];omega
theorem split_one:∀ (a:List UInt8),(∀ c∈a,c≠10)→splitC 10 a=[a]
 | [],_=>rfl
 | c::a,h=>by
  have ih:=split_one a fun x hx=>h x (List.mem_cons_of_mem _ hx)
  rw [splitC,if_neg (h c List.mem_cons_self),ih]
theorem dig_ten {u:Nat} (h:u < 4294967296):(Lib.decDigits u).length≤10:=by
 rw [Lib.decDigits_length]
 have key:∀ k v:Nat,v < 10 ^ k→1≤k→Lib.nDigits v≤k:=fun k=>by
  induction k with
  | zero=>intro v h1 h2;omega
  | succ k ih=>
   intro v h1 h2
   by_cases hv:v < 10
   ·rw [Lib.nDigits_small hv];omega
   ·rw [Lib.nDigits_big hv]
    rw [Nat.pow_succ] at h1
    by_cases hk:k=0
    ·subst hk;omega
    ·have:=ih (v / 10) (by omega) (by omega);omega
 exact key 10 u (by omega) (by decide)
theorem line_step {t:List UInt8} {ts:List LTok} (rest:List UInt8) (k:Int) (out:List LLine) (hn:∀ c∈t,c≠10) (hx:lexR t=(ts,0)) (hs:ts.length≠0):linesF (splitC 10 (t++10::rest)) k out=linesF (splitC 10 rest) (k+1) (out++[⟨k,ts⟩]):=by
 rw [split_app,split_one _ hn,List.singleton_append,linesF_cons,hx,if_neg (fun h=>h rfl),if_neg hs]
theorem lines_nil (k:Int) (out:List LLine):linesF (splitC 10 []) k out=(out,0,0):=by
 show linesF [[]] k out=_
 rw [linesF_cons,if_neg (by decide +kernel),if_pos (by decide +kernel)]
 rfl
end Go.Proofs.YtfahnaccpncdpaaGreatDoor
