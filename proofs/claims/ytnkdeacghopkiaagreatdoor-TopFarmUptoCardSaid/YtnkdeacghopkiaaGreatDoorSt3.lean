/-
  A part of the proof: what the given program's functions answer, each once; conditions that are enough for it.
-/
import Derived.Test.YtnkdeacghopkiaaGreatDoorSt2
import Derived.Test.YtnkdeacghopkiaaGreatDoorFw3
import Derived.Test.YtnkdeacghopkiaaGreatDoorSt1
import Derived.Shelf.RegionOpenPlain
import Derived.WalkKit
import Derived.Deep.RegionLaw
import Derived.Lib.Walk
import Derived.Sort.WalkB12
import Derived.Lib.SliceRun
import Derived.Lib.SlicesDelete
import Derived.OwnWalk
import Derived.Test.YtnkdeacghopkiaaGreatDoorFw2
namespace Go.Proofs.YtnkdeacghopkiaaGreatDoor
open Go Go.Plat
set_option linter.unusedVariables false
set_option linter.unusedSimpArgs false
set_option maxRecDepth 100000
set_option maxHeartbeats 2000000
attribute [local irreducible] AWP zG yn zK zn yA z8 zI zY Lib.itoa z6 zw za zN yB zt z7 zi.kids zi.kind zi.n zi.name yx yy yq yt zx zz xL vg zD xD xy vV wY xE wi yO yM xe wg vo xM vX zV yk vW xf
structure zbh (shut:List (List zB)) (marks:List Int) (s:Lay):Prop where
 size:∀ x∈s.items,w7 shut x
 items:s.items.length≤1000000
 len:marks.length=s.syms.length
 marksl:marks.length≤1000000
 pos:∀ m∈marks,0≤m
theorem zht {pools:List (List zB)}:∀ (l:List zO) (a:Int),0≤a→(∀ x∈l,w7 pools x)→∀ x∈(yS pools l a).1,w7 pools x∧0≤x.at_∧x.at_≤a+5000000 * (l.length:Int)
 | [],a,h0,_,x,hx=>by cases hx
 | y::l,a,h0,hs,x,hx=>by
  have hy:=hs y List.mem_cons_self
  have hz:=zlO (a:=a) hy h0
  rw [yS] at hx
  rcases List.mem_cons.1 hx with rfl | hx
  ·exact ⟨hy,h0,by dsimp only;simp only [List.length_cons];omega⟩
  ·obtain ⟨h1,h2,h3⟩:=zht l (a+xM pools y a) (by omega) (fun z hz=>hs z (List.mem_cons_of_mem _ hz)) x hx
   exact ⟨h1,h2,by simp only [List.length_cons];omega⟩
theorem zdS (pools:List (List zB)):∀ (l:List zO) (a:Int),vt (yS pools l a).1=vt l
 | [],a=>rfl
 | x::l,a=>by
  have ih:=zdS pools l (a+xM pools x a)
  unfold vt at ih ⊢
  rw [yS,List.filter_cons,List.filter_cons]
  split
  ·rw [List.length_cons,List.length_cons,ih]
  ·exact ih
theorem zvy {pools:List (List zB)} {syms:List zH} {x:zO} (h:w7 pools x):w7 pools (xA syms x):=by
 unfold xA
 split
 ·exact h
 ·exact h
theorem zgb (syms:List zH):∀ l:List zO,vt (l.map (xA syms))≤vt l∧(l.any (wL syms)=true→vt (l.map (xA syms)) < vt l)
 | []=>⟨Nat.le_refl _,fun h=>by cases h⟩
 | x::l=>by
  obtain ⟨h1,h2⟩:=zgb syms l
  unfold vt at h1 h2 ⊢
  rw [List.map_cons,List.filter_cons,List.filter_cons,List.any_cons]
  cases hm:wL syms x with
  | true=>
   have hs:x.kind=2∧x.long=false:=by unfold wL at hm;simp at hm;exact ⟨hm.1,hm.2.1⟩
   have hg:xA syms x={ x with long:=true }:=by unfold xA;rw [if_pos hm]
   rw [hg]
   rw [if_neg (show ¬ decide (x.kind=2∧true=false)=true by simp),if_pos (show decide (x.kind=2∧x.long=false)=true by simpa using hs),List.length_cons]
   exact ⟨by omega,fun _=>by omega⟩
  | false=>
   have hg:xA syms x=x:=by unfold xA;rw [if_neg (by rw [hm];decide)]
   rw [hg,Bool.false_or]
   split
   ·rw [List.length_cons,List.length_cons]
    exact ⟨by omega,fun h=>by have:=h2 h;omega⟩
   ·exact ⟨h1,h2⟩
theorem zbh.place {shut:List (List zB)} {marks:List Int} {s:Lay} (h:zbh shut marks s):zbh shut marks (xb shut marks s).1:=
 ⟨fun x hx=>(zht s.items 0 (Int.le_refl 0) h.size x hx).1,by show (yS shut s.items 0).1.length≤_;rw [zga];exact h.items,by show _=(vr _ _ _ _).length;rw [zde];exact h.len,h.marksl,h.pos⟩
theorem zbh.grow {shut:List (List zB)} {marks:List Int} {s:Lay} {syms:List zH} (h:zbh shut marks s):zbh shut marks ⟨s.items.map (xA syms),s.syms⟩:=
 ⟨fun x hx=>by obtain ⟨y,hy,rfl⟩:=List.mem_map.1 hx;exact zvy (h.size y hy),by rw [List.length_map];exact h.items,h.len,h.marksl,h.pos⟩
theorem zrm {av:List D} {L:List Ob} {KP:D→Prop} {KW:D→List Ob→Prop} (q:List zo) (b:Bld) (v:zB) (X:List Ob) (hl:b.syms.length≤1000000) (hL:L=bO q b++X) (has:av=[.loc 0 0,yP v])
  (hK:KW (.tup [.int .i64 (yk b.syms v).1,.int .i64 (yk b.syms v).2]) (bO q b++X)):zn Tryz.prog vR av L KP KW:=by
 subst has
 exact xF zpM X (b,v,q) hl hL (LeL.refl _) rfl (.cons (.loc (Nat.lt_of_lt_of_le (by decide:0 < 6) (Nat.le_of_eq rfl))) (.cons (zbJ v) .nil)) (.tup (.cons .int (.cons .int .nil))) (xt _ _) (xt _ _) hK
theorem ztG {av:List D} {L:List Ob} {KP:D→Prop} {KW:D→List Ob→Prop} (q:List zo) (s:Lay) (marks:List Int) (shut:List (List zB)) (cur:List zB) (fe fa:Int) (X:List Ob) (h:zbh shut marks s) (hL:L=bO q ⟨s.items,s.syms,marks,shut,false,cur,fe,fa⟩++X) (has:av=[.loc 0 0])
  (hK:KW (.int .i64 (xb shut marks s).2) (bO q ⟨(xb shut marks s).1.items,(xb shut marks s).1.syms,marks,shut,false,cur,fe,fa⟩++X)):zn Tryz.prog zbr av L KP KW:=by
 subst has
 exact xF zrl X (⟨s.items,s.syms,marks,shut,false,cur,fe,fa⟩,q) ⟨rfl,h.size,h.items,h.len,h.marksl,h.pos⟩ hL (LeL.refl _) rfl (.cons (.loc (Nat.lt_of_lt_of_le (by decide:0 < 6) (Nat.le_of_eq rfl))) .nil) .int (xt _ _) (xt _ _) hK
theorem ziJ (shut : List (List zB)) (marks : List Int) (f : Nat) (s : Lay) : zdQ shut marks (f + 1) s = if ((xb shut marks s).1.items.any (wL (xb shut marks s).1.syms)) = false ∨ 8000 < (xb shut marks s).2
      then (⟨(xb shut marks s).1.items.map (xA (xb shut marks s).1.syms),(xb shut marks s).1.syms⟩,(xb shut marks s).2)
      else zdQ shut marks f ⟨(xb shut marks s).1.items.map (xA (xb shut marks s).1.syms),(xb shut marks s).1.syms⟩:=rfl
theorem zrn:za Tryz.prog zgv (zQ (fun ((s,marks,shut,_,_,_,_):Lay×List Int×List (List zB)×List zB×Int×Int×List zo)=>zbh shut marks s) (fun _=>[.loc 0 0])
  (fun (s,marks,shut,cur,fe,fa,q)=>bO q ⟨s.items,s.syms,marks,shut,false,cur,fe,fa⟩) (fun (s,marks,shut,_,_,_,_)=>.int .i64 (yV shut marks s).2)
  fun (s,marks,shut,cur,fe,fa,q)=>bO q ⟨(yV shut marks s).1.items,(yV shut marks s).1.syms,marks,shut,false,cur,fe,fa⟩):=by
 refine zf zh Tryz.func89 rfl (by decide) ?_
 rintro ⟨s,marks,shut,cur,fe,fa,q⟩ h
 have h:zbh shut marks s:=h
 refine ⟨Nat.le_refl _,by simp [Tryz.f89],fun E hE=>?_⟩
 have hE6:E.L.length=6:=by rw [hE];rfl
 show AWP _ _ _ _ (kg _ _ _ (.int .i64 (yV shut marks s).2) (bO q ⟨(yV shut marks s).1.items,(yV shut marks s).1.syms,marks,shut,false,cur,fe,fa⟩)) _ (bO q ⟨s.items,s.syms,marks,shut,false,cur,fe,fa⟩)
 generalize hT:yV shut marks s=T
 have hT:zdQ shut marks (vt s.items+1) s=T:=hT
 refine ze _ ?_
 (all_goals refine qgp (Lf.mk ?_))
 refine yp (α:=Nat×Lay) (fun p=>zdQ shut marks p.1 p.2=T∧vt p.2.items < p.1∧zbh shut marks p.2) (fun _=>[(0,.loc 0 0)]) (fun p=>bO q ⟨p.2.items,p.2.syms,marks,shut,false,cur,fe,fa⟩) (fun p=>p.1)
  (fun _=>by rw [hE6];exact Nat.le_refl 6) (vt s.items+1,s) ⟨hT,Nat.lt_succ_self _,h⟩ ?_ ?_
 ·exact yf rfl ⟨rfl,trivial⟩
 rintro ⟨f,s1⟩ ⟨i1,i2,i3⟩
 dsimp only at i1 i2 i3 ⊢
 obtain ⟨f,rfl⟩:∃ g,f=g+1:=⟨f - 1,by omega⟩
 rw [ziJ] at i1
 have hpl:=i3.place
 have hat:∀ x∈(xb shut marks s1).1.items,0≤x.at_∧x.at_≤1000000000000000:=fun x hx=>by
  obtain ⟨_,h1,h2⟩:=zht s1.items 0 (Int.le_refl 0) i3.size x hx
  have:=i3.items
  exact ⟨h1,by omega⟩
 have hsh:vt (xb shut marks s1).1.items=vt s1.items:=zdS shut s1.items 0
 refine ze _ ?_
 (all_goals refine qgp (Lf.mk ?_))
 refine ztG q s1 marks shut cur fe fa [] i3 rfl rfl ?_
 generalize xb shut marks s1=P at *
 obtain ⟨⟨PI,PS⟩,n⟩:=P
 dsimp only at i1 hpl hat hsh ⊢
 have hPIl:PI.length≤1000000:=hpl.items
 have hgs:=zgb PS PI
 have hgl:=hpl.grow (syms:=PS)
 dsimp only at hgl
 (all_goals refine qgp (Lf.mk ?_))
 refine yp (α:=Nat) (fun k=>k≤PI.length) (fun k=>[(0,.loc 0 0),(3,.int .i64 n),(4,.bool ((PI.take k).any (wL PS))),(17,.int .i64 PI.length),(18,.int .i64 k)])
  (fun k=>bO q ⟨(PI.take k).map (xA PS)++PI.drop k,PS,marks,shut,false,cur,fe,fa⟩) (fun k=>PI.length - k) (fun _=>by rw [hE6];exact Nat.le_refl 6) 0 (Nat.zero_le _) ?_ ?_
 ·exact zjf rfl ⟨.refl _,.refl _,.ff rfl,.refl _,.refl _,trivial⟩
 intro k hk
 have hk:k≤PI.length:=hk
 refine ze _ ?_
 (all_goals refine qgp ?_<;>(repeat' first | exact trivial | intro hc | refine And.intro ?_ ?_)<;>refine Lf.mk ?_)
 ·have hkl:k < PI.length:=by omega
  obtain ⟨x,hx⟩:=zP (l:=PI) (k:=k) (by omega)
  have hgx:PI[k]=x:=by rw [List.getElem?_eq_getElem hkl] at hx;exact Option.some.inj hx
  have hxa:=hat x (List.mem_of_getElem? hx)
  have hdrop:PI.drop k=x::PI.drop (k+1):=by rw [List.drop_eq_getElem_cons hkl,hgx]
  have htake:(PI.take (k+1)).map (xA PS)=(PI.take k).map (xA PS)++[xA PS x]:=by rw [List.take_succ_eq_append_getElem hkl,hgx,List.map_append];rfl
  have hany:(PI.take (k+1)).any (wL PS)=((PI.take k).any (wL PS) || wL PS x):=by rw [List.take_succ_eq_append_getElem hkl,hgx,List.any_append,List.any_cons,List.any_nil,Bool.or_false]
  have hGl:((PI.take k).map (xA PS)).length=k:=by rw [List.length_map,List.length_take];omega
  rw [hdrop]
  generalize (PI.take k).map (xA PS)=G at *
  generalize (PI.take k).any (wL PS)=c at *
  have hmid:=zfa (a:=G) (b:=PI.drop (k+1)) (x:=x) hGl
  have hget:(G++x::PI.drop (k+1))[(((0+((k:Nat):Int).toNat:Nat)):Int).toNat]?=some x:=by rw [Int.toNat_natCast,Nat.zero_add,Int.toNat_natCast];exact hmid
  have hno:wL PS x=false→xA PS x=x:=fun h=>by unfold xA;rw [if_neg (by rw [h];decide)]
  have hyes:wL PS x=true→xA PS x={ x with long:=true }:=fun h=>by unfold xA;rw [if_pos h]
  have hms:wL PS x=decide (x.kind=2∧x.long=false∧(yk PS x.val).2=0∧(vg x.ins.op x.at_ (yk PS x.val).1).2=3):=rfl
  have hLn:wL PS x=false→bO q ⟨G++x::PI.drop (k+1),PS,marks,shut,false,cur,fe,fa⟩=bO q ⟨(PI.take (k+1)).map (xA PS)++PI.drop (k+1),PS,marks,shut,false,cur,fe,fa⟩:=fun h=>by rw [htake,hno h,List.append_assoc];rfl
  have hAn:wL PS x=false→(PI.take (k+1)).any (wL PS)=c:=fun h=>by rw [hany,h,Bool.or_false]
  have stop:∀ {σ:List (Nat×D)},wL PS x=false→zfM σ [(0,.loc 0 0),(3,.int .i64 n),(4,.bool c),(17,.int .i64 PI.length),(18,.int .i64 ((k:Int)+1))] →
    zw E.L.length (fun k=>k≤PI.length) (fun k=>[(0,.loc 0 0),(3,.int .i64 n),(4,.bool ((PI.take k).any (wL PS))),(17,.int .i64 PI.length),(18,.int .i64 k)])
     (fun k=>bO q ⟨(PI.take k).map (xA PS)++PI.drop k,PS,marks,shut,false,cur,fe,fa⟩) (fun k=>PI.length - k) k σ (bO q ⟨G++x::PI.drop (k+1),PS,marks,shut,false,cur,fe,fa⟩):=fun {σ} hm hs=>
   yj (k+1) (by show k+1≤_;omega) (by omega) (hLn hm) (by rw [hAn hm];exact hs)
  refine zl x (Int.natCast_nonneg _) hget ?_
  (all_goals refine qgp ?_<;>(repeat' first | exact trivial | intro hc | refine And.intro ?_ ?_)<;>refine Lf.mk ?_)
  ·refine stop (by rw [hms];simp [hc]) ?_
   exact ⟨rfl,rfl,rfl,rfl,rfl,trivial⟩
  refine zl x (Int.natCast_nonneg _) hget ?_
  (all_goals refine qgp ?_<;>(repeat' first | exact trivial | intro hc | refine And.intro ?_ ?_)<;>refine Lf.mk ?_)
  ·refine stop (by rw [hms];simp [hc]) ?_
   exact ⟨rfl,rfl,rfl,rfl,rfl,trivial⟩
  refine zl x (Int.natCast_nonneg _) hget ?_
  (all_goals refine qgp (Lf.mk ?_))
  refine zrm q ⟨G++x::PI.drop (k+1),PS,marks,shut,false,cur,fe,fa⟩ x.val [] (by show PS.length≤_;have:=hpl.len;have:=hpl.marksl;dsimp only at *;omega) rfl rfl ?_
  rw [show Bld.syms ⟨G++x::PI.drop (k+1),PS,marks,shut,false,cur,fe,fa⟩=PS from rfl]
  generalize yk PS x.val=W at *
  obtain ⟨to,e⟩:=W
  dsimp only at hms ⊢
  (all_goals refine qgp ?_<;>(repeat' first | exact trivial | intro hc | refine And.intro ?_ ?_)<;>refine Lf.mk ?_)
  ·refine zl x (Int.natCast_nonneg _) hget ?_
   (all_goals refine qgp (Lf.mk ?_))
   refine zl x (Int.natCast_nonneg _) hget ?_
   (all_goals refine qgp (Lf.mk ?_))
   refine zb zkO (x.ins.op,x.at_,to) hxa (VS.mk (LeL.of_eq rfl)) ?_
   (all_goals refine qgk ?_<;>(repeat' first | exact trivial | intro hc | refine And.intro ?_ ?_)<;>refine Lf.mk ?_)
   ·have hm:wL PS x=true:=by rw [hms];simp [*]
    refine zl x (Int.natCast_nonneg _) hget ?_
    (all_goals refine qgk (Lf.mk ?_))
    refine jL ?_
    (all_goals refine qgk (Lf.mk ?_))
    refine zmt (k+1) (by show k+1≤_;omega) (by omega) (xK (zwB (k:=1) (e:=13) ((G++{ x with long:=true }::PI.drop (k+1)).map xz) rfl (by simp) ?_) (zjf ?_ ⟨.refl _,.refl _,?_,.refl _,.refl _,trivial⟩))
    ·rw [← zjq (f:=xz) (x:=x) { x with long:=true } hGl rfl]
     exact zrN (.cons (.refl _) (.cons (.refl _) (.cons (.refl _) (.cons (.refl _) (.cons (.refl _) (.cons (.refl _) (.cons (.refl _) (.cons (.tt rfl) (LeL.refl _)))))))))
    ·dsimp only
     rw [htake,hyes hm,List.append_assoc]
     exact congrArg (fun c=>Ob.cells c::bT ⟨G++{ x with long:=true }::PI.drop (k+1),PS,marks,shut,false,cur,fe,fa⟩) (zig (by simp) rfl rfl rfl rfl rfl rfl)
    ·rw [hany,hm,Bool.or_true]
     exact .tt rfl
   ·refine stop (by rw [hms];simp [hc]) ?_
    exact ⟨rfl,rfl,rfl,rfl,rfl,trivial⟩
  ·refine stop (by rw [hms];simp [hc]) ?_
   exact ⟨rfl,rfl,rfl,rfl,rfl,trivial⟩
 all_goals
  have hk2:k=PI.length:=by omega
  have hT:PI.take k=PI:=by rw [hk2,List.take_length]
  have hD:PI.drop k=[]:=by rw [hk2,List.drop_length]
  rw [hT,hD,List.append_nil]
 ·rw [hT] at hc
  rw [if_pos (.inl hc)] at i1
  subst i1
  exact yQ rfl rfl
 ·rw [if_pos (.inr hc)] at i1
  subst i1
  exact yQ rfl rfl
 ·have hany:(PI.take k).any (wL PS)=true:=by assumption
  rw [hT] at hany
  rw [if_neg (fun h=>h.elim (fun h=>by rw [hany] at h;cases h) (fun h=>by omega))] at i1
  have:=hgs.2 hany
  exact yj (f,⟨PI.map (xA PS),PS⟩) ⟨i1,by dsimp only;omega,hgl⟩ (by dsimp only;omega) rfl ⟨rfl,trivial⟩
attribute [local irreducible] qY yv
def eC (q:List zo) (b:Bld) (o:Out):List D:=[.sl 2 (q.map wD) none,.osl 13 1 b.items.length 0 b.items.length,.osl 2 2 b.syms.length 0 b.syms.length,.sl 1 (b.marks.map (.int .i64)) (some 3),
 .osl 1 4 (zS b).length 0 (zS b).length,.int .i64 b.shut.length,.sl 1 (o.code.map zC) (some 6),.nilsl,.sl 4 (o.rels.map jx) (some 5),.int .i64 o.fe,.int .i64 o.fa]
def eT (b:Bld) (o:Out):List Ob:=[.arr 13 (b.items.map xz),.arr 2 (b.syms.map yH),.spare b.marks.length,.arr 1 (b.shut.map xl),.spare o.rels.length,.spare o.code.length]
def eO (q:List zo) (b:Bld) (o:Out):List Ob:=.cells (eC q b o)::eT b o
theorem zjr {n:Nat} (l:List (List zB)):∀ d∈l.map xl,ClL n d.cells:=by
 intro d hd
 obtain ⟨x,_,rfl⟩:=List.mem_map.1 hd
 exact .cons .sl .nil
theorem vy (q:List zo) (b:Bld) (o:Out):∀ x∈eO q b o,ClO 7 x:=by
 intro x hx
 simp only [eO,eT,List.mem_cons,List.not_mem_nil,or_false] at hx
 rcases hx with rfl | rfl | rfl | rfl | rfl | rfl | rfl
 ·exact .cells (.cons .sl (.cons (.osl (by decide)) (.cons (.osl (by decide)) (.cons (.tok (by decide)) (.cons (.osl (by decide)) (.cons .int (.cons (.tok (by decide)) (.cons .nilsl (.cons (.tok (by decide)) (.cons .int (.cons .int .nil)))))))))))
 ·exact .arr (jz _)
 ·exact .arr (zaM _)
 ·exact .spare
 ·exact .arr (zjr _)
 ·exact .spare
 ·exact .spare
theorem wj {n0:Nat} {q:List zo} {b:Bld} {o o':Out} {r d:D} {L:List Ob} (X:List Ob) (hL:L=eO q b o'++X) (ho:o'=o) (hr:r=d) (hn:n0≤7) (hd:ClD 7 d):zI n0 r d L (eO q b o):=by
 subst ho;subst hr
 exact xq (eO q b o') X hL hn hd (vy _ _ _)
theorem zse (q:List zo) (b:Bld) (o:Out) (e line:Int):Ob.cells [.sl 2 (q.map wD) none,.osl 13 1 b.items.length 0 b.items.length,.osl 2 2 b.syms.length 0 b.syms.length,.sl 1 (b.marks.map (.int .i64)) (some 3),
  .osl 1 4 (zS b).length 0 (zS b).length,.int .i64 b.shut.length,.sl 1 (o.code.map zC) (some 6),.nilsl,.sl 4 (o.rels.map jx) (some 5),.int .i64 (if o.fe=0 then e else o.fe),.int .i64 (if o.fe=0 then line else o.fa)]::eT b o=eO q b (qq o e line):=by
 unfold qq
 by_cases h:o.fe=0
 ·rw [if_pos h,if_pos h,if_pos h];rfl
 ·rw [if_neg h,if_neg h,if_neg h];rfl
theorem zbi {av:List D} {L:List Ob} {KP:D→Prop} {KW:D→List Ob→Prop} (q:List zo) (b:Bld) (o:Out) (e line:Int) (X:List Ob) (hL:L=eO q b o++X) (has:av=[.loc 0 0,.int .i64 e,.int .i64 line])
  (hK:KW .ff (eO q b (qq o e line)++X)):zn Tryz.prog qG av L KP KW:=by
 subst has
 refine xF ziG X ((.sl 2 (q.map wD) none,.osl 13 1 b.items.length 0 b.items.length,.osl 2 2 b.syms.length 0 b.syms.length,.sl 1 (b.marks.map (.int .i64)) (some 3),
  .osl 1 4 (zS b).length 0 (zS b).length,.int .i64 b.shut.length,.sl 1 (o.code.map zC) (some 6),.nilsl,.sl 4 (o.rels.map jx) (some 5)),o.fe,o.fa,e,line,eT b o) trivial hL (LeL.refl _) rfl ?_ .ff (vy q b o) ?_ ?_
 ·exact .cons (.loc (Nat.lt_of_lt_of_le (by decide:0 < 7) (Nat.le_of_eq rfl))) (.cons .int (.cons .int .nil))
 ·dsimp only
  rw [zse]
  exact vy q b _
 ·dsimp only
  rw [zse]
  exact hK
theorem ztH:za Tryz.prog zco (zQ (fun ((_,o,_,_,_):Bld×Out×Ins×Int×List zo)=>o.code.length≤1000000000) (fun (_,_,i,line,_)=>[.loc 0 0,zaB i,.int .i64 line])
  (fun (b,o,_,_,q)=>eO q b o) (fun _=>.tup []) fun (b,o,i,line,q)=>eO q b (x4 o i line)):=by
 refine zf zh Tryz.func126 rfl (by decide) ?_
 rintro ⟨b,o,i,line,q⟩ hl
 have hl:o.code.length≤1000000000:=hl
 refine ⟨Nat.le_refl _,by simp [Tryz.f126],fun E hE=>?_⟩
 show AWP _ _ _ _ (kg _ _ _ _ (eO q b (x4 o i line))) _ (eO q b o)
 have hH:x4 o i line=if xf i=0 then ⟨o.code++[zr (qY i / 256),zr (qY i)],o.rels,o.fe,o.fa⟩ else qq o (xf i) line:=rfl
 generalize x4 o i line=H at *
 refine ze _ ?_
 (all_goals refine qgp (Lf.mk ?_))
 refine zb zpl i trivial (VS.mk (LeL.of_eq rfl)) ?_
 generalize xf i=W at *
 (all_goals refine qgp ?_<;>(repeat' first | exact trivial | intro hc | refine And.intro ?_ ?_)<;>refine Lf.mk ?_)
 ·rw [if_neg hc] at hH
  refine zbi q b o W line [_] rfl rfl ?_
  rw [← hH]
  (all_goals refine qgp (Lf.mk ?_))
  exact wj [_] rfl rfl rfl (Nat.le_of_eq rfl) .tup0
 ·rw [if_pos hc] at hH
  subst hH
  have he:(if W=0 then qY i else 0)=qY i:=if_pos hc
  simp only [he]
  exact wj (o':=⟨o.code++[zr (qY i / 256),zr (qY i)],o.rels,o.fe,o.fa⟩) [_] rfl rfl rfl (Nat.le_of_eq rfl) .tup0
theorem zsf {n:Nat} (i:Ins):ClD n (zaB i):=.agg (.cons .int (.cons .int (.cons .int (.cons .int .nil))))
theorem zen {av:List D} {L:List Ob} {KP:D→Prop} {KW:D→List Ob→Prop} (q:List zo) (b:Bld) (o:Out) (i:Ins) (line:Int) (X:List Ob) (hl:o.code.length≤1000000000) (hL:L=eO q b o++X) (has:LeL av [.loc 0 0,zaB i,.int .i64 line])
  (hK:KW (.tup []) (eO q b (x4 o i line)++X)):zn Tryz.prog zco av L KP KW:=by
 refine ze2 has ?_
 exact xF ztH X (b,o,i,line,q) hl hL (LeL.refl _) rfl (.cons (.loc (Nat.lt_of_lt_of_le (by decide:0 < 7) (Nat.le_of_eq rfl))) (.cons (zsf i) (.cons .int .nil))) .tup0 (vy _ _ _) (vy _ _ _) hK
theorem zdT (o:Out) (i:Ins) (line:Int):(x4 o i line).code.length≤o.code.length+2:=by
 unfold x4 qq
 repeat' split
 all_goals simp
theorem zdU (o:Out) (i:Ins) (a to line:Int):(wl o i a to line).code.length≤o.code.length+2:=by
 unfold wl
 split
 ·exact zdT _ _ _
 ·unfold qq;split<;>simp
attribute [local irreducible] x4
theorem ztI:za Tryz.prog zcp (zQ (fun ((_,o,_,a,_,_,_):Bld×Out×Ins×Int×Int×Int×List zo)=>o.code.length≤1000000000∧0≤a∧a≤1000000000000000) (fun (_,_,i,a,to,line,_)=>[.loc 0 0,zaB i,.int .i64 a,.int .i64 to,.int .i64 line])
  (fun (b,o,_,_,_,_,q)=>eO q b o) (fun _=>.tup []) fun (b,o,i,a,to,line,q)=>eO q b (wl o i a to line)):=by
 refine zf zh Tryz.func129 rfl (by decide) ?_
 rintro ⟨b,o,i,a,to,line,q⟩ ⟨hl,h0,h1⟩
 have hl:o.code.length≤1000000000:=hl
 refine ⟨Nat.le_refl _,by simp [Tryz.f129],fun E hE=>?_⟩
 show AWP _ _ _ _ (kg _ _ _ _ (eO q b (wl o i a to line))) _ (eO q b o)
 have hH:wl o i a to line=if (vg i.op a to).2=0 then x4 o ⟨i.op,i.n,i.m,(vg i.op a to).1⟩ line else qq o (vg i.op a to).2 line:=rfl
 generalize wl o i a to line=H at *
 refine ze _ ?_
 (all_goals refine qgp (Lf.mk ?_))
 refine zb zkO (i.op,a,to) ⟨h0,h1⟩ (VS.mk (LeL.of_eq rfl)) ?_
 dsimp only
 generalize vg i.op a to=W at *
 (all_goals refine qgp ?_<;>(repeat' first | exact trivial | intro hc | refine And.intro ?_ ?_)<;>refine Lf.mk ?_)
 ·rw [if_neg hc] at hH
  refine zbi q b o W.2 line [_] rfl rfl ?_
  rw [← hH]
  (all_goals refine qgp (Lf.mk ?_))
  exact wj [_] rfl rfl rfl (Nat.le_of_eq rfl) .tup0
 ·rw [if_pos hc] at hH
  refine zen q b o ⟨i.op,i.n,i.m,W.1⟩ line [_] hl rfl (LeL.of_eq rfl) ?_
  rw [← hH]
  (all_goals refine qgp (Lf.mk ?_))
  exact wj [_] rfl rfl rfl (Nat.le_of_eq rfl) .tup0
theorem zeo {av:List D} {L:List Ob} {KP:D→Prop} {KW:D→List Ob→Prop} (q:List zo) (b:Bld) (o:Out) (i:Ins) (a to line:Int) (X:List Ob) (hl:o.code.length≤1000000000) (h0:0≤a) (h1:a≤1000000000000000) (hL:L=eO q b o++X)
  (has:LeL av [.loc 0 0,zaB i,.int .i64 a,.int .i64 to,.int .i64 line]) (hK:KW (.tup []) (eO q b (wl o i a to line)++X)):zn Tryz.prog zcp av L KP KW:=by
 refine ze2 has ?_
 exact xF ztI X (b,o,i,a,to,line,q) ⟨hl,h0,h1⟩ hL (LeL.refl _) rfl (.cons (.loc (Nat.lt_of_lt_of_le (by decide:0 < 7) (Nat.le_of_eq rfl))) (.cons (zsf i) (.cons .int (.cons .int (.cons .int .nil))))) .tup0 (vy _ _ _) (vy _ _ _) hK
attribute [local irreducible] wl
theorem ztJ:za Tryz.prog zcq (zQ (fun ((b,o,k,x,_,_):Bld×Out×Nat×zO×Int×List zo)=>o.code.length≤900000000∧b.items[k]?=some x∧0≤x.at_∧x.at_≤100000000000000) (fun (b,_,k,_,to,_)=>[.loc 0 0,.aloc 1 b.items.length k 0,.int .i64 to])
  (fun (b,o,_,_,_,q)=>eO q b o) (fun _=>.tup []) fun (b,o,_,x,to,q)=>eO q b (kP o x to)):=by
 refine zf zh Tryz.func130 rfl (by decide) ?_
 rintro ⟨b,o,k,x,to,q⟩ ⟨hl,hx,h0,h1⟩
 have hl:o.code.length≤900000000:=hl
 have hx:b.items[k]?=some x:=hx
 have h0:0≤x.at_:=h0
 have h1:x.at_≤100000000000000:=h1
 have hxn:b.items[((k:Nat):Int).toNat]?=some x:=by rw [Int.toNat_natCast];exact hx
 refine ⟨Nat.le_refl _,by simp [Tryz.f130],fun E hE=>?_⟩
 show AWP _ _ _ _ (kg _ _ _ _ (eO q b (kP o x to))) _ (eO q b o)
 have hH:kP o x to=if x.long=false then wl o x.ins x.at_ to x.line else x4 (wl (x4 o ⟨w64 (35 - x.ins.op),0,0,1⟩ x.line) ⟨19,0,0,0⟩ (x.at_+2) to x.line) ⟨1,0,0,0⟩ x.line:=rfl
 generalize kP o x to=H at *
 have hl1:=zdT o ⟨w64 (35 - x.ins.op),0,0,1⟩ x.line
 have hl2:=zdU (x4 o ⟨w64 (35 - x.ins.op),0,0,1⟩ x.line) ⟨19,0,0,0⟩ (x.at_+2) to x.line
 refine ze _ ?_
 (all_goals refine qgp (Lf.mk ?_))
 refine zl x (Int.natCast_nonneg k) hxn ?_
 (all_goals refine qgp ?_<;>(repeat' first | exact trivial | intro hc | refine And.intro ?_ ?_)<;>refine Lf.mk ?_)
 ·rw [if_pos hc] at hH
  refine zl x (Int.natCast_nonneg k) hxn ?_
  (all_goals refine qgp (Lf.mk ?_))
  refine zl x (Int.natCast_nonneg k) hxn ?_
  (all_goals refine qgp (Lf.mk ?_))
  refine zl x (Int.natCast_nonneg k) hxn ?_
  (all_goals refine qgp (Lf.mk ?_))
  refine zeo q b o x.ins x.at_ to x.line [] (by omega) h0 (by omega) rfl (LeL.of_eq rfl) ?_
  rw [← hH]
  (all_goals refine qgp (Lf.mk ?_))
  exact wj [] rfl rfl rfl (Nat.le_of_eq rfl) .tup0
 ·rw [if_neg (by rw [hc];decide)] at hH
  refine zl x (Int.natCast_nonneg k) hxn ?_
  (all_goals refine qgp (Lf.mk ?_))
  refine zpL ?_
  (all_goals refine qgp (Lf.mk ?_))
  refine zl x (Int.natCast_nonneg k) hxn ?_
  (all_goals refine qgp (Lf.mk ?_))
  refine zen q b o ⟨w64 (35 - x.ins.op),0,0,1⟩ x.line [_] (by omega) rfl (LeL.of_eq rfl) ?_
  generalize x4 o ⟨w64 (35 - x.ins.op),0,0,1⟩ x.line=o1 at *
  (all_goals refine qgp (Lf.mk ?_))
  refine zl x (Int.natCast_nonneg k) hxn ?_
  (all_goals refine qgp (Lf.mk ?_))
  refine zl x (Int.natCast_nonneg k) hxn ?_
  (all_goals refine qgp (Lf.mk ?_))
  refine zeo q b o1 ⟨19,0,0,0⟩ (x.at_+2) to x.line [_] (by omega) (by omega) (by omega) rfl (LeL.of_eq rfl) ?_
  generalize wl o1 ⟨19,0,0,0⟩ (x.at_+2) to x.line=o2 at *
  (all_goals refine qgp (Lf.mk ?_))
  refine zl x (Int.natCast_nonneg k) hxn ?_
  (all_goals refine qgp (Lf.mk ?_))
  refine zen q b o2 ⟨1,0,0,0⟩ x.line [_] (by omega) rfl (LeL.of_eq rfl) ?_
  rw [← hH]
  (all_goals refine qgp (Lf.mk ?_))
  exact wj [_] rfl rfl rfl (Nat.le_of_eq rfl) .tup0
end Go.Proofs.YtnkdeacghopkiaaGreatDoor
namespace Go.Proofs.YtnkdeacghopkiaaGreatDoor
open Go Go.Plat
set_option linter.unusedVariables false
set_option linter.unusedSimpArgs false
set_option maxRecDepth 100000
set_option maxHeartbeats 2000000
attribute [local irreducible] AWP zG yn zK zn yA z8 zI zY Lib.itoa z6 zw za zN yB zt z7 zi.kids zi.kind zi.n zi.name yx yy yq yt zx zz xL vg zD qY xD xy vV wY xE wi yO yM xe wg yv vo zg xM vX zV vW xf
theorem zpN {av:List D} {L:List Ob} {KP:D→Prop} {KW:D→List Ob→Prop} (q:List zo) (b:Bld) (o:Out) (v:zB) (X:List Ob) (hl:b.syms.length≤1000000) (hL:L=eO q b o++X) (has:av=[.loc 0 0,yP v])
  (hK:KW (.tup [.int .i64 (yk b.syms v).1,.int .i64 (yk b.syms v).2]) (eO q b o++X)):zn Tryz.prog vR av L KP KW:=by
 subst has
 have hm:za Tryz.prog vR (zQ (fun ((b,_,_,_):Bld×Out×zB×List zo)=>b.syms.length≤1000000) (fun (_,_,v,_)=>[.loc 0 0,yP v])
   (fun (b,o,_,q)=>eO q b o) (fun (b,_,v,_)=>.tup [.int .i64 (yk b.syms v).1,.int .i64 (yk b.syms v).2]) fun (b,o,_,q)=>eO q b o):=by
  clear hK hL hl
  refine zf zh Tryz.func121 rfl (by decide) ?_
  rintro ⟨b,o,v,q⟩ hl
  have hl:b.syms.length≤1000000:=hl
  refine ⟨Nat.le_refl _,by simp [Tryz.f121],fun E hE=>?_⟩
  show AWP _ _ _ _ (kg _ _ _ (.tup [.int .i64 (yk b.syms v).1,.int .i64 (yk b.syms v).2]) (eO q b o)) _ (eO q b o)
  have hT:yk b.syms v=if v.name=[] then (0,8) else if zlL v.name b.syms 0 < 0 then (0,6) else (w64 ((zdO b.syms (zlL v.name b.syms 0)).at_+v.n),0):=rfl
  generalize yk b.syms v=T at *
  refine ze _ ?_
  (all_goals refine qgp ?_<;>(repeat' first | exact trivial | intro hc | refine And.intro ?_ ?_)<;>refine Lf.mk ?_)
  ·rw [if_pos hc] at hT
   subst hT
   exact wj [_] rfl rfl rfl (Nat.le_of_eq rfl) (.tup (.cons .int (.cons .int .nil)))
  rw [if_neg hc] at hT
  refine zjp qX [.loc 7 0] (fun s=>s.name==v.name) b.syms (.cells (eC q b o)) (.arr 13 (b.items.map xz)) [.spare b.marks.length,.arr 1 (b.shut.map xl),.spare o.rels.length,.spare o.code.length,.cells [.str v.name,.int .i64 v.n]] (by omega) rfl rfl
   (fun s hs KP KW hK=>?_) ?_
  ·exact zu zgs [7] [7] (s,v) trivial rfl rfl ⟨VS.mk (LeL.refl _),VS.mk rfl,hK⟩
  have hp:=zdd (fun s:zH=>s.name==v.name) b.syms 0
  have hT:T=if y9 (fun s:zH=>s.name==v.name) b.syms 0 < 0 then (0,6) else (w64 ((zdO b.syms (y9 (fun s:zH=>s.name==v.name) b.syms 0)).at_+v.n),0):=hT
  generalize y9 (fun s:zH=>s.name==v.name) b.syms 0=p at *
  (all_goals refine qgp ?_<;>(repeat' first | exact trivial | intro hc | refine And.intro ?_ ?_)<;>refine Lf.mk ?_)
  ·rw [if_pos hc] at hT
   subst hT
   exact wj [_] rfl rfl rfl (Nat.le_of_eq rfl) (.tup (.cons .int (.cons .int .nil)))
  have hpl:p.toNat < b.syms.length:=by
   rcases hp with h | ⟨j,h1,h2⟩
   ·omega
   ·rw [h2,Int.toNat_natCast,Nat.zero_add];exact h1
  have hs:b.syms[p.toNat]?=some (zdO b.syms p):=by unfold zdO;rw [List.getElem?_eq_getElem hpl];rfl
  rw [if_neg hc] at hT
  refine zl (zdO b.syms p) (Int.natCast_nonneg _) (by rw [Int.toNat_natCast,Nat.zero_add];exact hs) ?_
  (all_goals refine qgp (Lf.mk ?_))
  refine zpL ?_
  (all_goals refine qgp (Lf.mk ?_))
  subst hT
  exact wj [_] rfl rfl rfl (Nat.le_of_eq rfl) (.tup (.cons .int (.cons .int .nil)))
 exact xF hm X (b,o,v,q) hl hL (LeL.refl _) rfl (.cons (.loc (Nat.lt_of_lt_of_le (by decide:0 < 7) (Nat.le_of_eq rfl))) (.cons (zbJ v) .nil)) (.tup (.cons .int (.cons .int .nil))) (vy _ _ _) (vy _ _ _) hK
attribute [local irreducible] yk
theorem zep (syms:List zH) (o:Out) (v:zB) (size:Nat):(wM syms o v size).code.length=o.code.length+size:=by
 unfold wM
 split
 ·dsimp only
  rw [kM]
  simp
 ·simp
theorem zro:za Tryz.prog zcm (zQ (fun ((b,o,_,size,_):Bld×Out×zB×Nat×List zo)=>b.syms.length≤1000000∧o.code.length≤500000000∧o.rels.length≤500000000∧0 < size∧size≤4) (fun (_,_,v,size,_)=>[.loc 0 0,yP v,.int .i64 size])
  (fun (b,o,_,_,q)=>eO q b o) (fun _=>.tup []) fun (b,o,v,size,q)=>eO q b (wM b.syms o v size)):=by
 refine zyw 6 zh Tryz.func123 rfl (by decide) ?_
 rintro ⟨b,o,v,size,q⟩ ⟨hs,hl,hr,h0,h4⟩
 have hs:b.syms.length≤1000000:=hs
 have hl:o.code.length≤500000000:=hl
 have hr:o.rels.length≤500000000:=hr
 have h0:0 < size:=h0
 have h4:size≤4:=h4
 have hlen:=zep b.syms o v size
 refine ⟨Nat.le_succ 6,?_,Nat.le_refl _,by simp [Tryz.f123],fun E hE=>?_⟩
 ·intro k hk hk2
  obtain rfl:k=6:=by
   have:k < 7:=hk2
   omega
  exact ⟨_,_,rfl,rfl,by rw [hlen];omega⟩
 show AWP _ _ _ _ (kg _ _ _ _ (eO q b (wM b.syms o v size))) _ (eO q b o)
 have hW:wM b.syms o v size=if v.name=[] then ⟨yv (o.code++List.replicate size 0) o.code.length size v.n,o.rels,o.fe,o.fa⟩
  else ⟨o.code++List.replicate size 0,o.rels++[zjo b.syms o.code.length size v],o.fe,o.fa⟩:=rfl
 generalize wM b.syms o v size=W at *
 refine ze _ ?_
 (all_goals refine qgk (Lf.mk ?_))
 refine xd ((o.code++List.replicate size 0).map zC) (by rw [List.map_append,List.map_replicate];rfl) ?_
 have hcl:(o.code++List.replicate size 0).length=o.code.length+size:=by simp
 rw [List.length_map]
 (all_goals refine qgk ?_<;>(repeat' first | exact trivial | intro hc | refine And.intro ?_ ?_)<;>refine Lf.mk ?_)
 ·rw [if_pos hc] at hW
  refine zu ky [] [8] (o.code++List.replicate size 0,o.code.length,size,v.n) ⟨by show -1000000000000≤((o.code.length:Nat):Int);omega,by show ((o.code.length:Nat):Int)≤_;omega,by show size≤_;omega,by show (o.code++List.replicate size 0).length≤_;omega⟩ rfl rfl ?_
  refine And.intro (VS.mk (LeL.of_eq rfl)) (And.intro (VS.mk rfl) ?_)
  (all_goals refine qgk (Lf.mk ?_))
  have key:∀ k,k < 6→zM [0,1,2,3,4,5,8] 0 k=some k:=by decide
  subst hW
  have hpl:=kM o.code.length size (o.code++List.replicate size 0) v.n
  refine zg7 [0,1,2,3,4,5,8] rfl rfl ?_ (ClD.tup0 (n:=6) _ key)
  refine .cons (o:=.cells [.sl 2 (q.map wD) none,.osl 13 1 b.items.length 0 b.items.length,.osl 2 2 b.syms.length 0 b.syms.length,.sl 1 (b.marks.map (.int .i64)) (some 3),.osl 1 4 (zS b).length 0 (zS b).length,.int .i64 b.shut.length,
   .sl 1 ((yv (o.code++List.replicate size 0) o.code.length size v.n).map zC) (some 8),.nilsl,.sl 4 (o.rels.map jx) (some 5),.int .i64 o.fe,.int .i64 o.fa]) rfl
   ⟨_,rfl,.cons (ClD.sl (n:=6) _ key) (.cons (ClD.osl (n:=6) (by decide) _ key) (.cons (ClD.osl (n:=6) (by decide) _ key) (.cons (ClD.tok (n:=6) (by decide) _ key) (.cons (ClD.osl (n:=6) (by decide) _ key) (.cons (ClD.int (n:=6) _ key)
     (.cons (.tok rfl) (.cons (ClD.nilsl (n:=6) _ key) (.cons (ClD.tok (n:=6) (by decide) _ key) (.cons (ClD.int (n:=6) _ key) (.cons (ClD.int (n:=6) _ key) .nil))))))))))⟩
   (.cons (o:=.arr 13 (b.items.map xz)) rfl (ClO.arr (n:=6) (jz _) _ key) (.cons (o:=.arr 2 (b.syms.map yH)) rfl (ClO.arr (n:=6) (zaM _) _ key) (.cons (o:=.spare b.marks.length) rfl rfl
   (.cons (o:=.arr 1 (b.shut.map xl)) rfl (ClO.arr (n:=6) (zjr _) _ key) (.cons (o:=.spare o.rels.length) rfl rfl (.cons (o:=.spare (o.code++List.replicate size 0).length) rfl (by rw [hpl];rfl) .nil))))))
 ·rw [if_neg hc] at hW
  refine zpN q b ⟨o.code++List.replicate size 0,o.rels,o.fe,o.fa⟩ v [_,_] hs rfl rfl ?_
  have hR:zjo b.syms o.code.length size v=if (yk b.syms v).2=0 then ⟨o.code.length,size,[],zg (yk b.syms v).1 32⟩ else ⟨o.code.length,size,v.name,v.n⟩:=rfl
  generalize yk b.syms v=T at *
  (all_goals refine qgk ?_<;>(repeat' first | exact trivial | intro hc | refine And.intro ?_ ?_)<;>refine Lf.mk ?_)
  ·rw [if_pos hc] at hR
   refine zb yC T.1 trivial (VS.mk (LeL.of_eq rfl)) ?_
   (all_goals refine qgk (Lf.mk ?_))
   refine xd ((o.rels++[zjo b.syms o.code.length size v]).map jx) (by rw [hR,List.map_append];rfl) ?_
   rw [List.length_map]
   (all_goals refine qgk (Lf.mk ?_))
   subst hW
   exact wj (o':=⟨o.code++List.replicate size 0,o.rels++[zjo b.syms o.code.length size v],o.fe,o.fa⟩) [_,_] rfl rfl rfl (by decide) .tup0
  ·rw [if_neg hc] at hR
   refine xd ((o.rels++[zjo b.syms o.code.length size v]).map jx) (by rw [hR,List.map_append];rfl) ?_
   rw [List.length_map]
   (all_goals refine qgk (Lf.mk ?_))
   subst hW
   exact wj (o':=⟨o.code++List.replicate size 0,o.rels++[zjo b.syms o.code.length size v],o.fe,o.fa⟩) [_,_] rfl rfl rfl (by decide) .tup0
attribute [local irreducible] x4 wl kP
theorem ztK {o:Out} {to:Int} (h:to≤o.code.length):wN o to=o:=by
 unfold wN
 rw [show (to - (o.code.length:Int)).toNat=0 by omega]
 simp
theorem ztL {o:Out} {to:Int} (h:(o.code.length:Int) < to):wN ⟨o.code++[0],o.rels,o.fe,o.fa⟩ to=wN o to:=by
 unfold wN
 have:(to - (o.code.length:Int)).toNat=(to - ((o.code++[0]).length:Int)).toNat+1:=by simp;omega
 rw [this,List.replicate_succ]
 simp
theorem zy8 {o:Out} {to:Int} {m:Nat} (h1:o.code.length≤m) (h2:to≤m):(wN o to).code.length≤m:=by
 unfold wN
 simp only [List.length_append,List.length_replicate]
 omega
theorem zhu (o:Out) (to:Int):(wN o to).rels=o.rels:=by unfold wN;rfl
theorem zhv (syms:List zH) (o:Out) (v:zB) (size:Nat):(wM syms o v size).rels.length≤o.rels.length+1:=by
 unfold wM
 split
 ·exact Nat.le_succ _
 ·simp
theorem zrp:za Tryz.prog zcn (zQ (fun ((_,o,to,_):Bld×Out×Int×List zo)=>o.code.length≤1000000000∧to≤1000000000) (fun (_,_,to,_)=>[.loc 0 0,.int .i64 to])
  (fun (b,o,_,q)=>eO q b o) (fun _=>.tup []) fun (b,o,to,q)=>eO q b (wN o to)):=by
 refine zf zh Tryz.func124 rfl (by decide) ?_
 rintro ⟨b,o,to,q⟩ ⟨hl,ht⟩
 have hl:o.code.length≤1000000000:=hl
 have ht:to≤1000000000:=ht
 refine ⟨Nat.le_refl _,by simp [Tryz.f124],fun E hE=>?_⟩
 have hE7:E.L.length=7:=by rw [hE];rfl
 show AWP _ _ _ _ (kg _ _ _ _ (eO q b (wN o to))) _ (eO q b o)
 generalize hF:wN o to=F
 refine ze _ ?_
 (all_goals refine qgp (Lf.mk ?_))
 refine yp (α:=Out) (fun p=>wN p to=F∧p.code.length≤1000000000) (fun _=>[(0,.loc 0 0),(1,.int .i64 to)]) (fun p=>eO q b p) (fun p=>(to - (p.code.length:Int)).toNat) (fun _=>by rw [hE7];exact Nat.le_refl 7) o ⟨hF,hl⟩ ?_ ?_
 ·exact yf rfl ⟨rfl,rfl,trivial⟩
 rintro p ⟨i1,i2⟩
 refine ze _ ?_
 (all_goals refine qgk ?_<;>(repeat' first | exact trivial | intro hc | refine And.intro ?_ ?_)<;>refine Lf.mk ?_)
 ·refine xd ((p.code++[0]).map zC) (by rw [List.map_append];rfl) ?_
  rw [List.length_map]
  (all_goals refine qgk (Lf.mk ?_))
  exact yj (⟨p.code++[0],p.rels,p.fe,p.fa⟩:Out) ⟨by rw [ztL hc];exact i1,by show (p.code++[0]).length≤_;simp;omega⟩ (by show (to - ((p.code++[0]).length:Int)).toNat < _;simp;omega) rfl ⟨rfl,rfl,trivial⟩
 ·rw [ztK (by omega)] at i1
  subst i1
  exact yQ rfl rfl
theorem zmE {av:List D} {L:List Ob} {KP:D→Prop} {KW:D→List Ob→Prop} (q:List zo) (b:Bld) (o:Out) (to:Int) (X:List Ob) (hl:o.code.length≤1000000000) (ht:to≤1000000000) (hL:L=eO q b o++X) (has:av=[.loc 0 0,.int .i64 to])
  (hK:KW (.tup []) (eO q b (wN o to)++X)):zn Tryz.prog zcn av L KP KW:=by
 subst has
 exact xF zrp X (b,o,to,q) ⟨hl,ht⟩ hL (LeL.refl _) rfl (.cons (.loc (Nat.lt_of_lt_of_le (by decide:0 < 7) (Nat.le_of_eq rfl))) (.cons .int .nil)) .tup0 (vy _ _ _) (vy _ _ _) hK
theorem zmF {av:List D} {L:List Ob} {KP:D→Prop} {KW:D→List Ob→Prop} (q:List zo) (b:Bld) (o:Out) (v:zB) (size:Nat) (X:List Ob) (hs:b.syms.length≤1000000) (hl:o.code.length≤500000000) (hr:o.rels.length≤500000000) (h0:0 < size) (h4:size≤4) (hL:L=eO q b o++X)
  (has:LeL av [.loc 0 0,yP v,.int .i64 size]) (hK:KW (.tup []) (eO q b (wM b.syms o v size)++X)):zn Tryz.prog zcm av L KP KW:=by
 refine ze2 has ?_
 exact xF zro X (b,o,v,size,q) ⟨hs,hl,hr,h0,h4⟩ hL (LeL.refl _) rfl (.cons (.loc (Nat.lt_of_lt_of_le (by decide:0 < 7) (Nat.le_of_eq rfl))) (.cons (zbJ v) (.cons .int .nil))) .tup0 (vy _ _ _) (vy _ _ _) hK
theorem zvz {av:List D} {L:List Ob} {KP:D→Prop} {KW:D→List Ob→Prop} (q:List zo) (b:Bld) (o:Out) (k:Nat) (x:zO) (to:Int) (X:List Ob) (hl:o.code.length≤900000000) (hx:b.items[k]?=some x) (h0:0≤x.at_) (h1:x.at_≤100000000000000) (hL:L=eO q b o++X)
  (has:av=[.loc 0 0,.aloc 1 b.items.length k 0,.int .i64 to]) (hK:KW (.tup []) (eO q b (kP o x to)++X)):zn Tryz.prog zcq av L KP KW:=by
 subst has
 exact xF ztJ X (b,o,k,x,to,q) ⟨hl,hx,h0,h1⟩ hL (LeL.refl _) rfl (.cons (.loc (Nat.lt_of_lt_of_le (by decide:0 < 7) (Nat.le_of_eq rfl))) (.cons (.aloc (Nat.lt_of_lt_of_le (by decide:1 < 7) (Nat.le_of_eq rfl))) (.cons .int .nil))) .tup0 (vy _ _ _) (vy _ _ _) hK
def zhw (b:Bld) (k:Nat):Ob:=.cells [.aloc 1 b.items.length k 0]
theorem zvA (q:List zo) (b:Bld) (o:Out) (k:Nat):∀ x∈eO q b o++[zhw b k],ClO (eO q b o++[zhw b k]).length x:=by
 intro x hx
 have hl:(eO q b o++[zhw b k]).length=8:=rfl
 rw [hl]
 rcases List.mem_append.1 hx with hx | hx
 ·exact ClO.up (vy q b o x hx) (by decide)
 ·rw [List.mem_singleton] at hx
  subst hx
  exact .cells (.cons (.aloc (by decide)) .nil)
theorem ztM {av:List D} {L:List Ob} {KP:D→Prop} {KW:D→List Ob→Prop} (q:List zo) (b:Bld) (o:Out) (k:Nat) (x y:zO) (hx:b.items[k]?=some x) (hL:L=eO q b o++[zhw b k]) (has:av=[xz y,.loc 7 0])
  (hK:KW (.bool (y.kind==9 && y.pool==x.pool)) L):zn Tryz.prog zba av L KP KW:=by
 subst has
 refine xP zh Tryz.func128 rfl (by decide) (.bool (y.kind==9 && y.pool==x.pool)) L (Nat.le_refl _) (by simp [Tryz.f128]) (fun E hE=>?_) hK
 subst hL
 have hxn:b.items[((k:Nat):Int).toNat]?=some x:=by rw [Int.toNat_natCast];exact hx
 refine ze _ ?_
 (all_goals refine qgp ?_<;>(repeat' first | exact trivial | intro hc | refine And.intro ?_ ?_)<;>refine Lf.mk ?_)
 ·refine zl x (Int.natCast_nonneg k) hxn ?_
  (all_goals refine qgp (Lf.mk ?_))
  have he:(y.kind==9 && y.pool==x.pool)=(y.pool==x.pool):=by rw [hc];simp
  rw [he]
  exact xq (eO q b o++[zhw b k]) [_] rfl (Nat.le_refl _) .bool (zvA q b o k)
 ·have he:(y.kind==9 && y.pool==x.pool)=false:=by simp [hc]
  rw [he]
  exact vH (.ff rfl) (xq (eO q b o++[zhw b k]) [_] rfl (Nat.le_refl _) .bool (zvA q b o k)) (Nat.le_refl _)
structure zpO (b:Bld) (x:zO):Prop where
 size:w7 b.shut x
 lo:0≤x.at_
 hi:x.at_≤100000000
 idx:0≤x.idx∧x.idx≤100000000
 pool:x.kind=6→0≤zpx x.pool b.items 0
def emB (b:Bld) (o:Out) (x:zO):Out:=jd b.shut b.items b.syms o x
attribute [local irreducible] wN wM
theorem zrq:za Tryz.prog zg8 (zQ (fun ((b,o,k,x,_):Bld×Out×Nat×zO×List zo)=>b.has=false∧b.items[k]?=some x∧(∀ y∈b.items,zpO b y)∧b.items.length≤1000000∧b.syms.length≤1000000∧o.code.length≤400000000∧o.rels.length≤400000000) (fun (b,_,k,_,_)=>[.loc 0 0,.aloc 1 b.items.length k 0])
  (fun (b,o,_,_,q)=>eO q b o) (fun _=>.tup []) fun (b,o,_,x,q)=>eO q b (emB b o x)):=by
 refine zf zh Tryz.func90 rfl (by decide) ?_
 rintro ⟨b,o,k,x,q⟩ ⟨hh,hx,hin,hil,hsl,hcl,hrl⟩
 have hh:b.has=false:=hh
 have hx:b.items[k]?=some x:=hx
 have hin:∀ y∈b.items,zpO b y:=hin
 have hil:b.items.length≤1000000:=hil
 have hsl:b.syms.length≤1000000:=hsl
 have hcl:o.code.length≤400000000:=hcl
 have hrl:o.rels.length≤400000000:=hrl
 have hxe:=hin x (List.mem_of_getElem? hx)
 obtain ⟨⟨hs8,hs7,hs9,hsp⟩,hlo,hhi,⟨hi0,hi1⟩,hpool⟩:=hxe
 have hxn:b.items[((k:Nat):Int).toNat]?=some x:=by rw [Int.toNat_natCast];exact hx
 refine ⟨Nat.le_refl _,by simp [Tryz.f90],fun E hE=>?_⟩
 have hE7:E.L.length=7:=by rw [hE];rfl
 show AWP _ _ _ _ (kg _ _ _ _ (eO q b (emB b o x))) _ (eO q b o)
 have hH:emB b o x=if x.kind=7 then (if x.at_ % x.size≠0 then qq o 11 x.line else wM b.syms o x.val x.size.toNat)
  else if x.kind=8 then wN o (upA x.at_ x.size)
  else if x.kind=9 then ((b.shut[x.pool.toNat]?).getD []).foldl (fun o v=>wM b.syms o v 4) (wN o (upA x.at_ 4))
  else if x.at_ % 2≠0 then qq o 11 x.line
  else if x.kind=1 then x4 o x.ins x.line
  else if x.kind=6 then wl o x.ins x.at_ (upA (itA b.items (zpx x.pool b.items 0)).at_ 4+4 * x.idx) x.line
  else if (yk b.syms x.val).2≠0 then qq o (yk b.syms x.val).2 x.line
  else if x.kind=2 then kP o x (yk b.syms x.val).1
  else wl o x.ins x.at_ (yk b.syms x.val).1 x.line:=rfl
 generalize emB b o x=H at *
 refine ze _ ?_
 (all_goals refine qgp (Lf.mk ?_))
 refine zl x (Int.natCast_nonneg k) hxn ?_
 (all_goals refine qgp ?_<;>(repeat' first | exact trivial | intro hc | refine And.intro ?_ ?_)<;>refine Lf.mk ?_)
 ·rw [if_pos hc] at hH
  have h7:=hs7 hc
  refine zl x (Int.natCast_nonneg k) hxn ?_
  (all_goals refine qgp (Lf.mk ?_))
  refine zl x (Int.natCast_nonneg k) hxn ?_
  (all_goals refine qgp ?_<;>(repeat' first | exact trivial | intro hc | refine And.intro ?_ ?_)<;>refine Lf.mk ?_)
  ·rw [if_pos hc] at hH
   refine zl x (Int.natCast_nonneg k) hxn ?_
   (all_goals refine qgp (Lf.mk ?_))
   refine zbi q b o 11 x.line [_] rfl rfl ?_
   rw [← hH]
   (all_goals refine qgp (Lf.mk ?_))
   exact wj [_] rfl rfl rfl (Nat.le_of_eq rfl) .tup0
  ·rw [if_neg (fun h=>h hc)] at hH
   refine zl x (Int.natCast_nonneg k) hxn ?_
   (all_goals refine qgp (Lf.mk ?_))
   refine zl x (Int.natCast_nonneg k) hxn ?_
   (all_goals refine qgp (Lf.mk ?_))
   refine zmF q b o x.val x.size.toNat [_] hsl (by omega) (by omega) (by omega) (by omega) rfl (LeL.of_eq (by rw [Int.toNat_of_nonneg (by omega)];rfl)) ?_
   rw [← hH]
   (all_goals refine qgp (Lf.mk ?_))
   exact wj [_] rfl rfl rfl (Nat.le_of_eq rfl) .tup0
 ·rw [if_neg (by assumption),if_pos hc] at hH
  have h8:=hs8 hc
  have hu:=zaf (n:=x.at_) h8.1
  refine zl x (Int.natCast_nonneg k) hxn ?_
  (all_goals refine qgp (Lf.mk ?_))
  refine zl x (Int.natCast_nonneg k) hxn ?_
  (all_goals refine qgp (Lf.mk ?_))
  refine zb zdR (x.at_,x.size) ⟨hlo,by show x.at_≤_;omega,h8.1,by show x.size≤_;omega⟩ (VS.mk (LeL.of_eq rfl)) ?_
  (all_goals refine qgp (Lf.mk ?_))
  refine zmE q b o (upA x.at_ x.size) [_] (by omega) (by omega) rfl rfl ?_
  rw [← hH]
  (all_goals refine qgp (Lf.mk ?_))
  exact wj [_] rfl rfl rfl (Nat.le_of_eq rfl) .tup0
 ·rw [if_neg (by assumption),if_neg (by assumption),if_pos hc] at hH
  have h9:=hs9 hc
  have hu:=zaf (n:=x.at_) (k:=4) (by decide)
  have hpl:zS b=b.shut.map xl:=by unfold zS;rw [hh]
  have hlt:x.pool.toNat < b.shut.length:=by omega
  have hgp:b.shut[x.pool.toNat]?=some ((b.shut[x.pool.toNat]?).getD []):=by rw [List.getElem?_eq_getElem hlt];rfl
  have hpm:=hsp _ (List.mem_of_getElem? hgp)
  generalize (b.shut[x.pool.toNat]?).getD []=p at *
  refine zl x (Int.natCast_nonneg k) hxn ?_
  (all_goals refine qgp (Lf.mk ?_))
  refine zb zdR (x.at_,4) ⟨hlo,by show x.at_≤_;omega,by decide,by decide⟩ (VS.mk (LeL.of_eq rfl)) ?_
  (all_goals refine qgp (Lf.mk ?_))
  refine zmE q b o (upA x.at_ 4) [_] (by omega) (by omega) rfl rfl ?_
  have hfl:=zy8 (o:=o) (to:=upA x.at_ 4) (m:=400000000) hcl (by omega)
  have hfr:=zhu o (upA x.at_ 4)
  generalize wN o (upA x.at_ 4)=o1 at *
  (all_goals refine qgp (Lf.mk ?_))
  refine zl x (Int.natCast_nonneg k) hxn ?_
  (all_goals refine qgp (Lf.mk ?_))
  refine yL ⟨h9.1,by rw [hpl,List.length_map];exact h9.2⟩ ?_
  (all_goals refine qgp (Lf.mk ?_))
  refine yL (by rw [hpl]) ?_
  refine VS.mk ?_
  refine zl (enc:=xl) (l:=b.shut) (n:=((0+x.pool.toNat:Nat):Int)) p (Int.natCast_nonneg _) (by rw [Int.toNat_natCast,Nat.zero_add];exact hgp) ?_
  (all_goals refine qgp (Lf.mk ?_))
  refine yp (α:=Nat×Out) (fun r=>r.1≤p.length∧(p.drop r.1).foldl (fun o v=>wM b.syms o v 4) r.2=H∧r.2.code.length≤400000000+4 * r.1∧r.2.rels.length≤400000000+r.1)
   (fun r=>[(0,.loc 0 0),(72,.sl 2 (p.map yP) none),(73,.int .i64 p.length),(74,.int .i64 r.1)]) (fun r=>eO q b r.2) (fun r=>p.length - r.1) (fun _=>by rw [hE7];exact Nat.le_refl 7) (0,o1) ⟨Nat.zero_le _,hH.symm,by dsimp only;omega,by dsimp only;rw [hfr];omega⟩ ?_ ?_
  ·exact zje (eO q b o1) [zhw b k] rfl (by rw [hE7];exact Nat.le_refl 7) (vy _ _ _) ⟨rfl,rfl,rfl,rfl,trivial⟩ (.cons (.loc (Nat.lt_of_lt_of_le (by decide:0 < 7) (Nat.le_of_eq rfl))) (.cons .sl (.cons .int (.cons .int .nil))))
  rintro ⟨j,o2⟩ ⟨j1,j2,j3,j4⟩
  dsimp only at j1 j2 j3 j4 ⊢
  refine ze _ ?_
  (all_goals refine qgp ?_<;>(repeat' first | exact trivial | intro hc | refine And.intro ?_ ?_)<;>refine Lf.mk ?_)
  ·obtain ⟨v,hv⟩:=zP (l:=p) (k:=j) (by omega)
   have hjl:j < p.length:=by omega
   have hgv:p[j]=v:=by rw [List.getElem?_eq_getElem hjl] at hv;exact Option.some.inj hv
   rw [List.drop_eq_getElem_cons hjl,hgv,List.foldl_cons] at j2
   have hwl:=zep b.syms o2 v 4
   have hwr:=zhv b.syms o2 v 4
   refine zl v (by omega) (by simpa using hv) ?_
   (all_goals refine qgp (Lf.mk ?_))
   refine zmF q b o2 v 4 [_] hsl (by omega) (by omega) (by decide) (by decide) rfl (LeL.of_eq rfl) ?_
   generalize wM b.syms o2 v 4=o3 at *
   (all_goals refine qgp (Lf.mk ?_))
   exact w9 (j+1,o3) [_] ⟨by show j+1≤_;omega,j2,by dsimp only;omega,by dsimp only;omega⟩ (by dsimp only;omega) rfl (by rw [hE7];exact Nat.le_refl 7) (vy _ _ _) ⟨rfl,rfl,rfl,rfl,trivial⟩
    (.cons (.loc (Nat.lt_of_lt_of_le (by decide:0 < 7) (Nat.le_of_eq rfl))) (.cons .sl (.cons .int (.cons .int .nil))))
  ·have hj:j=p.length:=by omega
   rw [hj,List.drop_length] at j2
   exact wj [] rfl j2 rfl (Nat.le_of_eq rfl) .tup0
 ·rw [if_neg (by assumption),if_neg (by assumption),if_neg hc] at hH
  refine zl x (Int.natCast_nonneg k) hxn ?_
  (all_goals refine qgp ?_<;>(repeat' first | exact trivial | intro hc | refine And.intro ?_ ?_)<;>refine Lf.mk ?_)
  ·rw [if_pos hc] at hH
   refine zl x (Int.natCast_nonneg k) hxn ?_
   (all_goals refine qgp (Lf.mk ?_))
   refine zbi q b o 11 x.line [_] rfl rfl ?_
   rw [← hH]
   (all_goals refine qgp (Lf.mk ?_))
   exact wj [_] rfl rfl rfl (Nat.le_of_eq rfl) .tup0
  ·rw [if_neg (fun h=>h hc)] at hH
   refine zl x (Int.natCast_nonneg k) hxn ?_
   (all_goals refine qgp ?_<;>(repeat' first | exact trivial | intro hc | refine And.intro ?_ ?_)<;>refine Lf.mk ?_)
   ·rw [if_pos hc] at hH
    refine zl x (Int.natCast_nonneg k) hxn ?_
    (all_goals refine qgp (Lf.mk ?_))
    refine zl x (Int.natCast_nonneg k) hxn ?_
    (all_goals refine qgp (Lf.mk ?_))
    refine zen q b o x.ins x.line [_] (by omega) rfl (LeL.of_eq rfl) ?_
    rw [← hH]
    (all_goals refine qgp (Lf.mk ?_))
    exact wj [_] rfl rfl rfl (Nat.le_of_eq rfl) .tup0
   ·rw [if_neg (by assumption),if_pos hc] at hH
    have hp6:=hpool hc
    have hpos:=zdd (fun y:zO=>y.kind==9 && y.pool==x.pool) b.items 0
    have hidx:zpx x.pool b.items 0=y9 (fun y:zO=>y.kind==9 && y.pool==x.pool) b.items 0:=rfl
    rw [hidx] at hp6 hH
    refine zvl zba [.loc 7 0] (fun y=>y.kind==9 && y.pool==x.pool) b.items (.cells (eC q b o)) [.arr 2 (b.syms.map yH),.spare b.marks.length,.arr 1 (b.shut.map xl),.spare o.rels.length,.spare o.code.length,zhw b k] (by omega) rfl rfl
     (fun y hy KP KW hK=>ztM q b o k x y hx rfl rfl hK) ?_
    generalize y9 (fun y:zO=>y.kind==9 && y.pool==x.pool) b.items 0=z at *
    have hz:z.toNat < b.items.length:=by
     rcases hpos with h | ⟨j,h1,h2⟩
     ·omega
     ·rw [h2,Int.toNat_natCast,Nat.zero_add];exact h1
    have hit:b.items[z.toNat]?=some (itA b.items z):=by unfold itA;rw [List.getElem?_eq_getElem hz];rfl
    have hie:=hin _ (List.mem_of_getElem? hit)
    have hilo:=hie.lo
    have hihi:=hie.hi
    have hu:=zaf (n:=(itA b.items z).at_) (k:=4) (by decide)
    (all_goals refine qgp (Lf.mk ?_))
    refine zl x (Int.natCast_nonneg k) hxn ?_
    (all_goals refine qgp (Lf.mk ?_))
    refine zl x (Int.natCast_nonneg k) hxn ?_
    (all_goals refine qgp (Lf.mk ?_))
    refine zl (itA b.items z) (Int.natCast_nonneg _) (by rw [Int.toNat_natCast,Nat.zero_add];exact hit) ?_
    (all_goals refine qgp (Lf.mk ?_))
    refine zb zdR ((itA b.items z).at_,4) ⟨hilo,by show (itA b.items z).at_≤_;omega,by decide,by decide⟩ (VS.mk (LeL.of_eq rfl)) ?_
    (all_goals refine qgp (Lf.mk ?_))
    refine zl x (Int.natCast_nonneg k) hxn ?_
    (all_goals refine qgp (Lf.mk ?_))
    refine zl x (Int.natCast_nonneg k) hxn ?_
    (all_goals refine qgp (Lf.mk ?_))
    refine zeo q b o x.ins x.at_ (upA (itA b.items z).at_ 4+4 * x.idx) x.line [_] (by omega) hlo (by omega) rfl (LeL.of_eq rfl) ?_
    rw [← hH]
    (all_goals refine qgp (Lf.mk ?_))
    exact wj [_] rfl rfl rfl (Nat.le_of_eq rfl) .tup0
   ·rw [if_neg (by assumption),if_neg hc] at hH
    refine zl x (Int.natCast_nonneg k) hxn ?_
    (all_goals refine qgp (Lf.mk ?_))
    refine zpN q b o x.val [_] hsl rfl rfl ?_
    generalize yk b.syms x.val=T at *
    (all_goals refine qgp ?_<;>(repeat' first | exact trivial | intro hc | refine And.intro ?_ ?_)<;>refine Lf.mk ?_)
    ·rw [if_pos hc] at hH
     refine zl x (Int.natCast_nonneg k) hxn ?_
     (all_goals refine qgp (Lf.mk ?_))
     refine zbi q b o T.2 x.line [_] rfl rfl ?_
     rw [← hH]
     (all_goals refine qgp (Lf.mk ?_))
     exact wj [_] rfl rfl rfl (Nat.le_of_eq rfl) .tup0
    ·rw [if_neg (fun h=>h hc)] at hH
     refine zl x (Int.natCast_nonneg k) hxn ?_
     (all_goals refine qgp ?_<;>(repeat' first | exact trivial | intro hc | refine And.intro ?_ ?_)<;>refine Lf.mk ?_)
     ·rw [if_pos hc] at hH
      refine zvz q b o k x T.1 [_] (by omega) hx hlo (by omega) rfl rfl ?_
      rw [← hH]
      (all_goals refine qgp (Lf.mk ?_))
      exact wj [_] rfl rfl rfl (Nat.le_of_eq rfl) .tup0
     ·rw [if_neg hc] at hH
      refine zl x (Int.natCast_nonneg k) hxn ?_
      (all_goals refine qgp (Lf.mk ?_))
      refine zl x (Int.natCast_nonneg k) hxn ?_
      (all_goals refine qgp (Lf.mk ?_))
      refine zl x (Int.natCast_nonneg k) hxn ?_
      (all_goals refine qgp (Lf.mk ?_))
      refine zeo q b o x.ins x.at_ T.1 x.line [_] (by omega) hlo (by omega) rfl (LeL.of_eq rfl) ?_
      rw [← hH]
      (all_goals refine qgp (Lf.mk ?_))
      exact wj [_] rfl rfl rfl (Nat.le_of_eq rfl) .tup0
end Go.Proofs.YtnkdeacghopkiaaGreatDoor
namespace Go.Proofs.YtnkdeacghopkiaaGreatDoor
open Go Go.Plat
set_option linter.unusedVariables false
set_option linter.unusedSimpArgs false
set_option maxRecDepth 100000
set_option maxHeartbeats 2000000
attribute [local irreducible] AWP zG yn zK zn yA z8 zI zY Lib.itoa z6 zw za zN yB zt z7 yx yy yq yt zx zz xL zD xD vV wY yO wg vo xf
def zlP (h:Bool):Int:=match h with | true=>1 | false=>0
structure zpP (n:Nat) (h:Bool) (x:zO):Prop where
 al:x.kind=8→0 < x.size∧x.size≤16
 da:x.kind=7→0 < x.size∧x.size≤4
 po:x.kind=9→0≤x.pool∧x.pool < n
 li:x.kind=6→0≤x.pool∧x.pool < n+zlP h
 ix:0≤x.idx∧x.idx≤1000000
structure OkB (T:Nat) (b:Bld):Prop where
 its:∀ x∈b.items,zpP b.shut.length b.has x
 put:∀ j:Nat,j < b.shut.length→∃ x∈b.items,x.kind=9∧x.pool=j
 len:b.marks.length=b.syms.length
 pos:∀ m∈b.marks,0≤m
 shl:∀ p∈b.shut,p.length≤T
theorem OkB.fail {T:Nat} {b:Bld} (h:OkB T b) (e line:Int):OkB T (yN b e line):=by
 unfold yN
 split
 ·exact ⟨h.its,h.put,h.len,h.pos,h.shl⟩
 ·exact h
theorem OkB.set {T:Nat} {b:Bld} (h:OkB T b) (s:RB):OkB T (x3 b s):=⟨h.its,h.put,h.len,h.pos,h.shl⟩
theorem OkB.puts {T:Nat} {b:Bld} (h:OkB T b) {x:zO} (hx:zpP b.shut.length b.has x):OkB T (xN b x):=
 ⟨fun y hy=>by
   rcases List.mem_append.1 hy with hy | hy
   ·exact h.its y hy
   ·rw [List.mem_singleton] at hy;subst hy;exact hx,
 fun j hj=>by obtain ⟨y,h1,h2⟩:=h.put j hj;exact ⟨y,List.mem_append_left _ h1,h2⟩,h.len,h.pos,h.shl⟩
theorem OkB.label {T:Nat} {q:List zo} {b:Bld} (h:OkB T b) (t:y8) (line:Int):OkB T (wi q b t line):=by
 unfold wi
 split
 ·exact h.fail _ _
 ·refine ⟨h.its,h.put,by simp [h.len],fun m hm=>?_,h.shl⟩
  rcases List.mem_append.1 hm with hm | hm
  ·exact h.pos m hm
  ·rw [List.mem_singleton] at hm;subst hm;omega
theorem zxi {n:Nat} {h:Bool} {x:zO} (h8:x.kind≠8) (h7:x.kind≠7) (h9:x.kind≠9) (h6:x.kind≠6) (hi:x.idx=0):zpP n h x:=
 ⟨fun e=>absurd e h8,fun e=>absurd e h7,fun e=>absurd e h9,fun e=>absurd e h6,by omega⟩
theorem zy9 {n:Nat} {h:Bool} {size line:Int} {v:zB} (hs:size=1∨size=2∨size=4):zpP n h ⟨7,0,line,noI,false,size,v,0,0⟩:=
 ⟨fun e=>absurd e (by dsimp only;decide),fun _=>by dsimp only;omega,fun e=>absurd e (by dsimp only;decide),fun e=>absurd e (by dsimp only;decide),by dsimp only;decide⟩
theorem OkB.dat {T:Nat} {b:Bld} (h:OkB T b) {size:Int} (hs:size=1∨size=2∨size=4) (line:Int) (o:AOp):OkB T (vE size line b o):=by
 unfold vE
 refine OkB.puts ?_ (zy9 hs)
 repeat' split
 all_goals first | exact h.fail _ _ | exact h
theorem OkB.datas {T:Nat} {size:Int} (hs:size=1∨size=2∨size=4) {line:Int}:∀ (l:List AOp) {b:Bld},OkB T b→OkB T (l.foldl (vE size line) b)
 | [],b,h=>h
 | o::l,b,h=>OkB.datas hs l (h.dat hs line o)
theorem OkB.data {T:Nat} {b:Bld} (h:OkB T b) {size:Int} (hs:size=1∨size=2∨size=4) (l:List AOp) (line:Int):OkB T (zan b size l line):=by
 unfold zan
 refine OkB.datas hs l ?_
 split
 ·exact h.fail _ _
 ·exact h
theorem OkB.align {T:Nat} {b:Bld} (h:OkB T b) (l:List AOp) (line:Int):OkB T (kU b l line):=by
 unfold kU
 split
 ·exact h.fail _ _
 split
 ·exact h.fail _ _
 ·rename_i hn
  exact h.puts ⟨fun _=>by dsimp only;omega,fun e=>absurd e (by dsimp only;decide),fun e=>absurd e (by dsimp only;decide),fun e=>absurd e (by dsimp only;decide),by dsimp only;decide⟩
theorem OkB.pool {T:Nat} {b:Bld} (h:OkB T b) (hc:b.cur.length≤T) (line:Int):OkB T (ka b line):=by
 unfold ka
 split
 ·rename_i hh
  have hl:(b.shut++[b.cur]).length=b.shut.length+1:=by simp
  refine ⟨fun x hx=>?_,fun j hj=>?_,h.len,h.pos,fun p hp=>?_⟩
  ·dsimp only at hx ⊢
   rw [hl]
   rcases List.mem_append.1 hx with hx | hx
   ·have:=h.its x hx
    refine ⟨this.al,this.da,fun e=>?_,fun e=>?_,this.ix⟩
    ·have:=this.po e;omega
    ·have:=this.li e
     rw [hh] at this
     have h1:zlP true=1:=rfl
     have h0:zlP false=0:=rfl
     rw [h1] at this
     rw [h0]
     omega
   ·rw [List.mem_singleton] at hx
    subst hx
    exact ⟨fun e=>absurd e (by dsimp only;decide),fun e=>absurd e (by dsimp only;decide),fun _=>by dsimp only;omega,fun e=>absurd e (by dsimp only;decide),by dsimp only;decide⟩
  ·have hj:j < (b.shut++[b.cur]).length:=hj
   rw [hl] at hj
   by_cases hjn:j < b.shut.length
   ·obtain ⟨y,h1,h2⟩:=h.put j hjn
    exact ⟨y,List.mem_append_left _ h1,h2⟩
   ·refine ⟨⟨9,0,line,noI,false,0,noV,b.shut.length,0⟩,List.mem_append_right _ (List.mem_singleton.2 rfl),rfl,?_⟩
    show ((b.shut.length:Nat):Int)=j
    omega
  ·rcases List.mem_append.1 hp with hp | hp
   ·exact h.shl p hp
   ·rw [List.mem_singleton] at hp;subst hp;exact hc
 ·exact h
theorem zvB (b:Bld) (line:Int):(ka b line).has=false:=by
 unfold ka
 split
 ·rfl
 ·rename_i h
  cases hb:b.has with
  | true=>exact absurd hb h
  | false=>rfl
theorem zsg (v:zB):∀ (l:List zB) (k:Nat),wY v l k≤k+l.length
 | [],k=>by rw [wY];simp
 | x::l,k=>by
  rw [wY]
  split
  ·simp;omega
  ·have:=zsg v l (k+1)
   simp only [List.length_cons];omega
theorem OkB.lit {T:Nat} {b:Bld} (h:OkB T b) (hc:b.cur.length≤1000000) (v:zB) (reg line:Int):OkB T (jy b v reg line):=by
 have hs:0≤vX v b.cur∧vX v b.cur≤1000000:=by
  have:=zsg v b.cur 0
  unfold vX
  split
  ·omega
  ·omega
 have h1:zlP true=1:=rfl
 have hb:OkB T { b with has:=true,cur:=vW v b.cur }:=by
  refine ⟨fun x hx=>?_,h.put,h.len,h.pos,h.shl⟩
  have:=h.its x hx
  refine ⟨this.al,this.da,this.po,fun e=>?_,this.ix⟩
  have:=this.li e
  dsimp only
  rw [h1]
  cases hb:b.has with
  | true=>rw [hb,h1] at this;exact this
  | false=>
   rw [hb] at this
   have h0:zlP false=0:=rfl
   rw [h0] at this
   omega
 exact hb.puts ⟨fun e=>absurd e (by dsimp only;decide),fun e=>absurd e (by dsimp only;decide),fun e=>absurd e (by dsimp only;decide),fun _=>by dsimp only;rw [h1];omega,hs⟩
theorem zxj {n:Nat} {h:Bool} (op sh:Int) (l:List AOp) (line:Int):zpP n h (vp op sh l line):=by
 unfold vp
 repeat' split
 all_goals exact zxi (by dsimp only;decide) (by dsimp only;decide) (by dsimp only;decide) (by dsimp only;decide) rfl
theorem OkB.instr {T:Nat} {b:Bld} (h:OkB T b) (hc:b.cur.length≤1000000) (name:List UInt8) (l:List AOp) (line:Int):OkB T (xH b name l line):=by
 unfold xH
 split
 ·exact h.lit hc _ _ _
 split
 ·exact h.fail _ _
 split
 ·exact h.fail _ _
 split
 ·exact h.puts (zxj _ _ _ _)
 ·exact h.fail _ _
theorem OkB.word {T:Nat} {b:Bld} (h:OkB T b) (hT:b.cur.length≤T) (hc:b.cur.length≤1000000) (w:List UInt8) (l:List AOp) (line:Int):OkB T (zid b w l line):=by
 unfold zid
 split
 ·exact h.data (by decide) _ _
 split
 ·exact h.data (by decide) _ _
 split
 ·exact h.data (by decide) _ _
 split
 ·exact h.align _ _
 split
 ·split
  ·exact h.fail _ _
  ·exact h.pool hT _
 ·exact h.instr hc _ _ _
theorem OkB.rest {T:Nat} {q:List zo} {b:Bld} (h:OkB T b) (hT:b.cur.length≤T) (hc:b.cur.length≤1000000) (line:Int) (l:List y8):OkB T (zem q b line l):=by
 cases l with
 | nil=>exact h
 | cons t r=>
  rw [zem]
  split
  ·exact h
  split
  ·exact h.fail _ _
  split
  ·exact h.set _
  ·exact (h.set _).word hT hc _ _ _
theorem zsh {T:Nat} {q:List zo} {line:Int}:∀ (l:List y8) {b:Bld},OkB T b→OkB T (xm q line l b).1∧(xm q line l b).1.cur=b.cur
 | [],b,h=>by rw [xm];exact ⟨h,rfl⟩
 | [t],b,h=>by rw [xm];exact ⟨h,rfl⟩
 | t::c::r,b,h=>by
  rw [xm]
  split
  ·obtain ⟨h1,h2⟩:=zsh r (h.label (q:=q) t line)
   refine ⟨h1,h2.trans ?_⟩
   unfold wi
   split
   ·unfold yN;split<;>rfl
   ·rfl
  ·exact ⟨h,rfl⟩
theorem OkB.line {T:Nat} {q:List zo} {b:Bld} (h:OkB T b) (hT:b.cur.length≤T) (hc:b.cur.length≤1000000) (x:xr):OkB T (wA q b x):=by
 obtain ⟨h1,h2⟩:=zsh (q:=q) (line:=x.pos) x.toks h
 exact h1.rest (by rw [h2];exact hT) (by rw [h2];exact hc) _ _
def zbK:List xr→Nat
 | []=>0
 | x::l=>x.toks.length+zbK l
def b0:Bld:=⟨[],[],[],[],false,[],0,0⟩
def vL (q:List zo) (l:List xr) (b:Bld):Bld:=l.foldl (wA q) b
def zbY (l:List xr):Int:=l.foldl (fun _ x=>x.pos) 0
def noO:yz:=⟨[],[],[]⟩
def ztN (b:Bld):yz×Int×Int:=
 if b.fe≠0 then (noO,b.fe,b.fa) else if 8000 < (yV b.shut b.marks ⟨b.items,b.syms⟩).2 then (noO,4,0)
 else if (qy b.shut (yV b.shut b.marks ⟨b.items,b.syms⟩).1.items (yV b.shut b.marks ⟨b.items,b.syms⟩).1.syms ⟨[],[],b.fe,b.fa⟩).fe≠0
  then (noO,(qy b.shut (yV b.shut b.marks ⟨b.items,b.syms⟩).1.items (yV b.shut b.marks ⟨b.items,b.syms⟩).1.syms ⟨[],[],b.fe,b.fa⟩).fe,
   (qy b.shut (yV b.shut b.marks ⟨b.items,b.syms⟩).1.items (yV b.shut b.marks ⟨b.items,b.syms⟩).1.syms ⟨[],[],b.fe,b.fa⟩).fa)
 else (⟨(qy b.shut (yV b.shut b.marks ⟨b.items,b.syms⟩).1.items (yV b.shut b.marks ⟨b.items,b.syms⟩).1.syms ⟨[],[],b.fe,b.fa⟩).code,(yV b.shut b.marks ⟨b.items,b.syms⟩).1.syms,
  (qy b.shut (yV b.shut b.marks ⟨b.items,b.syms⟩).1.items (yV b.shut b.marks ⟨b.items,b.syms⟩).1.syms ⟨[],[],b.fe,b.fa⟩).rels⟩,0,0)
def jB (q:List zo) (l:List xr):yz×Int×Int:=ztN (ka (vL q l b0) (zbY l))
attribute [local irreducible] zi.kids zi.kind zi.n zi.name vg qY xy x4 xE wi wl kP yM xe yv zg xM vX zV yk vW wM
def T4:Ob:=.cells [.nilsl,.nilsl,.nilsl]
def T5:Ob:=.cells [.int .i64 0,.int .i64 0]
def zBi (q:List zo):List D:=[.sl 2 (q.map wD) none,.nilsl,.nilsl,.nilsl,.nilsl,.int .i64 0,.nilsl,.nilsl,.nilsl,.int .i64 0,.int .i64 0]
theorem ztO {σ σ':List (Nat×D)} (q:List zo) (h:zh3 (zM [2,3,4,5,6,7,0,1] 0) σ σ'):wn 0 σ [T4,T5,.cells (zBi q)] σ' (bO q b0++[T4,T5]):=by
 have key:zM [2,3,4,5,6,7,0,1] 0 3=some 1:=rfl
 refine xK (qe 2 13 [.sl 2 (q.map wD) none,.osl 13 3 0 0 0,.nilsl,.nilsl,.nilsl,.int .i64 0,.nilsl,.nilsl,.nilsl,.int .i64 0,.int .i64 0] rfl ⟨.same,.here,.same,.same,.same,.same,.same,.same,.same,.same,.same,trivial⟩) ?_
 refine xK (qe 2 2 [.sl 2 (q.map wD) none,.osl 13 3 0 0 0,.osl 2 4 0 0 0,.nilsl,.nilsl,.int .i64 0,.nilsl,.nilsl,.nilsl,.int .i64 0,.int .i64 0] rfl ⟨.same,.same,.here,.same,.same,.same,.same,.same,.same,.same,.same,trivial⟩) ?_
 refine xK (wW 2 1 [.sl 2 (q.map wD) none,.osl 13 3 0 0 0,.osl 2 4 0 0 0,.sl 1 [] (some 5),.nilsl,.int .i64 0,.nilsl,.nilsl,.nilsl,.int .i64 0,.int .i64 0] rfl ⟨.same,.same,.same,.here,.same,.same,.same,.same,.same,.same,.same,trivial⟩) ?_
 refine xK (qe 2 1 [.sl 2 (q.map wD) none,.osl 13 3 0 0 0,.osl 2 4 0 0 0,.sl 1 [] (some 5),.osl 1 6 0 0 0,.int .i64 0,.nilsl,.nilsl,.nilsl,.int .i64 0,.int .i64 0] rfl ⟨.same,.same,.same,.same,.here,.same,.same,.same,.same,.same,.same,trivial⟩) ?_
 refine xK znf ?_
 refine vQ [2,3,4,5,6,7,0,1] rfl rfl ?_ h
 refine .cons (o:=.cells [.sl 2 (q.map wD) none,.osl 13 3 0 0 0,.osl 2 4 0 0 0,.sl 1 [] (some 5),.osl 1 6 0 0 0,.int .i64 0,.nilsl,.nilsl,.nilsl,.int .i64 0,.int .i64 0]) rfl
  ⟨_,rfl,.cons (.flat .sl) (.cons (.osl rfl) (.cons (.osl rfl) (.cons (.tok rfl) (.cons (.osl rfl) (.cons (.flat .int) (.cons (.flat .nilsl) (.cons (.flat .nilsl) (.cons (.flat .nilsl) (.cons (.flat .int) (.cons (.flat .int) .nil))))))))))⟩
  (.cons (o:=.arr 13 []) rfl ⟨_,rfl,rfl,by simp⟩ (.cons (o:=.arr 2 []) rfl ⟨_,rfl,rfl,by simp⟩ (.cons (o:=.spare 0) rfl rfl (.cons (o:=.arr 1 []) rfl ⟨_,rfl,rfl,by simp⟩ (.cons (o:=.dead) rfl rfl
  (.cons (o:=T4) rfl ⟨_,rfl,.cons (.flat .nilsl) (.cons (.flat .nilsl) (.cons (.flat .nilsl) .nil))⟩ (.cons (o:=T5) rfl ⟨_,rfl,.cons (.flat .int) (.cons (.flat .int) .nil)⟩ .nil)))))))
theorem zvC {av:List D} {L:List Ob} {KP:D→Prop} {KW:D→List Ob→Prop} (q:List zo) (b:Bld) (x:xr) (X:List Ob) (hr:yl b (1+x.toks.length)) (hw:wt (x.toks.map tk)≤1048576) (hq:q.length≤1000000)
  (hL:L=bO q b++X) (has:av=[.loc 0 0,ww x])
  (hK1:((wA q b x).has=true→b.has=true)→KW (.tup []) (bO q (wA q b x)++X))
  (hK2:b.has=false→(wA q b x).has=true→KW (.tup []) (bOn L.length q (wA q b x)++X++[.spare (wA q b x).cur.length])):zn Tryz.prog zcj av L KP KW:=by
 subst has
 have hcl:ClL (bO q b).length [.loc 0 0,ww x]:=.cons (.loc (Nat.lt_of_lt_of_le (by decide:0 < 6) (Nat.le_of_eq rfl))) (.cons (.agg (.cons .int (.cons .sl .nil))) .nil)
 by_cases h:b.has=false∧(wA q b x).has=true
 ·refine zms zkN (bO q b) X (bOn 6 q (wA q b x)) (bOn L.length q (wA q b x)) (.spare (wA q b x).cur.length) (d:=.tup []) hL ⟨(b,x,q),⟨hr,hw,hq⟩,LeL.refl _,rfl,rfl,(zf9 h.1 h.2).symm⟩ rfl rfl hcl .tup0 (xt _ _)
   (fun m hm hk=>zif q _ (fun j hj=>hm j (Nat.lt_of_lt_of_le hj (by decide:5≤6))) hk) .spare (hK2 h.1 h.2)
 ·have hn:(wA q b x).has=true→b.has=true:=fun e=>by
   cases hb:b.has with
   | true=>rfl
   | false=>exact absurd ⟨hb,e⟩ h
  refine zjd zkN (bO q b) X (bO q (wA q b x)) (d:=.tup []) hL ⟨(b,x,q),⟨hr,hw,hq⟩,LeL.refl _,rfl,rfl,(zie hn).symm⟩ rfl hcl .tup0 (xt _ _) (xt _ _) (hK1 hn)
theorem zAm (q:List zo) (b:Bld):∀ x∈bO q b++[T4,T5],ClO (bO q b++[T4,T5]).length x:=by
 intro x hx
 have hl:(bO q b++[T4,T5]).length=8:=rfl
 rw [hl]
 rcases List.mem_append.1 hx with hx | hx
 ·exact ClO.up (xt q b x hx) (by decide)
 ·simp only [List.mem_cons,List.not_mem_nil,or_false] at hx
  rcases hx with rfl | rfl
  ·exact .cells (.cons .nilsl (.cons .nilsl (.cons .nilsl .nil)))
  ·exact .cells (.cons .int (.cons .int .nil))
theorem zAn (q:List zo) (b:Bld) (h:b.has=true):bO q b=[.cells (bCk q b),.arr 13 (b.items.map xz),.arr 2 (b.syms.map yH),.spare b.marks.length,.arr 1 (b.shut.map xl++[.sl 2 (b.cur.map yP) (some 5)]),.spare b.cur.length]:=by
 have hp:zS b=b.shut.map xl++[.sl 2 (b.cur.map yP) (some 5)]:=by unfold zS;rw [h]
 have hc:zeL b= .spare b.cur.length:=by unfold zeL;rw [h]
 have hb:bC q b=bCk q b:=by unfold bC bCk;rw [hp];simp
 unfold bO bT
 rw [hb,hp,hc]
theorem zvD {σ σ':List (Nat×D)} (q:List zo) (b:Bld) (Y:Ob) (h:b.has=true) (hs:zh3 (zM [0,1,2,3,4,9,6,7] 0) σ σ'):wn 0 σ (bOn 9 q b++[T4,T5,Y]++[.spare b.cur.length]) σ' (bO q b++[T4,T5]):=by
 have key:∀ k,k < 5→zM [0,1,2,3,4,9,6,7] 0 k=some k:=by decide
 have hr:=zif (m:=zM [0,1,2,3,4,9,6,7] 0) (k:=9) (k':=5) q b key rfl
 rw [zAn q b h]
 refine vQ [0,1,2,3,4,9,6,7] rfl rfl ?_ hs
 exact .cons (o:=.cells (bCk q b)) rfl (hr 0 _ _ rfl rfl) (.cons (o:=.arr 13 (b.items.map xz)) rfl (hr 1 _ _ rfl rfl) (.cons (o:=.arr 2 (b.syms.map yH)) rfl (hr 2 _ _ rfl rfl) (.cons (o:=.spare b.marks.length) rfl (hr 3 _ _ rfl rfl)
  (.cons (o:=.arr 1 (b.shut.map xl++[.sl 2 (b.cur.map yP) (some 9)])) rfl (hr 4 _ _ rfl rfl) (.cons (o:=.spare b.cur.length) rfl rfl
  (.cons (o:=T4) rfl ⟨_,rfl,.cons (.flat .nilsl) (.cons (.flat .nilsl) (.cons (.flat .nilsl) .nil))⟩ (.cons (o:=T5) rfl ⟨_,rfl,.cons (.flat .int) (.cons (.flat .int) .nil)⟩ .nil)))))))
theorem zrr (q:List zo) (x:xr) (l:List xr) (b:Bld):vL q (x::l) b=vL q l (wA q b x):=rfl
theorem zkP {q:List zo}:∀ (l:List xr) {b:Bld} {k:Nat},yl b (k+zbK l)→yl (vL q l b) k
 | [],b,k,h=>h
 | x::l,b,k,h=>zkP l (yl.line x (by rw [zbK] at h;exact h.less (by omega)))
theorem zpQ {T:Nat} {q:List zo} (hT:T≤1000000):∀ (l:List xr) {b:Bld},yl b (1000000 - T+zbK l)→OkB T b→OkB T (vL q l b)
 | [],b,_,h=>h
 | x::l,b,hr,h=>by
  rw [zbK] at hr
  have hc:=hr.curl
  exact zpQ hT l (yl.line x (hr.less (by omega))) (h.line (by omega) (by omega) x)
theorem ztP:yl b0 1000000:=⟨by decide,by decide,by decide,by decide,by decide,fun _=>rfl⟩
theorem ok0 (T:Nat):OkB T b0:=⟨(fun x hx=>by cases hx),fun j hj=>absurd hj (Nat.not_lt_zero j),rfl,(fun m hm=>by cases hm),(fun p hp=>by cases hp)⟩
end Go.Proofs.YtnkdeacghopkiaaGreatDoor
namespace Go.Proofs.YtnkdeacghopkiaaGreatDoor
open Go Go.Plat
set_option linter.unusedVariables false
set_option linter.unusedSimpArgs false
set_option maxRecDepth 100000
set_option maxHeartbeats 2000000
attribute [local irreducible] AWP zG yn zK zn yA z8 zI zY Lib.itoa z6 zw za zN yB zt z7 yx yy yq yt zx zz xL vg zD qY xD vV wY xE yO wg yv vo xM yk xf
structure Sim (x y:zO):Prop where
 kind:y.kind=x.kind
 size:y.size=x.size
 pool:y.pool=x.pool
 idx:y.idx=x.idx
structure zcU (l m:List zO):Prop where
 len:m.length=l.length
 from_:∀ y∈m,∃ x∈l,Sim x y
 to_:∀ x∈l,∃ y∈m,Sim x y
theorem zcU.refl (l:List zO):zcU l l:=⟨rfl,fun y h=>⟨y,h,rfl,rfl,rfl,rfl⟩,fun y h=>⟨y,h,rfl,rfl,rfl,rfl⟩⟩
theorem Sim.trans {x y z:zO} (h:Sim x y) (k:Sim y z):Sim x z:=⟨k.kind.trans h.kind,k.size.trans h.size,k.pool.trans h.pool,k.idx.trans h.idx⟩
theorem zcU.trans {a b c:List zO} (h:zcU a b) (k:zcU b c):zcU a c:=
 ⟨k.len.trans h.len,fun z hz=>by obtain ⟨y,h1,h2⟩:=k.from_ z hz;obtain ⟨x,h3,h4⟩:=h.from_ y h1;exact ⟨x,h3,h4.trans h2⟩,
   fun x hx=>by obtain ⟨y,h1,h2⟩:=h.to_ x hx;obtain ⟨z,h3,h4⟩:=k.to_ y h1;exact ⟨z,h3,h2.trans h4⟩⟩
theorem zcU.cons {x y:zO} {l m:List zO} (h:Sim x y) (k:zcU l m):zcU (x::l) (y::m):=
 ⟨by simp [k.len],fun z hz=>by
   rcases List.mem_cons.1 hz with rfl | hz
   ·exact ⟨x,List.mem_cons_self,h⟩
   ·obtain ⟨w,h1,h2⟩:=k.from_ z hz;exact ⟨w,List.mem_cons_of_mem _ h1,h2⟩,
 fun z hz=>by
  rcases List.mem_cons.1 hz with rfl | hz
  ·exact ⟨y,List.mem_cons_self,h⟩
  ·obtain ⟨w,h1,h2⟩:=k.to_ z hz;exact ⟨w,List.mem_cons_of_mem _ h1,h2⟩⟩
theorem zmG (pools:List (List zB)):∀ (l:List zO) (a:Int),zcU l (yS pools l a).1
 | [],a=>.refl _
 | x::l,a=>by rw [yS];exact .cons ⟨rfl,rfl,rfl,rfl⟩ (zmG pools l _)
theorem zpR (syms:List zH):∀ l:List zO,zcU l (l.map (xA syms))
 | []=>.refl _
 | x::l=>.cons (by unfold xA;split<;>exact ⟨rfl,rfl,rfl,rfl⟩) (zpR syms l)
theorem zvE {pools:List (List zB)} {x y:zO} (h:Sim x y) (k:w7 pools x):w7 pools y:=
 ⟨fun e=>by rw [h.size];exact k.1 (by rw [← h.kind];exact e),fun e=>by rw [h.size];exact k.2.1 (by rw [← h.kind];exact e),fun e=>by rw [h.pool];exact k.2.2.1 (by rw [← h.kind];exact e),k.2.2.2⟩
theorem zmH {pools:List (List zB)}:∀ (l:List zO) (a:Int),0≤a→(∀ x∈l,w7 pools x)→a≤(yS pools l a).2∧∀ x∈(yS pools l a).1,0≤x.at_∧x.at_≤(yS pools l a).2
 | [],a,h0,_=>⟨Int.le_refl a,fun x hx=>by cases hx⟩
 | y::l,a,h0,hs=>by
  have hz:=zlO (a:=a) (hs y List.mem_cons_self) h0
  obtain ⟨h1,h2⟩:=zmH l (a+xM pools y a) (by omega) (fun z hz=>hs z (List.mem_cons_of_mem _ hz))
  rw [yS]
  refine ⟨by dsimp only;omega,fun x hx=>?_⟩
  rcases List.mem_cons.1 hx with rfl | hx
  ·exact ⟨h0,by dsimp only;omega⟩
  ·exact h2 x hx
structure zAo (pools:List (List zB)) (s:Lay) (R:Lay×Int):Prop where
 sim:zcU s.items R.1.items
 syms:R.1.syms.length=s.syms.length
 at_:∀ x∈R.1.items,0≤x.at_∧x.at_≤R.2
theorem zkQ {pools:List (List zB)} {marks:List Int}:∀ (f:Nat) (s:Lay),vt s.items < f→(∀ x∈s.items,w7 pools x)→zAo pools s (zdQ pools marks f s)
 | 0,s,h,_=>absurd h (Nat.not_lt_zero _)
 | f+1,s,h,hs=>by
  have h1:=zmG pools s.items 0
  have h2:=zmH s.items 0 (Int.le_refl 0) hs
  have h3:=zdS pools s.items 0
  have h4:(xb pools marks s).1.syms.length=s.syms.length:=zde _ _ _ _
  have hP:(xb pools marks s).1.items=(yS pools s.items 0).1:=rfl
  have hE:(xb pools marks s).2=(yS pools s.items 0).2:=rfl
  rw [ziJ]
  generalize xb pools marks s=P at *
  rw [← hP] at h1 h2 h3
  rw [← hE] at h2
  clear hP hE
  have h5:=zpR P.1.syms P.1.items
  have hgr:=zgb P.1.syms P.1.items
  have hat:∀ x∈P.1.items.map (xA P.1.syms),0≤x.at_∧x.at_≤P.2:=by
   intro x hx
   obtain ⟨y,hy,rfl⟩:=List.mem_map.1 hx
   have:=h2.2 y hy
   unfold xA
   split
   ·exact this
   ·exact this
  have hso:∀ x∈P.1.items.map (xA P.1.syms),w7 pools x:=by
   intro x hx
   obtain ⟨y,hy,h6⟩:=(h1.trans h5).from_ x hx
   exact zvE h6 (hs y hy)
  split
  ·exact ⟨h1.trans h5,h4,hat⟩
  ·rename_i hn
   have hany:P.1.items.any (wL P.1.syms)=true:=by
    cases hb:P.1.items.any (wL P.1.syms) with
    | true=>rfl
    | false=>exact absurd (.inl hb) hn
   have:=hgr.2 hany
   have ih:=zkQ (pools:=pools) (marks:=marks) f ⟨P.1.items.map (xA P.1.syms),P.1.syms⟩ (by show vt (P.1.items.map (xA P.1.syms)) < f;omega) hso
   exact ⟨(h1.trans h5).trans ih.sim,ih.syms.trans h4,ih.at_⟩
theorem zmI (syms:List zH):∀ (p:List zB) (o:Out),(p.foldl (fun o v=>wM syms o v 4) o).code.length=o.code.length+4 * p.length∧(p.foldl (fun o v=>wM syms o v 4) o).rels.length≤o.rels.length+p.length
 | [],o=>by simp
 | v::p,o=>by
  have h1:=zep syms o v 4
  have h2:=zhv syms o v 4
  obtain ⟨h3,h4⟩:=zmI syms p (wM syms o v 4)
  rw [List.foldl_cons]
  simp only [List.length_cons]
  omega
theorem jC (o:Out) (e line:Int):(qq o e line).code=o.code∧(qq o e line).rels=o.rels:=by unfold qq;split<;>exact ⟨rfl,rfl⟩
theorem zeq (o:Out) (i:Ins) (line:Int):(x4 o i line).rels=o.rels:=by
 unfold x4
 split
 ·rfl
 ·exact (jC _ _ _).2
theorem zer (o:Out) (i:Ins) (a to line:Int):(wl o i a to line).rels=o.rels:=by
 unfold wl
 split
 ·exact zeq _ _ _
 ·exact (jC _ _ _).2
theorem zxk (o:Out) (x:zO) (to:Int):(kP o x to).code.length≤o.code.length+6∧(kP o x to).rels=o.rels:=by
 unfold kP
 split
 ·exact ⟨by have:=zdU o x.ins x.at_ to x.line;omega,zer _ _ _ _ _⟩
 ·have h1:=zdT o ⟨w64 (35 - x.ins.op),0,0,1⟩ x.line
  have h2:=zdU (x4 o ⟨w64 (35 - x.ins.op),0,0,1⟩ x.line) ⟨19,0,0,0⟩ (x.at_+2) to x.line
  have h3:=zdT (wl (x4 o ⟨w64 (35 - x.ins.op),0,0,1⟩ x.line) ⟨19,0,0,0⟩ (x.at_+2) to x.line) ⟨1,0,0,0⟩ x.line
  exact ⟨by omega,by rw [zeq,zer,zeq]⟩
theorem zmJ (o:Out) (to:Int):(wN o to).code.length≤o.code.length+to.toNat:=by
 unfold wN
 simp only [List.length_append,List.length_replicate]
 omega
theorem zvF {pools:List (List zB)} {items:List zO} {syms:List zH} {o:Out} {x:zO} (hs:w7 pools x) (h0:0≤x.at_) (h1:x.at_≤8000) (hp:∀ p∈pools,p.length≤9000) :
  (jd pools items syms o x).code.length≤o.code.length+44100∧(jd pools items syms o x).rels.length≤o.rels.length+9000:=by
 have hu4:=zaf (n:=x.at_) (k:=4) (by decide)
 unfold jd
 split
 ·rename_i h7
  have:=hs.2.1 h7
  split
  ·rw [(jC _ _ _).1,(jC _ _ _).2];omega
  ·have h2:=zep syms o x.val x.size.toNat
   have h3:=zhv syms o x.val x.size.toNat
   omega
 split
 ·rename_i h8
  have:=hs.1 h8
  have hu:=zaf (n:=x.at_) this.1
  have h2:=zmJ o (upA x.at_ x.size)
  rw [zhu]
  omega
 split
 ·have h2:=zmJ o (upA x.at_ 4)
  have h3:=zmI syms ((pools[x.pool.toNat]?).getD []) (wN o (upA x.at_ 4))
  rw [zhu] at h3
  have h4:((pools[x.pool.toNat]?).getD []).length≤9000:=by
   cases hg:pools[x.pool.toNat]? with
   | none=>simp
   | some p=>exact hp p (List.mem_of_getElem? hg)
  omega
 split
 ·rw [(jC _ _ _).1,(jC _ _ _).2];omega
 split
 ·have:=zdT o x.ins x.line;rw [zeq];omega
 split
 ·have:=zdU o x.ins x.at_ (upA (itA items (zpx x.pool items 0)).at_ 4+4 * x.idx) x.line;rw [zer];omega
 split
 ·rw [(jC _ _ _).1,(jC _ _ _).2];omega
 split
 ·have:=zxk o x (yk syms x.val).1;rw [this.2];omega
 ·have:=zdU o x.ins x.at_ (yk syms x.val).1 x.line;rw [zer];omega
theorem zpS {α:Type} (p:α→Bool):∀ (l:List α) (k:Nat),(∃ x∈l,p x=true)→0≤y9 p l k
 | [],k,h=>by obtain ⟨x,h,_⟩:=h;cases h
 | y::l,k,h=>by
  rw [y9]
  split
  ·omega
  ·rename_i hn
   obtain ⟨x,h1,h2⟩:=h
   rcases List.mem_cons.1 h1 with rfl | h1
   ·exact absurd h2 hn
   ·exact zpS p l (k+1) ⟨x,h1,h2⟩
attribute [local irreducible] zi.kids zi.kind zi.n zi.name xy x4 wi wl kP yM xe zg vX zV vW wM
theorem ztQ (l:List zH):qU (l.map yH) (l.map yH):=by
 refine ⟨rfl,fun i d d' h1 h2=>?_⟩
 rw [h1] at h2
 cases h2
 simp only [List.getElem?_map,Option.map_eq_some_iff] at h1
 obtain ⟨c,_,rfl⟩:=h1
 refine ⟨rfl,rfl,fun j x x' h3 h4=>?_⟩
 rw [h3] at h4
 cases h4
 match j,h3 with
 | 0,h3=>
  cases h3
  intro w F ρ L v h
  cases h with | pure _ _ h=>exact h
 | 1,h3=>
  cases h3
  intro w F ρ L v h
  cases h with | pure _ _ h=>exact h
 | j+2,h3=>simp [yH,D.cells] at h3
theorem zxl {σ σ':List (Nat×D)} (q:List zo) (items:List zO) (syms:List zH) (marks:List Int) (shut:List (List zB)) (cur:List zB) (fe fa:Int) (h:zh3 (zM [0,1,2,3,4,8,9,6,7] 0) σ σ') :
  wn 0 σ (bO q ⟨items,syms,marks,shut,false,cur,fe,fa⟩++[T4,T5]) σ' (eO q ⟨items,syms,marks,shut,false,cur,fe,fa⟩ ⟨[],[],fe,fa⟩++[T4,T5]):=by
 have key:∀ k,k < 5→zM [0,1,2,3,4,8,9,6,7] 0 k=some k:=by decide
 refine xK (wW 0 4 [.sl 2 (q.map wD) none,.osl 13 1 items.length 0 items.length,.osl 2 2 syms.length 0 syms.length,.sl 1 (marks.map (.int .i64)) (some 3),.osl 1 4 (zS ⟨items,syms,marks,shut,false,cur,fe,fa⟩).length 0 (zS ⟨items,syms,marks,shut,false,cur,fe,fa⟩).length,
  .int .i64 shut.length,.nilsl,.nilsl,.sl 4 [] (some 8),.int .i64 fe,.int .i64 fa] rfl ⟨.same,.same,.same,.same,.same,.same,.same,.same,.here,.same,.same,trivial⟩) ?_
 refine xK (wW 0 1 [.sl 2 (q.map wD) none,.osl 13 1 items.length 0 items.length,.osl 2 2 syms.length 0 syms.length,.sl 1 (marks.map (.int .i64)) (some 3),.osl 1 4 (zS ⟨items,syms,marks,shut,false,cur,fe,fa⟩).length 0 (zS ⟨items,syms,marks,shut,false,cur,fe,fa⟩).length,
  .int .i64 shut.length,.sl 1 [] (some 9),.nilsl,.sl 4 [] (some 8),.int .i64 fe,.int .i64 fa] rfl ⟨.same,.same,.same,.same,.same,.same,.here,.same,.same,.same,.same,trivial⟩) ?_
 refine vQ [0,1,2,3,4,8,9,6,7] rfl rfl ?_ h
 exact .cons (o:=.cells [.sl 2 (q.map wD) none,.osl 13 1 items.length 0 items.length,.osl 2 2 syms.length 0 syms.length,.sl 1 (marks.map (.int .i64)) (some 3),.osl 1 4 (zS ⟨items,syms,marks,shut,false,cur,fe,fa⟩).length 0 (zS ⟨items,syms,marks,shut,false,cur,fe,fa⟩).length,
   .int .i64 shut.length,.sl 1 [] (some 9),.nilsl,.sl 4 [] (some 8),.int .i64 fe,.int .i64 fa]) rfl
  ⟨_,rfl,.cons (.flat .sl) (.cons (.osl rfl) (.cons (.osl rfl) (.cons (.tok rfl) (.cons (.osl rfl) (.cons (.flat .int) (.cons (.tok rfl) (.cons (.flat .nilsl) (.cons (.tok rfl) (.cons (.flat .int) (.cons (.flat .int) .nil))))))))))⟩
  (.cons (o:=.arr 13 (items.map xz)) rfl (ClO.arr (n:=5) (jz _) _ key) (.cons (o:=.arr 2 (syms.map yH)) rfl (ClO.arr (n:=5) (zaM _) _ key) (.cons (o:=.spare marks.length) rfl rfl (.cons (o:=.arr 1 (shut.map xl)) rfl (ClO.arr (n:=5) (zjr _) _ key)
  (.cons (o:=.spare 0) rfl rfl (.cons (o:=.spare 0) rfl rfl
  (.cons (o:=T4) rfl ⟨_,rfl,.cons (.flat .nilsl) (.cons (.flat .nilsl) (.cons (.flat .nilsl) .nil))⟩ (.cons (o:=T5) rfl ⟨_,rfl,.cons (.flat .int) (.cons (.flat .int) .nil)⟩ .nil))))))))
theorem zhx (pools:List (List zB)) (items:List zO) (syms:List zH) (x:zO) (l:List zO) (o:Out):(x::l).foldl (fun o x=>if o.fe=0 then jd pools items syms o x else o) o=l.foldl (fun o x=>if o.fe=0 then jd pools items syms o x else o) (if o.fe=0 then jd pools items syms o x else o):=rfl
theorem zrs:za Tryz.prog zq2 (zy (fun ((l,q):List xr×List zo)=>zbK l≤9000∧(∀ x∈l,wt (x.toks.map tk)≤1048576)∧q.length≤1000000∧l.length≤1000000) (fun (l,q)=>[.sl 2 (l.map ww) none,.sl 2 (q.map wD) none])
  fun (l,q)=>.tup [vl (jB q l).1,.agg [.int .i64 (jB q l).2.1,.int .i64 (jB q l).2.2]]):=by
 refine zf zh Tryz.func67 rfl (by decide) ?_
 rintro ⟨l,q⟩ ⟨ht,hw,hq,hll⟩
 have ht:zbK l≤9000:=ht
 have hw:∀ x∈l,wt (x.toks.map tk)≤1048576:=hw
 have hq:q.length≤1000000:=hq
 have hll:l.length≤1000000:=hll
 refine ⟨Nat.le_refl _,by simp [Tryz.f67],fun E hE=>?_⟩
 have hE0:E.L.length=0:=by rw [hE];rfl
 show AWP _ _ _ _ (kg _ _ _ (.tup [vl (jB q l).1,.agg [.int .i64 (jB q l).2.1,.int .i64 (jB q l).2.2]]) []) _ []
 refine xW (ze _ ?_)
 (all_goals refine qgp (Lf.mk ?_))
 refine xW (ze _ ?_)
 (all_goals refine qgp (Lf.mk ?_))
 refine xW (ze _ ?_)
 (all_goals refine qgp (Lf.mk ?_))
 refine zbA (α:=Unit) (fun _=>True) (fun _=>[(4,.loc 6 0),(5,.loc 7 0),(6,.loc 0 0),(7,.int .i64 (zbY l))]) (fun _=>bO q (vL q l b0)++[T4,T5]) ?_ ?_
 ·refine ze _ ?_
  (all_goals refine qgp (Lf.mk ?_))
  refine yp (α:=Nat×Bld×Int) (fun p=>p.1≤l.length∧vL q (l.drop p.1) p.2.1=vL q l b0∧(l.drop p.1).foldl (fun _ x=>x.pos) p.2.2=zbY l∧yl p.2.1 (1+zbK (l.drop p.1)))
   (fun p=>[(4,.loc 6 0),(5,.loc 7 0),(6,.loc 0 0),(7,.int .i64 p.2.2),(14,.sl 2 (l.map ww) none),(15,.int .i64 l.length),(16,.int .i64 p.1)]) (fun p=>bO q p.2.1++[T4,T5]) (fun p=>l.length - p.1) (fun _=>by rw [hE0];exact Nat.zero_le _) (0,b0,0)
   ⟨Nat.zero_le _,rfl,rfl,ztP.less (by show 1+zbK l≤_;omega)⟩ ?_ ?_
  ·rw [hE0]
   exact ztO q ⟨.loc rfl,.loc rfl,.loc rfl,.flat .int,.flat .sl,.flat .int,.flat .int,trivial⟩
  rintro ⟨k,b,la⟩ ⟨i1,i2,i3,i4⟩
  dsimp only at i1 i2 i3 i4 ⊢
  refine ze _ ?_
  (all_goals refine qgp ?_<;>(repeat' first | exact trivial | intro hc | refine And.intro ?_ ?_)<;>refine Lf.mk ?_)
  ·obtain ⟨x,hx⟩:=zP (l:=l) (k:=k) (by omega)
   have hkl:k < l.length:=by omega
   have hgx:l[k]=x:=by rw [List.getElem?_eq_getElem hkl] at hx;exact Option.some.inj hx
   rw [List.drop_eq_getElem_cons hkl,hgx] at i2 i3 i4
   rw [zrr] at i2
   rw [List.foldl_cons] at i3
   rw [zbK] at i4
   have hr':yl (wA q b x) (1+zbK (l.drop (k+1))):=yl.line x (i4.less (by omega))
   refine zl x (by omega) (by simpa using hx) ?_
   (all_goals refine qgp (Lf.mk ?_))
   refine zvC q b x [T4,T5,.cells [.int .i64 x.pos,.sl 3 (x.toks.map vw) none]] (i4.less (by omega)) (hw x (List.mem_of_getElem? hx)) hq rfl rfl (fun hn=>?_) (fun hn hn'=>?_)
   ·(all_goals refine qgp (Lf.mk ?_))
    exact w9 (k+1,wA q b x,x.pos) [.cells [.int .i64 x.pos,.sl 3 (x.toks.map vw) none]] ⟨by show k+1≤_;omega,i2,i3,hr'⟩ (by dsimp only;omega) (by simp) (by rw [hE0];exact Nat.zero_le _) (zAm _ _) ⟨rfl,rfl,rfl,rfl,rfl,rfl,rfl,trivial⟩
     (.cons (.loc (Nat.lt_of_lt_of_le (by decide:6 < 8) (Nat.le_of_eq rfl))) (.cons (.loc (Nat.lt_of_lt_of_le (by decide:7 < 8) (Nat.le_of_eq rfl))) (.cons (.loc (Nat.lt_of_lt_of_le (by decide:0 < 8) (Nat.le_of_eq rfl))) (.cons .int (.cons .sl (.cons .int (.cons .int .nil)))))))
   ·(all_goals refine qgp (Lf.mk ?_))
    refine zmt (k+1,wA q b x,x.pos) ⟨by show k+1≤_;omega,i2,i3,hr'⟩ (by dsimp only;omega) ?_
    rw [hE0]
    exact zvD q (wA q b x) _ hn' ⟨.loc rfl,.loc rfl,.loc rfl,.flat .int,.flat .sl,.flat .int,.flat .int,trivial⟩
  ·have hk:k=l.length:=by omega
   rw [hk,List.drop_length] at i2 i3
   have e1:b=vL q l b0:=i2
   have e2:la=zbY l:=i3
   subst e1
   exact ⟨(),trivial,yf rfl ⟨rfl,rfl,rfl,by rw [← e2];rfl,trivial⟩⟩
 ·rintro _ _
  have hroom:yl (vL q l b0) (1000000 - 9000):=zkP l (ztP.less (by omega))
  have hok:OkB 9000 (vL q l b0):=zpQ (by decide) l (ztP.less (by omega)) (ok0 9000)
  have hroom2:yl (ka (vL q l b0) (zbY l)) 990999:=(hroom.less (by decide:990999+1≤1000000 - 9000)).pool _
  have hok2:OkB 9000 (ka (vL q l b0) (zbY l)):=hok.pool (by have:=hroom.curl;omega) _
  have hsh:=zvB (vL q l b0) (zbY l)
  have hbi:=hroom.items
  have hbs:=hroom.shut
  have hR:jB q l=ztN (ka (vL q l b0) (zbY l)):=rfl
  rw [hR]
  generalize vL q l b0=b1 at *
  refine xW (ze _ ?_)
  (all_goals refine qgp (Lf.mk ?_))
  refine zmD q b1 (zbY l) [T4,T5] (by omega) (by omega) rfl rfl ?_
  generalize ka b1 (zbY l)=b2 at *
  (all_goals refine qgp (Lf.mk ?_))
  obtain ⟨items,syms,marks,shut,has,cur,fe,fa⟩:=b2
  have hsh:has=false:=hsh
  subst hsh
  clear hR hroom hok hbi hbs
  have hL:ztN ⟨items,syms,marks,shut,false,cur,fe,fa⟩=if fe≠0 then (noO,fe,fa) else if 8000 < (yV shut marks ⟨items,syms⟩).2 then (noO,4,0)
   else if (qy shut (yV shut marks ⟨items,syms⟩).1.items (yV shut marks ⟨items,syms⟩).1.syms ⟨[],[],fe,fa⟩).fe≠0
    then (noO,(qy shut (yV shut marks ⟨items,syms⟩).1.items (yV shut marks ⟨items,syms⟩).1.syms ⟨[],[],fe,fa⟩).fe,(qy shut (yV shut marks ⟨items,syms⟩).1.items (yV shut marks ⟨items,syms⟩).1.syms ⟨[],[],fe,fa⟩).fa)
   else (⟨(qy shut (yV shut marks ⟨items,syms⟩).1.items (yV shut marks ⟨items,syms⟩).1.syms ⟨[],[],fe,fa⟩).code,(yV shut marks ⟨items,syms⟩).1.syms,
    (qy shut (yV shut marks ⟨items,syms⟩).1.items (yV shut marks ⟨items,syms⟩).1.syms ⟨[],[],fe,fa⟩).rels⟩,0,0):=rfl
  generalize ztN ⟨items,syms,marks,shut,false,cur,fe,fa⟩=R at *
  refine xW (ze _ ?_)
  (all_goals refine qgp ?_<;>(repeat' first | exact trivial | intro hc | refine And.intro ?_ ?_)<;>refine Lf.mk ?_)
  ·rw [if_pos hc] at hL
   subst hL
   exact zd (VS.mk (LeD.tup (.cons (LeD.agg (.cons (.nil 1) (.cons (.nil 2) (.cons (.nil 4) .nil)))) (LeL.refl _))))
  have hfe:fe=0:=hc
  rw [if_neg (fun h=>h hc)] at hL
  have hTl:∀ p∈shut,p.length≤9000:=hok2.shl
  have hsz:∀ x∈items,w7 shut x:=fun x hx=>by
   have:=hok2.its x hx
   exact ⟨this.al,this.da,this.po,fun p hp=>by have:=hTl p hp;omega⟩
  have hil:items.length≤9001:=by have:=hroom2.items;dsimp only at this;omega
  have hml:marks.length≤9001:=by have:=hroom2.marks;dsimp only at this;omega
  have hlay:zbh shut marks ⟨items,syms⟩:=⟨hsz,by show items.length≤_;omega,hok2.len,by omega,hok2.pos⟩
  have hW:=zkQ (pools:=shut) (marks:=marks) (vt items+1) ⟨items,syms⟩ (Nat.lt_succ_self _) hsz
  have hW:zAo shut ⟨items,syms⟩ (yV shut marks ⟨items,syms⟩):=hW
  refine xW (ze _ ?_)
  (all_goals refine qgp (Lf.mk ?_))
  refine xF zrn [T4,T5] (⟨items,syms⟩,marks,shut,cur,fe,fa,q) hlay rfl (LeL.refl _) rfl (.cons (.loc (Nat.lt_of_lt_of_le (by decide:0 < 6) (Nat.le_of_eq rfl))) .nil) .int (xt _ _) (xt _ _) ?_
  dsimp only
  generalize yV shut marks ⟨items,syms⟩=W at *
  obtain ⟨⟨its,sys⟩,n⟩:=W
  dsimp only at hL ⊢
  (all_goals refine qgp ?_<;>(repeat' first | exact trivial | intro hc | refine And.intro ?_ ?_)<;>refine Lf.mk ?_)
  ·rw [if_pos hc] at hL
   subst hL
   exact zd (VS.mk (LeD.tup (.cons (LeD.agg (.cons (.nil 1) (.cons (.nil 2) (.cons (.nil 4) .nil)))) (LeL.refl _))))
  rw [if_neg hc] at hL
  have hlen:its.length=items.length:=hW.sim.len
  have hsl:sys.length=syms.length:=hW.syms
  have hsyl:syms.length≤9001:=by have:=hok2.len;dsimp only at this;omega
  have hin:∀ y∈its,zpO ⟨its,sys,marks,shut,false,cur,fe,fa⟩ y:=fun y hy=>by
   obtain ⟨x,hx,hs⟩:=hW.sim.from_ y hy
   have hi:=hok2.its x hx
   have ha:=hW.at_ y hy
   refine ⟨zvE hs (hsz x hx),ha.1,by omega,?_,fun h6=>?_⟩
   ·rw [hs.idx];have:=hi.ix;omega
   ·have hl:=hi.li (by rw [← hs.kind];exact h6)
    have h0:zlP false=0:=rfl
    rw [h0] at hl
    dsimp only at hl
    obtain ⟨z,hz,hz9,hzp⟩:=hok2.put x.pool.toNat (by dsimp only;omega)
    obtain ⟨u,hu,hzu⟩:=hW.sim.to_ z hz
    refine zpS _ _ _ ⟨u,hu,?_⟩
    rw [hzu.kind,hz9,hzu.pool,hzp,hs.pool,Int.toNat_of_nonneg hl.1]
    simp
  have hgrow:∀ (o:Out),∀ y∈its,(jd shut its sys o y).code.length≤o.code.length+44100∧(jd shut its sys o y).rels.length≤o.rels.length+9000:=fun o y hy=>by
   have ha:=hW.at_ y hy
   exact zvF (hin y hy).size ha.1 (by omega) hTl
  have hF:qy shut its sys ⟨[],[],fe,fa⟩=its.foldl (fun o x=>if o.fe=0 then jd shut its sys o x else o) ⟨[],[],fe,fa⟩:=rfl
  generalize qy shut its sys ⟨[],[],fe,fa⟩=F at *
  refine zbA (α:=Unit) (fun _=>True) (fun _=>[(4,.loc 7 0),(5,.loc 8 0),(6,.loc 0 0)]) (fun _=>eO q ⟨its,sys,marks,shut,false,cur,fe,fa⟩ F++[T4,T5]) ?_ ?_
  ·refine ze _ ?_
   (all_goals refine qgp (Lf.mk ?_))
   refine yp (α:=Nat×Out) (fun p=>p.1≤its.length∧(its.drop p.1).foldl (fun o x=>if o.fe=0 then jd shut its sys o x else o) p.2=F∧p.2.code.length≤44100 * p.1∧p.2.rels.length≤9000 * p.1)
    (fun p=>[(4,.loc 7 0),(5,.loc 8 0),(6,.loc 0 0),(49,.int .i64 its.length),(50,.int .i64 p.1)]) (fun p=>eO q ⟨its,sys,marks,shut,false,cur,fe,fa⟩ p.2++[T4,T5]) (fun p=>its.length - p.1) (fun _=>by rw [hE0];exact Nat.zero_le _) (0,⟨[],[],fe,fa⟩)
    ⟨Nat.zero_le _,hF.symm,Nat.le_refl _,Nat.le_refl _⟩ ?_ ?_
   ·rw [hE0]
    exact zxl q its sys marks shut cur fe fa ⟨.loc rfl,.loc rfl,.loc rfl,.flat .int,.flat .int,trivial⟩
   rintro ⟨k,o⟩ ⟨j1,j2,j3,j4⟩
   dsimp only at j1 j2 j3 j4 ⊢
   refine ze _ ?_
   (all_goals refine qgp ?_<;>(repeat' first | exact trivial | intro hc | refine And.intro ?_ ?_)<;>refine Lf.mk ?_)
   ·obtain ⟨x,hx⟩:=zP (l:=its) (k:=k) (by omega)
    have hkl:k < its.length:=by omega
    have hgx:its[k]=x:=by rw [List.getElem?_eq_getElem hkl] at hx;exact Option.some.inj hx
    rw [List.drop_eq_getElem_cons hkl,hgx,zhx,if_pos (by assumption)] at j2
    obtain ⟨g1,g2⟩:=hgrow o x (List.mem_of_getElem? hx)
    refine xF zrq [T4,T5] (⟨its,sys,marks,shut,false,cur,fe,fa⟩,o,k,x,q) ⟨rfl,hx,hin,by show its.length≤_;omega,by show sys.length≤_;omega,by show o.code.length≤_;omega,by show o.rels.length≤_;omega⟩ rfl
     (LeL.of_eq (by show [D.loc 0 0,.aloc 1 its.length (0+((k:Nat):Int).toNat) 0]=_;rw [Nat.zero_add,Int.toNat_natCast])) rfl
     (.cons (.loc (Nat.lt_of_lt_of_le (by decide:0 < 7) (Nat.le_of_eq rfl))) (.cons (.aloc (Nat.lt_of_lt_of_le (by decide:1 < 7) (Nat.le_of_eq rfl))) .nil)) .tup0 (vy _ _ _) (vy _ _ _) ?_
    have hem:emB ⟨its,sys,marks,shut,false,cur,fe,fa⟩ o x=jd shut its sys o x:=rfl
    dsimp only
    rw [hem]
    generalize jd shut its sys o x=o2 at *
    (all_goals refine qgp (Lf.mk ?_))
    exact yj (k+1,o2) ⟨by show k+1≤_;omega,j2,by dsimp only;omega,by dsimp only;omega⟩ (by dsimp only;omega) rfl ⟨rfl,rfl,rfl,rfl,rfl,trivial⟩
   ·have hkl:k < its.length:=by omega
    rw [List.drop_eq_getElem_cons hkl,zhx,if_neg hc] at j2
    exact yj (k+1,o) ⟨by show k+1≤_;omega,j2,by dsimp only;omega,by dsimp only;omega⟩ (by dsimp only;omega) rfl ⟨rfl,rfl,rfl,rfl,rfl,trivial⟩
   ·have hk:k=its.length:=by omega
    rw [hk,List.drop_length] at j2
    have j2:o=F:=j2
    subst j2
    exact ⟨(),trivial,yf rfl ⟨rfl,rfl,rfl,trivial⟩⟩
  ·rintro _ _
   refine ze _ ?_
   (all_goals refine qgp ?_<;>(repeat' first | exact trivial | intro hc | refine And.intro ?_ ?_)<;>refine Lf.mk ?_)
   ·rw [if_pos hc] at hL
    subst hL
    exact zd (VS.mk (LeD.tup (.cons (LeD.agg (.cons (.nil 1) (.cons (.nil 2) (.cons (.nil 4) .nil)))) (LeL.refl _))))
   ·rw [if_neg (fun h=>h hc)] at hL
    subst hL
    refine vO (k:=2) (e:=2) (els:=sys.map yH) (els':=sys.map yH) (r1:=.tup [.agg [.sl 1 (F.code.map zC) (some 6),.sl 2 (sys.map yH) (some 9),.sl 4 (F.rels.map jx) (some 5)],.agg [.int .i64 0,.int .i64 0]]) rfl (Nat.zero_le 2) (ztQ sys) ?_ ?_ (Nat.zero_le _)
    ·refine .tup _ _ rfl fun i d d' h1 h2=>?_
     match i,h1,h2 with
     | 0,h1,h2=>
      cases h1
      cases h2
      refine .agg _ _ rfl fun j c c' g1 g2=>?_
      match j,g1,g2 with
      | 0,g1,g2=>cases g1;cases g2;exact .keep _
      | 1,g1,g2=>cases g1;cases g2;exact .here _ _ (by simp) (by simp)
      | 2,g1,g2=>cases g1;cases g2;exact .keep _
      | j+3,g1,g2=>cases g1
     | 1,h1,h2=>cases h1;cases h2;exact .keep _
     | i+2,h1,h2=>cases h1
    ·exact zd (VS.mk (LeD.tup (.cons (LeD.agg (.cons (.strip _ _ _) (.cons (.strip _ _ _) (.cons (.strip _ _ _) .nil)))) (LeL.refl _))))
end Go.Proofs.YtnkdeacghopkiaaGreatDoor
namespace Go.Proofs.YtnkdeacghopkiaaGreatDoor
open Go Go.Plat
set_option linter.unusedVariables false
set_option linter.unusedSimpArgs false
set_option maxRecDepth 100000
set_option maxHeartbeats 2000000
attribute [local irreducible] AWP zG yn zK zn yA z8 zI zY z6 zw za zN yB zt z7 yx yy yq yt zx zz zD xX yY yw yI zL vS we jv wo wd wJ okC puF puR wa zU wk
theorem zvG {α:Type} {l:List α} {k:Nat} {x:α} (h:l[k]?=some x):l.take (k+1)=l.take k++[x]:=by
 have hk:=(List.getElem?_eq_some_iff.1 h).1
 rw [List.take_succ_eq_append_getElem hk]
 congr 2
 rw [List.getElem?_eq_getElem hk] at h
 exact Option.some.inj h
theorem ztR:za Tryz.prog zte (zy (fun l:List xr=>l.length≤1000000000∧∀ x∈l,x.toks.length≤1000000000) (fun l=>[.sl 2 (l.map ww) none]) fun l=>.sl 2 (l.map ww) none):=by
 refine zf zh Tryz.func112 rfl (by decide) ?_
 rintro l ⟨hl,ht⟩
 refine ⟨Nat.le_refl _,by simp [Tryz.f112],fun E hE=>?_⟩
 refine ze _ ?_
 (all_goals refine qgp (Lf.mk ?_))
 refine x8 (qV 3 2 rfl) ?_
 refine yc (α:=Nat) (fun k=>k≤l.length)
  (fun k=>[(3,.sl 2 ((l.take k).map ww) (some 0)),(6,.sl 2 (l.map ww) none),(7,.int .i64 l.length),(8,.int .i64 k)])
  (fun k=>[.spare (l.take k).length]) (fun k=>l.length - k) (fun _=>by simp [hE]) 0 (Nat.zero_le _) ?_ ?_
 ·(repeat' (first | (refine VS.mk ?_) | exact trivial | exact rfl | refine And.intro ?_ ?_))
 intro k hk
 have hkl:(l.take k).length=k:=by rw [List.length_take];omega
 refine ze _ ?_
 (all_goals refine qgp ?_<;>(repeat' first | exact trivial | intro hc | refine And.intro ?_ ?_)<;>refine Lf.mk ?_)
 ·obtain ⟨x,hx⟩:∃ x,l[k]?=some x:=⟨_,List.getElem?_eq_getElem (by omega)⟩
  have hS:=zvG hx
  have hkl1:(l.take (k+1)).length=k+1:=by rw [List.length_take];omega
  have hxt:=ht x (List.mem_of_getElem? hx)
  refine zl x (by omega) (by simpa using hx) ?_
  (all_goals refine qgp (Lf.mk ?_))
  refine zF (k+1) (by omega) (by omega) ?_
  (repeat' (first | (refine VS.mk ?_) | exact trivial | exact rfl | refine And.intro ?_ ?_))
  ·rw [hkl1,List.length_append,List.length_map,hkl];rfl
  ·rw [hS,List.map_append,List.map_cons,List.map_nil];rfl
 ·have e:l.take k=l:=List.take_of_length_le (by omega)
  rw [e]
  exact zd (VS.mk (LeD.of_eq rfl))
end Go.Proofs.YtnkdeacghopkiaaGreatDoor
namespace Go.Proofs.YtnkdeacghopkiaaGreatDoor
open Go Go.Plat
set_option linter.unusedVariables false
set_option linter.unusedSimpArgs false
set_option maxRecDepth 100000
set_option maxHeartbeats 2000000
attribute [local irreducible] AWP zG yn zK zn yA z8 zI zY Lib.itoa z6 zw za zN yB zt z7 zi.kids zi.kind zi.n zi.name yx yy yq yt zx zz xL vg zD jB qY xD xy vV x4 wY xE wi wl xv yO kP yM xe wg yv vo zg xM vX zV yk vW wM xf
def zdf (x:xr):List UInt8:=match x.toks with
 | t::_=>if t.kind=1 then t.text else []
 | []=>[]
theorem zrt:za Tryz.prog zoS (zy (fun x:xr=>x.toks.length≤1000000000) (fun x=>[ww x]) fun x=>.str (zdf x)):=by
 refine zf zh Tryz.func107 rfl (by decide) ?_
 rintro ⟨pos,toks⟩ hl
 have hl:toks.length≤1000000000:=hl
 refine ⟨Nat.le_refl _,by simp [Tryz.f107],fun E hE=>?_⟩
 cases toks with
 | nil=>
  refine ze _ ?_
  (all_goals refine qgp ?_<;>(repeat' first | exact trivial | intro hc | refine And.intro ?_ ?_)<;>refine Lf.mk ?_)
  exact zd (VS.mk (LeD.refl _))
 | cons t r=>
  have hl:r.length+1≤1000000000:=hl
  refine ze _ ?_
  (all_goals refine qgp ?_<;>(repeat' first | exact trivial | intro hc | refine And.intro ?_ ?_)<;>refine Lf.mk ?_)
  all_goals refine zd (VS.mk (LeD.of_eq (congrArg D.str ?_)))
  ·unfold zdf;dsimp only;rw [if_neg hc]
  ·unfold zdf;dsimp only;rw [if_pos hc]
def mC (out:List xr) (looked fe fa:Int):List D:=[.nilsl,.nilsl,.sl 2 (out.map ww) (some 1),.int .i64 looked,.int .i64 fe,.int .i64 fa]
def mO (out:List xr) (looked fe fa:Int):List Ob:=[.cells (mC out looked fe fa),.spare out.length]
theorem zkR (out:List xr) (looked fe fa:Int):∀ x∈mO out looked fe fa,ClO 2 x:=by
 intro x hx
 simp only [mO,List.mem_cons,List.not_mem_nil,or_false] at hx
 rcases hx with rfl | rfl
 ·exact .cells (.cons .nilsl (.cons .nilsl (.cons (.tok (by decide)) (.cons .int (.cons .int (.cons .int .nil))))))
 ·exact .spare
theorem zru:za Tryz.prog zhb (zQ (fun _:List xr×Int×Int×Int×List UInt8=>True) (fun (_,_,_,_,name)=>[.loc 0 0,.str name]) (fun (out,looked,fe,fa,_)=>mO out looked fe fa) (fun _=>.int .i64 (-1)) fun (out,looked,fe,fa,_)=>mO out looked fe fa):=by
 refine zf zh Tryz.func110 rfl (by decide) ?_
 rintro ⟨out,looked,fe,fa,name⟩ _
 refine ⟨Nat.le_refl _,by simp [Tryz.f110],fun E hE=>?_⟩
 refine ze _ ?_
 (all_goals refine qgp (Lf.mk ?_))
 refine xP zh Tryz.func145 rfl (by decide) (.int .i64 (-1)) (mO out looked fe fa++[.cells [.str name]]) (Nat.le_refl _) (by simp [Tryz.f145]) (fun E' hE'=>?_) ?_
 ·refine ze _ ?_
  (all_goals refine qgp (Lf.mk ?_))
  refine zfL (ze _ ?_)
  (all_goals refine qgp ?_<;>(repeat' first | exact trivial | intro hc | refine And.intro ?_ ?_)<;>refine Lf.mk ?_)
  exact yQ rfl rfl
 ·(all_goals refine qgp (Lf.mk ?_))
  exact xq (mO out looked fe fa) [_] rfl (Nat.le_refl _) .int (zkR _ _ _ _)
def zdV (h:List UInt8):Prop:=h≠[46,109,97,99,114,111]∧h≠[46,114,101,112,116]∧h≠[46,105,102]∧h≠[46,101,110,100,109]∧h≠[46,101,110,100,114]∧h≠[46,101,110,100,105,102]∧h≠[46,101,108,115,101]∧h≠[46,101,113,117]
instance (h:List UInt8):Decidable (zdV h):=by unfold zdV;infer_instance
theorem zpT:za Tryz.prog zgu (zQ (fun ((l,out,looked,deep):List xr×List xr×Int×Int)=>0≤deep∧deep≤6∧out.length+l.length≤200∧0≤looked∧looked+(l.length:Int)≤4000∧∀ x∈l,zdV (zdf x)∧x.toks.length≤1000000000)
  (fun (l,_,_,deep)=>[.loc 0 0,.sl 2 (l.map ww) none,.int .i64 deep]) (fun (_,out,looked,_)=>mO out looked 0 0) (fun _=>.tup []) fun (l,out,looked,_)=>mO (out++l) (looked+(l.length:Int)) 0 0):=by
 refine zf zh Tryz.func86 rfl (by decide) ?_
 rintro ⟨l,out,looked,deep⟩ ⟨hd0,hd1,hol,hk0,hk1,hl⟩
 have hd1:deep≤6:=hd1
 have hol:out.length+l.length≤200:=hol
 have hk0:0≤looked:=hk0
 have hk1:looked+(l.length:Int)≤4000:=hk1
 have hl:∀ x∈l,zdV (zdf x)∧x.toks.length≤1000000000:=hl
 refine ⟨Nat.le_refl _,by simp [Tryz.f86],fun E hE=>?_⟩
 have hE2:E.L.length=2:=by rw [hE];rfl
 refine ze _ ?_
 (all_goals refine qgp ?_<;>(repeat' first | exact trivial | intro hc | refine And.intro ?_ ?_)<;>refine Lf.mk ?_)
 refine yp (α:=Nat) (fun k=>k≤l.length) (fun k=>[(0,.loc 0 0),(1,.sl 2 (l.map ww) none),(2,.int .i64 deep),(7,.int .i64 k)]) (fun k=>mO (out++l.take k) (looked+(k:Int)) 0 0) (fun k=>l.length - k) (fun _=>by rw [hE2];exact Nat.le_refl 2) 0 (Nat.zero_le _) ?_ ?_
 ·exact yf (by simp) ⟨rfl,rfl,rfl,rfl,trivial⟩
 intro k hk
 have hk:k≤l.length:=hk
 refine ze _ ?_
 (all_goals refine qgp ?_<;>(repeat' first | exact trivial | intro hc | refine And.intro ?_ ?_)<;>refine Lf.mk ?_)
 ·obtain ⟨x,hx⟩:=zP (l:=l) (k:=k) (by omega)
  have hkl:k < l.length:=by omega
  have hgx:l[k]=x:=by rw [List.getElem?_eq_getElem hkl] at hx;exact Option.some.inj hx
  obtain ⟨hp,hxl⟩:=hl x (List.mem_of_getElem? hx)
  have hxk:l[((k:Nat):Int).toNat]?=some x:=by rw [Int.toNat_natCast];exact hx
  refine zl x (Int.natCast_nonneg k) hxk ?_
  (all_goals refine qgp (Lf.mk ?_))
  refine zb zrt x hxl (VS.mk (LeL.of_eq rfl)) ?_
  obtain ⟨p1,p2,p3,p4,p5,p6,p7,p8⟩:=hp
  (all_goals refine qgp ?_<;>(repeat' first | exact trivial | intro hc | refine And.intro ?_ ?_)<;>refine Lf.mk ?_)
  all_goals first
   | (exfalso;exact p1 (by assumption))
   | (exfalso;exact p2 (by assumption))
   | (exfalso;exact p3 (by assumption))
   | (exfalso;exact p4 (by assumption))
   | (exfalso;exact p5 (by assumption))
   | (exfalso;exact p6 (by assumption))
   | (exfalso;exact p7 (by assumption))
   | (exfalso;exact p8 (by assumption))
   | skip
  have hok:(out++l.take k).length=out.length+k:=by rw [List.length_append,List.length_take];omega
  refine xF zru [] (out++l.take k,looked+(k:Int)+1,0,0,zdf x) trivial rfl (LeL.refl _) rfl (.cons (.loc (Nat.lt_of_lt_of_le (by decide:0 < 2) (Nat.le_of_eq rfl))) (.cons .str .nil)) .int (zkR _ _ _ _) (zkR _ _ _ _) ?_
  have htk:(l.take (k+1)).drop k=[x]:=by
   rw [List.take_succ_eq_append_getElem hkl,List.drop_left' (by rw [List.length_take];omega),hgx]
  have htk2:out++l.take (k+1)=(out++l.take k)++[x]:=by rw [List.take_succ_eq_append_getElem hkl,hgx,List.append_assoc]
  generalize out++l.take k=ok at *
  (all_goals refine qgk ?_<;>(repeat' first | exact trivial | intro hc | refine And.intro ?_ ?_)<;>refine Lf.mk ?_)
  ·exact absurd hc (by decide)
  ·exfalso;omega
  refine zb ztR [x] ⟨by simp,fun y hy=>by rw [List.mem_singleton] at hy;subst hy;exact hxl⟩ (VS.mk (LeL.of_eq (by rw [Int.toNat_natCast,show (((k:Nat):Int)+1).toNat=k+1 by omega,htk]))) ?_
  (all_goals refine qgk (Lf.mk ?_))
  exact yj (k+1) (by show k+1≤_;omega) (by omega) (by dsimp only;rw [htk2,show looked+(((k+1:Nat)):Int)=looked+(k:Int)+1 by omega];rfl) ⟨rfl,rfl,rfl,rfl,trivial⟩
 ·exact absurd trivial hc
 ·have hk2:k=l.length:=by omega
  rw [hk2,List.take_length]
  exact yQ rfl rfl
def zvH (l:List xr):Prop:=l.length≤200∧∀ x∈l,zdV (zdf x)∧x.toks.length≤1000000000
theorem zpU:za Tryz.prog zlA (zy (fun l:List xr=>zvH l) (fun l=>[.sl 2 (l.map ww) none]) fun l=>.tup [.sl 2 (l.map ww) none,.sl 2 [] none,.agg [.int .i64 0,.int .i64 0]]):=by
 refine zf zh Tryz.func66 rfl (by decide) ?_
 rintro l ⟨hl,hp⟩
 refine ⟨Nat.le_refl _,by simp [Tryz.f66],fun E hE=>?_⟩
 have hE0:E.L.length=0:=by rw [hE];rfl
 refine xW (ze _ ?_)
 (all_goals refine qgp (Lf.mk ?_))
 refine xW (ze _ ?_)
 (all_goals refine qgp (Lf.mk ?_))
 refine x8 (σ':=[(0,.sl 2 (l.map ww) none),(4,.loc 2 0),(5,.loc 0 0)]) (L':=mO [] 0 0 0++[T5]) ?_ ?_
 ·rw [hE0]
  refine xK (wW 1 2 [.nilsl,.nilsl,.sl 2 [] (some 2),.int .i64 0,.int .i64 0,.int .i64 0] rfl ⟨.same,.same,.here,.same,.same,.same,trivial⟩) ?_
  refine vQ [1,2,0] rfl rfl ?_ ⟨.flat .sl,.loc rfl,.loc rfl,trivial⟩
  exact .cons (o:=.cells [.nilsl,.nilsl,.sl 2 [] (some 2),.int .i64 0,.int .i64 0,.int .i64 0]) rfl ⟨_,rfl,.cons (.flat .nilsl) (.cons (.flat .nilsl) (.cons (.tok rfl) (.cons (.flat .int) (.cons (.flat .int) (.cons (.flat .int) .nil)))))⟩
   (.cons (o:=.spare 0) rfl rfl (.cons (o:=T5) rfl ⟨_,rfl,.cons (.flat .int) (.cons (.flat .int) .nil)⟩ .nil))
 refine ze _ ?_
 (all_goals refine qgp (Lf.mk ?_))
 refine xF zpT [T5] (l,[],0,0) ⟨by decide,by decide,by simpa using hl,by decide,by show 0+(l.length:Int)≤4000;omega,hp⟩ rfl (LeL.refl _) rfl (.cons (.loc (Nat.lt_of_lt_of_le (by decide:0 < 2) (Nat.le_of_eq rfl))) (.cons .sl (.cons .int .nil))) .tup0 (zkR _ _ _ _) (zkR _ _ _ _) ?_
 dsimp only
 rw [List.nil_append]
 (all_goals refine qgp ?_<;>(repeat' first | exact trivial | intro hc | refine And.intro ?_ ?_)<;>refine Lf.mk ?_)
 ·exact absurd trivial hc
 ·exact zd (VS.mk (LeD.tup (.cons (.strip _ _ _) (.cons (.nil 2) (LeL.refl _)))))
end Go.Proofs.YtnkdeacghopkiaaGreatDoor
namespace Go.Proofs.YtnkdeacghopkiaaGreatDoor
open Go Go.Plat
set_option linter.unusedVariables false
set_option linter.unusedSimpArgs false
set_option maxRecDepth 100000
set_option maxHeartbeats 2000000
attribute [local irreducible] AWP zG yn zK zn yA z8 zI zY z6 zw za zN yB zt z7 yx yy yq yt zx zz zD xX yY yw yI zL vS we jv wo wd wJ okC puF puR wa zU wk
end Go.Proofs.YtnkdeacghopkiaaGreatDoor
namespace Go.Proofs.YtnkdeacghopkiaaGreatDoor
open Go Go.Plat
set_option linter.unusedVariables false
set_option linter.unusedSimpArgs false
set_option maxRecDepth 100000
set_option maxHeartbeats 2000000
attribute [local irreducible] AWP zG yn zK zn yA z8 zI zY Lib.itoa z6 zw za zN yB zt z7 zi.kids zi.kind zi.n zi.name yx yy yq yt zx zz xL vg zD jB qY xD xy vV x4 wY xE wi wl xv yO kP yM xe wg yv vo zg xM vX zV yk vW wM xf
def xu (b:List UInt8):yz×Int×Int:=if (xv b).2.1≠0 then (noO,(xv b).2.1,(xv b).2.2) else jB [] (xv b).1
structure zhy (b:List UInt8):Prop where
 len:b.length≤1000000000
 plain:zvH (xv b).1
 tot:zbK (xv b).1≤9000
 wts:∀ x∈(xv b).1,wt (x.toks.map tk)≤1048576
theorem zkS:za Tryz.prog zkp (zy zhy (fun b=>[.sl 1 (b.map zC) none]) fun b=>.tup [vl (xu b).1,.agg [.int .i64 (xu b).2.1,.int .i64 (xu b).2.2]]):=by
 refine zf zh Tryz.func39 rfl (by decide) ?_
 rintro b ⟨h1,h2,h3,h4⟩
 refine ⟨Nat.le_refl _,by simp [Tryz.f39],fun E hE=>?_⟩
 have hU:xu b=if (xv b).2.1≠0 then (noO,(xv b).2.1,(xv b).2.2) else jB [] (xv b).1:=rfl
 generalize xu b=U at *
 refine ze _ ?_
 (all_goals refine qgp (Lf.mk ?_))
 refine zb zjk b h1 (VS.mk (LeL.of_eq rfl)) ?_
 have hD:zuT (xv b)= .tup [.sl 2 ((xv b).1.map ww) none,.agg [.int .i64 (xv b).2.1,.int .i64 (xv b).2.2]]:=rfl
 rw [hD]
 generalize xv b=W at *
 obtain ⟨l,e,a⟩:=W
 dsimp only at h2 h3 h4 hU ⊢
 (all_goals refine qgp ?_<;>(repeat' first | exact trivial | intro hc | refine And.intro ?_ ?_)<;>refine Lf.mk ?_)
 ·rw [if_pos hc] at hU
  subst hU
  exact zd (VS.mk (LeD.tup (.cons (LeD.agg (.cons (.nil 1) (.cons (.nil 2) (.cons (.nil 4) .nil)))) (LeL.refl _))))
 rw [if_neg (fun h=>h hc)] at hU
 refine zb zpU l h2 (VS.mk (LeL.of_eq rfl)) ?_
 (all_goals refine qgp ?_<;>(repeat' first | exact trivial | intro hc | refine And.intro ?_ ?_)<;>refine Lf.mk ?_)
 ·exact absurd trivial hc
 refine zb zrs (l,[]) ⟨h3,h4,by decide,by have:=h2.1;show l.length≤_;omega⟩ (VS.mk (LeL.of_eq rfl)) ?_
 dsimp only
 rw [← hU]
 (all_goals refine qgp (Lf.mk ?_))
 exact zd (VS.mk (LeD.refl _))
end Go.Proofs.YtnkdeacghopkiaaGreatDoor
namespace Go.Proofs.YtnkdeacghopkiaaGreatDoor
open Go Go.Plat Go.RowKit Go.Lib Go.Sort Go.Shelf
def zgc:Value:=.slice none 0 0
theorem zvI:Tryz.f22.ntmps=33:=by simp [Tryz.f22]
set_option maxHeartbeats 4000000 in
set_option maxRecDepth 1000000 in
theorem zvJ (blk off cap i j:Nat) (d:Array Value) (w:World) (h1:∀ u∈d.toList,u.oneCell'=true) (hH:Holds id w blk off d) (hcap:d.size≤cap) (hji:j=i+1) (hj:j≤d.size) :
  Calls Tryz.prog jb #[.slice (some ⟨blk,off,none⟩) d.size cap,.int .i64 i,.int .i64 j] w fun e w'=>e= .returned (.slice (some ⟨blk,off,none⟩) (d.size - 1) cap)∧w'=(w.drew.setCells blk (off+i) (d.toList.drop j)).setCells blk (off+(d.size - 1)) [zgc]:=by
 have mixed:Tryz.prog.follows .mixedOrders=true:=by kernel_rfl
 have t3:=Tryz.underlying3;have a3:=Tryz.isAgg3;have z3:=Tryz.sizeOf3;have v3:=Tryz.zeroValue3
 have t4:=Tryz.underlying4;have a4:=Tryz.isAgg4;have z4:=Tryz.sizeOf4;have v4:=Tryz.zeroValue4
 have t9:=Tryz.underlying36;have a9:=Tryz.isAgg36;have z9:=Tryz.sizeOf36;have v9:=Tryz.zeroValue36
 have t24:=Tryz.underlying22;have a24:=Tryz.isAgg22;have z24:=Tryz.sizeOf22;have v24:=Tryz.zeroValue22
 obtain ⟨i0,hi0,hz0,hz1,hz2⟩:=info_parts (P:=Tryz.prog) (e:=36) (z:=zgc) (size:=1) (bytes:=24) (by kernel_rfl)
 obtain ⟨news,hnews⟩:∃ news,news=d.toList.drop j:=⟨_,rfl⟩
 have hlen:news.length=d.size - j:=by rw [hnews];simp
 have hget:∀ t,t < d.size - j→news[t]?=some (d[j+t]!):=by
  intro t ht
  rw [hnews,List.getElem?_drop,Array.getElem?_toList,getElem!_pos d (j+t) (by omega),Array.getElem?_eq_getElem (by omega)]
 obtain ⟨A,hA,hsrc⟩:∃ A:Addr,(if cap=j then some (⟨blk,off,none⟩:Addr) else some ⟨blk,off+j,none⟩)=some A∧Hid (∀ t u,news[t]?=some u→w.drew.cell? (A.add t)=some u):=by
  by_cases h:cap=j
  ·refine ⟨⟨blk,off,none⟩,by simp [h],fun t u hu=>?_⟩
   have h0:news.length=0:=by rw [hlen];omega
   rw [List.length_eq_zero_iff.1 h0] at hu
   simp at hu
  ·refine ⟨⟨blk,off+j,none⟩,by simp [h],fun t u hu=>?_⟩
   have ht:t < d.size - j:=by
    have:=(List.getElem?_eq_some_iff.1 hu).1
    rwa [hlen] at this
   rw [hget t ht] at hu
   rw [Addr.add_lit,show off+j+t=off+(j+t) by omega]
   exact (hH (j+t) (by omega)).1.trans hu
 have s1:Hid (news.length=(d.size - j) * 1):=by rw [Nat.mul_one];exact hlen
 have s2:Hid (∀ u∈news,u.oneCell'=true):=by
  intro u hu
  rw [hnews] at hu
  exact h1 u (List.mem_of_mem_drop hu)
 have s3:Hid (∀ t,t < news.length→(w.drew.cell? ⟨blk,off+i * 1+t,none⟩).isSome=true∧w.drew.frozen? ⟨blk,off+i * 1+t,none⟩=false):=by
  intro t ht
  rw [hlen] at ht
  rw [Nat.mul_one,Nat.add_assoc]
  exact ⟨by show (w.cell? _).isSome=true;rw [(hH (i+t) (by omega)).1];rfl,(hH (i+t) (by omega)).2⟩
 obtain ⟨W1,hW1⟩:∃ W1,W1=w.drew.setCells blk (off+i * 1) news:=⟨_,rfl⟩
 have hW1':W1=putRow id (Sort.ahead w 1) blk off (lay d i (d.toList.drop j)):=by
  have hp:=putRow_setCells id (Sort.ahead w 1) blk off (d.toList.drop j) d i (by simp;omega)
  rw [List.map_id] at hp
  rw [hW1,hnews,Nat.mul_one,← hp,putRow_self id (Sort.ahead w 1) blk off d (holds_ahead id w 1 blk off d hH)]
  rfl
 have hH1:Holds id W1 blk off (lay d i (d.toList.drop j)):=by rw [hW1'];exact holds_putRow id _ blk off d _ (holds_ahead id w 1 blk off d hH) (lay_size _ _ _)
 have hcl:∀ ty,(Builtin.clear_ #[22] ty #[.slice (some ⟨blk,off+(i+(d.size - j)),none⟩) (d.size - (i+(d.size - j))) (cap - (i+(d.size - j)))]).run Tryz.prog W1= .ok (.tuple #[]) (W1.setCells blk (off+(i+(d.size - j))) (List.replicate (d.size - (i+(d.size - j))) zgc)):=
  fun ty=>Lib.run_clear_slice W1 _ _ ty _ t24 v9 rfl rfl blk (off+(i+(d.size - j))) _ _ (by omega) (fun t ht=>by rw [show off+(i+(d.size - j))+t=off+(i+(d.size - j)+t) by omega,(hH1 _ (by rw [lay_size];omega)).1];rfl) (fun t ht=>by rw [show off+(i+(d.size - j))+t=off+(i+(d.size - j)+t) by omega];exact (hH1 _ (by rw [lay_size];omega)).2)
 have X:Aside (W1=putRow id (Sort.ahead w 1) blk off (lay d i (d.toList.drop j))):=hW1'
 have hW:Hid (W1=w.drew.setCells blk (off+i * 1) news):=hW1
 have hlt:i < j:=by omega
 have hic:i≤cap:=by omega
 have hjc:j≤cap:=by omega
 have s0:Hid (news=d.toList.drop j):=hnews
 have hone:Hid (j=i+1):=hji
 clear hW1 hW1' hH1 hH hget hnews hlen hji
 go_enter Tryz.func22,zvI
 go_wp2_with fail
 go_region_law_o (refine step_append_room rfl (.tmp 22) (.tmp 25) 22 rfl 36 i0 1 t24 hi0 hz1 blk off i cap (by simp [Act.eval,Act.put]) A (d.size - j) (cap - j) news (by simp [Act.eval,Act.put]) s1.out hsrc.out s2.out (by omega) s3.out ?_;rw [← hW.out])
 go_wp2
 go_ret
 have hji:=hone.out
 refine ⟨by rw [show d.size - 1=i+(d.size - j) by omega];rfl,?_⟩
 show W1.setCells blk (off+(i+(d.size - j))) (List.replicate (d.size - (i+(d.size - j))) zgc)=_
 rw [hW.out,s0.out,Nat.mul_one,show d.size - (i+(d.size - j))=1 by omega,show i+(d.size - j)=d.size - 1 by omega]
 rfl
end Go.Proofs.YtnkdeacghopkiaaGreatDoor
namespace Go.Proofs.YtnkdeacghopkiaaGreatDoor
open Go Go.Plat
set_option linter.unusedVariables false
set_option linter.unusedSimpArgs false
set_option maxRecDepth 100000
set_option maxHeartbeats 2000000
attribute [local irreducible] AWP zG yn zK zn yA z8 zI zY z6 zw za zN yB zt z7 yx yy yq yt zx zz zD
theorem zBj {α:Type} {l:List α} (h:l.length=3):∃ a b c,l=[a,b,c]:=by
 match l,h with
 | [a,b,c],_=>exact ⟨a,b,c,rfl⟩
theorem zvK {w:World} {F:Nat→Nat→Prop} {e:Nat} {ds:List D} {v:Value} (h:zJ w F (.sl e ds none) v):v.oneCell'=true:=by cases h<;>rfl
theorem ztS {ds:List D} {i:Nat} (hi:i < ds.length):wU (wU ds i (ds.drop (i+1))) (ds.length - 1) [.nilsl]=ds.eraseIdx i++[.nilsl]:=by
 apply List.ext_getElem?
 intro j
 have h1:i+(ds.drop (i+1)).length≤ds.length:=by rw [List.length_drop];omega
 rw [zbS (by rw [zbR h1];show ds.length - 1+1≤_;omega)]
 have he:(ds.eraseIdx i).length=ds.length - 1:=by rw [List.length_eraseIdx,if_pos hi]
 show (if ds.length - 1≤j∧j < ds.length - 1+1 then _ else _)=_
 split
 ·rename_i h
  rw [List.getElem?_append_right (by omega),he]
 ·rename_i h
  rw [zbS h1,List.length_drop]
  by_cases hj:j < ds.length - 1
  ·rw [List.getElem?_append_left (by omega),List.getElem?_eraseIdx]
   by_cases hji:j < i
   ·rw [if_neg (by omega),if_pos hji]
   ·rw [if_pos (by omega),if_neg hji,List.getElem?_drop,show i+1+(j - i)=j+1 by omega]
  ·rw [if_neg (by omega),List.getElem?_eq_none (by omega),List.getElem?_eq_none (by rw [List.length_append,he];show ds.length - 1+1≤j;omega)]
theorem zmK:za Tryz.prog jb (zQ (fun ((way,i):List (List UInt8)×Nat)=>i < way.length) (fun (way,i)=>[.osl 1 0 way.length 0 way.length,.int .i64 i,.int .i64 (i+1:Nat)]) (fun (way,_)=>[.arr 1 (way.map zk)])
  (fun (way,_)=>.osl 1 1 (way.length - 1) 0 (way.length - 1)) fun (way,i)=>[.dead,.arr 1 ((way.eraseIdx i).map zk)]):=by
 unfold za
 refine ⟨⟨_,Tryz.func22,by decide,rfl⟩,?_⟩
 rintro av L d0 L' ⟨⟨way,i⟩,hi,has,rfl,rfl,rfl⟩ w ρ vs hf hr
 have hi:i < way.length:=hi
 have hr:=zcM.le has hr
 obtain ⟨v0,v1,v2,rfl⟩:=zBj hr.1
 obtain ⟨a,cap,rfl,hk,⟨hc1,hc2⟩,hm⟩:=(hr.2 0 _ _ rfl rfl).osl_inv
 obtain rfl:=(hr.2 1 _ _ rfl rfl).int_inv
 obtain rfl:=(hr.2 2 _ _ rfl rfl).int_inv
 obtain ⟨h1,h2,h3,h4⟩:=hf.obj 0 _ rfl
 obtain ⟨-, -,hm⟩:=hm 1 _ rfl
 obtain ⟨m1,m2,m3⟩:=hm (by simp)
 have hml:(way.map zk).length=way.length:=List.length_map _
 have ha:a=some ⟨(ρ 0).block,(ρ 0).off,none⟩:=by
  rcases m1 with h | h | h
  ·omega
  ·have:=hc2 h;omega
  ·simpa using h
 subst ha
 have hcap:cap=(ρ 0).cap:=by omega
 obtain ⟨val,hval⟩:∃ val:Nat→Value,val=fun j=>(w.cell? ⟨(ρ 0).block,(ρ 0).off+j,none⟩).getD zgc:=⟨_,rfl⟩
 have hv:∀ j x,way[j]?=some x→w.cell? ⟨(ρ 0).block,(ρ 0).off+j,none⟩=some (val j)∧zJ w (foot ρ [.arr 1 (way.map zk)]) (zk x) (val j):=fun j x hx=>by
  obtain ⟨u,h5,h6⟩:=h3 j (zk x) 0 (zk x) (by rw [List.getElem?_map,hx];rfl) rfl
  rw [Nat.mul_one,Nat.add_zero] at h5
  have:val j=u:=by rw [hval];dsimp only;rw [h5];rfl
  rw [this]
  exact ⟨h5,h6.sl_inv⟩
 have hsome:∀ j,j < way.length→∃ x,way[j]?=some x:=fun j hj=>⟨_,List.getElem?_eq_getElem hj⟩
 obtain ⟨d,hd⟩:∃ d:Array Value,d=((List.range way.length).map val).toArray:=⟨_,rfl⟩
 have hds:d.size=way.length:=by rw [hd];simp
 have hdl:d.toList=(List.range way.length).map val:=by rw [hd]
 have hdj:∀ j,j < way.length→d[j]! =val j:=fun j hj=>by
  rw [getElem!_pos d j (by omega)]
  simp [hd]
 have hH:Sort.Holds id w (ρ 0).block (ρ 0).off d:=fun j hj=>by
  obtain ⟨x,hx⟩:=hsome j (by omega)
  rw [hdj j (by omega)]
  exact ⟨(hv j x hx).1,(h4 j (by omega)).2.1⟩
 have hone:∀ u∈d.toList,u.oneCell'=true:=fun u hu=>by
  rw [hdl] at hu
  obtain ⟨j,hj,rfl⟩:=List.mem_map.1 hu
  obtain ⟨x,hx⟩:=hsome j (List.mem_range.1 hj)
  exact zvK (hv j x hx).2
 have hcall:=zvJ (ρ 0).block (ρ 0).off cap i (i+1) d w hone hH (by omega) rfl (by omega)
 rw [hds] at hcall
 refine hcall.mono ?_
 rintro e w' ⟨rfl,rfl⟩
 dsimp only
 have hext:Ext F0 w w.drew:=⟨rfl,rfl,rfl,Nat.le_refl _,fun _ _ _=>rfl,fun _ _ _ _=>rfl,fun _ _ _ _ _ h=>h⟩
 have hf1:yE w.drew ρ [.arr 1 (way.map zk)]:=hf.grow hext
 obtain ⟨els1,hels1⟩:∃ els1,els1=wU (way.map zk) i ((way.map zk).drop (i+1)):=⟨_,rfl⟩
 have hle1:i+((way.map zk).drop (i+1)).length≤(way.map zk).length:=by rw [List.length_drop];omega
 have hlen1:els1.length=way.length:=by rw [hels1,zbR hle1,hml]
 have p1:=(zgN hf1 (k:=0) (off:=i) (els:=way.map zk) (ds:=(way.map zk).drop (i+1)) (news:=d.toList.drop (i+1)) rfl hle1 (fun k x hx=>by
   obtain ⟨b,_,rfl⟩:=List.mem_map.1 (List.mem_of_mem_drop (List.mem_of_getElem? hx));rfl)
  ⟨by rw [Nat.mul_one,List.length_drop,List.length_drop,hml,Array.length_toList,hds],fun u hu=>hone u (List.mem_of_mem_drop hu),fun k x j c hx hc=>by
    rw [List.getElem?_drop] at hx
    obtain ⟨b,hb,rfl⟩:=List.mem_map.1 (List.mem_of_getElem? hx)
    have hj:j=0:=by
     match j,hc with
     | 0,_=>rfl
    subst hj
    cases hc
    rw [List.getElem?_map] at hx
    obtain ⟨y,hy,hyb⟩:=Option.map_eq_some_iff.1 hx
    have hkl:=(List.getElem?_eq_some_iff.1 hy).1
    refine ⟨val (i+1+k),?_,?_⟩
    ·rw [show k * 1+0=k by omega,List.getElem?_drop,hdl,List.getElem?_map,List.getElem?_range hkl];rfl
    ·rw [← hyb]
     exact ((hv _ y hy).2).keep hext.grow (.refl _ _)⟩ (.int .i64 0) .any (fun _ _=>.any _)).2
 rw [← hels1] at p1
 have p1:wc w.drew ρ [.arr 1 (way.map zk)] .any [.arr 1 els1] (.int .i64 0) (w.drew.setCells (ρ 0).block ((ρ 0).off+i) (d.toList.drop (i+1))) ρ:=p1
 generalize w.drew.setCells (ρ 0).block ((ρ 0).off+i) (d.toList.drop (i+1))=w2 at *
 have p2:=(zgN p1.fits (k:=0) (off:=way.length - 1) (els:=els1) (ds:=[.nilsl]) (news:=[zgc]) rfl (by rw [hlen1];show way.length - 1+1≤_;omega) (fun k x hx=>by
   rw [List.mem_singleton.1 (List.mem_of_getElem? hx)];rfl)
  ⟨rfl,fun u hu=>by rw [List.mem_singleton.1 hu];rfl,fun k x j c hx hc=>by
    have hk0:k=0:=by have:=(List.getElem?_eq_some_iff.1 hx).1;simpa using this
    subst hk0
    cases hx
    have hj:j=0:=by have:=(List.getElem?_eq_some_iff.1 hc).1;simpa [D.cells] using this
    subst hj
    cases hc
    exact ⟨zgc,rfl,.nilsl _⟩⟩ (.int .i64 0) .any (fun _ _=>.any _)).2
 have hE:wU els1 (way.length - 1) [.nilsl]=(way.eraseIdx i).map zk++[.nilsl]:=by
  have h:=ztS (ds:=way.map zk) (i:=i) (by omega)
  rw [hml,← hels1] at h
  rw [h,List.eraseIdx_eq_take_drop_succ,List.eraseIdx_eq_take_drop_succ,List.map_append,List.map_take,List.map_drop]
 have p2:wc w2 ρ [.arr 1 els1] .any [.arr 1 ((way.eraseIdx i).map zk++[.nilsl])] (.int .i64 0) (w2.setCells (ρ 0).block ((ρ 0).off+(way.length - 1)) [zgc]) ρ:=by
  rw [← hE]
  exact p2
 have hel:((way.eraseIdx i).map zk).length=way.length - 1:=by rw [List.length_map,List.length_eraseIdx,if_pos hi]
 generalize w2.setCells (ρ 0).block ((ρ 0).off+(way.length - 1)) [zgc]=w3 at *
 have hes:∀ x∈(way.eraseIdx i).map zk,∃ b,x=zk b:=fun x hx=>by obtain ⟨b,_,rfl⟩:=List.mem_map.1 hx;exact ⟨b,rfl⟩
 generalize (way.eraseIdx i).map zk=es at *
 let ρ':Pl:=⟨fun _=>ρ 0,ρ.hid⟩
 have hown:∀ b off,own ρ' [.dead,.arr 1 es] b off→own ρ [.arr 1 (es++[.nilsl])] b off:=by
  rintro b off ⟨k,o,h5,h6⟩
  match k,h5,h6 with
  | 0,h5,h6=>cases h5;exact h6.elim
  | 1,h5,h6=>cases h5;exact ⟨0,_,rfl,h6⟩
 have hown0:∀ b off,own ρ [.arr 1 (es++[.nilsl])] b off→own ρ [.arr 1 (way.map zk)] b off:=by
  rintro b off ⟨k,o,h5,h6⟩
  match k,h5,h6 with
  | 0,h5,h6=>cases h5;exact ⟨0,_,rfl,h6⟩
 have hown1:∀ b off,own ρ [.arr 1 els1] b off→own ρ [.arr 1 (way.map zk)] b off:=by
  rintro b off ⟨k,o,h5,h6⟩
  match k,h5,h6 with
  | 0,h5,h6=>cases h5;exact ⟨0,_,rfl,h6⟩
 have hfoot:∀ b off,foot ρ' [.dead,.arr 1 es] b off→foot ρ [.arr 1 (es++[.nilsl])] b off:=fun b off h=>h.imp (hown b off) id
 have hfr:yU w3 (foot ρ [.arr 1 (es++[.nilsl])]) (foot ρ' [.dead,.arr 1 es]):=fun b off h=>.inl (hfoot b off h)
 obtain ⟨f1,f2,f3,f4⟩:=p2.fits.obj 0 _ rfl
 have hfit:yE w3 ρ' [.dead,.arr 1 es]:=by
  refine ⟨p2.fits.glob.keep (.refl _ _) hfr,p2.fits.hid,fun b off h=>p2.fits.sep b off (hown b off h),fun k o hk=>?_,fun k k' o o' b off g1 g2 g3 g4=>?_⟩
  ·match k,hk with
   | 0,hk=>cases hk;trivial
   | 1,hk=>
    cases hk
    refine ⟨by rw [List.length_append] at f1;show es.length * 1≤(ρ 0).cap;omega,fun j x hx=>f2 j x ?_,fun j x m c hx hc=>?_,f4⟩
    ·rw [List.getElem?_append_left (List.getElem?_eq_some_iff.1 hx).1];exact hx
    ·obtain ⟨u,g1,g2⟩:=f3 j x m c (by rw [List.getElem?_append_left (List.getElem?_eq_some_iff.1 hx).1];exact hx) hc
     obtain ⟨b,rfl⟩:=hes x (List.mem_of_getElem? hx)
     have hm0:m=0:=by have:=(List.getElem?_eq_some_iff.1 hc).1;simpa [D.cells,zk] using this
     subst hm0
     cases hc
     exact ⟨u,g1,.pure _ _ (g2.sl_inv.keep (.refl _ _) hfr)⟩
  ·match k,k',g1,g2,g3,g4 with
   | 0,_,g1,_,g3,_=>cases g1;exact g3.elim
   | 1,0,_,g2,_,g4=>cases g2;exact g4.elim
   | 1,1,_,_,_,_=>rfl
 refine ⟨_,ρ',rfl,hfit,?_,?_,?_,?_⟩
 ·refine .osl _ _ _ _ _ _ _ (by show 1 < 2;decide) ⟨by omega,fun h=>by cases h⟩ fun e' ds' h=>?_
  cases h
  exact ⟨rfl,by omega,fun _=>⟨.inr (.inr (by rw [Nat.zero_mul,Nat.add_zero])),by show (0+cap) * 1=(ρ 0).cap;omega,by omega⟩⟩
 ·exact ((hext.grow (F:=own ρ [.arr 1 (way.map zk)])).trans p1.ext fun _ _ _ h=>h).trans p2.ext fun b off _ h=>hown1 b off h
 ·exact fun b off h=>.inl (hown0 b off (hown b off h))
 ·exact ⟨rfl,by show 1≤2;decide,fun k ds' hk h=>(by match k,hk,h with | 0,_,h=>cases h),fun k ds' hk h=>(by match k,hk,h with | 0,_,h=>cases h),fun k ds' hk h=>(by match k,hk,h with | 0,_,h=>cases h),fun k e ds' hk h=>(by match k,hk,h with | 0,_,h=>cases h)⟩
attribute [local irreducible] zE wy wv yF
structure yK where
 src:List UInt8
 worker:Int
 turn:Int
 wait:Int
 done:Bool
 obj:List UInt8
 fe:Int
 fa:Int
structure zp where
 base:Int
 jobs:List yK
 dead:List Bool
 way:List (List UInt8)
def yo (j:yK):D:=.agg [zk j.src,.int .i64 j.worker,.int .i64 j.turn,.int .i64 j.wait,.bool j.done,zk j.obj,.int .i64 j.fe,.int .i64 j.fa]
def xR (f:zp):D:=.agg [.int .i64 f.base,.sl 8 (f.jobs.map yo) none,.sl 1 (f.dead.map D.bool) none,.sl 1 (f.way.map zk) none]
def fC (f:zp):List D:=[.int .i64 f.base,.osl 8 1 f.jobs.length 0 f.jobs.length,.osl 1 2 f.dead.length 0 f.dead.length,.osl 1 3 f.way.length 0 f.way.length]
def fO (f:zp):List Ob:=[.cells (fC f),.arr 8 (f.jobs.map yo),.arr 1 (f.dead.map D.bool),.arr 1 (f.way.map zk)]
theorem vz (f:zp):∀ x∈fO f,ClO 4 x:=by
 intro x hx
 simp only [fO,List.mem_cons,List.not_mem_nil,or_false] at hx
 rcases hx with rfl | rfl | rfl | rfl
 ·exact .cells (.cons .int (.cons (.osl (by decide)) (.cons (.osl (by decide)) (.cons (.osl (by decide)) .nil))))
 ·refine .arr fun d hd=>?_
  obtain ⟨j,_,rfl⟩:=List.mem_map.1 hd
  exact .cons .sl (.cons .int (.cons .int (.cons .int (.cons .bool (.cons .sl (.cons .int (.cons .int .nil)))))))
 ·refine .arr fun d hd=>?_
  obtain ⟨j,_,rfl⟩:=List.mem_map.1 hd
  exact .cons .bool .nil
 ·refine .arr fun d hd=>?_
  obtain ⟨j,_,rfl⟩:=List.mem_map.1 hd
  exact .cons .sl .nil
structure FSm (f:zp):Prop where
 jobs:f.jobs.length≤1000
 dead:f.dead.length≤1000
 way:f.way.length≤1000
def vY (f:zp) (m:Msg):zp:=if yF m=0∧f.way.length < 12 then { f with way:=f.way++[zE m] } else f
theorem zdg:za Tryz.prog zs5 (zQ (fun ((f,_):zp×Msg)=>FSm f) (fun (_,m)=>[.loc 0 0,zoW m]) (fun (f,_)=>fO f) (fun _=>.tup []) fun (f,m)=>fO (vY f m)):=by
 refine zf zh Tryz.func35 rfl (by decide) ?_
 rintro ⟨f,m⟩ hf
 refine ⟨Nat.le_refl _,by simp [Tryz.f35],fun E hE=>?_⟩
 have hE4:E.L.length=4:=by rw [hE];rfl
 have hw:=hf.way
 have hp:vY f m=if yF m=0∧f.way.length < 12 then { f with way:=f.way++[zE m] } else f:=rfl
 dsimp only
 generalize vY f m=F at *
 refine ze _ ?_
 (all_goals refine qgp ?_<;>(repeat' first | exact trivial | intro hc | refine And.intro ?_ ?_)<;>refine Lf.mk ?_)
 refine zb zq6 m trivial (VS.mk (LeL.of_eq rfl)) ?_
 (all_goals refine qgp ?_<;>(repeat' first | exact trivial | intro hc | refine And.intro ?_ ?_)<;>refine Lf.mk ?_)
 ·rw [if_pos ⟨by assumption,by omega⟩] at hp
  rw [if_pos (by assumption)]
  subst hp
  exact xq (fO { f with way:=f.way++[zE m] }) [_] (by unfold fO fC;simp only [List.map_append,List.length_append,List.length_map];rfl) (Nat.le_refl _) .tup0 (vz _)
 ·rw [if_neg (fun h=>by omega)] at hp
  rw [hp]
  exact xq (fO f) [_] rfl (Nat.le_refl _) .tup0 (vz _)
 ·rw [if_neg (fun h=>by omega)] at hp
  rw [hp]
  exact xq (fO f) [_] rfl (Nat.le_refl _) .tup0 (vz _)
theorem zxm {av:List D} {L:List Ob} {KP:D→Prop} {KW:D→List Ob→Prop} (g:Nat) (caps:List D) (p:yK→Bool) (l:List yK) (c0:Ob) (R:List Ob) (hl:l.length≤1000000000)
  (hL:L=c0:: .arr 8 (l.map yo)::R) (has:av=[.osl 8 1 l.length 0 l.length,.fn g caps])
  (hg:∀ s∈l,∀ (KP:D→Prop) (KW:D→List Ob→Prop),KW (.bool (p s)) L→zn Tryz.prog g (yo s::caps) L KP KW)
  (hK:KW (.int .i64 (y9 p l 0)) L):zn Tryz.prog vI av L KP KW:=by
 subst has
 refine xP zh Tryz.func41 rfl (by decide) (.int .i64 (y9 p l 0)) L (Nat.le_refl _) (by simp [Tryz.f41]) (fun E hE=>?_) hK
 have hE0:E.L.length=L.length:=by rw [hE]
 subst hL
 refine ze _ ?_
 (all_goals refine qgo ?_<;>(repeat' first | exact trivial | intro hc | refine And.intro ?_ ?_)<;>refine Lf.mk ?_)
 refine yp (α:=Nat) (fun k=>k≤l.length∧y9 p l 0=y9 p (l.drop k) k)
  (fun k=>[(0,.osl 8 1 l.length 0 l.length),(1,.fn g caps),(7,.int .i64 l.length),(8,.int .i64 k)]) (fun _=>c0:: .arr 8 (l.map yo)::R) (fun k=>l.length - k) (fun _=>by rw [hE0];exact Nat.le_refl _) 0 ⟨Nat.zero_le _,by simp⟩ ?_ ?_
 ·exact yf rfl ⟨rfl,rfl,rfl,rfl,trivial⟩
 rintro k ⟨hk,hf⟩
 refine ze _ ?_
 (all_goals refine qgp ?_<;>(repeat' first | exact trivial | intro hc | refine And.intro ?_ ?_)<;>refine Lf.mk ?_)
 ·obtain ⟨s,hsk⟩:=zP (l:=l) (k:=k) (by omega)
  have hkl:k < l.length:=by omega
  have hget:l[k]=s:=by rw [List.getElem?_eq_getElem hkl] at hsk;exact Option.some.inj hsk
  rw [List.drop_eq_getElem_cons hkl,hget,y9] at hf
  refine zl s (by omega) (by simpa using hsk) ?_
  (all_goals refine qgp ?_<;>(repeat' first | exact trivial | intro hc | refine And.intro ?_ ?_)<;>refine Lf.mk ?_)
  refine hg s (List.mem_of_getElem? hsk) _ _ ?_
  cases hb:p s with
  | true=>
   rw [hb,if_pos rfl] at hf
   (all_goals refine qgp ?_<;>(repeat' first | exact trivial | intro hc | refine And.intro ?_ ?_)<;>refine Lf.mk ?_)
   (any_goals (first | (exfalso;refine Bool.false_ne_true ?_;assumption) | (exfalso;refine Bool.false_ne_true (Eq.symm ?_);assumption) | (exfalso;refine absurd trivial ?_;assumption) | skip))
   exact yQ (by rw [hf];rfl) rfl
  | false=>
   rw [hb,if_neg (by decide)] at hf
   (all_goals refine qgp ?_<;>(repeat' first | exact trivial | intro hc | refine And.intro ?_ ?_)<;>refine Lf.mk ?_)
   (any_goals (first | (exfalso;refine Bool.false_ne_true ?_;assumption) | (exfalso;refine Bool.false_ne_true (Eq.symm ?_);assumption) | (exfalso;refine absurd trivial ?_;assumption) | skip))
   exact yj (k+1) ⟨by omega,hf⟩ (by omega) rfl ⟨rfl,rfl,rfl,rfl,trivial⟩
 ·rw [List.drop_of_length_le (by omega),y9] at hf
  exact yQ (by rw [hf];rfl) rfl
theorem ztT {n0:Nat} {r d:D} {L:List Ob} (M X:List Ob) (he:r=d) (hL:L=M++X) (hn:n0≤M.length) (hd:ClD M.length d) (hc:∀ o∈M,ClO M.length o):zI n0 r d L M:=by
 subst he
 exact xq M X hL hn hd hc
theorem ztU {n0:Nat} {b:Bool} {L:List Ob} (M X:List Ob) (he:b=false) (hL:L=M++X) (hn:n0≤M.length) (hc:∀ o∈M,ClO M.length o):zI n0 .ff (.bool b) L M:=by
 subst he
 exact vH (LeD.ff rfl) (xq M X hL hn .bool hc) hn
def qM (w:Int) (j:yK):Bool:=!j.done && j.worker==w
def qr (f:zp) (w:Int):Bool:=!f.jobs.any (qM w)
theorem zvL (f:zp) (w:Int):∀ x∈fO f++[.cells [.int .i64 w]],ClO 5 x:=by
 intro x hx
 rcases List.mem_append.1 hx with hx | hx
 ·exact ClO.up (vz f x hx) (by decide)
 ·rw [List.mem_singleton.1 hx]
  exact .cells (.cons .int .nil)
theorem zrv:za Tryz.prog zqU (zQ (fun ((f,w):zp×Int)=>FSm f) (fun (_,w)=>[.loc 0 0,.int .i64 w]) (fun (f,_)=>fO f) (fun (f,w)=>.bool (qr f w)) fun (f,_)=>fO f):=by
 refine zf zh Tryz.func34 rfl (by decide) ?_
 rintro ⟨f,w⟩ hf
 refine ⟨Nat.le_refl _,by simp [Tryz.f34],fun E hE=>?_⟩
 have hj:=hf.jobs
 refine ze _ ?_
 (all_goals refine qgp ?_<;>(repeat' first | exact trivial | intro hc | refine And.intro ?_ ?_)<;>refine Lf.mk ?_)
 refine xP zh Tryz.func26 rfl (by decide) (.bool (f.jobs.any (qM w))) (fO f++[.cells [.int .i64 w]]) (Nat.le_refl _) (by simp [Tryz.f26]) (fun E' hE'=>?_) ?_
 ·refine ze _ ?_
  (all_goals refine qgp ?_<;>(repeat' first | exact trivial | intro hc | refine And.intro ?_ ?_)<;>refine Lf.mk ?_)
  refine zxm znl [.loc 4 0] (qM w) f.jobs (.cells (fC f)) _ (by omega) rfl rfl (fun s hs KP KW hK=>?_) ?_
  ·refine xP zh Tryz.func55 rfl (by decide) (.bool (qM w s)) (fO f++[.cells [.int .i64 w]]) (Nat.le_refl _) (by simp [Tryz.f55]) (fun E2 hE2=>?_) hK
   refine ze _ ?_
   (all_goals refine qgp ?_<;>(repeat' first | exact trivial | intro hc | refine And.intro ?_ ?_)<;>refine Lf.mk ?_)
   ·exact ztT (r:=.bool (s.worker==w)) (d:=.bool (qM w s)) (fO f++[.cells [.int .i64 w]]) [_] (by unfold qM;rw [hc];rfl) rfl (Nat.le_refl _) .bool (zvL f w)
   ·exact ztU (b:=qM w s) (fO f++[.cells [.int .i64 w]]) [_] (by unfold qM;rw [hc];rfl) rfl (Nat.le_refl _) (zvL f w)
  ·(all_goals refine qgp ?_<;>(repeat' first | exact trivial | intro hc | refine And.intro ?_ ?_)<;>refine Lf.mk ?_)
   exact yQ (congrArg D.bool (ze9 _ _ 0)) rfl
 ·(all_goals refine qgp ?_<;>(repeat' first | exact trivial | intro hc | refine And.intro ?_ ?_)<;>refine Lf.mk ?_)
  exact xq (fO f) [_] rfl (Nat.le_refl _) .bool (vz f)
attribute [local irreducible] qr vY
def jS (j:yK) (w t n:Int):yK:=⟨j.src,w,t,n,j.done,j.obj,j.fe,j.fa⟩
def y0 (j:yK):yK:=if j.done=true∨j.worker < 0 then j else if 4≤j.wait+1 then jS j (-1) j.turn 0 else jS j j.worker j.turn (j.wait+1)
def noJ:yK:=⟨[],0,0,0,false,[],0,0⟩
def zm (f:zp) (k:Nat):yK:=(f.jobs[k]?).getD noJ
def wE (f:zp) (k:Nat) (j:yK):zp:={ f with jobs:=f.jobs.set k j }
def vh:Nat→Nat→zp→zp
 | 0,_,f=>f
 | n+1,k,f=>vh n (k+1) (wE f k (y0 (zm f k)))
def xB (f:zp) (k n:Nat):Int:=((zm f k).turn+(k:Int)+(n:Int)) % (f.dead.length:Int)
def xS (f:zp) (k n:Nat):zp:=
 if (zm f k).done=true∨0≤(zm f k).worker∨qr f (xB f k n)=false then f
 else vY (wE f k (jS (zm f k) (xB f k n) ((zm f k).turn+1) 0)) ⟨1,xB f k n,k,(zm f k).turn+1,0,0,(zm f k).src⟩
def wm:Nat→Nat→Nat→zp→zp
 | 0,_,_,f=>f
 | m+1,k,n,f=>wm m k (n+1) (xS f k n)
def je:Nat→Nat→zp→zp
 | 0,_,f=>f
 | m+1,k,f=>je m (k+1) (wm f.dead.length k 0 f)
def vA (f:zp):zp:=je f.jobs.length 0 (vh f.jobs.length 0 f)
structure FIn (f:zp) (B:Int):Prop where
 jobs:f.jobs.length≤4
 dead:f.dead.length≤3
 way:f.way.length≤12
 nums:∀ j∈f.jobs,0≤j.turn∧j.turn≤B∧-1≤j.worker∧j.worker≤1000∧0≤j.wait∧j.wait≤4
theorem FIn.sm {f:zp} {B:Int} (h:FIn f B):FSm f:=⟨by have:=h.jobs;omega,by have:=h.dead;omega,by have:=h.way;omega⟩
theorem FIn.up {f:zp} {B C:Int} (h:FIn f B) (hb:B≤C):FIn f C:=⟨h.jobs,h.dead,h.way,fun j hj=>by have:=h.nums j hj;omega⟩
theorem zfb {f:zp} {k:Nat} (h:k < f.jobs.length):f.jobs[k]?=some (zm f k)∧zm f k∈f.jobs:=by
 have:f.jobs[k]?=some (zm f k):=by unfold zm;rw [List.getElem?_eq_getElem h];rfl
 exact ⟨this,List.mem_of_getElem? this⟩
theorem q9 (f:zp) (k:Nat) (j:yK):(wE f k j).jobs.length=f.jobs.length:=List.length_set
theorem zlQ {f:zp} {B:Int} {k:Nat} {j:yK} (h:FIn f B) (hj:0≤j.turn∧j.turn≤B∧-1≤j.worker∧j.worker≤1000∧0≤j.wait∧j.wait≤4):FIn (wE f k j) B:=
 ⟨by rw [q9];exact h.jobs,h.dead,h.way,fun x hx=>by
   rcases List.mem_or_eq_of_mem_set hx with hx | rfl
   ·exact h.nums x hx
   ·exact hj⟩
theorem zxn {j:yK} {B:Int} (hj:0≤j.turn∧j.turn≤B∧-1≤j.worker∧j.worker≤1000∧0≤j.wait∧j.wait≤4):0≤(y0 j).turn∧(y0 j).turn≤B∧-1≤(y0 j).worker∧(y0 j).worker≤1000∧0≤(y0 j).wait∧(y0 j).wait≤4:=by
 unfold y0
 split
 ·omega
 split
 ·show 0≤j.turn∧j.turn≤B∧(-1:Int)≤-1∧(-1:Int)≤1000∧(0:Int)≤0∧(0:Int)≤4;omega
 ·show 0≤j.turn∧j.turn≤B∧-1≤j.worker∧j.worker≤1000∧0≤j.wait+1∧j.wait+1≤4;omega
theorem zza {f:zp} {B:Int} (h:FIn f B) (m:Msg):FIn (vY f m) B∧(vY f m).jobs=f.jobs∧(vY f m).dead=f.dead:=by
 unfold vY
 split
 ·rename_i hc
  exact ⟨⟨h.jobs,h.dead,by show (f.way++[zE m]).length≤12;rw [List.length_append];show _+1≤12;omega,h.nums⟩,rfl,rfl⟩
 ·exact ⟨h,rfl,rfl⟩
theorem zsi {a:Int} {n:Nat} (hn:1≤n):0≤a % (n:Int)∧a % (n:Int) < n:=⟨Int.emod_nonneg _ (by omega),Int.emod_lt_of_pos _ (by omega)⟩
theorem zxo {f:zp} {B:Int} {k n:Nat} (h:FIn f B) (hk:k < f.jobs.length) (hd:1≤f.dead.length):FIn (xS f k n) (B+1)∧(xS f k n).jobs.length=f.jobs.length∧(xS f k n).dead=f.dead:=by
 obtain ⟨t0,t1,w0,w1,q0,q1⟩:=h.nums _ (zfb hk).2
 have hn:=zsi (a:=(zm f k).turn+(k:Int)+(n:Int)) hd
 have hd3:=h.dead
 unfold xS
 split
 ·exact ⟨h.up (by omega),rfl,rfl⟩
 ·have h2:FIn (wE f k (jS (zm f k) (xB f k n) ((zm f k).turn+1) 0)) (B+1):=zlQ (h.up (by omega)) (by
   show 0≤(zm f k).turn+1∧(zm f k).turn+1≤B+1∧-1≤xB f k n∧xB f k n≤1000∧(0:Int)≤0∧(0:Int)≤4
   unfold xB
   omega)
  obtain ⟨p1,p2,p3⟩:=zza h2 ⟨1,xB f k n,k,(zm f k).turn+1,0,0,(zm f k).src⟩
  exact ⟨p1,by rw [p2,q9],p3⟩
theorem zsj {l:List yK} {k:Nat} (j:yK) {d:D} (hd:d=yo j):(l.map yo).set (0+((k:Nat):Int).toNat) d=(l.set k j).map yo:=by
 subst hd
 rw [Nat.zero_add,Int.toNat_natCast,List.map_set]
theorem zpV {l:List yK} {k:Nat} {j1:yK} (j:yK) {d:D} (hd:d=yo j):((l.set k j1).map yo).set (0+((k:Nat):Int).toNat) d=(l.set k j).map yo:=by rw [zsj j hd,List.set_set]
theorem zpW {l:List yK} {k:Nat} (j:yK) {d:D} (hd:d=yo j):(l.map yo).set k d=(l.set k j).map yo:=by rw [hd,List.map_set]
theorem zmL {l:List yK} {k:Nat} {j1:yK} (j:yK) {d:D} (hd:d=yo j):((l.set k j1).map yo).set k d=(l.set k j).map yo:=by rw [zpW j hd,List.set_set]
theorem zzb {l:List yK} {k:Nat} {j:yK} (h:l[k]?=some j):l[((0+((k:Nat):Int).toNat:Nat):Int).toNat]?=some j:=by rw [Int.toNat_natCast,Nat.zero_add,Int.toNat_natCast];exact h
theorem zlR {l:List yK} {k:Nat} {j:yK} (h:k < l.length):(l.set k j)[k]?=some j:=List.getElem?_set_self h
theorem zmM {f:zp} {k:Nat} (h:k < f.jobs.length):wE f k (zm f k)=f:=by
 obtain ⟨base,jobs,dead,way⟩:=f
 have hx:=(zfb h).1
 unfold wE
 refine congrArg (fun l=>(⟨base,l,dead,way⟩:zp)) ?_
 apply List.ext_getElem?
 intro i
 rw [List.getElem?_set]
 split
 ·rename_i hi
  subst hi
  exact hx.symm
 ·rfl
theorem zkT (f:zp) (k:Nat) (j:yK):fO (wE f k j)=[.cells (fC f),.arr 8 ((f.jobs.set k j).map yo),.arr 1 (f.dead.map D.bool),.arr 1 (f.way.map zk)]:=by
 unfold fO fC wE
 dsimp only
 rw [List.length_set]
theorem zrw:za Tryz.prog zqP (zQ (fun f:zp=>FIn f 1000000∧1≤f.dead.length) (fun _=>[.loc 0 0]) fO (fun _=>.tup []) fun f=>fO (vA f)):=by
 refine zf zh Tryz.func21 rfl (by decide) ?_
 rintro f ⟨hf,hd⟩
 refine ⟨Nat.le_refl _,by simp [Tryz.f21],fun E hE=>?_⟩
 have hE4:E.L.length=4:=by rw [hE];rfl
 have hj4:=hf.jobs
 refine ze _ ?_
 (all_goals refine qgp ?_<;>(repeat' first | exact trivial | intro hc | refine And.intro ?_ ?_)<;>refine Lf.mk ?_)
 refine yp (α:=Nat×zp) (fun (k,g)=>k≤f.jobs.length∧g.jobs.length=f.jobs.length∧g.dead=f.dead∧FIn g 1000000∧vh (f.jobs.length - k) k g=vh f.jobs.length 0 f) (fun (k,_)=>[(0,.loc 0 0),(12,.int .i64 f.jobs.length),(13,.int .i64 k)])
  (fun (_,g)=>fO g) (fun (k,_)=>f.jobs.length - k) (fun _=>by rw [hE4];exact Nat.le_refl 4) (0,f) ⟨Nat.zero_le _,rfl,rfl,hf,rfl⟩ ?_ ?_
 ·exact yf rfl ⟨rfl,rfl,rfl,trivial⟩
 rintro ⟨k,g⟩ ⟨hk,hgl,hgd,hg,hr⟩
 have hk:k≤f.jobs.length:=hk
 have hgl:g.jobs.length=f.jobs.length:=hgl
 have hgd:g.dead=f.dead:=hgd
 have hr:vh (f.jobs.length - k) k g=vh f.jobs.length 0 f:=hr
 dsimp only
 refine ze _ ?_
 (all_goals refine qgp ?_<;>(repeat' first | exact trivial | intro hc | refine And.intro ?_ ?_)<;>refine Lf.mk ?_)
 ·have hkl:k < g.jobs.length:=by omega
  obtain ⟨hx,hxm⟩:=zfb hkl
  obtain ⟨t0,t1,w0,w1,q0,q1⟩:=hg.nums _ hxm
  have ix:=fun {l:List yK} {j:yK} (h:l[k]?=some j) {K:D→Prop} (hK:K (yo j))=>zl (enc:=yo) j (Int.natCast_nonneg _) (zzb h) hK
  have hz:f.jobs.length - k=(f.jobs.length - (k+1))+1:=by omega
  rw [hz,vh] at hr
  have hwi:=zxn (hg.nums _ hxm)
  refine ix hx ?_
  (all_goals refine qgk ?_<;>(repeat' first | exact trivial | intro hc | refine And.intro ?_ ?_)<;>refine Lf.mk ?_)
  ·have hw:y0 (zm g k)=zm g k:=by unfold y0;rw [if_pos (.inl hc)]
   rw [hw,zmM hkl] at hr
   exact yj (k+1,g) ⟨by show k+1≤_;omega,hgl,hgd,hg,hr⟩ (by dsimp only;omega) rfl ⟨rfl,rfl,rfl,trivial⟩
  ·have hd0:¬ (zm g k).done=true:=by rw [hc];decide
   refine ix hx ?_
   (all_goals refine qgk ?_<;>(repeat' first | exact trivial | intro hc | refine And.intro ?_ ?_)<;>refine Lf.mk ?_)
   ·have hw:y0 (zm g k)=zm g k:=by unfold y0;rw [if_pos (.inr hc)]
    rw [hw,zmM hkl] at hr
    exact yj (k+1,g) ⟨by show k+1≤_;omega,hgl,hgd,hg,hr⟩ (by dsimp only;omega) rfl ⟨rfl,rfl,rfl,trivial⟩
   ·have hc0:=hc
    refine ix hx ?_
    (all_goals refine qgk ?_<;>(repeat' first | exact trivial | intro hc | refine And.intro ?_ ?_)<;>refine Lf.mk ?_)
    refine ix hx ?_
    (all_goals refine qgk ?_<;>(repeat' first | exact trivial | intro hc | refine And.intro ?_ ?_)<;>refine Lf.mk ?_)
    refine xd ((g.jobs.set k (jS (zm g k) (zm g k).worker (zm g k).turn ((zm g k).wait+1))).map yo) (zsj _ rfl) ?_
    (all_goals refine qgk ?_<;>(repeat' first | exact trivial | intro hc | refine And.intro ?_ ?_)<;>refine Lf.mk ?_)
    have ixs:=fun (j:yK) {K:D→Prop} (hK:K (yo j))=>yL (K:=VS (zY ((g.jobs.set k j).map yo) _ K)) (show g.jobs.length=((g.jobs.set k j).map yo).length by rw [List.length_map,List.length_set]) (VS.mk (ix (zlR hkl) hK))
    refine ixs _ ?_
    (all_goals refine qgk ?_<;>(repeat' first | exact trivial | intro hc | refine And.intro ?_ ?_)<;>refine Lf.mk ?_)
    ·have hc:4≤(zm g k).wait+1:=hc
     have hw:y0 (zm g k)=jS (zm g k) (-1) (zm g k).turn 0:=by unfold y0;rw [if_neg (fun h=>by rcases h with h | h;exact hd0 h;exact hc0 h),if_pos hc]
     rw [hw] at hr hwi
     refine ixs _ ?_
     (all_goals refine qgk ?_<;>(repeat' first | exact trivial | intro hc | refine And.intro ?_ ?_)<;>refine Lf.mk ?_)
     refine xd ((g.jobs.set k (jS (zm g k) (-1) (zm g k).turn ((zm g k).wait+1))).map yo) (zpV _ rfl) ?_
     (all_goals refine qgk ?_<;>(repeat' first | exact trivial | intro hc | refine And.intro ?_ ?_)<;>refine Lf.mk ?_)
     refine ixs _ ?_
     (all_goals refine qgk ?_<;>(repeat' first | exact trivial | intro hc | refine And.intro ?_ ?_)<;>refine Lf.mk ?_)
     refine xd ((g.jobs.set k (jS (zm g k) (-1) (zm g k).turn 0)).map yo) (zpV _ rfl) ?_
     (all_goals refine qgk ?_<;>(repeat' first | exact trivial | intro hc | refine And.intro ?_ ?_)<;>refine Lf.mk ?_)
     exact yj (k+1,wE g k (jS (zm g k) (-1) (zm g k).turn 0)) ⟨by show k+1≤_;omega,by rw [q9];exact hgl,hgd,zlQ hg hwi,hr⟩ (by dsimp only;omega) (zkT _ _ _).symm ⟨rfl,rfl,rfl,trivial⟩
    ·have hc:¬ 4≤(zm g k).wait+1:=hc
     have hw:y0 (zm g k)=jS (zm g k) (zm g k).worker (zm g k).turn ((zm g k).wait+1):=by unfold y0;rw [if_neg (fun h=>by rcases h with h | h;exact hd0 h;exact hc0 h),if_neg hc]
     rw [hw] at hr hwi
     exact yj (k+1,wE g k (jS (zm g k) (zm g k).worker (zm g k).turn ((zm g k).wait+1))) ⟨by show k+1≤_;omega,by rw [q9];exact hgl,hgd,zlQ hg hwi,hr⟩ (by dsimp only;omega) (zkT _ _ _).symm ⟨rfl,rfl,rfl,trivial⟩
 ·have hkn:k=f.jobs.length:=by omega
  rw [hkn,Nat.sub_self,vh] at hr
  have hT:vA f=je g.jobs.length 0 g:=by unfold vA;rw [← hr,hgl]
  clear hr hkn hc hk
  rw [hT]
  clear hT
  refine yp (α:=Nat×zp) (fun (k,h)=>k≤g.jobs.length∧h.jobs.length=g.jobs.length∧h.dead=g.dead∧FIn h (1000000+10 * (k:Int))∧je (g.jobs.length - k) k h=je g.jobs.length 0 g) (fun (k,_)=>[(0,.loc 0 0),(56,.int .i64 g.jobs.length),(57,.int .i64 k)])
   (fun (_,h)=>fO h) (fun (k,_)=>g.jobs.length - k) (fun _=>by rw [hE4];exact Nat.le_refl 4) (0,g) ⟨Nat.zero_le _,rfl,rfl,hg.up (by decide),rfl⟩ ?_ ?_
  ·exact yf rfl ⟨rfl,rfl,rfl,trivial⟩
  rintro ⟨k,h⟩ ⟨hk,hhl,hhd,hh,hr⟩
  have hk:k≤g.jobs.length:=hk
  have hhl:h.jobs.length=g.jobs.length:=hhl
  have hhd:h.dead=g.dead:=hhd
  have hh:FIn h (1000000+10 * (k:Int)):=hh
  have hr:je (g.jobs.length - k) k h=je g.jobs.length 0 g:=hr
  dsimp only
  refine ze _ ?_
  (all_goals refine qgp ?_<;>(repeat' first | exact trivial | intro hc | refine And.intro ?_ ?_)<;>refine Lf.mk ?_)
  ·have hkl:k < g.jobs.length:=by omega
   have hz:g.jobs.length - k=(g.jobs.length - (k+1))+1:=by omega
   rw [hz,je] at hr
   refine yp (α:=Nat×zp) (fun (n,u)=>n≤h.dead.length∧u.jobs.length=g.jobs.length∧u.dead=g.dead∧FIn u (1000000+10 * (k:Int)+(n:Int))∧wm (h.dead.length - n) k n u=wm h.dead.length k 0 h) (fun (n,_)=>[(0,.loc 0 0),(56,.int .i64 g.jobs.length),(57,.int .i64 k),(4,.int .i64 k),(5,.aloc 1 g.jobs.length k 0),(70,.int .i64 h.dead.length),(71,.int .i64 n)])
    (fun (_,u)=>fO u) (fun (n,_)=>h.dead.length - n) (fun _=>by rw [hE4];exact Nat.le_refl 4) (0,h) ⟨Nat.zero_le _,hhl,hhd,hh.up (by omega),rfl⟩ ?_ ?_
   ·refine yf rfl ⟨rfl,rfl,rfl,rfl,?_,rfl,rfl,trivial⟩
    show D.aloc 1 h.jobs.length (0+((k:Nat):Int).toNat) 0=_
    rw [hhl,Nat.zero_add,Int.toNat_natCast]
   rintro ⟨n,u⟩ ⟨hn,hul,hud,hu,hq⟩
   have hn:n≤h.dead.length:=hn
   have hul:u.jobs.length=g.jobs.length:=hul
   have hud:u.dead=g.dead:=hud
   have hu:FIn u (1000000+10 * (k:Int)+(n:Int)):=hu
   have hq:wm (h.dead.length - n) k n u=wm h.dead.length k 0 h:=hq
   dsimp only
   refine ze _ ?_
   have hku:k < u.jobs.length:=by omega
   obtain ⟨hx,hxm⟩:=zfb hku
   obtain ⟨t0,t1,w0,w1,q0,q1⟩:=hu.nums _ hxm
   have ix:=fun {l:List yK} {j:yK} (h:l[k]?=some j) {K:D→Prop} (hK:K (yo j))=>zl (enc:=yo) (n:=((k:Nat):Int)) j (Int.natCast_nonneg _) (by rw [Int.toNat_natCast];exact h) hK
   have hjs:=hg.jobs
   have hds:=hu.dead
   have hdh:=hh.dead
   have hde:u.dead.length=h.dead.length:=by rw [hud,hhd]
   have hdf:1≤u.dead.length:=by rw [hud,hgd];exact hd
   (all_goals refine qgp ?_<;>(repeat' first | exact trivial | intro hc | refine And.intro ?_ ?_)<;>refine Lf.mk ?_)
   ·have hz2:h.dead.length - n=(h.dead.length - (n+1))+1:=by omega
    rw [hz2,wm] at hq
    have hin:=zxo (n:=n) hu hku hdf
    refine ix hx ?_
    (all_goals refine qgp ?_<;>(repeat' first | exact trivial | intro hc | refine And.intro ?_ ?_)<;>refine Lf.mk ?_)
    generalize hW:((zm u k).turn+(k:Int)+(n:Int)) % (u.dead.length:Int)=W
    have hW:xB u k n=W:=hW
    have hgs:xS u k n=if (zm u k).done=true∨0≤(zm u k).worker∨qr u W=false then u else vY (wE u k (jS (zm u k) W ((zm u k).turn+1) 0)) ⟨1,W,k,(zm u k).turn+1,0,0,(zm u k).src⟩:=by unfold xS;rw [hW]
    have hI:n+1≤h.dead.length∧(xS u k n).jobs.length=g.jobs.length∧(xS u k n).dead=g.dead∧FIn (xS u k n) (1000000+10 * (k:Int)+((n+1:Nat):Int))∧wm (h.dead.length - (n+1)) k (n+1) (xS u k n)=wm h.dead.length k 0 h:=
     ⟨by omega,by rw [hin.2.1];exact hul,by rw [hin.2.2];exact hud,hin.1.up (by omega),hq⟩
    have hmu:h.dead.length - (n+1) < h.dead.length - n:=by omega
    refine ix hx ?_
    (all_goals refine qgk ?_<;>(repeat' first | exact trivial | intro hc | refine And.intro ?_ ?_)<;>refine Lf.mk ?_)
    ·rw [if_pos (.inl hc)] at hgs
     rw [hgs] at hI
     exact yj (n+1,u) hI hmu rfl ⟨rfl,rfl,rfl,rfl,rfl,rfl,rfl,trivial⟩
    ·have hd0:¬ (zm u k).done=true:=by rw [hc];decide
     refine ix hx ?_
     (all_goals refine qgk ?_<;>(repeat' first | exact trivial | intro hc | refine And.intro ?_ ?_)<;>refine Lf.mk ?_)
     ·rw [if_pos (.inr (.inl hc))] at hgs
      rw [hgs] at hI
      exact yj (n+1,u) hI hmu rfl ⟨rfl,rfl,rfl,rfl,rfl,rfl,rfl,trivial⟩
     ·have hc0:=hc
      refine zdC zrv (u,W) hu.sm rfl (LeL.refl _) ?_
      (all_goals refine qgk ?_<;>(repeat' first | exact trivial | intro hc | refine And.intro ?_ ?_)<;>refine Lf.mk ?_)
      ·rw [if_pos (.inr (.inr hc))] at hgs
       rw [hgs] at hI
       exact yj (n+1,u) hI hmu rfl ⟨rfl,rfl,rfl,rfl,rfl,rfl,rfl,trivial⟩
      ·rw [if_neg (fun e=>by rcases e with e | e | e;exact hd0 e;exact hc0 e;rw [hc] at e;exact Bool.noConfusion e)] at hgs
       have ixs:=fun (j:yK) {K:D→Prop} (hK:K (yo j))=>ix (l:=u.jobs.set k j) (zlR hku) hK
       refine ix hx ?_
       (all_goals refine qgk ?_<;>(repeat' first | exact trivial | intro hc | refine And.intro ?_ ?_)<;>refine Lf.mk ?_)
       refine xd ((u.jobs.set k (jS (zm u k) W (zm u k).turn (zm u k).wait)).map yo) (zpW _ rfl) ?_
       (all_goals refine qgk ?_<;>(repeat' first | exact trivial | intro hc | refine And.intro ?_ ?_)<;>refine Lf.mk ?_)
       refine ixs _ ?_
       (all_goals refine qgk ?_<;>(repeat' first | exact trivial | intro hc | refine And.intro ?_ ?_)<;>refine Lf.mk ?_)
       refine xd ((u.jobs.set k (jS (zm u k) W (zm u k).turn 0)).map yo) (zmL _ rfl) ?_
       (all_goals refine qgk ?_<;>(repeat' first | exact trivial | intro hc | refine And.intro ?_ ?_)<;>refine Lf.mk ?_)
       refine ixs _ ?_
       (all_goals refine qgk ?_<;>(repeat' first | exact trivial | intro hc | refine And.intro ?_ ?_)<;>refine Lf.mk ?_)
       refine kh (by show -9223372036854775808≤(zm u k).turn+1;omega) (by show (zm u k).turn+1≤9223372036854775807;omega) ?_
       (all_goals refine qgk ?_<;>(repeat' first | exact trivial | intro hc | refine And.intro ?_ ?_)<;>refine Lf.mk ?_)
       refine ixs _ ?_
       (all_goals refine qgk ?_<;>(repeat' first | exact trivial | intro hc | refine And.intro ?_ ?_)<;>refine Lf.mk ?_)
       refine xd ((u.jobs.set k (jS (zm u k) W ((zm u k).turn+1) 0)).map yo) (zmL _ rfl) ?_
       (all_goals refine qgk ?_<;>(repeat' first | exact trivial | intro hc | refine And.intro ?_ ?_)<;>refine Lf.mk ?_)
       refine ixs _ ?_
       (all_goals refine qgk ?_<;>(repeat' first | exact trivial | intro hc | refine And.intro ?_ ?_)<;>refine Lf.mk ?_)
       refine ixs _ ?_
       (all_goals refine qgk ?_<;>(repeat' first | exact trivial | intro hc | refine And.intro ?_ ?_)<;>refine Lf.mk ?_)
       refine zdC zdg (wE u k (jS (zm u k) W ((zm u k).turn+1) 0),⟨1,W,k,(zm u k).turn+1,0,0,(zm u k).src⟩) ⟨by rw [q9];omega,by show u.dead.length≤_;omega,by have:=hu.way;show u.way.length≤_;omega⟩ (zkT _ _ _).symm (LeL.refl _) ?_
       dsimp only
       rw [← hgs]
       (all_goals refine qgp ?_<;>(repeat' first | exact trivial | intro hc | refine And.intro ?_ ?_)<;>refine Lf.mk ?_)
       exact yj (n+1,xS u k n) hI hmu rfl ⟨rfl,rfl,rfl,rfl,rfl,rfl,rfl,trivial⟩
   ·have hn2:n=h.dead.length:=by omega
    rw [hn2,Nat.sub_self,wm] at hq
    rw [← hq] at hr
    exact yj (k+1,u) ⟨by show k+1≤_;omega,hul,hud,hu.up (by show _≤1000000+10 * (((k+1:Nat)):Int);have:=hh.dead;omega),hr⟩ (by dsimp only;omega) rfl ⟨rfl,rfl,rfl,trivial⟩
  ·have hkn:k=g.jobs.length:=by omega
   rw [hkn,Nat.sub_self,je] at hr
   rw [← hr]
   exact yQ rfl rfl
end Go.Proofs.YtnkdeacghopkiaaGreatDoor
namespace Go.Proofs.YtnkdeacghopkiaaGreatDoor
open Go Go.Plat
set_option linter.unusedVariables false
set_option linter.unusedSimpArgs false
set_option maxRecDepth 100000
set_option maxHeartbeats 2000000
attribute [local irreducible] AWP zG yn zK zn yA z8 zI zY z6 zw za zN yB zt z7 yx yy yq yt zx zz zD
def xQ (n:Int):List UInt8:=[zr (n / 16777216),zr (n / 65536),zr (n / 256),zr n]
def vZ (s:List UInt8):List UInt8:=zr s.length::s
theorem zxp (n:Int):yv [0,0,0,0] 0 4 n=xQ n:=by
 have h1:n / 256 / 256=n / 65536:=by rw [Int.ediv_ediv_of_nonneg (by decide)];rfl
 have h2:n / 65536 / 256=n / 16777216:=by rw [Int.ediv_ediv_of_nonneg (by decide)];rfl
 simp [yv,yX,xQ,h1,h2]
theorem zkU:za Tryz.prog zs9 (zQ (fun ((b,s):List UInt8×List UInt8)=>b.length≤1000000000∧s.length≤1000000000)
  (fun (b,s)=>[.sl 1 (b.map zC) (some 0),.str s]) (fun (b,_)=>[.spare b.length]) (fun (b,s)=>.sl 1 ((b++vZ s).map zC) (some 0)) fun (b,s)=>[.spare (b++vZ s).length]):=by
 refine zf zh Tryz.func78 rfl (by decide) ?_
 rintro ⟨b,s⟩ ⟨h1,h2⟩
 refine ⟨Nat.le_refl _,by simp [Tryz.f78],fun E hE=>?_⟩
 refine ze _ ?_
 (all_goals refine qgo (Lf.mk ?_))
 refine ya ?_
 (repeat' (first | (refine VS.mk ?_) | exact trivial | exact rfl | refine And.intro ?_ ?_))
 ·simp [vZ,zC]
 ·simp [vZ,zC]
theorem zaO:za Tryz.prog zuI (zQ (fun ((b,n):List UInt8×Int)=>b.length≤1000000000)
  (fun (b,n)=>[.sl 1 (b.map zC) (some 0),.int .i64 n]) (fun (b,_)=>[.spare b.length]) (fun (b,n)=>.sl 1 ((b++xQ n).map zC) (some 0)) fun (b,n)=>[.spare (b++xQ n).length]):=by
 refine zf zh Tryz.func77 rfl (by decide) ?_
 rintro ⟨b,n⟩ h1
 refine ⟨Nat.le_refl _,by simp [Tryz.f77],fun E hE=>?_⟩
 refine ze _ ?_
 (all_goals refine qgo (Lf.mk ?_))
 refine zu ky [] [1] ([0,0,0,0],0,4,n) ⟨by decide,by decide,by decide,by decide⟩ rfl rfl ?_
 refine And.intro (VS.mk (LeL.of_eq rfl)) (And.intro (VS.mk rfl) ?_)
 have h1:b.length≤1000000000:=h1
 (all_goals refine qgo (Lf.mk ?_))
 rw [zxp]
 have h4:(xQ n).length=4:=rfl
 refine yL ⟨by simp,by simp only [List.length_map,h4];omega⟩ ?_
 (all_goals refine qgo (Lf.mk ?_))
 refine ya ?_
 (repeat' (first | (refine VS.mk ?_) | exact trivial | exact rfl | refine And.intro ?_ ?_))
 all_goals simp
attribute [local irreducible] yw zL zg
theorem zes {s:List UInt8} (h:yO s=true):1≤s.length∧s.length≤10:=by
 unfold yO at h
 rw [Bool.and_eq_true,Bool.and_eq_true] at h
 exact of_decide_eq_true h.1.1
attribute [local irreducible] yO
theorem zpX {n:Int}:∀ {l:List zH} {had:List (List UInt8)},qI n l had=none→∀ s∈l,yO s.name=true∧0≤s.at_∧s.at_≤n
 | [],_,_,s,hs=>by simp at hs
 | t::l,had,h,s,hs=>by
  rw [qI] at h
  split at h
  ·cases h
  rename_i h1
  split at h
  ·cases h
  rename_i h2
  rcases List.mem_cons.1 hs with rfl | hs
  ·refine ⟨?_,by omega,by omega⟩
   cases hn:yO s.name with
   | true=>rfl
   | false=>exact (h1 (.inl hn)).elim
  ·exact zpX h s hs
theorem zpY {n:Int}:∀ {l:List zH} {had:List (List UInt8)} {e:Int},qI n l had=some e→e≠0
 | [],_,_,h=>by cases h
 | t::l,had,e,h=>by
  rw [qI] at h
  split at h
  ·cases h;decide
  split at h
  ·cases h;decide
  exact zpY h
structure znO (n:Int) (r:qZ):Prop where
 size:r.size=2∨r.size=4
 at0:0≤r.at_
 at1:r.at_+r.size≤n
 name:r.name=[]∨yO r.name=true
 add:zg r.add 32=r.add
theorem zpZ {n:Int}:∀ {l:List qZ} {last:Int},0≤last→zam n l last=0→∀ r∈l,znO n r
 | [],_,_,_,s,hs=>by simp at hs
 | t::l,last,h0,h,r,hs=>by
  rw [zam] at h
  split at h
  ·cases h
  rename_i h1
  split at h
  ·cases h
  rename_i h2
  split at h
  ·cases h
  rename_i h3
  split at h
  ·cases h
  rename_i h4
  split at h
  ·cases h
  rename_i h5
  rcases List.mem_cons.1 hs with rfl | hs
  ·refine ⟨by omega,by omega,by omega,?_,Classical.not_not.1 h5⟩
   cases hn:yO r.name with
   | true=>exact .inr rfl
   | false=>exact .inl (Classical.not_not.1 fun hne=>h4 ⟨hne,hn⟩)
  ·exact zpZ (by omega) h r hs
structure zya (o:yz):Prop where
 code:o.code.length≤8000
 syms:o.syms.length≤255
 rels:o.rels.length≤16000
 sym:∀ s∈o.syms,yO s.name=true∧0≤s.at_∧s.at_≤o.code.length
 rel:∀ r∈o.rels,znO o.code.length r
theorem zdW {o:yz} (h:yD o=0):zya o:=by
 unfold yD at h
 split at h
 ·cases h
 rename_i h1
 split at h
 ·rename_i e he
  exact (zpY he h).elim
 rename_i he
 exact ⟨by omega,by omega,by omega,zpX he,zpZ (Int.le_refl _) h⟩
theorem znO.len {n:Int} {r:qZ} (h:znO n r):r.name.length≤10:=by
 rcases h.name with h | h
 ·rw [h];decide
 ·exact (zes h).2
def ja (s:zH):List UInt8:=vZ s.name++xQ s.at_
def zbj (r:qZ):List UInt8:=xQ r.at_++zr r.size::(vZ r.name++xQ r.add)
def ko:List UInt8:=[79,66,74]
def qN (o:yz):List UInt8:=ko++xQ o.code.length++o.code++xQ o.syms.length
def vu (o:yz):List UInt8:=qN o++o.syms.flatMap ja++xQ o.rels.length++o.rels.flatMap zbj
theorem zhz {α:Type} {f:α→List UInt8} {c:Nat}:∀ {l:List α},(∀ x∈l,(f x).length≤c)→(l.flatMap f).length≤c * l.length
 | [],_=>by simp
 | x::l,h=>by
  have h1:=h x (by simp)
  have h2:=zhz (l:=l) fun y hy=>h y (by simp [hy])
  simp only [List.flatMap_cons,List.length_append,List.length_cons,Nat.mul_add,Nat.mul_one]
  omega
theorem zmN {α:Type} {f:α→List UInt8} {l:List α} {k:Nat} {x:α} (h:l[k]?=some x):(l.take (k+1)).flatMap f=(l.take k).flatMap f++f x:=by
 rw [List.take_add_one,h]
 simp
attribute [local irreducible] yD
theorem zp0:za Tryz.prog zq1 (zy (fun o:yz=>(∀ r∈o.rels, -9223372036854775808≤r.at_∧r.at_≤9223372036854775807∧r.name.length≤1000000000)∧∀ s∈o.syms,s.name.length≤1000000000) (fun o=>[vl o])
  fun o=>.tup [zk (if yD o=0 then vu o else []),.int .i64 (yD o)]):=by
 refine zf zh Tryz.func60 rfl (by decide) ?_
 rintro o ho
 refine ⟨Nat.le_refl _,by simp [Tryz.f60],fun E hE=>?_⟩
 refine ze _ ?_
 (all_goals refine qgs ?_<;>(repeat' first | exact trivial | intro hc | refine And.intro ?_ ?_)<;>refine Lf.mk ?_)
 refine zb zbg o ho (VS.mk (LeL.of_eq rfl)) ?_
 (all_goals refine qgs ?_<;>(repeat' first | exact trivial | intro hc | refine And.intro ?_ ?_)<;>refine Lf.mk ?_)
 ·refine zd (VS.mk ?_)
  rw [if_neg hc]
  (first | exact LeL.refl _ | (repeat' (first | exact LeL.nil | exact LeD.refl _ | exact LeD.nil _ | exact LeD.strip _ _ _ | refine LeL.cons ?_ ?_ | refine LeD.tup ?_ | refine LeD.agg ?_)))
 have hok:=zdW hc
 have hc0:=hc
 have hcode:=hok.code
 have hsl:=hok.syms
 have hrl:=hok.rels
 refine zau ?_
 (all_goals refine qgs ?_<;>(repeat' first | exact trivial | intro hc | refine And.intro ?_ ?_)<;>refine Lf.mk ?_)
 refine ziT ?_
 (all_goals refine qgs ?_<;>(repeat' first | exact trivial | intro hc | refine And.intro ?_ ?_)<;>refine Lf.mk ?_)
 refine zau ?_
 (all_goals refine qgs ?_<;>(repeat' first | exact trivial | intro hc | refine And.intro ?_ ?_)<;>refine Lf.mk ?_)
 refine ziT ?_
 (all_goals refine qgs ?_<;>(repeat' first | exact trivial | intro hc | refine And.intro ?_ ?_)<;>refine Lf.mk ?_)
 refine zu zaO [2] [2] (ko,(o.code.length:Int)) (by show 3≤1000000000;decide) rfl rfl ?_
 refine And.intro (VS.mk (LeL.of_eq rfl)) (And.intro (VS.mk rfl) ?_)
 have h7:(ko++xQ (o.code.length:Int)).length=7:=rfl
 (all_goals refine qgs ?_<;>(repeat' first | exact trivial | intro hc | refine And.intro ?_ ?_)<;>refine Lf.mk ?_)
 refine yL ⟨by simp,by simp only [List.length_map,h7];omega⟩ ?_
 (all_goals refine qgs ?_<;>(repeat' first | exact trivial | intro hc | refine And.intro ?_ ?_)<;>refine Lf.mk ?_)
 have h8:(ko++xQ (o.code.length:Int)++o.code).length≤8007:=by rw [List.length_append,h7];omega
 refine zu zaO [2] [2] (ko++xQ (o.code.length:Int)++o.code,(o.syms.length:Int)) (by omega) rfl rfl ?_
 refine And.intro (VS.mk (LeL.of_eq ?_)) (And.intro (VS.mk ?_) ?_)
 ·rw [List.map_append];rfl
 ·simp
 (all_goals refine qgs ?_<;>(repeat' first | exact trivial | intro hc | refine And.intro ?_ ?_)<;>refine Lf.mk ?_)
 refine yc (α:=Nat) (fun k=>k≤o.syms.length)
  (fun k=>[(30,.sl 2 (o.syms.map yH) none),(31,.int .i64 o.syms.length),(32,.int .i64 k),(1,.loc 0 0),(5,.sl 1 ((qN o++(o.syms.take k).flatMap ja).map zC) (some 2))])
  (fun k=>[.cells [zk o.code,.sl 2 (o.syms.map yH) none,.sl 4 (o.rels.map jx) none],.dead,.spare (qN o++(o.syms.take k).flatMap ja).length]) (fun k=>o.syms.length - k) (fun _=>by simp [hE]) 0 (Nat.zero_le _) ?_ ?_
 ·(repeat' (first | (refine VS.mk ?_) | exact trivial | exact rfl | refine And.intro ?_ ?_))
  all_goals (simp [qN,zk];done)
 rintro k hk
 refine ze _ ?_
 have hb:(qN o).length≤8011:=by unfold qN;rw [List.length_append];show _+4≤_;omega
 have hf:∀ q,((o.syms.take q).flatMap ja).length≤15 * 255:=fun q=>by
  refine Nat.le_trans (zhz (c:=15) fun s hs=>?_) (Nat.mul_le_mul_left _ (by rw [List.length_take];have:=hok.syms;omega))
  have:=(zes (hok.sym s (List.mem_of_mem_take hs)).1).2
  show (vZ s.name++xQ s.at_).length≤15
  rw [List.length_append]
  show s.name.length+1+4≤15
  omega
 (all_goals refine qgs ?_<;>(repeat' first | exact trivial | intro hc | refine And.intro ?_ ?_)<;>refine Lf.mk ?_)
 ·obtain ⟨s,hsk⟩:=zP (l:=o.syms) (k:=k) (by omega)
  have hn:=zes (hok.sym s (List.mem_of_getElem? hsk)).1
  have hq:=hf k
  refine zl s (by omega) (by simpa using hsk) ?_
  (all_goals refine qgs ?_<;>(repeat' first | exact trivial | intro hc | refine And.intro ?_ ?_)<;>refine Lf.mk ?_)
  refine zu zkU [2] [2] (qN o++(o.syms.take k).flatMap ja,s.name) ⟨by rw [List.length_append];omega,by omega⟩ rfl rfl ?_
  refine And.intro (VS.mk (LeL.of_eq rfl)) (And.intro (VS.mk rfl) ?_)
  (all_goals refine qgs ?_<;>(repeat' first | exact trivial | intro hc | refine And.intro ?_ ?_)<;>refine Lf.mk ?_)
  refine zu zaO [2] [2] (qN o++(o.syms.take k).flatMap ja++vZ s.name,s.at_) (by dsimp only;rw [List.length_append,List.length_append];show _+_+(s.name.length+1)≤_;omega) rfl rfl ?_
  refine And.intro (VS.mk (LeL.of_eq rfl)) (And.intro (VS.mk rfl) ?_)
  (all_goals refine qgs ?_<;>(repeat' first | exact trivial | intro hc | refine And.intro ?_ ?_)<;>refine Lf.mk ?_)
  have e:qN o++(o.syms.take (k+1)).flatMap ja=qN o++(o.syms.take k).flatMap ja++vZ s.name++xQ s.at_:=by rw [zmN hsk];simp [ja]
  refine zF (k+1) ?_ ?_ ?_
  ·omega
  ·omega
  rw [e]
  (repeat' (first | (refine VS.mk ?_) | exact trivial | exact rfl | refine And.intro ?_ ?_))
  (all_goals (first | rfl | (dsimp only;congr 1;omega) | (dsimp only;simp;done) | (dsimp only;simp;omega) | skip))
 obtain rfl:k=o.syms.length:=by omega
 have hq:=hf o.syms.length
 rw [List.take_length] at hq ⊢
 refine zu zaO [2] [2] (qN o++o.syms.flatMap ja,(o.rels.length:Int)) (by dsimp only;rw [List.length_append];omega) rfl rfl ?_
 refine And.intro (VS.mk (LeL.of_eq rfl)) (And.intro (VS.mk rfl) ?_)
 (all_goals refine qgs ?_<;>(repeat' first | exact trivial | intro hc | refine And.intro ?_ ?_)<;>refine Lf.mk ?_)
 refine yc (α:=Nat) (fun k=>k≤o.rels.length)
  (fun k=>[(50,.sl 4 (o.rels.map jx) none),(51,.int .i64 o.rels.length),(52,.int .i64 k),(1,.loc 0 0),(5,.sl 1 ((qN o++o.syms.flatMap ja++xQ o.rels.length++(o.rels.take k).flatMap zbj).map zC) (some 2))])
  (fun k=>[.cells [zk o.code,.sl 2 (o.syms.map yH) none,.sl 4 (o.rels.map jx) none],.dead,.spare (qN o++o.syms.flatMap ja++xQ o.rels.length++(o.rels.take k).flatMap zbj).length]) (fun k=>o.rels.length - k) (fun _=>by simp [hE]) 0 (Nat.zero_le _) ?_ ?_
 ·(repeat' (first | (refine VS.mk ?_) | exact trivial | exact rfl | refine And.intro ?_ ?_))
  all_goals (simp [zk];done)
 have hb2:(qN o++o.syms.flatMap ja++xQ o.rels.length).length≤8011+15 * 255+4:=by rw [List.length_append,List.length_append];show _+_+4≤_;omega
 generalize hpre:qN o++o.syms.flatMap ja++xQ o.rels.length=pre at *
 have hg:∀ q,((o.rels.take q).flatMap zbj).length≤20 * 16000:=fun q=>by
  refine Nat.le_trans (zhz (c:=20) fun r hr=>?_) (Nat.mul_le_mul_left _ (by rw [List.length_take];have:=hok.rels;omega))
  have:=(hok.rel r (List.mem_of_mem_take hr)).len
  show (xQ r.at_++zr r.size::(vZ r.name++xQ r.add)).length≤20
  rw [List.length_append,List.length_cons,List.length_append]
  show 4+(r.name.length+1+4+1)≤20
  omega
 rintro k hk
 refine ze _ ?_
 (all_goals refine qgs ?_<;>(repeat' first | exact trivial | intro hc | refine And.intro ?_ ?_)<;>refine Lf.mk ?_)
 ·obtain ⟨r,hrk⟩:=zP (l:=o.rels) (k:=k) (by omega)
  have hn:=(hok.rel r (List.mem_of_getElem? hrk)).len
  have hq:=hg k
  refine zl r (by omega) (by simpa using hrk) ?_
  (all_goals refine qgs ?_<;>(repeat' first | exact trivial | intro hc | refine And.intro ?_ ?_)<;>refine Lf.mk ?_)
  refine zu zaO [2] [2] (pre++(o.rels.take k).flatMap zbj,r.at_) (by dsimp only;rw [List.length_append];omega) rfl rfl ?_
  refine And.intro (VS.mk (LeL.of_eq rfl)) (And.intro (VS.mk rfl) ?_)
  (all_goals refine qgs ?_<;>(repeat' first | exact trivial | intro hc | refine And.intro ?_ ?_)<;>refine Lf.mk ?_)
  refine zau ?_
  (all_goals refine qgs ?_<;>(repeat' first | exact trivial | intro hc | refine And.intro ?_ ?_)<;>refine Lf.mk ?_)
  refine zau ?_
  (all_goals refine qgs ?_<;>(repeat' first | exact trivial | intro hc | refine And.intro ?_ ?_)<;>refine Lf.mk ?_)
  have e4:(xQ r.at_).length=4:=rfl
  refine yL ⟨by simp,by simp only [List.length_map,List.length_append,e4,List.length_cons,List.length_nil];omega⟩ ?_
  (all_goals refine qgs ?_<;>(repeat' first | exact trivial | intro hc | refine And.intro ?_ ?_)<;>refine Lf.mk ?_)
  refine zu zkU [2] [2] (pre++(o.rels.take k).flatMap zbj++xQ r.at_++[zr r.size],r.name) ⟨by simp only [List.length_append,e4,List.length_cons,List.length_nil];omega,by omega⟩ rfl rfl ?_
  refine And.intro (VS.mk (LeL.of_eq ?_)) (And.intro (VS.mk ?_) ?_)
  ·simp
  ·simp
  (all_goals refine qgs ?_<;>(repeat' first | exact trivial | intro hc | refine And.intro ?_ ?_)<;>refine Lf.mk ?_)
  refine zu zaO [2] [2] (pre++(o.rels.take k).flatMap zbj++xQ r.at_++[zr r.size]++vZ r.name,r.add) (by dsimp only;simp only [vZ,List.length_append,e4,List.length_cons,List.length_nil];omega) rfl rfl ?_
  refine And.intro (VS.mk (LeL.of_eq rfl)) (And.intro (VS.mk rfl) ?_)
  (all_goals refine qgs ?_<;>(repeat' first | exact trivial | intro hc | refine And.intro ?_ ?_)<;>refine Lf.mk ?_)
  have e:pre++(o.rels.take (k+1)).flatMap zbj=pre++(o.rels.take k).flatMap zbj++xQ r.at_++[zr r.size]++vZ r.name++xQ r.add:=by rw [zmN hrk];simp [zbj]
  refine zF (k+1) ?_ ?_ ?_
  ·omega
  ·omega
  rw [e]
  (repeat' (first | (refine VS.mk ?_) | exact trivial | exact rfl | refine And.intro ?_ ?_))
  (all_goals (first | rfl | (dsimp only;congr 1;omega) | (dsimp only;simp;done) | (dsimp only;simp;omega) | skip))
 obtain rfl:k=o.rels.length:=by omega
 rw [List.take_length]
 refine zd (VS.mk ?_)
 rw [if_pos (by assumption)]
 refine LeD.of_eq ?_
 rw [hc0]
 show D.tup [zk _,_]=_
 rw [← hpre]
 rfl
end Go.Proofs.YtnkdeacghopkiaaGreatDoor
namespace Go.Proofs.YtnkdeacghopkiaaGreatDoor
open Go Go.Plat
set_option linter.unusedVariables false
set_option linter.unusedSimpArgs false
set_option maxRecDepth 100000
set_option maxHeartbeats 2000000
attribute [local irreducible] AWP zG yn zK zn yA z8 zI zY z6 zw za zN yB zt z7 yx yy yq yt zx zz zD qr zE wy vu wv vY xu yF yD
structure zkV (b:List UInt8):Prop where
 plain:zhy b
 rels:∀ r∈(xu b).1.rels, -9223372036854775808≤r.at_∧r.at_≤9223372036854775807∧r.name.length≤1000000000
 syms:∀ s∈(xu b).1.syms,s.name.length≤1000000000
def zfc (m:Msg):Msg:=
 if (xu m.data).2.1≠0 then ⟨3,m.worker,m.unit,m.turn,(xu m.data).2.1,(xu m.data).2.2,[]⟩
 else if yD (xu m.data).1≠0 then ⟨3,m.worker,m.unit,m.turn,yD (xu m.data).1,(xu m.data).2.2,[]⟩
 else ⟨2,m.worker,m.unit,m.turn,0,0,vu (xu m.data).1⟩
def qt (f:zp) (w:Int):Bool:=(f.dead[w.toNat]?).getD true
def zbZ (f:zp) (m:Msg):zp:=if qt f m.worker=true then f else vY f (zfc m)
def zjs (m:Msg):List D:=[.int .i64 m.kind,.int .i64 m.worker,.int .i64 m.unit,.int .i64 m.turn,.int .i64 m.err,.int .i64 m.at_,zk m.data]
theorem zp1 (f:zp) (m:Msg):∀ x∈fO f++[.cells (zjs m)],ClO 5 x:=by
 intro x hx
 rcases List.mem_append.1 hx with hx | hx
 ·exact ClO.up (vz f x hx) (by decide)
 ·rw [List.mem_singleton.1 hx]
  exact .cells (.cons .int (.cons .int (.cons .int (.cons .int (.cons .int (.cons .int (.cons .sl .nil)))))))
theorem zrx:za Tryz.prog zqV (zQ (fun ((f,m):zp×Msg)=>FSm f∧0≤m.worker∧(qt f m.worker=true∨zkV m.data)) (fun _=>[.loc 0 0,.loc 4 0]) (fun (f,m)=>fO f++[.cells (zjs m)]) (fun _=>.tup []) fun (f,m)=>fO (zbZ f m)++[.cells (zjs m)]):=by
 refine zf zh Tryz.func37 rfl (by decide) ?_
 rintro ⟨f,m⟩ ⟨hf,hw0,hs⟩
 have hw0:0≤m.worker:=hw0
 have hs:qt f m.worker=true∨zkV m.data:=hs
 refine ⟨Nat.le_refl _,by simp [Tryz.f37],fun E hE=>?_⟩
 have hE5:E.L.length=5:=by rw [hE];rfl
 have hdd:=hf.dead
 have hW:zbZ f m=if qt f m.worker=true then f else vY f (zfc m):=rfl
 dsimp only
 generalize zbZ f m=F at *
 refine ze _ ?_
 (all_goals refine qgp ?_<;>(repeat' first | exact trivial | intro hc | refine And.intro ?_ ?_)<;>refine Lf.mk ?_)
 ·have hda:qt f m.worker=true:=by unfold qt;rw [List.getElem?_eq_none (by omega)];rfl
  rw [if_pos hda] at hW
  rw [hW]
  exact yQ rfl rfl
 ·have hlt:m.worker.toNat < f.dead.length:=by omega
  have hda:f.dead[m.worker.toNat]?=some (qt f m.worker):=by unfold qt;rw [List.getElem?_eq_getElem hlt];rfl
  refine zl (enc:=D.bool) (qt f m.worker) (Int.natCast_nonneg _) (by rw [Int.toNat_natCast,Nat.zero_add];exact hda) ?_
  (all_goals refine qgp ?_<;>(repeat' first | exact trivial | intro hc | refine And.intro ?_ ?_)<;>refine Lf.mk ?_)
  ·rw [if_pos hc] at hW
   rw [hW]
   exact yQ rfl rfl
  ·rw [hc,if_neg (by decide)] at hW
   rcases hs with hs | hs
   ·rw [hc] at hs;exact Bool.noConfusion hs
   refine zb zkS m.data hs.plain (VS.mk (LeL.of_eq rfl)) ?_
   have hR:zfc m=if (xu m.data).2.1≠0 then ⟨3,m.worker,m.unit,m.turn,(xu m.data).2.1,(xu m.data).2.2,[]⟩
    else if yD (xu m.data).1≠0 then ⟨3,m.worker,m.unit,m.turn,yD (xu m.data).1,(xu m.data).2.2,[]⟩
    else ⟨2,m.worker,m.unit,m.turn,0,0,vu (xu m.data).1⟩:=rfl
   have hrl:=hs.rels
   have hsy:=hs.syms
   generalize zfc m=R at *
   generalize xu m.data=U at *
   obtain ⟨o,fe,fa⟩:=U
   dsimp only at hR hrl hsy ⊢
   (all_goals refine qgp ?_<;>(repeat' first | exact trivial | intro hc | refine And.intro ?_ ?_)<;>refine Lf.mk ?_)
   ·rw [if_neg (fun h=>h hc)] at hR
    have hfe:=hc
    refine zb zp0 o ⟨hrl,hsy⟩ (VS.mk (LeL.of_eq rfl)) ?_
    (all_goals refine qgp ?_<;>(repeat' first | exact trivial | intro hc | refine And.intro ?_ ?_)<;>refine Lf.mk ?_)
    ·rw [if_pos hc] at hR
     subst hR
     refine xF zdg [_,_,_,_] (f,⟨3,m.worker,m.unit,m.turn,yD o,fa,[]⟩) hf rfl (.cons (.refl _) (.cons (LeD.agg (.cons (.refl _) (.cons (.refl _) (.cons (.refl _) (.cons (.refl _) (.cons (.refl _) (.cons (.refl _) (.cons (.nil 1) .nil)))))))) .nil)) rfl
      (.cons (.loc (Nat.lt_of_lt_of_le (by decide:0 < 4) (Nat.le_of_eq rfl))) (.cons (.agg (.cons .int (.cons .int (.cons .int (.cons .int (.cons .int (.cons .int (.cons .nilsl .nil)))))))) .nil)) .tup0 (vz _) (vz _) ?_
     dsimp only
     rw [← hW]
     (all_goals refine qgp ?_<;>(repeat' first | exact trivial | intro hc | refine And.intro ?_ ?_)<;>refine Lf.mk ?_)
     exact xq (fO F++[.cells (zjs m)]) [_,_,_] rfl (Nat.le_refl _) .tup0 (zp1 _ _)
    ·rw [if_neg (fun h=>h hc)] at hR
     rw [if_pos hc]
     subst hR
     refine xF zdg [_,_,_,_] (f,⟨2,m.worker,m.unit,m.turn,0,0,vu o⟩) hf rfl (LeL.of_eq rfl) rfl
      (.cons (.loc (Nat.lt_of_lt_of_le (by decide:0 < 4) (Nat.le_of_eq rfl))) (.cons (.agg (.cons .int (.cons .int (.cons .int (.cons .int (.cons .int (.cons .int (.cons .sl .nil)))))))) .nil)) .tup0 (vz _) (vz _) ?_
     dsimp only
     rw [← hW]
     (all_goals refine qgp ?_<;>(repeat' first | exact trivial | intro hc | refine And.intro ?_ ?_)<;>refine Lf.mk ?_)
     exact xq (fO F++[.cells (zjs m)]) [_,_,_] rfl (Nat.le_refl _) .tup0 (zp1 _ _)
   ·rw [if_pos hc] at hR
    subst hR
    refine xF zdg [_,_,_,_] (f,⟨3,m.worker,m.unit,m.turn,fe,fa,[]⟩) hf rfl (.cons (.refl _) (.cons (LeD.agg (.cons (.refl _) (.cons (.refl _) (.cons (.refl _) (.cons (.refl _) (.cons (.refl _) (.cons (.refl _) (.cons (.nil 1) .nil)))))))) .nil)) rfl
     (.cons (.loc (Nat.lt_of_lt_of_le (by decide:0 < 4) (Nat.le_of_eq rfl))) (.cons (.agg (.cons .int (.cons .int (.cons .int (.cons .int (.cons .int (.cons .int (.cons .nilsl .nil)))))))) .nil)) .tup0 (vz _) (vz _) ?_
    dsimp only
    rw [← hW]
    (all_goals refine qgp ?_<;>(repeat' first | exact trivial | intro hc | refine And.intro ?_ ?_)<;>refine Lf.mk ?_)
    exact xq (fO F++[.cells (zjs m)]) [_,_,_] rfl (Nat.le_refl _) .tup0 (zp1 _ _)
attribute [local irreducible] zbZ
def znP (j:yK) (m:Msg):yK:=⟨j.src, -1,j.turn,0,true,m.data,m.err,m.at_⟩
def zdh (f:zp) (m:Msg):zp:=
 if (f.jobs.length:Int)≤m.unit then f else if m.kind=1 then zbZ f m
 else if (zm f m.unit.toNat).done=false∧m.turn≤(zm f m.unit.toNat).turn∧0 < m.turn then wE f m.unit.toNat (znP (zm f m.unit.toNat) m) else f
def qu (f:zp) (b:List UInt8):zp:=if wv b≠0 then f else zdh f (wy b)
structure zkW (f:zp) (b:List UInt8):Prop where
 len:b.length≤1000000000
 lease:wv b=0→(wy b).kind=1→(wy b).unit < f.jobs.length→qt f (wy b).worker=true∨zkV (wy b).data
theorem zry {b:List UInt8} (h:wv b=0):yF (wy b)=0:=by
 unfold wv at h
 split at h
 ·exact absurd h (by decide)
 ·exact h
theorem zgd {m:Msg} (h:yF m=0):1≤m.kind∧m.kind≤3∧0≤m.worker∧m.worker < 3∧0≤m.unit∧m.unit < 4∧0≤m.turn∧m.turn≤65535:=by
 unfold yF at h
 split at h
 ·exact absurd h (by decide)
 split at h
 ·exact absurd h (by decide)
 ·omega
theorem zkX {l:List D} {k:Nat} {d:D} {K:D→Prop} (hk:k < l.length) (h:K d):zY (l.set k d) ((0+k:Nat):Int) K:=by
 have:=zl (enc:=id) (l:=l.set k d) (n:=((0+k:Nat):Int)) d (K:=K) (Int.natCast_nonneg _) (by rw [Int.toNat_natCast,Nat.zero_add];exact List.getElem?_set_self hk) h
 rwa [List.map_id] at this
theorem zA0 {l:List D} {k:Nat} {d:D}:l.set (0+k) d=l.set k d:=by rw [Nat.zero_add]
theorem zkY {l:List D} {k:Nat} {c d:D}:(l.set k c).set (0+k) d=l.set k d:=by rw [Nat.zero_add,List.set_set]
def dJ (j:yK) (w n:Int) (d o:D) (e a:Int):D:=.agg [zk j.src,.int .i64 w,.int .i64 j.turn,.int .i64 n,d,o,.int .i64 e,.int .i64 a]
theorem zrz:za Tryz.prog zqQ (zQ (fun ((f,b):zp×List UInt8)=>FIn f 2000000∧zkW f b) (fun (_,b)=>[.loc 0 0,zk b]) (fun (f,_)=>fO f) (fun _=>.tup []) fun (f,b)=>fO (qu f b)):=by
 refine zf zh Tryz.func23 rfl (by decide) ?_
 rintro ⟨f,b⟩ ⟨hf,hb⟩
 have hb:zkW f b:=hb
 have hf:FIn f 2000000:=hf
 refine ⟨Nat.le_refl _,by simp [Tryz.f23],fun E hE=>?_⟩
 have hE4:E.L.length=4:=by rw [hE];rfl
 have hjs:=hf.jobs
 have hF:qu f b=if wv b≠0 then f else zdh f (wy b):=rfl
 dsimp only
 generalize qu f b=F at *
 refine ze _ ?_
 (all_goals refine qgp ?_<;>(repeat' first | exact trivial | intro hc | refine And.intro ?_ ?_)<;>refine Lf.mk ?_)
 refine zb zoZ b hb.len (VS.mk (LeL.of_eq rfl)) ?_
 by_cases hp:wv b=0
 ·rw [if_neg (fun h=>h hp)] at hF
  have hlease:=hb.lease hp
  have hright:=zgd (zry hp)
  rw [if_pos hp,hp]
  generalize wy b=m at *
  have hC:zdh f m=if (f.jobs.length:Int)≤m.unit then f else if m.kind=1 then zbZ f m
   else if (zm f m.unit.toNat).done=false∧m.turn≤(zm f m.unit.toNat).turn∧0 < m.turn then wE f m.unit.toNat (znP (zm f m.unit.toNat) m) else f:=rfl
  rw [hC] at hF
  clear hC
  (all_goals refine qgp ?_<;>(repeat' first | exact trivial | intro hc | refine And.intro ?_ ?_)<;>refine Lf.mk ?_)
  ·exact absurd trivial hc
  ·rw [if_pos hc] at hF
   rw [hF]
   exact xq (fO f) [.cells (zjs m)] rfl (Nat.le_refl _) .tup0 (vz _)
  ·have hc0:¬ (f.jobs.length:Int)≤m.unit:=by assumption
   rw [if_neg hc0,if_pos hc] at hF
   rw [hF]
   refine zdC zrx (f,m) ⟨hf.sm,hright.2.2.1,hlease hc (by omega)⟩ rfl (LeL.refl _) ?_
   (all_goals refine qgp ?_<;>(repeat' first | exact trivial | intro hc | refine And.intro ?_ ?_)<;>refine Lf.mk ?_)
   exact xq (fO (zbZ f m)) [_] rfl (Nat.le_refl _) .tup0 (vz _)
  ·have hc0:¬ (f.jobs.length:Int)≤m.unit:=by assumption
   rw [if_neg hc0,if_neg hc] at hF
   obtain ⟨k,hk⟩:∃ k,k=m.unit.toNat:=⟨_,rfl⟩
   rw [← hk] at hF ⊢
   have hkl:k < f.jobs.length:=by omega
   obtain ⟨hx,hxm⟩:=zfb hkl
   obtain ⟨t0,t1,w0,w1,q0,q1⟩:=hf.nums _ hxm
   obtain ⟨j,hj⟩:∃ j,j=zm f k:=⟨_,rfl⟩
   rw [← hj] at hF hx t0 t1
   have ix:=fun {l:List yK} {j:yK} (h:l[k]?=some j) {K:D→Prop} (hK:K (yo j))=>zl (enc:=yo) (n:=((0+k:Nat):Int)) j (Int.natCast_nonneg _) (by rw [Int.toNat_natCast,Nat.zero_add];exact h) hK
   have iy:=fun (j:yK) {K:D→Prop} (hK:K (yo j))=>ix (l:=f.jobs.set k j) (zlR hkl) hK
   have out:∀ X,zI (fO f).length (zaX []) (D.tup []) (fO f++X) (fO f):=fun X=>xq (fO f) X rfl (Nat.le_refl _) .tup0 (vz _)
   refine ix hx ?_
   (all_goals refine qgp ?_<;>(repeat' first | exact trivial | intro hc | refine And.intro ?_ ?_)<;>refine Lf.mk ?_)
   ·have hd0:=hc
    refine ix hx ?_
    (all_goals refine qgp ?_<;>(repeat' first | exact trivial | intro hc | refine And.intro ?_ ?_)<;>refine Lf.mk ?_)
    ·rw [if_pos ⟨hd0,by assumption,hc⟩] at hF
     have hO:=zkT f k (znP j m)
     have hml:k < (f.jobs.map yo).length:=by rw [List.length_map];exact hkl
     rw [← hF] at hO
     refine ix hx ?_
     (all_goals refine qgk ?_<;>(repeat' first | exact trivial | intro hc | refine And.intro ?_ ?_)<;>refine Lf.mk ?_)
     refine xd ((f.jobs.map yo).set k (dJ j j.worker j.wait .tt (zk j.obj) j.fe j.fa)) zA0 ?_
     (all_goals refine qgk ?_<;>(repeat' first | exact trivial | intro hc | refine And.intro ?_ ?_)<;>refine Lf.mk ?_)
     refine yL (by rw [List.length_set,List.length_map]) (VS.mk (zkX hml ?_))
     (all_goals refine qgk ?_<;>(repeat' first | exact trivial | intro hc | refine And.intro ?_ ?_)<;>refine Lf.mk ?_)
     refine xd ((f.jobs.map yo).set k (dJ j (-1) j.wait .tt (zk j.obj) j.fe j.fa)) zkY ?_
     (all_goals refine qgk ?_<;>(repeat' first | exact trivial | intro hc | refine And.intro ?_ ?_)<;>refine Lf.mk ?_)
     refine yL (by rw [List.length_set,List.length_map]) (VS.mk (zkX hml ?_))
     (all_goals refine qgk ?_<;>(repeat' first | exact trivial | intro hc | refine And.intro ?_ ?_)<;>refine Lf.mk ?_)
     refine xd ((f.jobs.map yo).set k (dJ j (-1) 0 .tt (zk j.obj) j.fe j.fa)) zkY ?_
     (all_goals refine qgk ?_<;>(repeat' first | exact trivial | intro hc | refine And.intro ?_ ?_)<;>refine Lf.mk ?_)
     refine yL (by rw [List.length_set,List.length_map]) (VS.mk (zkX hml ?_))
     (all_goals refine qgk ?_<;>(repeat' first | exact trivial | intro hc | refine And.intro ?_ ?_)<;>refine Lf.mk ?_)
     refine xd ((f.jobs.map yo).set k (dJ j (-1) 0 .tt (zk m.data) j.fe j.fa)) zkY ?_
     (all_goals refine qgk ?_<;>(repeat' first | exact trivial | intro hc | refine And.intro ?_ ?_)<;>refine Lf.mk ?_)
     refine yL (by rw [List.length_set,List.length_map]) (VS.mk (zkX hml ?_))
     (all_goals refine qgk ?_<;>(repeat' first | exact trivial | intro hc | refine And.intro ?_ ?_)<;>refine Lf.mk ?_)
     refine xd ((f.jobs.map yo).set k (dJ j (-1) 0 .tt (zk m.data) m.err m.at_)) zkY ?_
     (all_goals refine qgk ?_<;>(repeat' first | exact trivial | intro hc | refine And.intro ?_ ?_)<;>refine Lf.mk ?_)
     refine zrM (k:=1) (e:=8) ((f.jobs.map yo).set k (yo (znP j m))) rfl (by rw [List.length_set,List.length_set]) (zrN (.cons (.refl _) (.cons (.refl _) (.cons (.refl _) (.cons (.refl _) (.cons (LeD.tt rfl) (.cons (.refl _) (.cons (.refl _) (.cons (.refl _) .nil))))))))) ?_ (Nat.le_refl _)
     exact xq (fO F) [_] (by rw [hO,List.map_set];rfl) (Nat.le_refl _) .tup0 (vz _)
    ·rw [if_neg (fun e=>hc e.2.2)] at hF
     rw [hF]
     exact out [_]
    ·rw [if_neg (fun e=>hc e.2.1)] at hF
     rw [hF]
     exact out [_]
   ·rw [if_neg (fun e=>by rw [hc] at e;exact Bool.noConfusion e.1)] at hF
    rw [hF]
    exact out [_]
 ·rw [if_pos hp] at hF
  rw [if_neg hp,hF]
  (all_goals refine qgp ?_<;>(repeat' first | exact trivial | intro hc | refine And.intro ?_ ?_)<;>refine Lf.mk ?_)
  exact xq (fO f) [_] rfl (Nat.le_refl _) .tup0 (vz _)
theorem xw {m:Nat→Option Nat} {ds:List D} {K:List D→Prop} (h:∀ d∈ds,ClD 0 d∧ClL 0 d.cells) (hK:K ds):zoi m ds K:=by
 unfold zoi
 refine ⟨ds,⟨rfl,fun i d d' h1 h2=>?_⟩,fun i d d' h1 h2=>?_,hK⟩
 ·rw [h1] at h2;cases h2;exact xI.flat (h d (List.mem_of_getElem? h1)).1
 ·rw [h1] at h2;cases h2
  exact ⟨rfl,(h d (List.mem_of_getElem? h1)).2.ren fun k hk=>absurd hk (Nat.not_lt_zero k)⟩
theorem zcw {m:Nat→Option Nat} {ds:List D} (h:∀ d∈ds,ClD 0 d∧ClL 0 d.cells):∀ (i:Nat) d d',ds[i]?=some d→ds[i]?=some d'→d.cells.length=d'.cells.length∧qC m d.cells d'.cells:=fun i d d' h1 h2=>by
 rw [h1] at h2;cases h2
 exact ⟨rfl,(h d (List.mem_of_getElem? h1)).2.ren fun k hk=>absurd hk (Nat.not_lt_zero k)⟩
theorem qO {l:List Bool}:∀ d∈l.map D.bool,ClD 0 d∧ClL 0 d.cells:=fun d hd=>by
 obtain ⟨b,_,rfl⟩:=List.mem_map.1 hd
 exact ⟨.bool,.cons .bool .nil⟩
theorem v6 {l:List (List UInt8)}:∀ d∈l.map zk,ClD 0 d∧ClL 0 d.cells:=fun d hd=>by
 obtain ⟨b,_,rfl⟩:=List.mem_map.1 hd
 exact ⟨.sl,.cons .sl .nil⟩
theorem zcx {l:List yK}:∀ d∈l.map yo,ClD 0 d∧ClL 0 d.cells:=fun d hd=>by
 obtain ⟨b,_,rfl⟩:=List.mem_map.1 hd
 have h:ClL 0 (yo b).cells:=.cons .sl (.cons .int (.cons .int (.cons .int (.cons .bool (.cons .sl (.cons .int (.cons .int .nil)))))))
 exact ⟨.agg h,h⟩
theorem zhA:za Tryz.prog zdE (zQ (fun ds:List Bool=>ds≠[]∧ds.length≤1000) (fun ds=>[.sl 1 (ds.map D.bool) none]) (fun _=>[]) (fun ds=>.osl 1 0 ds.length 0 ds.length) fun ds=>[.arr 1 (ds.map D.bool)]):=by
 refine zf zh Tryz.func33 rfl (by decide) ?_
 rintro ds ⟨h0,hds⟩
 refine ⟨by simp,by simp [Tryz.f33],fun E hE=>?_⟩
 refine xW (ze _ ?_)
 (all_goals refine qgp ?_<;>(repeat' first | exact trivial | intro hc | refine And.intro ?_ ?_)<;>refine Lf.mk ?_)
 refine xW (ze _ ?_)
 (all_goals refine qgp ?_<;>(repeat' first | exact trivial | intro hc | refine And.intro ?_ ?_)<;>refine Lf.mk ?_)
 refine zgP (fun h=>?_) ?_
 ·exact absurd (List.map_eq_nil_iff.1 h) h0
 (all_goals refine qgp ?_<;>(repeat' first | exact trivial | intro hc | refine And.intro ?_ ?_)<;>refine Lf.mk ?_)
 refine xW ?_
 refine zuy zh (t:=5) rfl rfl (by simp [Tryz.f33]) .nilsl [] _ _ ?_ (zqM 5 1 rfl) ?_
 ·(all_goals refine qgs ?_<;>(repeat' first | exact trivial | intro hc | refine And.intro ?_ ?_)<;>refine Lf.mk ?_)
  refine zau (VS.mk (zau ?_))
  exact VS.mk (And.intro rfl rfl)
 ·(all_goals refine qgp ?_<;>(repeat' first | exact trivial | intro hc | refine And.intro ?_ ?_)<;>refine Lf.mk ?_)
  refine ze _ ?_
  (all_goals refine qgp ?_<;>(repeat' first | exact trivial | intro hc | refine And.intro ?_ ?_)<;>refine Lf.mk ?_)
  exact yQ (by rw [List.nil_append,List.length_map];rfl) rfl
theorem zcy {l:List UInt8}:∀ (i:Nat) d,(l.map zC)[i]?=some d→d.cells.length=1:=fun i d hd=>by
 obtain ⟨c,_,rfl⟩:=List.mem_map.1 (List.mem_of_getElem? hd);rfl
def zAp (f:zp):D:=.agg [.int .i64 f.base,.osl 8 0 f.jobs.length 0 f.jobs.length,.osl 1 1 f.dead.length 0 f.dead.length,.osl 1 2 f.way.length 0 f.way.length]
structure znQ (f:zp):Prop where
 jobs:f.jobs.length≤1000
 dead:f.dead≠[]∧f.dead.length≤1000
 way:f.way.length≤1000
 data:∀ j∈f.jobs,j.src.length≤100000000∧j.obj.length≤100000000
 msgs:∀ b∈f.way,b.length≤100000000
def zlS (f g:zp):List Ob:=fO g++[.cells [.int .i64 f.base,.sl 8 (f.jobs.map yo) none,.sl 1 (f.dead.map D.bool) none,.sl 1 (f.way.map zk) none],.cells [.int .i64 0,.nilsl,.nilsl,.nilsl]]
theorem zzc (f g:zp):∀ x∈zlS f g,ClO 6 x:=by
 intro x hx
 rcases List.mem_append.1 hx with hx | hx
 ·exact ClO.up (vz g x hx) (by decide)
 simp only [List.mem_cons,List.not_mem_nil,or_false] at hx
 rcases hx with rfl | rfl
 ·exact .cells (.cons .int (.cons .sl (.cons .sl (.cons .sl .nil))))
 ·exact .cells (.cons .int (.cons .nilsl (.cons .nilsl (.cons .nilsl .nil))))
theorem zkZ:za Tryz.prog zko (zQ znQ (fun f=>[xR f]) (fun _=>[]) zAp fun f=>[.arr 8 (f.jobs.map yo),.arr 1 (f.dead.map D.bool),.arr 1 (f.way.map zk)]):=by
 refine zf zh Tryz.func20 rfl (by decide) ?_
 rintro f hf
 refine ⟨by show 0≤3;decide,by simp [Tryz.f20],fun E hE=>?_⟩
 have hE0:E.L.length=0:=by rw [hE];rfl
 obtain ⟨hfj,hfd,hfw,hfdata,hfm⟩:=hf
 obtain ⟨base,jobs,dead,way⟩:=f
 have hfj:jobs.length≤1000:=hfj
 have hfw:way.length≤1000:=hfw
 refine xW (ze _ ?_)
 (all_goals refine qgp ?_<;>(repeat' first | exact trivial | intro hc | refine And.intro ?_ ?_)<;>refine Lf.mk ?_)
 refine zbA (α:=Unit) (fun _=>True) (fun _=>[(1,.loc 4 0),(2,.loc 5 0),(3,.loc 0 0)]) (fun _=>zlS ⟨base,jobs,dead,way⟩ ⟨base,[],dead,[]⟩) (ze _ ?_) (fun _ _=>?_)
 ·(all_goals refine qgn ?_<;>(repeat' first | exact trivial | intro hc | refine And.intro ?_ ?_)<;>refine Lf.mk ?_)
  refine zj7 ?_
  refine zfI zh mixed 4 6 [0,1,2,3,6,4,5,7] [0,1,2,3,5,6,4,7] rfl rfl rfl ?_ ?_
  ·(all_goals refine qgp ?_<;>(repeat' first | exact trivial | intro hc | refine And.intro ?_ ?_)<;>refine Lf.mk ?_)
   refine zu zhA [] [2] dead hfd rfl rfl (And.intro (VS.mk (LeL.of_eq rfl)) (And.intro (VS.mk rfl) ?_))
   (all_goals refine qgp ?_<;>(repeat' first | exact trivial | intro hc | refine And.intro ?_ ?_)<;>refine Lf.mk ?_)
   refine xw qO ?_
   (all_goals refine qgp ?_<;>(repeat' first | exact trivial | intro hc | refine And.intro ?_ ?_)<;>refine Lf.mk ?_)
   refine Exists.intro () (And.intro trivial ?_)
   refine xK (qe 3 8 [.int .i64 base,.osl 8 4 0 0 0,.osl 1 2 dead.length 0 dead.length,.nilsl] rfl ⟨.same,.here,.same,.same,trivial⟩) ?_
   refine xK (qe 3 1 [.int .i64 base,.osl 8 4 0 0 0,.osl 1 2 dead.length 0 dead.length,.osl 1 5 0 0 0] rfl ⟨.same,.same,.same,.here,trivial⟩) ?_
   refine vQ [3,4,2,5,0,1] rfl (by rw [hE0];rfl) ?_ ⟨.loc rfl,.loc rfl,.loc rfl,trivial⟩
   exact .cons rfl ⟨_,rfl,.cons (.flat .int) (.cons (.osl rfl) (.cons (.osl rfl) (.cons (.osl rfl) .nil)))⟩ (.cons (o:=.arr 8 []) rfl ⟨_,rfl,rfl,by simp⟩ (.cons (o:=.arr 1 (dead.map D.bool)) rfl ⟨_,rfl,rfl,zcw qO⟩ (.cons (o:=.arr 1 []) rfl ⟨_,rfl,rfl,by simp⟩
    (.cons rfl ⟨_,rfl,.cons (.flat .int) (.cons (.flat .sl) (.cons (.flat .sl) (.cons (.flat .sl) .nil)))⟩ (.cons rfl ⟨_,rfl,.cons (.flat .int) (.cons (.flat .nilsl) (.cons (.flat .nilsl) (.cons (.flat .nilsl) .nil)))⟩ .nil)))))
  ·(all_goals refine qgp ?_<;>(repeat' first | exact trivial | intro hc | refine And.intro ?_ ?_)<;>refine Lf.mk ?_)
   refine zu zhA [] [3] dead hfd rfl rfl (And.intro (VS.mk (LeL.of_eq rfl)) (And.intro (VS.mk rfl) ?_))
   (all_goals refine qgp ?_<;>(repeat' first | exact trivial | intro hc | refine And.intro ?_ ?_)<;>refine Lf.mk ?_)
   refine xw qO ?_
   (all_goals refine qgp ?_<;>(repeat' first | exact trivial | intro hc | refine And.intro ?_ ?_)<;>refine Lf.mk ?_)
   refine Exists.intro () (And.intro trivial ?_)
   refine xK (qe 2 8 [.int .i64 base,.osl 8 4 0 0 0,.osl 1 3 dead.length 0 dead.length,.nilsl] rfl ⟨.same,.here,.same,.same,trivial⟩) ?_
   refine xK (qe 2 1 [.int .i64 base,.osl 8 4 0 0 0,.osl 1 3 dead.length 0 dead.length,.osl 1 5 0 0 0] rfl ⟨.same,.same,.same,.here,trivial⟩) ?_
   refine vQ [2,4,3,5,0,1] rfl (by rw [hE0];rfl) ?_ ⟨.loc rfl,.loc rfl,.loc rfl,trivial⟩
   exact .cons rfl ⟨_,rfl,.cons (.flat .int) (.cons (.osl rfl) (.cons (.osl rfl) (.cons (.osl rfl) .nil)))⟩ (.cons (o:=.arr 8 []) rfl ⟨_,rfl,rfl,by simp⟩ (.cons (o:=.arr 1 (dead.map D.bool)) rfl ⟨_,rfl,rfl,zcw qO⟩ (.cons (o:=.arr 1 []) rfl ⟨_,rfl,rfl,by simp⟩
    (.cons rfl ⟨_,rfl,.cons (.flat .int) (.cons (.flat .sl) (.cons (.flat .sl) (.cons (.flat .sl) .nil)))⟩ (.cons rfl ⟨_,rfl,.cons (.flat .int) (.cons (.flat .nilsl) (.cons (.flat .nilsl) (.cons (.flat .nilsl) .nil)))⟩ .nil)))))
 ·dsimp only
  refine ze _ ?_
  (all_goals refine qgp ?_<;>(repeat' first | exact trivial | intro hc | refine And.intro ?_ ?_)<;>refine Lf.mk ?_)
  refine yp (α:=Nat) (fun k=>k≤jobs.length) (fun k=>[(1,.loc 4 0),(2,.loc 5 0),(3,.loc 0 0),(15,.sl 8 (jobs.map yo) none),(16,.int .i64 jobs.length),(17,.int .i64 k)]) (fun k=>zlS ⟨base,jobs,dead,way⟩ ⟨base,jobs.take k,dead,[]⟩) (fun k=>jobs.length - k) (fun _=>by rw [hE0];exact Nat.zero_le _) 0 (Nat.zero_le _) ?_ ?_
  ·exact yf rfl ⟨rfl,rfl,rfl,rfl,rfl,rfl,trivial⟩
  intro k hk
  have hk:k≤jobs.length:=hk
  refine ze _ ?_
  (all_goals refine qgp ?_<;>(repeat' first | exact trivial | intro hc | refine And.intro ?_ ?_)<;>refine Lf.mk ?_)
  ·have hkl:k < jobs.length:=by omega
   obtain ⟨j,hj⟩:=zP (l:=jobs) (k:=k) hkl
   obtain ⟨hs,ho⟩:=hfdata j (List.mem_of_getElem? hj)
   refine zl j (Int.natCast_nonneg _) (by rw [Int.toNat_natCast];exact hj) ?_
   (all_goals refine qgp ?_<;>(repeat' first | exact trivial | intro hc | refine And.intro ?_ ?_)<;>refine Lf.mk ?_)
   refine zb qi (j.src.map zC) ⟨by simpa using hs,zcy⟩ (VS.mk (LeL.of_eq rfl)) ?_
   (all_goals refine qgp ?_<;>(repeat' first | exact trivial | intro hc | refine And.intro ?_ ?_)<;>refine Lf.mk ?_)
   refine zb qi (j.obj.map zC) ⟨by simpa using ho,zcy⟩ (VS.mk (LeL.of_eq rfl)) ?_
   (all_goals refine qgp ?_<;>(repeat' first | exact trivial | intro hc | refine And.intro ?_ ?_)<;>refine Lf.mk ?_)
   have htk:jobs.take (k+1)=jobs.take k++[j]:=by rw [List.take_add_one,hj];rfl
   refine w9 (k+1) [.cells (yo j).cells] (by show k+1≤_;omega) (by omega) ?_ (by rw [hE0];exact Nat.zero_le _) (zzc _ _) ⟨rfl,rfl,rfl,rfl,rfl,rfl,trivial⟩ (.cons (.loc (by show 4 < 6;decide)) (.cons (.loc (by show 5 < 6;decide)) (.cons (.loc (by show 0 < 6;decide)) (.cons .sl (.cons .int (.cons .int .nil))))))
   unfold zlS fO fC
   simp only [htk,List.map_append,List.length_append,List.length_map]
   rfl
  ·have hkn:k=jobs.length:=by omega
   rw [hkn,List.take_length]
   refine yp (α:=Nat) (fun k=>k≤way.length) (fun k=>[(1,.loc 4 0),(2,.loc 5 0),(3,.loc 0 0),(37,.sl 1 (way.map zk) none),(38,.int .i64 way.length),(39,.int .i64 k)]) (fun k=>zlS ⟨base,jobs,dead,way⟩ ⟨base,jobs,dead,way.take k⟩) (fun k=>way.length - k) (fun _=>by rw [hE0];exact Nat.zero_le _) 0 (Nat.zero_le _) ?_ ?_
   ·exact yf rfl ⟨rfl,rfl,rfl,rfl,rfl,rfl,trivial⟩
   intro q hq
   have hq:q≤way.length:=hq
   refine ze _ ?_
   (all_goals refine qgp ?_<;>(repeat' first | exact trivial | intro hc | refine And.intro ?_ ?_)<;>refine Lf.mk ?_)
   ·have hql:q < way.length:=by omega
    obtain ⟨b,hb⟩:=zP (l:=way) (k:=q) hql
    have hbl:=hfm b (List.mem_of_getElem? hb)
    refine zl b (Int.natCast_nonneg _) (by rw [Int.toNat_natCast];exact hb) ?_
    (all_goals refine qgp ?_<;>(repeat' first | exact trivial | intro hc | refine And.intro ?_ ?_)<;>refine Lf.mk ?_)
    refine zb qi (b.map zC) ⟨by simpa using hbl,zcy⟩ (VS.mk (LeL.of_eq rfl)) ?_
    (all_goals refine qgp ?_<;>(repeat' first | exact trivial | intro hc | refine And.intro ?_ ?_)<;>refine Lf.mk ?_)
    have htk:way.take (q+1)=way.take q++[b]:=by rw [List.take_add_one,hb];rfl
    refine yj (q+1) (by show q+1≤_;omega) (by omega) ?_ ⟨rfl,rfl,rfl,rfl,rfl,rfl,trivial⟩
    unfold zlS fO fC
    simp only [htk,List.map_append,List.length_append,List.length_map]
    rfl
   ·have hqn:q=way.length:=by omega
    rw [hqn,List.take_length]
    refine yT [1,2,3] rfl rfl ?_
    (all_goals refine qgp ?_<;>(repeat' first | exact trivial | intro hc | refine And.intro ?_ ?_)<;>refine Lf.mk ?_)
    refine xw zcx ?_
    (all_goals refine qgp ?_<;>(repeat' first | exact trivial | intro hc | refine And.intro ?_ ?_)<;>refine Lf.mk ?_)
    refine xw qO ?_
    (all_goals refine qgp ?_<;>(repeat' first | exact trivial | intro hc | refine And.intro ?_ ?_)<;>refine Lf.mk ?_)
    refine xw v6 ?_
    exact And.intro (VS.mk rfl) (VS.mk rfl)
attribute [local irreducible] zdh vA
theorem zge {l:List D} (h1c:∀ d∈l,jn d.cells=true) (h:∀ d∈l,∀ c∈d.cells,c.flat∨∃ e ds,c= .sl e ds none):qU l l:=by
 refine ⟨rfl,fun i d d' h1 h2=>?_⟩
 rw [h1] at h2;cases h2
 refine ⟨rfl,h1c d (List.mem_of_getElem? h1),fun j c c' h3 h4=>?_⟩
 rw [h3] at h4;cases h4
 intro w F ρ L v hr
 rcases h d (List.mem_of_getElem? h1) c (List.mem_of_getElem? h3) with hc | ⟨e,ds,rfl⟩
 ·exact hr.pure_inv hc
 ·exact hr.sl_inv
theorem ziK (l:List (List UInt8)):qU (l.map zk) (l.map zk):=zge (fun d hd=>by obtain ⟨b,_,rfl⟩:=List.mem_map.1 hd;rfl) fun d hd c hc=>by
 obtain ⟨b,_,rfl⟩:=List.mem_map.1 hd
 rw [List.mem_singleton.1 hc]
 exact .inr ⟨_,_,rfl⟩
theorem ziL (l:List Bool):qU (l.map D.bool) (l.map D.bool):=zge (fun d hd=>by obtain ⟨b,_,rfl⟩:=List.mem_map.1 hd;rfl) fun d hd c hc=>by
 obtain ⟨b,_,rfl⟩:=List.mem_map.1 hd
 rw [List.mem_singleton.1 hc]
 exact .inl trivial
theorem zk0 (l:List yK):qU (l.map yo) (l.map yo):=zge (fun d hd=>by obtain ⟨b,_,rfl⟩:=List.mem_map.1 hd;rfl) fun d hd c hc=>by
 obtain ⟨b,_,rfl⟩:=List.mem_map.1 hd
 simp only [yo,D.cells,List.mem_cons,List.not_mem_nil,or_false] at hc
 rcases hc with rfl | rfl | rfl | rfl | rfl | rfl | rfl | rfl
 ·exact .inr ⟨_,_,rfl⟩
 ·exact .inl trivial
 ·exact .inl trivial
 ·exact .inl trivial
 ·exact .inl trivial
 ·exact .inr ⟨_,_,rfl⟩
 ·exact .inl trivial
 ·exact .inl trivial
theorem zdm {k e:Nat} {els els':List D} {t:Nat} {a b c d a' b' c' d':D} (h0:Fz k e els els' t a a') (h1:Fz k e els els' t b b') (h2:Fz k e els els' t c c') (h3:Fz k e els els' t d d'):Fz k e els els' t (.agg [a,b,c,d]) (.agg [a',b',c',d']):=by
 refine .agg _ _ rfl fun j x x' g1 g2=>?_
 match j,g1,g2 with
 | 0,g1,g2=>cases g1;cases g2;exact h0
 | 1,g1,g2=>cases g1;cases g2;exact h1
 | 2,g1,g2=>cases g1;cases g2;exact h2
 | 3,g1,g2=>cases g1;cases g2;exact h3
 | j+4,g1,g2=>cases g1
theorem zp2 {k e:Nat} {els els':List D} {t:Nat} {a b a':D} (h0:Fz k e els els' t a a'):Fz k e els els' t (.tup [a,b]) (.tup [a',b]):=by
 refine .tup _ _ rfl fun j x x' g1 g2=>?_
 match j,g1,g2 with
 | 0,g1,g2=>cases g1;cases g2;exact h0
 | 1,g1,g2=>cases g1;cases g2;exact .keep _
 | j+2,g1,g2=>cases g1
theorem zjt {L:List Ob} {a b n:Nat} {o:Ob} (hab:a≠b) (hb:L[b]?=some o):(L.set a .dead++[.spare n])[b]?=some o:=by
 have hl:=(List.getElem?_eq_some_iff.1 hb).1
 rw [List.getElem?_append_left (by rw [List.length_set];exact hl),List.getElem?_set_ne hab,hb]
theorem zcz (f:zp) (L:List Ob) (c:Nat) (e:Int) (ha:L[1]?=some (.arr 8 (f.jobs.map yo))) (hb:L[2]?=some (.arr 1 (f.dead.map D.bool))) (hc:L[c]?=some (.arr 1 (f.way.map zk))) (h3:3≤c) :
  zI 0 (.tup [.agg [.int .i64 f.base,.osl 8 1 f.jobs.length 0 f.jobs.length,.osl 1 2 f.dead.length 0 f.dead.length,.osl 1 c f.way.length 0 f.way.length],.int .i64 e]) (.tup [xR f,.int .i64 e]) L []:=by
 refine vO (k:=1) (e:=8) (els:=f.jobs.map yo) (els':=f.jobs.map yo) (r1:=.tup [.agg [.int .i64 f.base,.sl 8 (f.jobs.map yo) (some L.length),.osl 1 2 f.dead.length 0 f.dead.length,.osl 1 c f.way.length 0 f.way.length],.int .i64 e]) ha (Nat.zero_le _) (zk0 _)
  (zp2 (zdm (.keep _) (.here _ _ (by simp) (by simp)) (.keep _) (.keep _))) ?_ (Nat.zero_le _)
 have hb:=zjt (a:=1) (n:=(f.jobs.map yo).length) (by decide) hb
 have hc:=zjt (a:=1) (n:=(f.jobs.map yo).length) (by omega) hc
 generalize L.set 1 Ob.dead++[Ob.spare (f.jobs.map yo).length]=L1 at *
 refine vO (k:=2) (e:=1) (els:=f.dead.map D.bool) (els':=f.dead.map D.bool) (r1:=.tup [.agg [.int .i64 f.base,.sl 8 (f.jobs.map yo) (some L.length),.sl 1 (f.dead.map D.bool) (some L1.length),.osl 1 c f.way.length 0 f.way.length],.int .i64 e]) hb (Nat.zero_le _) (ziL _)
  (zp2 (zdm (.keep _) (.keep _) (.here _ _ (by simp) (by simp)) (.keep _))) ?_ (Nat.zero_le _)
 have hc:=zjt (a:=2) (n:=(f.dead.map D.bool).length) (by omega) hc
 generalize L1.set 2 Ob.dead++[Ob.spare (f.dead.map D.bool).length]=L2 at *
 refine vO (k:=c) (e:=1) (els:=f.way.map zk) (els':=f.way.map zk) hc (Nat.zero_le _) (ziK _)
  (zp2 (zdm (.keep _) (.keep _) (.keep _) (.here _ _ (by simp) (by simp)))) ?_ (Nat.zero_le _)
 exact zd (VS.mk (LeD.tup (.cons (LeD.agg (.cons (.refl _) (.cons (.strip _ _ _) (.cons (.strip _ _ _) (.cons (.strip _ _ _) .nil))))) (LeL.refl _))))
theorem zxq (f:zp) (X:List Ob) (e:Int):zI 0 (.tup [.agg (fC f),.int .i64 e]) (.tup [xR f,.int .i64 e]) (fO f++X) []:=zcz f _ 3 e rfl rfl rfl (Nat.le_refl _)
theorem zzd (f:zp):zI 0 (zAp f) (xR f) [.arr 8 (f.jobs.map yo),.arr 1 (f.dead.map D.bool),.arr 1 (f.way.map zk)] []:=by
 refine vO (k:=0) (e:=8) (els:=f.jobs.map yo) (els':=f.jobs.map yo) (r1:=.agg [.int .i64 f.base,.sl 8 (f.jobs.map yo) (some 3),.osl 1 1 f.dead.length 0 f.dead.length,.osl 1 2 f.way.length 0 f.way.length]) rfl (Nat.zero_le _) (zk0 _)
  (zdm (.keep _) (.here _ _ (by simp) (by simp)) (.keep _) (.keep _)) ?_ (Nat.zero_le _)
 refine vO (k:=1) (e:=1) (els:=f.dead.map D.bool) (els':=f.dead.map D.bool) (r1:=.agg [.int .i64 f.base,.sl 8 (f.jobs.map yo) (some 3),.sl 1 (f.dead.map D.bool) (some 4),.osl 1 2 f.way.length 0 f.way.length]) rfl (Nat.zero_le _) (ziL _)
  (zdm (.keep _) (.keep _) (.here _ _ (by simp) (by simp)) (.keep _)) ?_ (Nat.zero_le _)
 refine vO (k:=2) (e:=1) (els:=f.way.map zk) (els':=f.way.map zk) rfl (Nat.zero_le _) (ziK _)
  (zdm (.keep _) (.keep _) (.keep _) (.here _ _ (by simp) (by simp))) ?_ (Nat.zero_le _)
 exact zd (VS.mk (LeD.agg (.cons (.refl _) (.cons (.strip _ _ _) (.cons (.strip _ _ _) (.cons (.strip _ _ _) .nil))))))
theorem zvM {P:Program} {f:Nat} {α:Type} {I:α→Prop} {A:α→List D} {R R':α→D} {O':α→List Ob} (h:za P f (zQ I A (fun _=>[]) R O')) (he:∀ p,I p→zI 0 (R p) (R' p) (O' p) []):za P f (zy I A R'):=by
 unfold za at h ⊢
 refine ⟨h.1,?_⟩
 rintro av L d L' ⟨p,hI,has,rfl,rfl,rfl⟩ w ρ vs hf hr
 refine (h.2 av [] (R p) (O' p) ⟨p,hI,has,rfl,rfl,rfl⟩ w ρ vs hf hr).mono ?_
 rintro e w' ⟨v,ρ',rfl,hp⟩
 have hend:∃ φ,xJ 0 φ (O' p) []∧φ (R p) (R' p):=by
  have:=he p hI
  unfold zI at this
  rcases this with h | h
  ·obtain ⟨r',hr1,hr2⟩:=w8 h
   obtain ⟨L3,⟨hr3,hr4⟩,_,hS⟩:=kY hr2 (Nat.zero_le _)
   have hr3:=hr3.out
   have hr4:=hr4.out
   subst hr3
   subst hr4
   exact ⟨_,hS,hr1⟩
  ·exact h
 obtain ⟨φ,hS,hφ⟩:=hend
 obtain ⟨ρ2,g1,g2,g3,g4⟩:=hS w' ρ' hp.fits
 exact ⟨v,ρ2,rfl,g1,g2 _ _ _ hφ hp.rep,hp.ext,fun b off ho=>hp.fresh b off (g3 b off ho),g4 ρ [] rfl hp.compat⟩
theorem zrA:za Tryz.prog zko (zy znQ (fun f=>[xR f]) xR):=zvM zkZ fun f _=>zzd f
attribute [local irreducible] qu
structure Stp where
 kind:Int
 n:Int
def zgf (s:Stp):D:=.agg [.int .i64 s.kind,.int .i64 s.n]
def wZ (f:zp) (n:Int):List UInt8:=(f.way[n.toNat]?).getD []
def j9 (f:zp) (n:Int):zp:={ f with way:=f.way.eraseIdx n.toNat }
def zp3 (f:zp) (n:Int):zp:={ f with dead:=f.dead.set n.toNat (!qt f n) }
def doF (f:zp) (s:Stp):zp×Int:=
 if s.kind=1 then (vA f,0)
 else if s.kind=2∨s.kind=3∨s.kind=4 then
  if s.n < 0∨(f.way.length:Int)≤s.n then (f,6)
  else if s.kind=4 then (if f.way.length < 12 then { f with way:=f.way++[wZ f s.n] } else f,0)
  else if s.kind=2 then (qu (j9 f s.n) (wZ f s.n),0) else (j9 f s.n,0)
 else if s.kind=5 then if s.n < 0∨(f.dead.length:Int)≤s.n then (f,6) else (zp3 f s.n,0)
 else (f,1)
structure zju (f:zp) (s:Stp):Prop where
 own:znQ f
 nums:FIn f 1000000
 num: -9223372036854775808≤s.n∧s.n≤9223372036854775807
 come:s.kind=2→0≤s.n→s.n < f.way.length→zkW (j9 f s.n) (wZ f s.n)
theorem zhB:za Tryz.prog zuB (zy (fun ((f,s):zp×Stp)=>zju f s) (fun (f,s)=>[xR f,zgf s]) fun (f,s)=>.tup [xR (doF f s).1,.int .i64 (doF f s).2]):=by
 refine zf zh Tryz.func8 rfl (by decide) ?_
 rintro ⟨f,⟨kind,n⟩⟩ ⟨hown,hin,hn,hcome⟩
 have hn: -9223372036854775808≤n∧n≤9223372036854775807:=hn
 have hcome:kind=2→0≤n→n < f.way.length→zkW (j9 f n) (wZ f n):=hcome
 refine ⟨Nat.le_refl _,by simp [Tryz.f8],fun E hE=>?_⟩
 have hE0:E.L.length=0:=by rw [hE];rfl
 have hw:=hin.way
 have hdl:=hin.dead
 have hD:doF f ⟨kind,n⟩=if kind=1 then (vA f,0)
  else if kind=2∨kind=3∨kind=4 then
   if n < 0∨(f.way.length:Int)≤n then (f,6)
   else if kind=4 then (if f.way.length < 12 then { f with way:=f.way++[wZ f n] } else f,0)
   else if kind=2 then (qu (j9 f n) (wZ f n),0) else (j9 f n,0)
  else if kind=5 then if n < 0∨(f.dead.length:Int)≤n then (f,6) else (zp3 f n,0)
  else (f,1):=rfl
 dsimp only
 generalize doF f ⟨kind,n⟩=R at *
 refine xW (ze _ ?_)
 (all_goals refine qgp ?_<;>(repeat' first | exact trivial | intro hc | refine And.intro ?_ ?_)<;>refine Lf.mk ?_)
 refine zbA (α:=Unit) (fun _=>True) (fun _=>[(3,.loc 4 0),(4,.loc 5 0),(6,.loc 0 0),(5,.int .i64 0)]) (fun _=>fO f++[.cells [.int .i64 kind,.int .i64 n],.cells [.int .i64 0,.nilsl,.nilsl,.nilsl]]) (ze _ ?_) (fun _ _=>?_)
 ·(all_goals refine qgp ?_<;>(repeat' first | exact trivial | intro hc | refine And.intro ?_ ?_)<;>refine Lf.mk ?_)
  refine zu zkZ [] [3,4,5] f hown rfl rfl (And.intro (VS.mk (LeL.of_eq rfl)) (And.intro (VS.mk rfl) ?_))
  (all_goals refine qgp ?_<;>(repeat' first | exact trivial | intro hc | refine And.intro ?_ ?_)<;>refine Lf.mk ?_)
  refine xw zcx ?_
  (all_goals refine qgp ?_<;>(repeat' first | exact trivial | intro hc | refine And.intro ?_ ?_)<;>refine Lf.mk ?_)
  refine xw qO ?_
  (all_goals refine qgp ?_<;>(repeat' first | exact trivial | intro hc | refine And.intro ?_ ?_)<;>refine Lf.mk ?_)
  refine xw v6 ?_
  (all_goals refine qgp ?_<;>(repeat' first | exact trivial | intro hc | refine And.intro ?_ ?_)<;>refine Lf.mk ?_)
  refine Exists.intro () (And.intro trivial ?_)
  refine vQ [6,3,4,5,1,2] rfl (by rw [hE0];rfl) ?_ ⟨.loc rfl,.loc rfl,.loc rfl,.flat .int,trivial⟩
  exact .cons rfl ⟨_,rfl,.cons (.flat .int) (.cons (.osl rfl) (.cons (.osl rfl) (.cons (.osl rfl) .nil)))⟩ (.cons (o:=.arr 8 (f.jobs.map yo)) rfl ⟨_,rfl,rfl,zcw zcx⟩ (.cons (o:=.arr 1 (f.dead.map D.bool)) rfl ⟨_,rfl,rfl,zcw qO⟩ (.cons (o:=.arr 1 (f.way.map zk)) rfl ⟨_,rfl,rfl,zcw v6⟩
   (.cons rfl ⟨_,rfl,.cons (.flat .int) (.cons (.flat .int) .nil)⟩ (.cons rfl ⟨_,rfl,.cons (.flat .int) (.cons (.flat .nilsl) (.cons (.flat .nilsl) (.cons (.flat .nilsl) .nil)))⟩ .nil)))))
 ·have fin:∀ (g:zp) (e:Int) (X:List Ob),R=(g,e)→zI ([]:List Ob).length (zaX [.agg (fC g),.int .i64 e]) (.tup [xR R.1,.int .i64 R.2]) (fO g++X) []:=fun g e X h=>by rw [h];exact zxq g X e
  have hol:(j9 f n).way.length=f.way.length - 1∨¬ (0≤n∧n < f.way.length):=by
   by_cases h:0≤n∧n < f.way.length
   ·exact .inl (by show (f.way.eraseIdx n.toNat).length=_;rw [List.length_eraseIdx,if_pos (by omega)])
   ·exact .inr h
  have hout:FIn (j9 f n) 2000000:=⟨hin.jobs,hin.dead,Nat.le_trans (List.length_eraseIdx_le _ _) hw,fun j hj=>by have:=hin.nums j hj;omega⟩
  have hway:0≤n→n < f.way.length→f.way[((0+n.toNat:Nat):Int).toNat]?=some (wZ f n):=fun h0 h1=>by
   rw [Int.toNat_natCast,Nat.zero_add]
   unfold wZ
   rw [List.getElem?_eq_getElem (by omega)]
   rfl
  refine ze _ ?_
  (all_goals refine qgp ?_<;>(repeat' first | exact trivial | intro hc | refine And.intro ?_ ?_)<;>refine Lf.mk ?_)
  ·refine xF zrw [_,_] f ⟨hin,by have:=hown.dead.1;cases hfd:f.dead with | nil=>exact absurd hfd this | cons=>exact Nat.succ_le_succ (Nat.zero_le _)⟩ rfl (LeL.refl _) rfl (.cons (.loc (Nat.lt_of_lt_of_le (by decide:0 < 4) (Nat.le_of_eq rfl))) .nil) .tup0 (vz _) (vz _) ?_
   (all_goals refine qgp ?_<;>(repeat' first | exact trivial | intro hc | refine And.intro ?_ ?_)<;>refine Lf.mk ?_)
   exact fin (vA f) 0 [_,_] (hD.trans (by rw [if_pos hc]))
  all_goals first
   | (exact fin f 6 [_,_] (hD.trans (by rw [if_neg (by omega),if_pos (by omega),if_pos (by omega)])))
   | skip
  all_goals first
   | (exact fin f 6 [_,_] (hD.trans (by rw [if_neg (by omega),if_neg (by omega),if_pos (by omega),if_pos (by omega)])))
   | (exact fin f 1 [_,_] (hD.trans (by rw [if_neg (by omega),if_neg (by omega),if_neg (by omega)])))
   | skip
  all_goals try
   refine zl (wZ f n) (Int.natCast_nonneg _) (hway (by omega) (by omega)) ?_
   (all_goals refine qgp ?_<;>(repeat' first | exact trivial | intro hc | refine And.intro ?_ ?_)<;>refine Lf.mk ?_)
  ·refine zu zmK [3] [3,6] (f.way,n.toNat) (by show n.toNat < f.way.length;omega) rfl rfl ?_
   (all_goals refine qgp ?_<;>(repeat' first | exact trivial | intro hc | refine And.intro ?_ ?_)<;>refine Lf.mk ?_)
   refine xw v6 ?_
   refine And.intro (VS.mk (LeL.of_eq ?_)) (And.intro (VS.mk rfl) ?_)
   ·show [D.osl 1 0 f.way.length 0 f.way.length,.int .i64 n,.int .i64 (n+1)]=[D.osl 1 0 f.way.length 0 f.way.length,.int .i64 (n.toNat:Nat),.int .i64 (n.toNat+1:Nat)]
    rw [show ((n.toNat:Nat):Int)=n by omega,show ((n.toNat+1:Nat):Int)=n+1 by omega]
   (all_goals refine qgp ?_<;>(repeat' first | exact trivial | intro hc | refine And.intro ?_ ?_)<;>refine Lf.mk ?_)
   refine xw v6 ?_
   (all_goals refine qgp ?_<;>(repeat' first | exact trivial | intro hc | refine And.intro ?_ ?_)<;>refine Lf.mk ?_)
   ·refine zu zrz [0,1,2,6] [0,1,2,6] (j9 f n,wZ f n) ⟨hout,hcome hc (by omega) (by omega)⟩ rfl rfl ?_
    (all_goals refine qgp ?_<;>(repeat' first | exact trivial | intro hc | refine And.intro ?_ ?_)<;>refine Lf.mk ?_)
    refine xw zcx ?_
    (all_goals refine qgp ?_<;>(repeat' first | exact trivial | intro hc | refine And.intro ?_ ?_)<;>refine Lf.mk ?_)
    refine xw qO ?_
    (all_goals refine qgp ?_<;>(repeat' first | exact trivial | intro hc | refine And.intro ?_ ?_)<;>refine Lf.mk ?_)
    refine xw v6 ?_
    refine And.intro (VS.mk (LeL.of_eq rfl)) (And.intro (VS.mk ?_) ?_)
    ·show _=fO (j9 f n)
     unfold fO fC
     rw [hol.resolve_right (fun h=>h (by omega))]
     rfl
    (all_goals refine qgp ?_<;>(repeat' first | exact trivial | intro hc | refine And.intro ?_ ?_)<;>refine Lf.mk ?_)
    refine xw zcx ?_
    (all_goals refine qgp ?_<;>(repeat' first | exact trivial | intro hc | refine And.intro ?_ ?_)<;>refine Lf.mk ?_)
    refine xw qO ?_
    (all_goals refine qgp ?_<;>(repeat' first | exact trivial | intro hc | refine And.intro ?_ ?_)<;>refine Lf.mk ?_)
    refine xw v6 ?_
    (all_goals refine qgp ?_<;>(repeat' first | exact trivial | intro hc | refine And.intro ?_ ?_)<;>refine Lf.mk ?_)
    have hR:R=(qu (j9 f n) (wZ f n),0):=hD.trans (by rw [if_neg (by omega),if_pos (by omega),if_neg (by omega),if_neg (by omega),if_pos hc])
    rw [hR]
    exact zcz _ _ 6 0 rfl rfl rfl (by decide)
  ·refine zu zmK [3] [3,6] (f.way,n.toNat) (by show n.toNat < f.way.length;omega) rfl rfl ?_
   (all_goals refine qgp ?_<;>(repeat' first | exact trivial | intro hc | refine And.intro ?_ ?_)<;>refine Lf.mk ?_)
   refine xw v6 ?_
   refine And.intro (VS.mk (LeL.of_eq ?_)) (And.intro (VS.mk rfl) ?_)
   ·show [D.osl 1 0 f.way.length 0 f.way.length,.int .i64 n,.int .i64 (n+1)]=[D.osl 1 0 f.way.length 0 f.way.length,.int .i64 (n.toNat:Nat),.int .i64 (n.toNat+1:Nat)]
    rw [show ((n.toNat:Nat):Int)=n by omega,show ((n.toNat+1:Nat):Int)=n+1 by omega]
   (all_goals refine qgp ?_<;>(repeat' first | exact trivial | intro hc | refine And.intro ?_ ?_)<;>refine Lf.mk ?_)
   refine xw v6 ?_
   (all_goals refine qgp ?_<;>(repeat' first | exact trivial | intro hc | refine And.intro ?_ ?_)<;>refine Lf.mk ?_)
   have hR:R=(j9 f n,0):=hD.trans (by rw [if_neg (by omega),if_pos (by omega),if_neg (by omega),if_neg (by omega),if_neg (by omega)])
   rw [hR,← hol.resolve_right (fun h=>h (by omega))]
   exact zcz (j9 f n) _ 6 0 rfl rfl rfl (by decide)
  ·refine zb qi ((wZ f n).map zC) ⟨by have:=hown.msgs (wZ f n) (List.mem_of_getElem? (hway (by omega) (by omega)));simpa using this,zcy⟩ (VS.mk (LeL.of_eq rfl)) ?_
   (all_goals refine qgp ?_<;>(repeat' first | exact trivial | intro hc | refine And.intro ?_ ?_)<;>refine Lf.mk ?_)
   have hR:R=({ f with way:=f.way++[wZ f n] },0):=hD.trans (by rw [if_neg (by omega),if_pos (by omega),if_neg (by omega),if_pos (by omega),if_pos (by omega)])
   rw [hR]
   have e1:(f.way.map zk++[zk (wZ f n)]).length=(f.way++[wZ f n]).length:=by rw [List.length_append,List.length_map,List.length_append];rfl
   have e2:f.way.map zk++[zk (wZ f n)]=(f.way++[wZ f n]).map zk:=by rw [List.map_append];rfl
   have e3:=zcz { f with way:=f.way++[wZ f n] } [.cells [.int .i64 f.base,.osl 8 1 f.jobs.length 0 f.jobs.length,.osl 1 2 f.dead.length 0 f.dead.length,.osl 1 3 (f.way.map zk++[zk (wZ f n)]).length 0 (f.way.map zk++[zk (wZ f n)]).length],.arr 8 (f.jobs.map yo),.arr 1 (f.dead.map D.bool),.arr 1 (f.way.map zk++[zk (wZ f n)]),.cells [.int .i64 kind,.int .i64 n],
     .cells [.int .i64 f.base,.osl 8 1 f.jobs.length 0 f.jobs.length,.osl 1 2 f.dead.length 0 f.dead.length,.osl 1 3 (f.way.map zk++[zk (wZ f n)]).length 0 (f.way.map zk++[zk (wZ f n)]).length]] 3 0 rfl rfl (by rw [e2];rfl) (Nat.le_refl _)
   dsimp only at e3
   rw [← e1] at e3
   exact e3
  ·exact fin f 0 [_,_] (hD.trans (by rw [if_neg (by omega),if_pos (by omega),if_neg (by omega),if_pos (by omega),if_neg (by omega)]))
  ·have hlt:n.toNat < f.dead.length:=by omega
   have hda:f.dead[n.toNat]?=some (qt f n):=by unfold qt;rw [List.getElem?_eq_getElem hlt];rfl
   refine zl (enc:=D.bool) (qt f n) (Int.natCast_nonneg _) (by rw [Int.toNat_natCast,Nat.zero_add];exact hda) ?_
   (all_goals refine qgp ?_<;>(repeat' first | exact trivial | intro hc | refine And.intro ?_ ?_)<;>refine Lf.mk ?_)
   refine zl (enc:=D.bool) (qt f n) (Int.natCast_nonneg _) (by rw [Int.toNat_natCast,Nat.zero_add];exact hda) ?_
   (all_goals refine qgk ?_<;>(repeat' first | exact trivial | intro hc | refine And.intro ?_ ?_)<;>refine Lf.mk ?_)
   refine xd ((f.dead.set n.toNat (!qt f n)).map D.bool) (by rw [Nat.zero_add,List.map_set]) ?_
   (all_goals refine qgp ?_<;>(repeat' first | exact trivial | intro hc | refine And.intro ?_ ?_)<;>refine Lf.mk ?_)
   have hR:R=(zp3 f n,0):=hD.trans (by rw [if_neg (by omega),if_neg (by omega),if_pos (by omega),if_neg (by omega)])
   have e1:f.dead.length=(zp3 f n).dead.length:=(List.length_set).symm
   rw [hR,e1]
   exact zcz (zp3 f n) _ 3 0 rfl rfl rfl (Nat.le_refl _)
def zxr (s:List UInt8):yK:=⟨s, -1,0,0,false,[],0,0⟩
def noF:zp:=⟨0,[],[],[]⟩
def zeM (l:List (List UInt8)) (base w:Int):zp:=⟨base,l.map zxr,List.replicate w.toNat false,[]⟩
def zjv (l:List (List UInt8)):Bool:=l.any fun s=>decide (1200 < s.length)
def zdX (l:List (List UInt8)) (base w:Int):Int:=
 if (l.length:Int) < 1∨4 < (l.length:Int)∨w < 1∨3 < w then 5 else if base < 0∨1048576 < base∨base % 4≠0 then 3 else if zjv l=true then 4 else 0
def zjw (l:List (List UInt8)) (base w:Int):zp×Int:=(if zdX l base w=0 then zeM l base w else noF,zdX l base w)
theorem zp4 {l:List (List UInt8)} (h:∀ s∈l,s.length≤1200):zjv l=false:=by
 unfold zjv
 rw [List.any_eq_false]
 intro s hs
 have:=h s hs
 rw [decide_eq_true_eq]
 omega
theorem zAq {l:List (List UInt8)} {k:Nat} {s:List UInt8} (h:l[k]?=some s) (hs:1200 < s.length):zjv l=true:=by
 unfold zjv
 rw [List.any_eq_true]
 exact ⟨s,List.mem_of_getElem? h,decide_eq_true hs⟩
theorem LeD.els {e:Nat} {ds ds':List D} (hl:ds.length=ds'.length) (h:∀ (i:Nat) d d',ds[i]?=some d→ds'[i]?=some d'→LeL d.cells d'.cells):LeD (.sl e ds none) (.sl e ds' none):=fun w F ρ L v hr=>by
 have h0:=hr.sl_inv
 refine .pure _ _ ?_
 have at_:∀ (i:Nat) d',ds'[i]?=some d'→∃ d,ds[i]?=some d∧LeL d.cells d'.cells:=fun i d' hd=>by
  have hlt:=(List.getElem?_eq_some_iff.1 hd).1
  exact ⟨_,List.getElem?_eq_getElem (by omega),h i _ d' (List.getElem?_eq_getElem (by omega)) hd⟩
 have key:∀ (i:Nat) d' (j:Nat) c',ds'[i]?=some d'→d'.cells[j]?=some c'→∃ d c,ds[i]?=some d∧d.cells[j]?=some c∧LeD c c':=fun i d' j c' h1 h2=>by
  obtain ⟨d,h3,h4⟩:=at_ i d' h1
  have hlt:=(List.getElem?_eq_some_iff.1 h2).1
  have hjl:j < d.cells.length:=by rw [h4.1];exact hlt
  have hc:d.cells[j]?=some d.cells[j]:=List.getElem?_eq_getElem hjl
  exact ⟨d,_,h3,hc,h4.2 j _ c' hc h2⟩
 cases h0 with
 | slnil e a=>
  have:ds'=[]:=List.eq_nil_of_length_eq_zero hl.symm
  subst this
  exact .slnil _ _
 | sl e ds b off cap val hcap hlen hcell hone hrep=>
  rw [hl] at hcap ⊢
  refine .sl e ds' b off cap val hcap (fun i d' h1=>?_) (fun i d' j c' h1 h2=>?_) (fun i d' j c' h1 h2=>?_) fun i d' j c' h1 h2=>?_
  ·obtain ⟨d,h3,h4⟩:=at_ i d' h1
   rw [← h4.1]
   exact hlen i d h3
  ·obtain ⟨d,c,h3,h4,_⟩:=key i d' j c' h1 h2
   exact hcell i d j c h3 h4
  ·obtain ⟨d,c,h3,h4,_⟩:=key i d' j c' h1 h2
   exact hone i d j c h3 h4
  ·obtain ⟨d,c,h3,h4,h5⟩:=key i d' j c' h1 h2
   exact zhP (h5 w F ρ [] _ (.pure _ _ (hrep i d j c h3 h4)))
def zAr (s:List UInt8):D:=.agg [zk s,.int .i64 (-1),.int .i64 0,.int .i64 0,.ff,.nilsl,.int .i64 0,.int .i64 0]
theorem zze (l:List (List UInt8)):LeD (.sl 8 (l.map zAr) none) (.sl 8 ((l.map zxr).map yo) none):=by
 refine LeD.els (by rw [List.length_map,List.length_map,List.length_map]) fun i d d' h1 h2=>?_
 rw [List.map_map,List.getElem?_map] at h2
 rw [List.getElem?_map] at h1
 cases hl:l[i]? with
 | none=>rw [hl] at h1;cases h1
 | some s=>
  rw [hl] at h1 h2
  cases h1;cases h2
  exact .cons (.refl _) (.cons (.refl _) (.cons (.refl _) (.cons (.refl _) (.cons (LeD.ff rfl) (.cons (.nil 1) (.cons (.refl _) (.cons (.refl _) .nil)))))))
theorem zzf (n:Nat):LeD (.sl 1 (List.replicate n .ff) none) (.sl 1 ((List.replicate n false).map D.bool) none):=by
 refine LeD.els (by simp) fun i d d' h1 h2=>?_
 have e1:=List.eq_of_mem_replicate (List.mem_of_getElem? h1)
 rw [List.map_replicate] at h2
 have e2:=List.eq_of_mem_replicate (List.mem_of_getElem? h2)
 subst e1;subst e2
 exact .cons (LeD.ff rfl) .nil
theorem zAs:LeD (.agg [.int .i64 0,.nilsl,.nilsl,.nilsl]) (xR noF):=LeD.agg (.cons (.refl _) (.cons (.nil 8) (.cons (.nil 1) (.cons (.nil 1) .nil))))
theorem ztV:za Tryz.prog zs3 (zy (fun ((l,base,w):List (List UInt8)×Int×Int)=>(l.length≤1000000000∧∀ s∈l,s.length≤1000000000)∧(-9223372036854775808≤base∧base≤9223372036854775807)∧-9223372036854775808≤w∧w≤9223372036854775807)
  (fun (l,base,w)=>[.sl 1 (l.map zk) none,.int .i64 base,.int .i64 w]) fun (l,base,w)=>.tup [xR (zjw l base w).1,.int .i64 (zjw l base w).2]):=by
 refine zf zh Tryz.func7 rfl (by decide) ?_
 rintro ⟨l,base,w⟩ ⟨⟨hl,hs⟩,⟨hb0,hb1⟩,hw0,hw1⟩
 have hl:l.length≤1000000000:=hl
 have hs:∀ s∈l,s.length≤1000000000:=hs
 have hb0: -9223372036854775808≤base:=hb0
 have hb1:base≤9223372036854775807:=hb1
 have hw0: -9223372036854775808≤w:=hw0
 have hw1:w≤9223372036854775807:=hw1
 refine ⟨Nat.le_refl _,by simp [Tryz.f7],fun E hE=>?_⟩
 have hE0:E.L.length=0:=by rw [hE];rfl
 have hR:zjw l base w=(if zdX l base w=0 then zeM l base w else noF,zdX l base w):=rfl
 have hN:zdX l base w=if (l.length:Int) < 1∨4 < (l.length:Int)∨w < 1∨3 < w then 5 else if base < 0∨1048576 < base∨base % 4≠0 then 3 else if zjv l=true then 4 else 0:=rfl
 dsimp only
 generalize zjw l base w=R at *
 generalize zdX l base w=e at *
 have no:∀ n:Int,n≠0→e=n→LeL [.agg [.int .i64 0,.nilsl,.nilsl,.nilsl],.int .i64 n] [xR R.1,.int .i64 R.2]:=fun n hn he=>by
  rw [hR,he,if_neg hn]
  exact .cons zAs (LeL.refl _)
 refine ze _ ?_
 (all_goals refine qgp ?_<;>(repeat' first | exact trivial | intro hc | refine And.intro ?_ ?_)<;>refine Lf.mk ?_)
 all_goals first
  | exact zd (VS.mk (LeD.tup (no 5 (by decide) (hN.trans (by rw [if_pos (by omega)])))))
  | exact zd (VS.mk (LeD.tup (no 3 (by decide) (hN.trans (by rw [if_neg (by omega),if_pos (by omega)])))))
  | skip
 refine yp (α:=Nat) (fun k=>k≤l.length∧∀ s∈l.take k,s.length≤1200) (fun k=>[(6,.loc 0 0),(7,.int .i64 0),(8,.loc 1 0),(44,.sl 1 (l.map zk) none),(45,.int .i64 l.length),(46,.int .i64 k)])
  (fun k=>[.cells [.int .i64 0,.nilsl,.nilsl,.nilsl],.cells [.int .i64 base,.sl 8 ((l.take k).map zAr) (some 2),.sl 1 (List.replicate w.toNat .ff) none,.nilsl],.spare (l.take k).length]) (fun k=>l.length - k) (fun _=>by rw [hE0];exact Nat.zero_le _) 0 ⟨Nat.zero_le _,by simp⟩ ?_ ?_
 ·exact xK (wW 1 8 [.int .i64 base,.sl 8 [] (some 2),.sl 1 (List.replicate w.toNat .ff) none,.nilsl] rfl ⟨.same,.here,.same,.same,trivial⟩) (yf rfl ⟨rfl,rfl,rfl,rfl,rfl,rfl,trivial⟩)
 rintro k ⟨hk,hsk⟩
 have hk:k≤l.length:=hk
 refine ze _ ?_
 (all_goals refine qgp ?_<;>(repeat' first | exact trivial | intro hc | refine And.intro ?_ ?_)<;>refine Lf.mk ?_)
 ·obtain ⟨s,hx⟩:=zP (l:=l) (k:=k) (by omega)
  have hxs:=hs s (List.mem_of_getElem? hx)
  refine zl s (Int.natCast_nonneg _) (by rw [Int.toNat_natCast];exact hx) ?_
  (all_goals refine qgp ?_<;>(repeat' first | exact trivial | intro hc | refine And.intro ?_ ?_)<;>refine Lf.mk ?_)
  ·have h4:e=4:=hN.trans (by rw [if_neg (by omega),if_neg (by omega),zAq hx (by omega)];rfl)
   exact zd (VS.mk (LeD.tup (no 4 (by decide) h4)))
  ·refine zb qi (s.map zC) ⟨by rw [List.length_map];omega,zcy⟩ (VS.mk (LeL.of_eq rfl)) ?_
   (all_goals refine qgp ?_<;>(repeat' first | exact trivial | intro hc | refine And.intro ?_ ?_)<;>refine Lf.mk ?_)
   have htk:l.take (k+1)=l.take k++[s]:=by rw [List.take_add_one,hx];rfl
   refine yj (k+1) ⟨by omega,fun x hxk=>?_⟩ (by omega) ?_ ⟨rfl,rfl,rfl,rfl,rfl,rfl,trivial⟩
   ·rw [htk] at hxk
    rcases List.mem_append.1 hxk with h | h
    ·exact hsk x h
    ·rw [List.mem_singleton.1 h];omega
   ·rw [htk]
    simp only [List.map_append,List.length_append,List.length_map]
    rfl
 ·have hk2:k=l.length:=by omega
  rw [hk2,List.take_length] at hsk ⊢
  have h0:e=0:=hN.trans (by rw [if_neg (by omega),if_neg (by omega),zp4 hsk];rfl)
  rw [hR,h0,if_pos rfl]
  exact zd (VS.mk (LeD.tup (.cons (LeD.agg (.cons (.refl _) (.cons ((LeD.strip _ _ _).trans (zze l)) (.cons (zzf _) (.cons (.nil 1) .nil))))) (LeL.refl _))))
end Go.Proofs.YtnkdeacghopkiaaGreatDoor
