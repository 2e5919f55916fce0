/-
  A part of the proof: what the given program's functions answer, each once; conditions that are enough for it.
-/
import Derived.Test.YtnkdeacghopkiaaGreatDoorSt3
import Derived.Test.YtnkdeacghopkiaaGreatDoorSt1
import Derived.Test.YtnkdeacghopkiaaGreatDoorSt2
import Derived.Test.YtnkdeacghopkiaaGreatDoorFw3
namespace Go.Proofs.YtnkdeacghopkiaaGreatDoor
open Go Go.Plat
set_option linter.unusedVariables false
set_option linter.unusedSimpArgs false
set_option maxRecDepth 100000
set_option maxHeartbeats 2000000
attribute [local irreducible] AWP zG yn zK zn yA z8 zI zY z6 zw za zN yB zt z7 yx yy yq yt zx zz zD qu zdh doF qr zE wy zeM vu wv vY vA xu zbZ yF yD
def goS:Stp:=⟨2,0⟩
def zgg:Stp:=⟨1,0⟩
inductive zgh:Nat→zp→zp→Prop
 | done {f:zp} (h:f.way=[]):zgh 0 f f
 | step {n:Nat} {f g:zp} (h:f.way≠[]) (ok:zju f goS) (r:zgh n (doF f goS).1 g):zgh (n+1) f g
def zlT (f g:zp):Prop:=zju f zgg∧∃ n,zgh n (doF f zgg).1 g
def jf (f:zp):Bool:=f.jobs.all fun j=>j.done
inductive jT:Nat→zp→zp→Nat→Prop
 | stop {n:Nat} {f:zp} (hj:f.jobs.length≤1000) (h:60≤n∨jf f=true):jT n f f n
 | step {n m:Nat} {f g h:zp} (hn:n < 60) (hd:jf f=false) (hr:zlT f g) (hs:jT (n+1) g h m):jT n f h m
inductive jU:List Stp→zp→zp→List Int→Prop
 | nil {f:zp}:jU [] f f []
 | cons {s:Stp} {l:List Stp} {f g:zp} {es:List Int} (ok:zju f s) (r:jU l (doF f s).1 g es):jU (s::l) f g ((doF f s).2::es)
theorem ziM:za Tryz.prog zqO (zy (fun f:zp=>f.jobs.length≤1000) (fun f=>[xR f]) fun f=>.bool (jf f)):=by
 refine zf zh Tryz.func18 rfl (by decide) ?_
 rintro f hf
 refine ⟨Nat.le_refl _,by simp [Tryz.f18],fun E hE=>?_⟩
 have hE0:E.L.length=0:=by rw [hE];rfl
 refine ze _ ?_
 (all_goals refine qgp ?_<;>(repeat' first | exact trivial | intro hc | refine And.intro ?_ ?_)<;>refine Lf.mk ?_)
 refine yp (α:=Nat) (fun k=>k≤f.jobs.length∧jf f=(f.jobs.drop k).all fun j=>j.done) (fun k=>[(6,.sl 8 (f.jobs.map yo) none),(7,.int .i64 f.jobs.length),(8,.int .i64 k)]) (fun _=>[]) (fun k=>f.jobs.length - k) (fun _=>by rw [hE0];exact Nat.zero_le _) 0 ⟨Nat.zero_le _,rfl⟩ ?_ ?_
 ·exact zje [] [_] rfl (by rw [hE0];exact Nat.zero_le _) (fun o ho=>by cases ho) ⟨rfl,rfl,rfl,trivial⟩ (.cons .sl (.cons .int (.cons .int .nil)))
 rintro k ⟨hk,hd⟩
 have hk:k≤f.jobs.length:=hk
 refine ze _ ?_
 (all_goals refine qgp ?_<;>(repeat' first | exact trivial | intro hc | refine And.intro ?_ ?_)<;>refine Lf.mk ?_)
 ·have hkl:k < f.jobs.length:=by omega
  obtain ⟨j,hx⟩:=zP (l:=f.jobs) (k:=k) hkl
  have hg:f.jobs[k]=j:=by rw [List.getElem?_eq_getElem hkl] at hx;exact Option.some.inj hx
  rw [List.drop_eq_getElem_cons hkl,hg,List.all_cons] at hd
  refine zl j (Int.natCast_nonneg _) (by rw [Int.toNat_natCast];exact hx) ?_
  (all_goals refine qgp ?_<;>(repeat' first | exact trivial | intro hc | refine And.intro ?_ ?_)<;>refine Lf.mk ?_)
  ·rw [hc,Bool.false_and] at hd
   exact zd (VS.mk (LeD.ff hd))
  ·rw [hc,Bool.true_and] at hd
   exact w9 (k+1) [_] ⟨by omega,hd⟩ (by omega) rfl (by rw [hE0];exact Nat.zero_le _) (fun o ho=>by cases ho) ⟨rfl,rfl,rfl,trivial⟩ (.cons .sl (.cons .int (.cons .int .nil)))
 ·rw [List.drop_of_length_le (by omega)] at hd
  exact zd (VS.mk (LeD.tt hd))
theorem zp5:za Tryz.prog zoH (zy (fun ((f,g):zp×zp)=>zlT f g) (fun (f,_)=>[xR f]) fun (_,g)=>xR g):=by
 refine zf zh Tryz.func17 rfl (by decide) ?_
 rintro ⟨f,g⟩ ⟨hok,N,hN⟩
 refine ⟨Nat.le_refl _,by simp [Tryz.f17],fun E hE=>?_⟩
 have hE0:E.L.length=0:=by rw [hE];rfl
 refine ze _ ?_
 (all_goals refine qgp ?_<;>(repeat' first | exact trivial | intro hc | refine And.intro ?_ ?_)<;>refine Lf.mk ?_)
 refine zb zhB (f,zgg) hok (VS.mk (LeL.of_eq rfl)) ?_
 dsimp only at hN ⊢
 generalize doF f zgg=T at *
 obtain ⟨c,e⟩:=T
 dsimp only at hN ⊢
 (all_goals refine qgp ?_<;>(repeat' first | exact trivial | intro hc | refine And.intro ?_ ?_)<;>refine Lf.mk ?_)
 refine yp (α:=Nat×zp) (fun (n,c)=>zgh n c g) (fun _=>[(2,.loc 0 0),(3,.loc 1 0)]) (fun (_,c)=>[.cells [.int .i64 0,.nilsl,.nilsl,.nilsl],.cells (xR c).cells]) (fun (n,_)=>n) (fun _=>by rw [hE0];exact Nat.zero_le _) (N,c) hN ?_ ?_
 ·refine vQ [1,2] rfl (by rw [hE0];rfl) ?_ ⟨.loc rfl,.loc rfl,trivial⟩
  exact .cons rfl ⟨_,rfl,.cons (.flat .int) (.cons (.flat .nilsl) (.cons (.flat .nilsl) (.cons (.flat .nilsl) .nil)))⟩ (.cons rfl ⟨_,rfl,.cons (.flat .int) (.cons (.flat .sl) (.cons (.flat .sl) (.cons (.flat .sl) .nil)))⟩ .nil)
 rintro ⟨n,c⟩ hd
 have hd:zgh n c g:=hd
 dsimp only
 refine ze _ ?_
 cases hd with
 | done hw=>
  unfold xR D.cells
  dsimp only
  rw [hw]
  (all_goals refine qgp ?_<;>(repeat' first | exact trivial | intro hc | refine And.intro ?_ ?_)<;>refine Lf.mk ?_)
  exact zd (VS.mk (LeD.refl _))
 | step hw ok r=>
  have hwl:0 < c.way.length:=List.length_pos_iff.2 hw
  have hw12:=ok.nums.way
  unfold xR D.cells
  dsimp only
  (all_goals refine qgp ?_<;>(repeat' first | exact trivial | intro hc | refine And.intro ?_ ?_)<;>refine Lf.mk ?_)
  ·refine zb zhB (c,goS) ok (VS.mk (LeL.of_eq rfl)) ?_
   dsimp only
   generalize doF c goS=T at *
   obtain ⟨c1,e1⟩:=T
   dsimp only at r ⊢
   (all_goals refine qgp ?_<;>(repeat' first | exact trivial | intro hc | refine And.intro ?_ ?_)<;>refine Lf.mk ?_)
   exact yj (_,c1) r (Nat.lt_succ_self _) rfl ⟨rfl,rfl,trivial⟩
theorem zny:za Tryz.prog znj (zy (fun ((f,g,m):zp×zp×Nat)=>znQ f∧jT 0 f g m) (fun (f,_,_)=>[xR f]) fun (_,g,m)=>.tup [xR g,.int .i64 m]):=by
 refine zf zh Tryz.func9 rfl (by decide) ?_
 rintro ⟨f,g,m⟩ ⟨hown,hs⟩
 have hs:jT 0 f g m:=hs
 refine ⟨Nat.le_refl _,by simp [Tryz.f9],fun E hE=>?_⟩
 have hE0:E.L.length=0:=by rw [hE];rfl
 refine ze _ ?_
 (all_goals refine qgp ?_<;>(repeat' first | exact trivial | intro hc | refine And.intro ?_ ?_)<;>refine Lf.mk ?_)
 refine zb zrA f hown (VS.mk (LeL.of_eq rfl)) ?_
 (all_goals refine qgp ?_<;>(repeat' first | exact trivial | intro hc | refine And.intro ?_ ?_)<;>refine Lf.mk ?_)
 refine yp (α:=Nat×zp) (fun (n,c)=>n≤60∧jT n c g m) (fun (n,_)=>[(2,.loc 0 0),(4,.loc 1 0),(5,.int .i64 n)]) (fun (_,c)=>[.cells [.int .i64 0,.nilsl,.nilsl,.nilsl],.cells (xR c).cells]) (fun (n,_)=>60 - n) (fun _=>by rw [hE0];exact Nat.zero_le _) (0,f) ⟨Nat.zero_le _,hs⟩ ?_ ?_
 ·refine vQ [1,2] rfl (by rw [hE0];rfl) ?_ ⟨.loc rfl,.loc rfl,.flat .int,trivial⟩
  exact .cons rfl ⟨_,rfl,.cons (.flat .int) (.cons (.flat .nilsl) (.cons (.flat .nilsl) (.cons (.flat .nilsl) .nil)))⟩ (.cons rfl ⟨_,rfl,.cons (.flat .int) (.cons (.flat .sl) (.cons (.flat .sl) (.cons (.flat .sl) .nil)))⟩ .nil)
 rintro ⟨n,c⟩ ⟨hn60,hd⟩
 have hn60:n≤60:=hn60
 have hd:jT n c g m:=hd
 dsimp only
 refine ze _ ?_
 cases hd with
 | stop hj h=>
  unfold xR D.cells
  dsimp only
  (all_goals refine qgp ?_<;>(repeat' first | exact trivial | intro hc | refine And.intro ?_ ?_)<;>refine Lf.mk ?_)
  ·have hdt:jf g=true:=h.resolve_left (by omega)
   refine zb ziM g hj (VS.mk (LeL.of_eq rfl)) ?_
   rw [hdt]
   (all_goals refine qgp ?_<;>(repeat' first | exact trivial | intro hc | refine And.intro ?_ ?_)<;>refine Lf.mk ?_)
   (any_goals (first | (exfalso;refine Bool.false_ne_true ?_;assumption) | (exfalso;refine Bool.false_ne_true (Eq.symm ?_);assumption) | (exfalso;refine absurd trivial ?_;assumption) | skip))
   all_goals exact zd (VS.mk (LeD.refl _))
  ·exact zd (VS.mk (LeD.refl _))
 | step hn hdn hr hst=>
  unfold xR D.cells
  dsimp only
  (all_goals refine qgp ?_<;>(repeat' first | exact trivial | intro hc | refine And.intro ?_ ?_)<;>refine Lf.mk ?_)
  ·refine zb ziM c (by have:=hr.1.nums.jobs;omega) (VS.mk (LeL.of_eq rfl)) ?_
   rw [hdn]
   (all_goals refine qgp ?_<;>(repeat' first | exact trivial | intro hc | refine And.intro ?_ ?_)<;>refine Lf.mk ?_)
   (any_goals (first | (exfalso;refine Bool.false_ne_true ?_;assumption) | (exfalso;refine Bool.false_ne_true (Eq.symm ?_);assumption) | (exfalso;refine absurd trivial ?_;assumption) | skip))
   refine zb zp5 (c,_) hr (VS.mk (LeL.of_eq rfl)) ?_
   (all_goals refine qgp ?_<;>(repeat' first | exact trivial | intro hc | refine And.intro ?_ ?_)<;>refine Lf.mk ?_)
   exact yj (n+1,_) ⟨by show n+1≤60;omega,hst⟩ (by dsimp only;omega) rfl ⟨rfl,rfl,rfl,trivial⟩
theorem jU.len {l:List Stp} {f g:zp} {es:List Int} (h:jU l f g es):es.length=l.length:=by
 induction h with
 | nil=>rfl
 | cons _ _ ih=>rw [List.length_cons,List.length_cons,ih]
theorem jU.at {st:List Stp} {es:List Int} {c g:zp} {k:Nat} {s:Stp} (h:jU (st.drop k) c g (es.drop k)) (hs:st[k]?=some s) (hl:es.length=st.length):zju c s∧es[k]?=some (doF c s).2∧jU (st.drop (k+1)) (doF c s).1 g (es.drop (k+1)):=by
 have hk:=(List.getElem?_eq_some_iff.1 hs).1
 have hg:st[k]=s:=by rw [List.getElem?_eq_getElem hk] at hs;exact Option.some.inj hs
 have hke:k < es.length:=by omega
 rw [List.drop_eq_getElem_cons hk,hg,List.drop_eq_getElem_cons hke] at h
 generalize hq:es[k]::es.drop (k+1)=q at h
 cases h with
 | cons ok r=>
  injection hq with h1 h2
  subst h2
  exact ⟨ok,by rw [List.getElem?_eq_getElem hke,h1],r⟩
theorem zrB:za Tryz.prog zqN (zy (fun ((l,base,w,st,g,es):List (List UInt8)×Int×Int×List Stp×zp×List Int)=>zdX l base w=0∧l.length≤4∧(-9223372036854775808≤base∧base≤9223372036854775807)∧(-9223372036854775808≤w∧w≤9223372036854775807)∧(∀ s∈l,s.length≤1000000000)∧st.length≤80∧jU st (zeM l base w) g es)
  (fun (l,base,w,st,_,_)=>[.sl 1 (l.map zk) none,.int .i64 base,.int .i64 w,.sl 2 (st.map zgf) none]) fun (_,_,_,_,g,es)=>.tup [xR g,.sl 1 (es.map (.int .i64)) none,.int .i64 0]):=by
 refine zf zh Tryz.func13 rfl (by decide) ?_
 rintro ⟨l,base,w,st,g,es⟩ ⟨hN,hl4,hb,hw,hsl,hst,hp⟩
 have hl4:l.length≤4:=hl4
 have hst:st.length≤80:=hst
 have hp:jU st (zeM l base w) g es:=hp
 refine ⟨Nat.le_refl _,by simp [Tryz.f13],fun E hE=>?_⟩
 have hE0:E.L.length=0:=by rw [hE];rfl
 have hR:zjw l base w=(zeM l base w,0):=by
  have hN:zdX l base w=0:=hN
  unfold zjw
  rw [hN,if_pos rfl]
 refine ze _ ?_
 (all_goals refine qgp ?_<;>(repeat' first | exact trivial | intro hc | refine And.intro ?_ ?_)<;>refine Lf.mk ?_)
 refine zb ztV (l,base,w) ⟨⟨by show l.length≤_;omega,hsl⟩,hb,hw⟩ (VS.mk (LeL.of_eq rfl)) ?_
 dsimp only
 rw [hR]
 dsimp only
 generalize zeM l base w=f0 at *
 (all_goals refine qgp ?_<;>(repeat' first | exact trivial | intro hc | refine And.intro ?_ ?_)<;>refine Lf.mk ?_)
 ·exact absurd trivial hc
 have hel:=hp.len
 refine x8 (qV 13 1 rfl) ?_
 refine yp (α:=Nat×zp) (fun (k,c)=>k≤st.length∧jU (st.drop k) c g (es.drop k)) (fun (k,_)=>[(8,.loc 0 0),(11,.loc 1 0),(13,.sl 1 ((es.take k).map (.int .i64)) (some 2)),(33,.sl 2 (st.map zgf) none),(34,.int .i64 st.length),(35,.int .i64 k)])
  (fun (k,c)=>[.cells [.int .i64 0,.nilsl,.nilsl,.nilsl],.cells (xR c).cells,.spare (es.take k).length]) (fun (k,_)=>st.length - k) (fun _=>by rw [hE0];exact Nat.zero_le _) (0,f0) ⟨Nat.zero_le _,hp⟩ ?_ ?_
 ·exact yf rfl ⟨rfl,rfl,rfl,rfl,rfl,rfl,trivial⟩
 rintro ⟨k,c⟩ ⟨hk,hc0⟩
 have hk:k≤st.length:=hk
 have hc0:jU (st.drop k) c g (es.drop k):=hc0
 unfold xR D.cells
 dsimp only
 refine ze _ ?_
 (all_goals refine qgp ?_<;>(repeat' first | exact trivial | intro hc | refine And.intro ?_ ?_)<;>refine Lf.mk ?_)
 ·obtain ⟨s,hx⟩:=zP (l:=st) (k:=k) (by omega)
  obtain ⟨ok,he,hr⟩:=hc0.at hx hel
  refine zl s (Int.natCast_nonneg _) (by rw [Int.toNat_natCast];exact hx) ?_
  (all_goals refine qgp ?_<;>(repeat' first | exact trivial | intro hc | refine And.intro ?_ ?_)<;>refine Lf.mk ?_)
  refine zb zhB (c,s) ok (VS.mk (LeL.of_eq rfl)) ?_
  dsimp only
  generalize doF c s=T at *
  obtain ⟨c1,e1⟩:=T
  dsimp only at hr he ⊢
  (all_goals refine qgp ?_<;>(repeat' first | exact trivial | intro hc | refine And.intro ?_ ?_)<;>refine Lf.mk ?_)
  have htk:es.take (k+1)=es.take k++[e1]:=by rw [List.take_add_one,he];rfl
  have hd:D.sl 1 ((es.take k).map (D.int .i64)++[D.int .i64 e1]) (some 2)=D.sl 1 ((es.take (k+1)).map (D.int .i64)) (some 2):=by rw [htk,List.map_append];rfl
  refine w9 (k+1,c1) [.cells (zgf s).cells,.cells (xR c1).cells] ⟨by show k+1≤_;omega,hr⟩ (by dsimp only;omega) ?_ (by rw [hE0];exact Nat.zero_le _) ?_ ⟨rfl,rfl,hd,rfl,rfl,rfl,trivial⟩ (.cons (.loc (by show 0 < 3;decide)) (.cons (.loc (by show 1 < 3;decide)) (.cons (.tok (by show 2 < 3;decide)) (.cons .sl (.cons .int (.cons .int .nil))))))
  ·dsimp only
   rw [htk]
   simp only [List.length_append,List.length_map]
   rfl
  ·intro o ho
   simp only [List.mem_cons,List.not_mem_nil,or_false] at ho
   rcases ho with rfl | rfl | rfl
   ·exact .cells (.cons .int (.cons .nilsl (.cons .nilsl (.cons .nilsl .nil))))
   ·exact .cells (.cons .int (.cons .sl (.cons .sl (.cons .sl .nil))))
   ·exact .spare
 ·have hkn:k=st.length:=by omega
  rw [hkn,List.drop_length,← hel,List.drop_length] at hc0
  cases hc0
  rw [hkn,← hel,List.take_length]
  exact zd (VS.mk (LeD.tup (.cons (.refl _) (.cons (.strip _ _ _) (LeL.refl _)))))
end Go.Proofs.YtnkdeacghopkiaaGreatDoor
namespace Go.Proofs.YtnkdeacghopkiaaGreatDoor
open Go Go.Plat
set_option linter.unusedVariables false
set_option linter.unusedSimpArgs false
set_option maxRecDepth 100000
set_option maxHeartbeats 2000000
attribute [local irreducible] AWP zG yn zK zn yA z8 zI zY z6 zw za zN yB zt z7 yx yy yq yt zx zz zD
theorem zsk (m:Msg):jM m=[zr m.kind,zr m.worker,zr m.unit,zr (m.turn / 256),zr m.turn,zr m.err,zr (m.at_ / 256),zr m.at_,
  zr ((m.data.length:Int) / 256 / 256 / 256),zr ((m.data.length:Int) / 256 / 256),zr ((m.data.length:Int) / 256),zr (m.data.length:Int)]:=by
 simp [jM,zh5,zkx,zkw,yv,yX]
theorem jV (b:List UInt8) (k:Nat) (h:k < b.length):xk b (k:Int)=((b.getD k 0).toNat:Int):=by
 unfold xk
 rw [if_pos ⟨by omega,by omega⟩]
 simp
theorem zp6 (b:List UInt8) (i:Nat) (h:i+1 < b.length):z1 b (i:Int) 2=((b.getD i 0).toNat:Int) * 256+((b.getD (i+1) 0).toNat:Int):=by
 simp only [z1]
 have h1:=jV b i (by omega)
 have h2:=jV b (i+1) h
 simp only [Int.natCast_zero,Int.add_zero,Int.natCast_add,Int.natCast_one] at h1 h2 ⊢
 rw [h1,h2]
 omega
theorem zAt (b:List UInt8) (i:Nat) (h:i+3 < b.length):z1 b (i:Int) 4=((((b.getD i 0).toNat:Int) * 256+((b.getD (i+1) 0).toNat:Int)) * 256+((b.getD (i+2) 0).toNat:Int)) * 256+((b.getD (i+3) 0).toNat:Int):=by
 simp only [z1]
 have h0:=jV b i (by omega)
 have h1:=jV b (i+1) (by omega)
 have h2:=jV b (i+2) (by omega)
 have h3:=jV b (i+3) (by omega)
 simp only [Int.natCast_zero,Int.add_zero,Int.natCast_add,Int.natCast_one,Int.zero_mul,Int.zero_add] at h0 h1 h2 h3 ⊢
 have h2':xk b ((i:Int)+2)=_:=h2
 have h3':xk b ((i:Int)+3)=_:=h3
 have e2:(((2:Nat):Int))=2:=rfl
 have e3:(((3:Nat):Int))=3:=rfl
 simp only [e2,e3]
 rw [h0,h1,h2',h3']
theorem zjx (m:Msg):(xC m).length=12+m.data.length:=by rw [xC,List.length_append,k8]
theorem zaP (m:Msg):(zE m).length=14+m.data.length:=by rw [zE,List.length_append,zjx];simp;omega
theorem zk1 (m:Msg):(zE m).take ((zE m).length - 2)=xC m:=by
 rw [zaP,zE,show 14+m.data.length - 2=(xC m).length by rw [zjx];omega,List.take_left']
 rfl
theorem zzg (b:List UInt8):0≤km b∧km b < 65521:=zc6 b 1 (by decide) (by decide)
theorem wX (m:Msg) (k:Nat) (h:k < 12):(zE m).getD k 0=(jM m).getD k 0:=by
 rw [zE,xC,List.append_assoc,List.getD_eq_getElem?_getD,List.getD_eq_getElem?_getD,List.getElem?_append_left (by rw [k8];exact h)]
theorem zAu (m:Msg):z1 (zE m) (((zE m).length:Int) - 2) 2=km (xC m):=by
 have hl:=zaP m
 have hb:=zjx m
 have hs:=zzg (xC m)
 rw [show ((zE m).length:Int) - 2=((12+m.data.length:Nat):Int) by omega,zp6 _ _ (by omega)]
 have h0:(zE m).getD (12+m.data.length) 0=zr (km (xC m) / 256):=by
  rw [zE,List.getD_eq_getElem?_getD,List.getElem?_append_right (by omega)]
  simp [hb]
 have h1:(zE m).getD (12+m.data.length+1) 0=zr (km (xC m)):=by
  rw [zE,List.getD_eq_getElem?_getD,List.getElem?_append_right (by omega)]
  simp [hb,show 12+m.data.length+1 - (12+m.data.length)=1 by omega]
 rw [h0,h1]
 have e0:=yG (km (xC m) / 256)
 have e1:=yG (km (xC m))
 omega
theorem zAv (m:Msg) (h:m.data.length≤1048576):z1 (zE m) 8 4=m.data.length:=by
 have hl:=zaP m
 rw [show (8:Int)=((8:Nat):Int) from rfl,zAt _ _ (by omega),wX m 8 (by decide),wX m (8+1) (by decide),wX m (8+2) (by decide),wX m (8+3) (by decide),zsk]
 simp only [List.getD_cons_succ,List.getD_cons_zero]
 have e0:=yG ((m.data.length:Int) / 256 / 256 / 256)
 have e1:=yG ((m.data.length:Int) / 256 / 256)
 have e2:=yG ((m.data.length:Int) / 256)
 have e3:=yG (m.data.length:Int)
 rw [e0,e1,e2,e3]
 omega
theorem qb {m:Msg} (h:yF m=0):wy (zE m)=m:=by
 obtain ⟨h1,h2,h3,h4,h5,h6,h7,h8,h9,h10,h11,h12,h13,_⟩:=zoY h
 have hl:=zaP m
 unfold wy
 rw [zk1,show (3:Int)=((3:Nat):Int) from rfl,show (6:Int)=((6:Nat):Int) from rfl,zp6 _ 3 (by omega),zp6 _ 6 (by omega),wX m 0 (by decide),wX m 1 (by decide),wX m 2 (by decide),wX m 3 (by decide),wX m (3+1) (by decide),wX m 5 (by decide),wX m 6 (by decide),wX m (6+1) (by decide),zsk]
 simp only [List.getD_cons_succ,List.getD_cons_zero,yG]
 obtain ⟨kind,worker,unit,turn,err,at_,data⟩:=m
 simp only [Msg.mk.injEq] at *
 refine ⟨by omega,by omega,by omega,by omega,by omega,by omega,?_⟩
 rw [xC,List.drop_left' (k8 _)]
theorem zb0 {m:Msg} (h:yF m=0):wv (zE m)=0:=by
 obtain ⟨h1,h2,h3,h4,h5,h6,h7,h8,h9,_⟩:=zoY h
 have hl:=zaP m
 rw [zky,qb h,h]
 rintro (k | k | k)
 ·omega
 ·rw [zAv m h9] at k;omega
 ·rw [zAu,zk1] at k;exact k rfl
structure zfd (P:Int→zp→Prop):Prop where
 mono:∀ {B C:Int} {f:zp},P B f→B≤C→P C f
 wait:∀ {B:Int} {f:zp} {k:Nat},P B f→k < f.jobs.length→P B (wE f k (y0 (zm f k)))
 give:∀ {B:Int} {f:zp} {k n:Nat},P B f→k < f.jobs.length→n < f.dead.length→P (B+1) (xS f k n)
 dead:∀ {B:Int} {f:zp},P B f→f.dead.length≤3
theorem zvN (f:zp) (m:Msg):(vY f m).jobs=f.jobs∧(vY f m).dead=f.dead∧(vY f m).base=f.base:=by
 unfold vY
 split
 ·exact ⟨rfl,rfl,rfl⟩
 ·exact ⟨rfl,rfl,rfl⟩
theorem ztW (f:zp) (k n:Nat):(xS f k n).jobs.length=f.jobs.length∧(xS f k n).dead=f.dead∧(xS f k n).base=f.base:=by
 unfold xS
 split
 ·exact ⟨rfl,rfl,rfl⟩
 ·obtain ⟨h1,h2,h3⟩:=zvN (wE f k (jS (zm f k) (xB f k n) ((zm f k).turn+1) 0)) ⟨1,xB f k n,k,(zm f k).turn+1,0,0,(zm f k).src⟩
  exact ⟨by rw [h1,q9],h2,h3⟩
theorem zjy {P:Int→zp→Prop} (h:zfd P) {B:Int}:∀ (m k:Nat) (f:zp),k+m≤f.jobs.length→P B f→P B (vh m k f)∧(vh m k f).jobs.length=f.jobs.length∧(vh m k f).dead=f.dead
 | 0,k,f,_,hp=>⟨hp,rfl,rfl⟩
 | m+1,k,f,hk,hp=>by
  obtain ⟨h1,h2,h3⟩:=zjy h m (k+1) (wE f k (y0 (zm f k))) (by rw [q9];omega) (h.wait hp (by omega))
  rw [vh]
  exact ⟨h1,by rw [h2,q9],h3⟩
theorem zet {P:Int→zp→Prop} (h:zfd P):∀ (m k n:Nat) (B:Int) (f:zp),k < f.jobs.length→n+m≤f.dead.length→P B f→P (B+(m:Int)) (wm m k n f)∧(wm m k n f).jobs.length=f.jobs.length∧(wm m k n f).dead=f.dead
 | 0,k,n,B,f,_,_,hp=>⟨h.mono hp (by omega),rfl,rfl⟩
 | m+1,k,n,B,f,hk,hn,hp=>by
  obtain ⟨s1,s2,_⟩:=ztW f k n
  obtain ⟨h1,h2,h3⟩:=zet h m k (n+1) (B+1) (xS f k n) (by rw [s1];exact hk) (by rw [s2];omega) (h.give hp hk (by omega))
  rw [wm]
  exact ⟨h.mono h1 (by omega),by rw [h2,s1],by rw [h3,s2]⟩
theorem zmO {P:Int→zp→Prop} (h:zfd P):∀ (m k:Nat) (B:Int) (f:zp),k+m≤f.jobs.length→P B f→P (B+3 * (m:Int)) (je m k f)∧(je m k f).jobs.length=f.jobs.length∧(je m k f).dead=f.dead
 | 0,k,B,f,_,hp=>⟨h.mono hp (by omega),rfl,rfl⟩
 | m+1,k,B,f,hk,hp=>by
  have hd:=h.dead hp
  obtain ⟨s0,s1,s2⟩:=zet h f.dead.length k 0 B f (by omega) (by omega) hp
  obtain ⟨h1,h2,h3⟩:=zmO h m (k+1) (B+3) (wm f.dead.length k 0 f) (by rw [s1];omega) (h.mono s0 (by omega))
  rw [je]
  exact ⟨h.mono h1 (by omega),by rw [h2,s1],by rw [h3,s2]⟩
theorem zxs {P:Int→zp→Prop} (h:zfd P) {B:Int} {f:zp} (hj:f.jobs.length≤4) (hp:P B f):P (B+12) (vA f)∧(vA f).jobs.length=f.jobs.length∧(vA f).dead=f.dead:=by
 obtain ⟨h1,h2,h3⟩:=zjy h f.jobs.length 0 f (by omega) hp
 obtain ⟨k1,k2,k3⟩:=zmO h f.jobs.length 0 B (vh f.jobs.length 0 f) (by omega) h1
 unfold vA
 exact ⟨h.mono k1 (by omega),by rw [k2,h2],by rw [k3,h3]⟩
attribute [local irreducible] zE yF wy wv qr xu yD vu
end Go.Proofs.YtnkdeacghopkiaaGreatDoor
namespace Go.Proofs.YtnkdeacghopkiaaGreatDoor
open Go Go.Plat
set_option linter.unusedVariables false
set_option linter.unusedSimpArgs false
set_option maxRecDepth 100000
set_option maxHeartbeats 2000000
attribute [local irreducible] AWP zG yn zK zn yA z8 zI zY z6 zw za zN yB zt z7 yx yy yq yt zx zz zD zE wy vu wv xu yF yD
structure kb (S:Nat→List UInt8) (O:Nat→yz):Prop where
 src:∀ k,zkV (S k)
 len:∀ k,(S k).length≤1200
 unit:∀ k,xu (S k)=(O k,0,0)
 right:∀ k,yD (O k)=0
 olen:∀ k,(vu (O k)).length≤1000000
structure GM (S:Nat→List UInt8) (O:Nat→yz) (f:zp) (m:Msg):Prop where
 right:yF m=0
 unit:m.unit < 2
 turn:1≤m.turn∧m.turn≤(zm f m.unit.toNat).turn
 worker:m.worker < 2
 data:(m.kind=1∧m.data=S m.unit.toNat)∨(m.kind=2∧m.data=vu (O m.unit.toNat)∧m.err=0)
structure JI (S:Nat→List UInt8) (O:Nat→yz) (B:Int) (k:Nat) (j:yK):Prop where
 src:j.src=S k
 done:j.done=true→j.obj=vu (O k)∧j.fe=0
 obj:j.obj.length≤1000000
 nums:0≤j.turn∧j.turn≤B∧-1≤j.worker∧j.worker < 2∧0≤j.wait∧j.wait≤3
structure FI (S:Nat→List UInt8) (O:Nat→yz) (B:Int) (f:zp):Prop where
 base:f.base=64
 len:f.jobs.length=2
 jobs:∀ k,k < 2→JI S O B k (zm f k)
 dead:f.dead=[false,false]
 way:∃ ms:List Msg,f.way=ms.map zE∧ms.length≤12∧∀ m∈ms,GM S O f m
variable {S : Nat → List UInt8} {O : Nat → yz}
theorem qk {f:zp} {k u:Nat} {j:yK} (hk:k < f.jobs.length):zm (wE f k j) u=if u=k then j else zm f u:=by
 unfold zm wE
 dsimp only
 by_cases h:u=k
 ·subst h
  rw [if_pos rfl,List.getElem?_set_self hk]
  rfl
 ·rw [if_neg h,List.getElem?_set_ne (fun e=>h e.symm)]
theorem GM.up {f g:zp} {m:Msg} (h:GM S O f m) (ht:∀ u,(zm f u).turn≤(zm g u).turn):GM S O g m:=⟨h.right,h.unit,⟨h.turn.1,Int.le_trans h.turn.2 (ht _)⟩,h.worker,h.data⟩
theorem GM.size (hS:kb S O) {f:zp} {m:Msg} (h:GM S O f m):(zE m).length≤1000014:=by
 rw [zaP]
 rcases h.data with ⟨_,h⟩ | ⟨_,h,_⟩
 ·rw [h];have:=hS.len m.unit.toNat;omega
 ·rw [h];have:=hS.olen m.unit.toNat;omega
theorem zp7 {B C:Int} {f:zp} {k:Nat} {j:yK} (h:FI S O B f) (hk:k < 2) (hj:JI S O C k j) (hB:B≤C) (ht:(zm f k).turn≤j.turn):FI S O C (wE f k j):=by
 have hkl:k < f.jobs.length:=by rw [h.len];exact hk
 have hA:∀ u,(zm f u).turn≤(zm (wE f k j) u).turn:=fun u=>by
  rw [qk hkl]
  split
  ·rename_i e;subst e;exact ht
  ·exact Int.le_refl _
 obtain ⟨ms,w1,w2,w3⟩:=h.way
 refine ⟨h.base,by rw [q9];exact h.len,fun u hu=>?_,h.dead,ms,w1,w2,fun m hm=>(w3 m hm).up hA⟩
 rw [qk hkl]
 split
 ·rename_i e;subst e;exact hj
 ·obtain ⟨a,b,c,d⟩:=h.jobs u hu
  exact ⟨a,b,c,by omega⟩
theorem zvO {B:Int} {f:zp} {m:Msg} (h:FI S O B f) (hm:yF m=0→GM S O f m):FI S O B (vY f m):=by
 obtain ⟨ms,w1,w2,w3⟩:=h.way
 have hp:vY f m=if yF m=0∧f.way.length < 12 then { f with way:=f.way++[zE m] } else f:=rfl
 rw [hp]
 split
 ·rename_i hc
  have hl:f.way.length < 12:=hc.2
  rw [w1,List.length_map] at hl
  refine ⟨h.base,h.len,h.jobs,h.dead,ms++[m],?_,?_,fun x hx=>?_⟩
  ·show f.way++[zE m]=_
   rw [w1,List.map_append]
   rfl
  ·rw [List.length_append]
   show ms.length+1≤12
   omega
  ·rcases List.mem_append.1 hx with hx | hx
   ·exact (w3 x hx).up fun _=>Int.le_refl _
   ·rw [List.mem_singleton.1 hx];exact (hm hc.1).up fun _=>Int.le_refl _
 ·exact h
theorem zp8 {f:zp} {B:Int} (h:FI S O B f) {k:Nat} (hk:k < f.jobs.length):k < 2:=by rw [h.len] at hk;exact hk
theorem kV:zfd (FI S O) where
 mono h hb:=⟨h.base,h.len,fun k hk=>by obtain ⟨a,b,c,d⟩:=h.jobs k hk;exact ⟨a,b,c,by omega⟩,h.dead,h.way⟩
 wait {B f k} h hk:=by
  obtain ⟨a,b,c,d⟩:=h.jobs k (zp8 h hk)
  have ht:(y0 (zm f k)).turn=(zm f k).turn:=by
   unfold y0
   split
   ·rfl
   split<;>rfl
  refine zp7 h (zp8 h hk) ?_ (Int.le_refl _) (by rw [ht];exact Int.le_refl _)
  unfold y0
  split
  ·exact ⟨a,b,c,d⟩
  split
  ·exact ⟨a,b,c,d.1,d.2.1,by show (-1:Int)≤-1;omega,by show (-1:Int) < 2;omega,by show (0:Int)≤0;omega,by show (0:Int)≤3;omega⟩
  ·exact ⟨a,b,c,d.1,d.2.1,d.2.2.1,d.2.2.2.1,by show 0≤(zm f k).wait+1;omega,by show (zm f k).wait+1≤3;omega⟩
 give {B f k n} h hk hn:=by
  have hk2:=zp8 h hk
  obtain ⟨a,b,c,d⟩:=h.jobs k hk2
  have hW:=zsi (a:=(zm f k).turn+(k:Int)+(n:Int)) (n:=f.dead.length) (by rw [h.dead];decide)
  rw [h.dead] at hW
  have hW:0≤xB f k n∧xB f k n < 2:=by unfold xB;rw [h.dead];exact hW
  have hg:xS f k n=if (zm f k).done=true∨0≤(zm f k).worker∨qr f (xB f k n)=false then f
   else vY (wE f k (jS (zm f k) (xB f k n) ((zm f k).turn+1) 0)) ⟨1,xB f k n,k,(zm f k).turn+1,0,0,(zm f k).src⟩:=rfl
  rw [hg]
  split
  ·exact ⟨h.base,h.len,fun u hu=>by obtain ⟨a,b,c,d⟩:=h.jobs u hu;exact ⟨a,b,c,by omega⟩,h.dead,h.way⟩
  ·have h2:FI S O (B+1) (wE f k (jS (zm f k) (xB f k n) ((zm f k).turn+1) 0)):=
    zp7 h hk2 ⟨a,b,c,by show 0≤(zm f k).turn+1;omega,by show (zm f k).turn+1≤B+1;omega,by show -1≤xB f k n;omega,hW.2,by show (0:Int)≤0;omega,by show (0:Int)≤3;omega⟩ (by omega) (by show (zm f k).turn≤(zm f k).turn+1;omega)
   refine zvO h2 fun hw=>⟨hw,by show (k:Int) < 2;omega,?_,hW.2,.inl ⟨rfl,?_⟩⟩
   ·refine ⟨by show 1≤(zm f k).turn+1;omega,?_⟩
    show (zm f k).turn+1≤(zm (wE f k _) ((k:Nat):Int).toNat).turn
    rw [Int.toNat_natCast,qk hk,if_pos rfl]
    exact Int.le_refl _
   ·show (zm f k).src=S ((k:Nat):Int).toNat
    rw [Int.toNat_natCast]
    exact a
 dead h:=by rw [h.dead];decide
theorem zp9 (hS:kb S O) {f:zp} {m:Msg} (h:GM S O f m) (hk:m.kind=1):zfc m=⟨2,m.worker,m.unit,m.turn,0,0,vu (O m.unit.toNat)⟩:=by
 have hd:m.data=S m.unit.toNat:=by
  rcases h.data with h | h
  ·exact h.2
  ·rw [hk] at h;exact absurd h.1 (by decide)
 unfold zfc
 rw [hd,hS.unit]
 dsimp only
 rw [hS.right,if_neg (fun h=>h rfl),if_neg (fun h=>h rfl)]
theorem ziN {w u t:Int} {b:List UInt8} (h0:0≤w) (h1:w < 2) (h2:0≤u) (h3:u < 2) (h4:0≤t) (h5:t≤65535) (hb:b.length≤1000000) {k:Int} (hk:k=1∨k=2):yF ⟨k,w,u,t,0,0,b⟩=0:=by
 unfold yF
 dsimp only
 rw [if_neg (by omega),if_neg (by omega),if_neg (fun h=>by omega),if_neg (fun h=>h.2 ⟨rfl,rfl⟩),if_neg (by omega)]
theorem zmP {f:zp} (h:f.dead=[false,false]) {w:Int} (h0:0≤w) (h1:w < 2):qt f w=false:=by
 unfold qt
 rw [h]
 rcases (by omega:w=0∨w=1) with rfl | rfl<;>rfl
theorem zsl (hS:kb S O) {B:Int} {f:zp} {m:Msg} (h:FI S O B f) (hm:GM S O f m):FI S O B (qu f (zE m)):=by
 obtain ⟨_,_,w0,_,u0,_,t0,t1⟩:=zgd hm.right
 have hu2:m.unit.toNat < 2:=by have:=hm.unit;omega
 have hul:m.unit.toNat < f.jobs.length:=by rw [h.len];exact hu2
 unfold qu
 rw [zb0 hm.right,qb hm.right,if_neg (fun h=>h rfl)]
 unfold zdh
 rw [if_neg (by rw [h.len];have:=hm.unit;show ¬ ((2:Nat):Int)≤m.unit;omega)]
 split
 ·rename_i hk
  unfold zbZ
  rw [zmP h.dead w0 hm.worker,if_neg (by decide),zp9 hS hm hk]
  exact zvO h fun hw=>⟨hw,hm.unit,hm.turn,hm.worker,.inr ⟨rfl,rfl,rfl⟩⟩
 ·rename_i hk
  obtain ⟨_,hd,he⟩:=hm.data.resolve_left fun e=>hk e.1
  split
  ·obtain ⟨a,b,c,d⟩:=h.jobs _ hu2
   exact zp7 h hu2 ⟨a,fun _=>⟨hd,he⟩,by show m.data.length≤_;rw [hd];exact hS.olen _,d.1,d.2.1,by show (-1:Int)≤-1;omega,by show (-1:Int) < 2;omega,by show (0:Int)≤0;omega,by show (0:Int)≤3;omega⟩ (Int.le_refl _) (Int.le_refl _)
  ·exact h
end Go.Proofs.YtnkdeacghopkiaaGreatDoor
namespace Go.Proofs.YtnkdeacghopkiaaGreatDoor
open Go Go.Plat
set_option linter.unusedVariables false
set_option linter.unusedSimpArgs false
set_option maxRecDepth 100000
set_option maxHeartbeats 2000000
attribute [local irreducible] AWP zG yn zK zn yA z8 zI zY z6 zw za zN yB zt z7 yx yy yq yt zx zz zD qr zE wy vu wv vA xu yF yD
variable {S : Nat → List UInt8} {O : Nat → yz}
theorem zsm {α β:Type} (f:α→β):∀ (l:List α) (i:Nat),(l.map f).eraseIdx i=(l.eraseIdx i).map f
 | [],_=>rfl
 | _::_,0=>rfl
 | x::l,i+1=>by
  show f x::(l.map f).eraseIdx i=f x::(l.eraseIdx i).map f
  rw [zsm f l i]
theorem zvP {B:Int} {f:zp} (h:FI S O B f) {n:Int} (h0:0≤n) (h1:n < f.way.length):∃ m,wZ f n=zE m∧GM S O f m:=by
 obtain ⟨ms,w1,w2,w3⟩:=h.way
 have hl:n.toNat < ms.length:=by rw [w1,List.length_map] at h1;omega
 refine ⟨ms[n.toNat],?_,w3 _ (List.getElem_mem hl)⟩
 unfold wZ
 rw [w1,List.getElem?_map,List.getElem?_eq_getElem hl]
 rfl
theorem zqa {B:Int} {f:zp} (h:FI S O B f) {l:List (List UInt8)} {ms:List Msg} (hl:l=ms.map zE) (h12:ms.length≤12) (hm:∀ m∈ms,GM S O f m):FI S O B { f with way:=l }:=
 ⟨h.base,h.len,h.jobs,h.dead,ms,hl,h12,fun m hx=>(hm m hx).up fun _=>Int.le_refl _⟩
theorem zvQ {B:Int} {f:zp} (h:FI S O B f) (n:Int):FI S O B (j9 f n):=by
 obtain ⟨ms,w1,w2,w3⟩:=h.way
 exact zqa h (by rw [w1,zsm]) (Nat.le_trans (List.length_eraseIdx_le _ _) w2) fun m hm=>w3 m (List.mem_of_mem_eraseIdx hm)
theorem znR (hS:kb S O) {B:Int} {f:zp} {s:Stp} (h:FI S O B f) (hB:B≤60000) (hs: -9223372036854775808≤s.n∧s.n≤9223372036854775807):zju f s:=by
 have hl:=h.len
 have hd:f.dead.length=2:=by rw [h.dead];rfl
 have hj:∀ j∈f.jobs,∃ k,JI S O B k j:=fun j hj=>by
  obtain ⟨k,hk,rfl⟩:=List.getElem_of_mem hj
  have:=h.jobs k (by omega)
  unfold zm at this
  rw [List.getElem?_eq_getElem hk] at this
  exact ⟨k,this⟩
 obtain ⟨ms,w1,w2,w3⟩:=h.way
 have hw:f.way.length≤12:=by rw [w1,List.length_map];exact w2
 refine ⟨⟨by omega,⟨fun e=>by rw [e] at hd;exact absurd hd (by decide),by omega⟩,by omega,fun j hjm=>?_,fun b hb=>?_⟩,⟨by omega,by omega,hw,fun j hjm=>?_⟩,hs,fun _ h0 h1=>?_⟩
 ·obtain ⟨k,hk⟩:=hj j hjm
  have h1:=hS.len k
  have h2:=hk.obj
  rw [hk.src]
  omega
 ·rw [w1] at hb
  obtain ⟨m,hm,rfl⟩:=List.mem_map.1 hb
  have:=(w3 m hm).size hS
  omega
 ·obtain ⟨k,hk⟩:=hj j hjm
  have:=hk.nums
  omega
 ·obtain ⟨m,hm,hg⟩:=zvP h h0 h1
  rw [hm]
  refine ⟨by have:=hg.size hS;omega,fun _ hk _=>?_⟩
  rw [qb hg.right] at hk ⊢
  rcases hg.data with h2 | h2
  ·rw [h2.2];exact .inr (hS.src _)
  ·rw [h2.1] at hk;exact absurd hk (by decide)
theorem zsn {B:Int} {f:zp} (h:FI S O B f):FI S O (B+12) (vA f):=(zxs kV (by rw [h.len];decide) h).1
theorem zA1 (hS:kb S O) {B:Int} {f:zp} {s:Stp} (h:FI S O B f) (hk:s.kind≠5):FI S O (B+12) (doF f s).1:=by
 have up:∀ {g:zp},FI S O B g→FI S O (B+12) g:=fun h=>kV.mono h (by omega)
 unfold doF
 split
 ·exact zsn h
 split
 ·split
  ·exact up h
  rename_i hr
  obtain ⟨m,hm,hg⟩:=zvP h (n:=s.n) (by omega) (by omega)
  split
  ·obtain ⟨ms,w1,w2,w3⟩:=h.way
   dsimp only
   split
   ·rename_i hl
    rw [w1,List.length_map] at hl
    refine up (zqa h (ms:=ms++[m]) ?_ ?_ fun x hx=>?_)
    ·rw [w1,hm,List.map_append];rfl
    ·rw [List.length_append];show ms.length+1≤12;omega
    ·rcases List.mem_append.1 hx with hx | hx
     ·exact w3 x hx
     ·rw [List.mem_singleton.1 hx];exact hg
   ·exact up h
  split
  ·dsimp only
   rw [hm]
   exact up (zsl hS (zvQ h _) (hg.up fun _=>Int.le_refl _))
  ·exact up (zvQ h _)
 exact up h
theorem zqb (hS:kb S O):∀ (st:List Stp) (B:Int) (f:zp),FI S O B f→B+12 * (st.length:Int)≤50000→(∀ s∈st,s.kind≠5∧-9223372036854775808≤s.n∧s.n≤9223372036854775807)→∃ g es,jU st f g es∧FI S O (B+12 * (st.length:Int)) g
 | [],B,f,h,_,_=>⟨f,[],.nil,kV.mono h (by omega)⟩
 | s::st,B,f,h,hB,hs=>by
  rw [List.length_cons] at hB ⊢
  have hk:=hs s List.mem_cons_self
  obtain ⟨g,es,hp,hg⟩:=zqb hS st (B+12) _ (zA1 hS h hk.1) (by omega) fun s hx=>hs s (List.mem_cons_of_mem _ hx)
  exact ⟨g,_,.cons (znR hS h (by omega) hk.2) hp,kV.mono hg (by omega)⟩
theorem zAw (hS:kb S O):FI S O 0 (zeM [S 0,S 1] 64 2):=by
 refine ⟨rfl,rfl,fun k hk=>?_,rfl,[],rfl,by decide,fun m hm=>by cases hm⟩
 have:zm (zeM [S 0,S 1] 64 2) k=zxr (S k):=by
  rcases (by omega:k=0∨k=1) with rfl | rfl<;>rfl
 rw [this]
 exact ⟨rfl,fun h=>Bool.noConfusion h,Nat.zero_le _,Int.le_refl 0,Int.le_refl 0,by show (-1:Int)≤-1;decide,by show (-1:Int) < 2;decide,Int.le_refl 0,by show (0:Int)≤3;decide⟩
theorem ztX (hS:kb S O) {B:Int} {f:zp} {m:Msg} (h:FI S O B f) (hB:B≤60000) (hm:GM S O f m) (hk:m.kind=1) (hw:f.way.length < 12) :
  ∃ r,qu f (zE m)={ f with way:=f.way++[zE r] }∧GM S O f r∧r.kind=2∧r.unit=m.unit:=by
 obtain ⟨_,_,w0,_,u0,_,t0,t1⟩:=zgd hm.right
 have hu:=hm.unit
 have hr:=ziN (k:=2) w0 hm.worker u0 hu t0 t1 (hS.olen m.unit.toNat) (.inr rfl)
 refine ⟨_,?_,⟨hr,hm.unit,hm.turn,hm.worker,.inr ⟨rfl,rfl,rfl⟩⟩,rfl,rfl⟩
 unfold qu
 rw [zb0 hm.right,qb hm.right,if_neg (fun h=>h rfl)]
 unfold zdh
 rw [if_neg (by rw [h.len];show ¬ ((2:Nat):Int)≤m.unit;omega),if_pos hk]
 unfold zbZ
 rw [zmP h.dead w0 hm.worker,if_neg (by decide),zp9 hS hm hk]
 unfold vY
 rw [if_pos ⟨hr,hw⟩]
theorem zxt {B:Int} {f:zp} {m:Msg} (h:FI S O B f) (hm:GM S O f m) (hk:m.kind=2) :
  (qu f (zE m)).way=f.way∧(zm (qu f (zE m)) m.unit.toNat).done=true∧∀ u,u≠m.unit.toNat→zm (qu f (zE m)) u=zm f u:=by
 have hu:=hm.unit
 obtain ⟨_,_,_,_,u0,_,_,_⟩:=zgd hm.right
 have hul:m.unit.toNat < f.jobs.length:=by rw [h.len];omega
 have ht:=hm.turn
 unfold qu
 rw [zb0 hm.right,qb hm.right,if_neg (fun h=>h rfl)]
 unfold zdh
 rw [if_neg (by rw [h.len];show ¬ ((2:Nat):Int)≤m.unit;omega),if_neg (by omega)]
 split
 ·refine ⟨rfl,?_,fun u hne=>?_⟩
  ·rw [qk hul,if_pos rfl];rfl
  ·rw [qk hul,if_neg hne]
 ·rename_i hc
  refine ⟨rfl,?_,fun u _=>rfl⟩
  cases hd:(zm f m.unit.toNat).done with
  | true=>rfl
  | false=>exact absurd ⟨hd,ht.2,by omega⟩ hc
def wgt:List Msg→Nat
 | []=>0
 | m::l=>(if m.kind=1 then 2 else 1)+wgt l
theorem zso:∀ (a b:List Msg),wgt (a++b)=wgt a+wgt b
 | [],b=>(Nat.zero_add _).symm
 | m::a,b=>by rw [List.cons_append,wgt,wgt,zso a b,Nat.add_assoc]
theorem zjz (hS:kb S O) {B:Int} (hB:B≤60000):∀ (c:Nat) (ms:List Msg) (f:zp),wgt ms≤c→FI S O B f→f.way=ms.map zE→ms.length≤12→(∀ m∈ms,GM S O f m) →
  ∃ n g,zgh n f g∧FI S O B g∧g.way=[]∧∀ k,k < 2→(zm g k).done=true∨(zm g k=zm f k∧∀ m∈ms,m.unit.toNat≠k)
 | _,[],f,_,h,hw,_,_=>⟨0,f,.done hw,h,hw,fun k _=>.inr ⟨rfl,fun m hm=>by cases hm⟩⟩
 | 0,m::ms,_,hc,_,_,_,_=>by
  rw [wgt] at hc
  split at hc<;>omega
 | c+1,m::ms,f,hc,h,hw,h12,hms=>by
  rw [wgt] at hc
  rw [List.length_cons] at h12
  have hm:=hms m List.mem_cons_self
  have ho:j9 f 0={ f with way:=ms.map zE }:=by unfold j9;rw [hw];rfl
  have ha:wZ f 0=zE m:=by unfold wZ;rw [hw];rfl
  have hwl:f.way.length=ms.length+1:=by rw [hw,List.length_map,List.length_cons]
  have hd:(doF f goS).1=qu { f with way:=ms.map zE } (zE m):=by
   unfold doF goS
   dsimp only
   rw [if_neg (by decide),if_pos (.inl rfl),if_neg (by omega),if_neg (by decide),if_pos rfl]
   dsimp only
   rw [ha,ho]
  have hne:f.way≠[]:=by rw [hw];exact List.cons_ne_nil _ _
  have hok:zju f goS:=znR hS h hB ⟨by decide,by decide⟩
  have h1:FI S O B { f with way:=ms.map zE }:=zqa h rfl (by omega) fun x hx=>hms x (List.mem_cons_of_mem _ hx)
  have hm1:GM S O { f with way:=ms.map zE } m:=hm.up fun _=>Int.le_refl _
  have h2:=zsl hS h1 hm1
  rcases hm.data with hk | hk
  ·obtain ⟨r,e1,e2,e3,e4⟩:=ztX hS h1 hB hm1 hk.1 (by show (ms.map zE).length < 12;rw [List.length_map];omega)
   rw [e1] at hd h2
   rw [if_pos hk.1] at hc
   obtain ⟨n,g,d1,d2,d3,d4⟩:=zjz hS hB c (ms++[r]) _ (by rw [zso,wgt,wgt,if_neg (by omega)];omega) h2 (by rw [List.map_append];rfl) (by rw [List.length_append];show ms.length+1≤12;omega) fun x hx=>by
    rcases List.mem_append.1 hx with hx | hx
    ·exact (hms x (List.mem_cons_of_mem _ hx)).up fun _=>Int.le_refl _
    ·rw [List.mem_singleton.1 hx];exact e2.up fun _=>Int.le_refl _
   refine ⟨n+1,g,.step hne hok (by rw [hd];exact d1),d2,d3,fun k hk=>?_⟩
   rcases d4 k hk with q | ⟨q1,q2⟩
   ·exact .inl q
   ·refine .inr ⟨q1,fun x hx=>?_⟩
    rcases List.mem_cons.1 hx with rfl | hx
    ·rw [← e4];exact q2 r (List.mem_append_right _ List.mem_cons_self)
    ·exact q2 x (List.mem_append_left _ hx)
  ·obtain ⟨e1,e2,e3⟩:=zxt h1 hm1 hk.1
   rw [if_neg (by omega)] at hc
   rw [← hd] at e1 e2 e3 h2
   have hj:∀ u,(zm f u).turn≤(zm (doF f goS).1 u).turn:=fun u=>by
    rw [hd]
    unfold qu
    rw [zb0 hm.right,qb hm.right,if_neg (fun h=>h rfl)]
    unfold zdh
    split
    ·exact Int.le_refl _
    rw [if_neg (by omega)]
    split
    ·rename_i hu _
     rw [qk (by rw [h1.len];have:=hm.unit;omega)]
     split
     ·rename_i e;subst e;exact Int.le_refl _
     ·exact Int.le_refl _
    ·exact Int.le_refl _
   obtain ⟨n,g,d1,d2,d3,d4⟩:=zjz hS hB c ms _ (by omega) h2 e1 (by omega) fun x hx=>(hms x (List.mem_cons_of_mem _ hx)).up hj
   refine ⟨n+1,g,.step hne hok d1,d2,d3,fun k hk=>?_⟩
   rcases d4 k hk with q | ⟨q1,q2⟩
   ·exact .inl q
   ·by_cases hu:k=m.unit.toNat
    ·rw [hu] at q1 ⊢
     rw [q1]
     exact .inl e2
    ·refine .inr ⟨q1.trans (e3 k hu),fun x hx=>?_⟩
     rcases List.mem_cons.1 hx with rfl | hx
     ·exact fun e=>hu e.symm
     ·exact q2 x hx
end Go.Proofs.YtnkdeacghopkiaaGreatDoor
namespace Go.Proofs.YtnkdeacghopkiaaGreatDoor
open Go Go.Plat
set_option linter.unusedVariables false
set_option linter.unusedSimpArgs false
set_option maxRecDepth 100000
set_option maxHeartbeats 2000000
attribute [local irreducible] AWP zG yn zK zn yA z8 zI zY z6 zw za zN yB zt z7 yx yy yq yt zx zz zD zE wy vu wv xu yF yD
variable {S : Nat → List UInt8} {O : Nat → yz}
def Cov (f:zp) (k:Nat):Prop:=∃ m,zE m∈f.way∧yF m=0∧m.unit.toNat=k
theorem zgi {f:zp} (h:f.jobs.length=2) {w:Int} (h0:qM w (zm f 0)=false) (h1:qM w (zm f 1)=false):qr f w=true:=by
 obtain ⟨a,l,c,d⟩:=f
 match l,h with
 | [x,y],_=>
  have h0:qM w x=false:=h0
  have h1:qM w y=false:=h1
  unfold qr
  dsimp only
  rw [List.any_cons,List.any_cons,h0,h1]
  rfl
theorem zlU {w:Int} {j:yK} (h:j.worker≠w):qM w j=false:=by
 unfold qM
 rw [beq_false_of_ne h,Bool.and_false]
theorem zlV {f:zp} (hd:f.dead=[false,false]) (k n:Nat):xB f k n=((zm f k).turn+(k:Int)+(n:Int)) % 2:=by
 unfold xB
 rw [hd]
 rfl
theorem zxu {f:zp} (h:f.jobs.length=2) (hd:f.dead=[false,false]) {k:Nat} (hk:k < 2) (hw:(zm f k).worker < 0) (hf:qr f (xB f k 0)=false):qr f (xB f k 1)=true:=by
 have e0:=zlV hd k 0
 have e1:=zlV hd k 1
 generalize xB f k 0=w0 at *
 generalize xB f k 1=w1 at *
 have hb:∀ w,0≤w→qM w (zm f k)=false:=fun w hw0=>zlU (by omega)
 have key:∀ o:yK,(qM w0 o=false→False)→qM w1 o=false:=fun o ho=>by
  refine zlU fun e=>ho (zlU fun e2=>?_)
  omega
 rcases (by omega:k=0∨k=1) with rfl | rfl
 ·refine zgi h (hb _ (by omega)) (key _ fun hx=>?_)
  rw [zgi h (hb _ (by omega)) hx] at hf
  exact Bool.noConfusion hf
 ·refine zgi h (key _ fun hx=>?_) (hb _ (by omega))
  rw [zgi h hx (hb _ (by omega))] at hf
  exact Bool.noConfusion hf
attribute [local irreducible] qr
theorem zlW {f:zp} {k n:Nat} (h:(zm f k).done=true∨0≤(zm f k).worker∨qr f (xB f k n)=false):xS f k n=f:=by
 unfold xS
 rw [if_pos h]
structure zAx (f g:zp) (k:Nat):Prop where
 others:∀ u,u≠k→zm g u=zm f u
 way:∃ x,g.way=f.way++x∧x.length≤1
 here:(zm g k=zm f k∧((zm f k).done=true∨0≤(zm f k).worker))∨Cov g k
theorem zqc (hS:kb S O) {B:Int} {f:zp} {k n:Nat} (h:FI S O B f) (hB:B≤60000) (hk:k < 2) (hw:f.way.length < 12) (hdn:(zm f k).done=false) (hwk:(zm f k).worker < 0) (hf:qr f (xB f k n)=true) :
  zAx f (xS f k n) k∧0≤(zm (xS f k n) k).worker:=by
 obtain ⟨a,b,c,d⟩:=h.jobs k hk
 have hkl:k < f.jobs.length:=by rw [h.len];exact hk
 have hW:=zlV h.dead k n
 have hsl:=hS.len k
 have hr:yF ⟨1,xB f k n,k,(zm f k).turn+1,0,0,(zm f k).src⟩=0:=ziN (by omega) (by omega) (by omega) (by omega) (by omega) (by omega) (by rw [a];omega) (.inl rfl)
 have hg:xS f k n={ wE f k (jS (zm f k) (xB f k n) ((zm f k).turn+1) 0) with way:=f.way++[zE ⟨1,xB f k n,k,(zm f k).turn+1,0,0,(zm f k).src⟩] }:=by
  unfold xS
  rw [if_neg (fun hc=>by rw [hdn,hf] at hc;rcases hc with hc | hc | hc;exact Bool.noConfusion hc;omega;exact Bool.noConfusion hc)]
  unfold vY
  rw [if_pos ⟨hr,hw⟩]
  rfl
 have hj:∀ u,zm (xS f k n) u=zm (wE f k (jS (zm f k) (xB f k n) ((zm f k).turn+1) 0)) u:=fun u=>by rw [hg];rfl
 refine ⟨⟨fun u hu=>?_,⟨[_],by rw [hg],Nat.le_refl 1⟩,.inr ⟨_,by rw [hg];exact List.mem_append_right _ List.mem_cons_self,hr,Int.toNat_natCast k⟩⟩,?_⟩
 ·rw [hj,qk hkl,if_neg hu]
 ·rw [hj,qk hkl,if_pos rfl]
  show 0≤xB f k n
  omega
theorem zmQ (hS:kb S O) {B:Int} {f:zp} {k:Nat} (h:FI S O B f) (hB:B≤60000) (hk:k < 2) (hw:f.way.length < 12):zAx f (wm 2 k 0 f) k:=by
 have hg:wm 2 k 0 f=xS (xS f k 0) k 1:=rfl
 rw [hg]
 by_cases hc:(zm f k).done=true∨0≤(zm f k).worker
 ·have h0:∀ n,xS f k n=f:=fun n=>zlW (hc.imp id .inl)
  rw [h0,h0]
  exact ⟨fun _ _=>rfl,⟨[],by rw [List.append_nil],Nat.zero_le _⟩,.inl ⟨rfl,hc⟩⟩
 ·have hdn:(zm f k).done=false:=by
   cases hd:(zm f k).done with
   | true=>exact absurd (.inl hd) hc
   | false=>rfl
  have hwk:(zm f k).worker < 0:=by omega
  cases hf:qr f (xB f k 0) with
  | true=>
   obtain ⟨h1,h2⟩:=zqc hS h hB hk hw hdn hwk hf
   rw [zlW (n:=1) (.inr (.inl h2))]
   exact h1
  | false=>
   rw [zlW (.inr (.inr hf))]
   exact (zqc hS h hB hk hw hdn hwk (zxu h.len h.dead hk hwk hf)).1
theorem Cov.up {f g:zp} {k:Nat} {x:List (List UInt8)} (h:Cov f k) (hw:g.way=f.way++x):Cov g k:=by
 obtain ⟨m,h1,h2⟩:=h
 exact ⟨m,by rw [hw];exact List.mem_append_left _ h1,h2⟩
theorem zxv (hS:kb S O) {B:Int} {f:zp} (h:FI S O B f) (hB:B≤50000) (hw:f.way=[]) :
  ∀ k,k < 2→Cov (vA f) k∨(zm (vA f) k=y0 (zm f k)∧((y0 (zm f k)).done=true∨0≤(y0 (zm f k)).worker)):=by
 obtain ⟨w1,w2,w3⟩:=zjy kV 2 0 f (by rw [h.len];decide) h
 have hfj:∀ u,u < 2→zm (vh 2 0 f) u=y0 (zm f u):=fun u hu=>by
  have e:vh 2 0 f=wE (wE f 0 (y0 (zm f 0))) 1 (y0 (zm (wE f 0 (y0 (zm f 0))) 1)):=rfl
  have h0:0 < f.jobs.length:=by rw [h.len];decide
  rw [e,qk (by rw [q9,h.len];decide),qk h0,qk h0]
  rcases (by omega:u=0∨u=1) with rfl | rfl
  ·rw [if_neg (by decide),if_pos rfl]
  ·rw [if_pos rfl,if_neg (by decide)]
 have hww:(vh 2 0 f).way=[]:=hw
 have ht:vA f=wm 2 1 0 (wm 2 0 0 (vh 2 0 f)):=by
  have hd0:(vh 2 0 f).dead.length=2:=by rw [w3,h.dead];rfl
  have hd1:(wm 2 0 0 (vh 2 0 f)).dead.length=2:=by rw [(zet kV 2 0 0 B (vh 2 0 f) (by rw [w1.len];decide) (by rw [hd0];decide) w1).2.2];exact hd0
  have e:∀ F:zp,je 2 0 F=wm (wm F.dead.length 0 0 F).dead.length 1 0 (wm F.dead.length 0 0 F):=fun F=>rfl
  unfold vA
  rw [h.len,e,hd0,hd1]
 rw [ht]
 generalize vh 2 0 f=F at *
 have g1:=zmQ hS w1 (by omega) (k:=0) (by decide) (by rw [hww];decide)
 obtain ⟨i1,i2,i3⟩:=zet kV 2 0 0 B F (by rw [w1.len];decide) (by rw [w1.dead];decide) w1
 generalize wm 2 0 0 F=G at *
 obtain ⟨x,x1,x2⟩:=g1.way
 have g2:=zmQ hS i1 (by omega) (k:=1) (by decide) (by rw [x1,hww,List.nil_append];omega)
 generalize wm 2 1 0 G=H at *
 obtain ⟨y,y1,y2⟩:=g2.way
 intro k hk
 rcases (by omega:k=0∨k=1) with rfl | rfl
 ·rcases g1.here with q | q
  ·rw [hfj 0 hk] at q
   exact .inr ⟨(g2.others 0 (by decide)).trans q.1,q.2⟩
  ·exact .inl (q.up y1)
 ·rcases g2.here with q | q
  ·rw [g1.others 1 (by decide),hfj 1 hk] at q
   exact .inr q
  ·exact .inl q
def rk (j:yK):Nat:=if j.done=true then 0 else if j.worker < 0 then 1 else (5 - j.wait).toNat
theorem zzh {j:yK} (h0:0≤j.wait) (h:(y0 j).done=true∨0≤(y0 j).worker):rk (y0 j)≤rk j - 1:=by
 by_cases hd:j.done=true
 ·have:y0 j=j:=by unfold y0;rw [if_pos (.inl hd)]
  rw [this]
  unfold rk
  rw [if_pos hd]
  exact Nat.zero_le _
 by_cases hw:j.worker < 0
 ·have:y0 j=j:=by unfold y0;rw [if_pos (.inr hw)]
  rw [this] at h
  rcases h with h | h
  ·exact absurd h hd
  ·omega
 have hn:¬ (j.done=true∨j.worker < 0):=fun h=>h.elim hd hw
 by_cases h4:4≤j.wait+1
 ·have e:y0 j=jS j (-1) j.turn 0:=by unfold y0;rw [if_neg hn,if_pos h4]
  rw [e] at h
  rcases h with h | h
  ·exact absurd h hd
  ·exact absurd (show (0:Int)≤-1 from h) (by decide)
 ·have e:y0 j=jS j j.worker j.turn (j.wait+1):=by unfold y0;rw [if_neg hn,if_neg h4]
  rw [e]
  have h1:rk (jS j j.worker j.turn (j.wait+1))=(5 - (j.wait+1)).toNat:=by
   unfold rk
   rw [if_neg (show ¬ (jS j j.worker j.turn (j.wait+1)).done=true from hd),if_neg (show ¬ (jS j j.worker j.turn (j.wait+1)).worker < 0 from hw)]
   rfl
  rw [h1]
  unfold rk
  rw [if_neg hd,if_neg hw]
  omega
theorem zA2 {j:yK} (h:0≤j.wait):rk j≤5:=by
 unfold rk
 split
 ·omega
 split
 ·omega
 ·omega
theorem zqd (hS:kb S O) {B:Int} {f:zp} (h:FI S O B f) (hB:B≤40000):∃ g,zlT f g∧FI S O (B+12) g∧g.way=[]∧(f.way=[]→∀ k,k < 2→rk (zm g k)≤rk (zm f k) - 1):=by
 have ht:(doF f zgg).1=vA f:=by unfold doF zgg;rw [if_pos rfl]
 have h2:=zsn h
 obtain ⟨ms,w1,w2,w3⟩:=h2.way
 obtain ⟨n,g,d1,d2,d3,d4⟩:=zjz hS (by omega) (wgt ms) ms _ (Nat.le_refl _) h2 w1 w2 w3
 refine ⟨g,⟨znR hS h (by omega) ⟨by decide,by decide⟩,n,by rw [ht];exact d1⟩,d2,d3,fun hw k hk=>?_⟩
 have hz:∀ j:yK,j.done=true→rk j=0:=fun j hj=>by unfold rk;rw [if_pos hj]
 rcases d4 k hk with q | ⟨q1,q2⟩
 ·rw [hz _ q];exact Nat.zero_le _
 ·rcases zxv hS h (by omega) hw k hk with q | ⟨q3,q4⟩
  ·obtain ⟨m,m1,m2,m3⟩:=q
   rw [w1] at m1
   obtain ⟨m',m4,m5⟩:=List.mem_map.1 m1
   have:m'=m:=by rw [← qb m2,← qb (w3 m' m4).right,m5]
   subst this
   exact absurd m3 (q2 m' m4)
  ·rw [q1,q3]
   exact zzh (by have:=(h.jobs k hk).nums;omega) q4
theorem zxw {f:zp} (h:f.jobs.length=2) (hd:∀ k,k < 2→(zm f k).done=true):jf f=true:=by
 unfold jf
 rw [List.all_eq_true]
 intro j hj
 obtain ⟨k,hk,rfl⟩:=List.getElem_of_mem hj
 have:=hd k (by omega)
 unfold zm at this
 rw [List.getElem?_eq_getElem hk] at this
 exact this
theorem zmR (hS:kb S O):∀ (r n:Nat) (B:Int) (f:zp),n+r≤50→FI S O B f→B+12 * (r:Int)≤30000→f.way=[]→(∀ k,k < 2→rk (zm f k)≤r)→∃ g m,jT n f g m∧FI S O (B+12 * (r:Int)) g∧jf g=true
 | 0,n,B,f,hn,h,hB,hw,hr=>by
  have hd:jf f=true:=zxw h.len fun k hk=>by
   have h1:=hr k hk
   have h2:=(h.jobs k hk).nums
   unfold rk at h1
   split at h1
   ·assumption
   split at h1<;>omega
  exact ⟨f,n,.stop (by rw [h.len];decide) (.inr hd),kV.mono h (by omega),hd⟩
 | r+1,n,B,f,hn,h,hB,hw,hr=>by
  cases hd:jf f with
  | true=>exact ⟨f,n,.stop (by rw [h.len];decide) (.inr hd),kV.mono h (by omega),hd⟩
  | false=>
   obtain ⟨g,r1,r2,r3,r4⟩:=zqd hS h (by omega)
   obtain ⟨g',m,s1,s2,s3⟩:=zmR hS r (n+1) (B+12) g (by omega) r2 (by omega) r3 fun k hk=>by have:=r4 hw k hk;have:=hr k hk;omega
   exact ⟨g',m,.step (by omega) hd r1 s1,kV.mono s2 (by omega),s3⟩
theorem zzi (hS:kb S O) {B:Int} {f:zp} (h:FI S O B f) (hB:B≤20000):∃ g m,jT 0 f g m∧FI S O 30000 g∧jf g=true:=by
 cases hd:jf f with
 | true=>exact ⟨f,0,.stop (by rw [h.len];decide) (.inr hd),kV.mono h (by omega),hd⟩
 | false=>
  obtain ⟨g,r1,r2,r3,_⟩:=zqd hS h (by omega)
  obtain ⟨g',m,s1,s2,s3⟩:=zmR hS 5 1 (B+12) g (by decide) r2 (by omega) r3 fun k hk=>zA2 (by have:=(r2.jobs k hk).nums;omega)
  exact ⟨g',m,.step (by decide) hd r1 s1,kV.mono s2 (by omega),s3⟩
end Go.Proofs.YtnkdeacghopkiaaGreatDoor
namespace Go.Proofs.YtnkdeacghopkiaaGreatDoor
open Go Go.Plat
set_option linter.unusedVariables false
set_option linter.unusedSimpArgs false
set_option maxRecDepth 100000
set_option maxHeartbeats 2000000
attribute [local irreducible] AWP zG yn zK zn yA z8 zI zY z6 zw za zN yB zt z7 yx yy yq yt zx zz zD yw zL yO zg yD
def wB (b:List UInt8) (n:Int):List UInt8:=if n < 0∨b.length < n then List.replicate (min (max n 0) 4).toNat 0 else b.take n.toNat
def vB (b:List UInt8) (n:Int):List UInt8:=if n < 0∨b.length < n then b else b.drop n.toNat
def ke (b:List UInt8) (n:Int) (e:Bool):Bool:=if n < 0∨b.length < n then true else e
theorem jW:za Tryz.prog zim (zQ (fun ((b,e,n):List UInt8×Bool×Int)=>b.length≤100000000)
  (fun (b,e,n)=>[.loc 0 0,.int .i64 n]) (fun (b,e,n)=>[.cells [zk b,.bool e]]) (fun (b,e,n)=>zk (wB b n)) fun (b,e,n)=>[.cells [zk (vB b n),.bool (ke b n e)]]):=by
 refine zf zh Tryz.func42 rfl (by decide) ?_
 rintro ⟨b,e,n⟩ hb
 have hb:b.length≤100000000:=hb
 refine ⟨Nat.le_refl _,by simp [Tryz.f42],fun E hE=>?_⟩
 refine ze _ ?_
 (all_goals refine qgo ?_<;>(repeat' first | exact trivial | intro hc | refine And.intro ?_ ?_)<;>refine Lf.mk ?_)
 ·have h:n < 0∨b.length < n:=.inl hc
  refine zfK 0 [zk b,.bool true] rfl (.cons (.refl _) (.cons (.tt rfl) .nil)) ?_ (Nat.le_refl _)
  refine ya ?_
  (repeat' (first | (refine VS.mk ?_) | exact trivial | exact rfl | refine And.intro ?_ ?_))
  ·dsimp only;rw [wB,if_pos h];simp only [zk,List.map_replicate];rfl
  ·dsimp only;rw [vB,ke,if_pos h,if_pos h];rfl
 ·have h:n < 0∨b.length < n:=.inr hc
  refine zfK 0 [zk b,.bool true] rfl (.cons (.refl _) (.cons (.tt rfl) .nil)) ?_ (Nat.le_refl _)
  refine ya ?_
  (repeat' (first | (refine VS.mk ?_) | exact trivial | exact rfl | refine And.intro ?_ ?_))
  ·dsimp only;rw [wB,if_pos h];simp only [zk,List.map_replicate];rfl
  ·dsimp only;rw [vB,ke,if_pos h,if_pos h];rfl
 have h:¬ (n < 0∨b.length < n):=by omega
 refine zb qi ((b.take n.toNat).map zC) ⟨by simp;omega,fun i d hd=>?_⟩ (VS.mk (LeL.of_eq ?_)) ?_
 ·obtain ⟨c,_,rfl⟩:=List.mem_map.1 (List.mem_of_getElem? hd);rfl
 ·simp
 (all_goals refine qgo ?_<;>(repeat' first | exact trivial | intro hc | refine And.intro ?_ ?_)<;>refine Lf.mk ?_)
 refine ya ?_
 (repeat' (first | (refine VS.mk ?_) | exact trivial | exact rfl | refine And.intro ?_ ?_))
 ·dsimp only;rw [wB,if_neg h];rfl
 ·dsimp only;rw [vB,ke,if_neg h,if_neg h];rfl
theorem jX:za Tryz.prog zjg (zQ (fun ((b,e):List UInt8×Bool)=>b.length≤100000000)
  (fun (b,e)=>[.loc 0 0]) (fun (b,e)=>[.cells [zk b,.bool e]]) (fun (b,e)=>.int .i64 (z1 (wB b 4) 0 4)) fun (b,e)=>[.cells [zk (vB b 4),.bool (ke b 4 e)]]):=by
 refine zf zh Tryz.func43 rfl (by decide) ?_
 rintro ⟨b,e⟩ hb
 refine ⟨Nat.le_refl _,by simp [Tryz.f43],fun E hE=>?_⟩
 refine ze _ ?_
 (all_goals refine qgo ?_<;>(repeat' first | exact trivial | intro hc | refine And.intro ?_ ?_)<;>refine Lf.mk ?_)
 refine zu jW [0] [0] (b,e,4) hb rfl rfl ?_
 refine And.intro (VS.mk (LeL.of_eq rfl)) (And.intro (VS.mk rfl) ?_)
 (all_goals refine qgo ?_<;>(repeat' first | exact trivial | intro hc | refine And.intro ?_ ?_)<;>refine Lf.mk ?_)
 refine zb v7 (wB b 4,0,4) ⟨by decide,by decide,by decide⟩ (VS.mk (LeL.of_eq rfl)) ?_
 (all_goals refine qgo ?_<;>(repeat' first | exact trivial | intro hc | refine And.intro ?_ ?_)<;>refine Lf.mk ?_)
 refine ya ?_
 (repeat' (first | (refine VS.mk ?_) | exact trivial | exact rfl | refine And.intro ?_ ?_))
theorem zeN:za Tryz.prog zin (zQ (fun ((b,e):List UInt8×Bool)=>b.length≤100000000)
  (fun (b,e)=>[.loc 0 0]) (fun (b,e)=>[.cells [zk b,.bool e]]) (fun (b,e)=>.int .i64 (z1 (wB b 1) 0 1)) fun (b,e)=>[.cells [zk (vB b 1),.bool (ke b 1 e)]]):=by
 refine zf zh Tryz.func44 rfl (by decide) ?_
 rintro ⟨b,e⟩ hb
 refine ⟨Nat.le_refl _,by simp [Tryz.f44],fun E hE=>?_⟩
 refine ze _ ?_
 (all_goals refine qgo ?_<;>(repeat' first | exact trivial | intro hc | refine And.intro ?_ ?_)<;>refine Lf.mk ?_)
 refine zu jW [0] [0] (b,e,1) hb rfl rfl ?_
 refine And.intro (VS.mk (LeL.of_eq rfl)) (And.intro (VS.mk rfl) ?_)
 (all_goals refine qgo ?_<;>(repeat' first | exact trivial | intro hc | refine And.intro ?_ ?_)<;>refine Lf.mk ?_)
 refine zb v7 (wB b 1,0,1) ⟨by decide,by decide,by decide⟩ (VS.mk (LeL.of_eq rfl)) ?_
 (all_goals refine qgo ?_<;>(repeat' first | exact trivial | intro hc | refine And.intro ?_ ?_)<;>refine Lf.mk ?_)
 refine ya ?_
 (repeat' (first | (refine VS.mk ?_) | exact trivial | exact rfl | refine And.intro ?_ ?_))
def y5 (b:List UInt8):Int:=z1 (wB b 4) 0 4
def yb (b:List UInt8):List UInt8:=vB b 4
def vG (b:List UInt8) (e:Bool):Bool:=ke b 4 e
def jg (b:List UInt8):Int:=z1 (wB b 1) 0 1
def xg (b:List UInt8):List UInt8:=vB b 1
def zb1 (b:List UInt8) (e:Bool):Bool:=ke b 1 e
def jY (b:List UInt8):List UInt8:=wB (xg b) (jg b)
def x5 (b:List UInt8):List UInt8:=vB (xg b) (jg b)
def zb2 (b:List UInt8) (e:Bool):Bool:=ke (xg b) (jg b) (zb1 b e)
def zaq:Nat→List UInt8→Bool→List zH→List zH×List UInt8×Bool
 | 0,b,e,acc=>(acc,b,e)
 | k+1,b,e,acc=>if e=true then (acc,b,e) else zaq k (yb (x5 b)) (vG (x5 b) (zb2 b e)) (acc++[⟨jY b,y5 (x5 b)⟩])
def zar:Nat→List UInt8→Bool→List qZ→List qZ×List UInt8×Bool
 | 0,b,e,acc=>(acc,b,e)
 | k+1,b,e,acc=>if e=true then (acc,b,e) else
  zar k (yb (x5 (xg (yb b)))) (vG (x5 (xg (yb b))) (zb2 (xg (yb b)) (zb1 (yb b) (vG b e))))
   (acc++[⟨y5 b,jg (yb b),jY (xg (yb b)),zg (y5 (x5 (xg (yb b)))) 32⟩])
theorem zvR (b:List UInt8) (n:Int) (hn:n≤255):(wB b n).length≤255:=by
 unfold wB;split
 ·simp;omega
 ·simp;omega
theorem wx (b:List UInt8) (n:Int):(vB b n).length≤b.length:=by
 unfold vB;split
 ·exact Nat.le_refl _
 ·simp
theorem zvS (v:List UInt8):z1 v 0 1≤255:=by
 have:=kx v (0+(0:Nat))
 simp only [z1]
 omega
theorem zlX (b:List UInt8):0≤y5 b∧y5 b≤4294967295:=by
 have h1:=zlD (wB b 4) 0 4 (by decide)
 have h2:=ze4 (wB b 4) 0 4
 unfold y5
 omega
theorem zxx (b:List UInt8):0≤jg b∧jg b≤255:=⟨ze4 _ _ _,zvS _⟩
theorem zmS (b:List UInt8):(jY b).length≤255:=zvR _ _ (zxx b).2
structure PSt where
 o:yz
 b:List UInt8
 e:Bool
def zb3 (b:List UInt8):PSt:=
 let b0:=vB b 3;let e0:=ke b 3 false
 let b1:=yb b0;let e1:=vG b0 e0
 let code:=wB b1 (y5 b0);let b2:=vB b1 (y5 b0);let e2:=ke b1 (y5 b0) e1
 let S:=zaq (y5 b2).toNat (yb b2) (vG b2 e2) []
 let R:=zar (y5 S.2.1).toNat (yb S.2.1) (vG S.2.1 S.2.2) []
 ⟨⟨code,S.1,R.1⟩,R.2.1,R.2.2⟩
def qz (b:List UInt8):Int:=if wB b 3≠ko then 2 else if (zb3 b).e=true∨(zb3 b).b≠[] then 2 else yD (zb3 b).o
def zA3:yz:=⟨[],[],[]⟩
def zag (b:List UInt8):yz:=if qz b=0 then (zb3 b).o else zA3
theorem zqe:za Tryz.prog zqR (zy (fun b:List UInt8=>b.length≤100000000) (fun b=>[zk b]) fun b=>.tup [vl (zag b),.int .i64 (qz b)]):=by
 refine zf zh Tryz.func28 rfl (by decide) fun bb hb=>?_
 refine ⟨Nat.le_refl _,by simp [Tryz.f28],fun E hE=>?_⟩
 refine ze _ ?_
 (all_goals refine qgo ?_<;>(repeat' first | exact trivial | intro hc | refine And.intro ?_ ?_)<;>refine Lf.mk ?_)
 refine zux 1 [zk bb,.bool false] rfl (.cons (.refl _) (.cons (.ff rfl) .nil)) ?_
 refine VS.mk ?_
 refine zu jW [1] [1] (bb,false,3) hb rfl rfl ?_
 refine And.intro (VS.mk (LeL.of_eq rfl)) (And.intro (VS.mk rfl) ?_)
 (all_goals refine qgo ?_<;>(repeat' first | exact trivial | intro hc | refine And.intro ?_ ?_)<;>refine Lf.mk ?_)
 ·refine zd (VS.mk (LeD.trans (.tup (.cons (.agg (.cons (.nil 1) (.cons (.nil 2) (.cons (.nil 4) .nil)))) (.cons (.refl _) .nil))) (LeD.of_eq ?_)))
  have h:qz bb=2:=if_pos hc
  rw [zag,h,if_neg (by decide)]
  rfl
 have hb0:(vB bb 3).length≤100000000:=Nat.le_trans (wx _ _) hb
 have hm:wB bb 3=ko:=hc
 refine zu jX [1] [1] (vB bb 3,ke bb 3 false) hb0 rfl rfl ?_
 refine And.intro (VS.mk (LeL.of_eq rfl)) (And.intro (VS.mk rfl) ?_)
 (all_goals refine qgo ?_<;>(repeat' first | exact trivial | intro hc | refine And.intro ?_ ?_)<;>refine Lf.mk ?_)
 generalize hb0e:vB bb 3=b0 at *
 generalize he0e:ke bb 3 false=e0 at *
 have hb1:(yb b0).length≤100000000:=Nat.le_trans (wx _ _) hb0
 refine zu jW [1] [1] (yb b0,vG b0 e0,y5 b0) hb1 rfl rfl ?_
 refine And.intro (VS.mk (LeL.of_eq rfl)) (And.intro (VS.mk rfl) ?_)
 (all_goals refine qgo ?_<;>(repeat' first | exact trivial | intro hc | refine And.intro ?_ ?_)<;>refine Lf.mk ?_)
 have hb2:(vB (yb b0) (y5 b0)).length≤100000000:=Nat.le_trans (wx _ _) hb1
 generalize hb2e:vB (yb b0) (y5 b0)=b2 at *
 generalize he2e:ke (yb b0) (y5 b0) (vG b0 e0)=e2 at *
 refine zu jX [1] [1] (b2,e2) hb2 rfl rfl ?_
 refine And.intro (VS.mk (LeL.of_eq rfl)) (And.intro (VS.mk rfl) ?_)
 (all_goals refine qgo ?_<;>(repeat' first | exact trivial | intro hc | refine And.intro ?_ ?_)<;>refine Lf.mk ?_)
 refine x8 (wW 2 2 [zk (wB (yb b0) (y5 b0)),.sl 2 [] (some 3),.nilsl] rfl ⟨.same,.here,.same,trivial⟩) ?_
 generalize hcode:wB (yb b0) (y5 b0)=code at *
 have hb3:(yb b2).length≤100000000:=Nat.le_trans (wx _ _) hb2
 obtain ⟨hn0,hn1⟩:=zlX b2
 generalize hS:zaq (y5 b2).toNat (yb b2) (vG b2 e2) []=S at *
 refine yc (α:=Nat×List UInt8×Bool×List zH) (fun p=>p.2.2.2.length+p.1≤4294967295∧p.2.1.length≤100000000∧(∀ s∈p.2.2.2,s.name.length≤255)∧zaq p.1 p.2.1 p.2.2.1 p.2.2.2=S)
  (fun p=>[(2,.loc 0 0),(4,.loc 1 0),(5,.loc 2 0),(6,.int .i64 p.1),(3,.int .i64 0)])
  (fun p=>[.cells [.nilsl,.nilsl,.nilsl],.cells [zk p.2.1,.bool p.2.2.1],.cells [zk code,.sl 2 (p.2.2.2.map yH) (some 3),.nilsl],.spare p.2.2.2.length]) (fun p=>p.1) (fun _=>by simp [hE])
  ((y5 b2).toNat,yb b2,vG b2 e2,[]) ⟨by (dsimp only [List.length_nil];omega),hb3,by simp,hS⟩ ?_ ?_
 ·(repeat' (first | (refine VS.mk ?_) | exact trivial | exact rfl | refine And.intro ?_ ?_))
  show D.int IntKind.i64 (y5 b2)=D.int IntKind.i64 ((y5 b2).toNat:Int)
  rw [Int.toNat_of_nonneg hn0]
 rintro ⟨k,b,e,acc⟩ ⟨hk,hb,hacc,hl⟩
 dsimp only at hk hb hacc hl ⊢
 refine ze _ ?_
 (all_goals refine qgo ?_<;>(repeat' first | exact trivial | intro hc | refine And.intro ?_ ?_)<;>refine Lf.mk ?_)
 ·have hk0:0 < k:=by omega
  have he:e=false:=hc
  have hbb:(xg b).length≤100000000:=Nat.le_trans (wx _ _) hb
  have hbt:(x5 b).length≤100000000:=Nat.le_trans (wx _ _) hbb
  refine zu zeN [1] [1] (b,e) hb rfl rfl ?_
  refine And.intro (VS.mk (LeL.of_eq rfl)) (And.intro (VS.mk rfl) ?_)
  (all_goals refine qgo ?_<;>(repeat' first | exact trivial | intro hc | refine And.intro ?_ ?_)<;>refine Lf.mk ?_)
  refine zu jW [1] [1] (xg b,zb1 b e,jg b) hbb rfl rfl ?_
  refine And.intro (VS.mk (LeL.of_eq rfl)) (And.intro (VS.mk rfl) ?_)
  (all_goals refine qgo ?_<;>(repeat' first | exact trivial | intro hc | refine And.intro ?_ ?_)<;>refine Lf.mk ?_)
  refine zu jX [1] [1] (x5 b,zb2 b e) hbt rfl rfl ?_
  refine And.intro (VS.mk (LeL.of_eq rfl)) (And.intro (VS.mk rfl) ?_)
  (all_goals refine qgo ?_<;>(repeat' first | exact trivial | intro hc | refine And.intro ?_ ?_)<;>refine Lf.mk ?_)
  obtain ⟨k',rfl⟩:∃ k',k=k'+1:=⟨k - 1,by omega⟩
  have hnew:zaq k' (yb (x5 b)) (vG (x5 b) (zb2 b e)) (acc++[⟨jY b,y5 (x5 b)⟩])=S:=by rw [← hl,zaq,if_neg (by rw [he];decide)]
  have hmem:∀ s∈acc++[(⟨jY b,y5 (x5 b)⟩:zH)],s.name.length≤255:=by
   intro s hs
   rcases List.mem_append.1 hs with h | h
   ·exact hacc s h
   ·rw [List.mem_singleton.1 h];exact zmS b
  refine zF (k',yb (x5 b),vG (x5 b) (zb2 b e),acc++[⟨jY b,y5 (x5 b)⟩]) ⟨by (dsimp only;rw [List.length_append];show _+1+_≤_;omega),Nat.le_trans (wx _ _) hbt,hmem,hnew⟩ (by dsimp only;omega) ?_
  (repeat' (first | (refine VS.mk ?_) | exact trivial | exact rfl | refine And.intro ?_ ?_))
  all_goals first
   | (simp [yH,yb,vG,jY,y5,zk];done)
   | (refine congrArg (D.int .i64) ?_;dsimp only;omega)
 all_goals
  have hS':S=(acc,b,e):=by
   rw [← hl]
   cases k with
   | zero=>rfl
   | succ k=>
    have he:e=true:=by first | assumption | (exfalso;omega)
    rw [zaq,if_pos he]
  clear hl hk
  refine zu jX [1] [1] (b,e) hb rfl rfl ?_
  refine And.intro (VS.mk (LeL.of_eq rfl)) (And.intro (VS.mk rfl) ?_)
  (all_goals refine qgo ?_<;>(repeat' first | exact trivial | intro hc | refine And.intro ?_ ?_)<;>refine Lf.mk ?_)
  refine x8 (wW 2 4 [zk code,.sl 2 (acc.map yH) (some 3),.sl 4 [] (some 4)] rfl ⟨.same,.same,.here,trivial⟩) ?_
  have hb7:(yb b).length≤100000000:=Nat.le_trans (wx _ _) hb
  obtain ⟨hm0,hm1⟩:=zlX b
  generalize hR:zar (y5 b).toNat (yb b) (vG b e) []=R at *
  refine yc (α:=Nat×List UInt8×Bool×List qZ) (fun p=>p.2.2.2.length+p.1≤4294967295∧p.2.1.length≤100000000∧(∀ r∈p.2.2.2, -9223372036854775808≤r.at_∧r.at_≤9223372036854775807∧r.name.length≤1000000000)∧zar p.1 p.2.1 p.2.2.1 p.2.2.2=R)
   (fun p=>[(2,.loc 0 0),(4,.loc 1 0),(5,.loc 2 0),(7,.int .i64 p.1),(3,.int .i64 0)])
   (fun p=>[.cells [.nilsl,.nilsl,.nilsl],.cells [zk p.2.1,.bool p.2.2.1],.cells [zk code,.sl 2 (acc.map yH) (some 3),.sl 4 (p.2.2.2.map jx) (some 4)],.spare acc.length,.spare p.2.2.2.length]) (fun p=>p.1) (fun _=>by simp [hE])
   ((y5 b).toNat,yb b,vG b e,[]) ⟨by (dsimp only [List.length_nil];omega),hb7,by simp,hR⟩ ?_ ?_
  ·(repeat' (first | (refine VS.mk ?_) | exact trivial | exact rfl | refine And.intro ?_ ?_))
   show D.int IntKind.i64 (y5 b)=D.int IntKind.i64 ((y5 b).toNat:Int)
   rw [Int.toNat_of_nonneg hm0]
  have hrd:zb3 bb=⟨⟨code,acc,R.1⟩,R.2.1,R.2.2⟩:=by simp only [zb3,hb0e,he0e,hcode,hb2e,he2e,hS,hS',hR]
  have hacc':∀ s∈acc,s.name.length≤1000000000:=fun s h=>Nat.le_trans (hacc s h) (by decide)
  clear hb7 hR
  rintro ⟨k,b',e',rs⟩ ⟨hk,hb',hrs,hl⟩
  dsimp only at hk hb' hrs hl ⊢
  refine ze _ ?_
  (all_goals refine qgo ?_<;>(repeat' first | exact trivial | intro hc | refine And.intro ?_ ?_)<;>refine Lf.mk ?_)
  ·have hk0:0 < k:=by omega
   have he:e'=false:=by assumption
   have c1:(yb b').length≤100000000:=Nat.le_trans (wx _ _) hb'
   have c2:(xg (yb b')).length≤100000000:=Nat.le_trans (wx _ _) c1
   have c3:(xg (xg (yb b'))).length≤100000000:=Nat.le_trans (wx _ _) c2
   have c4:(x5 (xg (yb b'))).length≤100000000:=Nat.le_trans (wx _ _) c3
   refine zu jX [1] [1] (b',e') hb' rfl rfl ?_
   refine And.intro (VS.mk (LeL.of_eq rfl)) (And.intro (VS.mk rfl) ?_)
   (all_goals refine qgo ?_<;>(repeat' first | exact trivial | intro hc | refine And.intro ?_ ?_)<;>refine Lf.mk ?_)
   refine zu zeN [1] [1] (yb b',vG b' e') c1 rfl rfl ?_
   refine And.intro (VS.mk (LeL.of_eq rfl)) (And.intro (VS.mk rfl) ?_)
   (all_goals refine qgo ?_<;>(repeat' first | exact trivial | intro hc | refine And.intro ?_ ?_)<;>refine Lf.mk ?_)
   refine zu zeN [1] [1] (xg (yb b'),zb1 (yb b') (vG b' e')) c2 rfl rfl ?_
   refine And.intro (VS.mk (LeL.of_eq rfl)) (And.intro (VS.mk rfl) ?_)
   (all_goals refine qgo ?_<;>(repeat' first | exact trivial | intro hc | refine And.intro ?_ ?_)<;>refine Lf.mk ?_)
   refine zu jW [1] [1] (xg (xg (yb b')),zb1 (xg (yb b')) (zb1 (yb b') (vG b' e')),jg (xg (yb b'))) c3 rfl rfl ?_
   refine And.intro (VS.mk (LeL.of_eq rfl)) (And.intro (VS.mk rfl) ?_)
   (all_goals refine qgo ?_<;>(repeat' first | exact trivial | intro hc | refine And.intro ?_ ?_)<;>refine Lf.mk ?_)
   refine zu jX [1] [1] (x5 (xg (yb b')),zb2 (xg (yb b')) (zb1 (yb b') (vG b' e'))) c4 rfl rfl ?_
   refine And.intro (VS.mk (LeL.of_eq rfl)) (And.intro (VS.mk rfl) ?_)
   (all_goals refine qgo ?_<;>(repeat' first | exact trivial | intro hc | refine And.intro ?_ ?_)<;>refine Lf.mk ?_)
   refine zb yC (y5 (x5 (xg (yb b')))) trivial (VS.mk (LeL.of_eq rfl)) ?_
   (all_goals refine qgo ?_<;>(repeat' first | exact trivial | intro hc | refine And.intro ?_ ?_)<;>refine Lf.mk ?_)
   obtain ⟨k',rfl⟩:∃ k',k=k'+1:=⟨k - 1,by omega⟩
   have hnew:zar k' (yb (x5 (xg (yb b')))) (vG (x5 (xg (yb b'))) (zb2 (xg (yb b')) (zb1 (yb b') (vG b' e'))))
     (rs++[⟨y5 b',jg (yb b'),jY (xg (yb b')),zg (y5 (x5 (xg (yb b')))) 32⟩])=R:=by rw [← hl,zar,if_neg (by rw [he];decide)]
   have hmem:∀ r∈rs++[(⟨y5 b',jg (yb b'),jY (xg (yb b')),zg (y5 (x5 (xg (yb b')))) 32⟩:qZ)], -9223372036854775808≤r.at_∧r.at_≤9223372036854775807∧r.name.length≤1000000000:=by
    intro s hs
    rcases List.mem_append.1 hs with h | h
    ·exact hrs s h
    ·rw [List.mem_singleton.1 h]
     have:=zlX b'
     have:=zmS (xg (yb b'))
     exact ⟨by dsimp only;omega,by dsimp only;omega,by dsimp only;omega⟩
   refine zF (k',yb (x5 (xg (yb b'))),vG (x5 (xg (yb b'))) (zb2 (xg (yb b')) (zb1 (yb b') (vG b' e'))),rs++[⟨y5 b',jg (yb b'),jY (xg (yb b')),zg (y5 (x5 (xg (yb b')))) 32⟩])
    ⟨by (dsimp only;rw [List.length_append];show _+1+_≤_;omega),Nat.le_trans (wx _ _) c4,hmem,hnew⟩ (by dsimp only;omega) ?_
   (repeat' (first | (refine VS.mk ?_) | exact trivial | exact rfl | refine And.intro ?_ ?_))
   all_goals first
    | (simp [jx,yb,vG,jY,y5,jg,zk];done)
    | (refine congrArg (D.int .i64) ?_;dsimp only;omega)
  all_goals
   have hR':R=(rs,b',e'):=by
    rw [← hl]
    cases k with
    | zero=>rfl
    | succ k=>
     have he:e'=true:=by first | assumption | (exfalso;omega)
     rw [zar,if_pos he]
   rw [hR'] at hrd
   have hpo:qz bb=if e'=true∨b'≠[] then 2 else yD ⟨code,acc,rs⟩:=by
    unfold qz
    rw [if_neg (fun h=>h hm),hrd]
   first
    | (have h : qz bb = 2 := by
        rw [hpo,if_pos]
        first
         | exact .inl (by assumption)
         | (refine .inr fun h=>?_;subst h;simp at hc;done)
       refine zd (VS.mk (LeD.trans (.tup (.cons (.agg (.cons (.nil 1) (.cons (.nil 2) (.cons (.nil 4) .nil)))) (.cons (.refl _) .nil))) (LeD.of_eq ?_)))
       rw [zag,h,if_neg (by decide)]
       rfl)
    | skip
  all_goals
   have he0:e'=false:=by first | assumption | (cases e'<;>simp_all;done)
   have h0:¬ (e'=true∨b'≠[]):=by
    rintro (h | h)
    ·rw [he0] at h;cases h
    ·exact h (List.eq_nil_of_length_eq_zero (by omega))
   rw [if_neg h0] at hpo
   refine zb zbg ⟨code,acc,rs⟩ ⟨hrs,hacc'⟩ (VS.mk (by (first | exact LeL.refl _ | (repeat' (first | exact LeL.nil | exact LeD.refl _ | exact LeD.nil _ | exact LeD.strip _ _ _ | refine LeL.cons ?_ ?_ | refine LeD.tup ?_ | refine LeD.agg ?_))))) ?_
   (all_goals refine qgo ?_<;>(repeat' first | exact trivial | intro hc | refine And.intro ?_ ?_)<;>refine Lf.mk ?_)
   ·refine zd (VS.mk (LeD.trans (.tup (.cons (.agg (.cons (.nil 1) (.cons (.nil 2) (.cons (.nil 4) .nil)))) (.cons (.refl _) .nil))) (LeD.of_eq ?_)))
    rw [zag,hpo,if_neg hc]
    rfl
   ·refine zd (VS.mk ?_)
    rw [zag,hpo,if_pos hc,hrd,hc]
    (first | exact LeL.refl _ | (repeat' (first | exact LeL.nil | exact LeD.refl _ | exact LeD.nil _ | exact LeD.strip _ _ _ | refine LeL.cons ?_ ?_ | refine LeD.tup ?_ | refine LeD.agg ?_)))
end Go.Proofs.YtnkdeacghopkiaaGreatDoor
namespace Go.Proofs.YtnkdeacghopkiaaGreatDoor
open Go Go.Plat
set_option linter.unusedVariables false
set_option linter.unusedSimpArgs false
set_option maxRecDepth 100000
set_option maxHeartbeats 2000000
attribute [local irreducible] AWP zG yn zK zn yA z8 zI zY z6 zw za zN yB zt z7 yx yy yq yt zx zz zD yw yI zL yO okC zg
def upI (n:Int):Int:=n+3 - (n+3) % 4
def wO:List yz→Int→List Int
 | [],_=>[]
 | o::l,n=>upI n::wO l (upI n+o.code.length)
def kQ:List yz→Int→Int
 | [],n=>n
 | o::l,n=>kQ l (upI n+o.code.length)
def ztY (n:Int):D:=.int .i64 n
def zhC (l:List Int):D:=.sl 1 (l.map ztY) none
theorem zA4:∀ i:Fin 64,(~~~ (3#64)).getLsbD i=decide (2≤i.1):=by decide
theorem zvT (x:BitVec 64):x &&& ~~~ (3#64)=(x >>> 2) <<< 2:=by
 apply BitVec.eq_of_getLsbD_eq
 intro i hi
 rw [BitVec.getLsbD_and,zA4 ⟨i,hi⟩,BitVec.getLsbD_shiftLeft,BitVec.getLsbD_ushiftRight]
 by_cases h:2≤i
 ·simp [h,hi,show ¬ i < 2 by omega,show 2+(i - 2)=i by omega]
 ·simp [h,show i < 2 by omega]
theorem zxy {n:Int} (h0:0≤n) (h1:n≤9223372036854775807):zD .andNot .i64 n 3=n - n % 4:=by
 obtain ⟨a,rfl⟩:=Int.eq_ofNat_of_zero_le h0
 have ha:a≤9223372036854775807:=by omega
 unfold zD
 have hx:=zci ha
 have e:(BitVec.ofInt IntKind.i64.bits (a:Int) &&& ~~~ BitVec.ofInt IntKind.i64.bits 3).toNat=a / 4 * 4:=by
  generalize BitVec.ofInt IntKind.i64.bits (a:Int)=x at *
  change BitVec 64 at x
  show (x &&& ~~~ (3#64)).toNat=_
  rw [zvT,BitVec.toNat_shiftLeft,BitVec.toNat_ushiftRight]
  have hx:x.toNat=a:=hx
  rw [hx,Nat.shiftRight_eq_div_pow,Nat.shiftLeft_eq]
  omega
 show IntKind.i64.wrap ((_:Nat):Int)=_
 rw [e]
 refine (Go.Plat.wrap_small (by omega)).trans ?_
 omega
theorem zhD (n:Int):n≤upI n∧upI n≤n+3∧upI n % 4=0:=by unfold upI;omega
theorem zqf:za Tryz.prog zoL (zy (fun ((l,n):List yz×Int)=>l.length≤1048576∧0≤n∧n≤1000000000∧∀ o∈l,o.code.length≤1048576) (fun (l,n)=>[.sl 3 (l.map vl) none,.int .i64 n])
  fun (l,n)=>.tup [zhC (wO l n),.int .i64 (kQ l n)]):=by
 refine zf zh Tryz.func46 rfl (by decide) ?_
 rintro ⟨l,n⟩ ⟨hl,hn0,hn1,ho⟩
 refine ⟨Nat.le_refl _,by simp [Tryz.f46],fun E hE=>?_⟩
 refine ze _ ?_
 (all_goals refine qgo (Lf.mk ?_))
 refine x8 (qV 6 1 rfl) ?_
 refine yc (α:=Nat×List Int×Int) (fun p=>p.1≤l.length∧p.2.1.length=p.1∧p.2.1++wO (l.drop p.1) p.2.2=wO l n∧kQ (l.drop p.1) p.2.2=kQ l n∧0≤p.2.2∧p.2.2≤1000000000+p.1 * 1048580)
  (fun p=>[(11,.sl 3 (l.map vl) none),(12,.int .i64 l.length),(13,.int .i64 p.1),(6,.sl 1 (p.2.1.map ztY) (some 0)),(7,.int .i64 p.2.2)])
  (fun p=>[.spare p.2.1.length]) (fun p=>l.length - p.1) (fun _=>by simp [hE]) (0,[],n) ⟨Nat.zero_le _,rfl,by simp,by simp,hn0,by dsimp only;omega⟩ ?_ ?_
 ·(repeat' (first | (refine VS.mk ?_) | exact trivial | exact rfl | refine And.intro ?_ ?_))
 rintro ⟨k,bs,a⟩ ⟨hk,hbl,hb,he,ha0,ha1⟩
 dsimp only at hk hbl hb he ha0 ha1 ⊢
 refine ze _ ?_
 have hkb:(k:Int) * 1048580≤1048576 * 1048580:=by omega
 (all_goals refine qgo ?_<;>(repeat' first | exact trivial | intro hc | refine And.intro ?_ ?_)<;>refine Lf.mk ?_)
 ·obtain ⟨o,hok⟩:=zP (l:=l) (k:=k) (by omega)
  have hkl:k < l.length:=by omega
  have hget:l[k]=o:=by rw [List.getElem?_eq_getElem hkl] at hok;exact Option.some.inj hok
  have hoc:=ho o (List.mem_of_getElem? hok)
  rw [List.drop_eq_getElem_cons hkl,hget,wO] at hb
  rw [List.drop_eq_getElem_cons hkl,hget,kQ] at he
  have hup:=zhD a
  refine zl o (by omega) (by simpa using hok) ?_
  (all_goals refine qgo (Lf.mk ?_))
  refine wG (zxy (by omega) (by omega)) ?_
  (all_goals refine qgo (Lf.mk ?_))
  refine zF (k+1,bs++[upI a],upI a+o.code.length) ⟨by (dsimp only;omega),by (dsimp only;rw [List.length_append,hbl];rfl),by (dsimp only;rw [List.append_assoc];exact hb),he,by (dsimp only;omega),by (dsimp only;omega)⟩ (by dsimp only;omega) ?_
  (repeat' (first | (refine VS.mk ?_) | exact trivial | exact rfl | refine And.intro ?_ ?_))
  ·simp
  ·simp [ztY,upI]
 ·obtain rfl:k=l.length:=by omega
  rw [List.drop_length,wO,List.append_nil] at hb
  rw [List.drop_length,kQ] at he
  refine zd (VS.mk ?_)
  rw [hb,he]
  (first | exact LeL.refl _ | (repeat' (first | exact LeL.nil | exact LeD.refl _ | exact LeD.nil _ | exact LeD.strip _ _ _ | refine LeL.cons ?_ ?_ | refine LeD.tup ?_ | refine LeD.agg ?_)))
def jh (n:List UInt8):List zH→Option Int
 | []=>none
 | s::l=>if s.name=n then some s.at_ else jh n l
def zgj (n:List UInt8):List zH→Nat→Int
 | [],_=>-1
 | s::l,k=>if s.name=n then k else zgj n l (k+1)
theorem ztZ:za Tryz.prog zcP (zQ (fun _:zH×List UInt8=>True) (fun (s,n)=>[yH s,.loc 0 0]) (fun (s,n)=>[.cells [.str n]]) (fun (s,n)=>.bool (s.name==n)) fun (s,n)=>[.cells [.str n]]):=by
 refine zf zh Tryz.func71 rfl (by decide) ?_
 rintro ⟨s,n⟩ -
 refine ⟨Nat.le_refl _,by simp [Tryz.f71],fun E hE=>?_⟩
 refine ze _ ?_
 (all_goals refine qgo (Lf.mk ?_))
 refine ya ?_
 (repeat' (first | (refine VS.mk ?_) | exact trivial | exact rfl | refine And.intro ?_ ?_))
theorem zqg:za Tryz.prog vJ (zQ (fun ((l,n):List zH×List UInt8)=>l.length≤1000000000) (fun (l,n)=>[.sl 2 (l.map yH) none,.fn zcP [.loc 0 0]])
  (fun (l,n)=>[.cells [.str n]]) (fun (l,n)=>.int .i64 (zgj n l 0)) fun (l,n)=>[.cells [.str n]]):=by
 refine zf zh Tryz.func70 rfl (by decide) ?_
 rintro ⟨l,n⟩ hl
 have hl:l.length≤1000000000:=hl
 refine ⟨Nat.le_refl _,by simp [Tryz.f70],fun E hE=>?_⟩
 refine ze _ ?_
 (all_goals refine qgo (Lf.mk ?_))
 refine yc (α:=Nat) (fun k=>k≤l.length∧zgj n l 0=zgj n (l.drop k) k)
  (fun k=>[(7,.int .i64 l.length),(8,.int .i64 k),(0,.sl 2 (l.map yH) none),(1,.fn zcP [.loc 0 0])])
  (fun _=>[.cells [.str n]]) (fun k=>l.length - k) (fun _=>by simp [hE]) 0 ⟨Nat.zero_le _,by simp⟩ ?_ ?_
 ·(repeat' (first | (refine VS.mk ?_) | exact trivial | exact rfl | refine And.intro ?_ ?_))
 rintro k ⟨hk,hf⟩
 refine ze _ ?_
 (all_goals refine qgo ?_<;>(repeat' first | exact trivial | intro hc | refine And.intro ?_ ?_)<;>refine Lf.mk ?_)
 ·obtain ⟨s,hsk⟩:=zP (l:=l) (k:=k) (by omega)
  have hkl:k < l.length:=by omega
  have hget:l[k]=s:=by rw [List.getElem?_eq_getElem hkl] at hsk;exact Option.some.inj hsk
  rw [List.drop_eq_getElem_cons hkl,hget,zgj] at hf
  refine zl s (by omega) (by simpa using hsk) ?_
  (all_goals refine qgo (Lf.mk ?_))
  refine zu ztZ [0] [0] (s,n) trivial rfl rfl ?_
  refine And.intro (VS.mk (LeL.of_eq rfl)) (And.intro (VS.mk rfl) ?_)
  (all_goals refine qgo ?_<;>(repeat' first | exact trivial | intro hc | refine And.intro ?_ ?_)<;>refine Lf.mk ?_)
  ·rw [if_pos hc] at hf
   refine ya ?_
   (repeat' (first | (refine VS.mk ?_) | exact trivial | exact rfl | refine And.intro ?_ ?_))
   exact congrArg (D.int .i64) hf.symm
  ·rw [if_neg hc] at hf
   refine zF (k+1) ⟨by omega,hf⟩ (by omega) ?_
   (repeat' (first | (refine VS.mk ?_) | exact trivial | exact rfl | refine And.intro ?_ ?_))
 ·rw [List.drop_of_length_le (by omega),zgj] at hf
  refine ya ?_
  (repeat' (first | (refine VS.mk ?_) | exact trivial | exact rfl | refine And.intro ?_ ?_))
  exact congrArg (D.int .i64) hf.symm
theorem zqh (n:List UInt8):∀ (l:List zH) (k:Nat),(jh n l=none∧zgj n l k= -1)∨∃ (i:Nat) (s:zH),l[i]?=some s∧zgj n l k=((k+i:Nat):Int)∧jh n l=some s.at_
 | [],k=>.inl ⟨rfl,rfl⟩
 | s::l,k=>by
  rw [jh,zgj]
  by_cases h:s.name=n
  ·rw [if_pos h,if_pos h]
   exact .inr ⟨0,s,rfl,rfl,rfl⟩
  ·rw [if_neg h,if_neg h]
   rcases zqh n l (k+1) with h1 | ⟨i,t,h1,h2,h3⟩
   ·exact .inl h1
   ·exact .inr ⟨i+1,t,h1,by rw [h2];congr 1;omega,h3⟩
theorem ziO:za Tryz.prog zqX (zy (fun ((l,n):List zH×List UInt8)=>l.length≤1000000000) (fun (l,n)=>[.sl 2 (l.map yH) none,.str n])
  fun (l,n)=>.tup [.int .i64 ((jh n l).getD 0),.bool (jh n l).isSome]):=by
 refine zf zh Tryz.func47 rfl (by decide) ?_
 rintro ⟨l,n⟩ hl
 have hl:l.length≤1000000000:=hl
 refine ⟨Nat.le_refl _,by simp [Tryz.f47],fun E hE=>?_⟩
 refine ze _ ?_
 (all_goals refine qgo (Lf.mk ?_))
 refine zu zqg [0] [0] (l,n) hl rfl rfl ?_
 refine And.intro (VS.mk (LeL.of_eq rfl)) (And.intro (VS.mk rfl) ?_)
 rcases zqh n l 0 with ⟨h1,h2⟩ | ⟨i,s,h1,h2,h3⟩
 ·dsimp only
  rw [h2]
  (all_goals refine qgo ?_<;>(repeat' first | exact trivial | intro hc | refine And.intro ?_ ?_)<;>refine Lf.mk ?_)
  all_goals first
   | (exfalso;omega)
   | (refine zd (VS.mk ?_);rw [h1];exact .tup (.cons (.refl _) (.cons (.ff rfl) .nil)))
 ·have hil:i < l.length:=(List.getElem?_eq_some_iff.1 h1).1
  rw [Nat.zero_add] at h2
  dsimp only
  rw [h2]
  (all_goals refine qgo ?_<;>(repeat' first | exact trivial | intro hc | refine And.intro ?_ ?_)<;>refine Lf.mk ?_)
  ·exfalso;omega
  ·refine zl s (by omega) (by simpa using h1) ?_
   (all_goals refine qgo (Lf.mk ?_))
   refine zd (VS.mk ?_)
   rw [h3]
   exact .tup (.cons (.refl _) (.cons (.tt rfl) .nil))
end Go.Proofs.YtnkdeacghopkiaaGreatDoor
namespace Go.Proofs.YtnkdeacghopkiaaGreatDoor
open Go Go.Plat
set_option linter.unusedVariables false
set_option maxRecDepth 100000
attribute [local irreducible] yw yI zL yO okC zg
def zt0 (e a:Int):D:=.agg [.int .i64 e,.int .i64 a]
def zdY (b:Int):List zH→List zH→Option (List zH)
 | [],acc=>some acc
 | s::l,acc=>if (jh s.name acc).isSome=true then none else zdY b l (acc++[⟨s.name,b+s.at_⟩])
def zbL (bs:List UInt8) (off:Nat) (code:List UInt8):List UInt8:=bs++List.replicate (off - bs.length) 0++code
def lay (base:Int):List yz→Int→Nat→List UInt8→List zH→Nat ⊕ (List UInt8×List zH)
 | [],_,_,bs,ss=>.inr (bs,ss)
 | o::l,n,i,bs,ss=>match zdY (upI n) o.syms ss with
  | none=>.inl i
  | some ss'=>lay base l (upI n+o.code.length) (i+1) (zbL bs (upI n - base).toNat o.code) ss'
def zcA (b:Int) (ss:List zH) (r:qZ):Option Int:=if r.name=[] then some b else jh r.name ss
def zbk (base b:Int) (ss:List zH):List qZ→List UInt8→Int ⊕ List UInt8
 | [],bs=>.inr bs
 | r::l,bs=>match zcA b ss r with
  | none=>.inl 6
  | some a=>if r.size=2∧(zg (a+r.add) 32 < -32768∨65535 < zg (a+r.add) 32) then .inl 3
   else zbk base b ss l (yv bs (b - base+r.at_) r.size.toNat (zg (a+r.add) 32))
def fix (base:Int) (ss:List zH):List yz→Int→Nat→List UInt8→(Int×Nat) ⊕ List UInt8
 | [],_,_,bs=>.inr bs
 | o::l,n,i,bs=>match zbk base (upI n) ss o.rels bs with
  | .inl e=>.inl (e,i)
  | .inr bs'=>fix base ss l (upI n+o.code.length) (i+1) bs'
def kW:List yz→Nat→Option (Int×Nat)
 | [],_=>none
 | o::l,i=>if yD o=0 then kW l (i+1) else some (yD o,i)
def zgk (l:List yz) (base:Int):jw×Int×Int:=
 match kW l 0 with
 | some (e,i)=>(zbX,e,i)
 | none=>match lay base l base 0 [] [] with
  | .inl i=>(zbX,7,i)
  | .inr (bs,ss)=>match fix base ss l base 0 bs with
   | .inl (e,i)=>(zbX,e,i)
   | .inr bs'=>(⟨base,bs',ss⟩,0,0)
def xT (l:List yz) (base:Int):jw×Int×Int:=
 if base < 0∨1048576 < base∨base % 4≠0 then (zbX,3,0) else if l.length < 1∨4 < l.length then (zbX,5,0) else zgk l base
def zjA (x:jw×Int×Int):D:=.tup [zf3 x.1,zt0 x.2.1 x.2.2]
theorem zmT:∀ {l:List yz} {k:Nat},kW l k=none→∀ o∈l,yD o=0
 | [],_,_,o,h=>by simp at h
 | x::l,k,h,o,ho=>by
  rw [kW] at h
  split at h
  ·rename_i hx
   rcases List.mem_cons.1 ho with rfl | ho
   ·exact hx
   ·exact zmT h o ho
  ·cases h
theorem zmU {n:List UInt8}:∀ {l:List zH} {a:Int},jh n l=some a→∃ s∈l,s.at_=a
 | [],a,h=>by cases h
 | s::l,a,h=>by
  rw [jh] at h
  split at h
  ·cases h;exact ⟨s,by simp,rfl⟩
  ·obtain ⟨t,h1,h2⟩:=zmU h
   exact ⟨t,by simp [h1],h2⟩
theorem ziP (bs:List UInt8) (a:Int) (k:Nat) (n:Int):(yv bs a k n).length=bs.length:=kM a k bs n
theorem zlY:∀ (l:List yz) (n:Int),n≤kQ l n
 | [],n=>Int.le_refl _
 | o::l,n=>by
  have h1:=zlY l (upI n+o.code.length)
  have h2:=zhD n
  rw [kQ];omega
theorem zsp:∀ (l:List yz) (n:Int),(∀ o∈l,o.code.length≤8000)→kQ l n≤n+l.length * 8003
 | [],n,_=>by rw [kQ];simp
 | o::l,n,h=>by
  have h1:=zsp l (upI n+o.code.length) fun x hx=>h x (by simp [hx])
  have h2:=zhD n
  have h3:=h o (by simp)
  rw [kQ,List.length_cons];omega
theorem ziQ {α:Type} {l r:List α} {k:Nat} {x:α} (h:l.drop k=x::r):l[k]?=some x:=by
 have:=List.getElem?_drop (xs:=l) (i:=k) (j:=0)
 rw [h] at this
 simpa using this.symm
theorem zmV {α:Type} {l r:List α} {k:Nat} {x:α} (h:l.drop k=x::r):l.drop (k+1)=r:=by
 rw [← List.drop_drop,h];rfl
theorem qP {α:Type} {l:List α} {k:Nat} {o:α} (h:l[k]?=some o):l.drop k=o::l.drop (k+1):=by
 obtain ⟨hk,h2⟩:=List.getElem?_eq_some_iff.1 h
 rw [List.drop_eq_getElem_cons hk,h2]
theorem zhE (n:Int): -2147483648≤zg n 32∧zg n 32≤2147483647:=by
 have:zg n 32=if n % 4294967296 / 2147483648=1 then n % 4294967296 - 4294967296 else n % 4294967296:=by unfold zg;rfl
 rw [this]
 split<;>omega
theorem zxz {base:Int} {o:yz} {l:List yz} {n:Int} {i:Nat} {bs:List UInt8} {ss:List zH}:lay base (o::l) n i bs ss=match zdY (upI n) o.syms ss with
  | none=>.inl i
  | some ss'=>lay base l (upI n+o.code.length) (i+1) (zbL bs (upI n - base).toNat o.code) ss':=by rw [lay]
theorem zzj {base n:Int} {i:Nat} {bs:List UInt8} {ss:List zH}:lay base [] n i bs ss= .inr (bs,ss):=rfl
theorem zxA {base:Int} {o:yz} {l:List yz} {n:Int} {i:Nat} {bs:List UInt8} {ss:List zH}:fix base ss (o::l) n i bs=match zbk base (upI n) ss o.rels bs with
  | .inl e=>.inl (e,i)
  | .inr bs'=>fix base ss l (upI n+o.code.length) (i+1) bs':=by rw [fix]
theorem zzk {base n:Int} {i:Nat} {bs:List UInt8} {ss:List zH}:fix base ss [] n i bs= .inr bs:=rfl
theorem zvU {base b:Int} {ss:List zH} {r:qZ} {l:List qZ} {bs:List UInt8}:zbk base b ss (r::l) bs=match zcA b ss r with
  | none=>.inl 6
  | some a=>if r.size=2∧(zg (a+r.add) 32 < -32768∨65535 < zg (a+r.add) 32) then .inl 3
   else zbk base b ss l (yv bs (b - base+r.at_) r.size.toNat (zg (a+r.add) 32)):=by rw [zbk]
theorem zxB {base b:Int} {ss:List zH} {bs:List UInt8}:zbk base b ss [] bs= .inr bs:=rfl
theorem zvV {b:Int} {s:zH} {l acc:List zH}:zdY b (s::l) acc=if (jh s.name acc).isSome=true then none else zdY b l (acc++[⟨s.name,b+s.at_⟩]):=by rw [zdY]
theorem zxC {b:Int} {acc:List zH}:zdY b [] acc=some acc:=rfl
theorem zk2 {o:yz} {l:List yz} {n:Int}:wO (o::l) n=upI n::wO l (upI n+o.code.length):=rfl
theorem zvW {o:yz} {l:List yz} {n:Int}:kQ (o::l) n=kQ l (upI n+o.code.length):=rfl
theorem zxD {n:Int}:kQ [] n=n:=rfl
theorem zvX {bs code:List UInt8} {off N:Nat} (h1:bs.length≤off) (h2:off+code.length≤N) :
  wU ((bs++List.replicate (N - bs.length) 0).map zC) off (code.map zC)=((zbL bs off code)++List.replicate (N - (zbL bs off code).length) 0).map zC:=by
 have hlen:(zbL bs off code).length=off+code.length:=by unfold zbL;simp;omega
 rw [hlen]
 unfold wU zbL
 rw [List.length_map,← List.map_take,← List.map_drop,← List.map_append,← List.map_append]
 congr 1
 have e1:(bs++List.replicate (N - bs.length) 0).take off=bs++List.replicate (off - bs.length) 0:=by
  rw [List.take_append,List.take_of_length_le h1,List.take_replicate]
  congr 2;omega
 have e2:(bs++List.replicate (N - bs.length) (0:UInt8)).drop (off+code.length)=List.replicate (N - (off+code.length)) 0:=by
  rw [List.drop_append,List.drop_of_length_le (by omega),List.drop_replicate,List.nil_append]
  congr 1;omega
 rw [e1,e2]
theorem zxE {bs code:List UInt8} {off:Nat} (h1:bs.length≤off):(zbL bs off code).length=off+code.length:=by unfold zbL;simp;omega
end Go.Proofs.YtnkdeacghopkiaaGreatDoor
namespace Go.Proofs.YtnkdeacghopkiaaGreatDoor
open Go Go.Plat
set_option linter.unusedVariables false
set_option linter.unusedSimpArgs false
set_option maxRecDepth 100000
set_option maxHeartbeats 2000000
attribute [local irreducible] AWP zG yn zK zn yA z8 zI zY z6 zw za zN yB zt z7 yx yy yq yt zx zz zdY wO zD yw kQ jh fix zbk yI lay zL yO okC yv zg upI yD
structure InL (l:List yz) (base:Int):Prop where
 base0: -9223372036854775808≤base
 base1:base≤9223372036854775807
 len:l.length≤1048576
 rel:∀ o∈l,∀ r∈o.rels, -9223372036854775808≤r.at_∧r.at_≤9223372036854775807∧r.name.length≤1000000000
 sym:∀ o∈l,∀ s∈o.syms,s.name.length≤1000000000
theorem zah {e a:Int} {x:jw×Int×Int} (h:x=(zbX,e,a)):LeD (.tup [.agg [.int .i64 0,.nilsl,.nilsl],.agg [.int .i64 e,.int .i64 a]]) (zjA x):=by
 subst h
 exact .tup (.cons (.agg (.cons (.refl _) (.cons (.nil 1) (.cons (.nil 2) .nil)))) (.cons (.refl _) .nil))
theorem zk3:za Tryz.prog zqS (zy (fun ((l,base):List yz×Int)=>InL l base) (fun (l,base)=>[.sl 3 (l.map vl) none,.int .i64 base]) fun (l,base)=>zjA (xT l base)):=by
 refine zf zh Tryz.func29 rfl (by decide) ?_
 rintro ⟨l,base⟩ hin
 have hb0:=hin.base0
 have hb1:=hin.base1
 have hll:=hin.len
 refine ⟨Nat.le_refl _,by simp [Tryz.f29],fun E hE=>?_⟩
 refine ze _ ?_
 (all_goals refine qgo ?_<;>(repeat' first | exact trivial | intro hc | refine And.intro ?_ ?_)<;>refine Lf.mk ?_)
 ·exact zd (VS.mk (zah (by show xT l base=_;unfold xT;rw [if_pos (by omega)])))
 ·exact zd (VS.mk (zah (by show xT l base=_;unfold xT;rw [if_pos (by omega)])))
 ·exact zd (VS.mk (zah (by show xT l base=_;unfold xT;rw [if_pos (by omega)])))
 ·exact zd (VS.mk (zah (by show xT l base=_;unfold xT;rw [if_neg (by omega),if_pos (by omega)])))
 ·exact zd (VS.mk (zah (by show xT l base=_;unfold xT;rw [if_neg (by omega),if_pos (by omega)])))
 have hlo:xT l base=zgk l base:=by unfold xT;rw [if_neg (by omega),if_neg (by omega)]
 have hl4:l.length≤4:=by omega
 refine yc (α:=Nat) (fun k=>k≤l.length∧kW l 0=kW (l.drop k) k)
  (fun k=>[(48,.sl 3 (l.map vl) none),(49,.int .i64 l.length),(50,.int .i64 k),(0,.sl 3 (l.map vl) none),(1,.int .i64 base),(4,.loc 0 0),(5,.loc 1 0)])
  (fun _=>[.cells [.int .i64 0,.nilsl,.nilsl],.cells [.int .i64 0,.int .i64 0]]) (fun k=>l.length - k) (fun _=>by simp [hE]) 0 ⟨Nat.zero_le _,by simp⟩ ?_ ?_
 ·(repeat' (first | (refine VS.mk ?_) | exact trivial | exact rfl | refine And.intro ?_ ?_))
 rintro k ⟨hk,hf⟩
 refine ze _ ?_
 (all_goals refine qgo ?_<;>(repeat' first | exact trivial | intro hc | refine And.intro ?_ ?_)<;>refine Lf.mk ?_)
 ·obtain ⟨o,hok⟩:=zP (l:=l) (k:=k) (by omega)
  rw [qP hok,kW] at hf
  have hom:=List.mem_of_getElem? hok
  refine zl o (by omega) (by simpa using hok) ?_
  (all_goals refine qgo (Lf.mk ?_))
  refine zb zbg o ⟨hin.rel o hom,hin.sym o hom⟩ (VS.mk (by (first | exact LeL.refl _ | (repeat' (first | exact LeL.nil | exact LeD.refl _ | exact LeD.nil _ | exact LeD.strip _ _ _ | refine LeL.cons ?_ ?_ | refine LeD.tup ?_ | refine LeD.agg ?_))))) ?_
  (all_goals refine qgo ?_<;>(repeat' first | exact trivial | intro hc | refine And.intro ?_ ?_)<;>refine Lf.mk ?_)
  ·rw [if_neg hc] at hf
   exact zd (VS.mk (zah (by show xT l base=_;rw [hlo];unfold zgk;rw [hf])))
  ·rw [if_pos hc] at hf
   refine zF (k+1) ⟨by omega,hf⟩ (by omega) ?_
   (repeat' (first | (refine VS.mk ?_) | exact trivial | exact rfl | refine And.intro ?_ ?_))
 rw [List.drop_of_length_le (by omega),kW] at hf
 have hlr:zgk l base=match lay base l base 0 [] [] with
  | .inl i=>(zbX,7,i)
  | .inr (bs,ss)=>match fix base ss l base 0 bs with
   | .inl (e,i)=>(zbX,e,i)
   | .inr bs'=>(⟨base,bs',ss⟩,0,0):=by unfold zgk;rw [hf];try rfl
 have hok:=zmT hf
 have hcode:∀ o∈l,o.code.length≤8000:=fun o ho=>(zdW (hok o ho)).code
 clear hf
 refine zb zqf (l,base) ⟨by omega,by omega,by omega,fun o ho=>by have:=hcode o ho;omega⟩ (VS.mk (LeL.of_eq rfl)) ?_
 have he0:=zlY l base
 have he1:=zsp l base hcode
 (all_goals refine qgs (Lf.mk ?_))
 refine ziT ?_
 (all_goals refine qgo (Lf.mk ?_))
 generalize hN:(kQ l base - base).toNat=N at *
 have hNe:kQ l base - base=(N:Nat):=by omega
 have hN1:N≤32012:=by omega
 have hR:(List.replicate N (D.int .u8 0)).length=N:=List.length_replicate
 refine x8 (wW 3 2 [.int .i64 base,.osl 1 2 (List.replicate N (D.int .u8 0)).length 0 (List.replicate N (D.int .u8 0)).length,.sl 2 [] (some 4)] rfl ⟨.same,.same,.here,trivial⟩) ?_
 generalize hLAY:lay base l base 0 [] []=LAY at *
 refine yc (α:=Nat×Int×List UInt8×List zH) (fun p=>p.1≤l.length∧lay base (l.drop p.1) p.2.1 p.1 p.2.2.1 p.2.2.2=LAY∧(wO l base).drop p.1=wO (l.drop p.1) p.2.1∧kQ (l.drop p.1) p.2.1=kQ l base ∧
   (p.2.2.1.length:Int)=p.2.1 - base∧p.2.1≤base+p.1 * 8003∧p.2.2.2.length≤p.1 * 255∧∀ s∈p.2.2.2,0≤s.at_∧s.at_≤100000000)
  (fun p=>[(76,.sl 3 (l.map vl) none),(77,.int .i64 l.length),(78,.int .i64 p.1),(0,.sl 3 (l.map vl) none),(1,.int .i64 base),(4,.loc 0 0),(5,.loc 1 0),(9,zhC (wO l base)),(11,.loc 3 0)])
  (fun p=>[.cells [.int .i64 0,.nilsl,.nilsl],.cells [.int .i64 0,.int .i64 0],.arr 1 ((p.2.2.1++List.replicate (N - p.2.2.1.length) 0).map zC),.cells [.int .i64 base,.osl 1 2 N 0 N,.sl 2 (p.2.2.2.map yH) (some 4)],.spare p.2.2.2.length])
  (fun p=>l.length - p.1) (fun _=>by simp [hE]) (0,base,[],[]) ⟨Nat.zero_le _,by simpa using hLAY,by simp,by simp,by simp,by dsimp only;omega,by simp,by simp⟩ ?_ ?_
 ·(repeat' (first | (refine VS.mk ?_) | exact trivial | exact rfl | refine And.intro ?_ ?_))
  refine qE (List.replicate N 0) (by rw [List.map_replicate];rfl) ?_
  (repeat' (first | (refine VS.mk ?_) | exact trivial | exact rfl | refine And.intro ?_ ?_))
  simp [zk]
 rintro ⟨k,n,bs,ss⟩ ⟨hk,hlay,hbas,hend,hbl,hn,hsl,hss⟩
 dsimp only at hk hlay hbas hend hbl hn hsl hss ⊢
 refine ze _ ?_
 (all_goals refine qgo ?_<;>(repeat' first | exact trivial | intro hc | refine And.intro ?_ ?_)<;>refine Lf.mk ?_)
 ·obtain ⟨o,hok1⟩:=zP (l:=l) (k:=k) (by omega)
  have hom:=List.mem_of_getElem? hok1
  have hob:=zdW (hok o hom)
  have hoc:=hob.code
  have hup:=zhD n
  rw [qP hok1,zxz] at hlay
  rw [qP hok1,zk2] at hbas
  rw [qP hok1,zvW] at hend
  have hge:=zlY (l.drop (k+1)) (upI n+o.code.length)
  have hbk:(wO l base)[k]?=some (upI n):=ziQ hbas
  refine zl o (by omega) (by simpa using hok1) ?_
  (all_goals refine qgk (Lf.mk ?_))
  refine zl (upI n) (by omega) (by simpa using hbk) ?_
  (all_goals refine qgk (Lf.mk ?_))
  have ho1:bs.length≤(upI n - base).toNat:=by omega
  have ho2:(upI n - base).toNat+o.code.length≤N:=by omega
  have hll2:=zxE (code:=o.code) ho1
  refine xd (((zbL bs (upI n - base).toNat o.code)++List.replicate (N - (zbL bs (upI n - base).toNat o.code).length) 0).map zC) (by rw [Nat.zero_add];exact zvX ho1 ho2) ?_
  generalize hB:zbL bs (upI n - base).toNat o.code=B at *
  (all_goals refine qgo (Lf.mk ?_))
  generalize hADD:zdY (upI n) o.syms ss=ADD at *
  have hos:=hob.syms
  refine yc (α:=Nat×List zH) (fun p=>p.1≤o.syms.length∧zdY (upI n) (o.syms.drop p.1) p.2=ADD∧p.2.length≤k * 255+p.1∧∀ s∈p.2,0≤s.at_∧s.at_≤100000000)
   (fun p=>[(96,.sl 2 (o.syms.map yH) none),(97,.int .i64 o.syms.length),(98,.int .i64 p.1),(76,.sl 3 (l.map vl) none),(77,.int .i64 l.length),(78,.int .i64 k),(0,.sl 3 (l.map vl) none),(1,.int .i64 base),(4,.loc 0 0),(5,.loc 1 0),(9,zhC (wO l base)),(11,.loc 3 0),(12,.int .i64 k)])
   (fun p=>[.cells [.int .i64 0,.nilsl,.nilsl],.cells [.int .i64 0,.int .i64 0],.arr 1 ((B++List.replicate (N - B.length) 0).map zC),.cells [.int .i64 base,.osl 1 2 N 0 N,.sl 2 (p.2.map yH) (some 4)],.spare p.2.length])
   (fun p=>o.syms.length - p.1) (fun _=>by simp [hE]) (0,ss) ⟨Nat.zero_le _,by simpa using hADD,hsl,hss⟩ ?_ ?_
  ·(repeat' (first | (refine VS.mk ?_) | exact trivial | exact rfl | refine And.intro ?_ ?_))
   refine qE (B++List.replicate (N - B.length) 0) rfl ?_
   (repeat' (first | (refine VS.mk ?_) | exact trivial | exact rfl | refine And.intro ?_ ?_))
  rintro ⟨j,acc⟩ ⟨hj,hadd,hal,has⟩
  dsimp only at hj hadd hal has ⊢
  refine ze _ ?_
  (all_goals refine qgo ?_<;>(repeat' first | exact trivial | intro hc | refine And.intro ?_ ?_)<;>refine Lf.mk ?_)
  ·obtain ⟨s,hsj⟩:=zP (l:=o.syms) (k:=j) (by omega)
   have hsm:=List.mem_of_getElem? hsj
   obtain ⟨_,hs0,hs1⟩:=hob.sym s hsm
   rw [qP hsj,zvV] at hadd
   refine zl s (by omega) (by simpa using hsj) ?_
   (all_goals refine qgo (Lf.mk ?_))
   refine zb ziO (acc,s.name) (by dsimp only;omega) (VS.mk (by (first | exact LeL.refl _ | (repeat' (first | exact LeL.nil | exact LeD.refl _ | exact LeD.nil _ | exact LeD.strip _ _ _ | refine LeL.cons ?_ ?_ | refine LeD.tup ?_ | refine LeD.agg ?_))))) ?_
   (all_goals refine qgo ?_<;>(repeat' first | exact trivial | intro hc | refine And.intro ?_ ?_)<;>refine Lf.mk ?_)
   ·rw [if_pos hc] at hadd
    subst hadd
    exact zd (VS.mk (zah (by show xT l base=_;rw [hlo,hlr,← hlay])))
   ·rw [if_neg (by rw [hc];decide)] at hadd
    refine zl (upI n) (by omega) (by simpa using hbk) ?_
    (all_goals refine qgo (Lf.mk ?_))
    have has2:∀ t∈acc++[(⟨s.name,upI n+s.at_⟩:zH)],0≤t.at_∧t.at_≤100000000:=fun t ht=>by
     rcases List.mem_append.1 ht with h1 | h1
     ·exact has t h1
     ·rw [List.mem_singleton.1 h1]
      exact ⟨by show 0≤upI n+s.at_;omega,by show upI n+s.at_≤_;omega⟩
    refine zF (j+1,acc++[⟨s.name,upI n+s.at_⟩]) ⟨by (dsimp only;omega),hadd,by (dsimp only;rw [List.length_append];show _+1≤_;omega),has2⟩ (by dsimp only;omega) ?_
    (repeat' (first | (refine VS.mk ?_) | exact trivial | exact rfl | refine And.intro ?_ ?_))
    ·refine qE (B++List.replicate (N - B.length) 0) rfl ?_
     (repeat' (first | (refine VS.mk ?_) | exact trivial | exact rfl | refine And.intro ?_ ?_))
     simp [yH,zk]
  ·have hje:j=o.syms.length:=by omega
   rw [List.drop_of_length_le (by omega),zxC] at hadd
   subst hadd
   refine zF (k+1,upI n+o.code.length,B,acc) ⟨by (dsimp only;omega),hlay,zmV hbas,hend,by (dsimp only;omega),by (dsimp only;omega),by (dsimp only;omega),has⟩ (by dsimp only;omega) ?_
   (repeat' (first | (refine VS.mk ?_) | exact trivial | exact rfl | refine And.intro ?_ ?_))
   refine qE (B++List.replicate (N - B.length) 0) rfl ?_
   (repeat' (first | (refine VS.mk ?_) | exact trivial | exact rfl | refine And.intro ?_ ?_))
 have hke:k=l.length:=by omega
 rw [List.drop_of_length_le (by omega),zzj] at hlay
 rw [List.drop_of_length_le (by omega),zxD] at hend
 subst hlay
 have hbN:bs.length=N:=by omega
 have hlr2:zgk l base=match fix base ss l base 0 bs with
   | .inl (e,i)=>(zbX,e,i)
   | .inr bs'=>(⟨base,bs',ss⟩,0,0):=hlr
 refine x8 (zkl (k:=2) 3 bs [.int .i64 base,.sl 1 (bs.map zC) (some 5),.sl 2 (ss.map yH) (some 4)] rfl (by rw [show N - bs.length=0 by omega];simp) rfl
  ⟨.keep _,.here N N (by simp [hbN]) (by simp [hbN]),.keep _,trivial⟩) ?_
 refine x8 (zg5 3 [.int .i64 base,.sl 1 (bs.map zC) none,.sl 2 (ss.map yH) (some 4)] rfl (.cons (.refl _) (.cons (.strip _ _ _) (.cons (.refl _) .nil)))) ?_
 have hss4:ss.length≤1020:=by omega
 clear hlr hend hn hsl hbas hbl
 generalize hFIX:fix base ss l base 0 bs=FIX at *
 refine yc (α:=Nat×Int×List UInt8) (fun p=>p.1≤l.length∧fix base ss (l.drop p.1) p.2.1 p.1 p.2.2=FIX∧(wO l base).drop p.1=wO (l.drop p.1) p.2.1∧base≤p.2.1∧p.2.1≤base+p.1 * 8003∧p.2.2.length=N)
  (fun p=>[(131,.sl 3 (l.map vl) none),(132,.int .i64 l.length),(133,.int .i64 p.1),(1,.int .i64 base),(4,.loc 0 0),(5,.loc 1 0),(9,zhC (wO l base)),(11,.loc 3 0)])
  (fun p=>[.cells [.int .i64 0,.nilsl,.nilsl],.cells [.int .i64 0,.int .i64 0],.dead,.cells [.int .i64 base,.sl 1 (p.2.2.map zC) none,.sl 2 (ss.map yH) (some 4)],.spare ss.length])
  (fun p=>l.length - p.1) (fun _=>by simp [hE]) (0,base,bs) ⟨Nat.zero_le _,by simpa using hFIX,by simp,by simp,by dsimp only;omega,hbN⟩ ?_ ?_
 ·(repeat' (first | (refine VS.mk ?_) | exact trivial | exact rfl | refine And.intro ?_ ?_))
 rintro ⟨k,n,bs⟩ ⟨hk,hfix,hbas,hn0,hn,hbl⟩
 dsimp only at hk hfix hbas hn0 hn hbl ⊢
 refine ze _ ?_
 (all_goals refine qgo ?_<;>(repeat' first | exact trivial | intro hc | refine And.intro ?_ ?_)<;>refine Lf.mk ?_)
 ·obtain ⟨o,hok1⟩:=zP (l:=l) (k:=k) (by omega)
  have hom:=List.mem_of_getElem? hok1
  have hob:=zdW (hok o hom)
  have hoc:=hob.code
  have hup:=zhD n
  rw [qP hok1,zxA] at hfix
  rw [qP hok1,zk2] at hbas
  have hbk:(wO l base)[k]?=some (upI n):=ziQ hbas
  have hor:=hob.rels
  refine zl o (by omega) (by simpa using hok1) ?_
  (all_goals refine qgo (Lf.mk ?_))
  generalize hFX:zbk base (upI n) ss o.rels bs=FX at *
  refine yc (α:=Nat×List UInt8) (fun p=>p.1≤o.rels.length∧zbk base (upI n) ss (o.rels.drop p.1) p.2=FX∧p.2.length=N)
   (fun p=>[(139,.sl 4 (o.rels.map jx) none),(140,.int .i64 o.rels.length),(141,.int .i64 p.1),(131,.sl 3 (l.map vl) none),(132,.int .i64 l.length),(133,.int .i64 k),(1,.int .i64 base),(4,.loc 0 0),(5,.loc 1 0),(9,zhC (wO l base)),(11,.loc 3 0),(18,.int .i64 k)])
   (fun p=>[.cells [.int .i64 0,.nilsl,.nilsl],.cells [.int .i64 0,.int .i64 0],.dead,.cells [.int .i64 base,.sl 1 (p.2.map zC) none,.sl 2 (ss.map yH) (some 4)],.spare ss.length])
   (fun p=>o.rels.length - p.1) (fun _=>by simp [hE]) (0,bs) ⟨Nat.zero_le _,by simpa using hFX,hbl⟩ ?_ ?_
  ·(repeat' (first | (refine VS.mk ?_) | exact trivial | exact rfl | refine And.intro ?_ ?_))
  rintro ⟨j,cs⟩ ⟨hj,hfx,hcl⟩
  dsimp only at hj hfx hcl ⊢
  refine ze _ ?_
  (all_goals refine qgo ?_<;>(repeat' first | exact trivial | intro hc | refine And.intro ?_ ?_)<;>refine Lf.mk ?_)
  ·obtain ⟨r,hrj⟩:=zP (l:=o.rels) (k:=j) (by omega)
   have hro:=hob.rel r (List.mem_of_getElem? hrj)
   have hrn:=hro.len
   have hrs:=hro.size
   have hr0:=hro.at0
   have hr1:=hro.at1
   have hra:=zhE r.add
   rw [hro.add] at hra
   rw [qP hrj,zvU] at hfx
   refine zl r (by omega) (by simpa using hrj) ?_
   (all_goals refine qgo (Lf.mk ?_))
   refine zl (upI n) (by omega) (by simpa using hbk) ?_
   (all_goals refine qgo ?_<;>(repeat' first | exact trivial | intro hc | refine And.intro ?_ ?_)<;>refine Lf.mk ?_)
   ·refine zb ziO (ss,r.name) (by dsimp only;omega) (VS.mk (by (first | exact LeL.refl _ | (repeat' (first | exact LeL.nil | exact LeD.refl _ | exact LeD.nil _ | exact LeD.strip _ _ _ | refine LeL.cons ?_ ?_ | refine LeD.tup ?_ | refine LeD.agg ?_))))) ?_
    dsimp only
    have hp0:zcA (upI n) ss r=jh r.name ss:=by unfold zcA;rw [if_neg hc]
    rcases hfs:jh r.name ss with _ | a
    ·rw [hfs] at hp0
     rw [hp0] at hfx
     subst hfx
     (all_goals refine qgo ?_<;>(repeat' first | exact trivial | intro hc | refine And.intro ?_ ?_)<;>refine Lf.mk ?_)
     ·exact zd (VS.mk (zah (by show xT l base=_;rw [hlo,hlr2,← hfix])))
     ·exact Bool.noConfusion hc
    ·obtain ⟨t,ht1,ht2⟩:=zmU hfs
     obtain ⟨hA0,hA1⟩:=hss t ht1
     rw [ht2] at hA0 hA1
     have hpl:zcA (upI n) ss r=some a:=by rw [hp0,hfs]
     simp only [Option.getD_some,Option.isSome_some]
     (all_goals refine qgo ?_<;>(repeat' first | exact trivial | intro hc | refine And.intro ?_ ?_)<;>refine Lf.mk ?_)
     (any_goals (first | (exfalso;refine hc ?_;simp;done) | (exfalso;exact Bool.noConfusion hc) | (exfalso;exact hc (by with_reducible rfl)) | (exfalso;exact hc rfl) | skip))
     refine zb yC (a+r.add) trivial (VS.mk (LeL.of_eq rfl)) ?_
     have hsb:=zhE (a+r.add)
     generalize hv:zg (a+r.add) 32=v at *
     rw [hpl] at hfx
     dsimp only at hfx
     rw [hv] at hfx
     (all_goals refine qgo ?_<;>(repeat' first | exact trivial | intro hc | refine And.intro ?_ ?_)<;>refine Lf.mk ?_)
     any_goals (first | (rw [if_pos ⟨by assumption,by omega⟩] at hfx;subst hfx;exact zd (VS.mk (zah (by show xT l base=_;rw [hlo,hlr2,← hfix])))) | skip)
     all_goals
      rw [if_neg (by omega)] at hfx
      have hsz:((r.size.toNat:Nat):Int)=r.size:=Int.toNat_of_nonneg (by omega)
      refine zl (upI n) (by omega) (by simpa using hbk) ?_
      (all_goals refine qgo (Lf.mk ?_))
      refine zu ky [] [6] (cs,upI n - base+r.at_,r.size.toNat,v) ⟨by omega,by omega,by omega,by omega⟩ rfl rfl ?_
      refine And.intro (VS.mk (LeL.of_eq (by dsimp only;rw [hsz];rfl))) (And.intro (VS.mk rfl) ?_)
      (all_goals refine qgo (Lf.mk ?_))
      refine zgq (j+1,yv cs (upI n - base+r.at_) r.size.toNat v) ⟨by (dsimp only;omega),hfx,by (dsimp only;rw [ziP];exact hcl)⟩ (by dsimp only;omega)
       (zg5 3 [.int .i64 base,.sl 1 ((yv cs (upI n - base+r.at_) r.size.toNat v).map zC) none,.sl 2 (ss.map yH) (some 4)] rfl (.cons (.refl _) (.cons (.strip _ _ _) (.cons (.refl _) .nil)))) (by rw [hE];exact Nat.zero_le _) ?_
      (repeat' (first | (refine VS.mk ?_) | exact trivial | exact rfl | refine And.intro ?_ ?_))
   ·have hpl:zcA (upI n) ss r=some (upI n):=by unfold zcA;rw [if_pos hc]
    have hA0:0≤upI n:=by omega
    have hA1:upI n≤100000000:=by omega
    refine zb yC (upI n+r.add) trivial (VS.mk (LeL.of_eq rfl)) ?_
    have hsb:=zhE (upI n+r.add)
    generalize hv:zg (upI n+r.add) 32=v at *
    rw [hpl] at hfx
    dsimp only at hfx
    rw [hv] at hfx
    (all_goals refine qgo ?_<;>(repeat' first | exact trivial | intro hc | refine And.intro ?_ ?_)<;>refine Lf.mk ?_)
    any_goals (first | (rw [if_pos ⟨by assumption,by omega⟩] at hfx;subst hfx;exact zd (VS.mk (zah (by show xT l base=_;rw [hlo,hlr2,← hfix])))) | skip)
    all_goals
     rw [if_neg (by omega)] at hfx
     have hsz:((r.size.toNat:Nat):Int)=r.size:=Int.toNat_of_nonneg (by omega)
     refine zl (upI n) (by omega) (by simpa using hbk) ?_
     (all_goals refine qgo (Lf.mk ?_))
     refine zu ky [] [6] (cs,upI n - base+r.at_,r.size.toNat,v) ⟨by omega,by omega,by omega,by omega⟩ rfl rfl ?_
     refine And.intro (VS.mk (LeL.of_eq (by dsimp only;rw [hsz];rfl))) (And.intro (VS.mk rfl) ?_)
     (all_goals refine qgo (Lf.mk ?_))
     refine zgq (j+1,yv cs (upI n - base+r.at_) r.size.toNat v) ⟨by (dsimp only;omega),hfx,by (dsimp only;rw [ziP];exact hcl)⟩ (by dsimp only;omega)
      (zg5 3 [.int .i64 base,.sl 1 ((yv cs (upI n - base+r.at_) r.size.toNat v).map zC) none,.sl 2 (ss.map yH) (some 4)] rfl (.cons (.refl _) (.cons (.strip _ _ _) (.cons (.refl _) .nil)))) (by rw [hE];exact Nat.zero_le _) ?_
     (repeat' (first | (refine VS.mk ?_) | exact trivial | exact rfl | refine And.intro ?_ ?_))
  ·rw [List.drop_of_length_le (by omega),zxB] at hfx
   subst hfx
   refine zF (k+1,upI n+o.code.length,cs) ⟨by (dsimp only;omega),hfix,zmV hbas,by (dsimp only;omega),by (dsimp only;omega),hcl⟩ (by dsimp only;omega) ?_
   (repeat' (first | (refine VS.mk ?_) | exact trivial | exact rfl | refine And.intro ?_ ?_))
 ·rw [List.drop_of_length_le (by omega),zzk] at hfix
  subst hfix
  have hout:xT l base=(⟨base,bs,ss⟩,0,0):=by rw [hlo,hlr2]
  refine zd (VS.mk ?_)
  show LeD _ (zjA (xT l base))
  rw [hout]
  exact .tup (.cons (.agg (.cons (.refl _) (.cons (.refl _) (.cons (.strip _ _ _) .nil)))) (.cons (.refl _) .nil))
end Go.Proofs.YtnkdeacghopkiaaGreatDoor
namespace Go.Proofs.YtnkdeacghopkiaaGreatDoor
open Go Go.Plat
set_option linter.unusedVariables false
set_option linter.unusedSimpArgs false
set_option maxRecDepth 100000
set_option maxHeartbeats 2000000
attribute [local irreducible] AWP zG yn zK zn yA z8 zI zY z6 zw za zN yB zt z7 yx yy yq yt zx zz zD qr xT zE wy vu wv zag qz vY xu yF yD
theorem zvY {av:List D} {L:List Ob} {KP:D→Prop} {KW:D→List Ob→Prop} (g:Nat) (caps:List D) (p:yK→Bool) (l:List yK) (hl:l.length≤1000000000)
  (has:av=[.sl 8 (l.map yo) none,.fn g caps])
  (hg:∀ s∈l,∀ (KP:D→Prop) (KW:D→List Ob→Prop),KW (.bool (p s)) L→zn Tryz.prog g (yo s::caps) L KP KW)
  (hK:KW (.int .i64 (y9 p l 0)) L):zn Tryz.prog vI av L KP KW:=by
 subst has
 refine xP zh Tryz.func41 rfl (by decide) (.int .i64 (y9 p l 0)) L (Nat.le_refl _) (by simp [Tryz.f41]) (fun E hE=>?_) hK
 have hE0:E.L.length=L.length:=by rw [hE]
 refine ze _ ?_
 (all_goals refine qgo ?_<;>(repeat' first | exact trivial | intro hc | refine And.intro ?_ ?_)<;>refine Lf.mk ?_)
 refine yp (α:=Nat) (fun k=>k≤l.length∧y9 p l 0=y9 p (l.drop k) k)
  (fun k=>[(0,.sl 8 (l.map yo) none),(1,.fn g caps),(7,.int .i64 l.length),(8,.int .i64 k)]) (fun _=>L) (fun k=>l.length - k) (fun _=>by rw [hE0];exact Nat.le_refl _) 0 ⟨Nat.zero_le _,by simp⟩ ?_ ?_
 ·exact yf rfl ⟨rfl,rfl,rfl,rfl,trivial⟩
 rintro k ⟨hk,hf⟩
 refine ze _ ?_
 (all_goals refine qgp ?_<;>(repeat' first | exact trivial | intro hc | refine And.intro ?_ ?_)<;>refine Lf.mk ?_)
 ·obtain ⟨s,hsk⟩:=zP (l:=l) (k:=k) (by omega)
  have hkl:k < l.length:=by omega
  have hget:l[k]=s:=by rw [List.getElem?_eq_getElem hkl] at hsk;exact Option.some.inj hsk
  rw [List.drop_eq_getElem_cons hkl,hget,y9] at hf
  refine zl s (by omega) (by simpa using hsk) ?_
  (all_goals refine qgp ?_<;>(repeat' first | exact trivial | intro hc | refine And.intro ?_ ?_)<;>refine Lf.mk ?_)
  refine hg s (List.mem_of_getElem? hsk) _ _ ?_
  cases hb:p s with
  | true=>
   rw [hb,if_pos rfl] at hf
   (all_goals refine qgp ?_<;>(repeat' first | exact trivial | intro hc | refine And.intro ?_ ?_)<;>refine Lf.mk ?_)
   (any_goals (first | (exfalso;refine Bool.false_ne_true ?_;assumption) | (exfalso;refine Bool.false_ne_true (Eq.symm ?_);assumption) | (exfalso;refine absurd trivial ?_;assumption) | skip))
   exact yQ (by rw [hf];rfl) rfl
  | false=>
   rw [hb,if_neg (by decide)] at hf
   (all_goals refine qgp ?_<;>(repeat' first | exact trivial | intro hc | refine And.intro ?_ ?_)<;>refine Lf.mk ?_)
   (any_goals (first | (exfalso;refine Bool.false_ne_true ?_;assumption) | (exfalso;refine Bool.false_ne_true (Eq.symm ?_);assumption) | (exfalso;refine absurd trivial ?_;assumption) | skip))
   exact yj (k+1) ⟨by omega,hf⟩ (by omega) rfl ⟨rfl,rfl,rfl,rfl,trivial⟩
 ·rw [List.drop_of_length_le (by omega),y9] at hf
  exact yQ (by rw [hf];rfl) rfl
structure zsq (j:yK) (o:yz):Prop where
 done:j.done=true
 err:j.fe=0
 len:j.obj.length≤100000000
 parse:qz j.obj=0∧zag j.obj=o
 rels:∀ r∈o.rels, -9223372036854775808≤r.at_∧r.at_≤9223372036854775807∧r.name.length≤1000000000
 syms:∀ s∈o.syms,s.name.length≤1000000000
structure zyb (f:zp) (os:List yz) (i:jw):Prop where
 len:f.jobs.length≤1000∧os.length=f.jobs.length
 jobs:∀ (k:Nat) j o,f.jobs[k]?=some j→os[k]?=some o→zsq j o
 bas: -9223372036854775808≤f.base∧f.base≤9223372036854775807
 link:xT os f.base=(i,0,0)
def zAy (f:zp):List Ob:=[.cells (xR f).cells,.cells [.int .i64 0,.nilsl,.nilsl],.cells [.int .i64 0,.int .i64 0]]
theorem zqi:za Tryz.prog zoG (zy (fun ((f,os,i):zp×List yz×jw)=>zyb f os i) (fun (f,_,_)=>[xR f]) fun (_,_,i)=>.tup [zf3 i,.agg [.int .i64 0,.int .i64 0]]):=by
 refine zf zh Tryz.func14 rfl (by decide) ?_
 rintro ⟨f,os,i⟩ ⟨⟨hl,hol⟩,hj,hb,hlk⟩
 have hl:f.jobs.length≤1000:=hl
 have hol:os.length=f.jobs.length:=hol
 have hj:∀ (k:Nat) j o,f.jobs[k]?=some j→os[k]?=some o→zsq j o:=hj
 have hlk:xT os f.base=(i,0,0):=hlk
 have hob:∀ k,k < f.jobs.length→∃ o,os[k]?=some o:=fun k hk=>⟨_,List.getElem?_eq_getElem (by omega)⟩
 have hall:∀ j∈f.jobs,j.done=true:=fun j hm=>by
  obtain ⟨k,hk,rfl⟩:=List.getElem_of_mem hm
  obtain ⟨o,ho⟩:=hob k hk
  exact (hj k _ o (List.getElem?_eq_getElem hk) ho).done
 have hno:f.jobs.any (fun j=>!j.done)=false:=by
  rw [List.any_eq_false]
  intro j hm
  rw [hall j hm]
  decide
 refine ⟨Nat.le_refl _,by simp [Tryz.f14],fun E hE=>?_⟩
 have hE0:E.L.length=0:=by rw [hE];rfl
 refine ze _ ?_
 (all_goals refine qgp ?_<;>(repeat' first | exact trivial | intro hc | refine And.intro ?_ ?_)<;>refine Lf.mk ?_)
 refine xP zh Tryz.func26 rfl (by decide) (.bool (f.jobs.any fun j=>!j.done)) _ (Nat.le_refl _) (by simp [Tryz.f26]) (fun E' hE'=>?_) ?_
 ·refine ze _ ?_
  (all_goals refine qgp ?_<;>(repeat' first | exact trivial | intro hc | refine And.intro ?_ ?_)<;>refine Lf.mk ?_)
  refine zvY zlz [] (fun j=>!j.done) f.jobs (by omega) rfl (fun s hs KP KW hK=>?_) ?_
  ·refine xP zh Tryz.func27 rfl (by decide) (.bool (!s.done)) _ (Nat.le_refl _) (by simp [Tryz.f27]) (fun E2 hE2=>?_) hK
   refine ze _ ?_
   (all_goals refine qgp ?_<;>(repeat' first | exact trivial | intro hc | refine And.intro ?_ ?_)<;>refine Lf.mk ?_)
   refine xq _ [_] rfl (Nat.le_refl _) .bool fun o ho=>?_
   simp only [List.nil_append,List.cons_append,List.mem_cons,List.not_mem_nil,or_false] at ho
   rcases ho with rfl | rfl | rfl
   ·exact .cells (.cons .int (.cons .sl (.cons .sl (.cons .sl .nil))))
   ·exact .cells (.cons .int (.cons .nilsl (.cons .nilsl .nil)))
   ·exact .cells (.cons .int (.cons .int .nil))
  ·(all_goals refine qgp ?_<;>(repeat' first | exact trivial | intro hc | refine And.intro ?_ ?_)<;>refine Lf.mk ?_)
   exact yQ (congrArg D.bool (ze9 _ _ 0)) rfl
 ·rw [hno]
  (all_goals refine qgp ?_<;>(repeat' first | exact trivial | intro hc | refine And.intro ?_ ?_)<;>refine Lf.mk ?_)
  ·exact Bool.noConfusion hc
  refine x8 (qV 4 3 rfl) ?_
  refine yp (α:=Nat) (fun k=>k≤f.jobs.length) (fun k=>[(1,.loc 0 0),(2,.loc 1 0),(3,.loc 2 0),(4,.sl 3 ((os.take k).map vl) (some 3)),(15,.sl 8 (f.jobs.map yo) none),(16,.int .i64 f.jobs.length),(17,.int .i64 k)])
   (fun k=>zAy f++[.spare (os.take k).length]) (fun k=>f.jobs.length - k) (fun _=>by rw [hE0];exact Nat.zero_le _) 0 (Nat.zero_le _) ?_ ?_
  ·exact yf rfl ⟨rfl,rfl,rfl,rfl,rfl,rfl,rfl,trivial⟩
  intro k hk
  have hk:k≤f.jobs.length:=hk
  refine ze _ ?_
  (all_goals refine qgp ?_<;>(repeat' first | exact trivial | intro hc | refine And.intro ?_ ?_)<;>refine Lf.mk ?_)
  ·obtain ⟨j,hx⟩:=zP (l:=f.jobs) (k:=k) (by omega)
   obtain ⟨o,ho⟩:=hob k (by omega)
   obtain ⟨g1,g2,g3,⟨g4,g5⟩,g6,g7⟩:=hj k j o hx ho
   refine zl j (Int.natCast_nonneg _) (by rw [Int.toNat_natCast];exact hx) ?_
   (all_goals refine qgp ?_<;>(repeat' first | exact trivial | intro hc | refine And.intro ?_ ?_)<;>refine Lf.mk ?_)
   refine zb zqe j.obj g3 (VS.mk (LeL.of_eq rfl)) ?_
   rw [g4,g5]
   have htk:os.take (k+1)=os.take k++[o]:=by rw [List.take_add_one,ho];rfl
   unfold vl
   (all_goals refine qgp ?_<;>(repeat' first | exact trivial | intro hc | refine And.intro ?_ ?_)<;>refine Lf.mk ?_)
   ·exact absurd trivial hc
   have hd:D.sl 3 ((os.take k).map vl++[vl o]) (some 3)=D.sl 3 ((os.take (k+1)).map vl) (some 3):=by rw [htk,List.map_append];rfl
   refine w9 (k+1) [.cells (yo j).cells,.cells (vl o).cells] (by show k+1≤_;omega) (by omega) ?_ (by rw [hE0];exact Nat.zero_le _) ?_ ⟨rfl,rfl,rfl,hd,rfl,rfl,rfl,trivial⟩ (.cons (.loc (by show 0 < 4;decide)) (.cons (.loc (by show 1 < 4;decide)) (.cons (.loc (by show 2 < 4;decide)) (.cons (.tok (by show 3 < 4;decide)) (.cons .sl (.cons .int (.cons .int .nil)))))))
   ·rw [htk]
    simp only [List.length_append,List.length_map]
    rfl
   ·intro x hxm
    rcases List.mem_append.1 hxm with hxm | hxm
    ·simp only [zAy,List.mem_cons,List.not_mem_nil,or_false] at hxm
     rcases hxm with rfl | rfl | rfl
     ·exact .cells (.cons .int (.cons .sl (.cons .sl (.cons .sl .nil))))
     ·exact .cells (.cons .int (.cons .nilsl (.cons .nilsl .nil)))
     ·exact .cells (.cons .int (.cons .int .nil))
    ·rw [List.mem_singleton.1 hxm];exact .spare
  ·have hkn:k=f.jobs.length:=by omega
   rw [hkn,← hol,List.take_length]
   have hos:∀ o∈os,(∀ r∈o.rels, -9223372036854775808≤r.at_∧r.at_≤9223372036854775807∧r.name.length≤1000000000)∧∀ s∈o.syms,s.name.length≤1000000000:=fun o hm=>by
    obtain ⟨q,hq,rfl⟩:=List.getElem_of_mem hm
    have:=hj q _ _ (List.getElem?_eq_getElem (by omega)) (List.getElem?_eq_getElem hq)
    exact ⟨this.rels,this.syms⟩
   refine zb zk3 (os,f.base) ⟨hb.1,hb.2,by show os.length≤_;omega,fun o ho=>(hos o ho).1,fun o ho=>(hos o ho).2⟩ (VS.mk ?_) ?_
   ·exact .cons (.strip _ _ _) (LeL.refl _)
   dsimp only
   rw [hlk]
   unfold zjA zf3 zt0
   dsimp only
   (all_goals refine qgp ?_<;>(repeat' first | exact trivial | intro hc | refine And.intro ?_ ?_)<;>refine Lf.mk ?_)
   exact zd (VS.mk (LeD.refl _))
end Go.Proofs.YtnkdeacghopkiaaGreatDoor
namespace Go.Proofs.YtnkdeacghopkiaaGreatDoor
open Go Go.Plat
set_option linter.unusedVariables false
set_option linter.unusedSimpArgs false
set_option maxRecDepth 100000
set_option maxHeartbeats 2000000
attribute [local irreducible] AWP zG yn zK zn yA z8 zI zY z6 zw za zN yB zt z7 yx yy yq yt zx zz zD
attribute [local irreducible] zho xE xc
end Go.Proofs.YtnkdeacghopkiaaGreatDoor
namespace Go.Proofs.YtnkdeacghopkiaaGreatDoor
open Go Go.Plat
set_option linter.unusedVariables false
set_option linter.unusedSimpArgs false
set_option maxRecDepth 100000
attribute [local irreducible] zD xY z1 xE xc yv zg
structure zW where
 r:Nat→Int
 t:Bool
 pc:Int
 pr:Int
 img:jw
 told:List Int
 steps:Int
def vj (m:zW):List D:=
 [.int .i64 (m.r 0),.int .i64 (m.r 1),.int .i64 (m.r 2),.int .i64 (m.r 3),.int .i64 (m.r 4),.int .i64 (m.r 5),.int .i64 (m.r 6),.int .i64 (m.r 7),
  .int .i64 (m.r 8),.int .i64 (m.r 9),.int .i64 (m.r 10),.int .i64 (m.r 11),.int .i64 (m.r 12),.int .i64 (m.r 13),.int .i64 (m.r 14),.int .i64 (m.r 15),
  .bool m.t,.int .i64 m.pc,.int .i64 m.pr,.int .i64 m.img.base,zk m.img.bytes,.sl 2 (m.img.syms.map yH) none,.sl 1 (m.told.map zi7) none,.int .i64 m.steps]
def zbl (m:zW):D:=.agg (vj m)
def wP:zW:=⟨fun _=>0,false,0,0,zbX,[],0⟩
def up (r:Nat→Int) (n v:Int):Nat→Int:=fun k=>if (k:Int)=n then v else r k
theorem zA5 (r:Nat→Int) (n v:Int) (h:0≤n):up r n v n.toNat=v:=by unfold up;rw [if_pos (by omega)]
theorem zvZ {r:Nat→Int} {n:Int} {rest:List D} {K:D→Prop} (h0:0≤n) (h1:n < 16) (h:K (.int .i64 (r n.toNat))) :
  zY (.int .i64 (r 0):: .int .i64 (r 1):: .int .i64 (r 2):: .int .i64 (r 3):: .int .i64 (r 4):: .int .i64 (r 5):: .int .i64 (r 6):: .int .i64 (r 7):: .int .i64 (r 8):: .int .i64 (r 9):: .int .i64 (r 10):: .int .i64 (r 11):: .int .i64 (r 12):: .int .i64 (r 13):: .int .i64 (r 14):: .int .i64 (r 15)::rest) ((0+n.toNat * 1:Nat):Int) K:=by
 refine ⟨by omega,.int .i64 (r n.toNat),?_,h⟩
 obtain ⟨k,rfl⟩:=Int.eq_ofNat_of_zero_le h0
 have hk:k < 16:=by omega
 simp only [Int.toNat_natCast,Nat.mul_one,Nat.zero_add]
 match k,hk with
 | 0,_ | 1,_ | 2,_ | 3,_ | 4,_ | 5,_ | 6,_ | 7,_ | 8,_ | 9,_ | 10,_ | 11,_ | 12,_ | 13,_ | 14,_ | 15,_=>rfl
theorem zsr {r:Nat→Int} {n v:Int} {rest:List D} {K:List D→Nat→Prop} (h0:0≤n) (h1:n < 16) (h:K (.int .i64 ((up r n v) 0):: .int .i64 ((up r n v) 1):: .int .i64 ((up r n v) 2):: .int .i64 ((up r n v) 3):: .int .i64 ((up r n v) 4):: .int .i64 ((up r n v) 5):: .int .i64 ((up r n v) 6):: .int .i64 ((up r n v) 7):: .int .i64 ((up r n v) 8):: .int .i64 ((up r n v) 9):: .int .i64 ((up r n v) 10):: .int .i64 ((up r n v) 11):: .int .i64 ((up r n v) 12):: .int .i64 ((up r n v) 13):: .int .i64 ((up r n v) 14):: .int .i64 ((up r n v) 15)::rest) (16+rest.length)) :
  zt (List.set (.int .i64 (r 0):: .int .i64 (r 1):: .int .i64 (r 2):: .int .i64 (r 3):: .int .i64 (r 4):: .int .i64 (r 5):: .int .i64 (r 6):: .int .i64 (r 7):: .int .i64 (r 8):: .int .i64 (r 9):: .int .i64 (r 10):: .int .i64 (r 11):: .int .i64 (r 12):: .int .i64 (r 13):: .int .i64 (r 14):: .int .i64 (r 15)::rest) (0+n.toNat * 1) (.int .i64 v)) K:=by
 unfold zt
 have e:List.set (.int .i64 (r 0):: .int .i64 (r 1):: .int .i64 (r 2):: .int .i64 (r 3):: .int .i64 (r 4):: .int .i64 (r 5):: .int .i64 (r 6):: .int .i64 (r 7):: .int .i64 (r 8):: .int .i64 (r 9):: .int .i64 (r 10):: .int .i64 (r 11):: .int .i64 (r 12):: .int .i64 (r 13):: .int .i64 (r 14):: .int .i64 (r 15)::rest) (0+n.toNat * 1) (.int .i64 v)=(.int .i64 ((up r n v) 0):: .int .i64 ((up r n v) 1):: .int .i64 ((up r n v) 2):: .int .i64 ((up r n v) 3):: .int .i64 ((up r n v) 4):: .int .i64 ((up r n v) 5):: .int .i64 ((up r n v) 6):: .int .i64 ((up r n v) 7):: .int .i64 ((up r n v) 8):: .int .i64 ((up r n v) 9):: .int .i64 ((up r n v) 10):: .int .i64 ((up r n v) 11):: .int .i64 ((up r n v) 12):: .int .i64 ((up r n v) 13):: .int .i64 ((up r n v) 14):: .int .i64 ((up r n v) 15)::rest):=by
  obtain ⟨k,rfl⟩:=Int.eq_ofNat_of_zero_le h0
  have hk:k < 16:=by omega
  simp only [Int.toNat_natCast,Nat.mul_one,Nat.zero_add]
  match k,hk with
  | 0,_ | 1,_ | 2,_ | 3,_ | 4,_ | 5,_ | 6,_ | 7,_ | 8,_ | 9,_ | 10,_ | 11,_ | 12,_ | 13,_ | 14,_ | 15,_=>rfl
 rw [e]
 refine cast ?_ h
 congr 1
 simp only [List.length_cons]
 omega
theorem zv0 {n:Int} {l:List D} {K:Prop} (h0:0≤n) (h1:n < 16) (hl:Nat.ble 16 l.length=true) (h:K):zx (0+n.toNat * 1 < l.length) K:=
 ⟨by have:=Nat.le_of_ble_eq_true hl;omega,h⟩
def inM (m:zW) (at_ size:Int):Bool:=decide (m.img.base≤at_∧at_ % size=0∧at_ - m.img.base≤m.img.bytes.length - size)
def xZ (m:zW) (at_:Int):Ins×Int:=if inM m at_ 2=true then xY (z1 m.img.bytes (at_ - m.img.base) 2) else (zjl,6)
def kq (op:Int):Bool:=decide (op=2∨(17≤op∧op≤22))
def vM (op:Int):Int:=match xE op with | some r=>r.shape | none=>0
def toM (i:Ins) (at_:Int):Int:=if vM i.op=4∨vM i.op=5∨vM i.op=7 then at_+4+2 * i.imm else if vM i.op=8 then (at_+4) - (at_+4) % 4+4 * i.imm else 0
def zbm (a b:Int):Int:=zD .and .i32 a b
def zeu (a b:Int):Int:=zD .or .i32 a b
def zcB (a b:Int):Int:=zD .xor .i32 a b
def xU (m:zW) (n v:Int):zW:={ m with r:=up m.r n v }
def zeO (m:zW) (t:Bool):zW:={ m with t:=t }
def wQ (m:zW) (i:Ins) (at_:Int):zW×Int:=
 if inM m (if i.op=26 then m.r i.m.toNat else toM i at_) (if i.op=23 then 2 else 4)=true then
  (xU m i.n (if i.op=23 then zg (zg (z1 m.img.bytes (toM i at_ - m.img.base) 2) 16) 32 else zg (z1 m.img.bytes ((if i.op=26 then m.r i.m.toNat else toM i at_) - m.img.base) 4) 32),0)
 else (m,3)
def zeP (m:zW) (i:Ins):zW×Int:=
 if inM m (m.r i.n.toNat) 4=true then ({ m with img:={ m.img with bytes:=yv m.img.bytes (m.r i.n.toNat - m.img.base) 4 (m.r i.m.toNat) } },0) else (m,3)
def zgl (m:zW) (i:Ins):zW:=
 let n:=m.r i.n.toNat
 let v:=m.r i.m.toNat
 if i.op=5 then xU m i.n v
 else if i.op=6 then xU m i.n (zg (n+v) 32)
 else if i.op=7 then xU m i.n (zg (n - v) 32)
 else if i.op=8 then xU m i.n (zbm n v)
 else if i.op=9 then xU m i.n (zeu n v)
 else if i.op=10 then xU m i.n (zcB n v)
 else if i.op=11 then zeO m (decide (zbm n v=0))
 else if i.op=12 then zeO m (decide (n=v))
 else if i.op=13 then zeO m (decide (n > v))
 else m
def ym (m:zW) (i:Ins) (at_:Int):zW×Int:=
 let n:=m.r i.n.toNat
 if i.op=3 then (xU m i.n i.imm,0)
 else if i.op=4 then (xU m i.n (zg (n+i.imm) 32),0)
 else if i.op=14 then (zeO (xU m i.n (zg (n * 2) 32)) (decide (n < 0)),0)
 else if i.op=15 then (zeO (xU m i.n (n % 4294967296 / 2)) (decide (n % 2=1)),0)
 else if i.op=16 then (zeO (xU m i.n (zg (n - 1) 32)) (decide (zg (n - 1) 32=0)),0)
 else if i.op=23∨i.op=24∨i.op=26 then wQ m i at_
 else if i.op=25 then zeP m i
 else if i.op=27 then ({ m with told:=m.told++[m.r 0] },0)
 else (zgl m i,0)
def wb (m:zW) (i:Ins):zW×Int×Bool:=
 if i.op=17 then (m,if m.t=true then toM i m.pc else m.pc+2,false)
 else if i.op=18 then (m,if m.t=true then m.pc+2 else toM i m.pc,false)
 else if i.op=2 then (m,m.pr,true)
 else if i.op=21 then (m,m.r i.n.toNat,true)
 else if i.op=22 then ({ m with pr:=m.pc+4 },m.r i.n.toNat,true)
 else if i.op=20 then ({ m with pr:=m.pc+4 },toM i m.pc,true)
 else (m,toM i m.pc,true)
def wR (m:zW) (to:Int):zW×Bool×Int:=
 let j:=xZ m (m.pc+2)
 if j.2≠0 then (wP,false,j.2)
 else if kq j.1.op=true∨j.1.op=27 then (wP,false,8)
 else let x:=ym m j.1 (m.pc+2)
  if x.2≠0 then (wP,false,x.2) else ({ x.1 with pc:=to },false,0)
def xV (m:zW):zW×Bool×Int:=
 let i:=xZ m m.pc
 if i.2≠0 then (wP,false,i.2)
 else
  let m1:zW:={ m with steps:=m.steps+1 }
  if i.1.op=27∧i.1.imm=0 then (m1,true,0)
  else if kq i.1.op=false then
   let x:=ym m1 i.1 m.pc
   if x.2≠0 then (wP,false,x.2) else ({ x.1 with pc:=x.1.pc+2 },false,0)
  else
   let l:=wb m1 i.1
   if l.2.2=true then wR l.1 l.2.1 else ({ l.1 with pc:=l.2.1 },false,0)
def wS:Nat→zW→zW×Int
 | 0,_=>(wP,13)
 | n+1,m=>let s:=xV m
  if s.2.2≠0 then (wP,s.2.2) else if s.2.1=true then (s.1,0) else wS n s.1
structure InM (k:Nat) (m:zW):Prop where
 regs:∀ j,j < 16→-2147483648≤m.r j∧m.r j≤2147483647
 pc: -5000000000 - 100000 * (k:Int)≤m.pc∧m.pc≤5000000000+100000 * (k:Int)
 pr: -5000000000 - 100000 * (k:Int)≤m.pr∧m.pr≤5000000000+100000 * (k:Int)
 base:0≤m.img.base∧m.img.base≤1048576
 len:m.img.bytes.length≤1048576
 syms:m.img.syms.length≤1048576
 told:m.told.length≤1048576+k
 steps:0≤m.steps∧m.steps≤1000000+k
theorem InM.mono {k j:Nat} {m:zW} (h:InM k m) (hk:k≤j):InM j m:=
 ⟨h.regs,by have:=h.pc;omega,by have:=h.pr;omega,h.base,h.len,h.syms,by have:=h.told;omega,by have:=h.steps;omega⟩
structure InI (i:Ins):Prop where
 n:0≤i.n∧i.n < 16
 m:0≤i.m∧i.m < 16
 imm: -4096≤i.imm∧i.imm≤4096
end Go.Proofs.YtnkdeacghopkiaaGreatDoor
namespace Go.Proofs.YtnkdeacghopkiaaGreatDoor
open Go Go.Plat
set_option linter.unusedVariables false
set_option linter.unusedSimpArgs false
set_option maxRecDepth 100000
theorem zv1 (n:Int):IntKind.i32.wrap n=zg n 32:=by
 have:zg n 32=if n % 4294967296 / 2147483648=1 then n % 4294967296 - 4294967296 else n % 4294967296:=rfl
 rw [this]
 have e:IntKind.i32.wrap n=if n % 4294967296 ≥ 2147483648 then n % 4294967296 - 4294967296 else n % 4294967296:=by
  simp only [IntKind.wrap,IntKind.signed,IntKind.bits,show (2:Int) ^ 32=4294967296 from rfl,show (2:Int) ^ (32 - 1)=2147483648 from rfl,Bool.true_and,decide_eq_true_eq]
 rw [e]
 split<;>split<;>omega
theorem zzl (n:Int):IntKind.u32.wrap n=n % 4294967296:=by simp [IntKind.wrap,IntKind.signed,IntKind.bits]
theorem zzm (n:Int):IntKind.u16.wrap n=n % 65536:=by simp [IntKind.wrap,IntKind.signed,IntKind.bits]
theorem zAz (n:Int):IntKind.i16.wrap n=zg n 16:=by
 have:zg n 16=if n % 65536 / 32768=1 then n % 65536 - 65536 else n % 65536:=rfl
 rw [this]
 have e:IntKind.i16.wrap n=if n % 65536 ≥ 32768 then n % 65536 - 65536 else n % 65536:=by
  simp only [IntKind.wrap,IntKind.signed,IntKind.bits,show (2:Int) ^ 16=65536 from rfl,show (2:Int) ^ (16 - 1)=32768 from rfl,Bool.true_and,decide_eq_true_eq]
 rw [e]
 split<;>split<;>omega
theorem zAA {n:Int} {K:D→Prop} (h:K (.int .i32 (zg n 32))):zG .i32 n K:=by unfold zG;rw [zv1];exact h
theorem zAB {n:Int} {K:D→Prop} (h:K (.int .u32 (n % 4294967296))):zG .u32 n K:=by unfold zG;rw [zzl];exact h
theorem zAC {n:Int} {K:D→Prop} (h:K (.int .u16 (n % 65536))):zG .u16 n K:=by unfold zG;rw [zzm];exact h
theorem zAD {n:Int} {K:D→Prop} (h:K (.int .i16 (zg n 16))):zG .i16 n K:=by unfold zG;rw [zAz];exact h
theorem zgm (n:Int): -2147483648≤zg n 32∧zg n 32≤2147483647:=by
 have:zg n 32=if n % 4294967296 / 2147483648=1 then n % 4294967296 - 4294967296 else n % 4294967296:=rfl
 rw [this]
 split<;>omega
theorem zBk {n:Int} (h1:0≤n) (h2:n≤65535):zg n 16=if n > 32767 then n - 65536 else n:=by
 have:zg n 16=if n % 65536 / 32768=1 then n % 65536 - 65536 else n % 65536:=rfl
 rw [this]
 split<;>split<;>omega
theorem zlZ (v:BitVec 64):IntKind.i64.wrap (v.toNat:Int)=v.toInt:=by
 have h:=v.isLt
 rw [BitVec.toInt_eq_toNat_cond]
 simp only [IntKind.wrap,IntKind.signed,IntKind.bits,show (2:Int) ^ 64=18446744073709551616 from rfl,show (2:Int) ^ (64 - 1)=9223372036854775808 from rfl,Bool.true_and,decide_eq_true_eq]
 have e:(2:Nat) ^ 64=18446744073709551616:=rfl
 rw [e] at h ⊢
 split<;>split<;>omega
theorem zl0 (v:BitVec 32):IntKind.i32.wrap (v.toNat:Int)=v.toInt:=by
 have h:=v.isLt
 rw [BitVec.toInt_eq_toNat_cond]
 simp only [IntKind.wrap,IntKind.signed,IntKind.bits,show (2:Int) ^ 32=4294967296 from rfl,show (2:Int) ^ (32 - 1)=2147483648 from rfl,Bool.true_and,decide_eq_true_eq]
 have e:(2:Nat) ^ 32=4294967296:=rfl
 rw [e] at h ⊢
 split<;>split<;>omega
theorem zbM {a:Int} (h1: -2147483648≤a) (h2:a≤2147483647):BitVec.ofInt 64 a=(BitVec.ofInt 32 a).signExtend 64:=by
 unfold BitVec.signExtend
 rw [BitVec.toInt_ofInt,Int.bmod_eq_of_le (by have:(2:Nat) ^ 32=4294967296:=rfl;omega) (by have:(2:Nat) ^ 32=4294967296:=rfl;omega)]
theorem zjB (v:BitVec 32):(v.signExtend 64).toInt=v.toInt:=by
 rw [BitVec.toInt_signExtend_of_le (by decide)]
section
variable {a b : Int} (ha1 : -2147483648 ≤ a) (ha2 : a ≤ 2147483647) (hb1 : -2147483648 ≤ b) (hb2 : b ≤ 2147483647)
include ha1 ha2 hb1 hb2
theorem zA6:zD .and .i64 a b=zbm a b:=by
 unfold zbm zD
 show IntKind.i64.wrap ((BitVec.ofInt 64 a &&& BitVec.ofInt 64 b).toNat:Int)=IntKind.i32.wrap ((BitVec.ofInt 32 a &&& BitVec.ofInt 32 b).toNat:Int)
 rw [zlZ,zl0,zbM ha1 ha2,zbM hb1 hb2,← BitVec.signExtend_and,zjB]
theorem zBl:zD .or .i64 a b=zeu a b:=by
 unfold zeu zD
 show IntKind.i64.wrap ((BitVec.ofInt 64 a ||| BitVec.ofInt 64 b).toNat:Int)=IntKind.i32.wrap ((BitVec.ofInt 32 a ||| BitVec.ofInt 32 b).toNat:Int)
 rw [zlZ,zl0,zbM ha1 ha2,zbM hb1 hb2,← BitVec.signExtend_or,zjB]
theorem zA7:zD .xor .i64 a b=zcB a b:=by
 unfold zcB zD
 show IntKind.i64.wrap ((BitVec.ofInt 64 a ^^^ BitVec.ofInt 64 b).toNat:Int)=IntKind.i32.wrap ((BitVec.ofInt 32 a ^^^ BitVec.ofInt 32 b).toNat:Int)
 rw [zlZ,zl0,zbM ha1 ha2,zbM hb1 hb2,← BitVec.signExtend_xor,zjB]
end
theorem zjC (op:BinOp) (a b:Int): -2147483648≤zD op .i32 a b∧zD op .i32 a b≤2147483647:=by
 unfold zD
 rw [zv1]
 exact zgm _
theorem zzn {a b:Int} (h1: -2147483648≤a∧a≤2147483647) (h2: -2147483648≤b∧b≤2147483647) {K:D→Prop} (h:K (.int .i64 (zbm a b))):yn .and .i64 a b K:=by
 unfold yn;rw [zA6 h1.1 h1.2 h2.1 h2.2];exact h
theorem zAE {a b:Int} (h1: -2147483648≤a∧a≤2147483647) (h2: -2147483648≤b∧b≤2147483647) {K:D→Prop} (h:K (.int .i64 (zeu a b))):yn .or .i64 a b K:=by
 unfold yn;rw [zBl h1.1 h1.2 h2.1 h2.2];exact h
theorem zzo {a b:Int} (h1: -2147483648≤a∧a≤2147483647) (h2: -2147483648≤b∧b≤2147483647) {K:D→Prop} (h:K (.int .i64 (zcB a b))):yn .xor .i64 a b K:=by
 unfold yn;rw [zA7 h1.1 h1.2 h2.1 h2.2];exact h
theorem zBm:(~~~ (3#64)).toNat=18446744073709551612:=by decide
theorem zv2 (x:Nat) (hx:x < 18446744073709551616):x &&& 18446744073709551612=x / 4 * 4:=by
 have e1:x / 4 * 4=(x >>> 2) <<< 2:=by rw [Nat.shiftRight_eq_div_pow,Nat.shiftLeft_eq]
 have e2:(18446744073709551612:Nat)=(2 ^ 62 - 1) <<< 2:=by decide
 rw [e1,e2]
 refine Nat.eq_of_testBit_eq fun i=>?_
 rw [Nat.testBit_and,Nat.testBit_shiftLeft,Nat.testBit_shiftLeft,Nat.testBit_shiftRight,Nat.testBit_two_pow_sub_one]
 by_cases hi:2≤i
 ·rw [show 2+(i - 2)=i by omega]
  by_cases h64:i - 2 < 62
  ·simp [hi,h64]
  ·have:x.testBit i=false:=Nat.testBit_lt_two_pow (Nat.lt_of_lt_of_le hx (show 2 ^ 64≤2 ^ i from Nat.pow_le_pow_right (by decide) (by omega)))
   simp [this]
 ·simp [hi]
theorem zAF {n:Int} (h1: -4611686018427387904≤n) (h2:n≤4611686018427387904):zD .andNot .i64 n 3=n - n % 4:=by
 unfold zD
 show IntKind.i64.wrap ((BitVec.ofInt 64 n &&& ~~~ (BitVec.ofInt 64 3)).toNat:Int)=_
 rw [show BitVec.ofInt 64 3=3#64 from rfl,BitVec.toNat_and,zBm,zv2 _ (BitVec.ofInt 64 n).isLt]
 have h3:=toNat_ofInt n
 simp only [IntKind.wrap,IntKind.signed,IntKind.bits,show (2:Int) ^ 64=18446744073709551616 from rfl,show (2:Int) ^ (64 - 1)=9223372036854775808 from rfl,Bool.true_and,decide_eq_true_eq]
 split<;>omega
end Go.Proofs.YtnkdeacghopkiaaGreatDoor
namespace Go.Proofs.YtnkdeacghopkiaaGreatDoor
open Go Go.Plat
set_option linter.unusedVariables false
set_option linter.unusedSimpArgs false
set_option maxRecDepth 100000
set_option maxHeartbeats 2000000
attribute [local irreducible] AWP zG yn zK zn yA z8 zI zY z6 zw za zN yB zt z7 yx yy yq yt zx zz zD xY z1 xE xc yv zg
theorem zdZ:za Tryz.prog zwG (zQ (fun ((m,at_,size):zW×Int×Int)=>InM 10000 m∧-4000000000000≤at_∧at_≤4000000000000∧(size=2∨size=4))
  (fun (m,at_,size)=>[.loc 0 0,.int .i64 at_,.int .i64 size]) (fun (m,_,_)=>[.cells (vj m)]) (fun (m,at_,size)=>.bool (inM m at_ size)) fun (m,_,_)=>[.cells (vj m)]):=by
 refine zf zh Tryz.func72 rfl (by decide) ?_
 rintro ⟨m,at_,size⟩ ⟨hm,h1,h2,hs⟩
 have hb:=hm.base
 have hl:=hm.len
 refine ⟨Nat.le_refl _,by simp [Tryz.f72],fun E hE=>?_⟩
 refine ze _ ?_
 (all_goals refine qgv ?_<;>(repeat' first | exact trivial | intro hc | refine And.intro ?_ ?_)<;>refine Lf.mk ?_)
 ·refine vH (r1:=.bool (inM m at_ size)) (LeD.of_eq (congrArg D.bool ?_)) (ya ?_) (Nat.le_refl _)
  ·exact decide_eq_decide.2 ⟨fun h=>⟨by assumption,by assumption,h⟩,fun h=>h.2.2⟩
  ·(repeat' (first | (refine VS.mk ?_) | exact trivial | exact rfl | refine And.intro ?_ ?_))
 ·refine vH (r1:=.bool (inM m at_ size)) (LeD.ff (decide_eq_false fun h=>hc h.2.1)) (ya ?_) (Nat.le_refl _)
  (repeat' (first | (refine VS.mk ?_) | exact trivial | exact rfl | refine And.intro ?_ ?_))
 ·refine vH (r1:=.bool (inM m at_ size)) (LeD.ff (decide_eq_false fun h=>hc h.1)) (ya ?_) (Nat.le_refl _)
  (repeat' (first | (refine VS.mk ?_) | exact trivial | exact rfl | refine And.intro ?_ ?_))
theorem zhF {m:zW} {a s:Int}:inM m a s=true↔(m.img.base≤a∧a % s=0∧a - m.img.base≤m.img.bytes.length - s):=by unfold inM;exact decide_eq_true_iff
attribute [local irreducible] inM
theorem zeQ:za Tryz.prog zqY (zQ (fun ((m,at_):zW×Int)=>InM 10000 m∧-4000000000000≤at_∧at_≤4000000000000)
  (fun (m,at_)=>[.loc 0 0,.int .i64 at_]) (fun (m,_)=>[.cells (vj m)]) (fun (m,at_)=>.tup [zaB (xZ m at_).1,.int .i64 (xZ m at_).2]) fun (m,_)=>[.cells (vj m)]):=by
 refine zf zh Tryz.func50 rfl (by decide) ?_
 rintro ⟨m,at_⟩ ⟨hm,h1,h2⟩
 have hb:=hm.base
 have hl:=hm.len
 refine ⟨Nat.le_refl _,by simp [Tryz.f50],fun E hE=>?_⟩
 refine ze _ ?_
 (all_goals refine qgv (Lf.mk ?_))
 refine zu zdZ [0] [0] (m,at_,2) ⟨hm,h1,h2,.inl rfl⟩ rfl rfl ?_
 refine And.intro (VS.mk (LeL.of_eq rfl)) (And.intro (VS.mk rfl) ?_)
 (all_goals refine qgv ?_<;>(repeat' first | exact trivial | intro hc | refine And.intro ?_ ?_)<;>refine Lf.mk ?_)
 ·have hf:xZ m at_=(zjl,6):=by unfold xZ;rw [if_neg (by rw [hc];decide)]
  refine yT [0] rfl rfl ?_
  (repeat' (first | (refine VS.mk ?_) | exact trivial | exact rfl | refine And.intro ?_ ?_))
  all_goals (dsimp only;rw [hf];rfl)
 ·have hf:xZ m at_=xY (z1 m.img.bytes (at_ - m.img.base) 2):=by unfold xZ;rw [if_pos hc]
  have hin:m.img.base≤at_∧at_ % 2=0∧at_ - m.img.base≤m.img.bytes.length - 2:=zhF.1 hc
  refine zb v7 (m.img.bytes,at_ - m.img.base,2) ⟨by omega,by omega,by decide⟩ (VS.mk (by (first | exact LeL.refl _ | (repeat' (first | exact LeL.nil | exact LeD.refl _ | exact LeD.nil _ | exact LeD.strip _ _ _ | refine LeL.cons ?_ ?_ | refine LeD.tup ?_ | refine LeD.agg ?_))))) ?_
  (all_goals refine qgv (Lf.mk ?_))
  refine zb zpm (z1 m.img.bytes (at_ - m.img.base) 2) trivial (VS.mk (by (first | exact LeL.refl _ | (repeat' (first | exact LeL.nil | exact LeD.refl _ | exact LeD.nil _ | exact LeD.strip _ _ _ | refine LeL.cons ?_ ?_ | refine LeD.tup ?_ | refine LeD.agg ?_))))) ?_
  (all_goals refine qgv (Lf.mk ?_))
  refine yT [0] rfl rfl ?_
  (repeat' (first | (refine VS.mk ?_) | exact trivial | exact rfl | refine And.intro ?_ ?_))
  all_goals (dsimp only;rw [hf];try rfl)
theorem zeR:za Tryz.prog zqZ (zy (fun _:Int=>True) (fun op=>[.int .i64 op]) fun op=>.bool (kq op)):=by
 refine zf zh Tryz.func51 rfl (by decide) fun op _=>?_
 refine ⟨Nat.le_refl _,by simp [Tryz.f51],fun E hE=>?_⟩
 refine ze _ ?_
 (all_goals refine qgv ?_<;>(repeat' first | exact trivial | intro hc | refine And.intro ?_ ?_)<;>refine Lf.mk ?_)
 all_goals (refine zd (VS.mk ?_))
 all_goals first
  | exact LeD.tt (decide_eq_true (by omega))
  | exact LeD.ff (decide_eq_false (by omega))
  | exact LeD.of_eq (congrArg D.bool (decide_eq_decide.2 (by omega)))
theorem ziR:za Tryz.prog zqT (zy (fun i:jw=>i.bytes.length≤1048576∧i.syms.length≤1048576) (fun i=>[zf3 i]) zf3):=by
 refine zf zh Tryz.func32 rfl (by decide) ?_
 rintro i ⟨h1,h2⟩
 refine ⟨Nat.le_refl _,by simp [Tryz.f32],fun E hE=>?_⟩
 refine ze _ ?_
 (all_goals refine qgv (Lf.mk ?_))
 refine zb qi (i.bytes.map zC) ⟨by simp;omega,fun i d hd=>?_⟩ (VS.mk (LeL.of_eq rfl)) ?_
 ·obtain ⟨c,_,rfl⟩:=List.mem_map.1 (List.mem_of_getElem? hd);rfl
 (all_goals refine qgv (Lf.mk ?_))
 refine zb zpo (i.syms.map yH) ⟨by simp;omega,fun i d hd=>?_⟩ (VS.mk (LeL.of_eq rfl)) ?_
 ·obtain ⟨c,_,rfl⟩:=List.mem_map.1 (List.mem_of_getElem? hd);rfl
 (all_goals refine qgv (Lf.mk ?_))
 exact zd (VS.mk (LeD.of_eq rfl))
def zaD (i:jw):zW:=⟨fun _=>0,false,i.base, -1,i,[],0⟩
theorem zmW:za Tryz.prog zuD (zy (fun i:jw=>i.bytes.length≤1048576∧i.syms.length≤1048576) (fun i=>[zf3 i]) fun i=>zbl (zaD i)):=by
 refine zf zh Tryz.func16 rfl (by decide) ?_
 rintro i ⟨h1,h2⟩
 refine ⟨Nat.le_refl _,by simp [Tryz.f16],fun E hE=>?_⟩
 refine ze _ ?_
 (all_goals refine qgv (Lf.mk ?_))
 refine zb ziR i ⟨h1,h2⟩ (VS.mk (LeL.of_eq rfl)) ?_
 (all_goals refine qgv (Lf.mk ?_))
 refine zd (VS.mk ?_)
 (first | exact LeL.refl _ | (repeat' (first | exact LeL.nil | exact LeD.refl _ | exact LeD.nil _ | exact LeD.strip _ _ _ | refine LeL.cons ?_ ?_ | refine LeD.tup ?_ | refine LeD.agg ?_)))
 all_goals first | exact LeD.ff rfl | skip
theorem zk4:za Tryz.prog zuE (zy (fun m:zW=>m.img.bytes.length≤1048576∧m.img.syms.length≤1048576∧m.told.length≤2000000) (fun m=>[zbl m]) zbl):=by
 refine zf zh Tryz.func30 rfl (by decide) ?_
 rintro m ⟨h1,h2,h3⟩
 refine ⟨Nat.le_refl _,by simp [Tryz.f30],fun E hE=>?_⟩
 refine ze _ ?_
 (all_goals refine qgv (Lf.mk ?_))
 refine zb ziR m.img ⟨h1,h2⟩ (VS.mk (LeL.of_eq rfl)) ?_
 (all_goals refine qgv (Lf.mk ?_))
 refine zb zpn (m.told.map zi7) ⟨by simp;omega,fun i d hd=>?_⟩ (VS.mk (LeL.of_eq rfl)) ?_
 ·obtain ⟨c,_,rfl⟩:=List.mem_map.1 (List.mem_of_getElem? hd);rfl
 (all_goals refine qgv (Lf.mk ?_))
 exact zd (VS.mk (LeD.of_eq rfl))
end Go.Proofs.YtnkdeacghopkiaaGreatDoor
namespace Go.Proofs.YtnkdeacghopkiaaGreatDoor
open Go Go.Plat
set_option linter.unusedVariables false
set_option linter.unusedSimpArgs false
set_option maxRecDepth 100000
set_option maxHeartbeats 2000000
attribute [local irreducible] AWP zG yn zK zn yA z8 zI zY z6 zw za zN yB zt z7 yx yy yq yt zx zz zD
attribute [local irreducible] xY zho qY vV zbW xE xc zeK zg xf
attribute [local irreducible] zlr
end Go.Proofs.YtnkdeacghopkiaaGreatDoor
namespace Go.Proofs.YtnkdeacghopkiaaGreatDoor
open Go Go.Plat
set_option linter.unusedVariables false
set_option linter.unusedSimpArgs false
set_option maxRecDepth 100000
set_option maxHeartbeats 2000000
attribute [local irreducible] AWP zG yn zK zn yA z8 zI zY z6 zw za zN yB zt z7 yx yy yq yt zx zz zD zho xE xc
attribute [local irreducible] zlr xY qY vV zbW zeK zg xf
end Go.Proofs.YtnkdeacghopkiaaGreatDoor
namespace Go.Proofs.YtnkdeacghopkiaaGreatDoor
open Go Go.Plat
set_option linter.unusedVariables false
set_option linter.unusedSimpArgs false
set_option maxRecDepth 100000
set_option maxHeartbeats 2000000
attribute [local irreducible] AWP zG yn zK zn yA z8 zI zY z6 zw za zN yB zt z7 yx yy yq yt zx zz zD
attribute [local irreducible] zho zbW xE xc zeK zg
end Go.Proofs.YtnkdeacghopkiaaGreatDoor
namespace Go.Proofs.YtnkdeacghopkiaaGreatDoor
open Go Go.Plat
set_option linter.unusedVariables false
set_option linter.unusedSimpArgs false
set_option maxRecDepth 100000
set_option maxHeartbeats 2000000
attribute [local irreducible] AWP zG yn zK zn yA z8 zI zY z6 zw za zN yB zt z7 yx yy yq yt zx zz zD zho xE xc
end Go.Proofs.YtnkdeacghopkiaaGreatDoor
namespace Go.Proofs.YtnkdeacghopkiaaGreatDoor
open Go Go.Plat
set_option linter.unusedVariables false
set_option linter.unusedSimpArgs false
set_option maxRecDepth 100000
set_option maxHeartbeats 2000000
attribute [local irreducible] AWP zG yn zK zn yA z8 zI zY z6 zw za zN yB zt z7 yx yy yq yt zx zz zD xY z1 inM xE xc yv vM zg
def ldM (i:Ins):Bool:=decide (vM i.op=4∨vM i.op=5∨vM i.op=7∨vM i.op=8)
theorem zt1 {op:Int} {r:zbF} (h:xE op=some r):vM op=r.shape:=by unfold vM;rw [h]
theorem zt2 {op:Int} (h:xE op=none):vM op=0:=by unfold vM;rw [h]
theorem zt3 (op:Int):∃ s,jO op= .tup [.str s,.int .i64 (vM op)]:=by
 unfold jO
 cases h:xE op with
 | none=>exact ⟨[],by rw [zt2 h]⟩
 | some r=>exact ⟨r.name,by rw [zt1 h]⟩
theorem zv3 {n:Int} (h1: -4611686018427387904≤n) (h2:n≤4611686018427387904) {K:D→Prop} (h:K (.int .i64 (n - n % 4))):yn .andNot .i64 n 3 K:=by
 unfold yn;rw [zAF h1 h2];exact h
theorem zqj:za Tryz.prog zwH (zy (fun ((i,at_):Ins×Int)=>-4096≤i.imm∧i.imm≤4096∧-4000000000000≤at_∧at_≤4000000000000) (fun (i,at_)=>[zaB i,.int .i64 at_]) fun (i,at_)=>.tup [.int .i64 (toM i at_),.bool (ldM i)]):=by
 refine zf zh Tryz.func76 rfl (by decide) ?_
 rintro ⟨i,at_⟩ ⟨h1,h2,h3,h4⟩
 refine ⟨Nat.le_refl _,by simp [Tryz.f76],fun E hE=>?_⟩
 refine ze _ ?_
 (all_goals refine qgv (Lf.mk ?_))
 refine zb zc9 i.op trivial (VS.mk (LeL.of_eq rfl)) ?_
 obtain ⟨s,hs⟩:=zt3 i.op
 rw [hs]
 (all_goals refine qgv ?_<;>(repeat' first | exact trivial | intro hc | refine And.intro ?_ ?_)<;>refine Lf.mk ?_)
 any_goals (refine zv3 (by omega) (by omega) ?_)
 (all_goals refine qgv (Lf.mk ?_))
 all_goals (refine zd (VS.mk (LeD.tup (.cons (LeD.of_eq (congrArg (D.int .i64) ?_)) (.cons ?_ .nil)))))
 all_goals first
  | exact LeD.tt (decide_eq_true (by omega))
  | exact LeD.ff (decide_eq_false (by omega))
  | (unfold toM;rw [if_pos (by omega)];done)
  | (unfold toM;rw [if_neg (by omega),if_pos (by omega)];done)
  | (unfold toM;rw [if_neg (by omega),if_neg (by omega)];done)
end Go.Proofs.YtnkdeacghopkiaaGreatDoor
namespace Go.Proofs.YtnkdeacghopkiaaGreatDoor
open Go Go.Plat
set_option linter.unusedVariables false
set_option linter.unusedSimpArgs false
set_option maxRecDepth 100000
set_option maxHeartbeats 2000000
attribute [local irreducible] AWP zG yn zK zn yA z8 zI zY z6 zw za zN yB zt z7 yx yy yq yt zx zz zD xY inM xE xc yv vM zg up
theorem zv4 {i:Ins} {a:Int} (h1: -4096≤i.imm) (h2:i.imm≤4096):a - 20000≤toM i a∧toM i a≤a+20000∨toM i a=0:=by
 unfold toM
 split
 ·exact .inl ⟨by omega,by omega⟩
 split
 ·exact .inl ⟨by omega,by omega⟩
 ·exact .inr rfl
theorem zxF (b:List UInt8) (a:Int):0≤z1 b a 2∧z1 b a 2≤65535:=by
 have h0:=kx b (a+(0:Nat));have h1:=kx b (a+(1:Nat))
 simp only [z1];omega
theorem ixr {i:Ins} (h:0≤i.n∧i.n < 16) {m:zW} {k:Nat} (hm:InM k m): -2147483648≤m.r i.n.toNat∧m.r i.n.toNat≤2147483647:=hm.regs _ (by omega)
theorem ixm {i:Ins} (h:0≤i.m∧i.m < 16) {m:zW} {k:Nat} (hm:InM k m): -2147483648≤m.r i.m.toNat∧m.r i.m.toNat≤2147483647:=hm.regs _ (by omega)
attribute [local irreducible] z1 toM ldM
theorem zgn:za Tryz.prog zs8 (zQ (fun ((m,i,at_):zW×Ins×Int)=>InM 10000 m∧InI i∧-2000000000000≤at_∧at_≤2000000000000)
  (fun (m,i,at_)=>[.loc 0 0,zaB i,.int .i64 at_]) (fun (m,_,_)=>[.cells (vj m)]) (fun (m,i,at_)=>.int .i64 (wQ m i at_).2) fun (m,i,at_)=>[.cells (vj (wQ m i at_).1)]):=by
 refine zf zh Tryz.func74 rfl (by decide) ?_
 rintro ⟨m,i,at_⟩ ⟨hm,hi,h1,h2⟩
 obtain ⟨n0,n1⟩:=hi.n
 obtain ⟨m0,m1⟩:=hi.m
 obtain ⟨q0,q1⟩:=hi.imm
 have hb:=hm.base
 have hl:=hm.len
 have hrm:=ixm hi.m hm
 have hto:=zv4 (a:=at_) q0 q1
 refine ⟨Nat.le_refl _,by simp [Tryz.f74],fun E hE=>?_⟩
 refine ze _ ?_
 (all_goals refine qgv (Lf.mk ?_))
 refine zb zqj (i,at_) ⟨q0,q1,by omega,by omega⟩ (VS.mk (LeL.of_eq rfl)) ?_
 (all_goals refine qgv ?_<;>(repeat' first | exact trivial | intro hc | refine And.intro ?_ ?_)<;>refine Lf.mk ?_)
 ·refine zu zdZ [0] [0] (m,m.r i.m.toNat,4) ⟨hm,by omega,by omega,by decide⟩ rfl rfl ?_
  refine And.intro (VS.mk (LeL.of_eq rfl)) (And.intro (VS.mk rfl) ?_)
  have hF:(if i.op=26 then m.r i.m.toNat else toM i at_)=m.r i.m.toNat:=if_pos (by assumption)
  have hS:(if i.op=23 then (2:Int) else 4)=4:=if_neg (by assumption)
  (all_goals refine qgv ?_<;>(repeat' first | exact trivial | intro hc | refine And.intro ?_ ?_)<;>refine Lf.mk ?_)
  ·have hL:wQ m i at_=(m,3):=by unfold wQ;rw [hF,hS,if_neg (by rw [hc];decide)]
   refine yT [0] rfl rfl ?_
   (repeat' (first | (refine VS.mk ?_) | exact trivial | exact rfl | refine And.intro ?_ ?_))
   all_goals (dsimp only;rw [hL];try rfl)
  have hin:=zhF.1 (show inM m (m.r i.m.toNat) 4=true from hc)
  refine zb v7 (m.img.bytes,m.r i.m.toNat - m.img.base,4) ⟨by omega,by omega,by decide⟩ (VS.mk (by (first | exact LeL.refl _ | (repeat' (first | exact LeL.nil | exact LeD.refl _ | exact LeD.nil _ | exact LeD.strip _ _ _ | refine LeL.cons ?_ ?_ | refine LeD.tup ?_ | refine LeD.agg ?_))))) ?_
  (all_goals refine qgv ?_<;>(repeat' first | exact trivial | intro hc | refine And.intro ?_ ?_)<;>refine Lf.mk ?_)
  refine zb yC (z1 m.img.bytes (m.r i.m.toNat - m.img.base) 4) trivial (VS.mk (LeL.of_eq rfl)) ?_
  have hL:wQ m i at_=(xU m i.n (zg (z1 m.img.bytes (m.r i.m.toNat - m.img.base) 4) 32),0):=by unfold wQ;rw [hF,hS,if_pos (by assumption),if_neg (by assumption)]
  (all_goals refine qgv (Lf.mk ?_))
  refine yT [0] rfl rfl ?_
  (repeat' (first | (refine VS.mk ?_) | exact trivial | exact rfl | refine And.intro ?_ ?_))
  all_goals (dsimp only;rw [hL];try rfl)
 ·refine zu zdZ [0] [0] (m,toM i at_,2) ⟨hm,by omega,by omega,by decide⟩ rfl rfl ?_
  refine And.intro (VS.mk (LeL.of_eq rfl)) (And.intro (VS.mk rfl) ?_)
  have hF:(if i.op=26 then m.r i.m.toNat else toM i at_)=toM i at_:=if_neg (by assumption)
  have hS:(if i.op=23 then (2:Int) else 4)=2:=if_pos (by assumption)
  (all_goals refine qgv ?_<;>(repeat' first | exact trivial | intro hc | refine And.intro ?_ ?_)<;>refine Lf.mk ?_)
  ·have hL:wQ m i at_=(m,3):=by unfold wQ;rw [hF,hS,if_neg (by rw [hc];decide)]
   refine yT [0] rfl rfl ?_
   (repeat' (first | (refine VS.mk ?_) | exact trivial | exact rfl | refine And.intro ?_ ?_))
   all_goals (dsimp only;rw [hL];try rfl)
  have hin:=zhF.1 (show inM m (toM i at_) 2=true from hc)
  refine zb v7 (m.img.bytes,toM i at_ - m.img.base,2) ⟨by omega,by omega,by decide⟩ (VS.mk (by (first | exact LeL.refl _ | (repeat' (first | exact LeL.nil | exact LeD.refl _ | exact LeD.nil _ | exact LeD.strip _ _ _ | refine LeL.cons ?_ ?_ | refine LeD.tup ?_ | refine LeD.agg ?_))))) ?_
  have hg2:=zxF m.img.bytes (toM i at_ - m.img.base)
  have hL:wQ m i at_=(xU m i.n (zg (zg (z1 m.img.bytes (toM i at_ - m.img.base) 2) 16) 32),0):=by unfold wQ;rw [hF,hS,if_pos (by assumption),if_pos (by assumption)]
  have h16:=zBk hg2.1 hg2.2
  rw [h16] at hL
  (all_goals refine qgv ?_<;>(repeat' first | exact trivial | intro hc | refine And.intro ?_ ?_)<;>refine Lf.mk ?_)
  any_goals (first | (exfalso;exact hc trivial) | skip)
  ·refine zb yC (z1 m.img.bytes (toM i at_ - m.img.base) 2 - 65536) trivial (VS.mk (LeL.of_eq rfl)) ?_
   rw [if_pos (by omega)] at hL
   (all_goals refine qgv (Lf.mk ?_))
   refine yT [0] rfl rfl ?_
   (repeat' (first | (refine VS.mk ?_) | exact trivial | exact rfl | refine And.intro ?_ ?_))
   all_goals (dsimp only;rw [hL];try rfl)
  ·refine zb yC (z1 m.img.bytes (toM i at_ - m.img.base) 2) trivial (VS.mk (LeL.of_eq rfl)) ?_
   rw [if_neg (by omega)] at hL
   (all_goals refine qgv (Lf.mk ?_))
   refine yT [0] rfl rfl ?_
   (repeat' (first | (refine VS.mk ?_) | exact trivial | exact rfl | refine And.intro ?_ ?_))
   all_goals (dsimp only;rw [hL];try rfl)
 ·refine zu zdZ [0] [0] (m,toM i at_,4) ⟨hm,by omega,by omega,by decide⟩ rfl rfl ?_
  refine And.intro (VS.mk (LeL.of_eq rfl)) (And.intro (VS.mk rfl) ?_)
  have hF:(if i.op=26 then m.r i.m.toNat else toM i at_)=toM i at_:=if_neg (by assumption)
  have hS:(if i.op=23 then (2:Int) else 4)=4:=if_neg (by assumption)
  (all_goals refine qgv ?_<;>(repeat' first | exact trivial | intro hc | refine And.intro ?_ ?_)<;>refine Lf.mk ?_)
  ·have hL:wQ m i at_=(m,3):=by unfold wQ;rw [hF,hS,if_neg (by rw [hc];decide)]
   refine yT [0] rfl rfl ?_
   (repeat' (first | (refine VS.mk ?_) | exact trivial | exact rfl | refine And.intro ?_ ?_))
   all_goals (dsimp only;rw [hL];try rfl)
  have hin:=zhF.1 (show inM m (toM i at_) 4=true from hc)
  refine zb v7 (m.img.bytes,toM i at_ - m.img.base,4) ⟨by omega,by omega,by decide⟩ (VS.mk (by (first | exact LeL.refl _ | (repeat' (first | exact LeL.nil | exact LeD.refl _ | exact LeD.nil _ | exact LeD.strip _ _ _ | refine LeL.cons ?_ ?_ | refine LeD.tup ?_ | refine LeD.agg ?_))))) ?_
  (all_goals refine qgv ?_<;>(repeat' first | exact trivial | intro hc | refine And.intro ?_ ?_)<;>refine Lf.mk ?_)
  refine zb yC (z1 m.img.bytes (toM i at_ - m.img.base) 4) trivial (VS.mk (LeL.of_eq rfl)) ?_
  have hL:wQ m i at_=(xU m i.n (zg (z1 m.img.bytes (toM i at_ - m.img.base) 4) 32),0):=by unfold wQ;rw [hF,hS,if_pos (by assumption),if_neg (by assumption)]
  (all_goals refine qgv (Lf.mk ?_))
  refine yT [0] rfl rfl ?_
  (repeat' (first | (refine VS.mk ?_) | exact trivial | exact rfl | refine And.intro ?_ ?_))
  all_goals (dsimp only;rw [hL];try rfl)
attribute [local irreducible] zbm zeu zcB
theorem zzp {n:Int}:zD .and .i64 n 4294967295=n % 4294967296:=kL (k:=32) (by decide) (by decide)
theorem zt4:za Tryz.prog zuH (zQ (fun ((m,i):zW×Ins)=>InM 10000 m∧InI i)
  (fun (m,i)=>[.loc 0 0,zaB i]) (fun (m,_)=>[.cells (vj m)]) (fun _=>.tup []) fun (m,i)=>[.cells (vj (zgl m i))]):=by
 refine zf zh Tryz.func75 rfl (by decide) ?_
 rintro ⟨m,i⟩ ⟨hm,hi⟩
 obtain ⟨n0,n1⟩:=hi.n
 obtain ⟨m0,m1⟩:=hi.m
 have hrm:=ixm hi.m hm
 have hrn:=ixr hi.n hm
 refine ⟨Nat.le_refl _,by simp [Tryz.f75],fun E hE=>?_⟩
 refine ze _ ?_
 (all_goals refine zbz ?_<;>(repeat' first | exact trivial | intro hc | refine And.intro ?_ ?_)<;>refine Lf.mk ?_)
 all_goals try (refine zb yC _ trivial (VS.mk (LeL.of_eq rfl)) ?_)
 (all_goals refine zbz (Lf.mk ?_))
 all_goals first
  | (dsimp only;refine yT [0] rfl rfl ?_;(repeat' (first | (refine VS.mk ?_) | exact trivial | exact rfl | refine And.intro ?_ ?_));all_goals (unfold zgl;dsimp only;(repeat (first | (rw [if_pos (by assumption)]) | (rw [if_neg (by assumption)])));try rfl);done)
  | skip
theorem znz:za Tryz.prog zac (zQ (fun ds:List D=>ds.length≤100000000∧∀ (i:Nat) d,ds[i]?=some d→d.cells.length=1) (fun ds=>[.sl 1 ds none]) (fun _=>[]) (fun ds=>.sl 1 ds (some 0)) fun ds=>[.spare ds.length]):=by
 refine zf zh Tryz.func49 rfl (by decide) ?_
 rintro ds ⟨hds,hlen⟩
 refine ⟨by simp,by simp [Tryz.f49],fun E hE=>?_⟩
 refine ze _ ?_
 (all_goals refine qgo (Lf.mk ?_))
 refine zgP (fun h=>?_) ?_
 ·subst h
  (all_goals refine qgo (Lf.mk ?_))
  refine zyq (e:=1) (ya (r:=.sl 1 [] (some 0)) ?_) (by decide)
  (repeat' (first | (refine VS.mk ?_) | exact trivial | exact rfl | refine And.intro ?_ ?_))
 (all_goals refine qgo (Lf.mk ?_))
 refine ya ?_
 (repeat' (first | (refine VS.mk ?_) | exact trivial | exact rfl | refine And.intro ?_ ?_))
theorem zb4:za Tryz.prog zq0 (zQ (fun ((m,i,at_):zW×Ins×Int)=>InM 10000 m∧InI i∧-2000000000000≤at_∧at_≤2000000000000)
  (fun (m,i,at_)=>[.loc 0 0,zaB i,.int .i64 at_]) (fun (m,_,_)=>[.cells (vj m)]) (fun (m,i,at_)=>.int .i64 (ym m i at_).2) fun (m,i,at_)=>[.cells (vj (ym m i at_).1)]):=by
 refine zf zh Tryz.func52 rfl (by decide) ?_
 rintro ⟨m,i,at_⟩ ⟨hm,hi,h1,h2⟩
 obtain ⟨n0,n1⟩:=hi.n
 obtain ⟨m0,m1⟩:=hi.m
 obtain ⟨q0,q1⟩:=hi.imm
 have hrm:=ixm hi.m hm
 have hrn:=ixr hi.n hm
 have hr0:=hm.regs 0 (by decide)
 have htold:=hm.told
 have hb:=hm.base
 have hl:=hm.len
 refine ⟨Nat.le_refl _,by simp [Tryz.f52],fun E hE=>?_⟩
 refine ze _ ?_
 (all_goals refine zbz ?_<;>(repeat' first | exact trivial | intro hc | refine And.intro ?_ ?_)<;>refine Lf.mk ?_)
 ·have hP:ym m i at_=(xU m i.n i.imm,0):=by unfold ym;(repeat (first | (rw [if_pos (by assumption)]) | (rw [if_neg (by assumption)])))
  dsimp only;rw [hP]
  refine yT [0] rfl rfl ?_
  (repeat' (first | (refine VS.mk ?_) | exact trivial | exact rfl | refine And.intro ?_ ?_))
 ·have hP:ym m i at_=(xU m i.n (zg (m.r i.n.toNat+i.imm) 32),0):=by unfold ym;dsimp only;(repeat (first | (rw [if_pos (by assumption)]) | (rw [if_neg (by assumption)])))
  refine zb yC (m.r i.n.toNat+i.imm) trivial (VS.mk (LeL.of_eq rfl)) ?_
  (all_goals refine zbz (Lf.mk ?_))
  dsimp only;rw [hP]
  refine yT [0] rfl rfl ?_
  (repeat' (first | (refine VS.mk ?_) | exact trivial | exact rfl | refine And.intro ?_ ?_))
 ·have hP:ym m i at_=(zeO (xU m i.n (zg (m.r i.n.toNat * 2) 32)) (decide (m.r i.n.toNat < 0)),0):=by unfold ym;dsimp only;(repeat (first | (rw [if_pos (by assumption)]) | (rw [if_neg (by assumption)])))
  refine zb yC (m.r i.n.toNat * 2) trivial (VS.mk (LeL.of_eq rfl)) ?_
  (all_goals refine zbz (Lf.mk ?_))
  dsimp only;rw [hP]
  refine yT [0] rfl rfl ?_
  (repeat' (first | (refine VS.mk ?_) | exact trivial | exact rfl | refine And.intro ?_ ?_))
 ·have hP:ym m i at_=(zeO (xU m i.n (m.r i.n.toNat % 4294967296 / 2)) (decide (m.r i.n.toNat % 2=1)),0):=by unfold ym;dsimp only;(repeat (first | (rw [if_pos (by assumption)]) | (rw [if_neg (by assumption)])))
  dsimp only;rw [hP]
  refine yT [0] rfl rfl ?_
  (repeat' (first | (refine VS.mk ?_) | exact trivial | exact rfl | refine And.intro ?_ ?_))
 ·have hP:ym m i at_=(zeO (xU m i.n (zg (m.r i.n.toNat - 1) 32)) (decide (zg (m.r i.n.toNat - 1) 32=0)),0):=by unfold ym;dsimp only;(repeat (first | (rw [if_pos (by assumption)]) | (rw [if_neg (by assumption)])))
  refine zb yC (m.r i.n.toNat - 1) trivial (VS.mk (LeL.of_eq rfl)) ?_
  (all_goals refine zbz (Lf.mk ?_))
  rw [zA5 _ _ _ n0]
  dsimp only;rw [hP]
  refine yT [0] rfl rfl ?_
  (repeat' (first | (refine VS.mk ?_) | exact trivial | exact rfl | refine And.intro ?_ ?_))
 ·have hP:ym m i at_=wQ m i at_:=by unfold ym;dsimp only;rw [if_neg (by omega),if_neg (by omega),if_neg (by omega),if_neg (by omega),if_neg (by omega),if_pos (by omega)]
  refine zu zgn [0] [0] (m,i,at_) ⟨hm,hi,h1,h2⟩ rfl rfl ?_
  refine And.intro (VS.mk (LeL.of_eq rfl)) (And.intro (VS.mk rfl) ?_)
  (all_goals refine zbz (Lf.mk ?_))
  dsimp only;rw [hP]
  refine yT [0] rfl rfl ?_
  (repeat' (first | (refine VS.mk ?_) | exact trivial | exact rfl | refine And.intro ?_ ?_))
 ·have hP:ym m i at_=wQ m i at_:=by unfold ym;dsimp only;rw [if_neg (by omega),if_neg (by omega),if_neg (by omega),if_neg (by omega),if_neg (by omega),if_pos (by omega)]
  refine zu zgn [0] [0] (m,i,at_) ⟨hm,hi,h1,h2⟩ rfl rfl ?_
  refine And.intro (VS.mk (LeL.of_eq rfl)) (And.intro (VS.mk rfl) ?_)
  (all_goals refine zbz (Lf.mk ?_))
  dsimp only;rw [hP]
  refine yT [0] rfl rfl ?_
  (repeat' (first | (refine VS.mk ?_) | exact trivial | exact rfl | refine And.intro ?_ ?_))
 ·have hP:ym m i at_=wQ m i at_:=by unfold ym;dsimp only;rw [if_neg (by omega),if_neg (by omega),if_neg (by omega),if_neg (by omega),if_neg (by omega),if_pos (by omega)]
  refine zu zgn [0] [0] (m,i,at_) ⟨hm,hi,h1,h2⟩ rfl rfl ?_
  refine And.intro (VS.mk (LeL.of_eq rfl)) (And.intro (VS.mk rfl) ?_)
  (all_goals refine zbz (Lf.mk ?_))
  dsimp only;rw [hP]
  refine yT [0] rfl rfl ?_
  (repeat' (first | (refine VS.mk ?_) | exact trivial | exact rfl | refine And.intro ?_ ?_))
 ·have hP:ym m i at_=zeP m i:=by unfold ym;dsimp only;rw [if_neg (by omega),if_neg (by omega),if_neg (by omega),if_neg (by omega),if_neg (by omega),if_neg (by omega),if_pos (by omega)]
  refine zu zdZ [0] [0] (m,m.r i.n.toNat,4) ⟨hm,by omega,by omega,by decide⟩ rfl rfl ?_
  refine And.intro (VS.mk (LeL.of_eq rfl)) (And.intro (VS.mk rfl) ?_)
  (all_goals refine zbz ?_<;>(repeat' first | exact trivial | intro hc | refine And.intro ?_ ?_)<;>refine Lf.mk ?_)
  ·have hQ:zeP m i=(m,3):=by unfold zeP;rw [if_neg (by rw [hc];decide)]
   dsimp only;rw [hP,hQ]
   refine yT [0] rfl rfl ?_
   (repeat' (first | (refine VS.mk ?_) | exact trivial | exact rfl | refine And.intro ?_ ?_))
  have hin:=zhF.1 hc
  have hQ:zeP m i=({ m with img:={ m.img with bytes:=yv m.img.bytes (m.r i.n.toNat - m.img.base) 4 (m.r i.m.toNat) } },0):=by unfold zeP;rw [if_pos hc]
  refine zu ky [] [2] (m.img.bytes,m.r i.n.toNat - m.img.base,4,m.r i.m.toNat) ⟨by omega,by omega,by decide,by omega⟩ rfl rfl ?_
  refine And.intro (VS.mk (by (first | exact LeL.refl _ | (repeat' (first | exact LeL.nil | exact LeD.refl _ | exact LeD.nil _ | exact LeD.strip _ _ _ | refine LeL.cons ?_ ?_ | refine LeD.tup ?_ | refine LeD.agg ?_))))) (And.intro (VS.mk rfl) ?_)
  (all_goals refine zbz (Lf.mk ?_))
  dsimp only;rw [hP,hQ]
  refine zfK 0 (vj { m with img:={ m.img with bytes:=yv m.img.bytes (m.r i.n.toNat - m.img.base) 4 (m.r i.m.toNat) } }) rfl (by (first | exact LeL.refl _ | (repeat' (first | exact LeL.nil | exact LeD.refl _ | exact LeD.nil _ | exact LeD.strip _ _ _ | refine LeL.cons ?_ ?_ | refine LeD.tup ?_ | refine LeD.agg ?_)))) ?_ (Nat.le_refl _)
  refine yT [0] rfl rfl ?_
  (repeat' (first | (refine VS.mk ?_) | exact trivial | exact rfl | refine And.intro ?_ ?_))
 ·have hP:ym m i at_=({ m with told:=m.told++[m.r 0] },0):=by unfold ym;dsimp only;rw [if_neg (by omega),if_neg (by omega),if_neg (by omega),if_neg (by omega),if_neg (by omega),if_neg (by omega),if_neg (by omega),if_pos (by omega)]
  refine zu znz [] [2] (m.told.map zi7) ⟨by simp;omega,fun i d hd=>?_⟩ rfl rfl ?_
  ·obtain ⟨c,_,rfl⟩:=List.mem_map.1 (List.mem_of_getElem? hd);rfl
  refine And.intro (VS.mk (LeL.of_eq rfl)) (And.intro (VS.mk rfl) ?_)
  (all_goals refine zbz (Lf.mk ?_))
  dsimp only;rw [hP]
  refine zfK 0 (vj { m with told:=m.told++[m.r 0] }) rfl (by (first | exact LeL.refl _ | (repeat' (first | exact LeL.nil | exact LeD.refl _ | exact LeD.nil _ | exact LeD.strip _ _ _ | refine LeL.cons ?_ ?_ | refine LeD.tup ?_ | refine LeD.agg ?_)))) ?_ (Nat.le_refl _)
  refine yT [0] rfl rfl ?_
  (repeat' (first | (refine VS.mk ?_) | exact trivial | exact rfl | refine And.intro ?_ ?_))
 ·have hP:ym m i at_=(zgl m i,0):=by unfold ym;dsimp only;rw [if_neg (by omega),if_neg (by omega),if_neg (by omega),if_neg (by omega),if_neg (by omega),if_neg (by omega),if_neg (by omega),if_neg (by omega)]
  refine zu zt4 [0] [0] (m,i) ⟨hm,hi⟩ rfl rfl ?_
  refine And.intro (VS.mk (LeL.of_eq rfl)) (And.intro (VS.mk rfl) ?_)
  (all_goals refine zbz (Lf.mk ?_))
  dsimp only;rw [hP]
  refine yT [0] rfl rfl ?_
  (repeat' (first | (refine VS.mk ?_) | exact trivial | exact rfl | refine And.intro ?_ ?_))
attribute [local irreducible] xZ kq ym
theorem zk5:za Tryz.prog zs6 (zQ (fun ((m,i):zW×Ins)=>InM 10000 m∧InI i)
  (fun (m,i)=>[.loc 0 0,zaB i]) (fun (m,_)=>[.cells (vj m)]) (fun (m,i)=>.tup [.int .i64 (wb m i).2.1,.bool (wb m i).2.2]) fun (m,i)=>[.cells (vj (wb m i).1)]):=by
 refine zf zh Tryz.func53 rfl (by decide) ?_
 rintro ⟨m,i⟩ ⟨hm,hi⟩
 obtain ⟨n0,n1⟩:=hi.n
 obtain ⟨m0,m1⟩:=hi.m
 obtain ⟨q0,q1⟩:=hi.imm
 have hrm:=ixm hi.m hm
 have hrn:=ixr hi.n hm
 have hpc:=hm.pc
 have hpr:=hm.pr
 refine ⟨Nat.le_refl _,by simp [Tryz.f53],fun E hE=>?_⟩
 refine ze _ ?_
 (all_goals refine qgv (Lf.mk ?_))
 refine zb zqj (i,m.pc) ⟨q0,q1,by omega,by omega⟩ (VS.mk (LeL.of_eq rfl)) ?_
 (all_goals refine qgv ?_<;>(repeat' first | exact trivial | intro hc | refine And.intro ?_ ?_)<;>refine Lf.mk ?_)
 all_goals
  have hn:¬ (m.t=true)∨m.t=true:=by cases m.t<;>simp
  refine vH (r1:=.tup [.int .i64 (wb m i).2.1,.bool (wb m i).2.2]) (LeD.tup (.cons (LeD.of_eq (congrArg _ ?_)) (.cons ?_ .nil))) (yT [0] rfl rfl ?_) (Nat.le_refl _)
  ·unfold wb;(repeat (first | (rw [if_pos (by assumption)]) | (rw [if_neg (by assumption)])));try (simp [*])
  ·first | exact LeD.tt (by unfold wb;(repeat (first | (rw [if_pos (by assumption)]) | (rw [if_neg (by assumption)])))) | exact LeD.ff (by unfold wb;(repeat (first | (rw [if_pos (by assumption)]) | (rw [if_neg (by assumption)]))))
  ·(repeat' (first | (refine VS.mk ?_) | exact trivial | exact rfl | refine And.intro ?_ ?_))
   all_goals (dsimp only;unfold wb;(repeat (first | (rw [if_pos (by assumption)]) | (rw [if_neg (by assumption)])));try rfl)
theorem zzq (n:Int):(-128≤zg n 8∧zg n 8≤127)∧(-2048≤zg n 12∧zg n 12≤2047):=by
 have e8:zg n 8=if n % 256 / 128=1 then n % 256 - 256 else n % 256:=by unfold zg;rfl
 have e12:zg n 12=if n % 4096 / 2048=1 then n % 4096 - 4096 else n % 4096:=by unfold zg;rfl
 rw [e8,e12]
 constructor<;>split<;>omega
theorem zzr (w:Int):InI (xY w).1:=by
 unfold xY
 split
 ·exact ⟨by decide,by decide,by decide⟩
 split
 ·rename_i r _
  have h:=zzq w
  refine ⟨?_,?_,?_⟩
  ·show 0≤(if zda r.shape=true then w / 256 % 16 else 0)∧(if zda r.shape=true then w / 256 % 16 else 0) < 16
   split<;>omega
  ·show 0≤(if zdb r.shape=true then w / 16 % 16 else 0)∧(if zdb r.shape=true then w / 16 % 16 else 0) < 16
   split<;>omega
  ·show -4096≤zkI w r.shape∧zkI w r.shape≤4096
   unfold zkI
   (repeat' split)<;>omega
 ·exact ⟨by decide,by decide,by decide⟩
theorem zcC (m:zW) (a:Int):InI (xZ m a).1:=by
 unfold xZ
 split
 ·exact zzr _
 ·exact ⟨by decide,by decide,by decide⟩
theorem zAG (a b:Int): -2147483648≤zbm a b∧zbm a b≤2147483647:=by unfold zbm;exact zjC _ a b
theorem zA8 (a b:Int): -2147483648≤zeu a b∧zeu a b≤2147483647:=by unfold zeu;exact zjC _ a b
theorem zAH (a b:Int): -2147483648≤zcB a b∧zcB a b≤2147483647:=by unfold zcB;exact zjC _ a b
theorem zA9 {r:Nat→Int} {n v:Int} (h:∀ j,j < 16→-2147483648≤r j∧r j≤2147483647) (h1: -2147483648≤v) (h2:v≤2147483647):∀ j,j < 16→-2147483648≤up r n v j∧up r n v j≤2147483647:=by
 intro j hj
 unfold up
 split
 ·exact ⟨h1,h2⟩
 ·exact h j hj
theorem qA {k:Nat} {m:zW} {n v:Int} (h:InM k m) (h1: -2147483648≤v∧v≤2147483647):InM k (xU m n v):=⟨zA9 h.regs h1.1 h1.2,h.pc,h.pr,h.base,h.len,h.syms,h.told,h.steps⟩
theorem zdn {k:Nat} {m:zW} {t:Bool} (h:InM k m):InM k (zeO m t):=⟨h.regs,h.pc,h.pr,h.base,h.len,h.syms,h.told,h.steps⟩
theorem zxG {k:Nat} {m:zW} {i:Ins} {a:Int} (h:InM k m):InM k (wQ m i a).1:=by
 unfold wQ
 refine iteInduction (motive:=fun x:zW×Int=>InM k x.1) (fun _=>?_) (fun _=>h)
 refine qA h ?_
 split<;>exact zgm _
theorem zzs {k:Nat} {m:zW} {i:Ins} (h:InM k m):InM k (zeP m i).1:=by
 unfold zeP
 split
 ·exact ⟨h.regs,h.pc,h.pr,h.base,by show (yv _ _ _ _).length≤_;rw [kM];exact h.len,h.syms,h.told,h.steps⟩
 ·exact h
theorem zzt {k:Nat} {m:zW} {i:Ins} (h:InM k m) (hi:InI i):InM k (zgl m i):=by
 have hrm:=ixm hi.m h
 have hrn:=ixr hi.n h
 unfold zgl
 dsimp only
 split
 ·exact qA h hrm
 split
 ·exact qA h (zgm _)
 split
 ·exact qA h (zgm _)
 split
 ·exact qA h (zAG _ _)
 split
 ·exact qA h (zA8 _ _)
 split
 ·exact qA h (zAH _ _)
 split
 ·exact zdn h
 split
 ·exact zdn h
 split
 ·exact zdn h
 ·exact h
theorem zaQ {k:Nat} {m:zW} {i:Ins} {a:Int} (h:InM k m) (hi:InI i):InM (k+1) (ym m i a).1:=by
 have hrm:=ixm hi.m h
 have hrn:=ixr hi.n h
 have hq:=hi.imm
 have hm:=h.mono (Nat.le_add_right k 1)
 unfold ym
 dsimp only
 split
 ·exact qA hm (by omega)
 split
 ·exact qA hm (zgm _)
 split
 ·exact zdn (qA hm (zgm _))
 split
 ·exact zdn (qA hm (by omega))
 split
 ·exact zdn (qA hm (zgm _))
 split
 ·exact zxG hm
 split
 ·exact zzs hm
 split
 ·exact ⟨h.regs,hm.pc,hm.pr,h.base,h.len,h.syms,by show (m.told++_).length≤_;rw [List.length_append,List.length_singleton];have:=h.told;omega,hm.steps⟩
 ·exact zzt hm hi
theorem zcD (m:zW) (i:Ins) (a:Int):(ym m i a).1.pc=m.pc:=by
 have hl:(wQ m i a).1.pc=m.pc:=by
  unfold wQ
  exact iteInduction (motive:=fun x:zW×Int=>x.1.pc=m.pc) (fun _=>rfl) (fun _=>rfl)
 have hp:(zeP m i).1.pc=m.pc:=by
  unfold zeP
  exact iteInduction (motive:=fun x:zW×Int=>x.1.pc=m.pc) (fun _=>rfl) (fun _=>rfl)
 have hs:(zgl m i).pc=m.pc:=by
  unfold zgl
  dsimp only
  repeat' (first | rfl | refine iteInduction (motive:=fun x:zW=>x.pc=m.pc) (fun _=>?_) (fun _=>?_))
 unfold ym
 dsimp only
 repeat' (first | rfl | exact hl | exact hp | exact hs | refine iteInduction (motive:=fun x:zW×Int=>x.1.pc=m.pc) (fun _=>?_) (fun _=>?_))
theorem zjD {k:Nat} {m:zW} {i:Ins} (h:InM k m) (hi:InI i):InM (k+1) (wb m i).1∧(wb m i).1.pc=m.pc∧-5000000000 - 100000 * (k+1:Int)≤(wb m i).2.1∧(wb m i).2.1≤5000000000+100000 * (k+1:Int):=by
 have hm:=h.mono (Nat.le_add_right k 1)
 have hpr:=h.pr
 have hpc:=h.pc
 have hrn:=ixr hi.n h
 have hto:=zv4 (a:=m.pc) hi.imm.1 hi.imm.2
 have hpr':InM (k+1) { m with pr:=m.pc+4 }:=⟨h.regs,hm.pc,by show _≤m.pc+4∧m.pc+4≤_;omega,h.base,h.len,h.syms,hm.told,hm.steps⟩
 unfold wb
 split
 ·refine ⟨hm,rfl,?_,?_⟩<;>(dsimp only;split<;>omega)
 split
 ·refine ⟨hm,rfl,?_,?_⟩<;>(dsimp only;split<;>omega)
 split
 ·exact ⟨hm,rfl,by dsimp only;omega,by dsimp only;omega⟩
 split
 ·exact ⟨hm,rfl,by dsimp only;omega,by dsimp only;omega⟩
 split
 ·exact ⟨hpr',rfl,by dsimp only;omega,by dsimp only;omega⟩
 split
 ·exact ⟨hpr',rfl,by dsimp only;omega,by dsimp only;omega⟩
 ·exact ⟨hm,rfl,by dsimp only;omega,by dsimp only;omega⟩
def vC (m:zW):D:=.tup [zbl (xV m).1,.bool (xV m).2.1,.int .i64 (xV m).2.2]
theorem zt5:za Tryz.prog zs4 (zy (fun m:zW=>InM 9990 m) (fun m=>[zbl m]) vC):=by
 refine zf zh Tryz.func31 rfl (by decide) ?_
 rintro m hm
 have hm':=hm.mono (show 9990≤10000 by decide)
 have hpc:=hm.pc
 have hpr:=hm.pr
 have htold:=hm.told
 have hst:=hm.steps
 have hm1:InM 9991 { m with steps:=m.steps+1 }:=⟨hm.regs,by show _≤m.pc∧m.pc≤_;omega,by show _≤m.pr∧m.pr≤_;omega,hm.base,hm.len,hm.syms,by show m.told.length≤_;omega,by show _≤m.steps+1∧m.steps+1≤_;omega⟩
 refine ⟨Nat.le_refl _,by simp [Tryz.f31],fun E hE=>?_⟩
 refine ze _ ?_
 (all_goals refine qgv (Lf.mk ?_))
 refine zb zk4 m ⟨hm.len,hm.syms,by omega⟩ (VS.mk (LeL.of_eq rfl)) ?_
 (all_goals refine qgv (Lf.mk ?_))
 have hI:=zcC m m.pc
 obtain ⟨i,e,hie⟩:∃ i e,xZ m m.pc=(i,e):=⟨_,_,rfl⟩
 refine zu zeQ [2] [2] (m,m.pc) ⟨hm',by omega,by omega⟩ rfl rfl ?_
 dsimp only
 rw [hie] at hI ⊢
 refine And.intro (VS.mk (LeL.of_eq rfl)) (And.intro (VS.mk rfl) ?_)
 (all_goals refine qgv ?_<;>(repeat' first | exact trivial | intro hc | refine And.intro ?_ ?_)<;>refine Lf.mk ?_)
 ·have hS:xV m=(wP,false,e):=by unfold xV;rw [hie];dsimp only;(repeat (first | (rw [if_pos (by assumption)]) | (rw [if_neg (by assumption)])))
  refine zd (VS.mk ?_)
  unfold vC;rw [hS]
  (first | exact LeL.refl _ | (repeat' (first | exact LeL.nil | exact LeD.refl _ | exact LeD.nil _ | exact LeD.strip _ _ _ | refine LeL.cons ?_ ?_ | refine LeD.tup ?_ | refine LeD.agg ?_)))
  all_goals first | exact LeD.ff rfl | skip
 ·have hS:xV m=({ m with steps:=m.steps+1 },true,0):=by unfold xV;rw [hie];dsimp only;rw [if_neg (by omega),if_pos (by omega)]
  refine zd (VS.mk ?_)
  unfold vC;rw [hS]
  (first | exact LeL.refl _ | (repeat' (first | exact LeL.nil | exact LeD.refl _ | exact LeD.nil _ | exact LeD.strip _ _ _ | refine LeL.cons ?_ ?_ | refine LeD.tup ?_ | refine LeD.agg ?_)))
  all_goals first | exact LeD.tt rfl | skip
 all_goals
  refine zb zeR i.op trivial (VS.mk (LeL.of_eq rfl)) ?_
  (all_goals refine qgv ?_<;>(repeat' first | exact trivial | intro hc | refine And.intro ?_ ?_)<;>refine Lf.mk ?_)
 ·have hP:=zaQ (k:=9991) (a:=m.pc) hm1 hI
  have hpp:=zcD { m with steps:=m.steps+1 } i m.pc
  obtain ⟨x,f,hx⟩:∃ x f,ym { m with steps:=m.steps+1 } i m.pc=(x,f):=⟨_,_,rfl⟩
  rw [hx] at hP hpp
  have hS:xV m=if f≠0 then (wP,false,f) else ({ x with pc:=x.pc+2 },false,0):=by unfold xV;rw [hie];dsimp only;rw [if_neg (by omega),if_neg (by omega),if_pos hc,hx]
  refine zu zb4 [2] [2] ({ m with steps:=m.steps+1 },i,m.pc) ⟨hm1.mono (by decide),hI,by omega,by omega⟩ rfl rfl ?_
  dsimp only
  rw [hx]
  refine And.intro (VS.mk (LeL.of_eq rfl)) (And.intro (VS.mk rfl) ?_)
  have hxp:=hP.pc
  (all_goals refine qgv ?_<;>(repeat' first | exact trivial | intro hc | refine And.intro ?_ ?_)<;>refine Lf.mk ?_)
  ·rw [if_pos hc] at hS
   refine zd (VS.mk ?_)
   unfold vC;rw [hS]
   (first | exact LeL.refl _ | (repeat' (first | exact LeL.nil | exact LeD.refl _ | exact LeD.nil _ | exact LeD.strip _ _ _ | refine LeL.cons ?_ ?_ | refine LeD.tup ?_ | refine LeD.agg ?_)))
   all_goals first | exact LeD.ff rfl | skip
  ·rw [if_neg (by omega)] at hS
   refine zd (VS.mk ?_)
   unfold vC;rw [hS]
   (first | exact LeL.refl _ | (repeat' (first | exact LeL.nil | exact LeD.refl _ | exact LeD.nil _ | exact LeD.strip _ _ _ | refine LeL.cons ?_ ?_ | refine LeD.tup ?_ | refine LeD.agg ?_)))
   all_goals first | exact LeD.ff rfl | skip
 ·have hL:=zjD (k:=9991) hm1 hI
  obtain ⟨x,to,late,hx⟩:∃ x to late,wb { m with steps:=m.steps+1 } i=(x,to,late):=⟨_,_,_,rfl⟩
  rw [hx] at hL
  obtain ⟨hL1,hL2,hL3,hL4⟩:=hL
  dsimp only at hL1 hL2 hL3 hL4
  have hxp:=hL1.pc
  have hS:xV m=if late=true then wR x to else ({ x with pc:=to },false,0):=by unfold xV;rw [hie];dsimp only;rw [if_neg (by omega),if_neg (by omega),if_neg (by rw [hc];decide),hx]
  refine zu zk5 [2] [2] ({ m with steps:=m.steps+1 },i) ⟨hm1.mono (by decide),hI⟩ rfl rfl ?_
  dsimp only
  rw [hx]
  dsimp only
  refine And.intro (VS.mk (LeL.of_eq rfl)) (And.intro (VS.mk rfl) ?_)
  (all_goals refine qgv ?_<;>(repeat' first | exact trivial | intro hc | refine And.intro ?_ ?_)<;>refine Lf.mk ?_)
  ·rw [if_pos hc] at hS
   have hJ:=zcC x (x.pc+2)
   obtain ⟨j,e',hj⟩:∃ j e',xZ x (x.pc+2)=(j,e'):=⟨_,_,rfl⟩
   refine zu zeQ [2] [2] (x,x.pc+2) ⟨hL1.mono (by decide),by omega,by omega⟩ rfl rfl ?_
   dsimp only
   rw [hj] at hJ ⊢
   dsimp only at hJ ⊢
   refine And.intro (VS.mk (LeL.of_eq rfl)) (And.intro (VS.mk rfl) ?_)
   (all_goals refine qgv ?_<;>(repeat' first | exact trivial | intro hc | refine And.intro ?_ ?_)<;>refine Lf.mk ?_)
   ·refine zb zeR j.op trivial (VS.mk (LeL.of_eq rfl)) ?_
    (all_goals refine qgv ?_<;>(repeat' first | exact trivial | intro hc | refine And.intro ?_ ?_)<;>refine Lf.mk ?_)
    ·have hT:wR x to=(wP,false,8):=by unfold wR;rw [hj];dsimp only;rw [if_neg (by omega),if_pos (.inl (by assumption))]
     refine zd (VS.mk ?_)
     unfold vC;rw [hS,hT]
     (first | exact LeL.refl _ | (repeat' (first | exact LeL.nil | exact LeD.refl _ | exact LeD.nil _ | exact LeD.strip _ _ _ | refine LeL.cons ?_ ?_ | refine LeD.tup ?_ | refine LeD.agg ?_)))
     all_goals first | exact LeD.ff rfl | skip
    ·have hT:wR x to=(wP,false,8):=by unfold wR;rw [hj];dsimp only;rw [if_neg (by omega),if_pos (.inr (by assumption))]
     refine zd (VS.mk ?_)
     unfold vC;rw [hS,hT]
     (first | exact LeL.refl _ | (repeat' (first | exact LeL.nil | exact LeD.refl _ | exact LeD.nil _ | exact LeD.strip _ _ _ | refine LeL.cons ?_ ?_ | refine LeD.tup ?_ | refine LeD.agg ?_)))
     all_goals first | exact LeD.ff rfl | skip
    have hnl:¬ (kq j.op=true∨j.op=27):=by
     rintro (h | h)
     ·have h9:kq j.op=false:=by assumption
      rw [h] at h9;cases h9
     ·omega
    have hP:=zaQ (k:=9992) (a:=x.pc+2) hL1 hJ
    have hpp:=zcD x j (x.pc+2)
    obtain ⟨y,f,hy⟩:∃ y f,ym x j (x.pc+2)=(y,f):=⟨_,_,rfl⟩
    rw [hy] at hP hpp
    have hT:wR x to=if f≠0 then (wP,false,f) else ({ y with pc:=to },false,0):=by unfold wR;rw [hj];dsimp only;rw [if_neg (by omega),if_neg hnl,hy]
    refine zu zb4 [2] [2] (x,j,x.pc+2) ⟨hL1.mono (by decide),hJ,by omega,by omega⟩ rfl rfl ?_
    dsimp only
    rw [hy]
    refine And.intro (VS.mk (LeL.of_eq rfl)) (And.intro (VS.mk rfl) ?_)
    (all_goals refine qgv ?_<;>(repeat' first | exact trivial | intro hc | refine And.intro ?_ ?_)<;>refine Lf.mk ?_)
    ·rw [if_pos hc] at hT
     refine zd (VS.mk ?_)
     unfold vC;rw [hS,hT]
     (first | exact LeL.refl _ | (repeat' (first | exact LeL.nil | exact LeD.refl _ | exact LeD.nil _ | exact LeD.strip _ _ _ | refine LeL.cons ?_ ?_ | refine LeD.tup ?_ | refine LeD.agg ?_)))
     all_goals first | exact LeD.ff rfl | skip
    ·rw [if_neg (by omega)] at hT
     refine zd (VS.mk ?_)
     unfold vC;rw [hS,hT]
     (first | exact LeL.refl _ | (repeat' (first | exact LeL.nil | exact LeD.refl _ | exact LeD.nil _ | exact LeD.strip _ _ _ | refine LeL.cons ?_ ?_ | refine LeD.tup ?_ | refine LeD.agg ?_)))
     all_goals first | exact LeD.ff rfl | skip
   ·have hT:wR x to=(wP,false,e'):=by unfold wR;rw [hj];dsimp only;rw [if_pos (by assumption)]
    refine zd (VS.mk ?_)
    unfold vC;rw [hS,hT]
    (first | exact LeL.refl _ | (repeat' (first | exact LeL.nil | exact LeD.refl _ | exact LeD.nil _ | exact LeD.strip _ _ _ | refine LeL.cons ?_ ?_ | refine LeD.tup ?_ | refine LeD.agg ?_)))
    all_goals first | exact LeD.ff rfl | skip
  ·rw [if_neg (by rw [hc];decide)] at hS
   refine zd (VS.mk ?_)
   unfold vC;rw [hS]
   (first | exact LeL.refl _ | (repeat' (first | exact LeL.nil | exact LeD.refl _ | exact LeD.nil _ | exact LeD.strip _ _ _ | refine LeL.cons ?_ ?_ | refine LeD.tup ?_ | refine LeD.agg ?_)))
   all_goals first | exact LeD.ff rfl | skip
 ·have hP:=zaQ (k:=9991) (a:=m.pc) hm1 hI
  have hpp:=zcD { m with steps:=m.steps+1 } i m.pc
  obtain ⟨x,f,hx⟩:∃ x f,ym { m with steps:=m.steps+1 } i m.pc=(x,f):=⟨_,_,rfl⟩
  rw [hx] at hP hpp
  have hS:xV m=if f≠0 then (wP,false,f) else ({ x with pc:=x.pc+2 },false,0):=by unfold xV;rw [hie];dsimp only;rw [if_neg (by omega),if_neg (by omega),if_pos hc,hx]
  refine zu zb4 [2] [2] ({ m with steps:=m.steps+1 },i,m.pc) ⟨hm1.mono (by decide),hI,by omega,by omega⟩ rfl rfl ?_
  dsimp only
  rw [hx]
  refine And.intro (VS.mk (LeL.of_eq rfl)) (And.intro (VS.mk rfl) ?_)
  have hxp:=hP.pc
  (all_goals refine qgv ?_<;>(repeat' first | exact trivial | intro hc | refine And.intro ?_ ?_)<;>refine Lf.mk ?_)
  ·rw [if_pos hc] at hS
   refine zd (VS.mk ?_)
   unfold vC;rw [hS]
   (first | exact LeL.refl _ | (repeat' (first | exact LeL.nil | exact LeD.refl _ | exact LeD.nil _ | exact LeD.strip _ _ _ | refine LeL.cons ?_ ?_ | refine LeD.tup ?_ | refine LeD.agg ?_)))
   all_goals first | exact LeD.ff rfl | skip
  ·rw [if_neg (by omega)] at hS
   refine zd (VS.mk ?_)
   unfold vC;rw [hS]
   (first | exact LeL.refl _ | (repeat' (first | exact LeL.nil | exact LeD.refl _ | exact LeD.nil _ | exact LeD.strip _ _ _ | refine LeL.cons ?_ ?_ | refine LeD.tup ?_ | refine LeD.agg ?_)))
   all_goals first | exact LeD.ff rfl | skip
 ·have hL:=zjD (k:=9991) hm1 hI
  obtain ⟨x,to,late,hx⟩:∃ x to late,wb { m with steps:=m.steps+1 } i=(x,to,late):=⟨_,_,_,rfl⟩
  rw [hx] at hL
  obtain ⟨hL1,hL2,hL3,hL4⟩:=hL
  dsimp only at hL1 hL2 hL3 hL4
  have hxp:=hL1.pc
  have hS:xV m=if late=true then wR x to else ({ x with pc:=to },false,0):=by unfold xV;rw [hie];dsimp only;rw [if_neg (by omega),if_neg (by omega),if_neg (by rw [hc];decide),hx]
  refine zu zk5 [2] [2] ({ m with steps:=m.steps+1 },i) ⟨hm1.mono (by decide),hI⟩ rfl rfl ?_
  dsimp only
  rw [hx]
  dsimp only
  refine And.intro (VS.mk (LeL.of_eq rfl)) (And.intro (VS.mk rfl) ?_)
  (all_goals refine qgv ?_<;>(repeat' first | exact trivial | intro hc | refine And.intro ?_ ?_)<;>refine Lf.mk ?_)
  ·rw [if_pos hc] at hS
   have hJ:=zcC x (x.pc+2)
   obtain ⟨j,e',hj⟩:∃ j e',xZ x (x.pc+2)=(j,e'):=⟨_,_,rfl⟩
   refine zu zeQ [2] [2] (x,x.pc+2) ⟨hL1.mono (by decide),by omega,by omega⟩ rfl rfl ?_
   dsimp only
   rw [hj] at hJ ⊢
   dsimp only at hJ ⊢
   refine And.intro (VS.mk (LeL.of_eq rfl)) (And.intro (VS.mk rfl) ?_)
   (all_goals refine qgv ?_<;>(repeat' first | exact trivial | intro hc | refine And.intro ?_ ?_)<;>refine Lf.mk ?_)
   ·refine zb zeR j.op trivial (VS.mk (LeL.of_eq rfl)) ?_
    (all_goals refine qgv ?_<;>(repeat' first | exact trivial | intro hc | refine And.intro ?_ ?_)<;>refine Lf.mk ?_)
    ·have hT:wR x to=(wP,false,8):=by unfold wR;rw [hj];dsimp only;rw [if_neg (by omega),if_pos (.inl (by assumption))]
     refine zd (VS.mk ?_)
     unfold vC;rw [hS,hT]
     (first | exact LeL.refl _ | (repeat' (first | exact LeL.nil | exact LeD.refl _ | exact LeD.nil _ | exact LeD.strip _ _ _ | refine LeL.cons ?_ ?_ | refine LeD.tup ?_ | refine LeD.agg ?_)))
     all_goals first | exact LeD.ff rfl | skip
    ·have hT:wR x to=(wP,false,8):=by unfold wR;rw [hj];dsimp only;rw [if_neg (by omega),if_pos (.inr (by assumption))]
     refine zd (VS.mk ?_)
     unfold vC;rw [hS,hT]
     (first | exact LeL.refl _ | (repeat' (first | exact LeL.nil | exact LeD.refl _ | exact LeD.nil _ | exact LeD.strip _ _ _ | refine LeL.cons ?_ ?_ | refine LeD.tup ?_ | refine LeD.agg ?_)))
     all_goals first | exact LeD.ff rfl | skip
    have hnl:¬ (kq j.op=true∨j.op=27):=by
     rintro (h | h)
     ·have h9:kq j.op=false:=by assumption
      rw [h] at h9;cases h9
     ·omega
    have hP:=zaQ (k:=9992) (a:=x.pc+2) hL1 hJ
    have hpp:=zcD x j (x.pc+2)
    obtain ⟨y,f,hy⟩:∃ y f,ym x j (x.pc+2)=(y,f):=⟨_,_,rfl⟩
    rw [hy] at hP hpp
    have hT:wR x to=if f≠0 then (wP,false,f) else ({ y with pc:=to },false,0):=by unfold wR;rw [hj];dsimp only;rw [if_neg (by omega),if_neg hnl,hy]
    refine zu zb4 [2] [2] (x,j,x.pc+2) ⟨hL1.mono (by decide),hJ,by omega,by omega⟩ rfl rfl ?_
    dsimp only
    rw [hy]
    refine And.intro (VS.mk (LeL.of_eq rfl)) (And.intro (VS.mk rfl) ?_)
    (all_goals refine qgv ?_<;>(repeat' first | exact trivial | intro hc | refine And.intro ?_ ?_)<;>refine Lf.mk ?_)
    ·rw [if_pos hc] at hT
     refine zd (VS.mk ?_)
     unfold vC;rw [hS,hT]
     (first | exact LeL.refl _ | (repeat' (first | exact LeL.nil | exact LeD.refl _ | exact LeD.nil _ | exact LeD.strip _ _ _ | refine LeL.cons ?_ ?_ | refine LeD.tup ?_ | refine LeD.agg ?_)))
     all_goals first | exact LeD.ff rfl | skip
    ·rw [if_neg (by omega)] at hT
     refine zd (VS.mk ?_)
     unfold vC;rw [hS,hT]
     (first | exact LeL.refl _ | (repeat' (first | exact LeL.nil | exact LeD.refl _ | exact LeD.nil _ | exact LeD.strip _ _ _ | refine LeL.cons ?_ ?_ | refine LeD.tup ?_ | refine LeD.agg ?_)))
     all_goals first | exact LeD.ff rfl | skip
   ·have hT:wR x to=(wP,false,e'):=by unfold wR;rw [hj];dsimp only;rw [if_pos (by assumption)]
    refine zd (VS.mk ?_)
    unfold vC;rw [hS,hT]
    (first | exact LeL.refl _ | (repeat' (first | exact LeL.nil | exact LeD.refl _ | exact LeD.nil _ | exact LeD.strip _ _ _ | refine LeL.cons ?_ ?_ | refine LeD.tup ?_ | refine LeD.agg ?_)))
    all_goals first | exact LeD.ff rfl | skip
  ·rw [if_neg (by rw [hc];decide)] at hS
   refine zd (VS.mk ?_)
   unfold vC;rw [hS]
   (first | exact LeL.refl _ | (repeat' (first | exact LeL.nil | exact LeD.refl _ | exact LeD.nil _ | exact LeD.strip _ _ _ | refine LeL.cons ?_ ?_ | refine LeD.tup ?_ | refine LeD.agg ?_)))
   all_goals first | exact LeD.ff rfl | skip
attribute [local irreducible] wb
theorem zxH {k:Nat} {m:zW} {to:Int} (h:InM k m) (h1: -5000000000 - 100000 * (k+1:Int)≤to) (h2:to≤5000000000+100000 * (k+1:Int)):(wR m to).2.2=0→InM (k+1) (wR m to).1:=by
 unfold wR
 dsimp only
 refine iteInduction (motive:=fun x:zW×Bool×Int=>x.2.2=0→InM (k+1) x.1) (fun h h'=>absurd h' h) (fun _=>?_)
 refine iteInduction (motive:=fun x:zW×Bool×Int=>x.2.2=0→InM (k+1) x.1) (fun _ h'=>absurd h' (by decide)) (fun _=>?_)
 refine iteInduction (motive:=fun x:zW×Bool×Int=>x.2.2=0→InM (k+1) x.1) (fun h h'=>absurd h' h) (fun _ _=>?_)
 have hp:=zaQ (k:=k) (a:=m.pc+2) h (zcC m (m.pc+2))
 exact ⟨hp.regs,⟨by show _≤to;omega,by show to≤_;omega⟩,hp.pr,hp.base,hp.len,hp.syms,hp.told,hp.steps⟩
theorem zxI {k:Nat} {m:zW} (h:InM k m):(xV m).2.2=0→InM (k+3) (xV m).1:=by
 have hI:=zcC m m.pc
 have hpc:=h.pc
 have hpr:=h.pr
 have htold:=h.told
 have hst:=h.steps
 have hm1:InM (k+1) { m with steps:=m.steps+1 }:=⟨h.regs,by show _≤m.pc∧m.pc≤_;omega,by show _≤m.pr∧m.pr≤_;omega,h.base,h.len,h.syms,by show m.told.length≤_;omega,by show _≤m.steps+1∧m.steps+1≤_;omega⟩
 unfold xV
 dsimp only
 refine iteInduction (motive:=fun x:zW×Bool×Int=>x.2.2=0→InM (k+3) x.1) (fun h h'=>absurd h' h) (fun _=>?_)
 refine iteInduction (motive:=fun x:zW×Bool×Int=>x.2.2=0→InM (k+3) x.1) (fun _ _=>hm1.mono (by omega)) (fun _=>?_)
 refine iteInduction (motive:=fun x:zW×Bool×Int=>x.2.2=0→InM (k+3) x.1) (fun _=>?_) (fun _=>?_)
 ·refine iteInduction (motive:=fun x:zW×Bool×Int=>x.2.2=0→InM (k+3) x.1) (fun h h'=>absurd h' h) (fun _ _=>?_)
  have hp:=(zaQ (k:=k+1) (a:=m.pc) hm1 hI).mono (show k+1+1≤k+3 by omega)
  have hpp:=zcD { m with steps:=m.steps+1 } (xZ m m.pc).1 m.pc
  dsimp only at hpp
  exact ⟨hp.regs,⟨by show _≤(ym _ _ _).1.pc+2;omega,by show (ym _ _ _).1.pc+2≤_;omega⟩,hp.pr,hp.base,hp.len,hp.syms,hp.told,hp.steps⟩
 ·obtain ⟨h1,h2,h3,h4⟩:=zjD (k:=k+1) hm1 hI
  refine iteInduction (motive:=fun x:zW×Bool×Int=>x.2.2=0→InM (k+3) x.1) (fun _=>?_) (fun _ _=>?_)
  ·exact zxH (k:=k+2) h1 (by omega) (by omega)
  ·have hp:=h1.mono (show k+1+1≤k+3 by omega)
   exact ⟨hp.regs,⟨by show _≤(wb _ _).2.1;omega,by show (wb _ _).2.1≤_;omega⟩,hp.pr,hp.base,hp.len,hp.syms,hp.told,hp.steps⟩
def zBa:List D:=[.int .i64 0,.int .i64 0,.int .i64 0,.int .i64 0,.int .i64 0,.int .i64 0,.int .i64 0,.int .i64 0,.int .i64 0,.int .i64 0,.int .i64 0,.int .i64 0,.int .i64 0,.int .i64 0,.int .i64 0,.int .i64 0,.ff,.int .i64 0,.int .i64 0,.int .i64 0,.nilsl,.nilsl,.nilsl,.int .i64 0]
def kR (m:zW) (most:Int):zW×Int:=if most < 0∨most > 2000 then (wP,3) else wS most.toNat m
attribute [local irreducible] xV
theorem zmX:za Tryz.prog zuC (zy (fun ((m,most):zW×Int)=>InM 0 m) (fun (m,most)=>[zbl m,.int .i64 most]) fun (m,most)=>.tup [zbl (kR m most).1,.int .i64 (kR m most).2]):=by
 refine zf zh Tryz.func15 rfl (by decide) ?_
 rintro ⟨m,most⟩ hm
 have hm:InM 0 m:=hm
 have htold:=hm.told
 refine ⟨Nat.le_refl _,by simp [Tryz.f15],fun E hE=>?_⟩
 refine ze _ ?_
 (all_goals refine qgv ?_<;>(repeat' first | exact trivial | intro hc | refine And.intro ?_ ?_)<;>refine Lf.mk ?_)
 ·have hR:kR m most=(wP,3):=by unfold kR;rw [if_pos (by omega)]
  refine zd (VS.mk ?_)
  (try dsimp only);rw [hR]
  (first | exact LeL.refl _ | (repeat' (first | exact LeL.nil | exact LeD.refl _ | exact LeD.nil _ | exact LeD.strip _ _ _ | refine LeL.cons ?_ ?_ | refine LeD.tup ?_ | refine LeD.agg ?_)))
  all_goals first | exact LeD.ff rfl | skip
 ·have hR:kR m most=(wP,3):=by unfold kR;rw [if_pos (by omega)]
  refine zd (VS.mk ?_)
  (try dsimp only);rw [hR]
  (first | exact LeL.refl _ | (repeat' (first | exact LeL.nil | exact LeD.refl _ | exact LeD.nil _ | exact LeD.strip _ _ _ | refine LeL.cons ?_ ?_ | refine LeD.tup ?_ | refine LeD.agg ?_)))
  all_goals first | exact LeD.ff rfl | skip
 have hR:kR m most=wS most.toNat m:=by unfold kR;rw [if_neg (by omega)]
 refine zb zk4 m ⟨hm.len,hm.syms,by omega⟩ (VS.mk (LeL.of_eq rfl)) ?_
 (all_goals refine qgv (Lf.mk ?_))
 refine yc (α:=Nat×zW) (fun p=>(p.1:Int)≤most∧InM (3 * p.1) p.2∧wS (most.toNat - p.1) p.2=wS most.toNat m)
  (fun p=>[(19,.int .i64 most),(20,.int .i64 p.1),(6,.loc 2 0),(4,.loc 1 0)])
  (fun p=>[.cells (vj m),.cells zBa,.cells (vj p.2)]) (fun p=>most.toNat - p.1) (fun _=>by simp [hE]) (0,m) ⟨by omega,hm,by rw [Nat.sub_zero]⟩ ?_ ?_
 ·(repeat' (first | (refine VS.mk ?_) | exact trivial | exact rfl | refine And.intro ?_ ?_))
 rintro ⟨k,x⟩ ⟨hk,hx,hrun⟩
 dsimp only at hk hx hrun
 refine ze _ ?_
 (all_goals refine qgv ?_<;>(repeat' first | exact trivial | intro hc | refine And.intro ?_ ?_)<;>refine Lf.mk ?_)
 ·refine zb zt5 x (hx.mono (by omega)) (VS.mk (LeL.of_eq rfl)) ?_
  have hin:=zxI hx
  obtain ⟨y,en,e,hy⟩:∃ y en e,xV x=(y,en,e):=⟨_,_,_,rfl⟩
  have hst:wS (most.toNat - k) x=if e≠0 then (wP,e) else if en=true then (y,0) else wS (most.toNat - (k+1)) y:=by
   rw [show most.toNat - k=(most.toNat - (k+1))+1 by omega,wS,hy]
  rw [hy] at hin
  unfold vC
  rw [hy]
  dsimp only at hin ⊢
  (all_goals refine qgv ?_<;>(repeat' first | exact trivial | intro hc | refine And.intro ?_ ?_)<;>refine Lf.mk ?_)
  ·rw [if_pos hc] at hst
   refine zd (VS.mk ?_)
   (try dsimp only);rw [hR,← hrun,hst]
   (first | exact LeL.refl _ | (repeat' (first | exact LeL.nil | exact LeD.refl _ | exact LeD.nil _ | exact LeD.strip _ _ _ | refine LeL.cons ?_ ?_ | refine LeD.tup ?_ | refine LeD.agg ?_)))
   all_goals first | exact LeD.ff rfl | skip
  ·rw [if_neg (by omega),if_pos hc] at hst
   refine zd (VS.mk ?_)
   (try dsimp only);rw [hR,← hrun,hst]
   (first | exact LeL.refl _ | (repeat' (first | exact LeL.nil | exact LeD.refl _ | exact LeD.nil _ | exact LeD.strip _ _ _ | refine LeL.cons ?_ ?_ | refine LeD.tup ?_ | refine LeD.agg ?_)))
  ·rw [if_neg (by omega),if_neg (by rw [hc];decide)] at hst
   refine zF (k+1,y) ⟨by dsimp only;omega,by dsimp only;exact (hin (by assumption)).mono (by omega),by dsimp only;rw [← hst,hrun]⟩ (by dsimp only;omega) ?_
   (repeat' (first | (refine VS.mk ?_) | exact trivial | exact rfl | refine And.intro ?_ ?_))
 ·have hst:wS (most.toNat - k) x=(wP,13):=by rw [show most.toNat - k=0 by omega];rfl
  refine zd (VS.mk ?_)
  (try dsimp only);rw [hR,← hrun,hst]
  (first | exact LeL.refl _ | (repeat' (first | exact LeL.nil | exact LeD.refl _ | exact LeD.nil _ | exact LeD.strip _ _ _ | refine LeL.cons ?_ ?_ | refine LeD.tup ?_ | refine LeD.agg ?_)))
  all_goals first | exact LeD.ff rfl | skip
end Go.Proofs.YtnkdeacghopkiaaGreatDoor
namespace Go.Proofs.YtnkdeacghopkiaaGreatDoor
open Go Go.Plat
set_option linter.unusedVariables false
set_option linter.unusedSimpArgs false
set_option maxRecDepth 100000
set_option maxHeartbeats 2000000
attribute [local irreducible] AWP zG yn zK zn yA z8 zI zY z6 zw za zN yB zt z7 yx yy yq yt zx zz zD
structure zhG (o:yz):Prop where
 right:yD o=0
 rels:∀ r∈o.rels, -9223372036854775808≤r.at_∧r.at_≤9223372036854775807∧r.name.length≤1000000000
 syms:∀ s∈o.syms,s.name.length≤1000000000
abbrev Src:=List UInt8×yz
def okD (o:yz):D:=.tup [vl o,.agg [.int .i64 0,.int .i64 0]]
def zt6 (U:Src→Prop):Prop:=za Tryz.prog zkp (zy (fun x:Src=>U x) (fun x=>[zk x.1]) fun x=>okD x.2)
theorem znA:zt6 (fun x=>zhy x.1∧xu x.1=(x.2,0,0)):=by
 refine zs2 zkS ?_
 rintro av L d L' ⟨x,⟨h1,h2⟩,h3,h4,h5⟩
 refine ⟨x.1,h1,h3,h4,h5.1.trans ?_,h5.2⟩
 dsimp only
 rw [h2]
 rfl
attribute [local irreducible] yD xT
theorem zqk {U:Src→Prop} (hU:zt6 U):za Tryz.prog zoI (zy (fun ((l,base):List Src×Int)=>l.length≤1000∧(∀ x∈l,U x∧zhG x.2)∧-9223372036854775808≤base∧base≤9223372036854775807)
  (fun (l,base)=>[.sl 1 (l.map fun x=>zk x.1) none,.int .i64 base]) fun (l,base)=>zjA (xT (l.map (·.2)) base)):=by
 refine zf zh Tryz.func25 rfl (by decide) ?_
 rintro ⟨l,base⟩ ⟨hl,hx,hb0,hb1⟩
 have hl:l.length≤1000:=hl
 refine ⟨Nat.le_refl _,by simp [Tryz.f25],fun E hE=>?_⟩
 refine ze _ ?_
 (all_goals refine qgp (Lf.mk ?_))
 refine x8 (qV 6 3 rfl) ?_
 refine yc (α:=Nat) (fun k=>k≤l.length) (fun k=>[(1,.int .i64 base),(4,.loc 0 0),(5,.loc 1 0),(11,.sl 1 (l.map fun x=>zk x.1) none),(12,.int .i64 l.length),(13,.int .i64 k),(6,.sl 3 (((l.take k).map (·.2)).map vl) (some 2))])
  (fun k=>[.cells [.int .i64 0,.nilsl,.nilsl],.cells [.int .i64 0,.int .i64 0],.spare ((l.take k).map (·.2)).length]) (fun k=>l.length - k) (fun _=>by simp [hE]) 0 (Nat.zero_le _) ?_ ?_
 ·(repeat' (first | (refine VS.mk ?_) | exact trivial | exact rfl | refine And.intro ?_ ?_))
 intro k hk
 have hk:k≤l.length:=hk
 refine ze _ ?_
 (all_goals refine qgp ?_<;>(repeat' first | exact trivial | intro hc | refine And.intro ?_ ?_)<;>refine Lf.mk ?_)
 ·obtain ⟨x,hxk⟩:=zP (l:=l) (k:=k) (by omega)
  have hkl:k < l.length:=by omega
  obtain ⟨hu,ho⟩:=hx x (List.mem_of_getElem? hxk)
  have htk:(l.take (k+1)).map (·.2)=(l.take k).map (·.2)++[x.2]:=by rw [List.take_add_one,hxk];simp
  refine zl (enc:=fun x:Src=>zk x.1) x (by omega) (by simpa using hxk) ?_
  (all_goals refine qgp ?_<;>(repeat' first | exact trivial | intro hc | refine And.intro ?_ ?_)<;>refine Lf.mk ?_)
  refine zb hU x hu (VS.mk (LeL.of_eq rfl)) ?_
  (all_goals refine qgp ?_<;>(repeat' first | exact trivial | intro hc | refine And.intro ?_ ?_)<;>refine Lf.mk ?_)
  unfold okD vl
  (all_goals refine qgp ?_<;>(repeat' first | exact trivial | intro hc | refine And.intro ?_ ?_)<;>refine Lf.mk ?_)
  all_goals first
   | (exfalso;exact (by assumption:¬ True) trivial)
   | skip
  refine zb zbg x.2 ⟨ho.rels,ho.syms⟩ (VS.mk (LeL.of_eq rfl)) ?_
  dsimp only
  rw [ho.right]
  (all_goals refine qgp ?_<;>(repeat' first | exact trivial | intro hc | refine And.intro ?_ ?_)<;>refine Lf.mk ?_)
  all_goals first
   | (exfalso;exact (by assumption:¬ True) trivial)
   | skip
  refine zF (k+1) (by show k+1≤_;omega) (by omega) ?_
  rw [htk,List.map_append]
  (repeat' (first | (refine VS.mk ?_) | exact trivial | exact rfl | refine And.intro ?_ ?_))
  simp
 ·have hk2:k=l.length:=by omega
  rw [hk2,List.take_length]
  refine zb zk3 (l.map (·.2),base) ⟨hb0,hb1,by show (l.map (·.2)).length≤_;rw [List.length_map];omega,fun o ho=>?_,fun o ho=>?_⟩ (VS.mk (LeL.of_eq rfl)) ?_
  ·obtain ⟨x,hx1,rfl⟩:=List.mem_map.1 ho
   exact (hx x hx1).2.rels
  ·obtain ⟨x,hx1,rfl⟩:=List.mem_map.1 ho
   exact (hx x hx1).2.syms
  dsimp only
  generalize xT (l.map (·.2)) base=X
  obtain ⟨⟨ib,ibs,iss⟩,e,a⟩:=X
  unfold zjA zf3 zt0
  dsimp only
  (all_goals refine qgp ?_<;>(repeat' first | exact trivial | intro hc | refine And.intro ?_ ?_)<;>refine Lf.mk ?_)
  exact zd (VS.mk (LeD.refl _))
structure zt7 (U:Src→Prop) (l:List (List UInt8×yz)) (base:Int) (img:jw) (m:zW) (e:Int):Prop where
 len:l.length≤4
 ok:∀ x∈l,U x∧zhG x.2
 bas:0≤base∧base≤1048576
 link:xT (l.map (·.2)) base=(img,0,0)
 ibase:img.base=base
 ilen:img.bytes.length≤1000000
 isym:img.syms.length≤1000000
 run:kR (zaD img) 2000=(m,e)
theorem zv5 {i:jw} (h:0≤i.base∧i.base≤1048576) (h1:i.bytes.length≤1000000) (h2:i.syms.length≤1000000):InM 0 (zaD i):=
 ⟨fun _ _=>⟨by show (-2147483648:Int)≤0;decide,by show (0:Int)≤2147483647;decide⟩,⟨by show _≤i.base;omega,by show i.base≤_;omega⟩,⟨by show _≤(-1:Int);decide,by show (-1:Int)≤_;decide⟩,h,by show i.bytes.length≤_;omega,by show i.syms.length≤_;omega,by show 0≤_;decide,⟨by show (0:Int)≤0;decide,by show (0:Int)≤_;decide⟩⟩
attribute [local irreducible] kR zaD
theorem zt8 {U:Src→Prop} (hU:zt6 U):za Tryz.prog zoF (zy (fun ((l,base,img,m,e):List Src×Int×jw×zW×Int)=>zt7 U l base img m e) (fun (l,base,_)=>[.int .i64 base,.sl 1 (l.map fun x=>.str x.1) none]) fun (_,_,_,m,e)=>.tup [.sl 1 (m.told.map zi7) none,.int .i64 e]):=by
 refine zf zh Tryz.func12 rfl (by decide) ?_
 rintro ⟨l,base,img,m,e⟩ h
 have h:zt7 U l base img m e:=h
 have hl:=h.len
 have hb:=h.bas
 refine ⟨Nat.le_refl _,by simp [Tryz.f12],fun E hE=>?_⟩
 refine ze _ ?_
 (all_goals refine qgp ?_<;>(repeat' first | exact trivial | intro hc | refine And.intro ?_ ?_)<;>refine Lf.mk ?_)
 refine x8 (qV 6 1 rfl) ?_
 refine yc (α:=Nat) (fun k=>k≤l.length) (fun k=>[(0,.int .i64 base),(13,.sl 1 (l.map fun x=>.str x.1) none),(14,.int .i64 l.length),(15,.int .i64 k),(6,.sl 1 ((l.take k).map fun x=>zk x.1) (some 0))])
  (fun k=>[.spare (l.take k).length]) (fun k=>l.length - k) (fun _=>by simp [hE]) 0 (Nat.zero_le _) ?_ ?_
 ·(repeat' (first | (refine VS.mk ?_) | exact trivial | exact rfl | refine And.intro ?_ ?_))
 intro k hk
 have hk:k≤l.length:=hk
 refine ze _ ?_
 (all_goals refine qgp ?_<;>(repeat' first | exact trivial | intro hc | refine And.intro ?_ ?_)<;>refine Lf.mk ?_)
 ·obtain ⟨x,hxk⟩:=zP (l:=l) (k:=k) (by omega)
  have hkl:k < l.length:=by omega
  have htk:l.take (k+1)=l.take k++[x]:=by rw [List.take_add_one,hxk];rfl
  refine zl (enc:=fun x:Src=>D.str x.1) x (by omega) (by simpa using hxk) ?_
  (all_goals refine qgp ?_<;>(repeat' first | exact trivial | intro hc | refine And.intro ?_ ?_)<;>refine Lf.mk ?_)
  refine zF (k+1) (by show k+1≤_;omega) (by omega) ?_
  rw [htk,List.map_append]
  (repeat' (first | (refine VS.mk ?_) | exact trivial | exact rfl | refine And.intro ?_ ?_))
  simp
 ·have hk2:k=l.length:=by omega
  rw [hk2,List.take_length]
  refine zb (zqk hU) (l,base) ⟨by show l.length≤1000;omega,h.ok,by show _≤base;omega,by show base≤_;omega⟩ (VS.mk (LeL.of_eq rfl)) ?_
  dsimp only
  rw [h.link]
  unfold zjA zf3 zt0
  dsimp only
  (all_goals refine qgp ?_<;>(repeat' first | exact trivial | intro hc | refine And.intro ?_ ?_)<;>refine Lf.mk ?_)
  all_goals first
   | (exfalso;exact (by assumption:¬ True) trivial)
   | skip
  refine zb zmW img ⟨by have:=h.ilen;omega,by have:=h.isym;omega⟩ (VS.mk (LeL.of_eq rfl)) ?_
  unfold zbl vj
  (all_goals refine qgp ?_<;>(repeat' first | exact trivial | intro hc | refine And.intro ?_ ?_)<;>refine Lf.mk ?_)
  refine zb zmX (zaD img,2000) (zv5 (by rw [h.ibase];exact hb) h.ilen h.isym) (VS.mk (LeL.of_eq rfl)) ?_
  dsimp only
  rw [h.run]
  unfold zbl vj
  dsimp only
  (all_goals refine qgp ?_<;>(repeat' first | exact trivial | intro hc | refine And.intro ?_ ?_)<;>refine Lf.mk ?_)
  exact zd (VS.mk (LeD.refl _))
end Go.Proofs.YtnkdeacghopkiaaGreatDoor
namespace Go.Proofs.YtnkdeacghopkiaaGreatDoor
open Go Go.Plat
set_option linter.unusedVariables false
set_option linter.unusedSimpArgs false
set_option maxRecDepth 100000
set_option maxHeartbeats 2000000
attribute [local irreducible] AWP zG yn zK zn yA z8 zI zY z6 zw za zN yB zt z7 yx yy yq yt zx zz zD
def zl1 (u:Nat):List UInt8:=if u < 10 then [UInt8.ofNat (48+u)] else if u < 100 then [UInt8.ofNat (48+u / 10),UInt8.ofNat (48+u % 10)] else [UInt8.ofNat (48+u / 10 / 10),UInt8.ofNat (48+u / 10 % 10),UInt8.ofNat (48+u % 10)]
def zbn (n:Int):List UInt8:=if n < 0 then 45::zl1 n.natAbs else zl1 n.toNat
theorem zv6 {u:Nat} (h:u < 1000):Lib.decDigits u=zl1 u:=by
 unfold zl1
 split
 ·exact Lib.decDigits_one (by assumption)
 split
 ·exact Lib.decDigits_two (by assumption) (by assumption)
 ·rw [Lib.decDigits,dif_neg (by assumption),Lib.decDigits_two (by omega) (by omega)]
  rfl
theorem zql {n:Int} (h0: -1000 < n) (h1:n < 1000):Lib.itoa n=zbn n:=by
 unfold Lib.itoa zbn
 rw [zv6 (by omega),zv6 (by omega)]
def zxJ:List UInt8:=[109,111,118,32,35]
def zt9:List UInt8:=[44,114,48,10,109,111,118,46,108,32,61,109,111,114,101,44,114,49,10,106,115,114,32,64,114,49,10,110,111,112,10,116,114,97,112,97,32,35,49,10,116,114,97,112,97,32,35,48,10]
def zua:List UInt8:=[109,111,114,101,58,32,114,116,115,10,97,100,100,32,35]
def zxK:List UInt8:=[44,114,48,10]
def zas:List UInt8:=[109,111,114,101]
def zih (s:List UInt8):List UInt8:=(zxJ++s)++zt9
def zii (s:List UInt8):List UInt8:=(zua++s)++zxK
def ji (a:Int):yz:=⟨[224,zr a,209,2,65,11,0,9,195,1,195,0,0,0,0,0],[],[⟨12,4,zas,0⟩]⟩
def zat (b:Int):yz:=⟨[0,11,112,zr b],[⟨zas,0⟩],[]⟩
def zyc (x:xr):Bool:=decide (zdV (zdf x)) && decide (x.toks.length≤1000000000) && decide (wt (x.toks.map tk)≤1048576)
def zk6 (b:List UInt8):Bool:=decide (b.length≤1000000000) && decide ((xv b).1.length≤200) && decide (zbK (xv b).1≤9000) && (xv b).1.all zyc
theorem zv7 {b:List UInt8} (h:zk6 b=true):zhy b:=by
 unfold zk6 at h
 simp only [Bool.and_eq_true,decide_eq_true_eq,List.all_eq_true] at h
 obtain ⟨⟨⟨h1,h2⟩,h3⟩,h4⟩:=h
 have h5:∀ x∈(xv b).1,zdV (zdf x)∧x.toks.length≤1000000000∧wt (x.toks.map tk)≤1048576:=fun x hx=>by
  have:=h4 x hx
  unfold zyc at this
  simp only [Bool.and_eq_true,decide_eq_true_eq] at this
  exact ⟨this.1.1,this.1.2,this.2⟩
 exact ⟨h1,⟨h2,fun x hx=>⟨(h5 x hx).1,(h5 x hx).2.1⟩⟩,h3,fun x hx=>(h5 x hx).2.2⟩
def obC (o:yz):Bool:=decide (yD o=0) && o.rels.all (fun r=>decide (-9223372036854775808≤r.at_∧r.at_≤9223372036854775807∧r.name.length≤1000000000)) && o.syms.all fun s=>decide (s.name.length≤1000000000)
theorem zAI {o:yz} (h:obC o=true):zhG o:=by
 unfold obC at h
 simp only [Bool.and_eq_true,decide_eq_true_eq,List.all_eq_true] at h
 exact ⟨h.1.1,h.1.2,h.2⟩
theorem zk7 {α β:Type} {f g:α→β} {l:List α} (h:l.map f=l.map g) {x:α} (hx:x∈l):f x=g x:=by
 induction l with
 | nil=>cases hx
 | cons y l ih=>
  rw [List.map_cons,List.map_cons] at h
  injection h with h1 h2
  rcases List.mem_cons.1 hx with rfl | hx
  ·exact h1
  ·exact ih h2 hx
def zqm (b:List UInt8) (o:yz):(yz×Int×Int)×Bool×Bool:=(xu b,zk6 b,obC o)
theorem zxL:(List.range 201).map (fun k:Nat=>zqm (zih (zbn ((k:Int) - 100))) (ji ((k:Int) - 100)))=(List.range 201).map fun k:Nat=>((ji ((k:Int) - 100),0,0),true,true):=by kernel_rfl
theorem zxM:(List.range 201).map (fun k:Nat=>zqm (zii (zbn ((k:Int) - 100))) (zat ((k:Int) - 100)))=(List.range 201).map fun k:Nat=>((zat ((k:Int) - 100),0,0),true,true):=by kernel_rfl
theorem zl2 {l:List UInt8} {j:Int} {c:UInt8} {i:Int} (h:i≠j):xk (yX l j c) i=xk l i:=by
 unfold yX
 split
 ·unfold xk
  simp only [List.length_set]
  split
  ·rw [List.getD_eq_getElem?_getD,List.getD_eq_getElem?_getD,List.getElem?_set_ne (by omega)]
  ·rfl
 ·rfl
theorem zgy {l:List UInt8} {j:Int} {c:UInt8} (h0:0≤j) (h1:j < l.length):xk (yX l j c) j=c.toNat:=by
 unfold yX
 rw [if_pos ⟨h0,h1⟩]
 unfold xk
 rw [if_pos (by simp;omega)]
 rw [List.getD_eq_getElem?_getD,List.getElem?_set_self (by omega)]
 rfl
theorem zeS (at_:Int):∀ (k:Nat) (l:List UInt8) (n i:Int),(i < at_∨at_+k≤i)→xk (yv l at_ k n) i=xk l i
 | 0,l,n,i,_=>rfl
 | k+1,l,n,i,h=>by
  rw [yv,zeS at_ k _ _ i (by omega),zl2 (by omega)]
theorem zhH {b c:List UInt8} {at_:Int}:∀ k:Nat,(∀ i,at_≤i→i < at_+k→xk b i=xk c i)→z1 b at_ k=z1 c at_ k
 | 0,_=>rfl
 | k+1,h=>by rw [z1,z1,zhH k (fun i h1 h2=>h i h1 (by omega)),h (at_+k) (by omega) (by omega)]
theorem zmY (at_:Int) (h0:0≤at_):∀ (k:Nat) (l:List UInt8) (n:Int),at_+k≤l.length→0≤n→n < 256 ^ k→z1 (yv l at_ k n) at_ k=n
 | 0,l,n,_,h1,h2=>by simp at h2;simp [z1];omega
 | k+1,l,n,hl,h1,h2=>by
  rw [Int.pow_succ] at h2
  rw [z1,yv,zmY at_ h0 k _ _ (by rw [zhg];omega) (by omega) (by omega),zeS at_ k _ _ _ (by omega),zgy (by omega) (by omega),yG]
  omega
attribute [local irreducible] xX yY yw yI zL vS we jv xv yO wo wd wJ okC puF puR wa zU wk
end Go.Proofs.YtnkdeacghopkiaaGreatDoor
namespace Go.Proofs.YtnkdeacghopkiaaGreatDoor
open Go Go.Plat
set_option linter.unusedVariables false
set_option linter.unusedSimpArgs false
set_option maxRecDepth 100000
set_option maxHeartbeats 2000000
attribute [local irreducible] AWP zG yn zK zn yA z8 zI zY z6 zw za zN yB zt z7 yx yy yq yt zx zz zD xX yY yw yI zL vS we jv yO wo wd wJ okC puF puR wa zU wk
end Go.Proofs.YtnkdeacghopkiaaGreatDoor
namespace Go.Proofs.YtnkdeacghopkiaaGreatDoor
open Go Go.Plat
set_option linter.unusedVariables false
set_option linter.unusedSimpArgs false
set_option maxRecDepth 100000
set_option maxHeartbeats 2000000
attribute [local irreducible] AWP zG yn zK zn yA z8 zI zY z6 zw za zN yB zt z7 yx yy yq yt zx zz zD
theorem zxN {n:Int} (h0:0≤n) (h1:n < 4294967296):zg n 32=if n < 2147483648 then n else n - 4294967296:=by
 have:zg n 32=if n % 4294967296 / 2147483648=1 then n % 4294967296 - 4294967296 else n % 4294967296:=rfl
 rw [this]
 split
 ·rw [if_neg (by omega)];omega
 ·rw [if_pos (by omega)];omega
theorem zqn {n:Int} (h:n % 4=0):upI n=n:=by unfold upI;omega
theorem zqo {n:Int} (h:n % 4=0) (k:Nat) (hk:k % 4=0):upI (n+(k:Int))=n+(k:Int):=zqn (by omega)
theorem zss {base n:Int} {o:yz} {l:List yz} {i:Nat} {bs bs':List UInt8} {ss ss':List zH} (h1:upI n=n) (h2:zdY n o.syms ss=some ss') (h3:zbL bs (n - base).toNat o.code=bs') :
  lay base (o::l) n i bs ss=lay base l (n+o.code.length) (i+1) bs' ss':=by rw [lay,h1,h2,h3]
theorem zst {base n:Int} {o:yz} {l:List yz} {i:Nat} {bs bs':List UInt8} {ss:List zH} (h1:upI n=n) (h2:zbk base n ss o.rels bs= .inr bs') :
  fix base ss (o::l) n i bs=fix base ss l (n+o.code.length) (i+1) bs':=by rw [fix,h1,h2]
theorem zxO {base b a:Int} {ss:List zH} {r:qZ} {l:List qZ} {bs:List UInt8} (h1:zcA b ss r=some a) (h2:r.size=4) (h3:zg (a+r.add) 32=a+r.add) :
  zbk base b ss (r::l) bs=zbk base b ss l (yv bs (b - base+r.at_) 4 (a+r.add)):=by
 rw [zbk,h1]
 dsimp only
 rw [if_neg (fun h=>by have:=h.1;omega),h2,h3]
 rfl
theorem zv8 {n:Int} (h0:0≤n) (h1:n≤100000):zg n 32=n:=by rw [zxN h0 (by omega),if_pos (by omega)]
def wT (a b:Int):List UInt8:=[224,zr a,209,2,65,11,0,9,195,1,195,0,0,0,0,0,0,11,112,zr b]
theorem zv9 {a b base:Int} (h0:0≤base) (h1:base≤4000) (h4:base % 4=0) (hm:yD (ji a)=0) (ho:yD (zat b)=0) :
  xT [ji a,zat b] base=(⟨base,yv (wT a b) 12 4 (base+16),[⟨zas,base+16⟩]⟩,0,0):=by
 unfold xT zgk
 rw [if_neg (by omega),if_neg (by show ¬ (2 < 1∨4 < 2);omega)]
 have hw:kW [ji a,zat b] 0=none:=by rw [kW,if_pos hm,kW,if_pos ho,kW]
 have e16:base+((ji a).code.length:Int)=base+((16:Nat):Int):=rfl
 have hl:lay base [ji a,zat b] base 0 [] []= .inr (wT a b,[⟨zas,base+16+0⟩]):=by
  rw [zss (bs':=(ji a).code) (ss':=[]) (zqn h4) rfl (by rw [Int.sub_self];rfl),e16,
   zss (bs':=wT a b) (ss':=[⟨zas,base+16+0⟩]) (zqo h4 16 rfl) rfl (by rw [show (base+((16:Nat):Int) - base).toNat=16 by omega];rfl),lay]
 rw [Int.add_zero] at hl
 have hf:fix base [⟨zas,base+16⟩] [ji a,zat b] base 0 (wT a b)= .inr (yv (wT a b) 12 4 (base+16)):=by
  rw [zst (bs':=yv (wT a b) (base - base+12) 4 (base+16+0)) (zqn h4) (by
   refine (zxO (a:=base+16) rfl rfl (zv8 (by show 0≤base+16+0;omega) (by show base+16+0≤_;omega))).trans ?_
   rfl),e16,zst (zqo h4 16 rfl) rfl,fix,Int.sub_self,Int.zero_add,Int.add_zero]
 rw [hw,hl]
 dsimp only
 rw [hf]
theorem zxP {m:zW} {base k w:Int} {i:Ins} (hb:m.img.base=base) (h2:base % 4=0) (hk:0≤k) (hk2:k % 2=0) (hl:k+2≤m.img.bytes.length) (hg:z1 m.img.bytes k 2=w) (hd:xY w=(i,0)):xZ m (base+k)=(i,0):=by
 unfold xZ inM
 rw [hb,if_pos (decide_eq_true ⟨by omega,by omega,by omega⟩),show base+k - base=k by omega,hg,hd]
theorem zjE {n:Nat} {m x:zW} {base k:Int} {i:Ins} (k':Int) (hpc:m.pc=base+k) (hf:xZ m (base+k)=(i,0)) (h1:¬ (i.op=27∧i.imm=0)) (h2:kq i.op=false) (hp:ym { m with steps:=m.steps+1 } i (base+k)=(x,0)) (hx:x.pc+2=base+k') :
  wS (n+1) m=wS n { x with pc:=base+k' }:=by
 have hs:xV m=({ x with pc:=base+k' },false,0):=by
  unfold xV
  rw [hpc,hf]
  dsimp only
  rw [hpc] at hp
  rw [if_neg (fun h=>h rfl),if_neg h1,if_pos h2,hp]
  dsimp only
  rw [if_neg (fun h=>h rfl),hx]
 rw [wS,hs]
 dsimp only
 rw [if_neg (fun h=>h rfl),if_neg (by decide)]
theorem zsu {n:Nat} {m m2 x:zW} {base k:Int} {i j:Ins} (k2 k3:Int) (hpc:m.pc=base+k) (hf:xZ m (base+k)=(i,0)) (h1:i.op≠27) (h2:kq i.op=true) (hl:wb { m with steps:=m.steps+1 } i=(m2,base+k2,true)) (hm:m2.pc+2=base+k3)
  (hj:xZ m2 (base+k3)=(j,0)) (hj1:kq j.op=false) (hj2:j.op≠27) (hp:ym m2 j (base+k3)=(x,0)):wS (n+1) m=wS n { x with pc:=base+k2 }:=by
 have hs:xV m=({ x with pc:=base+k2 },false,0):=by
  unfold xV
  rw [hpc,hf]
  dsimp only
  rw [hpc] at hl
  rw [if_neg (fun h=>h rfl),if_neg (fun h=>h1 h.1),if_neg (by rw [h2];decide),hl]
  dsimp only
  rw [if_pos rfl]
  unfold wR
  rw [hm,hj]
  dsimp only
  rw [if_neg (fun h => h rfl), if_neg (by rintro (h | h); · rw [hj1] at h; cases h
                                          ·exact hj2 h),hp]
  dsimp only
  rw [if_neg (fun h=>h rfl)]
 rw [wS,hs]
 dsimp only
 rw [if_neg (fun h=>h rfl),if_neg (by decide)]
theorem zAJ {n:Nat} {m:zW} {base k:Int} {i:Ins} (hpc:m.pc=base+k) (hf:xZ m (base+k)=(i,0)) (h1:i.op=27∧i.imm=0):wS (n+1) m=({ m with steps:=m.steps+1 },0):=by
 have hs:xV m=({ m with steps:=m.steps+1 },true,0):=by
  unfold xV
  rw [hpc,hf]
  dsimp only
  rw [if_neg (fun h=>h rfl),if_pos h1]
 rw [wS,hs]
 dsimp only
 rw [if_neg (fun h=>h rfl),if_pos rfl]
theorem zzu {m:zW} {n imm at_ base k v:Int} (hb:m.img.base=base) (h4:base % 4=0) (hk:0≤k) (hk4:k % 4=0) (hl:k+4≤m.img.bytes.length) (ht:(at_+4) - (at_+4) % 4+4 * imm=base+k) (hg:z1 m.img.bytes k 4=v) (hs:zg v 32=v) :
  ym m ⟨24,n,0,imm⟩ at_=(xU m n v,0):=by
 have hto:toM ⟨24,n,0,imm⟩ at_=base+k:=by
  unfold toM
  have hs:vM 24=8:=by kernel_rfl
  dsimp only
  rw [hs,if_neg (by decide),if_pos rfl,ht]
 unfold ym
 dsimp only
 rw [if_neg (by decide),if_neg (by decide),if_neg (by decide),if_neg (by decide),if_neg (by decide),if_pos (.inr (.inl rfl))]
 unfold wQ
 dsimp only
 rw [if_neg (show ¬ (24:Int)=26 by decide),if_neg (show ¬ (24:Int)=23 by decide),if_neg (show ¬ (24:Int)=23 by decide),hto]
 unfold inM
 rw [hb,if_pos (decide_eq_true ⟨by omega,by omega,by omega⟩),show base+k - base=k by omega,hg,hs]
theorem zl3 (l:List UInt8) (at_:Int) (k:Nat) (n:Int):(yv l at_ k n).length=l.length:=kM _ _ _ _
theorem zxQ {l:List UInt8} {p n k:Int} {j:Nat} (h:k+j≤p∨p+4≤k):z1 (yv l p 4 n) k j=z1 l k j:=zhH j fun i h1 h2=>zeS p 4 l n i (by omega)
theorem zzv:(List.range 201).map (fun k:Nat=>xY (57344+((zr ((k:Int) - 100)).toNat:Int)))=(List.range 201).map fun k:Nat=>((⟨3,0,0,(k:Int) - 100⟩:Ins),0):=by kernel_rfl
theorem zzw:(List.range 201).map (fun k:Nat=>xY (28672+((zr ((k:Int) - 100)).toNat:Int)))=(List.range 201).map fun k:Nat=>((⟨4,0,0,(k:Int) - 100⟩:Ins),0):=by kernel_rfl
theorem znS {a:Int} (h0: -100≤a) (h1:a≤100):∃ k:Nat,k∈List.range 201∧((k:Int) - 100)=a:=⟨(a+100).toNat,List.mem_range.2 (by omega),by omega⟩
theorem zub {a:Int} (h0: -100≤a) (h1:a≤100):xY (57344+((zr a).toNat:Int))=(⟨3,0,0,a⟩,0):=by
 obtain ⟨k,hk,rfl⟩:=znS h0 h1
 exact zk7 zzv hk
theorem zuc {a:Int} (h0: -100≤a) (h1:a≤100):xY (28672+((zr a).toNat:Int))=(⟨4,0,0,a⟩,0):=by
 obtain ⟨k,hk,rfl⟩:=znS h0 h1
 exact zk7 zzw hk
theorem zwa {n:Int} (h0: -1000≤n) (h1:n≤1000):zg n 32=n:=by
 have h:zg n 32=if n % 4294967296 / 2147483648=1 then n % 4294967296 - 4294967296 else n % 4294967296:=rfl
 rw [h]
 split<;>omega
theorem zwb (m:zW) (n a at_:Int):ym m ⟨3,n,0,a⟩ at_=(xU m n a,0):=by unfold ym;dsimp only;rw [if_pos rfl]
theorem zwc {m:zW} {b at_ s:Int} (h:zg (m.r 0+b) 32=s):ym m ⟨4,0,0,b⟩ at_=(xU m 0 s,0):=by
 unfold ym
 dsimp only
 rw [if_neg (by decide),if_pos rfl,show m.r (0:Int).toNat=m.r 0 from rfl,h]
theorem zwd (m:zW) (at_:Int):ym m ⟨1,0,0,0⟩ at_=(m,0):=by
 unfold ym
 dsimp only
 rw [if_neg (by decide),if_neg (by decide),if_neg (by decide),if_neg (by decide),if_neg (by decide),if_neg (by decide),if_neg (by decide),if_neg (by decide)]
 unfold zgl
 dsimp only
 rw [if_neg (by decide),if_neg (by decide),if_neg (by decide),if_neg (by decide),if_neg (by decide),if_neg (by decide),if_neg (by decide),if_neg (by decide),if_neg (by decide)]
theorem zud (m:zW) (at_:Int):ym m ⟨27,0,0,1⟩ at_=({ m with told:=m.told++[m.r 0] },0):=by
 unfold ym
 dsimp only
 rw [if_neg (by decide),if_neg (by decide),if_neg (by decide),if_neg (by decide),if_neg (by decide),if_neg (by decide),if_neg (by decide),if_pos rfl]
theorem zxR {m:zW} {n t:Int} (h:m.r n.toNat=t):wb m ⟨22,n,0,0⟩=({ m with pr:=m.pc+4 },t,true):=by
 unfold wb
 dsimp only
 rw [if_neg (by decide),if_neg (by decide),if_neg (by decide),if_neg (by decide),if_pos rfl,h]
theorem zxS {m:zW} {t:Int} (h:m.pr=t):wb m ⟨2,0,0,0⟩=(m,t,true):=by
 unfold wb
 dsimp only
 rw [if_neg (by decide),if_neg (by decide),if_pos rfl,h]
theorem zzx:xY 53506=(⟨24,1,0,2⟩,0)∧xY 53505=(⟨24,1,0,1⟩,0)∧xY 16651=(⟨22,1,0,0⟩,0)∧xY 16683=(⟨21,1,0,0⟩,0)∧xY 9=(⟨1,0,0,0⟩,0)∧xY 11=(⟨2,0,0,0⟩,0)∧xY 49921=(⟨27,0,0,1⟩,0)∧xY 49920=(⟨27,0,0,0⟩,0):=
 ⟨by kernel_rfl,by kernel_rfl,by kernel_rfl,by kernel_rfl,by kernel_rfl,by kernel_rfl,by kernel_rfl,by kernel_rfl⟩
theorem zAK {x y:Int} {l:List UInt8} {k v:Int} (hx:xk l (k+0)=x) (hy:xk l (k+1)=y) (h:x * 256+y=v):z1 l k 2=v:=by
 show (0 * 256+xk l (k+((0:Nat):Int))) * 256+xk l (k+((1:Nat):Int))=v
 rw [show k+((0:Nat):Int)=k+0 from rfl,show k+((1:Nat):Int)=k+1 from rfl,hx,hy]
 omega
theorem jD {l:List UInt8} {p n k w:Int} (h:k+((2:Nat):Int)≤p∨p+4≤k) (hg:z1 l k 2=w):z1 (yv l p 4 n) k 2=w:=(zxQ h).trans hg
def zR:Nat→Int:=fun _=>0
attribute [local irreducible] wS xZ ym wb xY xV z1 yv
theorem zxT {a b base:Int} (ha0: -100≤a) (ha1:a≤100) (hb0: -100≤b) (hb1:b≤100) (h0:0≤base) (h1:base≤4000) (h4:base % 4=0) (ss:List zH) :
  ∃ m,(∀ n:Nat,n≤1994→kR (zaD ⟨base,yv (wT a b) 12 4 (base+16),ss⟩) ((n+6:Nat):Int)=(m,0))∧m.told=[a+b]:=by
 obtain ⟨d1,_,d3,_,d5,d6,d7,d8⟩:=zzx
 have dm:=zub ha0 ha1
 have da:=zuc hb0 hb1
 have hBl:(yv (wT a b) 12 4 (base+16)).length=20:=zl3 _ _ _ _
 have g0:z1 (yv (wT a b) 12 4 (base+16)) 0 2=57344+((zr a).toNat:Int):=jD (by omega) (zAK (x:=224) (y:=((zr a).toNat:Int)) (by kernel_rfl) (by kernel_rfl) (by omega))
 have g2:z1 (yv (wT a b) 12 4 (base+16)) 2 2=53506:=jD (by omega) (by kernel_rfl)
 have g4:z1 (yv (wT a b) 12 4 (base+16)) 4 2=16651:=jD (by omega) (by kernel_rfl)
 have g6:z1 (yv (wT a b) 12 4 (base+16)) 6 2=9:=jD (by omega) (by kernel_rfl)
 have g8:z1 (yv (wT a b) 12 4 (base+16)) 8 2=49921:=jD (by omega) (by kernel_rfl)
 have g10:z1 (yv (wT a b) 12 4 (base+16)) 10 2=49920:=jD (by omega) (by kernel_rfl)
 have g16:z1 (yv (wT a b) 12 4 (base+16)) 16 2=11:=jD (by omega) (by kernel_rfl)
 have g18:z1 (yv (wT a b) 12 4 (base+16)) 18 2=28672+((zr b).toNat:Int):=jD (by omega) (zAK (x:=112) (y:=((zr b).toNat:Int)) (by kernel_rfl) (by kernel_rfl) (by omega))
 have g12:z1 (yv (wT a b) 12 4 (base+16)) 12 4=base+16:=zmY 12 (by decide) 4 _ _ (by show (12:Int)+4≤20;decide) (by omega) (by show base+16 < 4294967296;omega)
 generalize yv (wT a b) 12 4 (base+16)=B at *
 have hI:∃ img:jw,img=⟨base,B,ss⟩:=⟨_,rfl⟩
 obtain ⟨img,hI⟩:=hI
 have F:∀ {m:zW} {k w:Int} {i:Ins},m.img=img→0≤k→k % 2=0→k+2≤20→z1 B k 2=w→xY w=(i,0)→xZ m (base+k)=(i,0):=fun {m k w i} hm a1 a2 a3 a4 a5=>zxP (by rw [hm,hI]) h4 a1 a2 (by rw [hm,hI];show k+2≤(B.length:Int);omega) (by rw [hm,hI];exact a4) a5
 rw [← hI]
 refine ⟨{ (⟨up (up (up zR 0 a) 1 (base+16)) 0 (a+b),false,base+10,base+4+4,img,[]++[a+b],0+1+1+1+1+1⟩:zW) with steps:=0+1+1+1+1+1+1 },fun n hn=>?_,rfl⟩
 have e0:kR (zaD img) ((n+6:Nat):Int)=wS (n+6) ⟨zR,false,base, -1,img,[],0⟩:=by
  unfold kR zaD
  rw [if_neg (by omega),hI,Int.toNat_natCast]
  rfl
 have e1:wS (n+6) ⟨zR,false,base, -1,img,[],0⟩=wS (n+5) ⟨up zR 0 a,false,base+2, -1,img,[],0+1⟩:=
  zjE (base:=base) (k:=0) 2 (Int.add_zero base).symm (F rfl (by decide) (by decide) (by decide) g0 dm) (fun h=>absurd h.1 (by show ¬ (3:Int)=27;decide)) (by show kq 3=false;kernel_rfl) (zwb _ 0 a _) rfl
 have e2:wS (n+5) ⟨up zR 0 a,false,base+2, -1,img,[],0+1⟩=wS (n+4) ⟨up (up zR 0 a) 1 (base+16),false,base+4, -1,img,[],0+1+1⟩:=
  zjE (base:=base) (k:=2) 4 rfl (F rfl (by decide) (by decide) (by decide) g2 d1) (fun h=>absurd h.1 (by decide)) (by kernel_rfl)
   (zzu (base:=base) (k:=12) (v:=base+16) (by rw [hI]) h4 (by decide) (by decide) (by rw [hI];show (12:Int)+4≤(B.length:Int);omega) (by omega) (by rw [hI];exact g12) (zv8 (by omega) (by omega))) (by show base+2+2=base+4;omega)
 have e3:wS (n+4) ⟨up (up zR 0 a) 1 (base+16),false,base+4, -1,img,[],0+1+1⟩=wS (n+3) ⟨up (up zR 0 a) 1 (base+16),false,base+16,base+4+4,img,[],0+1+1+1⟩:=
  zsu (base:=base) (k:=4) 16 6 rfl (F rfl (by decide) (by decide) (by decide) g4 d3) (by decide) (by kernel_rfl) (zxR rfl) (by show base+4+2=base+6;omega) (F rfl (by decide) (by decide) (by decide) g6 d5) (by kernel_rfl) (by decide) (zwd _ _)
 have e4:wS (n+3) ⟨up (up zR 0 a) 1 (base+16),false,base+16,base+4+4,img,[],0+1+1+1⟩=wS (n+2) ⟨up (up (up zR 0 a) 1 (base+16)) 0 (a+b),false,base+8,base+4+4,img,[],0+1+1+1+1⟩:=
  zsu (base:=base) (k:=16) 8 18 rfl (F rfl (by decide) (by decide) (by decide) g16 d6) (by decide) (by kernel_rfl) (zxS (by show base+4+4=base+8;omega)) (by show base+16+2=base+18;omega) (F rfl (by decide) (by decide) (by decide) g18 da) (by show kq 4=false;kernel_rfl) (by show (4:Int)≠27;decide)
   (zwc (s:=a+b) (zwa (by show -1000≤a+b;omega) (by show a+b≤1000;omega)))
 have e5:wS (n+2) ⟨up (up (up zR 0 a) 1 (base+16)) 0 (a+b),false,base+8,base+4+4,img,[],0+1+1+1+1⟩=wS (n+1) ⟨up (up (up zR 0 a) 1 (base+16)) 0 (a+b),false,base+10,base+4+4,img,[]++[a+b],0+1+1+1+1+1⟩:=
  zjE (base:=base) (k:=8) 10 rfl (F rfl (by decide) (by decide) (by decide) g8 d7) (fun h=>absurd h.2 (by decide)) (by kernel_rfl) (zud _ _) (by show base+8+2=base+10;omega)
 exact (((((e0.trans e1).trans e2).trans e3).trans e4).trans e5).trans (zAJ (base:=base) (k:=10) rfl (F rfl (by decide) (by decide) (by decide) g10 d8) ⟨rfl,rfl⟩)
end Go.Proofs.YtnkdeacghopkiaaGreatDoor
namespace Go.Proofs.YtnkdeacghopkiaaGreatDoor
open Go Go.Plat
set_option linter.unusedVariables false
set_option linter.unusedSimpArgs false
set_option maxRecDepth 100000
set_option maxHeartbeats 2000000
attribute [local irreducible] AWP zG yn zK zn yA z8 zI zY z6 zw za zN yB zt z7 yx yy yq yt zx zz zD
theorem zsv (u:Nat):(zl1 u).length≤3:=by
 unfold zl1
 split
 ·show 1≤3;decide
 split
 ·show 2≤3;decide
 ·show 3≤3;decide
theorem zij (n:Int):(zbn n).length≤4:=by
 unfold zbn
 split
 ·have:=zsv n.natAbs;rw [List.length_cons];omega
 ·have:=zsv n.toNat;omega
theorem zik {s t:List UInt8} {K:D→Prop} (p q:Nat) (hs:s.length≤p) (ht:t.length≤q) (hb:p+q≤1000000) (h:∀ y,y=s++t→y.length≤p+q→K (.str y)):yA s t K:=
 zkc (by omega) (h _ rfl (by rw [List.length_append];omega))
abbrev UP:Src→Prop:=fun x=>zhy x.1∧xu x.1=(x.2,0,0)
theorem zqp {b:List UInt8} {o:yz} (h:zqm b o=((o,0,0),true,true)):UP (b,o)∧zhG o:=by
 unfold zqm at h
 rw [Prod.mk.injEq,Prod.mk.injEq (zk6 b)] at h
 exact ⟨⟨zv7 h.2.1,h.1⟩,zAI h.2.2⟩
theorem zsw {a:Int} (h0: -100≤a) (h1:a≤100):UP (zih (zbn a),ji a)∧zhG (ji a):=by
 obtain ⟨k,hk,rfl⟩:=znS h0 h1
 exact zqp (zk7 zxL hk)
theorem zsx {a:Int} (h0: -100≤a) (h1:a≤100):UP (zii (zbn a),zat a)∧zhG (zat a):=by
 obtain ⟨k,hk,rfl⟩:=znS h0 h1
 exact zqp (zk7 zxM hk)
def zk8:List UInt8:=[109,111,118,32,35,53,44,114,48,10,116,114,97,112,97,32,35,49,10,116,114,97,112,97,32,35,48,10]
def znT:yz:=⟨[224,5,195,1,195,0],[],[]⟩
theorem zxU:zqm zk8 znT=((znT,0,0),true,true):=by kernel_rfl
def zk9:jw:=⟨0,[224,5,195,1,195,0],[]⟩
theorem zzy:zt7 UP [(zk8,znT)] 0 zk9 (kR (zaD zk9) 2000).1 0:=
 ⟨by decide,fun x hx=>by rw [List.mem_singleton.1 hx];exact zqp zxU,⟨by decide,by decide⟩,by kernel_rfl,rfl,by decide,by decide,Prod.ext rfl (by kernel_rfl)⟩
theorem zwe:(kR (zaD zk9) 2000).1.told=[5]:=by kernel_rfl
attribute [local irreducible] kR zaD zbn zk8 zih zii
theorem zqq:za Tryz.prog znk (zy (fun _:Unit=>True) (fun _=>[]) fun _=>.bool true):=by
 refine zf zh Tryz.func10 rfl (by decide) fun _ _=>?_
 refine ⟨Nat.le_refl _,by simp [Tryz.f10],fun E hE=>?_⟩
 refine ze _ ?_
 (all_goals refine qgp ?_<;>(repeat' first | exact trivial | intro hc | refine And.intro ?_ ?_)<;>refine Lf.mk ?_)
 refine zb (zt8 znA) ([(zk8,znT)],0,zk9,(kR (zaD zk9) 2000).1,0) zzy (VS.mk (LeL.of_eq (by unfold zk8;rfl))) ?_
 dsimp only
 rw [zwe]
 (all_goals refine qgp ?_<;>(repeat' first | exact trivial | intro hc | refine And.intro ?_ ?_)<;>refine Lf.mk ?_)
 ·exact zd (VS.mk (LeD.of_eq rfl))
 ·exact absurd trivial hc
end Go.Proofs.YtnkdeacghopkiaaGreatDoor
namespace Go.Proofs.YtnkdeacghopkiaaGreatDoor
open Go Go.Plat
set_option linter.unusedVariables false
set_option linter.unusedSimpArgs false
set_option maxRecDepth 100000
set_option maxHeartbeats 2000000
attribute [local irreducible] AWP zG yn zK zn yA z8 zI zY z6 zw za zN yB zt z7 yx yy yq yt zx zz zD yw zL zar zaq yO zb3 zg yD
end Go.Proofs.YtnkdeacghopkiaaGreatDoor
