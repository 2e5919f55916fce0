/-
  A part of the proof: what the given program's functions answer, each once; conditions that are enough for it.
-/
import Derived.Test.YtnkdeacghopkiaaGreatDoorSt1
import Derived.Test.YtnkdeacghopkiaaGreatDoorFw3
namespace Go.Proofs.YtnkdeacghopkiaaGreatDoor
open Go Go.Plat
set_option linter.unusedVariables false
set_option linter.unusedSimpArgs false
set_option maxRecDepth 100000
set_option maxHeartbeats 2000000
attribute [local irreducible] AWP zG yn zK zn yA z8 zI zY z6 zw za zN yB zt z7 yx yy yq yt zx zz zD zbW xE xc zeK zf2 zg zda zdb
structure Ins where
 op:Int
 n:Int
 m:Int
 imm:Int
def zaB (i:Ins):D:=.agg [.int .i64 i.op,.int .i64 i.n,.int .i64 i.m,.int .i64 i.imm]
def zcv (r:zbF) (i:Ins):Prop:=i.n < 0∨15 < i.n∨(zda r.shape=false∧i.n≠0)∨i.m < 0∨15 < i.m∨(zdb r.shape=false∧i.m≠0)∨i.imm < zeK r.shape∨zbW r.shape < i.imm
instance (r:zbF) (i:Ins):Decidable (zcv r i):=by unfold zcv;infer_instance
def xf (i:Ins):Int:=match xE i.op with
 | none=>1
 | some r=>if zcv r i then 3 else 0
theorem zu2:∀ r∈xc,r.name≠[]:=by unfold xc;decide
theorem zmy {op:Int} {r:zbF} (h:xE op=some r):r∈xc∧r.op=op:=by
 unfold xE at h
 exact ⟨List.mem_of_find?_eq_some h,by simpa using List.find?_some h⟩
theorem qh:za Tryz.prog zq3 (zy (fun _:Ins=>True) (fun i=>[zaB i]) fun i=>.int .i64 (xf i)):=by
 refine zf zh Tryz.func158 rfl (by decide) fun i _=>?_
 refine ⟨Nat.le_refl _,by simp [Tryz.f158],fun E hE=>?_⟩
 refine ze _ ?_
 (all_goals refine qgo (Lf.mk ?_))
 refine zb zc9 i.op trivial (VS.mk (by (first | exact LeL.refl _ | (repeat' (first | exact LeL.nil | exact LeD.refl _ | exact LeD.nil _ | exact LeD.strip _ _ _ | refine LeL.cons ?_ ?_ | refine LeD.tup ?_ | refine LeD.agg ?_))))) ?_
 cases hi:xE i.op with
 | none=>
  have hw:xf i=1:=by unfold xf;rw [hi]
  rw [show jO i.op= .tup [.str [],.int .i64 0] by unfold jO;rw [hi]]
  (all_goals refine qgo ?_<;>(repeat' first | exact trivial | intro hc | refine And.intro ?_ ?_)<;>refine Lf.mk ?_)
  ·refine zd (VS.mk (LeD.of_eq ?_))
   rw [hw]
  ·exfalso;exact hc trivial
 | some r=>
  have hn:r.name≠[]:=zu2 r (zmy hi).1
  have hw:xf i=if zcv r i then 3 else 0:=by unfold xf;rw [hi]
  rw [show jO i.op= .tup [.str r.name,.int .i64 r.shape] by unfold jO;rw [hi]]
  (all_goals refine qgo ?_<;>(repeat' first | exact trivial | intro hc | refine And.intro ?_ ?_)<;>refine Lf.mk ?_)
  ·exfalso;exact hn hc
  refine zb zkH r.shape trivial (VS.mk (by (first | exact LeL.refl _ | (repeat' (first | exact LeL.nil | exact LeD.refl _ | exact LeD.nil _ | exact LeD.strip _ _ _ | refine LeL.cons ?_ ?_ | refine LeD.tup ?_ | refine LeD.agg ?_))))) ?_
  (all_goals refine qgo (Lf.mk ?_))
  refine zb ziF r.shape trivial (VS.mk (by (first | exact LeL.refl _ | (repeat' (first | exact LeL.nil | exact LeD.refl _ | exact LeD.nil _ | exact LeD.strip _ _ _ | refine LeL.cons ?_ ?_ | refine LeD.tup ?_ | refine LeD.agg ?_))))) ?_
  (all_goals refine qgo ?_<;>(repeat' first | exact trivial | intro hc | refine And.intro ?_ ?_)<;>refine Lf.mk ?_)
  all_goals (refine zd (VS.mk (LeD.of_eq (congrArg (D.int .i64) ?_)));rw [hw])
  all_goals first | (rw [if_pos];unfold zcv;simp_all;done) | (rw [if_neg];unfold zcv;simp_all;done) | (rw [if_neg];unfold zcv;simp_all;omega)
def zu3 (op:Int):Int:=xc.foldl (fun b r=>if r.op=op then r.bits else b) 0
theorem zu4:∀ r∈xc,zu3 r.op=r.bits∧0≤r.bits∧r.bits≤65535:=by unfold zu3 xc;decide
def zBh (b n m v:Nat):Nat:=b ||| n * 256 ||| m * 16 ||| v
def zpk (r:zbF) (i:Ins):Int:=(zBh r.bits.toNat i.n.toNat i.m.toNat (i.imm % (if r.shape=5 then 4096 else 256)).toNat:Nat)
def qY (i:Ins):Int:=match xE i.op with | some r=>zpk r i | none=>0
theorem zwX {i:Ins} (h:xf i=0):∃ r,xE i.op=some r∧0≤i.n∧i.n≤15∧0≤i.m∧i.m≤15∧(zda r.shape=false→i.n=0)∧(zdb r.shape=false→i.m=0)∧zeK r.shape≤i.imm∧i.imm≤zbW r.shape:=by
 unfold xf at h
 split at h
 ·exact absurd h (by decide)
 ·rename_i r hr
  split at h
  ·exact absurd h (by decide)
  ·rename_i hb
   unfold zcv at hb
   refine ⟨r,hr,by omega,by omega,by omega,by omega,fun h=>?_,fun h=>?_,by omega,by omega⟩
   ·exact Classical.byContradiction fun h'=>hb (.inr (.inr (.inl ⟨h,h'⟩)))
   ·exact Classical.byContradiction fun h'=>hb (.inr (.inr (.inr (.inr (.inr (.inl ⟨h,h'⟩))))))
theorem zu5 {op:Int} {k:Nat} {r:zbF} (h:xc[k]?=some r):(xc.take (k+1)).foldl (fun b r=>if r.op=op then r.bits else b) 0=if r.op=op then r.bits else (xc.take k).foldl (fun b r=>if r.op=op then r.bits else b) 0:=by
 obtain ⟨hk,rfl⟩:=List.getElem?_eq_some_iff.1 h
 rw [List.take_succ_eq_append_getElem hk,List.foldl_append]
 rfl
theorem zpl:za Tryz.prog zoU (zy (fun _:Ins=>True) (fun i=>[zaB i]) fun i=>.tup [.int .i64 (if xf i=0 then qY i else 0),.int .i64 (xf i)]):=by
 refine zf zh Tryz.func162 rfl (by decide) fun i _=>?_
 refine ⟨Nat.le_refl _,by simp [Tryz.f162],fun E hE=>?_⟩
 refine ze _ ?_
 (all_goals refine qgo (Lf.mk ?_))
 refine zb qh i trivial (VS.mk (by (first | exact LeL.refl _ | (repeat' (first | exact LeL.nil | exact LeD.refl _ | exact LeD.nil _ | exact LeD.strip _ _ _ | refine LeL.cons ?_ ?_ | refine LeD.tup ?_ | refine LeD.agg ?_))))) ?_
 (all_goals refine qgo ?_<;>(repeat' first | exact trivial | intro hc | refine And.intro ?_ ?_)<;>refine Lf.mk ?_)
 ·refine zd (VS.mk (LeD.of_eq ?_))
  rw [if_neg hc]
 obtain ⟨r,hi,h1,h2,h3,h4,h5,h6,h7,h8⟩:=zwX hc
 refine zb zc9 i.op trivial (VS.mk (by (first | exact LeL.refl _ | (repeat' (first | exact LeL.nil | exact LeD.refl _ | exact LeD.nil _ | exact LeD.strip _ _ _ | refine LeL.cons ?_ ?_ | refine LeD.tup ?_ | refine LeD.agg ?_))))) ?_
 rw [show jO i.op= .tup [.str r.name,.int .i64 r.shape] by unfold jO;rw [hi]]
 (all_goals refine qgo (Lf.mk ?_))
 refine zb zc8 () trivial (VS.mk (by (first | exact LeL.refl _ | (repeat' (first | exact LeL.nil | exact LeD.refl _ | exact LeD.nil _ | exact LeD.strip _ _ _ | refine LeL.cons ?_ ?_ | refine LeD.tup ?_ | refine LeD.agg ?_))))) ?_
 (all_goals refine qgo (Lf.mk ?_))
 refine yc (α:=Nat) (fun k=>k≤27) (fun k=>[(22,.sl 4 (xc.map zkG) none),(23,.int .i64 27),(24,.int .i64 k),(1,.loc 0 0),(6,.int .i64 r.shape),
  (7,.int .i64 ((xc.take k).foldl (fun b r=>if r.op=i.op then r.bits else b) 0))]) (fun _=>[.cells [.int .i64 i.op,.int .i64 i.n,.int .i64 i.m,.int .i64 i.imm]]) (fun k=>27 - k) (fun _=>by simp [hE]) 0 (Nat.zero_le _) ?_ ?_
 ·(repeat' (first | (refine VS.mk ?_) | exact trivial | exact rfl | refine And.intro ?_ ?_))
  all_goals (rw [v8];rfl)
 intro k hk
 refine ze _ ?_
 (all_goals refine qgo ?_<;>(repeat' first | exact trivial | intro hc | refine And.intro ?_ ?_)<;>refine Lf.mk ?_)
 ·obtain ⟨q,hq⟩:=zP (l:=xc) (k:=k) (by rw [v8];omega)
  have hst:=zu5 (op:=i.op) hq
  refine zl q (by omega) (by simpa using hq) ?_
  (all_goals refine qgo ?_<;>(repeat' first | exact trivial | intro hc | refine And.intro ?_ ?_)<;>refine Lf.mk ?_)
  ·refine zF (k+1) (by omega) (by omega) ?_
   rw [hst,if_pos hc]
   (repeat' (first | (refine VS.mk ?_) | exact trivial | exact rfl | refine And.intro ?_ ?_))
  ·refine zF (k+1) (by omega) (by omega) ?_
   rw [hst,if_neg hc]
   (repeat' (first | (refine VS.mk ?_) | exact trivial | exact rfl | refine And.intro ?_ ?_))
 all_goals
  obtain rfl:k=27:=by omega
  obtain ⟨hm,ho⟩:=zmy hi
  obtain ⟨b1,b2,b3⟩:=zu4 r hm
  rw [ho] at b1
  obtain ⟨B,hB⟩:=Int.eq_ofNat_of_zero_le b2
  obtain ⟨N,hN⟩:=Int.eq_ofNat_of_zero_le h1
  obtain ⟨M,hM⟩:=Int.eq_ofNat_of_zero_le h3
  have hfold:(xc.take 27).foldl (fun b r=>if r.op=i.op then r.bits else b) 0=(B:Int):=by
   rw [List.take_of_length_le (by rw [v8];exact Nat.le_refl _),← hB,← b1]
   rfl
  have hl1:B ||| N * 256 < 2 ^ 16:=Nat.or_lt_two_pow (by omega) (by omega)
  have hl2:B ||| N * 256 ||| M * 16 < 2 ^ 16:=Nat.or_lt_two_pow hl1 (by omega)
  rw [hfold]
  refine wG (znK (a:=B) (b:=N * 256) rfl (by omega) (by omega) (by omega)) ?_
  (all_goals refine qgo (Lf.mk ?_))
  refine wG (znK (a:=B ||| N * 256) (b:=M * 16) rfl (by omega) (by omega) (by omega)) ?_
  refine VS.mk ?_
 ·obtain ⟨V,hV⟩:=Int.eq_ofNat_of_zero_le (Int.emod_nonneg i.imm (show (4096:Int)≠0 by decide))
  refine wG qW ?_
  rw [hV]
  (all_goals refine qgo (Lf.mk ?_))
  refine wG (znK (a:=B ||| N * 256 ||| M * 16) (b:=V) rfl rfl (by omega) (by omega)) ?_
  (all_goals refine qgo (Lf.mk ?_))
  refine zd (VS.mk (LeD.of_eq ?_))
  rw [if_pos (by assumption),show qY i=zpk r i by unfold qY;rw [hi],zpk,if_pos (by assumption:r.shape=5),hV,hB,hN,hM,(by assumption:xf i=0)]
  rfl
 ·obtain ⟨V,hV⟩:=Int.eq_ofNat_of_zero_le (Int.emod_nonneg i.imm (show (256:Int)≠0 by decide))
  refine wG kZ ?_
  rw [hV]
  (all_goals refine qgo (Lf.mk ?_))
  refine wG (znK (a:=B ||| N * 256 ||| M * 16) (b:=V) rfl rfl (by omega) (by omega)) ?_
  (all_goals refine qgo (Lf.mk ?_))
  refine zd (VS.mk (LeD.of_eq ?_))
  rw [if_pos (by assumption),show qY i=zpk r i by unfold qY;rw [hi],zpk,if_neg (by assumption:¬ r.shape=5),hV,hB,hN,hM,(by assumption:xf i=0)]
  rfl
theorem zyZ (s:Int):0≤zf2 s∧zf2 s≤65535:=by unfold zf2;(repeat' split)<;>omega
def znM (w:Nat) (r:zbF):Bool:=((w &&& (zf2 r.shape).toNat:Nat):Int)==r.bits
def zho (w:Nat):Option zbF:=xc.find? (znM w)
def zkI (w:Int) (s:Int):Int:=if s=1∨s=4 then zg w 8 else if s=5 then zg w 12 else if s=7∨s=8∨s=11 then w % 256 else 0
def zts (w:Int) (r:zbF):Ins:=⟨r.op,if zda r.shape=true then w / 256 % 16 else 0,if zdb r.shape=true then w / 16 % 16 else 0,zkI w r.shape⟩
def zjl:Ins:=⟨0,0,0,0⟩
def xY (w:Int):Ins×Int:=if w < 0∨65535 < w then (zjl,3) else match zho w.toNat with
 | some r=>(zts w r,0)
 | none=>(zjl,12)
theorem zpm:za Tryz.prog zoQ (zy (fun _:Int=>True) (fun w=>[.int .i64 w]) fun w=>.tup [zaB (xY w).1,.int .i64 (xY w).2]):=by
 refine zf zh Tryz.func73 rfl (by decide) fun w _=>?_
 refine ⟨Nat.le_refl _,by simp [Tryz.f73],fun E hE=>?_⟩
 refine ze _ ?_
 (all_goals refine qgo ?_<;>(repeat' first | exact trivial | intro hc | refine And.intro ?_ ?_)<;>refine Lf.mk ?_)
 ·refine zd (VS.mk (LeD.of_eq ?_))
  rw [show xY w=(zjl,3) by unfold xY;rw [if_pos (by omega)]]
  rfl
 ·refine zd (VS.mk (LeD.of_eq ?_))
  rw [show xY w=(zjl,3) by unfold xY;rw [if_pos (by omega)]]
  rfl
 refine zb zc8 () trivial (VS.mk (by (first | exact LeL.refl _ | (repeat' (first | exact LeL.nil | exact LeD.refl _ | exact LeD.nil _ | exact LeD.strip _ _ _ | refine LeL.cons ?_ ?_ | refine LeD.tup ?_ | refine LeD.agg ?_))))) ?_
 (all_goals refine qgo (Lf.mk ?_))
 obtain ⟨W,hW⟩:=Int.eq_ofNat_of_zero_le (show 0≤w by omega)
 subst hW
 refine yc (α:=Nat) (fun k=>k≤27∧∀ (i:Nat) r,i < k→xc[i]?=some r→znM W r=false) (fun k=>[(16,.sl 4 (xc.map zkG) none),(17,.int .i64 27),(18,.int .i64 k),(0,.int .i64 W),(2,.loc 0 0)])
  (fun _=>[.cells [.int .i64 0,.int .i64 0,.int .i64 0,.int .i64 0]]) (fun k=>27 - k) (fun _=>by simp [hE]) 0 ⟨Nat.zero_le _,by simp⟩ ?_ ?_
 ·(repeat' (first | (refine VS.mk ?_) | exact trivial | exact rfl | refine And.intro ?_ ?_))
  all_goals (rw [v8];rfl)
 rintro k ⟨hk,hno⟩
 refine ze _ ?_
 (all_goals refine qgo ?_<;>(repeat' first | exact trivial | intro hc | refine And.intro ?_ ?_)<;>refine Lf.mk ?_)
 ·obtain ⟨r,hr⟩:=zP (l:=xc) (k:=k) (by rw [v8];omega)
  refine zl r (by omega) (by simpa using hr) ?_
  (all_goals refine qgo (Lf.mk ?_))
  refine zb ztr r.shape trivial (VS.mk (by (first | exact LeL.refl _ | (repeat' (first | exact LeL.nil | exact LeD.refl _ | exact LeD.nil _ | exact LeD.strip _ _ _ | refine LeL.cons ?_ ?_ | refine LeD.tup ?_ | refine LeD.agg ?_))))) ?_
  have hmb:=zyZ r.shape
  obtain ⟨X,hX⟩:=Int.eq_ofNat_of_zero_le hmb.1
  rw [hX]
  (all_goals refine qgo (Lf.mk ?_))
  refine wG (zzN (a:=W) (b:=X) rfl rfl (by omega) (by omega)) ?_
  have hfit:znM W r=(((W &&& X:Nat):Int)==r.bits):=by unfold znM;rw [hX];rfl
  (all_goals refine qgo ?_<;>(repeat' first | exact trivial | intro hc | refine And.intro ?_ ?_)<;>refine Lf.mk ?_)
  ·refine zF (k+1) ⟨by omega,zh2 hno hr (by rw [hfit];simpa using hc)⟩ (by omega) ?_
   (repeat' (first | (refine VS.mk ?_) | exact trivial | exact rfl | refine And.intro ?_ ?_))
  have hf:=zh1 hr (by rw [hfit];simpa using hc) hno
  have hd:xY (W:Int)=(zts W r,0):=by
   unfold xY
   rw [if_neg (by omega)]
   simp only [Int.toNat_natCast,zho,hf]
  refine zb zkH r.shape trivial (VS.mk (by (first | exact LeL.refl _ | (repeat' (first | exact LeL.nil | exact LeD.refl _ | exact LeD.nil _ | exact LeD.strip _ _ _ | refine LeL.cons ?_ ?_ | refine LeD.tup ?_ | refine LeD.agg ?_))))) ?_
  (all_goals refine qgo ?_<;>(repeat' first | exact trivial | intro hc | refine And.intro ?_ ?_)<;>refine Lf.mk ?_)
  any_goals (first | (exfalso;clear hd hf hno hX hmb hfit;contradiction) | skip)
  any_goals (first | (refine zb zdJ (W,8) (.inl rfl) (VS.mk (LeL.of_eq rfl)) ?_) | (refine zb zdJ (W,12) (.inr (.inl rfl)) (VS.mk (LeL.of_eq rfl)) ?_) | skip)
  (all_goals refine qgo (Lf.mk ?_))
  all_goals (refine zd (VS.mk (LeD.of_eq ?_));rw [hd])
  all_goals (clear hf hno hX hmb hfit hd;simp_all [zaB,zts,zkI])
 ·have hf:=zou hno (by rw [v8];omega)
  have hd:xY (W:Int)=(zjl,12):=by
   unfold xY
   rw [if_neg (by omega)]
   simp only [Int.toNat_natCast,zho,hf]
  refine zd (VS.mk (LeD.of_eq ?_))
  rw [hd]
  rfl
end Go.Proofs.YtnkdeacghopkiaaGreatDoor
namespace Go.Proofs.YtnkdeacghopkiaaGreatDoor
open Go Go.Plat
set_option linter.unusedVariables false
set_option linter.unusedSimpArgs false
set_option maxRecDepth 100000
set_option maxHeartbeats 2000000
attribute [local irreducible] AWP zG yn zK zn yA z8 zI zY z6 zw za zN yB zt z7 yx yy yq yt zx zz zD
theorem qi:za Tryz.prog zdD (zy (fun ds:List D=>ds.length≤100000000∧∀ (i:Nat) d,ds[i]?=some d→d.cells.length=1) (fun ds=>[.sl 1 ds none]) fun ds=>.sl 1 ds none):=by
 refine zf zh Tryz.func19 rfl (by decide) ?_
 rintro ds ⟨hds,hlen⟩
 refine ⟨Nat.le_refl _,by simp [Tryz.f19],fun E hE=>?_⟩
 refine ze _ ?_
 (all_goals refine qgo (Lf.mk ?_))
 refine zgP (fun h=>?_) ?_
 ·subst h
  (all_goals refine qgo (Lf.mk ?_))
  exact zd (VS.mk (LeD.nil _))
 (all_goals refine qgo (Lf.mk ?_))
 exact zd (VS.mk (LeD.refl _))
theorem zpn:za Tryz.prog zac (zy (fun ds:List D=>ds.length≤100000000∧∀ (i:Nat) d,ds[i]?=some d→d.cells.length=1) (fun ds=>[.sl 1 ds none]) fun ds=>.sl 1 ds none):=by
 refine zf zh Tryz.func49 rfl (by decide) ?_
 rintro ds ⟨hds,hlen⟩
 refine ⟨Nat.le_refl _,by simp [Tryz.f49],fun E hE=>?_⟩
 refine ze _ ?_
 (all_goals refine qgo (Lf.mk ?_))
 refine zgP (fun h=>?_) ?_
 ·subst h
  (all_goals refine qgo (Lf.mk ?_))
  exact zd (VS.mk (LeD.nil _))
 (all_goals refine qgo (Lf.mk ?_))
 exact zd (VS.mk (LeD.refl _))
theorem zpo:za Tryz.prog za9 (zy (fun ds:List D=>ds.length≤100000000∧∀ (i:Nat) d,ds[i]?=some d→d.cells.length=2) (fun ds=>[.sl 2 ds none]) fun ds=>.sl 2 ds none):=by
 refine zf zh Tryz.func54 rfl (by decide) ?_
 rintro ds ⟨hds,hlen⟩
 refine ⟨Nat.le_refl _,by simp [Tryz.f54],fun E hE=>?_⟩
 refine ze _ ?_
 (all_goals refine qgo (Lf.mk ?_))
 refine zgP (fun h=>?_) ?_
 ·subst h
  (all_goals refine qgo (Lf.mk ?_))
  exact zd (VS.mk (LeD.nil _))
 (all_goals refine qgo (Lf.mk ?_))
 exact zd (VS.mk (LeD.refl _))
structure zH where
 name:List UInt8
 at_:Int
 deriving DecidableEq
def yH (s:zH):D:=.agg [.str s.name,.int .i64 s.at_]
structure jw where
 base:Int
 bytes:List UInt8
 syms:List zH
 deriving DecidableEq
def zf3 (i:jw):D:=.agg [.int .i64 i.base,zk i.bytes,.sl 2 (i.syms.map yH) none]
def zbX:jw:=⟨0,[],[]⟩
structure qZ where
 at_:Int
 size:Int
 name:List UInt8
 add:Int
 deriving DecidableEq
structure yz where
 code:List UInt8
 syms:List zH
 rels:List qZ
 deriving DecidableEq
def jx (r:qZ):D:=.agg [.int .i64 r.at_,.int .i64 r.size,.str r.name,.int .i64 r.add]
def vl (o:yz):D:=.agg [zk o.code,.sl 2 (o.syms.map yH) none,.sl 4 (o.rels.map jx) none]
def qI (n:Int):List zH→List (List UInt8)→Option Int
 | [],_=>none
 | s::l,had=>if yO s.name=false∨s.name∈had then some 7 else if s.at_ < 0∨n < s.at_ then some 3 else qI n l (s.name::had)
def zam (n:Int):List qZ→Int→Int
 | [],_=>0
 | r::l,last=>if r.size≠2∧r.size≠4 then 1 else if r.at_ < last∨n - r.size < r.at_ then 3 else if r.at_ % r.size≠0 then 11 else if r.name≠[]∧yO r.name=false then 7 else if zg r.add 32≠r.add then 3 else zam n l (r.at_+r.size)
def yD (o:yz):Int:=if 8000 < o.code.length∨255 < o.syms.length∨16000 < o.rels.length then 4 else match qI o.code.length o.syms [] with
 | some e=>e
 | none=>zam o.code.length o.rels 0
def j8 (l:List zH):List (D×D):=l.map fun s=>(.str s.name,.tt)
theorem zmz (l:List zH):∀ p∈j8 l,zai .str p.1=true:=by
 intro p hp
 obtain ⟨r,_,rfl⟩:=List.mem_map.1 hp
 rfl
theorem zwY {m:Nat→Option Nat} (l:List zH):∀ p∈j8 l,xI m p.2 p.2:=by
 intro p hp
 obtain ⟨r,_,rfl⟩:=List.mem_map.1 hp
 exact xx trivial
theorem zlF (n:List UInt8):∀ l:List zH,(¬ n∈l.map (·.name))→qv (.str n) (j8 l)=none
 | [],_=>rfl
 | s::l,h=>by
  have h1:(n==s.name)=false:=beq_eq_false_iff_ne.2 fun e=>h (by simp [e])
  simp only [j8,List.map_cons,qv,zcN,h1]
  have:=zlF n l fun hm=>h (by simp at hm ⊢;exact .inr hm)
  unfold j8 at this
  rw [this]
  rfl
theorem zr6 {n:List UInt8}:∀ {l:List zH},n∈l.map (·.name)→qR (.str n) (j8 l)=some .tt
 | [],h=>by simp at h
 | s::l,h=>by
  by_cases h1:n=s.name
  ·subst h1
   simp [qR,j8,qv,zcN]
  ·have h2:(n==s.name)=false:=beq_eq_false_iff_ne.2 h1
   have h3:n∈l.map (·.name):=by
    simp only [List.map_cons,List.mem_cons] at h
    exact h.resolve_left h1
   have:=zr6 h3
   unfold qR j8 at this ⊢
   simp only [List.map_cons,qv,zcN,h2]
   revert this
   cases qv (.str n) (l.map fun s=>(D.str s.name,D.tt)) with
   | none=>intro h;cases h
   | some j=>intro h;simpa using h
theorem zwZ {n:List UInt8} {l:List zH} (h:¬ n∈l.map (·.name)):qR (.str n) (j8 l)=none:=by unfold qR;rw [zlF n l h];rfl
theorem zy0 {s:zH} {l:List zH} (h:¬ s.name∈l.map (·.name)):xU (.str s.name) .tt (j8 l)=j8 (l++[s]):=by
 rw [zd8 (zlF _ _ h)]
 simp [j8]
theorem zw0 {m:Nat→Option Nat} {K:Prop} (l:List zH) (h:K):zlr m (j8 l) K:=⟨zwY l,h⟩
theorem zw1 {m:Nat→Option Nat} {K:Prop} (h:K):zlr m [] K:=⟨by simp,h⟩
theorem zw2:j8 []=[]:=rfl
attribute [local irreducible] zL yw yI yO j8 zlr zg
theorem zbg:za Tryz.prog zqW (zy (fun o:yz=>(∀ r∈o.rels, -9223372036854775808≤r.at_∧r.at_≤9223372036854775807∧r.name.length≤1000000000)∧∀ s∈o.syms,s.name.length≤1000000000) (fun o=>[vl o]) fun o=>.int .i64 (yD o)):=by
 refine zf zh Tryz.func40 rfl (by decide) ?_
 rintro o ⟨ho,hs⟩
 refine ⟨Nat.le_refl _,by simp [Tryz.f40],fun E hE=>?_⟩
 refine ze _ ?_
 (all_goals refine qgo ?_<;>(repeat' first | exact trivial | intro hc | refine And.intro ?_ ?_)<;>refine Lf.mk ?_)
 ·refine zd (VS.mk (LeD.of_eq (congrArg (D.int .i64) ?_)))
  unfold yD;rw [if_pos (by omega)]
 ·refine zd (VS.mk (LeD.of_eq (congrArg (D.int .i64) ?_)))
  unfold yD;rw [if_pos (by omega)]
 ·refine zd (VS.mk (LeD.of_eq (congrArg (D.int .i64) ?_)))
  unfold yD;rw [if_pos (by omega)]
 have hw:yD o=match qI o.code.length o.syms [] with
   | some e=>e
   | none=>zam o.code.length o.rels 0:=by unfold yD;rw [if_neg (by omega)]
 refine yc (α:=Nat) (fun k=>k≤o.syms.length∧qI o.code.length o.syms []=qI o.code.length (o.syms.drop k) ((o.syms.take k).map (·.name)).reverse)
  (fun k=>[(27,.sl 2 (o.syms.map yH) none),(28,.int .i64 o.syms.length),(29,.int .i64 k),(1,.loc 0 0),(3,.mp 1)])
  (fun k=>[.cells [zk o.code,.sl 2 (o.syms.map yH) none,.sl 4 (o.rels.map jx) none],.map (j8 (o.syms.take k))]) (fun k=>o.syms.length - k) (fun _=>by simp [hE]) 0 ⟨Nat.zero_le _,by simp⟩ ?_ ?_
 ·(repeat' (first | (refine VS.mk ?_) | exact trivial | exact rfl | refine And.intro ?_ ?_))
  refine zw1 ?_
  refine VS.mk ?_
  rw [List.take_zero,zw2]
  rfl
 rintro k ⟨hk,hsw⟩
 refine ze _ ?_
 (all_goals refine qgo ?_<;>(repeat' first | exact trivial | intro hc | refine And.intro ?_ ?_)<;>refine Lf.mk ?_)
 ·obtain ⟨s,hsk⟩:=zP (l:=o.syms) (k:=k) (by omega)
  have hkl:k < o.syms.length:=by omega
  have hsm:=hs s (List.mem_of_getElem? hsk)
  have hget:o.syms[k]=s:=by rw [List.getElem?_eq_getElem hkl] at hsk;exact Option.some.inj hsk
  rw [List.drop_eq_getElem_cons hkl,hget] at hsw
  have htake:o.syms.take (k+1)=o.syms.take k++[s]:=by rw [List.take_succ_eq_append_getElem hkl,hget]
  have hmem:∀ n:List UInt8,n∈((o.syms.take k).map (·.name)).reverse↔n∈(o.syms.take k).map (·.name):=fun n=>List.mem_reverse
  refine zl s (by omega) (by simpa using hsk) ?_
  (all_goals refine qgo (Lf.mk ?_))
  refine zb zfR s.name hsm (VS.mk (by (first | exact LeL.refl _ | (repeat' (first | exact LeL.nil | exact LeD.refl _ | exact LeD.nil _ | exact LeD.strip _ _ _ | refine LeL.cons ?_ ?_ | refine LeD.tup ?_ | refine LeD.agg ?_))))) ?_
  (all_goals refine qgo ?_<;>(repeat' first | exact trivial | intro hc | refine And.intro ?_ ?_)<;>refine Lf.mk ?_)
  ·refine zd (VS.mk (LeD.of_eq (congrArg (D.int .i64) ?_)))
   rw [hw,hsw,qI,if_pos (.inl hc)]
  refine yL (zmz _) ?_
  refine VS.mk ?_
  by_cases hin:s.name∈(o.syms.take k).map (·.name)
  ·refine jG (zr6 hin) ?_
   (all_goals refine qgo (Lf.mk ?_))
   any_goals (refine zd (VS.mk (LeD.of_eq (congrArg (D.int .i64) ?_))))
   any_goals rw [hw,hsw,qI,if_pos (.inr ((hmem _).2 hin))]
  ·refine zyi (zwZ hin) ?_
   (all_goals refine qgo (Lf.mk ?_))
   refine yL (zmz _) ?_
   refine VS.mk ?_
   refine zaW (zy0 hin) ?_
   have hstep:¬ (yO s.name=false∨s.name∈((o.syms.take k).map (·.name)).reverse):=by
    rintro (h | h)
    ·rw [hc] at h;cases h
    ·exact hin ((hmem _).1 h)
   (all_goals refine qgo ?_<;>(repeat' first | exact trivial | intro hc | refine And.intro ?_ ?_)<;>refine Lf.mk ?_)
   ·refine zd (VS.mk (LeD.of_eq (congrArg (D.int .i64) ?_)))
    rw [hw,hsw,qI,if_neg hstep,if_pos (.inl hc)]
   ·refine zd (VS.mk (LeD.of_eq (congrArg (D.int .i64) ?_)))
    rw [hw,hsw,qI,if_neg hstep,if_pos (.inr hc)]
   ·have hnew:qI o.code.length o.syms []=qI o.code.length (o.syms.drop (k+1)) ((o.syms.take (k+1)).map (·.name)).reverse:=by
     rw [hsw,qI,if_neg hstep,if_neg (by omega),htake]
     simp
    refine zF (k+1) ⟨by omega,hnew⟩ (by omega) ?_
    rw [htake]
    (repeat' (first | (refine VS.mk ?_) | exact trivial | exact rfl | refine And.intro ?_ ?_))
    refine zw0 _ ?_
    refine VS.mk ?_
    rfl
 ·obtain rfl:k=o.syms.length:=by omega
  rw [List.drop_length,qI] at hsw
  rw [hsw] at hw
  have hw:yD o=zam o.code.length o.rels 0:=hw
  refine yc (α:=Nat×Int) (fun p=>p.1≤o.rels.length∧0≤p.2∧p.2≤8000∧zam o.code.length o.rels 0=zam o.code.length (o.rels.drop p.1) p.2)
   (fun p=>[(59,.sl 4 (o.rels.map jx) none),(60,.int .i64 o.rels.length),(61,.int .i64 p.1),(1,.loc 0 0),(6,.int .i64 p.2)])
   (fun _=>[.cells [zk o.code,.sl 2 (o.syms.map yH) none,.sl 4 (o.rels.map jx) none]]) (fun p=>o.rels.length - p.1) (fun _=>by simp [hE]) (0,0) ⟨Nat.zero_le _,by decide,by decide,by simp⟩ ?_ ?_
  ·(repeat' (first | (refine VS.mk ?_) | exact trivial | exact rfl | refine And.intro ?_ ?_))
  rintro ⟨k,last⟩ ⟨hk,hl0,hl1,hrw⟩
  dsimp only at hk hl0 hl1 hrw ⊢
  refine ze _ ?_
  (all_goals refine qgo ?_<;>(repeat' first | exact trivial | intro hc | refine And.intro ?_ ?_)<;>refine Lf.mk ?_)
  ·obtain ⟨r,hrk⟩:=zP (l:=o.rels) (k:=k) (by omega)
   have hkl:k < o.rels.length:=by omega
   obtain ⟨hr1,hr2,hr3⟩:=ho r (List.mem_of_getElem? hrk)
   have hget:o.rels[k]=r:=by rw [List.getElem?_eq_getElem hkl] at hrk;exact Option.some.inj hrk
   rw [List.drop_eq_getElem_cons hkl,hget] at hrw
   rw [hrw,zam] at hw
   refine zl r (by omega) (by simpa using hrk) ?_
   (all_goals refine qgo ?_<;>(repeat' first | exact trivial | intro hc | refine And.intro ?_ ?_)<;>refine Lf.mk ?_)
   any_goals (refine zb zfR r.name hr3 (VS.mk (LeL.of_eq rfl)) ?_)
   (all_goals refine qgo ?_<;>(repeat' first | exact trivial | intro hc | refine And.intro ?_ ?_)<;>refine Lf.mk ?_)
   any_goals (refine zb yC r.add trivial (VS.mk (LeL.of_eq rfl)) ?_)
   (all_goals refine qgo ?_<;>(repeat' first | exact trivial | intro hc | refine And.intro ?_ ?_)<;>refine Lf.mk ?_)
   any_goals (refine zd (VS.mk (LeD.of_eq (congrArg (D.int .i64) ?_)));rw [hw])
   any_goals first
    | (rw [if_pos]<;>omega)
    | (rw [if_neg,if_pos]<;>omega)
    | (rw [if_neg,if_neg,if_pos]<;>omega)
    | (rw [if_neg,if_neg,if_neg,if_pos]<;>first | omega | (refine ⟨?_,?_⟩<;>assumption))
    | (rw [if_neg,if_neg,if_neg,if_neg,if_pos]<;>first | omega | assumption | (rintro ⟨h1,h2⟩;simp_all))
    | skip
   all_goals (
    have hnew:zam o.code.length o.rels 0=zam o.code.length (o.rels.drop (k+1)) (r.at_+r.size):=by
     rw [hrw,zam]
     rw [if_neg,if_neg,if_neg,if_neg,if_neg]
     all_goals first
      | omega
      | exact fun h=>h (by assumption)
      | (rintro ⟨h1,h2⟩;simp_all;done)
    refine zF (k+1,r.at_+r.size) ⟨by (dsimp only;omega),by (dsimp only;omega),by (dsimp only;omega),hnew⟩ (by dsimp only;omega) ?_
    (repeat' (first | (refine VS.mk ?_) | exact trivial | exact rfl | refine And.intro ?_ ?_)))
  ·refine zd (VS.mk (LeD.of_eq (congrArg (D.int .i64) ?_)))
   rw [hw,hrw,List.drop_of_length_le (by omega)]
   rfl
end Go.Proofs.YtnkdeacghopkiaaGreatDoor
namespace Go.Proofs.YtnkdeacghopkiaaGreatDoor
open Go Go.Plat
set_option linter.unusedVariables false
set_option linter.unusedSimpArgs false
set_option maxRecDepth 100000
set_option maxHeartbeats 2000000
attribute [local irreducible] AWP zG yn zK zn yA z8 zI zY z6 zw za zN yB zt z7 yx yy yq yt zx zz zD
def tk (t:y8):zcS:=⟨t.kind,t.n,t.text⟩
theorem zw3 (l:List y8):l.map vw=(l.map tk).map zwQ:=by rw [List.map_map];rfl
structure AOp where
 sign:List UInt8
 reg:Int
 val:zB
def q7 (o:AOp):D:=.agg [.str o.sign,.int .i64 o.reg,.str o.val.name,.int .i64 o.val.n]
def noV:zB:=⟨[],0⟩
def wq:List (List UInt8):=[[48],[49],[50],[51],[52],[53],[54],[55],[56],[57],[49,48],[49,49],[49,50],[49,51],[49,52],[49,53]]
def vo (t:y8):Int:=if t.kind=1∧t.text.headD 0=114 then vU (t.text.drop 1) wq 0 else -1
structure RB where
 rest:List y8
 fe:Int
 fa:Int
def qJ (s:RB) (e line:Int):RB:=if s.fe=0 then ⟨s.rest,e,line⟩ else s
def zV (c:List UInt8) (s:RB):Bool×RB:=match s.rest with
 | t::r=>if t.kind=3∧t.text=c then (true,⟨r,s.fe,s.fa⟩) else (false,s)
 | []=>(false,s)
def wh (q:List zo) (line:Int) (s:RB):zB×RB:=
 if (wg (s.rest.map tk)).2.2=0 then
  ((xD q (wg (s.rest.map tk)).1).1,if (xD q (wg (s.rest.map tk)).1).2=0 then ⟨s.rest.drop (wg (s.rest.map tk)).2.1.toNat,s.fe,s.fa⟩
    else qJ ⟨s.rest.drop (wg (s.rest.map tk)).2.1.toNat,s.fe,s.fa⟩ (xD q (wg (s.rest.map tk)).1).2 line)
 else (noV,qJ s (wg (s.rest.map tk)).2.2 line)
def jc (s:RB):List UInt8×RB:=
 if (zV [35] s).1=true then ([35],(zV [35] s).2) else if (zV [64] s).1=true then ([64],(zV [64] s).2) else if (zV [61] s).1=true then ([61],(zV [61] s).2) else ([],s)
def zlG:List y8→Int
 | []=>-1
 | t::_=>vo t
def zbG (q:List zo) (line:Int) (sg:List UInt8) (s:RB):AOp×RB:=
 if (sg=[]∨sg=[64])∧0≤zlG s.rest then (⟨if sg=[] then [114] else sg,zlG s.rest,noV⟩,⟨s.rest.drop 1,s.fe,s.fa⟩)
 else if sg=[64] then (⟨sg,0,noV⟩,qJ s 2 line)
 else (⟨sg,0,(wh q line s).1⟩,(wh q line s).2)
def xe (q:List zo) (line:Int) (s:RB):AOp×RB:=zbG q line (jc s).1 (jc s).2
def x6 (line:Int) (s:RB):RB:=if (zV [44] s).1=false∨(zV [44] s).2.rest=[] then qJ (zV [44] s).2 2 line else (zV [44] s).2
def zaC (q:List zo) (line:Int):Nat→List AOp→RB→List AOp×RB
 | 0,out,s=>(out,s)
 | f+1,out,s=>if s.rest=[]∨s.fe≠0 then (out,s) else if (xe q line s).2.rest=[] then (out++[(xe q line s).1],(xe q line s).2)
  else zaC q line f (out++[(xe q line s).1]) (x6 line (xe q line s).2)
def xL (q:List zo) (line:Int) (s:RB):List AOp×RB:=zaC q line (s.rest.length+1) [] s
def sgA (o:AOp):List UInt8:=if o.sign=[] then [112] else o.sign
def wr (l:List AOp):List UInt8:=(l.map sgA).flatten
def yW (s:List UInt8):List Int:=
 if s=[] then [0] else if s=[35,114] then [1] else if s=[114,114] then [2] else if s=[114] then [3] else if s=[112] then [4,5] else if s=[64] then [6]
 else if s=[112,114] then [7,8] else if s=[114,64] then [9] else if s=[64,114] then [10] else if s=[35] then [11] else []
structure zO where
 kind:Int
 at_:Int
 line:Int
 ins:Ins
 long:Bool
 size:Int
 val:zB
 pool:Int
 idx:Int
def zAW (x:zO):List D:=[.int .i64 x.kind,.int .i64 x.at_,.int .i64 x.line,.int .i64 x.ins.op,.int .i64 x.ins.n,.int .i64 x.ins.m,.int .i64 x.ins.imm,.bool x.long,.int .i64 x.size,
 .str x.val.name,.int .i64 x.val.n,.int .i64 x.pool,.int .i64 x.idx]
def xz (x:zO):D:=.agg (zAW x)
def noI:Ins:=⟨0,0,0,0⟩
structure Bld where
 items:List zO
 syms:List zH
 marks:List Int
 shut:List (List zB)
 has:Bool
 cur:List zB
 fe:Int
 fa:Int
def yN (b:Bld) (e line:Int):Bld:=if b.fe=0 then { b with fe:=e,fa:=line } else b
def xN (b:Bld) (x:zO):Bld:={ b with items:=b.items++[x] }
def wY (v:zB):List zB→Nat→Int
 | [],_=>-1
 | x::l,k=>if x.name=v.name∧x.n=v.n then k else wY v l (k+1)
def vW (v:zB) (l:List zB):List zB:=if wY v l 0 < 0 then l++[v] else l
def vX (v:zB) (l:List zB):Int:=if wY v l 0 < 0 then l.length else wY v l 0
def jy (b:Bld) (v:zB) (reg line:Int):Bld:=
 xN { b with has:=true,cur:=vW v b.cur } ⟨6,0,line,⟨24,reg,0,0⟩,false,0,noV,b.shut.length,vX v b.cur⟩
def ka (b:Bld) (line:Int):Bld:=
 if b.has=true then { xN b ⟨9,0,line,noI,false,0,noV,b.shut.length,0⟩ with shut:=b.shut++[b.cur],has:=false,cur:=[] } else b
def x0 (name:List UInt8):List Int→Int×Int→Int×Int
 | [],p=>p
 | s::l,p=>x0 name l (if 0 < vV name s then (vV name s,s) else p)
def aop (l:List AOp) (k:Nat):AOp:=(l[k]?).getD ⟨[],0,noV⟩
def vp (op shape:Int) (l:List AOp) (line:Int):zO:=
 if shape=1 then ⟨1,0,line,⟨op,(aop l 1).reg,0,(aop l 0).val.n⟩,false,0,(aop l 0).val,0,0⟩
 else if shape=2∨shape=9∨shape=10 then ⟨1,0,line,⟨op,(aop l 1).reg,(aop l 0).reg,0⟩,false,0,noV,0,0⟩
 else if shape=3∨shape=6 then ⟨1,0,line,⟨op,(aop l 0).reg,0,0⟩,false,0,noV,0,0⟩
 else if shape=4 then ⟨2,0,line,⟨op,0,0,0⟩,false,0,(aop l 0).val,0,0⟩
 else if shape=5 then ⟨3,0,line,⟨op,0,0,0⟩,false,0,(aop l 0).val,0,0⟩
 else if shape=7 then ⟨4,0,line,⟨op,(aop l 1).reg,0,0⟩,false,0,(aop l 0).val,0,0⟩
 else if shape=8 then ⟨5,0,line,⟨op,(aop l 1).reg,0,0⟩,false,0,(aop l 0).val,0,0⟩
 else if shape=11 then ⟨1,0,line,⟨op,0,0,(aop l 0).val.n⟩,false,0,(aop l 0).val,0,0⟩
 else ⟨1,0,line,⟨op,0,0,0⟩,false,0,noV,0,0⟩
def xH (b:Bld) (name:List UInt8) (l:List AOp) (line:Int):Bld:=
 if name=[109,111,118,46,108]∧l.length=2∧(aop l 0).sign=[61]∧(aop l 1).sign=[114] then jy b (aop l 0).val (aop l 1).reg line
 else if (x0 name (yW (wr l)) (0,0)).1=0 then yN b 1 line
 else if ((x0 name (yW (wr l)) (0,0)).2=1∨(x0 name (yW (wr l)) (0,0)).2=11)∧(aop l 0).val.name≠[] then yN b 8 line
 else if xf (vp (x0 name (yW (wr l)) (0,0)).1 (x0 name (yW (wr l)) (0,0)).2 l line).ins=0
  then xN b (vp (x0 name (yW (wr l)) (0,0)).1 (x0 name (yW (wr l)) (0,0)).2 l line)
 else yN b (xf (vp (x0 name (yW (wr l)) (0,0)).1 (x0 name (yW (wr l)) (0,0)).2 l line).ins) line
def zz5 (size:Int):Int:=if size=1 then -128 else if size=2 then -32768 else -2147483648
def zx9 (size:Int):Int:=if size=1 then 255 else if size=2 then 65535 else 4294967295
def vE (size line:Int) (b:Bld) (o:AOp):Bld:=
 xN (if o.sign≠[] then yN b 2 line else if o.val.name≠[]∧size=1 then yN b 8 line else if o.val.name=[]∧(o.val.n < zz5 size∨zx9 size < o.val.n) then yN b 3 line else b)
  ⟨7,0,line,noI,false,size,o.val,0,0⟩
def zan (b:Bld) (size:Int) (l:List AOp) (line:Int):Bld:=l.foldl (vE size line) (if l=[] then yN b 2 line else b)
def kU (b:Bld) (l:List AOp) (line:Int):Bld:=
 if l.length≠1∨(aop l 0).sign≠[]∨(aop l 0).val.name≠[] then yN b 2 line
 else if (aop l 0).val.n≠1∧(aop l 0).val.n≠2∧(aop l 0).val.n≠4∧(aop l 0).val.n≠8∧(aop l 0).val.n≠16 then yN b 3 line
 else xN b ⟨8,0,line,noI,false,(aop l 0).val.n,noV,0,0⟩
theorem zf4:za Tryz.prog zly (zy (fun n:Int=>-9223372036854775808≤n∧n≤9223372036854775807) (fun n=>[.int .i64 n]) fun n=>.str (Lib.itoa n)):=by
 refine zaK ⟨_,Tryz.func11,by decide,rfl⟩ ?_
 intro n hn w F hg vs hl hv
 match vs,hl with
 | [v],_=>
  cases hv 0 _ v rfl rfl
  refine (Go.Proofs.Tryz.strconv_Itoa n hn.1 hn.2 w ?_).mono ?_
  ·exact hg.tab (g:=0) (ns:=(List.range 20).map (10 ^ ·)) (by kernel_rfl) (by kernel_rfl) (by rw [List.map_map];rfl) (by decide)
  ·rintro e w' ⟨rfl,k,os,rfl⟩
   exact ⟨_,rfl,.growD w k os,.str _⟩
def wK:List UInt8→Int→Option Int
 | [],n=>some n
 | c::r,n=>if 48≤c.toNat∧c.toNat≤57 then wK r (n * 10+((c.toNat:Int) - 48)) else none
theorem ztt (c:UInt8) (r:List UInt8) (n:Int):wK (c::r) n=if 48≤c.toNat∧c.toNat≤57 then wK r (n * 10+((c.toNat:Int) - 48)) else none:=rfl
def zkJ (s:List UInt8):Bool:=decide (s.headD 0=45∨s.headD 0=43)
def qK (s:List UInt8):Option Int:=
 if zkJ s=true then (if s.length≤1 then none else if s.headD 0=45 then (wK (s.drop 1) 0).map (fun n=>-n) else wK (s.drop 1) 0) else wK s 0
def zao (r:Option Int) (e:D):D:=match r with | some n=>.tup [.int .i64 n,.nilif] | none=>.tup [.int .i64 0,e]
theorem zaL {t:List UInt8} {k:Nat} {n:Int} (hk:k < t.length):wK (t.drop k) n=if 48≤(t.getD k 0).toNat∧(t.getD k 0).toNat≤57 then wK (t.drop (k+1)) (n * 10+(((t.getD k 0).toNat:Int) - 48)) else none:=by
 rw [List.drop_eq_getElem_cons hk,ztt,List.getD_eq_getElem?_getD,List.getElem?_eq_getElem hk]
 rfl
theorem zr7 (c:UInt8):((zr ((c.toNat:Int) - 48)).toNat:Int)=((c.toNat:Int) - 48) % 256:=yG _
theorem zpp {c:UInt8} (h:9 < ((zr ((c.toNat:Int) - 48)).toNat:Int)):¬ (48≤c.toNat∧c.toNat≤57):=by rw [zr7] at h;omega
theorem zlH {c:UInt8} (h:¬ 9 < ((zr ((c.toNat:Int) - 48)).toNat:Int)):(48≤c.toNat∧c.toNat≤57)∧((zr ((c.toNat:Int) - 48)).toNat:Int)=(c.toNat:Int) - 48:=by
 rw [zr7] at h ⊢
 have:=c.toNat_lt
 omega
theorem zae (s:List UInt8) (c:UInt8):(((s.getD (Int.toNat 0) 0).toNat:Int)=(c.toNat:Int))↔s.headD 0=c:=by
 have:s.getD (Int.toNat 0) 0=s.headD 0:=by cases s<;>rfl
 rw [this]
 refine ⟨fun h=>?_,fun h=>by rw [h]⟩
 exact UInt8.toNat.inj (by omega)
theorem zu6 {s:List UInt8} (h:s.headD 0=45):qK s=if s.length≤1 then none else (wK (s.drop 1) 0).map (fun n=>-n):=by
 unfold qK zkJ
 rw [if_pos (decide_eq_true (.inl h)),if_pos h]
theorem zu7 {s:List UInt8} (h:¬ s.headD 0=45) (h':s.headD 0=43):qK s=if s.length≤1 then none else wK (s.drop 1) 0:=by
 unfold qK zkJ
 rw [if_pos (decide_eq_true (.inr h')),if_neg h]
theorem zAX {s:List UInt8} (h:¬ s.headD 0=45) (h':¬ s.headD 0=43):qK s=wK s 0:=by
 unfold qK zkJ
 rw [if_neg (fun e=>(of_decide_eq_true e).elim h h')]
attribute [local irreducible] wK Lib.itoa
def zu8 (s:List UInt8):Prop:=1≤s.length∧s.length≤2
def AtI (t:List UInt8) (p:Nat×Int):Prop:=p.1≤t.length∧(p.1=0→p.2=0)∧(p.1≤1→p.2≤9)∧0≤p.2∧p.2≤99∧wK (t.drop p.1) p.2=wK t 0
theorem zrf:za Tryz.prog zd0 (zy (fun s:List UInt8=>zu8 s) (fun s=>[.str s]) fun s=>zao (qK s) (.iface 288 (.int .i64 2))):=by
 refine zf zh Tryz.func191 rfl (by decide) ?_
 intro s hs
 obtain ⟨h1,h2⟩:=hs
 refine ⟨Nat.le_refl _,by simp [Tryz.f191],fun E hE=>?_⟩
 have ht:List.drop (Int.toNat 1) (List.take ((s.length:Int)).toNat s)=s.drop 1:=by rw [Int.toNat_natCast,List.take_length];rfl
 have hl1:(s.drop 1).length=s.length - 1:=by simp
 refine ze _ ?_
 (all_goals refine qgp ?_<;>(repeat' first | exact trivial | intro hc | refine And.intro ?_ ?_)<;>refine Lf.mk ?_)
 all_goals (try rw [ht] at hc)
 all_goals (try rw [ht])
 ·have h45:=(zae s 45).1 (by assumption)
  refine zd (VS.mk (LeD.of_eq ?_))
  rw [zu6 h45,if_pos (show s.length≤1 by omega)]
  rfl
 ·have h45:=(zae s 45).1 (by assumption)
  have hAt:∀ e,zao (qK s) e=zao ((wK (s.drop 1) 0).map (fun n=>-n)) e:=fun e=>by rw [zu6 h45,if_neg (show ¬ s.length≤1 by omega)]
  have hl2:(s.drop 1).length≤2:=by omega
  clear ht
  generalize s.drop 1=t at *
  refine yc (α:=Nat×Int) (AtI t) (fun p=>[(47,.sl 1 (t.map zC) none),(48,.int .i64 t.length),(49,.int .i64 p.1),(6,.int .i64 p.2),(5,.str s)])
   (fun _=>[]) (fun p=>t.length - p.1) (fun _=>by rw [hE];exact Nat.le_refl _) (0,0) ⟨Nat.zero_le _,fun _=>rfl,fun _=>by decide,by decide,by decide,rfl⟩ ?_ ?_
  ·(repeat' (first | (refine VS.mk ?_) | exact trivial | exact rfl | refine And.intro ?_ ?_))
  rintro ⟨k,n⟩ ⟨i1,i2,i3,i4,i5,i6⟩
  dsimp only at i1 i2 i3 i4 i5 i6 ⊢
  refine ze _ ?_
  (all_goals refine qgp ?_<;>(repeat' first | exact trivial | intro hc | refine And.intro ?_ ?_)<;>refine Lf.mk ?_)
  ·have hst:=zaL (n:=n) (show k < t.length by omega)
   rw [if_neg (zpp hc),i6] at hst
   refine zd (VS.mk (LeD.of_eq ?_))
   rw [hAt,hst]
   rfl
  ·obtain ⟨l1,l2⟩:=zlH hc
   have hst:=zaL (n:=n) (show k < t.length by omega)
   rw [if_pos l1,i6] at hst
   have hj:AtI t (k+1,n * 10+(((t.getD k 0).toNat:Int) - 48)):=by
    refine ⟨?_,?_,?_,?_,?_,hst.symm⟩<;>dsimp only
    ·omega
    ·intro h;omega
    ·intro h;have:=i2 (by omega);omega
    ·omega
    ·have:=i3 (by omega);omega
   refine zF _ hj (by dsimp only;omega) ?_
   (repeat' (first | (refine VS.mk ?_) | exact trivial | exact rfl | refine And.intro ?_ ?_))
   all_goals rw [l2]
  all_goals
   have hk:k=t.length:=by omega
   subst hk
   rw [List.drop_length] at i6
   have i6:wK t 0=some n:=by rw [← i6,wK]
   refine zd (VS.mk (LeD.of_eq ?_))
   rw [hAt,i6]
   exact congrArg (fun x=>D.tup [.int .i64 x,.nilif]) (Int.zero_sub n)
 ·have h45:¬ s.headD 0=45:=fun h=>absurd ((zae s 45).2 h) (by assumption)
  have h43:=(zae s 43).1 (by assumption)
  refine zd (VS.mk (LeD.of_eq ?_))
  rw [zu7 h45 h43,if_pos (show s.length≤1 by omega)]
  rfl
 ·have h45:¬ s.headD 0=45:=fun h=>absurd ((zae s 45).2 h) (by assumption)
  have h43:=(zae s 43).1 (by assumption)
  have hAt:∀ e,zao (qK s) e=zao (wK (s.drop 1) 0) e:=fun e=>by rw [zu7 h45 h43,if_neg (show ¬ s.length≤1 by omega)]
  have hl2:(s.drop 1).length≤2:=by omega
  clear ht
  generalize s.drop 1=t at *
  refine yc (α:=Nat×Int) (AtI t) (fun p=>[(47,.sl 1 (t.map zC) none),(48,.int .i64 t.length),(49,.int .i64 p.1),(6,.int .i64 p.2),(5,.str s)])
   (fun _=>[]) (fun p=>t.length - p.1) (fun _=>by rw [hE];exact Nat.le_refl _) (0,0) ⟨Nat.zero_le _,fun _=>rfl,fun _=>by decide,by decide,by decide,rfl⟩ ?_ ?_
  ·(repeat' (first | (refine VS.mk ?_) | exact trivial | exact rfl | refine And.intro ?_ ?_))
  rintro ⟨k,n⟩ ⟨i1,i2,i3,i4,i5,i6⟩
  dsimp only at i1 i2 i3 i4 i5 i6 ⊢
  refine ze _ ?_
  (all_goals refine qgp ?_<;>(repeat' first | exact trivial | intro hc | refine And.intro ?_ ?_)<;>refine Lf.mk ?_)
  ·have hst:=zaL (n:=n) (show k < t.length by omega)
   rw [if_neg (zpp hc),i6] at hst
   refine zd (VS.mk (LeD.of_eq ?_))
   rw [hAt,hst]
   rfl
  ·obtain ⟨l1,l2⟩:=zlH hc
   have hst:=zaL (n:=n) (show k < t.length by omega)
   rw [if_pos l1,i6] at hst
   have hj:AtI t (k+1,n * 10+(((t.getD k 0).toNat:Int) - 48)):=by
    refine ⟨?_,?_,?_,?_,?_,hst.symm⟩<;>dsimp only
    ·omega
    ·intro h;omega
    ·intro h;have:=i2 (by omega);omega
    ·omega
    ·have:=i3 (by omega);omega
   refine zF _ hj (by dsimp only;omega) ?_
   (repeat' (first | (refine VS.mk ?_) | exact trivial | exact rfl | refine And.intro ?_ ?_))
   all_goals rw [l2]
  all_goals
   have hk:k=t.length:=by omega
   subst hk
   rw [List.drop_length] at i6
   have i6:wK t 0=some n:=by rw [← i6,wK]
   refine zd (VS.mk (LeD.of_eq ?_))
   rw [hAt,i6]
   rfl
 ·have h45:¬ s.headD 0=45:=fun h=>absurd ((zae s 45).2 h) (by assumption)
  have h43:¬ s.headD 0=43:=fun h=>absurd ((zae s 43).2 h) (by assumption)
  have hAt:∀ e,zao (qK s) e=zao (wK s 0) e:=fun e=>by rw [zAX h45 h43]
  refine yc (α:=Nat×Int) (AtI s) (fun p=>[(47,.sl 1 (s.map zC) none),(48,.int .i64 s.length),(49,.int .i64 p.1),(6,.int .i64 p.2),(5,.str s)])
   (fun _=>[]) (fun p=>s.length - p.1) (fun _=>by rw [hE];exact Nat.le_refl _) (0,0) ⟨Nat.zero_le _,fun _=>rfl,fun _=>by decide,by decide,by decide,rfl⟩ ?_ ?_
  ·(repeat' (first | (refine VS.mk ?_) | exact trivial | exact rfl | refine And.intro ?_ ?_))
  rintro ⟨k,n⟩ ⟨i1,i2,i3,i4,i5,i6⟩
  dsimp only at i1 i2 i3 i4 i5 i6 ⊢
  refine ze _ ?_
  (all_goals refine qgp ?_<;>(repeat' first | exact trivial | intro hc | refine And.intro ?_ ?_)<;>refine Lf.mk ?_)
  ·have hst:=zaL (n:=n) (show k < s.length by omega)
   rw [if_neg (zpp hc),i6] at hst
   refine zd (VS.mk (LeD.of_eq ?_))
   rw [hAt,hst]
   rfl
  ·obtain ⟨l1,l2⟩:=zlH hc
   have hst:=zaL (n:=n) (show k < s.length by omega)
   rw [if_pos l1,i6] at hst
   have hj:AtI s (k+1,n * 10+(((s.getD k 0).toNat:Int) - 48)):=by
    refine ⟨?_,?_,?_,?_,?_,hst.symm⟩<;>dsimp only
    ·omega
    ·intro h;omega
    ·intro h;have:=i2 (by omega);omega
    ·omega
    ·have:=i3 (by omega);omega
   refine zF _ hj (by dsimp only;omega) ?_
   (repeat' (first | (refine VS.mk ?_) | exact trivial | exact rfl | refine And.intro ?_ ?_))
   all_goals rw [l2]
  all_goals
   have hk:k=s.length:=by omega
   subst hk
   rw [List.drop_length] at i6
   have i6:wK s 0=some n:=by rw [← i6,wK]
   refine zd (VS.mk (LeD.of_eq ?_))
   rw [hAt,i6]
   rfl
theorem ztu:za Tryz.prog zlC (zy (fun s:List UInt8=>zu8 s) (fun s=>[.str s]) fun s=>zao (qK s) (.iface 290 .any)):=by
 refine zf zh Tryz.func174 rfl (by decide) ?_
 intro s hs
 refine ⟨Nat.le_refl _,by simp [Tryz.f174],fun E hE=>?_⟩
 refine ze _ ?_
 (all_goals refine qgp (Lf.mk ?_))
 refine zb zrf s hs (VS.mk (LeL.of_eq rfl)) ?_
 cases h:qK s with
 | some n=>
  dsimp only [zao]
  (all_goals refine qgp ?_<;>(repeat' first | exact trivial | intro hc | refine And.intro ?_ ?_)<;>refine Lf.mk ?_)
  all_goals first
   | (exfalso;exact Bool.noConfusion hc)
   | (exfalso;refine absurd trivial ?_;assumption)
   | skip
  exact zd (VS.mk (LeD.of_eq rfl))
 | none=>
  dsimp only [zao]
  (all_goals refine qgp ?_<;>(repeat' first | exact trivial | intro hc | refine And.intro ?_ ?_)<;>refine Lf.mk ?_)
  all_goals first
   | (exfalso;exact Bool.noConfusion hc)
   | (exfalso;refine absurd hc ?_;decide)
   | skip
  refine zb ziD ([65,116,111,105],s,0,0,2) ⟨by have:=hs.2;omega,.inr rfl⟩ (VS.mk (LeL.of_eq rfl)) ?_
  (all_goals refine qgp (Lf.mk ?_))
  exact zd (VS.mk (LeD.of_eq rfl))
theorem zlI (x:List UInt8):∀ (l:List (List UInt8)) (k:Nat),vU x l k= -1∨x∈l
 | [],_=>.inl rfl
 | s::l,k=>by
  rw [vU]
  by_cases h:x=s
  ·exact .inr (by rw [h];exact List.mem_cons_self)
  ·rw [if_neg h]
   exact (zlI x l (k+1)).imp id (List.mem_cons_of_mem _)
theorem zy1:wq.map (fun r=>(vU r wq 0,qK r))=(List.range 16).map (fun k:Nat=>((k:Int),some (k:Int))):=by kernel_rfl
theorem zy2:(List.range 16).map (fun k=>Lib.itoa ((k:Nat):Int))=wq:=by kernel_rfl
theorem zu9 {k:Nat} (hk:k < 16):wq[k]?=some (Lib.itoa (k:Int))∧vU (Lib.itoa (k:Int)) wq 0=k∧qK (Lib.itoa (k:Int))=some (k:Int):=by
 have h1:wq[k]?=some (Lib.itoa (k:Int)):=by rw [← zy2,List.getElem?_map,List.getElem?_range hk];rfl
 have h2:=congrArg (fun l=>l[k]?) zy1
 simp only [List.getElem?_map,h1,List.getElem?_range hk,Option.map_some,Option.some.injEq,Prod.mk.injEq] at h2
 exact ⟨h1,h2⟩
theorem zy3 {s:List UInt8} {n:Int} (h0:0≤n) (h1:n≤15) (h:Lib.itoa n=s):vU s wq 0=n:=by
 obtain ⟨k,rfl⟩:=Int.eq_ofNat_of_zero_le h0
 rw [← h]
 exact (zu9 (by omega)).2.1
theorem zkK {s:List UInt8} (h:∀ n,qK s=some n→¬ (0≤n∧n≤15∧Lib.itoa n=s)):vU s wq 0= -1:=by
 refine (zlI s wq 0).resolve_right fun hm=>?_
 obtain ⟨k,hk⟩:=List.getElem?_of_mem hm
 have hk16:k < 16:=(List.getElem?_eq_some_iff.1 hk).1
 obtain ⟨h1,_,h3⟩:=zu9 hk16
 rw [h1] at hk
 cases hk
 exact h _ h3 ⟨by omega,by omega,rfl⟩
theorem zpq {s:List UInt8} (h:s.length=0∨2 < s.length):vU s wq 0= -1:=by
 refine (zlI s wq 0).resolve_right fun hm=>?_
 have:∀ r∈wq,1≤r.length∧r.length≤2:=by decide
 have:=this s hm
 omega
attribute [local irreducible] qK wq vU
theorem zbH:za Tryz.prog zlB (zy (fun t:y8=>t.text.length≤1000000000) (fun t=>[vw t]) fun t=>.int .i64 (vo t)):=by
 refine zf zh Tryz.func149 rfl (by decide) ?_
 rintro ⟨kd,n,s⟩ hs
 have hs:s.length≤1000000000:=hs
 refine ⟨Nat.le_refl _,by simp [Tryz.f149],fun E hE=>?_⟩
 have ht:List.drop (Int.toNat 1) (List.take ((s.length:Int)).toNat s)=s.drop 1:=by rw [Int.toNat_natCast,List.take_length];rfl
 have hl1:(s.drop 1).length=s.length - 1:=by simp
 refine ze _ ?_
 (all_goals refine qgp ?_<;>(repeat' first | exact trivial | intro hc | refine And.intro ?_ ?_)<;>refine Lf.mk ?_)
 ·refine zd (VS.mk (LeD.of_eq (congrArg (D.int .i64) ?_)))
  unfold vo
  rw [if_neg (fun e=>hc e.1)]
 ·refine zd (VS.mk (LeD.of_eq (congrArg (D.int .i64) ?_)))
  unfold vo
  dsimp only
  rw [zpq (.inl (by omega))]
  split<;>rfl
 ·refine zd (VS.mk (LeD.of_eq (congrArg (D.int .i64) ?_)))
  unfold vo
  dsimp only
  rw [zpq (.inr (by omega))]
  split<;>rfl
 ·have h114:¬ s.headD 0=114:=fun h=>absurd ((zae s 114).2 h) (by assumption)
  refine zd (VS.mk (LeD.of_eq (congrArg (D.int .i64) ?_)))
  unfold vo
  rw [if_neg (fun e=>h114 e.2)]
 ·have h114:=(zae s 114).1 (by assumption)
  have hR:vo ⟨kd,n,s⟩=vU (s.drop 1) wq 0:=by
   unfold vo
   rw [if_pos ⟨by assumption,h114⟩]
  dsimp only
  rw [ht,hR]
  refine zb ztu (s.drop 1) ⟨by omega,by omega⟩ (VS.mk (LeL.of_eq rfl)) ?_
  cases hat:qK (s.drop 1) with
  | none=>
   dsimp only [zao]
   (all_goals refine qgp ?_<;>(repeat' first | exact trivial | intro hc | refine And.intro ?_ ?_)<;>refine Lf.mk ?_)
   (any_goals (first | (exfalso;refine Bool.false_ne_true ?_;assumption) | (exfalso;refine Bool.false_ne_true (Eq.symm ?_);assumption) | (exfalso;refine absurd trivial ?_;assumption) | skip))
   refine zd (VS.mk (LeD.of_eq (congrArg (D.int .i64) ?_)))
   rw [zkK fun m hm=>by rw [hat] at hm;cases hm]
  | some m=>
   dsimp only [zao]
   (all_goals refine qgp ?_<;>(repeat' first | exact trivial | intro hc | refine And.intro ?_ ?_)<;>refine Lf.mk ?_)
   (any_goals (first | (exfalso;refine Bool.false_ne_true ?_;assumption) | (exfalso;refine Bool.false_ne_true (Eq.symm ?_);assumption) | (exfalso;refine absurd trivial ?_;assumption) | skip))
   ·refine zd (VS.mk (LeD.of_eq (congrArg (D.int .i64) ?_)))
    rw [zkK fun q hm=>by rw [hat] at hm;cases hm;omega]
   ·refine zd (VS.mk (LeD.of_eq (congrArg (D.int .i64) ?_)))
    rw [zkK fun q hm=>by rw [hat] at hm;cases hm;omega]
   ·refine zb zf4 m ⟨by omega,by omega⟩ (VS.mk (LeL.of_eq rfl)) ?_
    (all_goals refine qgp ?_<;>(repeat' first | exact trivial | intro hc | refine And.intro ?_ ?_)<;>refine Lf.mk ?_)
    all_goals (try rw [ht] at hc)
    all_goals (refine zd (VS.mk (LeD.of_eq (congrArg (D.int .i64) ?_))))
    ·rw [zkK fun q hm=>by rw [hat] at hm;cases hm;exact fun e=>hc e.2.2]
    ·rw [zy3 (by omega) (by omega) hc]
end Go.Proofs.YtnkdeacghopkiaaGreatDoor
namespace Go.Proofs.YtnkdeacghopkiaaGreatDoor
open Go Go.Plat
set_option linter.unusedVariables false
set_option linter.unusedSimpArgs false
set_option maxRecDepth 100000
set_option maxHeartbeats 2000000
attribute [local irreducible] AWP zG yn zK zn yA z8 zI zY z6 zw za zN yB zt z7 zi.kids zi.kind zi.n zi.name yx yy yq yt zx zz zD yw xy yI zL yO zg
def wt:List zcS→Nat
 | []=>0
 | t::l=>1+t.text.length+wt l
def zf5 (p:St→zi×St):Prop:=∀ s,yM (p s).1+2 * wt (p s).2.rest≤1+2 * wt s.rest
theorem zmA (k n:Int) (t:List UInt8):yM (.mk k n t [])=1+t.length:=by rw [yM,qg,Nat.add_zero]
theorem zva (k n:Int) (a:zi):yM (.mk k n [] [a])=1+yM a:=by rw [yM,qg,qg];simp
theorem zvb (k n:Int) (a b:zi):yM (.mk k n [] [a,b])=1+yM a+yM b:=by rw [yM,qg,qg,qg];simp;omega
theorem zdM:yM noE=1:=by unfold noE;rw [zmA];rfl
theorem zlJ (l:List (List UInt8)) (s:St):wt (zA l s).2.rest≤wt s.rest∧(0≤(zA l s).1→wt (zA l s).2.rest+1≤wt s.rest):=by
 obtain ⟨r,e⟩:=s
 cases r with
 | nil=>exact ⟨Nat.le_refl _,fun h=>by simp [zA] at h⟩
 | cons t r=>
  simp only [zA]
  split
  ·split
   ·simp only [wt];exact ⟨by omega,fun _=>by omega⟩
   ·exact ⟨Nat.le_refl _,fun h=>by simp at h⟩
  ·exact ⟨Nat.le_refl _,fun h=>by simp at h⟩
theorem zmB {k:Nat} {sub:St→zi×St} (hs:zf5 sub):∀ (g:Nat) (e:zi) (s:St),yM (qp k sub g e s).1+2 * wt (qp k sub g e s).2.rest≤yM e+2 * wt s.rest
 | 0,e,s=>Nat.le_refl _
 | g+1,e,s=>by
  rw [qp]
  obtain ⟨h1,h1'⟩:=zlJ (yZ k) s
  split
  ·split
   ·dsimp only;omega
   ·rename_i hn
    have h3:=h1' (by omega)
    have:=zmB (k:=k) hs g (.mk (zcu k (zA (yZ k) s).1) 0 [] [e,(sub (zA (yZ k) s).2).1]) (sub (zA (yZ k) s).2).2
    rw [zvb] at this
    have h2:=hs (zA (yZ k) s).2
    omega
  ·exact Nat.le_refl _
theorem ztv {k:Nat} {sub:St→zi×St} (hs:zf5 sub):zf5 (zdK k sub):=fun s=>by
 have h1:=hs s
 have h2:=zmB (k:=k) hs ((sub s).2.rest.length+1) (sub s).1 (sub s).2
 unfold zdK;omega
theorem zlK {one:St→zi×St} (hs:zf5 one):∀ j,zf5 (atF one j)
 | 0=>hs
 | j+1=>ztv (zlK hs j)
theorem zw4:zf5 zeG:=fun s=>by
 obtain ⟨r,e⟩:=s
 cases r with
 | nil=>simp [zeG,kA,zdM,wt]
 | cons t r=>
  simp only [zeG]
  repeat' split
  all_goals (try rw [kA]);simp only [zdM,zmA,wt,List.length_nil];omega
theorem zvc {one:St→zi×St} (hs:zf5 one):zf5 (va one):=fun s=>by
 obtain ⟨h1,h1'⟩:=zlJ xa s
 have h2:=hs (zA xa s).2
 have h3:=zlK hs 5 (zA xa s).2
 have h4:=(zlJ kT (atF one 5 (zA xa s).2).2).1
 have h5:=zw4 (zA xa s).2
 have h6:=zhl (atF one 5 (zA xa s).2).1
 unfold va
 repeat' split
 all_goals (try dsimp only);(try rw [kA]);(try simp only [zva,zdM]);omega
theorem zpr:∀ f,zf5 (kN f)
 | 0=>fun s=>by rw [kN,kA,zdM];exact Nat.le_refl _
 | f+1=>fun s=>by rw [kN];exact zvc (zpr f) s
theorem zvd (L:List zcS):yM (wg L).1≤1+2 * wt L:=by
 have h:=zlK (zpr 7) 5 ⟨L,0⟩
 have h:yM (kn L).1+2 * wt (kn L).2.rest≤1+2 * wt L:=h
 unfold wg
 split
 ·dsimp only;omega
 ·dsimp only;rw [zdM];omega
end Go.Proofs.YtnkdeacghopkiaaGreatDoor
namespace Go.Proofs.YtnkdeacghopkiaaGreatDoor
open Go Go.Plat
set_option linter.unusedVariables false
set_option linter.unusedSimpArgs false
set_option maxRecDepth 100000
set_option maxHeartbeats 2000000
attribute [local irreducible] AWP zG yn zK zn yA z8 zI zY Lib.itoa z6 zw za zN yB zt z7 yx yy yq yt zx zz zD xD wg vo zV
def xl (l:List zB):D:=.sl 2 (l.map yP) none
def zS (b:Bld):List D:=match b.has with | true=>b.shut.map xl++[.sl 2 (b.cur.map yP) (some 5)] | false=>b.shut.map xl
def bC (q:List zo) (b:Bld):List D:=[.sl 2 (q.map wD) none,.osl 13 1 b.items.length 0 b.items.length,.osl 2 2 b.syms.length 0 b.syms.length,.sl 1 (b.marks.map (.int .i64)) (some 3),
 .osl 1 4 (zS b).length 0 (zS b).length,.int .i64 b.shut.length,.nilsl,.nilsl,.nilsl,.int .i64 b.fe,.int .i64 b.fa]
def zeL (b:Bld):Ob:=match b.has with | true=>.spare b.cur.length | false=>.dead
def bT (b:Bld):List Ob:=[.arr 13 (b.items.map xz),.arr 2 (b.syms.map yH),.spare b.marks.length,.arr 1 (zS b),zeL b]
def bO (q:List zo) (b:Bld):List Ob:=.cells (bC q b)::bT b
theorem ziG:za Tryz.prog qG (zQ (fun _:(D×D×D×D×D×D×D×D×D)×Int×Int×Int×Int×List Ob=>True) (fun (_,_,_,e,line,_)=>[.loc 0 0,.int .i64 e,.int .i64 line])
  (fun ((c0,c1,c2,c3,c4,c5,c6,c7,c8),fe,fa,_,_,X)=>.cells [c0,c1,c2,c3,c4,c5,c6,c7,c8,.int .i64 fe,.int .i64 fa]::X) (fun _=>.ff)
  fun ((c0,c1,c2,c3,c4,c5,c6,c7,c8),fe,fa,e,line,X)=>.cells [c0,c1,c2,c3,c4,c5,c6,c7,c8,.int .i64 (if fe=0 then e else fe),.int .i64 (if fe=0 then line else fa)]::X):=by
 refine zf zh Tryz.func114 rfl (by decide) ?_
 rintro ⟨⟨c0,c1,c2,c3,c4,c5,c6,c7,c8⟩,fe,fa,e,line,X⟩ _
 refine ⟨Nat.le_refl _,by simp [Tryz.f114],fun E hE=>?_⟩
 refine ze _ ?_
 (all_goals refine qgp ?_<;>(repeat' first | exact trivial | intro hc | refine And.intro ?_ ?_)<;>refine Lf.mk ?_)
 ·exact yQ rfl (by dsimp only;rw [if_pos hc,if_pos hc])
 ·exact yQ rfl (by dsimp only;rw [if_neg hc,if_neg hc])
def arC (s:RB) (line:Int):Ob:=.cells [.loc 0 0,.sl 3 (s.rest.map vw) none,.int .i64 line]
def x3 (b:Bld) (s:RB):Bld:={ b with fe:=s.fe,fa:=s.fa }
def vF (q:List zo) (b:Bld) (s:RB) (line:Int):List Ob:=bO q (x3 b s)++[arC s line]
theorem zve (b:Bld):∀ d∈zS b,ClL 6 d.cells:=by
 have h1:∀ d∈b.shut.map xl,ClL 6 d.cells:=by
  intro d hd
  obtain ⟨l,_,rfl⟩:=List.mem_map.1 hd
  exact ClL.cons ClD.sl ClL.nil
 unfold zS
 split
 ·intro d hd
  rcases List.mem_append.1 hd with hd | hd
  ·exact h1 d hd
  ·rw [List.mem_singleton] at hd
   subst hd
   exact ClL.cons (ClD.tok (by decide)) ClL.nil
 ·exact h1
theorem jz {n:Nat} (l:List zO):∀ d∈l.map xz,ClL n d.cells:=by
 intro d hd
 obtain ⟨x,_,rfl⟩:=List.mem_map.1 hd
 exact .cons .int (.cons .int (.cons .int (.cons .int (.cons .int (.cons .int (.cons .int (.cons .bool (.cons .int (.cons .str (.cons .int (.cons .int (.cons .int .nil))))))))))))
theorem zaM {n:Nat} (l:List zH):∀ d∈l.map yH,ClL n d.cells:=by
 intro d hd
 obtain ⟨x,_,rfl⟩:=List.mem_map.1 hd
 exact .cons .str (.cons .int .nil)
theorem ClD.up {n m:Nat} {d:D} (h:ClD n d) (hn:n≤m):ClD m d:=fun f hf=>h f fun k hk=>hf k (by omega)
theorem ClO.up {n m:Nat} {o:Ob} (h:ClO n o) (hn:n≤m):ClO m o:=fun f hf=>h f fun k hk=>hf k (by omega)
theorem xt (q:List zo) (b:Bld):∀ o∈bO q b,ClO 6 o:=by
 intro o ho
 simp only [bO,bT,List.mem_cons,List.not_mem_nil,or_false] at ho
 rcases ho with rfl | rfl | rfl | rfl | rfl | rfl
 ·exact .cells (.cons .sl (.cons (.osl (by decide)) (.cons (.osl (by decide)) (.cons (.tok (by decide)) (.cons (.osl (by decide)) (.cons .int (.cons .nilsl (.cons .nilsl (.cons .nilsl (.cons .int (.cons .int .nil)))))))))))
 ·exact .arr (jz _)
 ·exact .arr (zaM _)
 ·exact .spare
 ·exact .arr (zve _)
 ·unfold zeL
  split
  ·exact .spare
  ·exact .dead
theorem zbI (q:List zo) (b:Bld) (s:RB) (line:Int):∀ o∈vF q b s line,ClO 7 o:=by
 intro o ho
 rcases List.mem_append.1 ho with ho | ho
 ·exact ClO.up (xt _ _ o ho) (by decide)
 ·rw [List.mem_singleton] at ho
  subst ho
  exact .cells (.cons (.loc (by decide)) (.cons .sl (.cons .int .nil)))
theorem vq {c:List UInt8} {t:y8} {r:List y8} {e a:Int}:zV c ⟨t::r,e,a⟩=if t.kind=3∧t.text=c then (true,⟨r,e,a⟩) else (false,⟨t::r,e,a⟩):=by unfold zV;rfl
theorem take_nil {c:List UInt8} {e a:Int}:zV c ⟨[],e,a⟩=(false,⟨[],e,a⟩):=by unfold zV;rfl
theorem zrg:za Tryz.prog zcW (zQ (fun ((_,s,_,_):Bld×RB×List UInt8×List zo×Int)=>s.rest.length≤1000000000) (fun (_,_,c,_,_)=>[.loc 6 0,.str c])
  (fun (b,s,_,q,line)=>vF q b s line) (fun (_,s,c,_,_)=>.bool (zV c s).1) fun (b,s,c,q,line)=>vF q b (zV c s).2 line):=by
 refine zf zh Tryz.func154 rfl (by decide) ?_
 rintro ⟨b,⟨r,e,a⟩,c,q,line⟩ hr
 have hr:r.length≤1000000000:=hr
 refine ⟨Nat.le_refl _,by simp [Tryz.f154],fun E hE=>?_⟩
 cases r with
 | nil=>
  refine ze _ ?_
  (all_goals refine qgp ?_<;>(repeat' first | exact trivial | intro hc | refine And.intro ?_ ?_)<;>refine Lf.mk ?_)
  exact zox (by rw [take_nil]) (by dsimp only;rw [take_nil]) (Nat.le_of_eq rfl)
 | cons t r=>
  have hr2:r.length+1≤1000000000:=hr
  refine ze _ ?_
  (all_goals refine qgp ?_<;>(repeat' first | exact trivial | intro hc | refine And.intro ?_ ?_)<;>refine Lf.mk ?_)
  ·exact zzO (by rw [vq,if_pos ⟨by assumption,by assumption⟩]) (by dsimp only;rw [vq,if_pos ⟨by assumption,by assumption⟩];rfl) (Nat.le_of_eq rfl)
  ·exact zox (by rw [vq,if_neg (fun h=>hc h.2)]) (by dsimp only;rw [vq,if_neg (fun h=>hc h.2)]) (Nat.le_of_eq rfl)
  ·exact zox (by rw [vq,if_neg (fun h=>hc h.1)]) (by dsimp only;rw [vq,if_neg (fun h=>hc h.1)]) (Nat.le_of_eq rfl)
theorem zr8 (q:List zo) (b:Bld) (e line:Int):Ob.cells [.sl 2 (q.map wD) none,.osl 13 1 b.items.length 0 b.items.length,.osl 2 2 b.syms.length 0 b.syms.length,.sl 1 (b.marks.map (.int .i64)) (some 3),
  .osl 1 4 (zS b).length 0 (zS b).length,.int .i64 b.shut.length,.nilsl,.nilsl,.nilsl,.int .i64 (if b.fe=0 then e else b.fe),.int .i64 (if b.fe=0 then line else b.fa)]::bT b=bO q (yN b e line):=by
 unfold yN
 by_cases h:b.fe=0
 ·rw [if_pos h,if_pos h,if_pos h];rfl
 ·rw [if_neg h,if_neg h,if_neg h];rfl
theorem y6 {av:List D} {L:List Ob} {KP:D→Prop} {KW:D→List Ob→Prop} (q:List zo) (b:Bld) (e line:Int) (X:List Ob) (hL:L=bO q b++X) (has:av=[.loc 0 0,.int .i64 e,.int .i64 line])
  (hK:KW .ff (bO q (yN b e line)++X)):zn Tryz.prog qG av L KP KW:=by
 subst has
 refine xF ziG X ((.sl 2 (q.map wD) none,.osl 13 1 b.items.length 0 b.items.length,.osl 2 2 b.syms.length 0 b.syms.length,.sl 1 (b.marks.map (.int .i64)) (some 3),
  .osl 1 4 (zS b).length 0 (zS b).length,.int .i64 b.shut.length,.nilsl,.nilsl,.nilsl),b.fe,b.fa,e,line,bT b) trivial hL (LeL.refl _) rfl ?_ .ff (xt q b) ?_ ?_
 ·exact .cons (.loc (Nat.lt_of_lt_of_le (by decide:0 < 6) (Nat.le_of_eq rfl))) (.cons .int (.cons .int .nil))
 ·dsimp only
  rw [zr8]
  exact xt q _
 ·dsimp only
  rw [zr8]
  exact hK
attribute [local irreducible] zi.kids zi.kind zi.n zi.name zeL xy yM zS
def jP (s:RB) (q:List zo):Prop:=wt (s.rest.map tk)≤1048576∧q.length≤1000000000
theorem zkL:∀ l:List zcS,l.length≤wt l
 | []=>Nat.le_refl _
 | t::l=>by have:=zkL l;rw [wt];simp;omega
theorem zr9:∀ (l:List zcS) (k:Nat),wt (l.drop k)≤wt l
 | [],k=>by simp
 | t::l,0=>Nat.le_refl _
 | t::l,k+1=>by have:=zr9 l k;rw [List.drop_succ_cons,wt];omega
theorem zz6 (l:List zcS):0≤(wg l).2.1∧(wg l).2.1≤l.length:=by
 unfold wg
 have:=ziE l
 split
 ·dsimp only;omega
 ·dsimp only;omega
theorem zy4 (q:List zo) (b:Bld) (s:RB) (e line l2:Int) (X:List Ob):bO q (yN (x3 b s) e line)++(arC s l2::X)=vF q b (qJ s e line) l2++X:=by
 unfold yN qJ vF x3
 by_cases h:s.fe=0
 ·rw [if_pos h,if_pos h];rfl
 ·rw [if_neg h,if_neg h];rfl
theorem jQ {av:List D} {L:List Ob} {KP:D→Prop} {KW:D→List Ob→Prop} (q:List zo) (b:Bld) (s:RB) (e line:Int) (X:List Ob) (hL:L=vF q b s line++X) (has:av=[.loc 0 0,.int .i64 e,.int .i64 line])
  (hK:KW .ff (vF q b (qJ s e line) line++X)):zn Tryz.prog qG av L KP KW:=
 y6 q (x3 b s) e line (arC s line::X) hL has (by rw [zy4];exact hK)
theorem zbJ {n:Nat} (v:zB):ClD n (yP v):=.agg (.cons .str (.cons .int .nil))
theorem qL {n0:Nat} {q:List zo} {b:Bld} {s s':RB} {line:Int} {r d:D} {L:List Ob} (X:List Ob) (hL:L=vF q b s' line++X) (hs:s'=s) (hr:r=d) (hn:n0≤7) (hd:ClD 7 d):zI n0 r d L (vF q b s line):=by
 subst hs;subst hr
 exact xq (vF q b s' line) X hL hn hd (zbI _ _ _ _)
theorem zrh:za Tryz.prog zcs (zQ (fun ((_,s,q,_):Bld×RB×List zo×Int)=>jP s q) (fun _=>[.loc 6 0])
  (fun (b,s,q,line)=>vF q b s line) (fun (_,s,q,line)=>yP (wh q line s).1) fun (b,s,q,line)=>vF q b (wh q line s).2 line):=by
 refine zf zh Tryz.func175 rfl (by decide) ?_
 rintro ⟨b,s,q,line⟩ ⟨hw,hq⟩
 refine ⟨Nat.le_refl _,by simp [Tryz.f175],fun E hE=>?_⟩
 have hl:s.rest.length≤1048576:=by have:=zkL (s.rest.map tk);rw [List.length_map] at this;omega
 have hn:=zz6 (s.rest.map tk)
 rw [List.length_map] at hn
 have hnodes:=zvd (s.rest.map tk)
 have hV:wh q line s=if (wg (s.rest.map tk)).2.2=0 then
  ((xD q (wg (s.rest.map tk)).1).1,if (xD q (wg (s.rest.map tk)).1).2=0 then ⟨s.rest.drop (wg (s.rest.map tk)).2.1.toNat,s.fe,s.fa⟩
    else qJ ⟨s.rest.drop (wg (s.rest.map tk)).2.1.toNat,s.fe,s.fa⟩ (xD q (wg (s.rest.map tk)).1).2 line)
  else (noV,qJ s (wg (s.rest.map tk)).2.2 line):=rfl
 refine ze _ ?_
 (all_goals refine qgp (Lf.mk ?_))
 refine zb zre (s.rest.map tk) (by show (s.rest.map tk).length≤_;rw [List.length_map];omega) (VS.mk (LeL.of_eq (by rw [zw3]))) ?_
 generalize wg (s.rest.map tk)=P at *
 obtain ⟨e,n,err⟩:=P
 dsimp only at hV hn hnodes ⊢
 (all_goals refine qgp ?_<;>(repeat' first | exact trivial | intro hc | refine And.intro ?_ ?_)<;>refine Lf.mk ?_)
 ·rw [if_neg hc] at hV
  refine jQ q b s err line [_,_] rfl rfl ?_
  (all_goals refine qgp (Lf.mk ?_))
  rw [hV]
  exact qL [_,_] rfl rfl rfl (Nat.le_of_eq rfl) (zbJ _)
 ·rw [if_pos hc] at hV
  refine zb (zkF q hq (yM e)) e ⟨Nat.le_refl _,by omega⟩ (VS.mk (LeL.of_eq rfl)) ?_
  generalize xD q e=V at *
  obtain ⟨⟨vn,vi⟩,ve⟩:=V
  dsimp only at hV ⊢
  (all_goals refine qgp ?_<;>(repeat' first | exact trivial | intro hc | refine And.intro ?_ ?_)<;>refine Lf.mk ?_)
  ·rw [if_neg hc] at hV
   refine jQ q b ⟨s.rest.drop n.toNat,s.fe,s.fa⟩ ve line [_,_,_] rfl rfl ?_
   (all_goals refine qgp (Lf.mk ?_))
   rw [hV]
   exact qL [_,_,_] rfl rfl rfl (Nat.le_of_eq rfl) (zbJ _)
  ·rw [if_pos hc] at hV
   rw [hV]
   exact qL (s':=⟨s.rest.drop n.toNat,s.fe,s.fa⟩) [_,_,_] rfl rfl rfl (Nat.le_of_eq rfl) (zbJ _)
theorem zej {av:List D} {L:List Ob} {KP:D→Prop} {KW:D→List Ob→Prop} (q:List zo) (b:Bld) (s:RB) (c:List UInt8) (line:Int) (X:List Ob) (hl:s.rest.length≤1000000000) (hL:L=vF q b s line++X) (has:av=[.loc 6 0,.str c])
  (hK:KW (.bool (zV c s).1) (vF q b (zV c s).2 line++X)):zn Tryz.prog zcW av L KP KW:=by
 subst has
 exact xF zrg X (b,s,c,q,line) hl hL (LeL.refl _) rfl (.cons (.loc (Nat.lt_of_lt_of_le (by decide:6 < 7) (Nat.le_of_eq rfl))) (.cons .str .nil)) .bool (zbI _ _ _ _) (zbI _ _ _ _) hK
theorem zdc {av:List D} {L:List Ob} {KP:D→Prop} {KW:D→List Ob→Prop} (q:List zo) (b:Bld) (s:RB) (line:Int) (X:List Ob) (hl:jP s q) (hL:L=vF q b s line++X) (has:av=[.loc 6 0])
  (hK:KW (yP (wh q line s).1) (vF q b (wh q line s).2 line++X)):zn Tryz.prog zcs av L KP KW:=by
 subst has
 exact xF zrh X (b,s,q,line) hl hL (LeL.refl _) rfl (.cons (.loc (Nat.lt_of_lt_of_le (by decide:6 < 7) (Nat.le_of_eq rfl))) .nil) (zbJ _) (zbI _ _ _ _) (zbI _ _ _ _) hK
theorem zf6 {c:List UInt8} {s:RB} (h:(zV c s).1=false):(zV c s).2=s:=by
 obtain ⟨r,e,a⟩:=s
 cases r with
 | nil=>rw [take_nil]
 | cons t r=>
  rw [vq] at h ⊢
  split at h
  ·cases h
  ·rw [if_neg (by assumption)]
theorem zjm {c:List UInt8} {s:RB} {q:List zo} (h:jP s q):jP (zV c s).2 q:=by
 obtain ⟨r,e,a⟩:=s
 cases r with
 | nil=>rw [take_nil];exact h
 | cons t r=>
  rw [vq]
  split
  ·refine ⟨?_,h.2⟩
   have:=h.1
   rw [List.map_cons,wt] at this
   show wt (r.map tk)≤_
   omega
  ·exact h
theorem zw5 (c:List UInt8) (s:RB):∀ t∈(zV c s).2.rest,t∈s.rest:=by
 obtain ⟨r,e,a⟩:=s
 cases r with
 | nil=>rw [take_nil];exact fun _ h=>h
 | cons t r=>
  rw [vq]
  split
  ·exact fun _ h=>List.mem_cons_of_mem _ h
  ·exact fun _ h=>h
theorem zib {s:RB} {q:List zo} (h:jP s q):s.rest.length≤1048576:=by have:=h.1;have:=zkL (s.rest.map tk);rw [List.length_map] at this;omega
theorem zz7 {s:RB} (h:(zV [35] s).1=false) (h':(zV [64] s).1=false) (h2:(zV [61] s).1=false):jc s=([],s):=by
 unfold jc
 rw [if_neg (by rw [h];decide),if_neg (by rw [h'];decide),if_neg (by rw [h2];decide)]
theorem jR {n:Nat} (o:AOp):ClD n (q7 o):=.agg (.cons .str (.cons .int (.cons .str (.cons .int .nil))))
theorem zz8 {s:RB} (h:(zV [35] s).1=true):jc s=([35],(zV [35] s).2):=by unfold jc;rw [if_pos h]
theorem zz9 {s:RB} (h:(zV [35] s).1=false) (h1:(zV [64] s).1=true):jc s=([64],(zV [64] s).2):=by
 unfold jc;rw [if_neg (by rw [h];decide),if_pos h1]
theorem zAa {s:RB} (h:(zV [35] s).1=false) (h1:(zV [64] s).1=false) (h2:(zV [61] s).1=true):jc s=([61],(zV [61] s).2):=by
 unfold jc;rw [if_neg (by rw [h];decide),if_neg (by rw [h1];decide),if_pos h2]
theorem zps {q:List zo} {line:Int} {sg:List UInt8} {s:RB} (h:¬ (sg=[]∨sg=[64])):zbG q line sg s=(⟨sg,0,(wh q line s).1⟩,(wh q line s).2):=by
 unfold zbG;rw [if_neg fun e=>h e.1,if_neg fun e=>h (.inr e)]
theorem zpt {q:List zo} {line:Int} {sg:List UInt8} {t:y8} {r:List y8} {e a:Int} (h:sg=[]∨sg=[64]) (h1:0≤vo t):zbG q line sg ⟨t::r,e,a⟩=(⟨if sg=[] then [114] else sg,vo t,noV⟩,⟨r,e,a⟩):=by
 unfold zbG;rw [if_pos ⟨h,h1⟩];rfl
theorem zsa {q:List zo} {line:Int} {s:RB} (h:zlG s.rest < 0):zbG q line [64] s=(⟨[64],0,noV⟩,qJ s 2 line):=by
 unfold zbG;rw [if_neg fun e=>by omega,if_pos rfl]
theorem zsb {q:List zo} {line:Int} {s:RB} (h:zlG s.rest < 0):zbG q line [] s=(⟨[],0,(wh q line s).1⟩,(wh q line s).2):=by
 unfold zbG;rw [if_neg fun e=>by omega,if_neg (by decide)]
theorem zvf:za Tryz.prog zdG (zQ (fun ((_,s,q,_):Bld×RB×List zo×Int)=>jP s q∧∀ t∈s.rest,t.text.length≤1000000000) (fun _=>[.loc 6 0])
  (fun (b,s,q,line)=>vF q b s line) (fun (_,s,q,line)=>q7 (xe q line s).1) fun (b,s,q,line)=>vF q b (xe q line s).2 line):=by
 refine zf zh Tryz.func153 rfl (by decide) ?_
 rintro ⟨b,s,q,line⟩ ⟨hv,htx⟩
 have hv:jP s q:=hv
 have htx:∀ t∈s.rest,t.text.length≤1000000000:=htx
 refine ⟨Nat.le_refl _,by simp [Tryz.f153],fun E hE=>?_⟩
 have hl:=zib hv
 refine ze _ ?_
 (all_goals refine qgp (Lf.mk ?_))
 refine zfL (ze _ ?_)
 (all_goals refine qgp ?_<;>(repeat' first | exact trivial | intro hc | refine And.intro ?_ ?_)<;>refine Lf.mk ?_)
 refine zej q b s [35] line [_,_] (by omega) rfl rfl ?_
 cases h35:(zV [35] s).1 with
 | true=>
  have hone:xe q line s=(⟨[35],0,(wh q line (zV [35] s).2).1⟩,(wh q line (zV [35] s).2).2):=by unfold xe;rw [zz8 h35];exact zps (sg:=[35]) (by decide)
  (all_goals refine qgp ?_<;>(repeat' first | exact trivial | intro hc | refine And.intro ?_ ?_)<;>refine Lf.mk ?_)
  (any_goals (first | (exfalso;refine Bool.false_ne_true ?_;assumption) | (exfalso;refine Bool.false_ne_true (Eq.symm ?_);assumption) | (exfalso;refine absurd trivial ?_;assumption) | skip))
  all_goals first
   | (exfalso;exact absurd (by assumption:([35]:List UInt8)=[64]) (by decide))
   | (exfalso;exact absurd (by assumption:([35]:List UInt8)=[]) (by decide))
   | skip
  all_goals (refine zdc q b (zV [35] s).2 line [_,_] (zjm hv) rfl rfl ?_)
  (all_goals refine qgp (Lf.mk ?_))
  all_goals (dsimp only;rw [hone])
  all_goals exact qL [_,_] rfl rfl rfl (Nat.le_of_eq rfl) (jR _)
 | false=>
  rw [zf6 h35]
  (all_goals refine qgp ?_<;>(repeat' first | exact trivial | intro hc | refine And.intro ?_ ?_)<;>refine Lf.mk ?_)
  (any_goals (first | (exfalso;refine Bool.false_ne_true ?_;assumption) | (exfalso;refine Bool.false_ne_true (Eq.symm ?_);assumption) | (exfalso;refine absurd trivial ?_;assumption) | skip))
  refine zdB (ze _ ?_)
  (all_goals refine qgp ?_<;>(repeat' first | exact trivial | intro hc | refine And.intro ?_ ?_)<;>refine Lf.mk ?_)
  refine zej q b s [64] line [_,_] (by omega) rfl rfl ?_
  cases h64:(zV [64] s).1 with
  | true=>
   have hone:xe q line s=zbG q line [64] (zV [64] s).2:=by unfold xe;rw [zz9 h35 h64]
   have hsub:∀ t∈(zV [64] s).2.rest,t.text.length≤1000000000:=fun t ht=>htx t (zw5 _ _ t ht)
   have hl2:=zib (zjm (c:=[64]) hv)
   generalize (zV [64] s).2=s' at *
   obtain ⟨r,e,a⟩:=s'
   cases r with
   | nil=>
    have hone:xe q line s=(⟨[64],0,noV⟩,qJ ⟨[],e,a⟩ 2 line):=by rw [hone];exact zsa (show zlG [] < 0 by decide)
    (all_goals refine qgp ?_<;>(repeat' first | exact trivial | intro hc | refine And.intro ?_ ?_)<;>refine Lf.mk ?_)
    (any_goals (first | (exfalso;refine Bool.false_ne_true ?_;assumption) | (exfalso;refine Bool.false_ne_true (Eq.symm ?_);assumption) | (exfalso;refine absurd trivial ?_;assumption) | skip))
    all_goals first
     | (exfalso;exact absurd (by assumption:¬ ([64]:List UInt8)=[64]) (by decide))
     | skip
    refine jQ q b ⟨[],e,a⟩ 2 line [_,_] rfl rfl ?_
    (all_goals refine qgp (Lf.mk ?_))
    dsimp only
    rw [hone]
    exact qL [_,_] rfl rfl rfl (Nat.le_of_eq rfl) (jR _)
   | cons t r=>
    have hl2:r.length+1≤1048576:=hl2
    (all_goals refine qgp ?_<;>(repeat' first | exact trivial | intro hc | refine And.intro ?_ ?_)<;>refine Lf.mk ?_)
    (any_goals (first | (exfalso;refine Bool.false_ne_true ?_;assumption) | (exfalso;refine Bool.false_ne_true (Eq.symm ?_);assumption) | (exfalso;refine absurd trivial ?_;assumption) | skip))
    all_goals first
     | (exfalso;exact absurd trivial (by assumption))
     | (exfalso;exact absurd (by assumption:([64]:List UInt8)=[]) (by decide))
     | (exfalso;exact absurd (by assumption:¬ ([64]:List UInt8)=[64]) (by decide))
     | skip
    refine zb zbH t (hsub t List.mem_cons_self) (VS.mk (LeL.of_eq rfl)) ?_
    (all_goals refine qgp ?_<;>(repeat' first | exact trivial | intro hc | refine And.intro ?_ ?_)<;>refine Lf.mk ?_)
    all_goals first
     | (exfalso;exact absurd trivial (by assumption))
     | (exfalso;exact absurd (by assumption:([64]:List UInt8)=[]) (by decide))
     | (exfalso;exact absurd (by assumption:¬ ([64]:List UInt8)=[64]) (by decide))
     | skip
    ·have hone:xe q line s=(⟨[64],vo t,noV⟩,⟨r,e,a⟩):=by rw [hone];exact zpt (.inr rfl) (by assumption)
     dsimp only
     rw [hone]
     exact qL (s':=⟨r,e,a⟩) [_,_] rfl rfl rfl (Nat.le_of_eq rfl) (jR _)
    ·have hone:xe q line s=(⟨[64],0,noV⟩,qJ ⟨t::r,e,a⟩ 2 line):=by rw [hone];exact zsa (show vo t < 0 by omega)
     refine jQ q b ⟨t::r,e,a⟩ 2 line [_,_] rfl rfl ?_
     (all_goals refine qgp (Lf.mk ?_))
     dsimp only
     rw [hone]
     exact qL [_,_] rfl rfl rfl (Nat.le_of_eq rfl) (jR _)
  | false=>
   rw [zf6 h64]
   (all_goals refine qgp ?_<;>(repeat' first | exact trivial | intro hc | refine And.intro ?_ ?_)<;>refine Lf.mk ?_)
   (any_goals (first | (exfalso;refine Bool.false_ne_true ?_;assumption) | (exfalso;refine Bool.false_ne_true (Eq.symm ?_);assumption) | (exfalso;refine absurd trivial ?_;assumption) | skip))
   refine zdB (ze _ ?_)
   (all_goals refine qgp ?_<;>(repeat' first | exact trivial | intro hc | refine And.intro ?_ ?_)<;>refine Lf.mk ?_)
   refine zej q b s [61] line [_,_] (by omega) rfl rfl ?_
   cases h61:(zV [61] s).1 with
   | true=>
    have hone:xe q line s=(⟨[61],0,(wh q line (zV [61] s).2).1⟩,(wh q line (zV [61] s).2).2):=by unfold xe;rw [zAa h35 h64 h61];exact zps (sg:=[61]) (by decide)
    (all_goals refine qgp ?_<;>(repeat' first | exact trivial | intro hc | refine And.intro ?_ ?_)<;>refine Lf.mk ?_)
    (any_goals (first | (exfalso;refine Bool.false_ne_true ?_;assumption) | (exfalso;refine Bool.false_ne_true (Eq.symm ?_);assumption) | (exfalso;refine absurd trivial ?_;assumption) | skip))
    all_goals first
     | (exfalso;exact absurd (by assumption:([61]:List UInt8)=[64]) (by decide))
     | (exfalso;exact absurd (by assumption:([61]:List UInt8)=[]) (by decide))
     | skip
    all_goals (refine zdc q b (zV [61] s).2 line [_,_] (zjm hv) rfl rfl ?_)
    (all_goals refine qgp (Lf.mk ?_))
    all_goals (dsimp only;rw [hone])
    all_goals exact qL [_,_] rfl rfl rfl (Nat.le_of_eq rfl) (jR _)
   | false=>
    have hone:xe q line s=zbG q line [] s:=by unfold xe;rw [zz7 h35 h64 h61]
    rw [zf6 h61]
    clear h35 h64 h61
    obtain ⟨r,e,a⟩:=s
    cases r with
    | nil=>
     have hone:xe q line ⟨[],e,a⟩=(⟨[],0,(wh q line ⟨[],e,a⟩).1⟩,(wh q line ⟨[],e,a⟩).2):=by rw [hone];exact zsb (show zlG [] < 0 by decide)
     (all_goals refine qgp ?_<;>(repeat' first | exact trivial | intro hc | refine And.intro ?_ ?_)<;>refine Lf.mk ?_)
     (any_goals (first | (exfalso;refine Bool.false_ne_true ?_;assumption) | (exfalso;refine Bool.false_ne_true (Eq.symm ?_);assumption) | (exfalso;refine absurd trivial ?_;assumption) | skip))
     refine zdB (ze _ ?_)
     (all_goals refine qgp ?_<;>(repeat' first | exact trivial | intro hc | refine And.intro ?_ ?_)<;>refine Lf.mk ?_)
     all_goals first
      | (exfalso;exact absurd trivial (by assumption))
      | (exfalso;exact absurd (by assumption:([]:List UInt8)=[64]) (by decide))
      | skip
     refine zdc q b ⟨[],e,a⟩ line [_,_] hv rfl rfl ?_
     (all_goals refine qgp (Lf.mk ?_))
     dsimp only
     rw [hone]
     exact qL [_,_] rfl rfl rfl (Nat.le_of_eq rfl) (jR _)
    | cons t r=>
     have hl2:r.length+1≤1048576:=hl
     (all_goals refine qgp ?_<;>(repeat' first | exact trivial | intro hc | refine And.intro ?_ ?_)<;>refine Lf.mk ?_)
     (any_goals (first | (exfalso;refine Bool.false_ne_true ?_;assumption) | (exfalso;refine Bool.false_ne_true (Eq.symm ?_);assumption) | (exfalso;refine absurd trivial ?_;assumption) | skip))
     refine zdB (ze _ ?_)
     (all_goals refine qgp ?_<;>(repeat' first | exact trivial | intro hc | refine And.intro ?_ ?_)<;>refine Lf.mk ?_)
     all_goals first
      | (exfalso;exact absurd trivial (by assumption))
      | (exfalso;exact absurd (by assumption:([]:List UInt8)=[64]) (by decide))
      | (exfalso;exact absurd (by assumption:¬ ([]:List UInt8)=[]) (by decide))
      | skip
     refine zb zbH t (htx t List.mem_cons_self) (VS.mk (LeL.of_eq rfl)) ?_
     (all_goals refine qgp ?_<;>(repeat' first | exact trivial | intro hc | refine And.intro ?_ ?_)<;>refine Lf.mk ?_)
     all_goals first
      | (exfalso;exact absurd trivial (by assumption))
      | (exfalso;exact absurd (by assumption:([]:List UInt8)=[64]) (by decide))
      | (exfalso;exact absurd (by assumption:¬ ([]:List UInt8)=[]) (by decide))
      | skip
     ·have hone:xe q line ⟨t::r,e,a⟩=(⟨[114],vo t,noV⟩,⟨r,e,a⟩):=by rw [hone];exact zpt (.inl rfl) (by assumption)
      dsimp only
      rw [hone]
      exact qL (s':=⟨r,e,a⟩) [_,_] rfl rfl rfl (Nat.le_of_eq rfl) (jR _)
     ·have hone:xe q line ⟨t::r,e,a⟩=(⟨[],0,(wh q line ⟨t::r,e,a⟩).1⟩,(wh q line ⟨t::r,e,a⟩).2):=by rw [hone];exact zsb (show vo t < 0 by omega)
      refine zdc q b ⟨t::r,e,a⟩ line [_,_] hv rfl rfl ?_
      (all_goals refine qgp (Lf.mk ?_))
      dsimp only
      rw [hone]
      exact qL [_,_] rfl rfl rfl (Nat.le_of_eq rfl) (jR _)
def wz (s s':RB):Prop:=s'.rest.length≤s.rest.length∧wt (s'.rest.map tk)≤wt (s.rest.map tk)∧∀ t∈s'.rest,t∈s.rest
theorem wz.refl (s:RB):wz s s:=⟨Nat.le_refl _,Nat.le_refl _,fun _ h=>h⟩
theorem wz.trans {a b c:RB} (h:wz a b) (k:wz b c):wz a c:=⟨Nat.le_trans k.1 h.1,Nat.le_trans k.2.1 h.2.1,fun t ht=>h.2.2 t (k.2.2 t ht)⟩
theorem wz.fail {s s':RB} (h:wz s s') (e line:Int):wz s (qJ s' e line):=by
 unfold qJ
 split
 ·exact h
 ·exact h
theorem wz.drop {s:RB} (k:Nat) (e a:Int):wz s ⟨s.rest.drop k,e,a⟩:=
 ⟨by simp,by show wt ((s.rest.drop k).map tk)≤_;rw [List.map_drop];exact zr9 _ _,fun t ht=>List.mem_of_mem_drop ht⟩
theorem zaN (c:List UInt8) (s:RB):wz s (zV c s).2:=by
 obtain ⟨r,e,a⟩:=s
 cases r with
 | nil=>rw [take_nil];exact .refl _
 | cons t r=>
  rw [vq]
  split
  ·exact wz.drop (s:=⟨t::r,e,a⟩) 1 e a
  ·exact .refl _
theorem ztw (q:List zo) (line:Int) (s:RB):wz s (wh q line s).2:=by
 unfold wh
 split
 ·dsimp only
  split
  ·exact .drop _ _ _
  ·exact (wz.drop _ _ _).fail _ _
 ·exact (wz.refl s).fail _ _
theorem zvg (s:RB):wz s (jc s).2:=by
 unfold jc
 split
 ·exact zaN _ _
 split
 ·exact zaN _ _
 split
 ·exact zaN _ _
 ·exact .refl _
theorem zpu (q:List zo) (line:Int) (s:RB):wz s (xe q line s).2:=by
 unfold xe zbG
 refine (zvg s).trans ?_
 split
 ·exact .drop _ _ _
 split
 ·exact (wz.refl _).fail _ _
 ·exact ztw _ _ _
theorem ztx (line:Int) (s:RB):wz s (x6 line s):=by
 unfold x6
 split
 ·exact (zaN _ _).fail _ _
 ·exact zaN _ _
theorem zkM (line:Int) (s:RB) (h:(x6 line s).fe=0):(x6 line s).rest.length+1≤s.rest.length:=by
 unfold x6 at h ⊢
 split
 ·rename_i hc
  rw [if_pos hc] at h
  exfalso
  unfold qJ at h
  split at h
  ·exact absurd (show (2:Int)=0 from h) (by decide)
  ·contradiction
 ·rename_i hc
  have ht:(zV [44] s).1=true:=by
   cases h1:(zV [44] s).1 with
   | true=>rfl
   | false=>exact absurd (.inl h1) hc
  obtain ⟨r,e,a⟩:=s
  cases r with
  | nil=>rw [take_nil] at ht;cases ht
  | cons t r=>
   rw [vq] at ht ⊢
   split at ht
   ·rw [if_pos (by assumption)];exact Nat.le_refl _
   ·cases ht
theorem wz.val {s s':RB} {q:List zo} (h:wz s s') (hv:jP s q):jP s' q:=⟨Nat.le_trans h.2.1 hv.1,hv.2⟩
theorem zjn {q:List zo} {line:Int} {out:List AOp} {s:RB} (h:s.rest=[]∨s.fe≠0):∀ f,zaC q line f out s=(out,s)
 | 0=>rfl
 | f+1=>by rw [zaC,if_pos h]
theorem zvh {q:List zo} {line:Int} {out:List AOp} {s:RB} (f:Nat) (h:¬ (s.rest=[]∨s.fe≠0)):zaC q line (f+1) out s=if (xe q line s).2.rest=[] then (out++[(xe q line s).1],(xe q line s).2)
  else zaC q line f (out++[(xe q line s).1]) (x6 line (xe q line s).2):=by rw [zaC,if_neg h]
theorem zvi (line:Int) (s:RB):x6 line s=if (zV [44] s).1=false∨(zV [44] s).2.rest=[] then qJ (zV [44] s).2 2 line else (zV [44] s).2:=rfl
attribute [local irreducible] xe x6 zaC
theorem zw6 {av:List D} {L:List Ob} {KP:D→Prop} {KW:D→List Ob→Prop} (q:List zo) (b:Bld) (s:RB) (line:Int) (X:List Ob) (hl:jP s q) (ht:∀ t∈s.rest,t.text.length≤1000000000) (hL:L=vF q b s line++X) (has:av=[.loc 6 0])
  (hK:KW (q7 (xe q line s).1) (vF q b (xe q line s).2 line++X)):zn Tryz.prog zdG av L KP KW:=by
 subst has
 exact xF zvf X (b,s,q,line) ⟨hl,ht⟩ hL (LeL.refl _) rfl (.cons (.loc (Nat.lt_of_lt_of_le (by decide:6 < 7) (Nat.le_of_eq rfl))) .nil) (jR _) (zbI _ _ _ _) (zbI _ _ _ _) hK
theorem zvj:za Tryz.prog zdF (zQ (fun ((_,s,q,_):Bld×RB×List zo×Int)=>jP s q∧∀ t∈s.rest,t.text.length≤1000000000) (fun _=>[.loc 6 0])
  (fun (b,s,q,line)=>vF q b s line) (fun (_,s,q,line)=>.sl 4 ((xL q line s).1.map q7) none) fun (b,s,q,line)=>vF q b (xL q line s).2 line):=by
 refine zf zh Tryz.func115 rfl (by decide) ?_
 rintro ⟨b,s,q,line⟩ ⟨hv,htx⟩
 have hv:jP s q:=hv
 have htx:∀ t∈s.rest,t.text.length≤1000000000:=htx
 refine ⟨Nat.le_refl _,by simp [Tryz.f115],fun E hE=>?_⟩
 have hl0:=zib hv
 have hE7:E.L.length=7:=by rw [hE];rfl
 generalize hT:xL q line s=T
 have hT0:zaC q line (s.rest.length+1) [] s=T:=hT
 refine ze _ ?_
 (all_goals refine qgp (Lf.mk ?_))
 refine x8 (qV 3 4 rfl) ?_
 refine yp (α:=List AOp×RB×Nat) (fun p=>wz s p.2.1∧(p.2.1.fe=0→p.2.1.rest.length+1≤p.2.2)∧zaC q line p.2.2 p.1 p.2.1=T∧p.1.length+p.2.1.rest.length≤s.rest.length+1∧(p.2.1.fe=0→p.1.length+p.2.1.rest.length≤s.rest.length))
  (fun p=>[(0,.loc 6 0),(3,.sl 4 (p.1.map q7) (some 7))]) (fun p=>vF q b p.2.1 line++[.spare p.1.length]) (fun p=>p.2.1.rest.length+if p.2.1.fe=0 then 1 else 0) (fun _=>by rw [hE7];exact Nat.le_succ 7) ([],s,s.rest.length+1)
  ⟨.refl _,fun _=>Nat.le_refl _,hT0,by simp,fun _=>by simp⟩ ?_ ?_
 ·exact yf rfl ⟨rfl,rfl,trivial⟩
 rintro ⟨out,s1,f⟩ ⟨i1,i2,i3,i4,i5⟩
 dsimp only at i1 i2 i3 i4 i5 ⊢
 have hv1:=i1.val hv
 have hl1:=zib hv1
 refine ze _ ?_
 (all_goals refine qgp ?_<;>(repeat' first | exact trivial | intro hc | refine And.intro ?_ ?_)<;>refine Lf.mk ?_)
 ·have hfe:s1.fe=0:=hc
  have hne:s1.rest≠[]:=fun h=>by simp only [h,List.length_nil] at *;omega
  have hf:=i2 hfe
  have hol:=i5 hfe
  obtain ⟨f,rfl⟩:∃ g,f=g+1:=⟨f - 1,by omega⟩
  rw [zvh f (fun e=>e.elim hne (fun e=>e hfe))] at i3
  have hone:=zpu q line s1
  refine zw6 q b s1 line [_] hv1 (fun t ht=>htx t (i1.2.2 t ht)) rfl rfl ?_
  generalize xe q line s1=W at *
  obtain ⟨o,s2⟩:=W
  dsimp only at i3 hone ⊢
  have hl2:=hone.1
  (all_goals refine qgk (Lf.mk ?_))
  refine xd ((out++[o]).map q7) (by rw [List.map_append];rfl) ?_
  rw [List.length_map]
  (all_goals refine qgp ?_<;>(repeat' first | exact trivial | intro hc | refine And.intro ?_ ?_)<;>refine Lf.mk ?_)
  ·have hre:s2.rest=[]:=List.eq_nil_of_length_eq_zero (by omega)
   rw [if_pos hre] at i3
   refine vH (LeD.strip _ _ _) ?_ (Nat.le_of_eq rfl)
   rw [hT,← i3]
   exact qL [_] rfl rfl rfl (Nat.le_of_eq rfl) .sl
  ·have hre:¬ s2.rest=[]:=fun h=>by rw [h] at hc;exact hc rfl
   rw [if_neg hre] at i3
   have hl3:=zaN [44] s2
   have hcl:=ztx line s2
   have hce:=zkM line s2
   have hcd:x6 line s2=if (zV [44] s2).1=false∨(zV [44] s2).2.rest=[] then qJ (zV [44] s2).2 2 line else (zV [44] s2).2:=zvi line s2
   refine zej q b s2 [44] line [_] (by omega) rfl rfl ?_
   generalize zV [44] s2=Y at *
   obtain ⟨y,s3⟩:=Y
   dsimp only at hcd hl3 ⊢
   have hl3:=hl3.1
   have hcl1:=hcl.1
   have hI:wz s (x6 line s2)∧((x6 line s2).fe=0→(x6 line s2).rest.length+1≤f)∧zaC q line f (out++[o]) (x6 line s2)=T∧(out++[o]).length+(x6 line s2).rest.length≤s.rest.length+1 ∧
     ((x6 line s2).fe=0→(out++[o]).length+(x6 line s2).rest.length≤s.rest.length):=by
    refine ⟨i1.trans (hone.trans hcl),fun h=>by have:=hce h;omega,i3,?_,fun h=>?_⟩
    ·rw [List.length_append,List.length_singleton];omega
    ·have:=hce h;rw [List.length_append,List.length_singleton];omega
   have hmu:(x6 line s2).rest.length+(if (x6 line s2).fe=0 then 1 else 0) < s1.rest.length+(if s1.fe=0 then 1 else 0):=by
    rw [if_pos hfe]
    by_cases h:(x6 line s2).fe=0
    ·have:=hce h;rw [if_pos h];omega
    ·rw [if_neg h];omega
   generalize x6 line s2=s4 at *
   (all_goals refine qgp ?_<;>(repeat' first | exact trivial | intro hc | refine And.intro ?_ ?_)<;>refine Lf.mk ?_)
   ·rw [if_pos (.inl hc)] at hcd
    refine jQ q b s3 2 line [_] rfl rfl ?_
    rw [← hcd]
    (all_goals refine qgp (Lf.mk ?_))
    exact yj (out++[o],s4,f) hI hmu rfl ⟨rfl,rfl,trivial⟩
   ·rw [if_pos (.inr (List.eq_nil_of_length_eq_zero (by omega)))] at hcd
    refine jQ q b s3 2 line [_] rfl rfl ?_
    rw [← hcd]
    (all_goals refine qgp (Lf.mk ?_))
    exact yj (out++[o],s4,f) hI hmu rfl ⟨rfl,rfl,trivial⟩
   ·have hy:y=true:=by assumption
    rw [if_neg (fun e=>e.elim (fun h=>by rw [hy] at h;cases h) (fun h=>by rw [h] at hc;exact hc rfl))] at hcd
    rw [← hcd]
    exact yj (out++[o],s4,f) hI hmu rfl ⟨rfl,rfl,trivial⟩
 ·have hfe:s1.fe≠0:=hc
  rw [zjn (.inr hfe)] at i3
  refine vH (LeD.strip _ _ _) ?_ (Nat.le_of_eq rfl)
  rw [hT,← i3]
  exact qL [_] rfl rfl rfl (Nat.le_of_eq rfl) .sl
 ·have hre:s1.rest=[]:=List.eq_nil_of_length_eq_zero (by omega)
  rw [zjn (.inl hre)] at i3
  refine vH (LeD.strip _ _ _) ?_ (Nat.le_of_eq rfl)
  rw [hT,← i3]
  exact qL [_] rfl rfl rfl (Nat.le_of_eq rfl) .sl
end Go.Proofs.YtnkdeacghopkiaaGreatDoor
namespace Go.Proofs.YtnkdeacghopkiaaGreatDoor
open Go Go.Plat
set_option linter.unusedVariables false
set_option linter.unusedSimpArgs false
set_option maxRecDepth 100000
set_option maxHeartbeats 2000000
attribute [local irreducible] AWP zG yn zK zn yA z8 zI zY Lib.itoa z6 zw za zN yB zt z7 zi.kids zi.kind zi.n zi.name yx yy yq yt zx zz xL zD xD xy yM xe wg vo zV
theorem yg {n0:Nat} {q:List zo} {b b':Bld} {r d:D} {L:List Ob} (X:List Ob) (hL:L=bO q b'++X) (hb:b'=b) (hr:r=d) (hn:n0≤6) (hd:ClD 6 d):zI n0 r d L (bO q b):=by
 subst hb;subst hr
 exact xq (bO q b') X hL hn hd (xt _ _)
theorem zf7:za Tryz.prog j5 (zQ (fun ((b,_,_):Bld×zO×List zo)=>b.items.length≤1000000) (fun (_,x,_)=>[.loc 0 0,xz x])
  (fun (b,_,q)=>bO q b) (fun _=>.tup []) fun (b,x,q)=>bO q (xN b x)):=by
 refine zf zh Tryz.func119 rfl (by decide) ?_
 rintro ⟨b,x,q⟩ hl
 have hl:b.items.length≤1000000:=hl
 refine ⟨Nat.le_refl _,by simp [Tryz.f119],fun E hE=>?_⟩
 refine ze _ ?_
 (all_goals refine qgk (Lf.mk ?_))
 refine xd ((b.items++[x]).map xz) (by rw [List.map_append];rfl) ?_
 rw [List.length_map]
 (all_goals refine qgk (Lf.mk ?_))
 exact yg (b':=xN b x) [_] rfl rfl rfl (Nat.le_of_eq rfl) .tup0
theorem zpv {n:Nat} (x:zO):ClD n (xz x):=.agg (.cons .int (.cons .int (.cons .int (.cons .int (.cons .int (.cons .int (.cons .int (.cons .bool (.cons .int (.cons .str (.cons .int (.cons .int (.cons .int .nil)))))))))))))
theorem yJ {av:List D} {L:List Ob} {KP:D→Prop} {KW:D→List Ob→Prop} (q:List zo) (b:Bld) (x:zO) (X:List Ob) (hl:b.items.length≤1000000) (hL:L=bO q b++X) (has:LeL av [.loc 0 0,xz x])
  (hK:KW (.tup []) (bO q (xN b x)++X)):zn Tryz.prog j5 av L KP KW:=by
 refine ze2 has ?_
 exact xF zf7 X (b,x,q) hl hL (LeL.refl _) rfl (.cons (.loc (Nat.lt_of_lt_of_le (by decide:0 < 6) (Nat.le_of_eq rfl))) (.cons (zpv x) .nil)) .tup0 (xt _ _) (xt _ _) hK
theorem yR {k at_ line:Int} {i:Ins} {size:Int} {v:zB} {p x:Int}:LeL [.loc 0 0,.agg [.int .i64 k,.int .i64 at_,.int .i64 line,.int .i64 i.op,.int .i64 i.n,.int .i64 i.m,.int .i64 i.imm,.ff,.int .i64 size,.str v.name,.int .i64 v.n,.int .i64 p,.int .i64 x]]
  [.loc 0 0,xz ⟨k,at_,line,i,false,size,v,p,x⟩]:=
 .cons (.refl _) (.cons (.agg (.cons (.refl _) (.cons (.refl _) (.cons (.refl _) (.cons (.refl _) (.cons (.refl _) (.cons (.refl _) (.cons (.refl _) (.cons (.ff rfl) (.refl _)))))))))) .nil)
theorem q8 (b:Bld) (e line:Int):(yN b e line).items=b.items:=by unfold yN;split<;>rfl
theorem zpw:za Tryz.prog zbp (zQ (fun ((b,l,_,_):Bld×List AOp×Int×List zo)=>b.items.length≤1000000∧l.length≤1000000000) (fun (_,l,line,_)=>[.loc 0 0,.sl 4 (l.map q7) none,.int .i64 line])
  (fun (b,_,_,q)=>bO q b) (fun _=>.tup []) fun (b,l,line,q)=>bO q (kU b l line)):=by
 refine zf zh Tryz.func117 rfl (by decide) ?_
 rintro ⟨b,l,line,q⟩ ⟨hb,hl⟩
 have hb:b.items.length≤1000000:=hb
 have hl:l.length≤1000000000:=hl
 refine ⟨Nat.le_refl _,by simp [Tryz.f117],fun E hE=>?_⟩
 match l,hl with
 | [],_=>
  refine ze _ ?_
  (all_goals refine qgp ?_<;>(repeat' first | exact trivial | intro hc | refine And.intro ?_ ?_)<;>refine Lf.mk ?_)
  refine y6 q b 2 line [] rfl rfl ?_
  (all_goals refine qgp (Lf.mk ?_))
  exact yg [] rfl rfl rfl (Nat.le_of_eq rfl) .tup0
 | [o],_=>
  have hA:kU b [o] line=if o.sign≠[]∨o.val.name≠[] then yN b 2 line else if o.val.n≠1∧o.val.n≠2∧o.val.n≠4∧o.val.n≠8∧o.val.n≠16 then yN b 3 line
    else xN b ⟨8,0,line,noI,false,o.val.n,noV,0,0⟩:=by
   unfold kU
   by_cases h:o.sign≠[]∨o.val.name≠[]
   ·rw [if_pos h,if_pos (.inr h)]
   ·rw [if_neg h,if_neg (fun e=>e.elim (fun e=>e rfl) h)];rfl
  refine ze _ ?_
  (all_goals refine qgp ?_<;>(repeat' first | exact trivial | intro hc | refine And.intro ?_ ?_)<;>refine Lf.mk ?_)
  ·refine y6 q b 2 line [] rfl rfl ?_
   (all_goals refine qgp (Lf.mk ?_))
   exact yg [] rfl (by rw [hA,if_pos (.inl hc)]) rfl (Nat.le_of_eq rfl) .tup0
  ·refine y6 q b 2 line [] rfl rfl ?_
   (all_goals refine qgp (Lf.mk ?_))
   exact yg [] rfl (by rw [hA,if_pos (.inr hc)]) rfl (Nat.le_of_eq rfl) .tup0
  ·refine y6 q b 3 line [] rfl rfl ?_
   (all_goals refine qgp (Lf.mk ?_))
   exact yg [] rfl (by rw [hA,if_neg (fun e=>e.elim (fun e=>e (by assumption)) (fun e=>e (by assumption))),if_pos ⟨by assumption,by assumption,by assumption,by assumption,hc⟩]) rfl (Nat.le_of_eq rfl) .tup0
  all_goals
   refine yJ q b ⟨8,0,line,noI,false,o.val.n,noV,0,0⟩ [] hb rfl yR ?_
   (all_goals refine qgp (Lf.mk ?_))
   exact yg [] rfl (by rw [hA,if_neg (fun e=>e.elim (fun e=>e (by assumption)) (fun e=>e (by assumption))),if_neg (fun e=>by omega)]) rfl (Nat.le_of_eq rfl) .tup0
 | o::o2::l,_=>
  refine ze _ ?_
  (all_goals refine qgp ?_<;>(repeat' first | exact trivial | intro hc | refine And.intro ?_ ?_)<;>refine Lf.mk ?_)
  refine y6 q b 2 line [] rfl rfl ?_
  (all_goals refine qgp (Lf.mk ?_))
  exact yg [] rfl (by unfold kU;rw [if_pos (.inl (by simp))]) rfl (Nat.le_of_eq rfl) .tup0
theorem zty (size line:Int) (b:Bld) (o:AOp):(vE size line b o).items.length=b.items.length+1:=by
 unfold vE xN
 dsimp only
 rw [List.length_append,List.length_singleton]
 split
 ·rw [q8]
 split
 ·rw [q8]
 split
 ·rw [q8]
 ·rfl
theorem zri:za Tryz.prog zcl (zQ (fun ((b,size,l,_,_):Bld×Int×List AOp×Int×List zo)=>b.items.length+l.length≤1000000∧(size=1∨size=2∨size=4)) (fun (_,size,l,line,_)=>[.loc 0 0,.int .i64 size,.sl 4 (l.map q7) none,.int .i64 line])
  (fun (b,_,_,_,q)=>bO q b) (fun _=>.tup []) fun (b,size,l,line,q)=>bO q (zan b size l line)):=by
 refine zf zh Tryz.func116 rfl (by decide) ?_
 rintro ⟨b,size,l,line,q⟩ ⟨hb,hs⟩
 have hb:b.items.length+l.length≤1000000:=hb
 have hs:size=1∨size=2∨size=4:=hs
 have hE6:∀ E:xp,E.L=bO q b→E.L.length=6:=fun E h=>by rw [h];rfl
 refine ⟨Nat.le_refl _,by simp [Tryz.f116],fun E hE=>?_⟩
 have hE6:=hE6 E hE
 obtain ⟨s,m,hz1,hz2,hz3,hz4,hz5,hz6,hz7,hz8⟩:∃ (s:Nat) (m:Int),8 * size - 1=(s:Int)∧s≤60∧(2:Int) ^ s=m∧(2:Int) ^ (s+1)=m * 2∧0≤m∧m≤2147483648∧zz5 size= -m∧zx9 size=m * 2 - 1:=by
  rcases hs with rfl | rfl | rfl
  ·exact ⟨7,128,by decide,by decide,by decide,by decide,by decide,by decide,by decide,by decide⟩
  ·exact ⟨15,32768,by decide,by decide,by decide,by decide,by decide,by decide,by decide,by decide⟩
  ·exact ⟨31,2147483648,by decide,by decide,by decide,by decide,by decide,by decide,by decide,by decide⟩
 generalize hT:zan b size l line=T
 have hT0:l.foldl (vE size line) (if l=[] then yN b 2 line else b)=T:=hT
 refine ze _ ?_
 (all_goals refine qgp ?_<;>(repeat' first | exact trivial | intro hc | refine And.intro ?_ ?_)<;>refine Lf.mk ?_)
 ·have hnil:l=[]:=List.eq_nil_of_length_eq_zero (by have hc:((l.length:Nat):Int)=0:=hc;omega)
  subst hnil
  refine y6 q b 2 line [] rfl rfl ?_
  (all_goals refine qgp (Lf.mk ?_))
  refine zfL (ze _ ?_)
  (all_goals refine qgp ?_<;>(repeat' first | exact trivial | intro hc | refine And.intro ?_ ?_)<;>refine Lf.mk ?_)
  exact yg [] rfl (by rw [hT,← hT0];rfl) rfl (Nat.le_of_eq rfl) .tup0
 ·have hne:¬ l=[]:=fun h=>by rw [h] at hc;exact hc rfl
  rw [if_neg hne] at hT0
  refine yp (α:=Nat×Bld) (fun p=>p.1≤l.length∧(l.drop p.1).foldl (vE size line) p.2=T∧p.2.items.length+(l.length - p.1)≤1000000)
   (fun p=>[(0,.loc 0 0),(1,.int .i64 size),(3,.int .i64 line),(18,.sl 4 (l.map q7) none),(19,.int .i64 l.length),(20,.int .i64 p.1)]) (fun p=>bO q p.2) (fun p=>l.length - p.1) (fun _=>by rw [hE6];exact Nat.le_refl 6) (0,b)
   ⟨Nat.zero_le _,hT0,by dsimp only;omega⟩ ?_ ?_
  ·exact yf rfl ⟨rfl,rfl,rfl,rfl,rfl,rfl,trivial⟩
  rintro ⟨k,b1⟩ ⟨i1,i2,i3⟩
  dsimp only at i1 i2 i3 ⊢
  refine ze _ ?_
  (all_goals refine qgp ?_<;>(repeat' first | exact trivial | intro hc | refine And.intro ?_ ?_)<;>refine Lf.mk ?_)
  ·obtain ⟨o,ho⟩:=zP (l:=l) (k:=k) (by omega)
   have hkl:k < l.length:=by omega
   have hget:l[k]=o:=by rw [List.getElem?_eq_getElem hkl] at ho;exact Option.some.inj ho
   rw [List.drop_eq_getElem_cons hkl,hget,List.foldl_cons] at i2
   have hit:=zty size line b1 o
   refine zl o (by omega) (by simpa using ho) ?_
   (all_goals refine qgp (Lf.mk ?_))
   refine ki (s:=s) (m:=m) hz1 (by omega) hz3 (by omega) (by omega) ?_
   (all_goals refine qgp (Lf.mk ?_))
   refine ki (s:=s+1) (m:=m * 2) (by omega) (by omega) hz4 (by omega) (by omega) ?_
   (all_goals refine qgp ?_<;>(repeat' first | exact trivial | intro hc | refine And.intro ?_ ?_)<;>refine Lf.mk ?_)
   all_goals first
    | (exfalso;exact absurd (by assumption:o.val.name=[]) (by assumption))
    | skip
   ·have hd:vE size line b1 o=xN (yN b1 2 line) ⟨7,0,line,noI,false,size,o.val,0,0⟩:=by unfold vE;rw [if_pos hc]
    rw [hd] at i2 hit
    refine y6 q b1 2 line [_] rfl rfl ?_
    (all_goals refine qgp (Lf.mk ?_))
    refine yJ q (yN b1 2 line) ⟨7,0,line,noI,false,size,o.val,0,0⟩ [_] (by rw [q8];omega) rfl yR ?_
    (all_goals refine qgp (Lf.mk ?_))
    exact w9 (k+1,xN (yN b1 2 line) ⟨7,0,line,noI,false,size,o.val,0,0⟩) [_] ⟨by show k+1≤_;omega,i2,by dsimp only;rw [hit];omega⟩ (by dsimp only;omega) rfl (by rw [hE6];exact Nat.le_refl 6) (xt _ _) ⟨rfl,rfl,rfl,rfl,rfl,rfl,trivial⟩
     (.cons (.loc (Nat.lt_of_lt_of_le (by decide:0 < 6) (Nat.le_of_eq rfl))) (.cons .int (.cons .int (.cons .sl (.cons .int (.cons .int .nil))))))
   ·have hd:vE size line b1 o=xN (yN b1 8 line) ⟨7,0,line,noI,false,size,o.val,0,0⟩:=by unfold vE;rw [if_neg (fun h=>h (by assumption)),if_pos ⟨by assumption,hc⟩]
    rw [hd] at i2 hit
    refine y6 q b1 8 line [_] rfl rfl ?_
    (all_goals refine qgp (Lf.mk ?_))
    refine yJ q (yN b1 8 line) ⟨7,0,line,noI,false,size,o.val,0,0⟩ [_] (by rw [q8];omega) rfl yR ?_
    (all_goals refine qgp (Lf.mk ?_))
    exact w9 (k+1,xN (yN b1 8 line) ⟨7,0,line,noI,false,size,o.val,0,0⟩) [_] ⟨by show k+1≤_;omega,i2,by dsimp only;rw [hit];omega⟩ (by dsimp only;omega) rfl (by rw [hE6];exact Nat.le_refl 6) (xt _ _) ⟨rfl,rfl,rfl,rfl,rfl,rfl,trivial⟩
     (.cons (.loc (Nat.lt_of_lt_of_le (by decide:0 < 6) (Nat.le_of_eq rfl))) (.cons .int (.cons .int (.cons .sl (.cons .int (.cons .int .nil))))))
   ·have hd:vE size line b1 o=xN b1 ⟨7,0,line,noI,false,size,o.val,0,0⟩:=by unfold vE;rw [if_neg (fun h=>h (by assumption)),if_neg (fun h=>absurd h.2 (by assumption)),if_neg (fun h=>absurd h.1 (by assumption))]
    rw [hd] at i2 hit
    refine yJ q b1 ⟨7,0,line,noI,false,size,o.val,0,0⟩ [_] (by omega) rfl yR ?_
    (all_goals refine qgp (Lf.mk ?_))
    exact w9 (k+1,xN b1 ⟨7,0,line,noI,false,size,o.val,0,0⟩) [_] ⟨by show k+1≤_;omega,i2,by dsimp only;rw [hit];omega⟩ (by dsimp only;omega) rfl (by rw [hE6];exact Nat.le_refl 6) (xt _ _) ⟨rfl,rfl,rfl,rfl,rfl,rfl,trivial⟩
     (.cons (.loc (Nat.lt_of_lt_of_le (by decide:0 < 6) (Nat.le_of_eq rfl))) (.cons .int (.cons .int (.cons .sl (.cons .int (.cons .int .nil))))))
   ·have hd:vE size line b1 o=xN (yN b1 3 line) ⟨7,0,line,noI,false,size,o.val,0,0⟩:=by unfold vE;rw [if_neg (fun h=>h (by assumption)),if_neg (fun h=>absurd (by assumption) h.1),if_pos ⟨by assumption,.inl (by rw [hz7];omega)⟩]
    rw [hd] at i2 hit
    refine y6 q b1 3 line [_] rfl rfl ?_
    (all_goals refine qgp (Lf.mk ?_))
    refine yJ q (yN b1 3 line) ⟨7,0,line,noI,false,size,o.val,0,0⟩ [_] (by rw [q8];omega) rfl yR ?_
    (all_goals refine qgp (Lf.mk ?_))
    exact w9 (k+1,xN (yN b1 3 line) ⟨7,0,line,noI,false,size,o.val,0,0⟩) [_] ⟨by show k+1≤_;omega,i2,by dsimp only;rw [hit];omega⟩ (by dsimp only;omega) rfl (by rw [hE6];exact Nat.le_refl 6) (xt _ _) ⟨rfl,rfl,rfl,rfl,rfl,rfl,trivial⟩
     (.cons (.loc (Nat.lt_of_lt_of_le (by decide:0 < 6) (Nat.le_of_eq rfl))) (.cons .int (.cons .int (.cons .sl (.cons .int (.cons .int .nil))))))
   ·have hd:vE size line b1 o=xN (yN b1 3 line) ⟨7,0,line,noI,false,size,o.val,0,0⟩:=by unfold vE;rw [if_neg (fun h=>h (by assumption)),if_neg (fun h=>absurd (by assumption) h.1),if_pos ⟨by assumption,.inr (by rw [hz8];omega)⟩]
    rw [hd] at i2 hit
    refine y6 q b1 3 line [_] rfl rfl ?_
    (all_goals refine qgp (Lf.mk ?_))
    refine yJ q (yN b1 3 line) ⟨7,0,line,noI,false,size,o.val,0,0⟩ [_] (by rw [q8];omega) rfl yR ?_
    (all_goals refine qgp (Lf.mk ?_))
    exact w9 (k+1,xN (yN b1 3 line) ⟨7,0,line,noI,false,size,o.val,0,0⟩) [_] ⟨by show k+1≤_;omega,i2,by dsimp only;rw [hit];omega⟩ (by dsimp only;omega) rfl (by rw [hE6];exact Nat.le_refl 6) (xt _ _) ⟨rfl,rfl,rfl,rfl,rfl,rfl,trivial⟩
     (.cons (.loc (Nat.lt_of_lt_of_le (by decide:0 < 6) (Nat.le_of_eq rfl))) (.cons .int (.cons .int (.cons .sl (.cons .int (.cons .int .nil))))))
   ·have hd:vE size line b1 o=xN b1 ⟨7,0,line,noI,false,size,o.val,0,0⟩:=by unfold vE;rw [if_neg (fun h=>h (by assumption)),if_neg (fun h=>absurd (by assumption) h.1),if_neg (fun h=>by rw [hz7,hz8] at h;omega)]
    rw [hd] at i2 hit
    refine yJ q b1 ⟨7,0,line,noI,false,size,o.val,0,0⟩ [_] (by omega) rfl yR ?_
    (all_goals refine qgp (Lf.mk ?_))
    exact w9 (k+1,xN b1 ⟨7,0,line,noI,false,size,o.val,0,0⟩) [_] ⟨by show k+1≤_;omega,i2,by dsimp only;rw [hit];omega⟩ (by dsimp only;omega) rfl (by rw [hE6];exact Nat.le_refl 6) (xt _ _) ⟨rfl,rfl,rfl,rfl,rfl,rfl,trivial⟩
     (.cons (.loc (Nat.lt_of_lt_of_le (by decide:0 < 6) (Nat.le_of_eq rfl))) (.cons .int (.cons .int (.cons .sl (.cons .int (.cons .int .nil))))))
  ·have hk:k=l.length:=by omega
   subst hk
   rw [List.drop_length] at i2
   exact yg [] rfl (by rw [hT];exact i2) rfl (Nat.le_of_eq rfl) .tup0
theorem zw7 (a:List (List zB)) (c:List zB):∀ (i:Nat) d d',(a.map xl++[.sl 2 (c.map yP) (some 5)])[i]?=some d→((a++[c]).map xl)[i]?=some d'→LeL d.cells d'.cells:=by
 intro i d d' h1 h2
 rw [List.map_append] at h2
 rcases Nat.lt_or_ge i (a.map xl).length with h | h
 ·rw [List.getElem?_append_left h] at h1 h2
  rw [h1] at h2
  cases h2
  exact LeL.refl _
 ·rw [List.getElem?_append_right h] at h1 h2
  cases hi:i - (a.map xl).length with
  | zero=>
   rw [hi] at h1 h2
   cases h1
   cases h2
   exact .cons (.strip _ _ _) .nil
  | succ j=>rw [hi] at h1;simp at h1
theorem zrj:za Tryz.prog zck (zQ (fun ((b,_,_):Bld×Int×List zo)=>b.items.length≤1000000∧b.shut.length≤1000000) (fun (_,line,_)=>[.loc 0 0,.int .i64 line])
  (fun (b,_,q)=>bO q b) (fun _=>.tup []) fun (b,line,q)=>bO q (ka b line)):=by
 refine zf zh Tryz.func88 rfl (by decide) ?_
 rintro ⟨⟨items,syms,marks,shut,has,cur,fe,fa⟩,line,q⟩ ⟨hl,hp⟩
 have hl:items.length≤1000000:=hl
 have hp:shut.length≤1000000:=hp
 refine ⟨Nat.le_refl _,by simp [Tryz.f88],fun E hE=>?_⟩
 cases has with
 | false=>
  have hlen:(zS ⟨items,syms,marks,shut,false,cur,fe,fa⟩).length=shut.length:=by unfold zS;simp
  refine ze _ ?_
  (all_goals refine qgp ?_<;>(repeat' first | exact trivial | intro hc | refine And.intro ?_ ?_)<;>refine Lf.mk ?_)
  exact yg (b':=⟨items,syms,marks,shut,false,cur,fe,fa⟩) [] rfl rfl rfl (Nat.le_of_eq rfl) .tup0
 | true=>
  have hlen:(zS ⟨items,syms,marks,shut,true,cur,fe,fa⟩).length=shut.length+1:=by unfold zS;simp
  refine ze _ ?_
  (all_goals refine qgp ?_<;>(repeat' first | exact trivial | intro hc | refine And.intro ?_ ?_)<;>refine Lf.mk ?_)
  refine yJ q ⟨items,syms,marks,shut,true,cur,fe,fa⟩ ⟨9,0,line,noI,false,0,noV,shut.length,0⟩ [] hl rfl yR ?_
  (all_goals refine qgp (Lf.mk ?_))
  refine kh (by show (-9223372036854775808:Int)≤(shut.length:Int)+1;omega) (by show (shut.length:Int)+1≤9223372036854775807;omega) ?_
  (all_goals refine qgp (Lf.mk ?_))
  refine zrM (k:=4) (e:=1) (ds:=shut.map xl++[.sl 2 (cur.map yP) (some 5)]) ((shut++[cur]).map xl) rfl (by simp) (zw7 shut cur) ?_ (Nat.le_of_eq rfl)
  refine zwy (k:=5) (Nat.le_of_eq rfl) ?_ (Nat.le_of_eq rfl)
  refine yQ rfl ?_
  show [Ob.cells _,_,_,_,_,_]=bO q ⟨items++[⟨9,0,line,noI,false,0,noV,shut.length,0⟩],syms,marks,shut++[cur],false,[],fe,fa⟩
  unfold bO bC bT zeL zS xN
  simp
theorem zhp:za Tryz.prog j6 (zy (fun ((l,_):List zB×zB)=>l.length≤1000000000) (fun (l,x)=>[.sl 2 (l.map yP) none,yP x]) fun (l,x)=>.int .i64 (wY x l 0)):=by
 refine zf zh Tryz.func176 rfl (by decide) ?_
 rintro ⟨l,x⟩ hl
 have hl:l.length≤1000000000:=hl
 refine ⟨Nat.le_refl _,by simp [Tryz.f176],fun E hE=>?_⟩
 refine ze _ ?_
 (all_goals refine qgo (Lf.mk ?_))
 refine yp (α:=Nat) (fun k=>k≤l.length∧wY x l 0=wY x (l.drop k) k)
  (fun k=>[(7,.int .i64 l.length),(8,.int .i64 k),(0,.sl 2 (l.map yP) none),(3,.loc 0 0)])
  (fun _=>[.cells [.str x.name,.int .i64 x.n]]) (fun k=>l.length - k) (fun _=>by rw [hE];exact Nat.zero_le _) 0 ⟨Nat.zero_le _,by simp⟩ ?_ ?_
 ·exact yf rfl ⟨rfl,rfl,rfl,rfl,trivial⟩
 rintro k ⟨hk,hf⟩
 refine ze _ ?_
 (all_goals refine qgo ?_<;>(repeat' first | exact trivial | intro hc | refine And.intro ?_ ?_)<;>refine Lf.mk ?_)
 ·obtain ⟨s,hsk⟩:=zP (l:=l) (k:=k) (by omega)
  have hkl:k < l.length:=by omega
  have hget:l[k]=s:=by rw [List.getElem?_eq_getElem hkl] at hsk;exact Option.some.inj hsk
  rw [List.drop_eq_getElem_cons hkl,hget,wY] at hf
  refine zl s (by omega) (by simpa using hsk) ?_
  (all_goals refine qgo (Lf.mk ?_))
  refine zn5 [.str,.int .i64] (by kernel_rfl) rfl ?_
  cases hb:(x.name==s.name && (x.n==s.n && true)) with
  | true=>
   rw [Bool.and_true,Bool.and_eq_true,beq_iff_eq,beq_iff_eq] at hb
   rw [if_pos ⟨hb.1.symm,hb.2.symm⟩] at hf
   (all_goals refine qgo ?_<;>(repeat' first | exact trivial | intro hc | refine And.intro ?_ ?_)<;>refine Lf.mk ?_)
   (any_goals (first | (exfalso;refine Bool.false_ne_true ?_;assumption) | (exfalso;refine Bool.false_ne_true (Eq.symm ?_);assumption) | (exfalso;refine absurd trivial ?_;assumption) | skip))
   exact zd (VS.mk (LeD.of_eq (congrArg (D.int .i64) hf.symm)))
  | false=>
   have hne:¬ (s.name=x.name∧s.n=x.n):=fun h=>by rw [h.1,h.2] at hb;simp at hb
   rw [if_neg hne] at hf
   (all_goals refine qgo ?_<;>(repeat' first | exact trivial | intro hc | refine And.intro ?_ ?_)<;>refine Lf.mk ?_)
   (any_goals (first | (exfalso;refine Bool.false_ne_true ?_;assumption) | (exfalso;refine Bool.false_ne_true (Eq.symm ?_);assumption) | (exfalso;refine absurd trivial ?_;assumption) | skip))
   exact yj (k+1) ⟨by omega,hf⟩ (by omega) rfl ⟨rfl,rfl,rfl,rfl,trivial⟩
 ·rw [List.drop_of_length_le (by omega),wY] at hf
  exact zd (VS.mk (LeD.of_eq (congrArg (D.int .i64) hf.symm)))
theorem zw8 {v:zB} {l:List zB} (h:¬ wY v l 0 < 0):vX v l=wY v l 0∧vW v l=l:=by unfold vX vW;rw [if_neg h,if_neg h];exact ⟨rfl,rfl⟩
theorem zw9 {v:zB} {l:List zB} (h:wY v l 0 < 0):vX v l=l.length∧vW v l=l++[v]:=by unfold vX vW;rw [if_pos h,if_pos h];exact ⟨rfl,rfl⟩
attribute [local irreducible] wY vX vW
theorem zvk:za Tryz.prog kl (zQ (fun ((b,_,_,_,_):Bld×zB×Int×Int×List zo)=>b.has=true∧b.items.length≤1000000∧b.shut.length≤1000000∧b.cur.length≤1000000) (fun (_,v,reg,line,_)=>[.loc 0 0,yP v,.int .i64 reg,.int .i64 line])
  (fun (b,_,_,_,q)=>bO q b) (fun _=>.tup []) fun (b,v,reg,line,q)=>bO q (jy b v reg line)):=by
 refine zf zh Tryz.func155 rfl (by decide) ?_
 rintro ⟨⟨items,syms,marks,shut,has,cur,fe,fa⟩,v,reg,line,q⟩ ⟨hh,hl,hp,hcu⟩
 have hh:has=true:=hh
 subst hh
 have hl:items.length≤1000000:=hl
 have hp:shut.length≤1000000:=hp
 have hcu:cur.length≤1000000:=hcu
 have hlen:(zS ⟨items,syms,marks,shut,true,cur,fe,fa⟩).length=shut.length+1:=by unfold zS;simp
 refine ⟨Nat.le_refl _,by simp [Tryz.f155],fun E hE=>?_⟩
 refine ze _ ?_
 (all_goals refine qgp ?_<;>(repeat' first | exact trivial | intro hc | refine And.intro ?_ ?_)<;>refine Lf.mk ?_)
 have hget:(zS ⟨items,syms,marks,shut,true,cur,fe,fa⟩)[shut.length]?=some (.sl 2 (cur.map yP) (some 5)):=by
  show (shut.map xl++[.sl 2 (cur.map yP) (some 5)])[shut.length]?=_
  simp
 refine w6 (d:=.sl 2 (cur.map yP) (some 5)) (Int.natCast_nonneg _) (by simpa using hget) ?_
 (all_goals refine qgp (Lf.mk ?_))
 refine zb zhp (cur,v) (by show cur.length≤_;omega) (VS.mk (LeL.of_eq rfl)) ?_
 by_cases hi:wY v cur 0 < 0
 ·obtain ⟨s1,s2⟩:=zw9 hi
  (all_goals refine qgk ?_<;>(repeat' first | exact trivial | intro hc | refine And.intro ?_ ?_)<;>refine Lf.mk ?_)
  ·refine w6 (d:=.sl 2 (cur.map yP) (some 5)) (Int.natCast_nonneg _) (by simpa using hget) ?_
   (all_goals refine qgk (Lf.mk ?_))
   refine w6 (d:=.sl 2 (cur.map yP) (some 5)) (Int.natCast_nonneg _) (by simpa using hget) ?_
   (all_goals refine qgk (Lf.mk ?_))
   refine xd ((cur++[v]).map yP) (by rw [List.map_append];rfl) ?_
   rw [List.length_map]
   (all_goals refine qgk (Lf.mk ?_))
   refine w6 (d:=.sl 2 (cur.map yP) (some 5)) (Int.natCast_nonneg _) (by simpa using hget) ?_
   (all_goals refine qgp (Lf.mk ?_))
   have hset:(zS ⟨items,syms,marks,shut,true,cur,fe,fa⟩).set (0+((shut.length:Nat):Int).toNat) (.sl 2 ((cur++[v]).map yP) (some 5))=zS ⟨items,syms,marks,shut,true,cur++[v],fe,fa⟩:=by
    show (shut.map xl++[D.sl 2 (cur.map yP) (some 5)]).set _ _=shut.map xl++[D.sl 2 ((cur++[v]).map yP) (some 5)]
    rw [Nat.zero_add,Int.toNat_natCast,List.set_append_right _ _ (by simp)]
    simp
   have hbC:bC q ⟨items,syms,marks,shut,true,cur,fe,fa⟩=bC q ⟨items,syms,marks,shut,true,cur++[v],fe,fa⟩:=by
    unfold bC
    rw [hlen,show (zS ⟨items,syms,marks,shut,true,cur++[v],fe,fa⟩).length=shut.length+1 by unfold zS;simp]
   refine yJ q ⟨items,syms,marks,shut,true,cur++[v],fe,fa⟩ ⟨6,0,line,⟨24,reg,0,0⟩,false,0,noV,shut.length,cur.length⟩ [.cells [.str v.name,.int .i64 v.n]] hl ?_ yR ?_
   ·show Ob.cells (bC q _)::Ob.arr 13 (items.map xz)::Ob.arr 2 (syms.map yH)::Ob.spare marks.length::Ob.arr 1 (List.set _ _ _)::Ob.spare (cur++[v]).length::[Ob.cells [.str v.name,.int .i64 v.n]]=_
    rw [hbC]
    exact congrArg (fun x=>Ob.cells (bC q ⟨items,syms,marks,shut,true,cur++[v],fe,fa⟩)::[Ob.arr 13 (items.map xz),Ob.arr 2 (syms.map yH),Ob.spare marks.length,Ob.arr 1 x,Ob.spare (cur++[v]).length,Ob.cells [.str v.name,.int .i64 v.n]]) hset
   (all_goals refine qgp (Lf.mk ?_))
   refine yg [_] rfl ?_ rfl (Nat.le_of_eq rfl) .tup0
   unfold jy
   rw [s1,s2]
  ·exact absurd hi hc
 ·obtain ⟨s1,s2⟩:=zw8 hi
  (all_goals refine qgp ?_<;>(repeat' first | exact trivial | intro hc | refine And.intro ?_ ?_)<;>refine Lf.mk ?_)
  refine yJ q ⟨items,syms,marks,shut,true,cur,fe,fa⟩ ⟨6,0,line,⟨24,reg,0,0⟩,false,0,noV,shut.length,wY v cur 0⟩ [_] hl rfl yR ?_
  (all_goals refine qgp (Lf.mk ?_))
  refine yg [_] rfl ?_ rfl (Nat.le_of_eq rfl) .tup0
  unfold jy
  rw [s1,s2]
end Go.Proofs.YtnkdeacghopkiaaGreatDoor
namespace Go.Proofs.YtnkdeacghopkiaaGreatDoor
open Go Go.Plat
set_option linter.unusedVariables false
set_option linter.unusedSimpArgs false
set_option maxRecDepth 100000
set_option maxHeartbeats 2000000
attribute [local irreducible] AWP zG yn zK zn yA z8 zI zY z6 zw za zN yB zt z7 yx yy yq yt zx zz zD
def w64 (n:Int):Int:=IntKind.i64.wrap n
def upA (n of:Int):Int:=(n+of - 1) / of * of
def ze8 (pools:List (List zB)) (k:Int):Int:=((pools[k.toNat]?).getD []).length
def xM (pools:List (List zB)) (x:zO) (a:Int):Int:=
 if x.kind=2∧x.long=true then 6 else if x.kind=7 then x.size else if x.kind=8 then upA a x.size - a else if x.kind=9 then upA a 4 - a+4 * ze8 pools x.pool else 2
def yS (pools:List (List zB)):List zO→Int→List zO×Int
 | [],a=>([],a)
 | x::l,a=>({ x with at_:=a }::(yS pools l (a+xM pools x a)).1,(yS pools l (a+xM pools x a)).2)
def itA (items:List zO) (k:Int):zO:=(items[k.toNat]?).getD ⟨0,0,0,noI,false,0,noV,0,0⟩
def zdN (items:List zO) (e m:Int):Int:=if m < items.length then (itA items m).at_ else e
def vr (items:List zO) (e:Int):List zH→List Int→List zH
 | s::ss,m::ms=>⟨s.name,zdN items e m⟩::vr items e ss ms
 | ss,_=>ss
def y9 {α:Type} (p:α→Bool):List α→Nat→Int
 | [],_=>-1
 | x::l,k=>if p x=true then k else y9 p l (k+1)
def zlL (n:List UInt8) (l:List zH) (k:Nat):Int:=y9 (fun s=>s.name==n) l k
def zdO (syms:List zH) (k:Int):zH:=(syms[k.toNat]?).getD ⟨[],0⟩
def yk (syms:List zH) (v:zB):Int×Int:=
 if v.name=[] then (0,8) else if zlL v.name syms 0 < 0 then (0,6) else (w64 ((zdO syms (zlL v.name syms 0)).at_+v.n),0)
def zdP (op:Int):Int:=match xE op with | some r=>r.shape | none=>0
def zek (op a:Int):Int:=if op=24 then a+4 - (a+4) % 4 else a+4
def ofA (op:Int):Int:=if op=24 then 4 else 2
def zf8 (op a to:Int):Int:=w64 ((w64 (to - zek op a)).tdiv (ofA op))
def vg (op a to:Int):Int×Int:=
 if (w64 (to - zek op a)).tmod (ofA op)≠0 then (0,11)
 else if zf8 op a to < zeK (zdP op)∨zbW (zdP op) < zf8 op a to then (zf8 op a to,3) else (zf8 op a to,0)
def wL (syms:List zH) (x:zO):Bool:=decide (x.kind=2∧x.long=false∧(yk syms x.val).2=0∧(vg x.ins.op x.at_ (yk syms x.val).1).2=3)
def xA (syms:List zH) (x:zO):zO:=if wL syms x=true then { x with long:=true } else x
structure Lay where
 items:List zO
 syms:List zH
def xb (pools:List (List zB)) (marks:List Int) (s:Lay):Lay×Int:=
 (⟨(yS pools s.items 0).1,vr (yS pools s.items 0).1 (yS pools s.items 0).2 s.syms marks⟩,(yS pools s.items 0).2)
def zdQ (pools:List (List zB)) (marks:List Int):Nat→Lay→Lay×Int
 | 0,s=>(s,0)
 | f+1,s=>if ((xb pools marks s).1.items.any (wL (xb pools marks s).1.syms))=false∨8000 < (xb pools marks s).2
   then (⟨(xb pools marks s).1.items.map (xA (xb pools marks s).1.syms),(xb pools marks s).1.syms⟩,(xb pools marks s).2)
   else zdQ pools marks f ⟨(xb pools marks s).1.items.map (xA (xb pools marks s).1.syms),(xb pools marks s).1.syms⟩
def vt (l:List zO):Nat:=(l.filter fun x=>decide (x.kind=2∧x.long=false)).length
def yV (pools:List (List zB)) (marks:List Int) (s:Lay):Lay×Int:=zdQ pools marks (vt s.items+1) s
structure Out where
 code:List UInt8
 rels:List qZ
 fe:Int
 fa:Int
def qq (o:Out) (e line:Int):Out:=if o.fe=0 then ⟨o.code,o.rels,e,line⟩ else o
def x4 (o:Out) (i:Ins) (line:Int):Out:=if xf i=0 then ⟨o.code++[zr (qY i / 256),zr (qY i)],o.rels,o.fe,o.fa⟩ else qq o (xf i) line
def wl (o:Out) (i:Ins) (a to line:Int):Out:=if (vg i.op a to).2=0 then x4 o ⟨i.op,i.n,i.m,(vg i.op a to).1⟩ line else qq o (vg i.op a to).2 line
def kP (o:Out) (x:zO) (to:Int):Out:=
 if x.long=false then wl o x.ins x.at_ to x.line else x4 (wl (x4 o ⟨w64 (35 - x.ins.op),0,0,1⟩ x.line) ⟨19,0,0,0⟩ (x.at_+2) to x.line) ⟨1,0,0,0⟩ x.line
def zjo (syms:List zH) (at_ size:Int) (v:zB):qZ:=if (yk syms v).2=0 then ⟨at_,size,[],zg (yk syms v).1 32⟩ else ⟨at_,size,v.name,v.n⟩
def wM (syms:List zH) (o:Out) (v:zB) (size:Nat):Out:=
 if v.name=[] then ⟨yv (o.code++List.replicate size 0) o.code.length size v.n,o.rels,o.fe,o.fa⟩
 else ⟨o.code++List.replicate size 0,o.rels++[zjo syms o.code.length size v],o.fe,o.fa⟩
def wN (o:Out) (to:Int):Out:=⟨o.code++List.replicate (to - o.code.length).toNat 0,o.rels,o.fe,o.fa⟩
def zpx (p:Int) (l:List zO) (k:Nat):Int:=y9 (fun y=>y.kind==9 && y.pool==p) l k
def jd (pools:List (List zB)) (items:List zO) (syms:List zH) (o:Out) (x:zO):Out:=
 if x.kind=7 then (if x.at_ % x.size≠0 then qq o 11 x.line else wM syms o x.val x.size.toNat)
 else if x.kind=8 then wN o (upA x.at_ x.size)
 else if x.kind=9 then ((pools[x.pool.toNat]?).getD []).foldl (fun o v=>wM syms o v 4) (wN o (upA x.at_ 4))
 else if x.at_ % 2≠0 then qq o 11 x.line
 else if x.kind=1 then x4 o x.ins x.line
 else if x.kind=6 then wl o x.ins x.at_ (upA (itA items (zpx x.pool items 0)).at_ 4+4 * x.idx) x.line
 else if (yk syms x.val).2≠0 then qq o (yk syms x.val).2 x.line
 else if x.kind=2 then kP o x (yk syms x.val).1
 else wl o x.ins x.at_ (yk syms x.val).1 x.line
def qy (pools:List (List zB)) (items:List zO) (syms:List zH) (o:Out):Out:=items.foldl (fun o x=>if o.fe=0 then jd pools items syms o x else o) o
theorem zdd {α:Type} (p:α→Bool):∀ (l:List α) (k:Nat),y9 p l k= -1∨∃ j:Nat,j < l.length∧y9 p l k=((k+j:Nat):Int)
 | [],_=>.inl rfl
 | x::l,k=>by
  rw [y9]
  split
  ·exact .inr ⟨0,by simp,rfl⟩
  ·rcases zdd p l (k+1) with h | ⟨j,h1,h2⟩
   ·exact .inl h
   ·exact .inr ⟨j+1,by simp;omega,by rw [h2,Nat.add_right_comm,Nat.add_assoc]⟩
theorem zjp {av:List D} {L:List Ob} {KP:D→Prop} {KW:D→List Ob→Prop} (g:Nat) (caps:List D) (p:zH→Bool) (l:List zH) (c0 c1:Ob) (R:List Ob) (hl:l.length≤1000000000)
  (hL:L=c0::c1:: .arr 2 (l.map yH)::R) (has:av=[.osl 2 2 l.length 0 l.length,.fn g caps])
  (hg:∀ s∈l,∀ (KP:D→Prop) (KW:D→List Ob→Prop),KW (.bool (p s)) L→zn Tryz.prog g (yH s::caps) L KP KW)
  (hK:KW (.int .i64 (y9 p l 0)) L):zn Tryz.prog vJ av L KP KW:=by
 subst has
 refine xP zh Tryz.func70 rfl (by decide) (.int .i64 (y9 p l 0)) L (Nat.le_refl _) (by simp [Tryz.f70]) (fun E hE=>?_) hK
 have hE0:E.L.length=L.length:=by rw [hE]
 subst hL
 refine ze _ ?_
 (all_goals refine qgo (Lf.mk ?_))
 refine yp (α:=Nat) (fun k=>k≤l.length∧y9 p l 0=y9 p (l.drop k) k)
  (fun k=>[(0,.osl 2 2 l.length 0 l.length),(1,.fn g caps),(7,.int .i64 l.length),(8,.int .i64 k)]) (fun _=>c0::c1:: .arr 2 (l.map yH)::R) (fun k=>l.length - k) (fun _=>by rw [hE0];exact Nat.le_refl _) 0 ⟨Nat.zero_le _,by simp⟩ ?_ ?_
 ·exact yf rfl ⟨rfl,rfl,rfl,rfl,trivial⟩
 rintro k ⟨hk,hf⟩
 refine ze _ ?_
 (all_goals refine qgp ?_<;>(repeat' first | exact trivial | intro hc | refine And.intro ?_ ?_)<;>refine Lf.mk ?_)
 ·obtain ⟨s,hsk⟩:=zP (l:=l) (k:=k) (by omega)
  have hkl:k < l.length:=by omega
  have hget:l[k]=s:=by rw [List.getElem?_eq_getElem hkl] at hsk;exact Option.some.inj hsk
  rw [List.drop_eq_getElem_cons hkl,hget,y9] at hf
  refine zl s (by omega) (by simpa using hsk) ?_
  (all_goals refine qgp (Lf.mk ?_))
  refine hg s (List.mem_of_getElem? hsk) _ _ ?_
  cases hb:p s with
  | true=>
   rw [hb,if_pos rfl] at hf
   (all_goals refine qgp ?_<;>(repeat' first | exact trivial | intro hc | refine And.intro ?_ ?_)<;>refine Lf.mk ?_)
   (any_goals (first | (exfalso;refine Bool.false_ne_true ?_;assumption) | (exfalso;refine Bool.false_ne_true (Eq.symm ?_);assumption) | (exfalso;refine absurd trivial ?_;assumption) | skip))
   exact yQ (by rw [hf];rfl) rfl
  | false=>
   rw [hb,if_neg (by decide)] at hf
   (all_goals refine qgp ?_<;>(repeat' first | exact trivial | intro hc | refine And.intro ?_ ?_)<;>refine Lf.mk ?_)
   (any_goals (first | (exfalso;refine Bool.false_ne_true ?_;assumption) | (exfalso;refine Bool.false_ne_true (Eq.symm ?_);assumption) | (exfalso;refine absurd trivial ?_;assumption) | skip))
   exact yj (k+1) ⟨by omega,hf⟩ (by omega) rfl ⟨rfl,rfl,rfl,rfl,trivial⟩
 ·rw [List.drop_of_length_le (by omega),y9] at hf
  exact yQ (by rw [hf];rfl) rfl
theorem zvl {av:List D} {L:List Ob} {KP:D→Prop} {KW:D→List Ob→Prop} (g:Nat) (caps:List D) (p:zO→Bool) (l:List zO) (c0:Ob) (R:List Ob) (hl:l.length≤1000000000)
  (hL:L=c0:: .arr 13 (l.map xz)::R) (has:av=[.osl 13 1 l.length 0 l.length,.fn g caps])
  (hg:∀ s∈l,∀ (KP:D→Prop) (KW:D→List Ob→Prop),KW (.bool (p s)) L→zn Tryz.prog g (xz s::caps) L KP KW)
  (hK:KW (.int .i64 (y9 p l 0)) L):zn Tryz.prog jt av L KP KW:=by
 subst has
 refine xP zh Tryz.func127 rfl (by decide) (.int .i64 (y9 p l 0)) L (Nat.le_refl _) (by simp [Tryz.f127]) (fun E hE=>?_) hK
 have hE0:E.L.length=L.length:=by rw [hE]
 subst hL
 refine ze _ ?_
 (all_goals refine qgo (Lf.mk ?_))
 refine yp (α:=Nat) (fun k=>k≤l.length∧y9 p l 0=y9 p (l.drop k) k)
  (fun k=>[(0,.osl 13 1 l.length 0 l.length),(1,.fn g caps),(7,.int .i64 l.length),(8,.int .i64 k)]) (fun _=>c0:: .arr 13 (l.map xz)::R) (fun k=>l.length - k) (fun _=>by rw [hE0];exact Nat.le_refl _) 0 ⟨Nat.zero_le _,by simp⟩ ?_ ?_
 ·exact yf rfl ⟨rfl,rfl,rfl,rfl,trivial⟩
 rintro k ⟨hk,hf⟩
 refine ze _ ?_
 (all_goals refine qgp ?_<;>(repeat' first | exact trivial | intro hc | refine And.intro ?_ ?_)<;>refine Lf.mk ?_)
 ·obtain ⟨s,hsk⟩:=zP (l:=l) (k:=k) (by omega)
  have hkl:k < l.length:=by omega
  have hget:l[k]=s:=by rw [List.getElem?_eq_getElem hkl] at hsk;exact Option.some.inj hsk
  rw [List.drop_eq_getElem_cons hkl,hget,y9] at hf
  refine zl s (by omega) (by simpa using hsk) ?_
  (all_goals refine qgp (Lf.mk ?_))
  refine hg s (List.mem_of_getElem? hsk) _ _ ?_
  cases hb:p s with
  | true=>
   rw [hb,if_pos rfl] at hf
   (all_goals refine qgp ?_<;>(repeat' first | exact trivial | intro hc | refine And.intro ?_ ?_)<;>refine Lf.mk ?_)
   (any_goals (first | (exfalso;refine Bool.false_ne_true ?_;assumption) | (exfalso;refine Bool.false_ne_true (Eq.symm ?_);assumption) | (exfalso;refine absurd trivial ?_;assumption) | skip))
   exact yQ (by rw [hf];rfl) rfl
  | false=>
   rw [hb,if_neg (by decide)] at hf
   (all_goals refine qgp ?_<;>(repeat' first | exact trivial | intro hc | refine And.intro ?_ ?_)<;>refine Lf.mk ?_)
   (any_goals (first | (exfalso;refine Bool.false_ne_true ?_;assumption) | (exfalso;refine Bool.false_ne_true (Eq.symm ?_);assumption) | (exfalso;refine absurd trivial ?_;assumption) | skip))
   exact yj (k+1) ⟨by omega,hf⟩ (by omega) rfl ⟨rfl,rfl,rfl,rfl,trivial⟩
 ·rw [List.drop_of_length_le (by omega),y9] at hf
  exact yQ (by rw [hf];rfl) rfl
theorem zxa {av:List D} {L:List Ob} {KP:D→Prop} {KW:D→List Ob→Prop} (g:Nat) (caps:List D) (p:zo→Bool) (l:List zo) (hl:l.length≤1000000000)
  (has:av=[.sl 2 (l.map wD) none,.fn g caps])
  (hg:∀ s∈l,∀ (KP:D→Prop) (KW:D→List Ob→Prop),KW (.bool (p s)) L→zn Tryz.prog g (wD s::caps) L KP KW)
  (hK:KW (.int .i64 (y9 p l 0)) L):zn Tryz.prog vK av L KP KW:=by
 subst has
 refine xP zh Tryz.func173 rfl (by decide) (.int .i64 (y9 p l 0)) L (Nat.le_refl _) (by simp [Tryz.f173]) (fun E hE=>?_) hK
 have hE0:E.L.length=L.length:=by rw [hE]
 refine ze _ ?_
 (all_goals refine qgo (Lf.mk ?_))
 refine yp (α:=Nat) (fun k=>k≤l.length∧y9 p l 0=y9 p (l.drop k) k)
  (fun k=>[(0,.sl 2 (l.map wD) none),(1,.fn g caps),(7,.int .i64 l.length),(8,.int .i64 k)]) (fun _=>L) (fun k=>l.length - k) (fun _=>by rw [hE0];exact Nat.le_refl _) 0 ⟨Nat.zero_le _,by simp⟩ ?_ ?_
 ·exact yf rfl ⟨rfl,rfl,rfl,rfl,trivial⟩
 rintro k ⟨hk,hf⟩
 refine ze _ ?_
 (all_goals refine qgp ?_<;>(repeat' first | exact trivial | intro hc | refine And.intro ?_ ?_)<;>refine Lf.mk ?_)
 ·obtain ⟨s,hsk⟩:=zP (l:=l) (k:=k) (by omega)
  have hkl:k < l.length:=by omega
  have hget:l[k]=s:=by rw [List.getElem?_eq_getElem hkl] at hsk;exact Option.some.inj hsk
  rw [List.drop_eq_getElem_cons hkl,hget,y9] at hf
  refine zl s (by omega) (by simpa using hsk) ?_
  (all_goals refine qgp (Lf.mk ?_))
  refine hg s (List.mem_of_getElem? hsk) _ _ ?_
  cases hb:p s with
  | true=>
   rw [hb,if_pos rfl] at hf
   (all_goals refine qgp ?_<;>(repeat' first | exact trivial | intro hc | refine And.intro ?_ ?_)<;>refine Lf.mk ?_)
   (any_goals (first | (exfalso;refine Bool.false_ne_true ?_;assumption) | (exfalso;refine Bool.false_ne_true (Eq.symm ?_);assumption) | (exfalso;refine absurd trivial ?_;assumption) | skip))
   exact yQ (by rw [hf];rfl) rfl
  | false=>
   rw [hb,if_neg (by decide)] at hf
   (all_goals refine qgp ?_<;>(repeat' first | exact trivial | intro hc | refine And.intro ?_ ?_)<;>refine Lf.mk ?_)
   (any_goals (first | (exfalso;refine Bool.false_ne_true ?_;assumption) | (exfalso;refine Bool.false_ne_true (Eq.symm ?_);assumption) | (exfalso;refine absurd trivial ?_;assumption) | skip))
   exact yj (k+1) ⟨by omega,hf⟩ (by omega) rfl ⟨rfl,rfl,rfl,rfl,trivial⟩
 ·rw [List.drop_of_length_le (by omega),y9] at hf
  exact yQ (by rw [hf];rfl) rfl
theorem ze9 {α:Type} (p:α→Bool):∀ (l:List α) (k:Nat),decide (0≤y9 p l k)=l.any p
 | [],_=>rfl
 | x::l,k=>by
  rw [y9,List.any_cons]
  cases h:p x with
  | true=>rw [if_pos rfl];simp
  | false=>rw [if_neg (by decide),ze9 p l (k+1)];simp
theorem zxb {av:List D} {L:List Ob} {KP:D→Prop} {KW:D→List Ob→Prop} (g:Nat) (caps:List D) (p:zH→Bool) (l:List zH) (c0 c1:Ob) (R:List Ob) (hl:l.length≤1000000000)
  (hL:L=c0::c1:: .arr 2 (l.map yH)::R) (has:av=[.osl 2 2 l.length 0 l.length,.fn g caps])
  (hg:∀ s∈l,∀ (KP:D→Prop) (KW:D→List Ob→Prop),KW (.bool (p s)) L→zn Tryz.prog g (yH s::caps) L KP KW)
  (hK:KW (.bool (l.any p)) L):zn Tryz.prog jk av L KP KW:=by
 subst has
 refine xP zh Tryz.func150 rfl (by decide) (.bool (l.any p)) L (Nat.le_refl _) (by simp [Tryz.f150]) (fun E hE=>?_) hK
 have hE0:E.L.length=L.length:=by rw [hE]
 subst hL
 refine ze _ ?_
 (all_goals refine qgo (Lf.mk ?_))
 refine zjp g caps p l c0 c1 R hl rfl rfl hg ?_
 (all_goals refine qgo (Lf.mk ?_))
 exact yQ (congrArg D.bool (ze9 p l 0)) rfl
theorem zxc {av:List D} {L:List Ob} {KP:D→Prop} {KW:D→List Ob→Prop} (g:Nat) (caps:List D) (p:zo→Bool) (l:List zo) (hl:l.length≤1000000000)
  (has:av=[.sl 2 (l.map wD) none,.fn g caps])
  (hg:∀ s∈l,∀ (KP:D→Prop) (KW:D→List Ob→Prop),KW (.bool (p s)) L→zn Tryz.prog g (wD s::caps) L KP KW)
  (hK:KW (.bool (l.any p)) L):zn Tryz.prog jj av L KP KW:=by
 subst has
 refine xP zh Tryz.func143 rfl (by decide) (.bool (l.any p)) L (Nat.le_refl _) (by simp [Tryz.f143]) (fun E hE=>?_) hK
 have hE0:E.L.length=L.length:=by rw [hE]
 refine ze _ ?_
 (all_goals refine qgo (Lf.mk ?_))
 refine zxa g caps p l hl rfl hg ?_
 (all_goals refine qgo (Lf.mk ?_))
 exact yQ (congrArg D.bool (ze9 p l 0)) rfl
attribute [local irreducible] Lib.itoa zi.kids zi.kind zi.n zi.name xL xD xy wY yM xe wg vo vX zV vW
def bCk (q:List zo) (b:Bld):List D:=[.sl 2 (q.map wD) none,.osl 13 1 b.items.length 0 b.items.length,.osl 2 2 b.syms.length 0 b.syms.length,.sl 1 (b.marks.map (.int .i64)) (some 3),
 .osl 1 4 (b.shut.length+1) 0 (b.shut.length+1),.int .i64 b.shut.length,.nilsl,.nilsl,.nilsl,.int .i64 b.fe,.int .i64 b.fa]
def bOk (k:Nat) (q:List zo) (b:Bld) (X:List Ob):List Ob:=
 [.cells (bCk q b),.arr 13 (b.items.map xz),.arr 2 (b.syms.map yH),.spare b.marks.length,.arr 1 (b.shut.map xl++[.sl 2 (b.cur.map yP) (some k)]),.dead]++X++[.spare b.cur.length]
theorem zvm (q:List zo) (b:Bld):ClL 5 (bC q b):=
 .cons .sl (.cons (.osl (by decide)) (.cons (.osl (by decide)) (.cons (.tok (by decide)) (.cons (.osl (by decide)) (.cons .int (.cons .nilsl (.cons .nilsl (.cons .nilsl (.cons .int (.cons .int .nil))))))))))
theorem zel {m:Nat→Option Nat} {k k':Nat} (hm:m k=some k') (a:List (List zB)) (c:List zB):yu m (.arr 1 (a.map xl++[.sl 2 (c.map yP) (some k)])) (.arr 1 (a.map xl++[.sl 2 (c.map yP) (some k')])):=by
 refine ⟨_,rfl,by simp,fun i d d' h1 h2=>?_⟩
 rcases Nat.lt_or_ge i (a.map xl).length with h | h
 ·rw [List.getElem?_append_left h] at h1 h2
  rw [h1] at h2
  cases h2
  obtain ⟨l,_,rfl⟩:=List.mem_map.1 (List.mem_of_getElem? h1)
  exact ⟨rfl,ClL.ren (n:=0) (.cons .sl .nil) fun k hk=>absurd hk (Nat.not_lt_zero _)⟩
 ·rw [List.getElem?_append_right h] at h1 h2
  cases hi:i - (a.map xl).length with
  | zero=>
   rw [hi] at h1 h2
   cases h1
   cases h2
   refine ⟨rfl,rfl,fun i d d' g1 g2=>?_⟩
   cases i with
   | zero=>
    cases g1
    cases g2
    have:zbv m (.sl 2 (c.map yP) (some k)) (fun d'=>d'= .sl 2 (c.map yP) (some k')):=by
     show zd5 m 2 (c.map yP) (some k) (zbQ m (c.map yP)) (fun d'=>d'= .sl 2 (c.map yP) (some k'))
     unfold zd5
     simp [hm]
    obtain ⟨d',h3,rfl⟩:=w8 this
    exact h3
   | succ i=>cases g1
  | succ j=>rw [hi] at h1;simp at h1
theorem zvn {av:List D} {KP:D→Prop} {KW:D→List Ob→Prop} {L:List Ob} (q:List zo) (items:List zO) (syms:List zH) (marks:List Int) (shut:List (List zB)) (cur:List zB) (fe fa:Int) (x:zO) (B:Ob) (hl:items.length≤1000000)
  (hL:L=bOk 7 q ⟨items,syms,marks,shut,true,cur,fe,fa⟩ [B]) (has:LeL av [.loc 0 0,xz x]) (hK:KW (.tup []) (bOk 7 q ⟨items++[x],syms,marks,shut,true,cur,fe,fa⟩ [B])):zn Tryz.prog j5 av L KP KW:=by
 refine ze2 has ?_
 subst hL
 have hp:(zS ⟨items,syms,marks,shut,true,cur,fe,fa⟩).length=shut.length+1:=by unfold zS;simp
 have hk:bCk q ⟨items,syms,marks,shut,true,cur,fe,fa⟩=bC q ⟨items,syms,marks,shut,true,cur,fe,fa⟩:=by unfold bCk bC;rw [hp]
 have hk':bCk q ⟨items++[x],syms,marks,shut,true,cur,fe,fa⟩=bC q ⟨items++[x],syms,marks,shut,true,cur,fe,fa⟩:=by unfold bCk bC;rw [show (zS ⟨items++[x],syms,marks,shut,true,cur,fe,fa⟩).length=shut.length+1 from hp]
 refine zyv (.tup []) _ (fun w ρ vs hf hr=>?_) zf7.can hK
 have key:∀ k,k < 5→zM [0,1,2,3,4,7] 0 k=some k:=by decide
 have key':∀ k,k < 5→qd [0,1,2,3,4,7] k=some k:=by decide
 refine za7 zf7 (ks:=[0,1,2,3,4,7]) (js:=[0,1,2,3,4,7]) (as1:=[.loc 0 0,xz x]) (L1:=bO q ⟨items,syms,marks,shut,true,cur,fe,fa⟩) (d1:=.tup []) (d:=.tup []) (L:=bOk 7 q ⟨items,syms,marks,shut,true,cur,fe,fa⟩ [B]) (L':=bOk 7 q ⟨items++[x],syms,marks,shut,true,cur,fe,fa⟩ [B]) (L1':=bO q ⟨items++[x],syms,marks,shut,true,cur,fe,fa⟩)
  rfl (by intro k hk;show k < 8;revert k;decide) (fun _ _=>rfl) (fun i j h=>by simp at h) ?_ rfl (fun i o' ho=>?_) ⟨(⟨items,syms,marks,shut,true,cur,fe,fa⟩,x,q),hl,LeL.refl _,rfl,rfl,rfl⟩ ?_ (Nat.le_refl 6) rfl (fun k hk hn=>?_) (fun i k hi=>?_) (fun i o ho=>?_) hf hr
 ·exact ClL.ren (n:=1) (.cons (.loc (by decide)) (.cons (zpv x) .nil)) fun k hk=>key k (by omega)
 ·match i,ho with
  | 0,ho=>cases ho;exact ⟨0,_,rfl,rfl,by rw [hk];exact ClO.cells (zvm _ _) _ key⟩
  | 1,ho=>cases ho;exact ⟨1,_,rfl,rfl,ClO.arr (jz _) _ key⟩
  | 2,ho=>cases ho;exact ⟨2,_,rfl,rfl,ClO.arr (zaM _) _ key⟩
  | 3,ho=>cases ho;exact ⟨3,_,rfl,rfl,rfl⟩
  | 4,ho=>cases ho;exact ⟨4,_,rfl,rfl,zel (k:=7) (k':=5) (m:=zM [0,1,2,3,4,7] 0) rfl shut cur⟩
  | 5,ho=>cases ho;exact ⟨7,_,rfl,rfl,rfl⟩
  | i+6,ho=>simp [bO,bT] at ho
 ·exact ClD.tup0 _ key'
 ·match k,hk,hn with
  | 0,_,hn=>exact absurd (by decide) hn
  | 1,_,hn=>exact absurd (by decide) hn
  | 2,_,hn=>exact absurd (by decide) hn
  | 3,_,hn=>exact absurd (by decide) hn
  | 4,_,hn=>exact absurd (by decide) hn
  | 5,_,_=>rfl
  | 6,_,_=>rfl
  | 7,_,hn=>exact absurd (by decide) hn
  | k+8,hk,_=>exact absurd hk (by simp [bOk])
 ·match i,hi with
  | 0,hi=>cases hi;exact ⟨_,_,rfl,rfl,by rw [hk'];exact ClO.cells (zvm _ _) _ key'⟩
  | 1,hi=>cases hi;exact ⟨_,_,rfl,rfl,ClO.arr (jz _) _ key'⟩
  | 2,hi=>cases hi;exact ⟨_,_,rfl,rfl,ClO.arr (zaM _) _ key'⟩
  | 3,hi=>cases hi;exact ⟨_,_,rfl,rfl,rfl⟩
  | 4,hi=>cases hi;exact ⟨_,_,rfl,rfl,zel (k:=5) (k':=7) (m:=qd [0,1,2,3,4,7]) rfl shut cur⟩
  | 5,hi=>cases hi;exact ⟨_,_,rfl,rfl,rfl⟩
  | i+6,hi=>simp at hi
 ·simp [bO,bT] at ho
theorem zxd:za Tryz.prog kl (zQ (fun ((b,_,_,_,_):Bld×zB×Int×Int×List zo)=>b.has=false∧b.cur=[]∧b.items.length≤1000000∧b.shut.length≤1000000) (fun (_,v,reg,line,_)=>[.loc 0 0,yP v,.int .i64 reg,.int .i64 line])
  (fun (b,_,_,_,q)=>bO q b) (fun _=>.tup []) fun (b,v,reg,line,q)=>bOk 6 q (jy b v reg line) []):=by
 refine zf zh Tryz.func155 rfl (by decide) ?_
 rintro ⟨⟨items,syms,marks,shut,has,cur,fe,fa⟩,v,reg,line,q⟩ ⟨hh,hcu,hl,hp⟩
 have hh:has=false:=hh
 subst hh
 have hcu:cur=[]:=hcu
 subst hcu
 have hl:items.length≤1000000:=hl
 have hp:shut.length≤1000000:=hp
 have hlen:(zS ⟨items,syms,marks,shut,false,[],fe,fa⟩).length=shut.length:=by unfold zS;simp
 refine ⟨by show 6≤7;decide,by simp [Tryz.f155],fun E hE=>?_⟩
 refine ze _ ?_
 (all_goals refine qgp ?_<;>(repeat' first | exact trivial | intro hc | refine And.intro ?_ ?_)<;>refine Lf.mk ?_)
 have hget:(zS ⟨items,syms,marks,shut,false,[],fe,fa⟩++[.nilsl])[shut.length]?=some .nilsl:=by
  show (shut.map xl++[D.nilsl])[shut.length]?=_
  simp
 refine w6 (d:=.nilsl) (Int.natCast_nonneg _) (by simpa using hget) ?_
 (all_goals refine qgp (Lf.mk ?_))
 refine zb zhp ([],v) (by show (0:Nat)≤_;decide) (VS.mk (.cons (.nil 2) (LeL.refl _))) ?_
 have hidx:wY v [] 0= -1:=by rw [wY]
 have s1:vX v []=0:=by unfold vX;rw [hidx];rfl
 have s2:vW v []=[v]:=by unfold vW;rw [hidx];rfl
 dsimp only
 rw [hidx]
 (all_goals refine qgk ?_<;>(repeat' first | exact trivial | intro hc | refine And.intro ?_ ?_)<;>refine Lf.mk ?_)
 ·refine w6 (d:=.nilsl) (Int.natCast_nonneg _) (by simpa using hget) ?_
  (all_goals refine qgk (Lf.mk ?_))
  refine w6 (d:=.nilsl) (Int.natCast_nonneg _) (by simpa using hget) ?_
  (all_goals refine qgk (Lf.mk ?_))
  refine xd ([v].map yP) rfl ?_
  (all_goals refine qgk (Lf.mk ?_))
  refine w6 (d:=.nilsl) (Int.natCast_nonneg _) (by simpa using hget) ?_
  (all_goals refine qgp (Lf.mk ?_))
  have hset:(zS ⟨items,syms,marks,shut,false,[],fe,fa⟩++[D.nilsl]).set (0+((shut.length:Nat):Int).toNat) (.sl 2 ([v].map yP) (some 7))=shut.map xl++[.sl 2 ([v].map yP) (some 7)]:=by
   show (shut.map xl++[D.nilsl]).set _ _=_
   rw [Nat.zero_add,Int.toNat_natCast,List.set_append_right _ _ (by simp)]
   simp
  have hlen2:(zS ⟨items,syms,marks,shut,false,[],fe,fa⟩++[D.nilsl]).length=shut.length+1:=by rw [List.length_append,hlen];rfl
  have e:∀ (P:List D) (n:Nat),P=shut.map xl++[.sl 2 ([v].map yP) (some 7)]→n=shut.length+1→[Ob.cells [.sl 2 (q.map wD) none,.osl 13 1 items.length 0 items.length,.osl 2 2 syms.length 0 syms.length,
    .sl 1 (marks.map (.int .i64)) (some 3),.osl 1 4 n 0 n,.int .i64 shut.length,.nilsl,.nilsl,.nilsl,.int .i64 fe,.int .i64 fa],.arr 13 (items.map xz),.arr 2 (syms.map yH),.spare marks.length,.arr 1 P,.dead,
    .cells [.str v.name,.int .i64 v.n],.spare 1]=bOk 7 q ⟨items,syms,marks,shut,true,[v],fe,fa⟩ [.cells [.str v.name,.int .i64 v.n]]:=by
   rintro _ _ rfl rfl
   rfl
  refine zvn q items syms marks shut [v] fe fa ⟨6,0,line,⟨24,reg,0,0⟩,false,0,noV,shut.length,0⟩ (.cells [.str v.name,.int .i64 v.n]) hl (e _ _ hset hlen2) yR ?_
  (all_goals refine qgp (Lf.mk ?_))
  have key':∀ k,k < 5→zM [0,1,2,3,4,5,7] 0 k=some k:=by decide
  have hlit:jy ⟨items,syms,marks,shut,false,[],fe,fa⟩ v reg line=⟨items++[⟨6,0,line,⟨24,reg,0,0⟩,false,0,noV,shut.length,0⟩],syms,marks,shut,true,[v],fe,fa⟩:=by
   unfold jy xN
   rw [s1,s2]
  show zI _ _ _ _ (bOk 6 q (jy ⟨items,syms,marks,shut,false,[],fe,fa⟩ v reg line) [])
  rw [hlit]
  refine zg7 [0,1,2,3,4,5,7] rfl rfl ?_ (ClD.tup0 (n:=5) _ key')
  refine .cons (o:=.cells (bCk q ⟨items++[⟨6,0,line,⟨24,reg,0,0⟩,false,0,noV,shut.length,0⟩],syms,marks,shut,true,[v],fe,fa⟩)) rfl (ClO.cells (n:=5) ?_ _ key') (.cons (o:=.arr 13 _) rfl (ClO.arr (n:=5) (jz _) _ key') (.cons (o:=.arr 2 _) rfl (ClO.arr (n:=5) (zaM _) _ key') (.cons (o:=.spare _) rfl rfl
   (.cons (o:=.arr 1 _) rfl (zel (k:=7) (k':=6) rfl _ _) (.cons (o:=.dead) rfl rfl (.cons (o:=.spare _) rfl rfl .nil))))))
  exact .cons .sl (.cons (.osl (by decide)) (.cons (.osl (by decide)) (.cons (.tok (by decide)) (.cons (.osl (by decide)) (.cons .int (.cons .nilsl (.cons .nilsl (.cons .nilsl (.cons .int (.cons .int .nil))))))))))
 ·exact absurd (by decide) hc
theorem zxe {l:List AOp} {k:Nat} {o:AOp} (h:l[k]?=some o):wr (l.take (k+1))=wr (l.take k)++sgA o:=by
 unfold wr
 rw [List.take_add_one,h]
 simp
theorem zAb {o:AOp} (h:o.sign.length≤1):(sgA o).length=1:=by
 unfold sgA
 split
 ·rfl
 ·rename_i hn
  cases hs:o.sign with
  | nil=>exact absurd hs hn
  | cons c r=>rw [hs] at h;simp at h ⊢;exact h
theorem zic:∀ {l:List AOp},(∀ o∈l,o.sign.length≤1)→(wr l).length=l.length
 | [],_=>rfl
 | o::l,h=>by
  have h1:=zAb (h o List.mem_cons_self)
  have h2:=zic (l:=l) fun x hx=>h x (List.mem_cons_of_mem _ hx)
  unfold wr at h2 ⊢
  rw [List.map_cons,List.flatten_cons,List.length_append,h1,h2,List.length_cons]
  omega
theorem zpy:za Tryz.prog zoT (zy (fun l:List AOp=>l.length≤1000000∧∀ o∈l,o.sign.length≤1) (fun l=>[.sl 4 (l.map q7) none]) fun l=>.sl 1 ((yW (wr l)).map (.int .i64)) none):=by
 refine zf zh Tryz.func156 rfl (by decide) ?_
 rintro l ⟨hl,hs⟩
 refine ⟨Nat.le_refl _,by simp [Tryz.f156],fun E hE=>?_⟩
 refine ze _ ?_
 (all_goals refine qgo (Lf.mk ?_))
 refine yc (α:=Nat) (fun k=>k≤l.length) (fun k=>[(6,.sl 4 (l.map q7) none),(7,.int .i64 l.length),(8,.int .i64 k),(3,.str (wr (l.take k)))]) (fun _=>[]) (fun k=>l.length - k) (fun _=>by simp [hE]) 0 (Nat.zero_le _) ?_ ?_
 ·(repeat' (first | (refine VS.mk ?_) | exact trivial | exact rfl | refine And.intro ?_ ?_))
 rintro k hk
 have hk:k≤l.length:=hk
 have hlen:(wr (l.take k)).length≤1000000:=by
  rw [zic fun o ho=>hs o (List.mem_of_mem_take ho),List.length_take];omega
 refine ze _ ?_
 (all_goals refine qgo ?_<;>(repeat' first | exact trivial | intro hc | refine And.intro ?_ ?_)<;>refine Lf.mk ?_)
 ·obtain ⟨o,ho⟩:=zP (l:=l) (k:=k) (by omega)
  have hstep:=zxe ho
  have hs1:=hs o (List.mem_of_getElem? ho)
  refine zl o (by omega) (by simpa using ho) ?_
  (all_goals refine qgo ?_<;>(repeat' first | exact trivial | intro hc | refine And.intro ?_ ?_)<;>refine Lf.mk ?_)
  ·refine zkc (by simp only [List.length_cons,List.length_nil];omega) ?_
   (all_goals refine qgo (Lf.mk ?_))
   refine zF (k+1) (by show k+1≤_;omega) (by omega) ?_
   rw [hstep,show sgA o=[112] by unfold sgA;rw [if_pos hc]]
   (repeat' (first | (refine VS.mk ?_) | exact trivial | exact rfl | refine And.intro ?_ ?_))
  ·refine zkc (by omega) ?_
   (all_goals refine qgo (Lf.mk ?_))
   refine zF (k+1) (by show k+1≤_;omega) (by omega) ?_
   rw [hstep,show sgA o=o.sign by unfold sgA;rw [if_neg hc]]
   (repeat' (first | (refine VS.mk ?_) | exact trivial | exact rfl | refine And.intro ?_ ?_))
 all_goals
  have hk2:k=l.length:=by omega
  clear hlen
  subst hk2
  simp only [List.take_length] at *
  refine zd (VS.mk ?_)
  unfold yW
  (repeat (first | (rw [if_pos (by assumption)]) | (rw [if_neg (by assumption)])))
  first
   | exact LeD.of_eq rfl
   | exact LeD.nil 1
def qj (q:List zo) (b b':Bld):List Ob:=if b.has=false∧b'.has=true then bOk 6 q b' [] else bO q b'
theorem zpz (q:List zo) (b b':Bld):6≤(qj q b b').length:=by
 unfold qj
 split
 ·exact Nat.le_succ 6
 ·exact Nat.le_refl 6
theorem qa {q:List zo} {b b':Bld} (h:b'.has=b.has):qj q b b'=bO q b':=by
 unfold qj
 rw [if_neg fun e=>by rw [h,e.1] at e;exact absurd e.2 (by decide)]
theorem zxf {q:List zo} {b b':Bld} (h:b.has=true):qj q b b'=bO q b':=by
 unfold qj
 rw [if_neg fun e=>by rw [h] at e;exact absurd e.1 (by decide)]
theorem zf9 {q:List zo} {b b':Bld} (h:b.has=false) (h':b'.has=true):qj q b b'=bOk 6 q b' []:=by
 unfold qj
 rw [if_pos ⟨h,h'⟩]
theorem jA (b:Bld) (e line:Int):(yN b e line).has=b.has:=by unfold yN;split<;>rfl
structure InB (b:Bld):Prop where
 cur:b.has=false→b.cur=[]
 items:b.items.length≤1000000
 shut:b.shut.length≤1000000
 curl:b.cur.length≤1000000
theorem ztz:za Tryz.prog kl (zQ (fun ((b,_,_,_,_):Bld×zB×Int×Int×List zo)=>InB b) (fun (_,v,reg,line,_)=>[.loc 0 0,yP v,.int .i64 reg,.int .i64 line])
  (fun (b,_,_,_,q)=>bO q b) (fun _=>.tup []) fun (b,v,reg,line,q)=>qj q b (jy b v reg line)):=by
 refine zwz zvk zxd ?_
 rintro av L d L' ⟨⟨b,v,reg,line,q⟩,h,h1,h2,h3,h4⟩
 cases hb:b.has with
 | true=>exact .inl ⟨(b,v,reg,line,q),⟨hb,h.items,h.shut,h.curl⟩,h1,h2,h3,by rw [h4];exact zxf hb⟩
 | false=>exact .inr ⟨(b,v,reg,line,q),⟨hb,h.cur hb,h.items,h.shut⟩,h1,h2,h3,by rw [h4];exact zf9 hb rfl⟩
theorem zsc (name:List UInt8):∀ (L:List Int) (p:Int×Int),x0 name L p=p∨(x0 name L p).2∈L
 | [],p=>.inl rfl
 | s::L,p=>by
  rw [x0]
  rcases zsc name L (if 0 < vV name s then (vV name s,s) else p) with h | h
  ·rw [h]
   split
   ·exact .inr List.mem_cons_self
   ·exact .inl rfl
  ·exact .inr (List.mem_cons_of_mem _ h)
theorem zvo (s:List UInt8):∀ x∈yW s,(x=0∧s.length=0)∨((x=3∨x=4∨x=5∨x=6∨x=11)∧s.length=1)∨((x=1∨x=2∨x=7∨x=8∨x=9∨x=10)∧s.length=2):=by
 intro x hx
 unfold yW at hx
 repeat' split at hx
 all_goals first
  | (rename_i h;subst h;simp at hx;subst hx;decide)
  | (rename_i h;subst h;simp at hx;rcases hx with rfl | rfl<;>decide)
  | simp at hx
theorem zy5 {name:List UInt8} {l:List AOp} (h:∀ o∈l,o.sign.length≤1) {S:Int×Int} (hS:x0 name (yW (wr l)) (0,0)=S):(S.1=0∧S.2=0)∨(S.2=0∧l.length=0)∨((S.2=3∨S.2=4∨S.2=5∨S.2=6∨S.2=11)∧l.length=1) ∨
  ((S.2=1∨S.2=2∨S.2=7∨S.2=8∨S.2=9∨S.2=10)∧l.length=2):=by
 subst hS
 rcases zsc name (yW (wr l)) (0,0) with h1 | h1
 ·rw [h1];exact .inl ⟨rfl,rfl⟩
 ·have:=zvo _ _ h1
  rw [zic h] at this
  exact .inr this
theorem zvp {av:List D} {L:List Ob} {KP:D→Prop} {KW:D→List Ob→Prop} (name:List UInt8) (s:Int) (has:av=[.str name,.int .i64 s]) (hK:KP (.int .i64 (vV name s))):zn Tryz.prog zkv av L KP KW:=by
 subst has
 exact zb ztq (name,s) trivial (VS.mk (LeL.of_eq rfl)) hK
attribute [local irreducible] vV xf
def zpA:List (D×D):=[(.int .i64 4,.int .i64 2),(.int .i64 5,.int .i64 3)]
theorem zpB {s:Int} (h:s=4):qR (.int .i64 s) zpA=some (.int .i64 2):=by subst h;rfl
theorem zpC {s:Int} (h:s=5):qR (.int .i64 s) zpA=some (.int .i64 3):=by subst h;rfl
def zlM:List (D×D):=[(.int .i64 5,.int .i64 3),(.int .i64 4,.int .i64 2)]
theorem znu {s:Int} (h:s=5):qR (.int .i64 s) zlM=some (.int .i64 3):=by subst h;rfl
theorem znv {s:Int} (h:s=4):qR (.int .i64 s) zlM=some (.int .i64 2):=by subst h;rfl
def zpD:List (D×D):=[(.int .i64 7,.int .i64 4),(.int .i64 8,.int .i64 5)]
theorem zpE {s:Int} (h:s=7):qR (.int .i64 s) zpD=some (.int .i64 4):=by subst h;rfl
theorem zpF {s:Int} (h:s=8):qR (.int .i64 s) zpD=some (.int .i64 5):=by subst h;rfl
def zlN:List (D×D):=[(.int .i64 8,.int .i64 5),(.int .i64 7,.int .i64 4)]
theorem znw {s:Int} (h:s=8):qR (.int .i64 s) zlN=some (.int .i64 5):=by subst h;rfl
theorem znx {s:Int} (h:s=7):qR (.int .i64 s) zlN=some (.int .i64 4):=by subst h;rfl
theorem zAc {op sh line:Int} {l:List AOp} (h:sh=1):vp op sh l line=⟨1,0,line,⟨op,(aop l 1).reg,0,(aop l 0).val.n⟩,false,0,(aop l 0).val,0,0⟩:=by subst h;rfl
theorem zAd {op sh line:Int} {l:List AOp} (h:sh=2∨sh=9∨sh=10):vp op sh l line=⟨1,0,line,⟨op,(aop l 1).reg,(aop l 0).reg,0⟩,false,0,noV,0,0⟩:=by rcases h with rfl | rfl | rfl<;>rfl
theorem zAe {op sh line:Int} {l:List AOp} (h:sh=3∨sh=6):vp op sh l line=⟨1,0,line,⟨op,(aop l 0).reg,0,0⟩,false,0,noV,0,0⟩:=by rcases h with rfl | rfl<;>rfl
theorem zAf {op sh line:Int} {l:List AOp} (h:sh=4):vp op sh l line=⟨2,0,line,⟨op,0,0,0⟩,false,0,(aop l 0).val,0,0⟩:=by subst h;rfl
theorem zAg {op sh line:Int} {l:List AOp} (h:sh=5):vp op sh l line=⟨3,0,line,⟨op,0,0,0⟩,false,0,(aop l 0).val,0,0⟩:=by subst h;rfl
theorem zAh {op sh line:Int} {l:List AOp} (h:sh=7):vp op sh l line=⟨4,0,line,⟨op,(aop l 1).reg,0,0⟩,false,0,(aop l 0).val,0,0⟩:=by subst h;rfl
theorem zAi {op sh line:Int} {l:List AOp} (h:sh=8):vp op sh l line=⟨5,0,line,⟨op,(aop l 1).reg,0,0⟩,false,0,(aop l 0).val,0,0⟩:=by subst h;rfl
theorem zy6 {op sh line:Int} {l:List AOp} (h:sh=11):vp op sh l line=⟨1,0,line,⟨op,0,0,(aop l 0).val.n⟩,false,0,(aop l 0).val,0,0⟩:=by subst h;rfl
theorem zAj {op sh line:Int} {l:List AOp} (h:sh=0):vp op sh l line=⟨1,0,line,⟨op,0,0,0⟩,false,0,noV,0,0⟩:=by subst h;rfl
theorem ztA (s:List UInt8):(yW s).length≤2:=by
 unfold yW
 repeat' split
 all_goals decide
theorem ziH:za Tryz.prog zbq (zQ (fun ((b,_,l,_,_):Bld×List UInt8×List AOp×Int×List zo)=>InB b∧l.length≤1000000∧∀ o∈l,o.sign.length≤1) (fun (_,name,l,line,_)=>[.loc 0 0,.str name,.sl 4 (l.map q7) none,.int .i64 line])
  (fun (b,_,_,_,q)=>bO q b) (fun _=>.tup []) fun (b,name,l,line,q)=>qj q b (xH b name l line)):=by
 refine zf zh Tryz.func118 rfl (by decide) ?_
 rintro ⟨b,name,l,line,q⟩ ⟨hb,hl,hs⟩
 have hl:l.length≤1000000:=hl
 have hs:∀ o∈l,o.sign.length≤1:=hs
 refine ⟨zpz _ _ _,by simp [Tryz.f118],fun E hE=>?_⟩
 have hE6:E.L.length=6:=by rw [hE];rfl
 have hget:∀ k:Nat,k < l.length→l[k]?=some (aop l k):=fun k hk=>by unfold aop;rw [List.getElem?_eq_getElem hk];rfl
 refine zbA (α:=Unit) (fun _=>¬ (name=[109,111,118,46,108]∧l.length=2∧(aop l 0).sign=[61]∧(aop l 1).sign=[114]))
  (fun _=>[(0,.loc 0 0),(1,.str name),(2,.sl 4 (l.map q7) none),(3,.int .i64 line)]) (fun _=>bO q b) ?_ ?_
 ·refine ze _ ?_
  (all_goals refine qgp ?_<;>(repeat' first | exact trivial | intro hc | refine And.intro ?_ ?_)<;>refine Lf.mk ?_)
  ·refine zl (aop l 0) (by decide) (hget 0 (by omega)) ?_
   (all_goals refine qgp ?_<;>(repeat' first | exact trivial | intro hc | refine And.intro ?_ ?_)<;>refine Lf.mk ?_)
   ·refine zl (aop l 1) (by decide) (hget 1 (by omega)) ?_
    (all_goals refine qgp ?_<;>(repeat' first | exact trivial | intro hc | refine And.intro ?_ ?_)<;>refine Lf.mk ?_)
    ·refine zl (aop l 0) (by decide) (hget 0 (by omega)) ?_
     (all_goals refine qgp (Lf.mk ?_))
     refine zl (aop l 1) (by decide) (hget 1 (by omega)) ?_
     (all_goals refine qgp (Lf.mk ?_))
     refine zdC ztz (b,(aop l 0).val,(aop l 1).reg,line,q) hb rfl (LeL.refl _) ?_
     (all_goals refine qgp (Lf.mk ?_))
     refine yQ rfl ?_
     show qj q b _=qj q b (xH b name l line)
     unfold xH
     rw [if_pos ⟨by assumption,by omega,by assumption,by assumption⟩]
    ·exact ⟨(),fun h=>absurd h.2.2.2 hc,yf rfl ⟨rfl,rfl,rfl,rfl,trivial⟩⟩
   ·exact ⟨(),fun h=>absurd h.2.2.1 hc,yf rfl ⟨rfl,rfl,rfl,rfl,trivial⟩⟩
  ·exact ⟨(),fun h=>by have:=h.2.1;omega,yf rfl ⟨rfl,rfl,rfl,rfl,trivial⟩⟩
  ·exact ⟨(),fun h=>absurd h.1 hc,yf rfl ⟨rfl,rfl,rfl,rfl,trivial⟩⟩
 ·rintro _ hM
  have hgo:xH b name l line=if (x0 name (yW (wr l)) (0,0)).1=0 then yN b 1 line else if ((x0 name (yW (wr l)) (0,0)).2=1∨(x0 name (yW (wr l)) (0,0)).2=11)∧(aop l 0).val.name≠[] then yN b 8 line
    else if xf (vp (x0 name (yW (wr l)) (0,0)).1 (x0 name (yW (wr l)) (0,0)).2 l line).ins=0 then xN b (vp (x0 name (yW (wr l)) (0,0)).1 (x0 name (yW (wr l)) (0,0)).2 l line)
    else yN b (xf (vp (x0 name (yW (wr l)) (0,0)).1 (x0 name (yW (wr l)) (0,0)).2 l line).ins) line:=by
   unfold xH
   rw [if_neg hM]
  have hB:qj q b (xH b name l line)=bO q (xH b name l line):=by
   refine qa ?_
   rw [hgo]
   repeat' split
   all_goals first | rw [jA] | rfl
  show AWP _ _ _ _ (kg _ _ _ _ (qj q b (xH b name l line))) _ _
  rw [hB]
  generalize xH b name l line=B at *
  refine ze _ ?_
  (all_goals refine qgp (Lf.mk ?_))
  refine zb zpy l ⟨hl,hs⟩ (VS.mk (LeL.of_eq rfl)) ?_
  have hlen:=zic hs
  have hS0:=zy5 hs (name:=name) rfl
  have hTl:=ztA (wr l)
  generalize hS:x0 name (yW (wr l)) (0,0)=S at *
  generalize hT:yW (wr l)=T at *
  (all_goals refine qgp (Lf.mk ?_))
  refine yp (α:=Nat×Int×Int) (fun p=>p.1≤T.length∧x0 name (T.drop p.1) p.2=S) (fun p=>[(48,.sl 1 (T.map (.int .i64)) none),(49,.int .i64 T.length),(50,.int .i64 p.1),(8,.int .i64 p.2.1),(9,.int .i64 p.2.2),(0,.loc 0 0),(1,.str name),(2,.sl 4 (l.map q7) none),(3,.int .i64 line)])
   (fun _=>bO q b) (fun p=>T.length - p.1) (fun _=>by rw [hE6];exact Nat.le_refl 6) (0,0,0) ⟨Nat.zero_le _,hS⟩ ?_ ?_
  ·exact yf rfl ⟨rfl,rfl,rfl,rfl,rfl,rfl,rfl,rfl,rfl,trivial⟩
  rintro ⟨k,o,sh⟩ ⟨hk,hp⟩
  dsimp only at hk hp ⊢
  refine ze _ ?_
  (all_goals refine zBf ?_<;>(repeat' first | exact trivial | intro hc | refine And.intro ?_ ?_)<;>refine Lf.mk ?_)
  ·obtain ⟨x,hx⟩:=zP (l:=T) (k:=k) (by omega)
   have hkl:k < T.length:=by omega
   have hgx:T[k]=x:=by rw [List.getElem?_eq_getElem hkl] at hx;exact Option.some.inj hx
   rw [List.drop_eq_getElem_cons hkl,hgx,x0] at hp
   refine zl x (by omega) (by simpa using hx) ?_
   (all_goals refine qgp (Lf.mk ?_))
   refine zvp name x rfl ?_
   (all_goals refine qgp ?_<;>(repeat' first | exact trivial | intro hc | refine And.intro ?_ ?_)<;>refine Lf.mk ?_)
   ·rw [if_pos (by omega)] at hp
    exact yj (k+1,vV name x,x) ⟨by show k+1≤_;omega,hp⟩ (by dsimp only;omega) rfl ⟨rfl,rfl,rfl,rfl,rfl,rfl,rfl,rfl,rfl,trivial⟩
   ·rw [if_neg (by omega)] at hp
    exact yj (k+1,o,sh) ⟨by show k+1≤_;omega,hp⟩ (by dsimp only;omega) rfl ⟨rfl,rfl,rfl,rfl,rfl,rfl,rfl,rfl,rfl,trivial⟩
  all_goals
   have hk2:k=T.length:=by omega
   rw [hk2,List.drop_length,x0] at hp
   obtain ⟨rfl,rfl⟩:o=S.1∧sh=S.2:=by rw [← hp];exact ⟨rfl,rfl⟩
  all_goals first
   | (have hS4 : S.2 = 4 ∨ S.2 = 5 := by omega
      refine zj7 ?_;refine zfI zh mixed 1 2 [0,2,1,3,4,5,6,7,8,9,10,11,12,13] [0,2,1,3,4,5,6,7,8,9,10,11,12,13] rfl rfl rfl ?_ ?_)
   | (have hS7 : S.2 = 7 ∨ S.2 = 8 := by omega
      refine zj7 ?_;refine zfI zh mixed 1 2 [0,2,1,3,4,5,6,7,8,9,10,11,12,13,14,15,16,17,18,19,20] [0,2,1,3,4,5,6,7,8,9,10,11,12,13,14,15,16,17,18,19,20] rfl rfl rfl ?_ ?_)
   | (refine zea ?_)
   | skip
  all_goals (try (all_goals refine qgo (Lf.mk ?_)))
  all_goals (try (refine zaW (show _=[(D.int .i64 4,D.int .i64 2)] from rfl) ?_;(all_goals refine qgo (Lf.mk ?_));refine zaW (show _=zpA from rfl) ?_;(all_goals refine qgo (Lf.mk ?_));first | (refine jG (zpB (show S.2=4 by omega)) ?_) | (refine jG (zpC (show S.2=5 by omega)) ?_)))
  all_goals (try (refine zaW (show _=[(D.int .i64 5,D.int .i64 3)] from rfl) ?_;(all_goals refine qgo (Lf.mk ?_));refine zaW (show _=zlM from rfl) ?_;(all_goals refine qgo (Lf.mk ?_));first | (refine jG (znu (show S.2=5 by omega)) ?_) | (refine jG (znv (show S.2=4 by omega)) ?_)))
  all_goals (try (refine zaW (show _=[(D.int .i64 7,D.int .i64 4)] from rfl) ?_;(all_goals refine qgo (Lf.mk ?_));refine zaW (show _=zpD from rfl) ?_;(all_goals refine qgo (Lf.mk ?_));first | (refine jG (zpE (show S.2=7 by omega)) ?_) | (refine jG (zpF (show S.2=8 by omega)) ?_)))
  all_goals (try (refine zaW (show _=[(D.int .i64 8,D.int .i64 5)] from rfl) ?_;(all_goals refine qgo (Lf.mk ?_));refine zaW (show _=zlN from rfl) ?_;(all_goals refine qgo (Lf.mk ?_));first | (refine jG (znw (show S.2=8 by omega)) ?_) | (refine jG (znx (show S.2=7 by omega)) ?_)))
  all_goals (try (all_goals refine qgo (Lf.mk ?_)))
  all_goals (try (refine zl (aop l 0) (by decide) (hget 0 (by omega)) ?_;(all_goals refine qgo ?_<;>(repeat' first | exact trivial | intro hc | refine And.intro ?_ ?_)<;>refine Lf.mk ?_)))
  all_goals (try (exfalso;first | omega | exact absurd trivial (by assumption)))
  all_goals (try (refine zl (aop l 1) (by decide) (hget 1 (by omega)) ?_;(all_goals refine qgo ?_<;>(repeat' first | exact trivial | intro hc | refine And.intro ?_ ?_)<;>refine Lf.mk ?_)))
  all_goals (try (exfalso;first | omega | exact absurd trivial (by assumption)))
  all_goals (try (refine zl (aop l 0) (by decide) (hget 0 (by omega)) ?_;(all_goals refine qgo ?_<;>(repeat' first | exact trivial | intro hc | refine And.intro ?_ ?_)<;>refine Lf.mk ?_)))
  all_goals (try (exfalso;first | omega | exact absurd trivial (by assumption)))
  all_goals (try (refine zl (aop l 1) (by decide) (hget 1 (by omega)) ?_;(all_goals refine qgo ?_<;>(repeat' first | exact trivial | intro hc | refine And.intro ?_ ?_)<;>refine Lf.mk ?_)))
  all_goals (try (exfalso;first | omega | exact absurd trivial (by assumption)))
  all_goals (try (refine y6 q b 1 line [] rfl rfl ?_;(all_goals refine qgp (Lf.mk ?_));exact yg [] rfl (by rw [hgo,if_pos (by assumption)]) rfl (Nat.le_of_eq rfl) .tup0))
  all_goals first
   | (have hd:=zAc (op:=S.1) (line:=line) (l:=l) (show S.2=1 by omega);rw [hd] at hgo;clear hd;rw [if_neg (by omega)] at hgo)
   | (have hd:=zAd (op:=S.1) (line:=line) (l:=l) (show S.2=2∨S.2=9∨S.2=10 by omega);rw [hd] at hgo;clear hd;rw [if_neg (by omega)] at hgo)
   | (have hd:=zAe (op:=S.1) (line:=line) (l:=l) (show S.2=3∨S.2=6 by omega);rw [hd] at hgo;clear hd;rw [if_neg (by omega)] at hgo)
   | (have hd:=zAf (op:=S.1) (line:=line) (l:=l) (show S.2=4 by omega);rw [hd] at hgo;clear hd;rw [if_neg (by omega)] at hgo)
   | (have hd:=zAg (op:=S.1) (line:=line) (l:=l) (show S.2=5 by omega);rw [hd] at hgo;clear hd;rw [if_neg (by omega)] at hgo)
   | (have hd:=zAh (op:=S.1) (line:=line) (l:=l) (show S.2=7 by omega);rw [hd] at hgo;clear hd;rw [if_neg (by omega)] at hgo)
   | (have hd:=zAi (op:=S.1) (line:=line) (l:=l) (show S.2=8 by omega);rw [hd] at hgo;clear hd;rw [if_neg (by omega)] at hgo)
   | (have hd:=zy6 (op:=S.1) (line:=line) (l:=l) (show S.2=11 by omega);rw [hd] at hgo;clear hd;rw [if_neg (by omega)] at hgo)
   | (have hd:=zAj (op:=S.1) (line:=line) (l:=l) (show S.2=0 by omega);rw [hd] at hgo;clear hd;rw [if_neg (by omega)] at hgo)
  all_goals (try (refine y6 q b 8 line [_] rfl rfl ?_;(all_goals refine qgp (Lf.mk ?_));exact yg [_] rfl (by rw [hgo,if_pos ⟨by omega,by assumption⟩]) rfl (Nat.le_of_eq rfl) .tup0))
  all_goals rw [if_neg (fun h=>by first | exact absurd (by assumption) h.2 | omega)] at hgo
  all_goals first
   | (refine zb qh ⟨S.1,(aop l 1).reg,0,(aop l 0).val.n⟩ trivial (VS.mk (LeL.of_eq rfl)) ?_)
   | (refine zb qh ⟨S.1,(aop l 1).reg,(aop l 0).reg,0⟩ trivial (VS.mk (LeL.of_eq rfl)) ?_)
   | (refine zb qh ⟨S.1,(aop l 0).reg,0,0⟩ trivial (VS.mk (LeL.of_eq rfl)) ?_)
   | (refine zb qh ⟨S.1,0,0,0⟩ trivial (VS.mk (LeL.of_eq rfl)) ?_)
   | (refine zb qh ⟨S.1,(aop l 1).reg,0,0⟩ trivial (VS.mk (LeL.of_eq rfl)) ?_)
   | (refine zb qh ⟨S.1,0,0,(aop l 0).val.n⟩ trivial (VS.mk (LeL.of_eq rfl)) ?_)
  all_goals (all_goals refine qgp ?_<;>(repeat' first | exact trivial | intro hc | refine And.intro ?_ ?_)<;>refine Lf.mk ?_)
  all_goals first
   | (refine y6 q b _ line [_] rfl rfl ?_;(all_goals refine qgp (Lf.mk ?_));exact yg [_] rfl (by rw [hgo,if_neg (by assumption)]) rfl (Nat.le_of_eq rfl) .tup0)
   | (refine yJ q b ⟨1,0,line,⟨S.1,(aop l 1).reg,0,(aop l 0).val.n⟩,false,0,(aop l 0).val,0,0⟩ [_] hb.items rfl yR ?_;(all_goals refine qgp (Lf.mk ?_));exact yg [_] rfl (by rw [hgo,if_pos (by assumption)]) rfl (Nat.le_of_eq rfl) .tup0)
   | (refine yJ q b ⟨1,0,line,⟨S.1,(aop l 1).reg,(aop l 0).reg,0⟩,false,0,noV,0,0⟩ [_] hb.items rfl yR ?_;(all_goals refine qgp (Lf.mk ?_));exact yg [_] rfl (by rw [hgo,if_pos (by assumption)]) rfl (Nat.le_of_eq rfl) .tup0)
   | (refine yJ q b ⟨1,0,line,⟨S.1,(aop l 0).reg,0,0⟩,false,0,noV,0,0⟩ [_] hb.items rfl yR ?_;(all_goals refine qgp (Lf.mk ?_));exact yg [_] rfl (by rw [hgo,if_pos (by assumption)]) rfl (Nat.le_of_eq rfl) .tup0)
   | (refine yJ q b ⟨2,0,line,⟨S.1,0,0,0⟩,false,0,(aop l 0).val,0,0⟩ [_] hb.items rfl yR ?_;(all_goals refine qgp ?_<;>(repeat' first | exact trivial | intro hc | refine And.intro ?_ ?_)<;>refine Lf.mk ?_);exact yg [_] rfl (by rw [hgo,if_pos (by assumption)]) rfl (Nat.le_of_eq rfl) .tup0)
   | (refine yJ q b ⟨3,0,line,⟨S.1,0,0,0⟩,false,0,(aop l 0).val,0,0⟩ [_] hb.items rfl yR ?_;(all_goals refine qgp ?_<;>(repeat' first | exact trivial | intro hc | refine And.intro ?_ ?_)<;>refine Lf.mk ?_);exact yg [_] rfl (by rw [hgo,if_pos (by assumption)]) rfl (Nat.le_of_eq rfl) .tup0)
   | (refine yJ q b ⟨4,0,line,⟨S.1,(aop l 1).reg,0,0⟩,false,0,(aop l 0).val,0,0⟩ [_] hb.items rfl yR ?_;(all_goals refine qgp ?_<;>(repeat' first | exact trivial | intro hc | refine And.intro ?_ ?_)<;>refine Lf.mk ?_);exact yg [_] rfl (by rw [hgo,if_pos (by assumption)]) rfl (Nat.le_of_eq rfl) .tup0)
   | (refine yJ q b ⟨5,0,line,⟨S.1,(aop l 1).reg,0,0⟩,false,0,(aop l 0).val,0,0⟩ [_] hb.items rfl yR ?_;(all_goals refine qgp ?_<;>(repeat' first | exact trivial | intro hc | refine And.intro ?_ ?_)<;>refine Lf.mk ?_);exact yg [_] rfl (by rw [hgo,if_pos (by assumption)]) rfl (Nat.le_of_eq rfl) .tup0)
   | (refine yJ q b ⟨1,0,line,⟨S.1,0,0,(aop l 0).val.n⟩,false,0,(aop l 0).val,0,0⟩ [_] hb.items rfl yR ?_;(all_goals refine qgp (Lf.mk ?_));exact yg [_] rfl (by rw [hgo,if_pos (by assumption)]) rfl (Nat.le_of_eq rfl) .tup0)
   | (refine yJ q b ⟨1,0,line,⟨S.1,0,0,0⟩,false,0,noV,0,0⟩ [_] hb.items rfl yR ?_;(all_goals refine qgp (Lf.mk ?_));exact yg [_] rfl (by rw [hgo,if_pos (by assumption)]) rfl (Nat.le_of_eq rfl) .tup0)
   | (refine y6 q b _ line [_,_] rfl rfl ?_;(all_goals refine qgp (Lf.mk ?_));exact yg [_,_] rfl (by rw [hgo,if_neg (by assumption)]) rfl (Nat.le_of_eq rfl) .tup0)
   | (refine yJ q b ⟨1,0,line,⟨S.1,(aop l 1).reg,0,(aop l 0).val.n⟩,false,0,(aop l 0).val,0,0⟩ [_,_] hb.items rfl yR ?_;(all_goals refine qgp ?_<;>(repeat' first | exact trivial | intro hc | refine And.intro ?_ ?_)<;>refine Lf.mk ?_);exact yg [_,_] rfl (by rw [hgo,if_pos (by assumption)]) rfl (Nat.le_of_eq rfl) .tup0)
   | (refine yJ q b ⟨1,0,line,⟨S.1,(aop l 1).reg,(aop l 0).reg,0⟩,false,0,noV,0,0⟩ [_,_] hb.items rfl yR ?_;(all_goals refine qgp ?_<;>(repeat' first | exact trivial | intro hc | refine And.intro ?_ ?_)<;>refine Lf.mk ?_);exact yg [_,_] rfl (by rw [hgo,if_pos (by assumption)]) rfl (Nat.le_of_eq rfl) .tup0)
   | (refine yJ q b ⟨1,0,line,⟨S.1,(aop l 0).reg,0,0⟩,false,0,noV,0,0⟩ [_,_] hb.items rfl yR ?_;(all_goals refine qgp ?_<;>(repeat' first | exact trivial | intro hc | refine And.intro ?_ ?_)<;>refine Lf.mk ?_);exact yg [_,_] rfl (by rw [hgo,if_pos (by assumption)]) rfl (Nat.le_of_eq rfl) .tup0)
   | (refine yJ q b ⟨2,0,line,⟨S.1,0,0,0⟩,false,0,(aop l 0).val,0,0⟩ [_,_] hb.items rfl yR ?_;(all_goals refine qgp (Lf.mk ?_));exact yg [_,_] rfl (by rw [hgo,if_pos (by assumption)]) rfl (Nat.le_of_eq rfl) .tup0)
   | (refine yJ q b ⟨3,0,line,⟨S.1,0,0,0⟩,false,0,(aop l 0).val,0,0⟩ [_,_] hb.items rfl yR ?_;(all_goals refine qgp (Lf.mk ?_));exact yg [_,_] rfl (by rw [hgo,if_pos (by assumption)]) rfl (Nat.le_of_eq rfl) .tup0)
   | (refine yJ q b ⟨4,0,line,⟨S.1,(aop l 1).reg,0,0⟩,false,0,(aop l 0).val,0,0⟩ [_,_] hb.items rfl yR ?_;(all_goals refine qgp (Lf.mk ?_));exact yg [_,_] rfl (by rw [hgo,if_pos (by assumption)]) rfl (Nat.le_of_eq rfl) .tup0)
   | (refine yJ q b ⟨5,0,line,⟨S.1,(aop l 1).reg,0,0⟩,false,0,(aop l 0).val,0,0⟩ [_,_] hb.items rfl yR ?_;(all_goals refine qgp (Lf.mk ?_));exact yg [_,_] rfl (by rw [hgo,if_pos (by assumption)]) rfl (Nat.le_of_eq rfl) .tup0)
   | (refine yJ q b ⟨1,0,line,⟨S.1,0,0,(aop l 0).val.n⟩,false,0,(aop l 0).val,0,0⟩ [_,_] hb.items rfl yR ?_;(all_goals refine qgp ?_<;>(repeat' first | exact trivial | intro hc | refine And.intro ?_ ?_)<;>refine Lf.mk ?_);exact yg [_,_] rfl (by rw [hgo,if_pos (by assumption)]) rfl (Nat.le_of_eq rfl) .tup0)
   | (refine yJ q b ⟨1,0,line,⟨S.1,0,0,0⟩,false,0,noV,0,0⟩ [_,_] hb.items rfl yR ?_;(all_goals refine qgp ?_<;>(repeat' first | exact trivial | intro hc | refine And.intro ?_ ?_)<;>refine Lf.mk ?_);exact yg [_,_] rfl (by rw [hgo,if_pos (by assumption)]) rfl (Nat.le_of_eq rfl) .tup0)
attribute [local irreducible] yO
theorem zpG:za Tryz.prog zaI (zQ (fun _:zH×y8=>True) (fun (s,_)=>[yH s,.loc 0 0]) (fun (_,t)=>[.cells [.int .i64 t.kind,.int .i64 t.n,.str t.text]]) (fun (s,t)=>.bool (s.name==t.text))
  fun (_,t)=>[.cells [.int .i64 t.kind,.int .i64 t.n,.str t.text]]):=by
 refine zf zh Tryz.func151 rfl (by decide) ?_
 rintro ⟨s,t⟩ _
 refine ⟨Nat.le_refl _,by simp [Tryz.f151],fun E hE=>?_⟩
 refine ze _ ?_
 (all_goals refine qgo (Lf.mk ?_))
 exact xq [.cells [.int .i64 t.kind,.int .i64 t.n,.str t.text]] [_] rfl (Nat.le_refl 1) .bool (by intro o ho;rw [List.mem_singleton] at ho;subst ho;exact .cells (.cons .int (.cons .int (.cons .str .nil))))
theorem zpH:za Tryz.prog zaJ (zQ (fun _:zo×y8=>True) (fun (s,_)=>[wD s,.loc 0 0]) (fun (_,t)=>[.cells [.int .i64 t.kind,.int .i64 t.n,.str t.text]]) (fun (s,t)=>.bool (s.name==t.text))
  fun (_,t)=>[.cells [.int .i64 t.kind,.int .i64 t.n,.str t.text]]):=by
 refine zf zh Tryz.func152 rfl (by decide) ?_
 rintro ⟨s,t⟩ _
 refine ⟨Nat.le_refl _,by simp [Tryz.f152],fun E hE=>?_⟩
 refine ze _ ?_
 (all_goals refine qgo (Lf.mk ?_))
 exact xq [.cells [.int .i64 t.kind,.int .i64 t.n,.str t.text]] [_] rfl (Nat.le_refl 1) .bool (by intro o ho;rw [List.mem_singleton] at ho;subst ho;exact .cells (.cons .int (.cons .int (.cons .str .nil))))
def wi (q:List zo) (b:Bld) (t:y8) (line:Int):Bld:=
 if yO t.text=false∨0≤vo t∨b.syms.any (fun s=>s.name==t.text)=true∨q.any (fun s=>s.name==t.text)=true then yN b 7 line else { b with syms:=b.syms++[⟨t.text,0⟩],marks:=b.marks++[(b.items.length:Int)] }
theorem zrk:za Tryz.prog zbo (zQ (fun ((b,t,_,q):Bld×y8×Int×List zo)=>b.items.length≤1000000∧b.syms.length≤1000000∧b.marks.length≤1000000∧q.length≤1000000∧t.text.length≤1000000000) (fun (_,t,line,_)=>[.loc 0 0,vw t,.int .i64 line])
  (fun (b,_,_,q)=>bO q b) (fun _=>.tup []) fun (b,t,line,q)=>bO q (wi q b t line)):=by
 refine zf zh Tryz.func113 rfl (by decide) ?_
 rintro ⟨b,t,line,q⟩ ⟨h1,h2,h3,h4,h5⟩
 have h1:b.items.length≤1000000:=h1
 have h2:b.syms.length≤1000000:=h2
 have h3:b.marks.length≤1000000:=h3
 have h4:q.length≤1000000:=h4
 have h5:t.text.length≤1000000000:=h5
 refine ⟨Nat.le_refl _,by simp [Tryz.f113],fun E hE=>?_⟩
 show AWP _ _ _ _ (kg _ _ _ _ (bO q (wi q b t line))) _ (bO q b)
 have hdef:wi q b t line=if yO t.text=false∨0≤vo t∨b.syms.any (fun s=>s.name==t.text)=true∨q.any (fun s=>s.name==t.text)=true then yN b 7 line else { b with syms:=b.syms++[⟨t.text,0⟩],marks:=b.marks++[(b.items.length:Int)] }:=rfl
 generalize wi q b t line=B at *
 refine ze _ ?_
 (all_goals refine qgp (Lf.mk ?_))
 refine zb zfR t.text h5 (VS.mk (LeL.of_eq rfl)) ?_
 (all_goals refine qgp ?_<;>(repeat' first | exact trivial | intro hc | refine And.intro ?_ ?_)<;>refine Lf.mk ?_)
 ·refine y6 q b 7 line [_] rfl rfl ?_
  (all_goals refine qgp (Lf.mk ?_))
  exact yg [_] rfl (by rw [hdef,if_pos (.inl (by simpa using hc))]) rfl (Nat.le_of_eq rfl) .tup0
 refine zb zbH t h5 (VS.mk (LeL.of_eq rfl)) ?_
 (all_goals refine qgp ?_<;>(repeat' first | exact trivial | intro hc | refine And.intro ?_ ?_)<;>refine Lf.mk ?_)
 ·refine y6 q b 7 line [_] rfl rfl ?_
  (all_goals refine qgp (Lf.mk ?_))
  exact yg [_] rfl (by rw [hdef,if_pos (.inr (.inl hc))]) rfl (Nat.le_of_eq rfl) .tup0
 refine zxb zaI [.loc 6 0] (fun s=>s.name==t.text) b.syms (.cells (bC q b)) (.arr 13 (b.items.map xz)) [.spare b.marks.length,.arr 1 (zS b),zeL b,.cells [.int .i64 t.kind,.int .i64 t.n,.str t.text]] (by omega) rfl rfl
  (fun s hs KP KW hK=>?_) ?_
 ·exact zu zpG [6] [6] (s,t) trivial rfl rfl ⟨VS.mk (LeL.refl _),VS.mk rfl,hK⟩
 cases hs:b.syms.any (fun s=>s.name==t.text) with
 | true=>
  (all_goals refine qgp ?_<;>(repeat' first | exact trivial | intro hc | refine And.intro ?_ ?_)<;>refine Lf.mk ?_)
  (any_goals (first | (exfalso;refine Bool.false_ne_true ?_;assumption) | (exfalso;refine Bool.false_ne_true (Eq.symm ?_);assumption) | (exfalso;refine absurd trivial ?_;assumption) | skip))
  refine y6 q b 7 line [_] rfl rfl ?_
  (all_goals refine qgp (Lf.mk ?_))
  exact yg [_] rfl (by rw [hdef,if_pos (.inr (.inr (.inl hs)))]) rfl (Nat.le_of_eq rfl) .tup0
 | false=>
  (all_goals refine qgp ?_<;>(repeat' first | exact trivial | intro hc | refine And.intro ?_ ?_)<;>refine Lf.mk ?_)
  (any_goals (first | (exfalso;refine Bool.false_ne_true ?_;assumption) | (exfalso;refine Bool.false_ne_true (Eq.symm ?_);assumption) | (exfalso;refine absurd trivial ?_;assumption) | skip))
  refine zxc zaJ [.loc 6 0] (fun s=>s.name==t.text) q (by omega) rfl (fun s hs KP KW hK=>?_) ?_
  ·exact zu zpH [6] [6] (s,t) trivial rfl rfl ⟨VS.mk (LeL.refl _),VS.mk rfl,hK⟩
  cases hq:q.any (fun s=>s.name==t.text) with
  | true=>
   (all_goals refine qgp ?_<;>(repeat' first | exact trivial | intro hc | refine And.intro ?_ ?_)<;>refine Lf.mk ?_)
   (any_goals (first | (exfalso;refine Bool.false_ne_true ?_;assumption) | (exfalso;refine Bool.false_ne_true (Eq.symm ?_);assumption) | (exfalso;refine absurd trivial ?_;assumption) | skip))
   refine y6 q b 7 line [_] rfl rfl ?_
   (all_goals refine qgp (Lf.mk ?_))
   exact yg [_] rfl (by rw [hdef,if_pos (.inr (.inr (.inr hq)))]) rfl (Nat.le_of_eq rfl) .tup0
  | false=>
   (all_goals refine qgk ?_<;>(repeat' first | exact trivial | intro hc | refine And.intro ?_ ?_)<;>refine Lf.mk ?_)
   (any_goals (first | (exfalso;refine Bool.false_ne_true ?_;assumption) | (exfalso;refine Bool.false_ne_true (Eq.symm ?_);assumption) | (exfalso;refine absurd trivial ?_;assumption) | skip))
   refine xd ((b.syms++[(⟨t.text,0⟩:zH)]).map yH) (by rw [List.map_append];rfl) ?_
   rw [List.length_map]
   (all_goals refine qgk (Lf.mk ?_))
   refine xd ((b.marks++[((b.items.length:Nat):Int)]).map (D.int .i64)) (by rw [List.map_append];rfl) ?_
   rw [List.length_map]
   (all_goals refine qgk (Lf.mk ?_))
   rw [if_neg (fun h=>?_)] at hdef
   ·rw [hdef]
    exact yg [_] rfl rfl rfl (Nat.le_of_eq rfl) .tup0
   ·rcases h with h | h | h | h
    ·simp_all
    ·omega
    ·rw [hs] at h;cases h
    ·rw [hq] at h;cases h
end Go.Proofs.YtnkdeacghopkiaaGreatDoor
namespace Go.Proofs.YtnkdeacghopkiaaGreatDoor
open Go Go.Plat
set_option linter.unusedVariables false
set_option linter.unusedSimpArgs false
set_option maxRecDepth 100000
set_option maxHeartbeats 2000000
attribute [local irreducible] AWP zG yn zK zn yA z8 zI zY Lib.itoa z6 zw za zN yB zt z7 yx yy yq yt zx zz zD xD wg vo
theorem zpI (q:List zo) (line:Int):∀ (f:Nat) (out:List AOp) (s:RB),s.fe=0→(zaC q line f out s).1.length≤out.length+s.rest.length
 | 0,out,s,_=>Nat.le_add_right _ _
 | f+1,out,s,hs=>by
  rw [zaC]
  split
  ·exact Nat.le_add_right _ _
  ·rename_i hn
   have h1:1≤s.rest.length:=by
    cases hr:s.rest with
    | nil=>exact absurd (.inl hr) hn
    | cons a l=>simp
   have h2:=(zpu q line s).1
   split
   ·simp only [List.length_append,List.length_cons,List.length_nil];omega
   ·by_cases h3:(x6 line (xe q line s).2).fe=0
    ·have h4:=zkM line _ h3
     have:=zpI q line f (out++[(xe q line s).1]) _ h3
     simp only [List.length_append,List.length_cons,List.length_nil] at this
     omega
    ·rw [zjn (.inr h3)]
     simp only [List.length_append,List.length_cons,List.length_nil];omega
theorem zpJ (q:List zo) (line:Int) (s:RB) (h:s.fe=0):(xL q line s).1.length≤s.rest.length:=by
 have:=zpI q line (s.rest.length+1) [] s h
 simpa [xL] using this
theorem zvq (s:RB):(jc s).1.length≤1:=by
 unfold jc
 repeat' split
 all_goals simp
theorem zvr (q:List zo) (line:Int) (s:RB):(xe q line s).1.sign.length≤1:=by
 have:=zvq s
 unfold xe zbG
 split
 ·dsimp only
  split
  ·simp
  ·exact this
 split
 ·exact this
 ·exact this
theorem zmC (q:List zo) (line:Int):∀ (f:Nat) (out:List AOp) (s:RB),(∀ o∈out,o.sign.length≤1)→∀ o∈(zaC q line f out s).1,o.sign.length≤1
 | 0,out,s,h=>h
 | f+1,out,s,h=>by
  have h':∀ o∈out++[(xe q line s).1],o.sign.length≤1:=by
   intro o ho
   rcases List.mem_append.1 ho with ho | ho
   ·exact h o ho
   ·rw [List.mem_singleton] at ho;subst ho;exact zvr q line s
  rw [zaC]
  split
  ·exact h
  split
  ·exact h'
  ·exact zmC q line f _ _ h'
theorem zvs (q:List zo) (line:Int) (s:RB):∀ o∈(xL q line s).1,o.sign.length≤1:=zmC q line _ [] s (by simp)
def xm (q:List zo) (line:Int):List y8→Bld→Bld×List y8
 | t::c::r,b=>if t.kind=1∧c.kind=3∧c.text=[58] then xm q line r (wi q b t line) else (b,t::c::r)
 | [t],b=>(b,[t])
 | [],b=>(b,[])
def zid (b:Bld) (w:List UInt8) (ops:List AOp) (line:Int):Bld:=
 if w=[46,98,121,116,101] then zan b 1 ops line else if w=[46,119,111,114,100] then zan b 2 ops line else if w=[46,108,111,110,103] then zan b 4 ops line
 else if w=[46,97,108,105,103,110] then kU b ops line else if w=[46,112,111,111,108] then (if 0 < ops.length then yN b 2 line else ka b line) else xH b w ops line
def zem (q:List zo) (b:Bld) (line:Int):List y8→Bld
 | []=>b
 | t::r=>if b.fe≠0 then b else if t.kind≠1 then yN b 2 line else
  if (xL q line ⟨r,b.fe,b.fa⟩).2.fe≠0 then x3 b (xL q line ⟨r,b.fe,b.fa⟩).2 else zid (x3 b (xL q line ⟨r,b.fe,b.fa⟩).2) t.text (xL q line ⟨r,b.fe,b.fa⟩).1 line
def wA (q:List zo) (b:Bld) (x:xr):Bld:=zem q (xm q x.pos x.toks b).1 x.pos (xm q x.pos x.toks b).2
structure yl (b:Bld) (k:Nat):Prop where
 items:b.items.length+k≤1000000
 syms:b.syms.length+k≤1000000
 marks:b.marks.length+k≤1000000
 shut:b.shut.length+k≤1000000
 curl:b.cur.length+k≤1000000
 cur:b.has=false→b.cur=[]
theorem yl.less {b:Bld} {k j:Nat} (h:yl b k) (hj:j≤k):yl b j:=⟨by have:=h.items;omega,by have:=h.syms;omega,by have:=h.marks;omega,by have:=h.shut;omega,by have:=h.curl;omega,h.cur⟩
theorem yl.inB {b:Bld} {k:Nat} (h:yl b k):InB b:=⟨h.cur,by have:=h.items;omega,by have:=h.shut;omega,by have:=h.curl;omega⟩
theorem yl.fail {b:Bld} {k:Nat} (h:yl b k) (e line:Int):yl (yN b e line) k:=by
 unfold yN
 split
 ·exact ⟨h.items,h.syms,h.marks,h.shut,h.curl,h.cur⟩
 ·exact h
theorem yl.put {b:Bld} {k:Nat} (h:yl b (k+1)) (x:zO):yl (xN b x) k:=
 ⟨by have:=h.items;simp only [xN,List.length_append,List.length_cons,List.length_nil];omega,by have:=h.syms;simp only [xN];omega,by have:=h.marks;simp only [xN];omega,by have:=h.shut;simp only [xN];omega,by have:=h.curl;simp only [xN];omega,h.cur⟩
theorem yl.label {q:List zo} {b:Bld} {k:Nat} (h:yl b (k+1)) (t:y8) (line:Int):yl (wi q b t line) k:=by
 unfold wi
 split
 ·exact (h.less (Nat.le_succ k)).fail _ _
 ·exact ⟨by have:=h.items;dsimp only;omega,by have:=h.syms;simp only [List.length_append,List.length_cons,List.length_nil];omega,by have:=h.marks;simp only [List.length_append,List.length_cons,List.length_nil];omega,by have:=h.shut;dsimp only;omega,by have:=h.curl;dsimp only;omega,h.cur⟩
theorem yl.set {b:Bld} {k:Nat} (h:yl b k) (s:RB):yl (x3 b s) k:=⟨h.items,h.syms,h.marks,h.shut,h.curl,h.cur⟩
theorem yl.dat {b:Bld} {k:Nat} (h:yl b (k+1)) (size line:Int) (o:AOp):yl (vE size line b o) k:=by
 unfold vE
 repeat' split
 ·exact (h.fail _ _).put _
 ·exact (h.fail _ _).put _
 ·exact (h.fail _ _).put _
 ·exact h.put _
theorem yl.datas {size line:Int}:∀ (l:List AOp) {b:Bld} {k:Nat},yl b (k+l.length)→yl (l.foldl (vE size line) b) k
 | [],b,k,h=>h
 | o::l,b,k,h=>yl.datas l (yl.dat (by rw [Nat.add_assoc];exact h) size line o)
theorem yl.data {b:Bld} {k:Nat} {l:List AOp} (h:yl b (k+l.length)) (size line:Int):yl (zan b size l line) k:=by
 unfold zan
 refine yl.datas l ?_
 split
 ·exact h.fail _ _
 ·exact h
theorem yl.align {b:Bld} {k:Nat} {l:List AOp} (h:yl b (k+1)) (line:Int):yl (kU b l line) k:=by
 unfold kU
 repeat' split
 ·exact (h.less (Nat.le_succ k)).fail _ _
 ·exact (h.less (Nat.le_succ k)).fail _ _
 ·exact h.put _
theorem yl.pool {b:Bld} {k:Nat} (h:yl b (k+1)) (line:Int):yl (ka b line) k:=by
 unfold ka
 split
 ·have:=h.put ⟨9,0,line,noI,false,0,noV,b.shut.length,0⟩
  exact ⟨this.items,this.syms,this.marks,by have:=h.shut;simp only [List.length_append,List.length_cons,List.length_nil];omega,by have:=h.curl;simp only [List.length_nil];omega,fun _=>rfl⟩
 ·exact h.less (Nat.le_succ k)
theorem zvt (v:zB) (l:List zB):(vW v l).length≤l.length+1:=by
 unfold vW
 split
 ·simp
 ·omega
theorem yl.lit {b:Bld} {k:Nat} (h:yl b (k+1)) (v:zB) (reg line:Int):yl (jy b v reg line) k:=by
 have hw:=zvt v b.cur
 refine ⟨by have:=h.items;simp only [jy,xN,List.length_append,List.length_cons,List.length_nil];omega,by have:=h.syms;simp only [jy,xN];omega,by have:=h.marks;simp only [jy,xN];omega,by have:=h.shut;simp only [jy,xN];omega,?_,fun h=>by simp only [jy,xN] at h;cases h⟩
 have:=h.curl
 simp only [jy,xN];omega
theorem yl.instr {b:Bld} {k:Nat} (h:yl b (k+1)) (name:List UInt8) (l:List AOp) (line:Int):yl (xH b name l line) k:=by
 unfold xH
 split
 ·exact h.lit _ _ _
 repeat' split
 ·exact (h.less (Nat.le_succ k)).fail _ _
 ·exact (h.less (Nat.le_succ k)).fail _ _
 ·exact h.put _
 ·exact (h.less (Nat.le_succ k)).fail _ _
theorem yl.word {b:Bld} {k:Nat} {l:List AOp} (h:yl b (k+1+l.length)) (w:List UInt8) (line:Int):yl (zid b w l line) k:=by
 have h1:yl b (k+1):=h.less (by omega)
 have h2:yl b (k+l.length):=h.less (by omega)
 unfold zid
 repeat' split
 ·exact h2.data _ _
 ·exact h2.data _ _
 ·exact h2.data _ _
 ·exact h1.align _
 ·exact (h1.less (Nat.le_succ k)).fail _ _
 ·exact h1.pool _
 ·exact h1.instr _ _ _
theorem zhq {q:List zo} {line:Int}:∀ (l:List y8) {b:Bld} {k:Nat},yl b (k+l.length)→yl (xm q line l b).1 (k+(xm q line l b).2.length)∧(xm q line l b).2.length≤l.length ∧
  wt ((xm q line l b).2.map tk)≤wt (l.map tk)∧(∀ t∈(xm q line l b).2,t∈l)∧(xm q line l b).1.has=b.has
 | [],b,k,h=>by rw [xm];exact ⟨h,Nat.le_refl _,Nat.le_refl _,fun _ h=>h,rfl⟩
 | [t],b,k,h=>by rw [xm];exact ⟨h,Nat.le_refl _,Nat.le_refl _,fun _ h=>h,rfl⟩
 | t::c::r,b,k,h=>by
  rw [xm]
  split
  ·have hl:yl (wi q b t line) (k+r.length):=(h.less (by simp only [List.length_cons];omega):yl b (k+r.length+1)).label t line
   obtain ⟨h1,h2,h3,h4,h5⟩:=zhq r hl
   refine ⟨h1,by simp only [List.length_cons];omega,by simp only [List.map_cons,wt];omega,fun x hx=>List.mem_cons_of_mem _ (List.mem_cons_of_mem _ (h4 x hx)),h5.trans ?_⟩
   unfold wi
   split
   ·exact jA _ _ _
   ·rfl
  ·exact ⟨h,Nat.le_refl _,Nat.le_refl _,fun _ h=>h,rfl⟩
theorem yl.rest {q:List zo} {b:Bld} {k:Nat} {l:List y8} (h:yl b (k+l.length)) (line:Int):yl (zem q b line l) k:=by
 cases l with
 | nil=>exact h
 | cons t r=>
  have h0:yl b k:=h.less (by omega)
  rw [zem]
  split
  ·exact h0
  rename_i hf
  have hf:b.fe=0:=Classical.not_not.1 hf
  split
  ·exact h0.fail _ _
  split
  ·exact h0.set _
  ·have hl:=zpJ q line ⟨r,b.fe,b.fa⟩ hf
   have hl:(xL q line ⟨r,b.fe,b.fa⟩).1.length≤r.length:=hl
   exact yl.word ((h.less (by simp only [List.length_cons];omega)).set _) _ _
theorem yl.line {q:List zo} {b:Bld} {k:Nat} (x:xr) (h:yl b (k+x.toks.length)):yl (wA q b x) k:=(zhq x.toks h).1.rest x.pos
attribute [local irreducible] zi.kids zi.kind zi.n zi.name xL xy vV wY wi yO yM xe vX zV vW xf
def znN (x:xr):Ob:=.cells [.int .i64 x.pos,.sl 3 (x.toks.map vw) none]
theorem ztB {av:List D} {L:List Ob} {KP:D→Prop} {KW:D→List Ob→Prop} (q:List zo) (b:Bld) (t:y8) (line:Int) (X:List Ob) {k:Nat} (hr:yl b k) (hq:q.length≤1000000) (ht:t.text.length≤1000000000) (hL:L=bO q b++X) (has:av=[.loc 0 0,vw t,.int .i64 line])
  (hK:KW (.tup []) (bO q (wi q b t line)++X)):zn Tryz.prog zbo av L KP KW:=by
 subst has
 have hr:=hr.less (Nat.zero_le k)
 exact xF zrk X (b,t,line,q) ⟨hr.items,hr.syms,hr.marks,hq,ht⟩ hL (LeL.refl _) rfl (.cons (.loc (Nat.lt_of_lt_of_le (by decide:0 < 6) (Nat.le_of_eq rfl))) (.cons (.agg (.cons .int (.cons .int (.cons .str .nil)))) (.cons .int .nil))) .tup0 (xt _ _) (xt _ _) hK
theorem zap (q:List zo) (b:Bld) (i:Nat) (o:Ob) (h:(bO q b)[i]?=some o):ClO 6 o:=xt _ _ _ (List.mem_of_getElem? h)
theorem zvu (s:RB) (line:Int):ClO 6 (arC s line):=.cells (.cons (.loc (by decide)) (.cons .sl (.cons .int .nil)))
theorem zxg {av:List D} {L:List Ob} {KP:D→Prop} {KW:D→List Ob→Prop} (q:List zo) (b:Bld) (s:RB) (line:Int) (Y:Ob) (hl:jP s q) (ht:∀ t∈s.rest,t.text.length≤1000000000) (hL:L=bO q (x3 b s)++[Y,arC s line]) (has:av=[.loc 7 0])
  (hK:KW (.sl 4 ((xL q line s).1.map q7) none) (bO q (x3 b (xL q line s).2)++[Y,arC (xL q line s).2 line])):zn Tryz.prog zdF av L KP KW:=by
 subst has
 subst hL
 have key:∀ k,k < 6→zM [0,1,2,3,4,5,7] 0 k=some k:=by decide
 have key':∀ k,k < 6→qd [0,1,2,3,4,5,7] k=some k:=by decide
 refine zwA (L':=bO q (x3 b (xL q line s).2)++[Y,arC (xL q line s).2 line]) (d:=.sl 4 ((xL q line s).1.map q7) none) (as1:=[.loc 6 0]) (L1:=vF q b s line) (L1':=vF q b (xL q line s).2 line) (d1:=.sl 4 ((xL q line s).1.map q7) none) zvj [0,1,2,3,4,5,7] rfl ⟨rfl,fun i d d' h1 h2=>?_⟩ ?_ ⟨(b,s,q,line),⟨hl,ht⟩,LeL.refl _,rfl,rfl,rfl⟩ (ClD.sl (n:=0) _ fun k hk=>absurd hk (Nat.not_lt_zero k)) rfl rfl (fun k hk hn=>?_) (fun i k hi=>?_) hK
 ·cases i with
  | zero=>
   cases h1
   cases h2
   obtain ⟨d',h3,rfl⟩:=w8 (show zbv (zM [0,1,2,3,4,5,7] 0) (.loc 7 0) (fun d'=>d'= .loc 6 0) from rfl)
   exact h3
  | succ i=>simp at h1
 ·exact .cons (o:=.cells (bC q (x3 b s))) rfl (zap q (x3 b s) 0 _ rfl _ key) (.cons (o:=.arr 13 (b.items.map xz)) rfl (zap q (x3 b s) 1 _ rfl _ key) (.cons (o:=.arr 2 (b.syms.map yH)) rfl (zap q (x3 b s) 2 _ rfl _ key)
   (.cons (o:=.spare b.marks.length) rfl (zap q (x3 b s) 3 _ rfl _ key) (.cons (o:=.arr 1 (zS (x3 b s))) rfl (zap q (x3 b s) 4 _ rfl _ key) (.cons (o:=zeL (x3 b s)) rfl (zap q (x3 b s) 5 _ rfl _ key) (.cons (o:=arC s line) rfl (zvu s line _ key) .nil))))))
 ·match k,hk,hn with
  | 0,_,hn=>exact absurd (by decide) hn
  | 1,_,hn=>exact absurd (by decide) hn
  | 2,_,hn=>exact absurd (by decide) hn
  | 3,_,hn=>exact absurd (by decide) hn
  | 4,_,hn=>exact absurd (by decide) hn
  | 5,_,hn=>exact absurd (by decide) hn
  | 6,_,_=>rfl
  | 7,_,hn=>exact absurd (by decide) hn
  | k+8,hk,_=>exact absurd hk (by simp [bO,bT])
 ·match i,hi with
  | 0,hi=>cases hi;exact ⟨.cells (bC q (x3 b (xL q line s).2)),_,rfl,rfl,zap q (x3 b (xL q line s).2) 0 _ rfl _ key'⟩
  | 1,hi=>cases hi;exact ⟨.arr 13 (b.items.map xz),_,rfl,rfl,zap q (x3 b (xL q line s).2) 1 _ rfl _ key'⟩
  | 2,hi=>cases hi;exact ⟨.arr 2 (b.syms.map yH),_,rfl,rfl,zap q (x3 b (xL q line s).2) 2 _ rfl _ key'⟩
  | 3,hi=>cases hi;exact ⟨.spare b.marks.length,_,rfl,rfl,zap q (x3 b (xL q line s).2) 3 _ rfl _ key'⟩
  | 4,hi=>cases hi;exact ⟨.arr 1 (zS (x3 b (xL q line s).2)),_,rfl,rfl,zap q (x3 b (xL q line s).2) 4 _ rfl _ key'⟩
  | 5,hi=>cases hi;exact ⟨zeL (x3 b (xL q line s).2),_,rfl,rfl,zap q (x3 b (xL q line s).2) 5 _ rfl _ key'⟩
  | 6,hi=>cases hi;exact ⟨arC (xL q line s).2 line,_,rfl,rfl,zvu _ _ _ key'⟩
  | i+7,hi=>simp at hi
theorem zie {q:List zo} {b b':Bld} (h:b'.has=true→b.has=true):qj q b b'=bO q b':=by
 unfold qj
 rw [if_neg fun e=>by have:=h e.2;rw [e.1] at this;cases this]
def bOn (k:Nat) (q:List zo) (b:Bld):List Ob:=
 [.cells (bCk q b),.arr 13 (b.items.map xz),.arr 2 (b.syms.map yH),.spare b.marks.length,.arr 1 (b.shut.map xl++[.sl 2 (b.cur.map yP) (some k)]),.dead]
theorem zAk (q:List zo) (b:Bld):ClL 5 (bCk q b):=
 .cons .sl (.cons (.osl (by decide)) (.cons (.osl (by decide)) (.cons (.tok (by decide)) (.cons (.osl (by decide)) (.cons .int (.cons .nilsl (.cons .nilsl (.cons .nilsl (.cons .int (.cons .int .nil))))))))))
theorem zif {m:Nat→Option Nat} {k k':Nat} (q:List zo) (b:Bld) (hm:∀ j,j < 5→m j=some j) (hk:m k=some k'):∀ (i:Nat) x y,(bOn k q b)[i]?=some x→(bOn k' q b)[i]?=some y→yu m x y:=by
 intro i x y h1 h2
 match i,h1,h2 with
 | 0,h1,h2=>cases h1;cases h2;exact ClO.cells (zAk q b) _ hm
 | 1,h1,h2=>cases h1;cases h2;exact ClO.arr (n:=5) (jz _) _ hm
 | 2,h1,h2=>cases h1;cases h2;exact ClO.arr (n:=5) (zaM _) _ hm
 | 3,h1,h2=>cases h1;cases h2;rfl
 | 4,h1,h2=>cases h1;cases h2;exact zel hk _ _
 | 5,h1,h2=>cases h1;cases h2;rfl
 | i+6,h1,h2=>simp [bOn] at h1
theorem ztC {av:List D} {L:List Ob} {KP:D→Prop} {KW:D→List Ob→Prop} (q:List zo) (b:Bld) (name:List UInt8) (l:List AOp) (line:Int) (X:List Ob) (hb:InB b) (hl:l.length≤1000000) (hs:∀ o∈l,o.sign.length≤1)
  (hL:L=bO q b++X) (has:av=[.loc 0 0,.str name,.sl 4 (l.map q7) none,.int .i64 line])
  (hK1:((xH b name l line).has=true→b.has=true)→KW (.tup []) (bO q (xH b name l line)++X))
  (hK2:b.has=false→(xH b name l line).has=true→KW (.tup []) (bOn L.length q (xH b name l line)++X++[.spare (xH b name l line).cur.length])):zn Tryz.prog zbq av L KP KW:=by
 subst has
 have hcl:ClL (bO q b).length [.loc 0 0,.str name,.sl 4 (l.map q7) none,.int .i64 line]:=.cons (.loc (Nat.lt_of_lt_of_le (by decide:0 < 6) (Nat.le_of_eq rfl))) (.cons .str (.cons .sl (.cons .int .nil)))
 by_cases h:b.has=false∧(xH b name l line).has=true
 ·refine zms ziH (bO q b) X (bOn 6 q (xH b name l line)) (bOn L.length q (xH b name l line)) (.spare (xH b name l line).cur.length) (d:=.tup []) hL ⟨(b,name,l,line,q),⟨hb,hl,hs⟩,LeL.refl _,rfl,rfl,(zf9 h.1 h.2).symm⟩ rfl rfl hcl .tup0 (xt _ _)
   (fun m hm hk=>zif q _ (fun j hj=>hm j (Nat.lt_of_lt_of_le hj (by decide:5≤6))) hk) .spare (hK2 h.1 h.2)
 ·have hn:(xH b name l line).has=true→b.has=true:=fun e=>by
   cases hb:b.has with
   | true=>rfl
   | false=>exact absurd ⟨hb,e⟩ h
  refine zjd ziH (bO q b) X (bO q (xH b name l line)) (d:=.tup []) hL ⟨(b,name,l,line,q),⟨hb,hl,hs⟩,LeL.refl _,rfl,rfl,(zie hn).symm⟩ rfl hcl .tup0 (xt _ _) (xt _ _) (hK1 hn)
theorem zhr {av:List D} {L:List Ob} {KP:D→Prop} {KW:D→List Ob→Prop} (q:List zo) (b:Bld) (size:Int) (l:List AOp) (line:Int) (X:List Ob) (hl:b.items.length+l.length≤1000000) (hs:size=1∨size=2∨size=4)
  (hL:L=bO q b++X) (has:av=[.loc 0 0,.int .i64 size,.sl 4 (l.map q7) none,.int .i64 line]) (hK:KW (.tup []) (bO q (zan b size l line)++X)):zn Tryz.prog zcl av L KP KW:=by
 subst has
 exact xF zri X (b,size,l,line,q) ⟨hl,hs⟩ hL (LeL.refl _) rfl (.cons (.loc (Nat.lt_of_lt_of_le (by decide:0 < 6) (Nat.le_of_eq rfl))) (.cons .int (.cons .sl (.cons .int .nil)))) .tup0 (xt _ _) (xt _ _) hK
theorem ztD {av:List D} {L:List Ob} {KP:D→Prop} {KW:D→List Ob→Prop} (q:List zo) (b:Bld) (l:List AOp) (line:Int) (X:List Ob) (hl:b.items.length≤1000000) (hs:l.length≤1000000000)
  (hL:L=bO q b++X) (has:av=[.loc 0 0,.sl 4 (l.map q7) none,.int .i64 line]) (hK:KW (.tup []) (bO q (kU b l line)++X)):zn Tryz.prog zbp av L KP KW:=by
 subst has
 exact xF zpw X (b,l,line,q) ⟨hl,hs⟩ hL (LeL.refl _) rfl (.cons (.loc (Nat.lt_of_lt_of_le (by decide:0 < 6) (Nat.le_of_eq rfl))) (.cons .sl (.cons .int .nil))) .tup0 (xt _ _) (xt _ _) hK
theorem zmD {av:List D} {L:List Ob} {KP:D→Prop} {KW:D→List Ob→Prop} (q:List zo) (b:Bld) (line:Int) (X:List Ob) (hl:b.items.length≤1000000) (hs:b.shut.length≤1000000)
  (hL:L=bO q b++X) (has:av=[.loc 0 0,.int .i64 line]) (hK:KW (.tup []) (bO q (ka b line)++X)):zn Tryz.prog zck av L KP KW:=by
 subst has
 exact xF zrj X (b,line,q) ⟨hl,hs⟩ hL (LeL.refl _) rfl (.cons (.loc (Nat.lt_of_lt_of_le (by decide:0 < 6) (Nat.le_of_eq rfl))) (.cons .int .nil)) .tup0 (xt _ _) (xt _ _) hK
theorem zpK {size line:Int}:∀ (l:List AOp) (b:Bld),(l.foldl (vE size line) b).has=b.has
 | [],b=>rfl
 | o::l,b=>by
  rw [List.foldl_cons,zpK l]
  unfold vE
  repeat' split
  all_goals first | exact jA _ _ _ | rfl
theorem zhs (b:Bld) (size:Int) (l:List AOp) (line:Int):(zan b size l line).has=b.has:=by
 unfold zan
 rw [zpK]
 split
 ·exact jA _ _ _
 ·rfl
theorem ztE (b:Bld) (l:List AOp) (line:Int):(kU b l line).has=b.has:=by
 unfold kU
 repeat' split
 all_goals first | exact jA _ _ _ | rfl
theorem zvv (b:Bld) (line:Int):(ka b line).has=true→b.has=true:=by
 unfold ka
 split
 ·intro _;assumption
 ·exact id
theorem zkN:za Tryz.prog zcj (zQ (fun ((b,x,q):Bld×xr×List zo)=>yl b (1+x.toks.length)∧wt (x.toks.map tk)≤1048576∧q.length≤1000000) (fun (_,x,_)=>[.loc 0 0,ww x])
  (fun (b,_,q)=>bO q b) (fun _=>.tup []) fun (b,x,q)=>qj q b (wA q b x)):=by
 refine zf zh Tryz.func87 rfl (by decide) ?_
 rintro ⟨b,x,q⟩ ⟨hr,hw,hq⟩
 have hr:yl b (1+x.toks.length):=hr
 have hw:wt (x.toks.map tk)≤1048576:=hw
 have hq:q.length≤1000000:=hq
 have htx:∀ t∈x.toks,t.text.length≤1000000000:=fun t ht=>by
  have:∀ l:List y8,t∈l→t.text.length≤wt (l.map tk):=by
   intro l
   induction l with
   | nil=>intro h;cases h
   | cons a l ih=>
    intro h
    rw [List.map_cons,wt]
    rcases List.mem_cons.1 h with rfl | h
    ·show t.text.length≤1+t.text.length+_;omega
    ·have:=ih h;omega
  have:=this _ ht
  omega
 refine ⟨zpz _ _ _,by simp [Tryz.f87],fun E hE=>?_⟩
 have hE6:E.L.length=6:=by rw [hE];rfl
 have hlen:x.toks.length≤1048576:=by have:=zkL (x.toks.map tk);rw [List.length_map] at this;omega
 refine xW (ze _ ?_)
 (all_goals refine qgp (Lf.mk ?_))
 refine xW (ze _ ?_)
 (all_goals refine qgp (Lf.mk ?_))
 refine zbA (α:=Unit) (fun _=>True) (fun _=>[(0,.loc 0 0),(3,.loc 6 0),(4,.sl 3 ((xm q x.pos x.toks b).2.map vw) none)]) (fun _=>bO q (xm q x.pos x.toks b).1++[znN x]) ?_ ?_
 ·refine ze _ ?_
  (all_goals refine qgp (Lf.mk ?_))
  have hout:∀ (l:List y8) (b1:Bld),xm q x.pos l b1=xm q x.pos x.toks b→xm q x.pos l b1=(b1,l)→(xm q x.pos x.toks b).1=b1∧(xm q x.pos x.toks b).2=l:=fun l b1 h h'=>by rw [← h,h'];exact ⟨rfl,rfl⟩
  refine yp (α:=List y8×Bld) (fun p=>xm q x.pos p.1 p.2=xm q x.pos x.toks b∧yl p.2 (1+p.1.length)∧(∀ t∈p.1,t∈x.toks)∧p.1.length≤1048576) (fun p=>[(0,.loc 0 0),(3,.loc 6 0),(4,.sl 3 (p.1.map vw) none)])
   (fun p=>bO q p.2++[znN x]) (fun p=>p.1.length) (fun _=>by rw [hE6];exact Nat.le_succ 6) (x.toks,b) ⟨rfl,hr,fun _ h=>h,hlen⟩ ?_ ?_
  ·exact yf rfl ⟨rfl,rfl,rfl,trivial⟩
  rintro ⟨l,b1⟩ ⟨i1,i2,i3,i4⟩
  dsimp only at i1 i2 i3 i4 ⊢
  match l,i1,i2,i3,i4 with
  | [],i1,i2,i3,i4=>
   refine ze _ ?_
   (all_goals refine qgp ?_<;>(repeat' first | exact trivial | intro hc | refine And.intro ?_ ?_)<;>refine Lf.mk ?_)
   obtain ⟨h1,h2⟩:=hout [] b1 i1 (by rw [xm])
   exact ⟨(),trivial,yf (by rw [h1]) ⟨rfl,rfl,by rw [h2];rfl,trivial⟩⟩
  | [t],i1,i2,i3,i4=>
   refine ze _ ?_
   (all_goals refine qgp ?_<;>(repeat' first | exact trivial | intro hc | refine And.intro ?_ ?_)<;>refine Lf.mk ?_)
   obtain ⟨h1,h2⟩:=hout [t] b1 i1 (by rw [xm])
   exact ⟨(),trivial,yf (by rw [h1]) ⟨rfl,rfl,by rw [h2];rfl,trivial⟩⟩
  | t::c::r,i1,i2,i3,i4=>
   have i4:r.length+1+1≤1048576:=i4
   refine ze _ ?_
   (all_goals refine qgp ?_<;>(repeat' first | exact trivial | intro hc | refine And.intro ?_ ?_)<;>refine Lf.mk ?_)
   ·rw [xm,if_pos ⟨by assumption,by assumption,by assumption⟩] at i1
    refine ztB q b1 t x.pos [znN x] i2 hq (htx t (i3 t List.mem_cons_self)) rfl rfl ?_
    (all_goals refine qgp (Lf.mk ?_))
    exact yj (r,wi q b1 t x.pos) ⟨i1,yl.label (i2.less (by simp only [List.length_cons];omega)) t x.pos,fun y hy=>i3 y (List.mem_cons_of_mem _ (List.mem_cons_of_mem _ hy)),show r.length≤1048576 by omega⟩ (by simp only [List.length_cons];omega) rfl ⟨rfl,rfl,rfl,trivial⟩
   all_goals
    obtain ⟨h1,h2⟩:=hout (t::c::r) b1 i1 (by rw [xm,if_neg];rintro ⟨e1,e2,e3⟩;first | exact absurd e1 hc | exact absurd e2 hc | exact absurd e3 hc)
    exact ⟨(),trivial,yf (by rw [h1]) ⟨rfl,rfl,by rw [h2];rfl,trivial⟩⟩
 ·rintro _ _
  obtain ⟨g1,g2,g3,g4,g5⟩:=zhq x.toks hr
  have hB:wA q b x=zem q (xm q x.pos x.toks b).1 x.pos (xm q x.pos x.toks b).2:=rfl
  show AWP _ _ _ _ (kg _ _ _ _ (qj q b (wA q b x))) _ _
  have hO:qj q b (wA q b x)=qj q (xm q x.pos x.toks b).1 (wA q b x):=by unfold qj;rw [g5]
  rw [hO,hB]
  generalize (xm q x.pos x.toks b).1=b1 at *
  generalize (xm q x.pos x.toks b).2=l at *
  clear hO hB
  cases l with
  | nil=>
   refine ze _ ?_
   (all_goals refine qgp ?_<;>(repeat' first | exact trivial | intro hc | refine And.intro ?_ ?_)<;>refine Lf.mk ?_)
   rw [zem,qa rfl]
   exact yg [_] rfl rfl rfl (Nat.le_of_eq rfl) .tup0
  | cons t r=>
   have g2:r.length+1≤x.toks.length:=g2
   rw [zem]
   refine ze _ ?_
   (all_goals refine qgp ?_<;>(repeat' first | exact trivial | intro hc | refine And.intro ?_ ?_)<;>refine Lf.mk ?_)
   ·rw [if_pos hc,qa rfl]
    exact yg [_] rfl rfl rfl (Nat.le_of_eq rfl) .tup0
   ·rw [if_neg (fun h=>h (by assumption)),if_pos hc,qa (jA _ _ _)]
    refine y6 q b1 2 x.pos [_] rfl rfl ?_
    (all_goals refine qgp (Lf.mk ?_))
    exact yg [_] rfl rfl rfl (Nat.le_of_eq rfl) .tup0
   ·have hfe:b1.fe=0:=by assumption
    rw [if_neg (fun h=>h hfe),if_neg (fun h=>h hc)]
    have hAl:=zpJ q x.pos ⟨r,b1.fe,b1.fa⟩ hfe
    have hAs:=zvs q x.pos ⟨r,b1.fe,b1.fa⟩
    rw [List.map_cons,wt] at g3
    refine zxg q b1 ⟨r,b1.fe,b1.fa⟩ x.pos (znN x) ⟨by show wt (r.map tk)≤_;omega,by omega⟩ (fun y hy=>htx y (g4 y (List.mem_cons_of_mem _ hy))) rfl rfl ?_
    generalize xL q x.pos ⟨r,b1.fe,b1.fa⟩=A at *
    obtain ⟨ops,s2⟩:=A
    dsimp only at hAl hAs ⊢
    have hroom:yl (x3 b1 s2) (1+ops.length):=(g1.less (by simp only [List.length_cons];omega)).set s2
    have hops:ops.length≤1000000:=by have:=hroom.items;omega
    have hb2:(x3 b1 s2).has=b1.has:=rfl
    rw [show s2.fe=(x3 b1 s2).fe from rfl,show ∀ b',qj q b1 b'=qj q (x3 b1 s2) b' from fun b'=>rfl]
    generalize x3 b1 s2=b2 at *
    have hin:=hroom.inB
    have hri:=hroom.items
    have hrs:=hroom.shut
    (all_goals refine qgp ?_<;>(repeat' first | exact trivial | intro hc | refine And.intro ?_ ?_)<;>refine Lf.mk ?_)
    ·rw [if_pos hc,qa rfl]
     exact yg [_,_] rfl rfl rfl (Nat.le_of_eq rfl) .tup0
    all_goals rw [if_neg (fun h=>h (by assumption))]
    all_goals unfold zid
    all_goals (repeat (first | (rw [if_pos (by assumption)]) | (rw [if_neg (by assumption)])))
    ·rw [qa (zhs _ _ _ _)]
     refine zhr q b2 1 ops x.pos [_,_] (by omega) (by decide) rfl rfl ?_
     (all_goals refine qgp (Lf.mk ?_))
     exact yg [_,_] rfl rfl rfl (Nat.le_of_eq rfl) .tup0
    ·rw [qa (zhs _ _ _ _)]
     refine zhr q b2 2 ops x.pos [_,_] (by omega) (by decide) rfl rfl ?_
     (all_goals refine qgp (Lf.mk ?_))
     exact yg [_,_] rfl rfl rfl (Nat.le_of_eq rfl) .tup0
    ·rw [qa (zhs _ _ _ _)]
     refine zhr q b2 4 ops x.pos [_,_] (by omega) (by decide) rfl rfl ?_
     (all_goals refine qgp (Lf.mk ?_))
     exact yg [_,_] rfl rfl rfl (Nat.le_of_eq rfl) .tup0
    ·rw [qa (ztE _ _ _)]
     refine ztD q b2 ops x.pos [_,_] (by omega) (by omega) rfl rfl ?_
     (all_goals refine qgp (Lf.mk ?_))
     exact yg [_,_] rfl rfl rfl (Nat.le_of_eq rfl) .tup0
    ·rw [if_pos (show 0 < ops.length by omega),qa (jA _ _ _)]
     refine y6 q b2 2 x.pos [_,_] rfl rfl ?_
     (all_goals refine qgp (Lf.mk ?_))
     exact yg [_,_] rfl rfl rfl (Nat.le_of_eq rfl) .tup0
    ·rw [if_neg (show ¬ 0 < ops.length by omega),zie (zvv _ _)]
     refine zmD q b2 x.pos [_,_] (by omega) (by omega) rfl rfl ?_
     (all_goals refine qgp (Lf.mk ?_))
     exact yg [_,_] rfl rfl rfl (Nat.le_of_eq rfl) .tup0
    ·refine ztC q b2 t.text ops x.pos [_,_] hin hops hAs rfl rfl (fun hn=>?_) (fun hn hn'=>?_)
     ·rw [zie hn]
      (all_goals refine qgp (Lf.mk ?_))
      exact yg [_,_] rfl rfl rfl (Nat.le_of_eq rfl) .tup0
     ·rw [zf9 hn hn']
      (all_goals refine qgp (Lf.mk ?_))
      have key:∀ k,k < 5→zM [0,1,2,3,4,5,8] 0 k=some k:=by decide
      generalize xH b2 t.text ops x.pos=b3 at *
      refine zg7 [0,1,2,3,4,5,8] rfl rfl ?_ (ClD.tup0 (n:=5) _ key)
      have hr:=zif (m:=zM [0,1,2,3,4,5,8] 0) (k:=8) (k':=6) q b3 key rfl
      exact .cons (o:=.cells (bCk q b3)) rfl (hr 0 _ _ rfl rfl) (.cons (o:=.arr 13 (b3.items.map xz)) rfl (hr 1 _ _ rfl rfl) (.cons (o:=.arr 2 (b3.syms.map yH)) rfl (hr 2 _ _ rfl rfl) (.cons (o:=.spare b3.marks.length) rfl (hr 3 _ _ rfl rfl)
       (.cons (o:=.arr 1 (b3.shut.map xl++[.sl 2 (b3.cur.map yP) (some 8)])) rfl (hr 4 _ _ rfl rfl) (.cons (o:=.dead) rfl rfl (.cons (o:=.spare b3.cur.length) rfl rfl .nil))))))
theorem zaf {n k:Int} (h:0 < k):upA n k≤n+k - 1∧n≤upA n k:=by
 unfold upA
 have h1:=Int.ediv_mul_le (n+k - 1) (b:=k) (by omega)
 have h2:=Int.lt_ediv_add_one_mul_self (n+k - 1) h
 rw [Int.add_mul,Int.one_mul] at h2
 omega
theorem zdR:za Tryz.prog zwI (zy (fun ((n,k):Int×Int)=>0≤n∧n≤1000000000000000∧0 < k∧k≤1000000) (fun (n,k)=>[.int .i64 n,.int .i64 k]) fun (n,k)=>.int .i64 (upA n k)):=by
 refine zf zh Tryz.func125 rfl (by decide) ?_
 rintro ⟨n,k⟩ ⟨h1,h2,h3,h4⟩
 have h1:0≤n:=h1
 have h2:n≤1000000000000000:=h2
 have h3:0 < k:=h3
 have h4:k≤1000000:=h4
 have hu:=zaf (n:=n) h3
 refine ⟨Nat.le_refl _,by simp [Tryz.f125],fun E hE=>?_⟩
 refine ze _ ?_
 (all_goals refine qgp (Lf.mk ?_))
 refine kh (show -9223372036854775808≤upA n k by omega) (show upA n k≤9223372036854775807 by omega) ?_
 (all_goals refine qgp (Lf.mk ?_))
 exact zd (VS.mk (LeD.refl _))
def w7 (pools:List (List zB)) (x:zO):Prop:=(x.kind=8→0 < x.size∧x.size≤16)∧(x.kind=7→0 < x.size∧x.size≤4)∧(x.kind=9→0≤x.pool∧x.pool < pools.length)∧∀ p∈pools,p.length≤1000000
theorem ztF:za Tryz.prog zcr (zQ (fun ((b,k,x,a,_):Bld×Nat×zO×Int×List zo)=>b.has=false∧b.items[k]?=some x∧w7 b.shut x∧0≤a∧a≤100000000000000) (fun (b,k,_,a,_)=>[.loc 0 0,.aloc 1 b.items.length k 0,.int .i64 a])
  (fun (b,_,_,_,q)=>bO q b) (fun (b,_,x,a,_)=>.int .i64 (xM b.shut x a)) fun (b,_,_,_,q)=>bO q b):=by
 refine zf zh Tryz.func159 rfl (by decide) ?_
 rintro ⟨⟨items,syms,marks,shut,has,cur,fe,fa⟩,k,x,a,q⟩ ⟨hh,hx,⟨hs1,hs2,hs3,hs4⟩,ha0,ha1⟩
 have hh:has=false:=hh
 subst hh
 have hx:items[k]?=some x:=hx
 have hs3:x.kind=9→0≤x.pool∧x.pool < shut.length:=hs3
 have hs4:∀ p∈shut,p.length≤1000000:=hs4
 have ha0:0≤a:=ha0
 have ha1:a≤100000000000000:=ha1
 refine ⟨Nat.le_refl _,by simp [Tryz.f159],fun E hE=>?_⟩
 refine ze _ ?_
 (all_goals refine qgp (Lf.mk ?_))
 have hxn:items[((k:Nat):Int).toNat]?=some x:=by rw [Int.toNat_natCast];exact hx
 have hz:xM shut x a=if x.kind=2∧x.long=true then 6 else if x.kind=7 then x.size else if x.kind=8 then upA a x.size - a else if x.kind=9 then upA a 4 - a+4 * ze8 shut x.pool else 2:=rfl
 have hu4:=zaf (n:=a) (k:=4) (by decide)
 show zY (items.map xz) _ _
 refine zl x (Int.natCast_nonneg k) hxn ?_
 (all_goals refine qgp ?_<;>(repeat' first | exact trivial | intro hc | refine And.intro ?_ ?_)<;>refine Lf.mk ?_)
 ·refine zl x (Int.natCast_nonneg k) hxn ?_
  (all_goals refine qgp ?_<;>(repeat' first | exact trivial | intro hc | refine And.intro ?_ ?_)<;>refine Lf.mk ?_)
  ·refine yQ ?_ rfl
   show D.int .i64 6=D.int .i64 (xM shut x a)
   rw [hz,if_pos ⟨by assumption,by assumption⟩]
  ·refine yQ ?_ rfl
   show D.int .i64 2=D.int .i64 (xM shut x a)
   rw [hz,if_neg (fun h=>by simp_all),if_neg (by omega),if_neg (by omega),if_neg (by omega)]
 ·refine zl x (Int.natCast_nonneg k) hxn ?_
  (all_goals refine qgp (Lf.mk ?_))
  refine yQ ?_ rfl
  show D.int .i64 x.size=D.int .i64 (xM shut x a)
  rw [hz,if_neg (by omega),if_pos hc]
 ·have h8:=hs1 hc
  have hu:=zaf (n:=a) h8.1
  refine zl x (Int.natCast_nonneg k) hxn ?_
  (all_goals refine qgp (Lf.mk ?_))
  refine zb zdR (a,x.size) ⟨ha0,by show a≤_;omega,h8.1,by show x.size≤_;omega⟩ (VS.mk (LeL.of_eq rfl)) ?_
  (all_goals refine qgp (Lf.mk ?_))
  refine yQ ?_ rfl
  show D.int .i64 (upA a x.size - a)=D.int .i64 (xM shut x a)
  rw [hz,if_neg (by omega),if_neg (by omega),if_pos hc]
 ·have h9:=hs3 hc
  refine zb zdR (a,4) ⟨ha0,by show a≤_;omega,by decide,by decide⟩ (VS.mk (LeL.of_eq rfl)) ?_
  (all_goals refine qgp (Lf.mk ?_))
  refine zl x (Int.natCast_nonneg k) hxn ?_
  (all_goals refine qgp (Lf.mk ?_))
  have hpl:(zS ⟨items,syms,marks,shut,false,cur,fe,fa⟩).length=shut.length:=by unfold zS;simp
  refine yL ⟨h9.1,by rw [hpl];exact h9.2⟩ ?_
  (all_goals refine qgp (Lf.mk ?_))
  have hp:((shut[x.pool.toNat]?).getD []).length≤1000000:=by
   cases hg:shut[x.pool.toNat]? with
   | none=>simp
   | some p=>exact hs4 p (List.mem_of_getElem? hg)
  (all_goals refine qgp (Lf.mk ?_))
  have hgp:(zS ⟨items,syms,marks,shut,false,cur,fe,fa⟩)[((0+x.pool.toNat:Nat):Int).toNat]?=some (xl ((shut[x.pool.toNat]?).getD [])):=by
   have hlt:x.pool.toNat < shut.length:=by omega
   rw [Int.toNat_natCast,Nat.zero_add]
   unfold zS
   simp [List.getElem?_eq_getElem hlt]
  refine w6 (Int.natCast_nonneg _) hgp ?_
  (all_goals refine qgp (Lf.mk ?_))
  refine yQ ?_ rfl
  show _=D.int .i64 (xM shut x a)
  rw [hz,if_neg (by omega),if_neg (by omega),if_neg (by omega),if_pos hc]
  rfl
 ·refine yQ ?_ rfl
  show D.int .i64 2=D.int .i64 (xM shut x a)
  rw [hz,if_neg (by omega),if_neg (by omega),if_neg (by omega),if_neg (by omega)]
attribute [local irreducible] xM
theorem zga (pools:List (List zB)):∀ (l:List zO) (a:Int),(yS pools l a).1.length=l.length
 | [],a=>rfl
 | x::l,a=>by rw [yS];simp [zga pools l]
theorem zlO {pools:List (List zB)} {x:zO} {a:Int} (h:w7 pools x) (h0:0≤a):0≤xM pools x a∧xM pools x a≤5000000:=by
 obtain ⟨h8,h7,h9,hp⟩:=h
 have hu4:=zaf (n:=a) (k:=4) (by decide)
 have hl:ze8 pools x.pool≤1000000∧0≤ze8 pools x.pool:=by
  unfold ze8
  cases hg:pools[x.pool.toNat]? with
  | none=>simp
  | some p=>have:=hp p (List.mem_of_getElem? hg);simp;omega
 unfold xM
 split
 ·omega
 split
 ·rename_i h;have:=h7 h;omega
 split
 ·rename_i h
  have:=h8 h
  have hu:=zaf (n:=a) this.1
  omega
 split
 ·omega
 ·omega
theorem zsd {α:Type} {f:α→D} {a b:List α} {x:α} (y:α) {k:Nat} (hk:a.length=k) {d:D} (hd:d=f y):((a++x::b).map f).set (0+((k:Nat):Int).toNat) d=((a++[y])++b).map f:=by
 subst hd;subst hk
 rw [Nat.zero_add,Int.toNat_natCast,List.map_append,List.set_append_right _ _ (by simp)]
 simp
theorem zfa {α:Type} {a b:List α} {x:α} {k:Nat} (hk:a.length=k):(a++x::b)[k]?=some x:=by
 subst hk
 rw [List.getElem?_append_right (Nat.le_refl _)]
 simp
theorem zig {q:List zo} {b b':Bld} (h1:b.items.length=b'.items.length) (h2:b.syms.length=b'.syms.length) (h3:b.marks=b'.marks) (h4:zS b=zS b') (h5:b.shut=b'.shut) (h6:b.fe=b'.fe) (h7:b.fa=b'.fa):bC q b=bC q b':=by
 unfold bC
 rw [h1,h2,h3,h4,h5,h6,h7]
theorem zvw {av:List D} {L:List Ob} {KP:D→Prop} {KW:D→List Ob→Prop} (q:List zo) (b:Bld) (k:Nat) (x:zO) (a:Int) (hh:b.has=false) (hx:b.items[k]?=some x) (hs:w7 b.shut x) (h0:0≤a) (h1:a≤100000000000000) (hL:L=bO q b)
  (has:av=[.loc 0 0,.aloc 1 b.items.length k 0,.int .i64 a]) (hK:KW (.int .i64 (xM b.shut x a)) (bO q b)):zn Tryz.prog zcr av L KP KW:=by
 subst has
 exact zdC ztF (b,k,x,a,q) ⟨hh,hx,hs,h0,h1⟩ hL (LeL.refl _) hK
theorem zjq {α:Type} {f:α→D} {a b:List α} {x:α} (y:α) {k:Nat} (hk:a.length=k) {d:D} (hd:d=f y):((a++x::b).map f).set (0+((k:Nat):Int).toNat) d=(a++y::b).map f:=by
 rw [zsd y hk hd,List.append_assoc];rfl
theorem ziI (items:List zO) (e:Int):∀ (ss:List zH) (ms:List Int) (s:zH) (m:Int),ss.length=ms.length→vr items e (ss++[s]) (ms++[m])=vr items e ss ms++[⟨s.name,zdN items e m⟩]
 | [],[],s,m,_=>rfl
 | a::ss,b::ms,s,m,h=>by
  show _::vr items e (ss++[s]) (ms++[m])=_::(vr items e ss ms++_)
  rw [ziI items e ss ms s m (by simpa using h)]
 | [],_::_,_,_,h=>by simp at h
 | _::_,[],_,_,h=>by simp at h
theorem zde (items:List zO) (e:Int):∀ (ss:List zH) (ms:List Int),(vr items e ss ms).length=ss.length
 | [],_=>by rw [vr];intro _ _ _ _ h;cases h
 | s::ss,[]=>rfl
 | s::ss,m::ms=>by rw [vr,List.length_cons,zde items e ss ms,List.length_cons]
theorem zrl:za Tryz.prog zbr (zQ (fun ((b,_):Bld×List zo)=>b.has=false∧(∀ x∈b.items,w7 b.shut x)∧b.items.length≤1000000∧b.marks.length=b.syms.length∧b.marks.length≤1000000∧∀ m∈b.marks,0≤m) (fun _=>[.loc 0 0])
  (fun (b,q)=>bO q b) (fun (b,_)=>.int .i64 (yS b.shut b.items 0).2) fun (b,q)=>bO q { b with items:=(yS b.shut b.items 0).1,syms:=vr (yS b.shut b.items 0).1 (yS b.shut b.items 0).2 b.syms b.marks }):=by
 refine zf zh Tryz.func120 rfl (by decide) ?_
 rintro ⟨⟨items,syms,marks,shut,has,cur,fe,fa⟩,q⟩ ⟨hh,hsz,hil,hms,hml,hm0⟩
 have hh:has=false:=hh
 subst hh
 have hsz:∀ x∈items,w7 shut x:=hsz
 have hil:items.length≤1000000:=hil
 have hms:marks.length=syms.length:=hms
 have hml:marks.length≤1000000:=hml
 have hm0:∀ m∈marks,0≤m:=hm0
 refine ⟨Nat.le_refl _,by simp [Tryz.f120],fun E hE=>?_⟩
 have hE6:E.L.length=6:=by rw [hE];rfl
 show AWP _ _ _ _ (kg _ _ _ (.int .i64 (yS shut items 0).2) (bO q ⟨(yS shut items 0).1,vr (yS shut items 0).1 (yS shut items 0).2 syms marks,marks,shut,false,cur,fe,fa⟩)) _ (bO q ⟨items,syms,marks,shut,false,cur,fe,fa⟩)
 have hPl:=zga shut items 0
 generalize hP:yS shut items 0=P at *
 obtain ⟨PI,PE⟩:=P
 dsimp only at hPl ⊢
 refine ze _ ?_
 (all_goals refine qgp (Lf.mk ?_))
 refine yp (α:=Nat×Int) (fun p=>p.1≤items.length∧yS shut (items.drop p.1) p.2=(PI.drop p.1,PE)∧0≤p.2∧p.2≤5000000 * (p.1:Int)) (fun p=>[(0,.loc 0 0),(3,.int .i64 p.2),(11,.int .i64 items.length),(12,.int .i64 p.1)])
  (fun p=>bO q ⟨PI.take p.1++items.drop p.1,syms,marks,shut,false,cur,fe,fa⟩) (fun p=>items.length - p.1) (fun _=>by rw [hE6];exact Nat.le_refl 6) (0,0) ⟨Nat.zero_le _,hP,Int.le_refl 0,by simp⟩ ?_ ?_
 ·exact yf rfl ⟨rfl,rfl,rfl,rfl,trivial⟩
 rintro ⟨k,a⟩ ⟨i1,i2,i3,i4⟩
 dsimp only at i1 i2 i3 i4 ⊢
 have hlen:(PI.take k++items.drop k).length=items.length:=by rw [List.length_append,List.length_take,List.length_drop];omega
 refine ze _ ?_
 (all_goals refine qgp ?_<;>(repeat' first | exact trivial | intro hc | refine And.intro ?_ ?_)<;>refine Lf.mk ?_)
 ·have hkl:k < items.length:=by omega
  obtain ⟨x,hx⟩:=zP (l:=items) (k:=k) (by omega)
  have hgx:items[k]=x:=by rw [List.getElem?_eq_getElem hkl] at hx;exact Option.some.inj hx
  have hxs:=hsz x (List.mem_of_getElem? hx)
  have hsl:=zlO (a:=a) hxs i3
  rw [List.drop_eq_getElem_cons hkl,hgx,yS] at i2
  obtain ⟨e1,e2⟩:=Prod.mk.inj i2
  have hkP:k < PI.length:=by omega
  rw [List.drop_eq_getElem_cons hkP] at e1
  obtain ⟨e3,e4⟩:=List.cons.inj e1
  have hnext:yS shut (items.drop (k+1)) (a+xM shut x a)=(PI.drop (k+1),PE):=by rw [← e4,← e2]
  have htake:PI.take (k+1)=PI.take k++[{ x with at_:=a }]:=by rw [List.take_succ_eq_append_getElem hkP,← e3]
  have hlk:(PI.take k).length=k:=by rw [List.length_take];omega
  have hdrop:items.drop k=x::items.drop (k+1):=by rw [List.drop_eq_getElem_cons hkl,hgx]
  have hmid:=zfa (a:=PI.take k) (b:=items.drop (k+1)) (x:=x) hlk
  have hlen2:(PI.take (k+1)++items.drop (k+1)).length=items.length:=by rw [List.length_append,List.length_take,List.length_drop];omega
  rw [hdrop] at hlen ⊢
  refine zl x (Int.natCast_nonneg _) (by rw [Int.toNat_natCast,Nat.zero_add,Int.toNat_natCast];exact hmid) ?_
  (all_goals refine qgk (Lf.mk ?_))
  refine xd ((PI.take (k+1)++items.drop (k+1)).map xz) (by rw [htake];exact zsd { x with at_:=a } hlk rfl) ?_
  (all_goals refine qgk (Lf.mk ?_))
  have hb:(PI.take k++x::items.drop (k+1)).length=(PI.take (k+1)++items.drop (k+1)).length:=by rw [hlen,hlen2]
  have hx2:(PI.take (k+1)++items.drop (k+1))[k]?=some { x with at_:=a }:=by rw [htake,List.append_assoc];exact zfa hlk
  have hs2:xM shut { x with at_:=a } a=xM shut x a:=by unfold xM;rfl
  refine zvw q ⟨PI.take (k+1)++items.drop (k+1),syms,marks,shut,false,cur,fe,fa⟩ k { x with at_:=a } a rfl hx2 hxs i3 (by omega) ?_ ?_ ?_
  ·exact congrArg (fun c=>Ob.cells c::bT ⟨PI.take (k+1)++items.drop (k+1),syms,marks,shut,false,cur,fe,fa⟩) (zig hb rfl rfl rfl rfl rfl rfl)
  ·show [D.loc 0 0,.aloc 1 (PI.take k++x::items.drop (k+1)).length (0+((k:Nat):Int).toNat) 0,.int .i64 a]=_
   rw [hb,Nat.zero_add,Int.toNat_natCast]
  rw [show xM (Bld.shut ⟨PI.take (k+1)++items.drop (k+1),syms,marks,shut,false,cur,fe,fa⟩) { x with at_:=a } a=xM shut x a from hs2]
  (all_goals refine qgp (Lf.mk ?_))
  exact yj (k+1,a+xM shut x a) ⟨by show k+1≤_;omega,hnext,by dsimp only;omega,by dsimp only;omega⟩ (by dsimp only;omega) rfl ⟨rfl,rfl,rfl,rfl,trivial⟩
 ·have hk:k=items.length:=by omega
  rw [hk,List.drop_length,yS] at i2
  obtain ⟨e1,e2⟩:=Prod.mk.inj i2
  have hI:PI.take k++items.drop k=PI:=by rw [hk,List.drop_length,List.append_nil,← hPl,List.take_length]
  rw [hI] at hlen ⊢
  subst e2
  clear e1 i2
  refine yp (α:=Nat) (fun j=>j≤marks.length) (fun j=>[(0,.loc 0 0),(3,.int .i64 a),(38,.sl 1 (marks.map (.int .i64)) none),(39,.int .i64 marks.length),(40,.int .i64 j)])
   (fun j=>bO q ⟨PI,vr PI a (syms.take j) (marks.take j)++syms.drop j,marks,shut,false,cur,fe,fa⟩) (fun j=>marks.length - j) (fun _=>by rw [hE6];exact Nat.le_refl 6) 0 (Nat.zero_le _) ?_ ?_
  ·refine zjf rfl ⟨.refl _,.refl _,.strip _ _ _,.refl _,.refl _,trivial⟩
  intro j hj
  have hj:j≤marks.length:=hj
  refine ze _ ?_
  have hSl:(vr PI a (syms.take j) (marks.take j)).length=j:=by rw [zde,List.length_take];omega
  (all_goals refine qgp ?_<;>(repeat' first | exact trivial | intro hc | refine And.intro ?_ ?_)<;>refine Lf.mk ?_)
  ·have hjm:j < marks.length:=by omega
   have hjs:j < syms.length:=by omega
   obtain ⟨m,hm⟩:=zP (l:=marks) (k:=j) (by omega)
   obtain ⟨s,hs⟩:=zP (l:=syms) (k:=j) (by omega)
   have hgm:marks[j]=m:=by rw [List.getElem?_eq_getElem hjm] at hm;exact Option.some.inj hm
   have hgs:syms[j]=s:=by rw [List.getElem?_eq_getElem hjs] at hs;exact Option.some.inj hs
   have hm0:=hm0 m (List.mem_of_getElem? hm)
   have hdrop:syms.drop j=s::syms.drop (j+1):=by rw [List.drop_eq_getElem_cons hjs,hgs]
   have hsn:vr PI a (syms.take (j+1)) (marks.take (j+1))=vr PI a (syms.take j) (marks.take j)++[⟨s.name,zdN PI a m⟩]:=by
    rw [List.take_succ_eq_append_getElem hjs,List.take_succ_eq_append_getElem hjm,hgs,hgm]
    exact ziI _ _ _ _ _ _ (by rw [List.length_take,List.length_take];omega)
   generalize vr PI a (syms.take j) (marks.take j)=SJ at *
   rw [hdrop]
   refine zl m (by omega) (by simpa using hm) ?_
   have hlen3:(SJ++s::syms.drop (j+1)).length=syms.length:=by rw [List.length_append,List.length_cons,List.length_drop];omega
   have hmid:=zfa (a:=SJ) (b:=syms.drop (j+1)) (x:=s) hSl
   (all_goals refine qgk (Lf.mk ?_))
   refine zl s (Int.natCast_nonneg _) (by rw [Int.toNat_natCast,Nat.zero_add,Int.toNat_natCast];exact hmid) ?_
   (all_goals refine qgk (Lf.mk ?_))
   refine xd ((SJ++(⟨s.name,a⟩:zH)::syms.drop (j+1)).map yH) (zjq ⟨s.name,a⟩ hSl rfl) ?_
   (all_goals refine qgk ?_<;>(repeat' first | exact trivial | intro hc | refine And.intro ?_ ?_)<;>refine Lf.mk ?_)
   ·have hmn:m.toNat < PI.length:=by omega
    have hmk:zdN PI a m=(itA PI m).at_:=by unfold zdN;rw [if_pos hc]
    have hit:PI[m.toNat]?=some (itA PI m):=by unfold itA;rw [List.getElem?_eq_getElem hmn];rfl
    have hmid2:=zfa (a:=SJ) (b:=syms.drop (j+1)) (x:=(⟨s.name,a⟩:zH)) hSl
    refine zl (itA PI m) (Int.natCast_nonneg _) (by rw [Int.toNat_natCast,Nat.zero_add];exact hit) ?_
    (all_goals refine qgk (Lf.mk ?_))
    refine zl (⟨s.name,a⟩:zH) (Int.natCast_nonneg _) (by rw [Int.toNat_natCast,Nat.zero_add,Int.toNat_natCast];exact hmid2) ?_
    (all_goals refine qgk (Lf.mk ?_))
    refine xd ((SJ++(⟨s.name,(itA PI m).at_⟩:zH)::syms.drop (j+1)).map yH) (zjq ⟨s.name,(itA PI m).at_⟩ hSl rfl) ?_
    (all_goals refine qgk (Lf.mk ?_))
    refine yj (j+1) (by show j+1≤_;omega) (by omega) ?_ ⟨rfl,rfl,rfl,rfl,rfl,trivial⟩
    dsimp only
    rw [hsn,hmk,List.append_assoc]
    exact congrArg (fun c=>Ob.cells c::bT ⟨PI,SJ++(⟨s.name,(itA PI m).at_⟩:zH)::syms.drop (j+1),marks,shut,false,cur,fe,fa⟩) (zig rfl (by simp) rfl rfl rfl rfl rfl)
   ·have hmk:zdN PI a m=a:=by unfold zdN;rw [if_neg hc]
    refine yj (j+1) (by show j+1≤_;omega) (by omega) ?_ ⟨rfl,rfl,rfl,rfl,rfl,trivial⟩
    dsimp only
    rw [hsn,hmk,List.append_assoc]
    exact congrArg (fun c=>Ob.cells c::bT ⟨PI,SJ++(⟨s.name,a⟩:zH)::syms.drop (j+1),marks,shut,false,cur,fe,fa⟩) (zig rfl (by simp) rfl rfl rfl rfl rfl)
  ·have hj2:j=marks.length:=by omega
   rw [hj2,List.take_length,hms,List.take_length,List.drop_length,List.append_nil]
   exact yQ rfl rfl
attribute [local irreducible] xE
theorem zpL {n:Int} {K:D→Prop} (h:K (.int .i64 (w64 n))):zG .i64 n K:=by unfold zG;exact h
theorem zAY {x y:Int} {K:D→Prop} (hy:y≠0) (h:K (.int .i64 (x.tmod y))):yy .i64 x y K:=by unfold yy;exact ⟨hy,h⟩
theorem zAZ {x y:Int} {K:D→Prop} (hy:y≠0) (h:K (.int .i64 (w64 (x.tdiv y)))):yx .i64 x y K:=by unfold yx;exact ⟨hy,h⟩
theorem zgs:za Tryz.prog qX (zQ (fun _:zH×zB=>True) (fun (s,_)=>[yH s,.loc 0 0]) (fun (_,v)=>[.cells [.str v.name,.int .i64 v.n]]) (fun (s,v)=>.bool (s.name==v.name))
  fun (_,v)=>[.cells [.str v.name,.int .i64 v.n]]):=by
 refine zf zh Tryz.func160 rfl (by decide) ?_
 rintro ⟨s,v⟩ _
 refine ⟨Nat.le_refl _,by simp [Tryz.f160],fun E hE=>?_⟩
 refine ze _ ?_
 (all_goals refine qgo (Lf.mk ?_))
 exact xq [.cells [.str v.name,.int .i64 v.n]] [_] rfl (Nat.le_refl 1) .bool (by intro o ho;rw [List.mem_singleton] at ho;subst ho;exact .cells (.cons .str (.cons .int .nil)))
theorem zpM:za Tryz.prog vR (zQ (fun ((b,_,_):Bld×zB×List zo)=>b.syms.length≤1000000) (fun (_,v,_)=>[.loc 0 0,yP v])
  (fun (b,_,q)=>bO q b) (fun (b,v,_)=>.tup [.int .i64 (yk b.syms v).1,.int .i64 (yk b.syms v).2]) fun (b,_,q)=>bO q b):=by
 refine zf zh Tryz.func121 rfl (by decide) ?_
 rintro ⟨b,v,q⟩ hl
 have hl:b.syms.length≤1000000:=hl
 refine ⟨Nat.le_refl _,by simp [Tryz.f121],fun E hE=>?_⟩
 show AWP _ _ _ _ (kg _ _ _ (.tup [.int .i64 (yk b.syms v).1,.int .i64 (yk b.syms v).2]) (bO q b)) _ (bO q b)
 have hT:yk b.syms v=if v.name=[] then (0,8) else if zlL v.name b.syms 0 < 0 then (0,6) else (w64 ((zdO b.syms (zlL v.name b.syms 0)).at_+v.n),0):=rfl
 generalize yk b.syms v=T at *
 refine ze _ ?_
 (all_goals refine qgp ?_<;>(repeat' first | exact trivial | intro hc | refine And.intro ?_ ?_)<;>refine Lf.mk ?_)
 ·rw [if_pos hc] at hT
  subst hT
  exact yg [_] rfl rfl rfl (Nat.le_of_eq rfl) (.tup (.cons .int (.cons .int .nil)))
 rw [if_neg hc] at hT
 refine zjp qX [.loc 6 0] (fun s=>s.name==v.name) b.syms (.cells (bC q b)) (.arr 13 (b.items.map xz)) [.spare b.marks.length,.arr 1 (zS b),zeL b,.cells [.str v.name,.int .i64 v.n]] (by omega) rfl rfl
  (fun s hs KP KW hK=>?_) ?_
 ·exact zu zgs [6] [6] (s,v) trivial rfl rfl ⟨VS.mk (LeL.refl _),VS.mk rfl,hK⟩
 have hp:=zdd (fun s:zH=>s.name==v.name) b.syms 0
 have hT:T=if y9 (fun s:zH=>s.name==v.name) b.syms 0 < 0 then (0,6) else (w64 ((zdO b.syms (y9 (fun s:zH=>s.name==v.name) b.syms 0)).at_+v.n),0):=hT
 generalize y9 (fun s:zH=>s.name==v.name) b.syms 0=p at *
 (all_goals refine qgp ?_<;>(repeat' first | exact trivial | intro hc | refine And.intro ?_ ?_)<;>refine Lf.mk ?_)
 ·rw [if_pos hc] at hT
  subst hT
  exact yg [_] rfl rfl rfl (Nat.le_of_eq rfl) (.tup (.cons .int (.cons .int .nil)))
 have hpl:p.toNat < b.syms.length:=by
  rcases hp with h | ⟨j,h1,h2⟩
  ·omega
  ·rw [h2,Int.toNat_natCast,Nat.zero_add];exact h1
 have hs:b.syms[p.toNat]?=some (zdO b.syms p):=by unfold zdO;rw [List.getElem?_eq_getElem hpl];rfl
 rw [if_neg hc] at hT
 refine zl (zdO b.syms p) (Int.natCast_nonneg _) (by rw [Int.toNat_natCast,Nat.zero_add];exact hs) ?_
 (all_goals refine qgp (Lf.mk ?_))
 refine zpL ?_
 (all_goals refine qgp (Lf.mk ?_))
 subst hT
 exact yg [_] rfl rfl rfl (Nat.le_of_eq rfl) (.tup (.cons .int (.cons .int .nil)))
theorem zvx:∀ i:Fin 64,(~~~ (3#64)).getLsbD i=decide (2≤i.1):=by decide
theorem zy7 (x:BitVec 64):x &&& ~~~ (3#64)=(x >>> 2) <<< 2:=by
 apply BitVec.eq_of_getLsbD_eq
 intro i hi
 rw [BitVec.getLsbD_and,zvx ⟨i,hi⟩,BitVec.getLsbD_shiftLeft,BitVec.getLsbD_ushiftRight]
 by_cases h:2≤i
 ·simp [h,hi,show ¬ i < 2 by omega,show 2+(i - 2)=i by omega]
 ·simp [h,show i < 2 by omega]
theorem zAl {n:Int} (h0:0≤n) (h1:n≤9223372036854775807):zD .andNot .i64 n 3=n - n % 4:=by
 obtain ⟨a,rfl⟩:=Int.eq_ofNat_of_zero_le h0
 have ha:a≤9223372036854775807:=by omega
 unfold zD
 have e:(BitVec.ofInt IntKind.i64.bits (a:Int) &&& ~~~ BitVec.ofInt IntKind.i64.bits 3).toNat=a / 4 * 4:=by
  have e2:BitVec.ofInt IntKind.i64.bits (a:Int)=BitVec.ofNat 64 a:=rfl
  rw [e2]
  show (BitVec.ofNat 64 a &&& ~~~ (3#64)).toNat=_
  rw [zy7,BitVec.toNat_shiftLeft,BitVec.toNat_ushiftRight,BitVec.toNat_ofNat,Nat.mod_eq_of_lt (by omega:a < 2 ^ 64),Nat.shiftRight_eq_div_pow,Nat.shiftLeft_eq]
  omega
 show IntKind.i64.wrap ((_:Nat):Int)=_
 rw [e,zax (by omega) (by omega)]
 omega
theorem zxh (op:Int):∃ s:List UInt8,jO op= .tup [.str s,.int .i64 (zdP op)]:=by
 unfold jO zdP
 cases xE op with
 | none=>exact ⟨[],rfl⟩
 | some r=>exact ⟨r.name,rfl⟩
theorem zkO:za Tryz.prog ztf (zy (fun ((_,a,_):Int×Int×Int)=>0≤a∧a≤1000000000000000) (fun (op,a,to)=>[.int .i64 op,.int .i64 a,.int .i64 to])
  fun (op,a,to)=>.tup [.int .i64 (vg op a to).1,.int .i64 (vg op a to).2]):=by
 refine zf zh Tryz.func122 rfl (by decide) ?_
 rintro ⟨op,a,to⟩ ⟨h0,h1⟩
 have h0:0≤a:=h0
 have h1:a≤1000000000000000:=h1
 refine ⟨Nat.le_refl _,by simp [Tryz.f122],fun E hE=>?_⟩
 show AWP _ _ _ _ (kg _ _ _ (.tup [.int .i64 (vg op a to).1,.int .i64 (vg op a to).2]) []) _ []
 have hA:vg op a to=if (w64 (to - zek op a)).tmod (ofA op)≠0 then (0,11)
  else if zf8 op a to < zeK (zdP op)∨zbW (zdP op) < zf8 op a to then (zf8 op a to,3) else (zf8 op a to,0):=rfl
 have hF:zf8 op a to=w64 ((w64 (to - zek op a)).tdiv (ofA op)):=rfl
 obtain ⟨s,hI⟩:=zxh op
 have hof:ofA op≠0:=by unfold ofA;split<;>decide
 generalize vg op a to=A at *
 generalize zdP op=sh at *
 refine xW (ze _ ?_)
 (all_goals refine qgp (Lf.mk ?_))
 refine xW (ze _ ?_)
 (all_goals refine qgp (Lf.mk ?_))
 refine zbA (α:=Unit) (fun _=>True) (fun _=>[(0,.int .i64 op),(1,.int .i64 a),(2,.int .i64 to),(8,.int .i64 (zek op a)),(9,.int .i64 (ofA op))]) (fun _=>[]) ?_ ?_
 ·refine ze _ ?_
  (all_goals refine qgp ?_<;>(repeat' first | exact trivial | intro hc | refine And.intro ?_ ?_)<;>refine Lf.mk ?_)
  ·refine wG (zAl (by omega) (by omega)) ?_
   (all_goals refine qgp (Lf.mk ?_))
   refine ⟨(),trivial,yf rfl ⟨rfl,rfl,rfl,?_,?_,trivial⟩⟩
   ·show D.int .i64 (a+4 - (a+4) % 4)=_
    unfold zek;rw [if_pos hc]
   ·show D.int .i64 4=_
    unfold ofA;rw [if_pos hc]
  ·refine ⟨(),trivial,yf rfl ⟨rfl,rfl,rfl,?_,?_,trivial⟩⟩
   ·show D.int .i64 (a+4)=_
    unfold zek;rw [if_neg hc]
   ·show D.int .i64 2=_
    unfold ofA;rw [if_neg hc]
 ·rintro _ _
  refine ze _ ?_
  generalize zek op a=fr at *
  generalize ofA op=o at *
  (all_goals refine qgp (Lf.mk ?_))
  refine zpL ?_
  (all_goals refine qgp (Lf.mk ?_))
  refine zAY hof ?_
  (all_goals refine qgp ?_<;>(repeat' first | exact trivial | intro hc | refine And.intro ?_ ?_)<;>refine Lf.mk ?_)
  ·rw [if_pos hc] at hA
   subst hA
   exact zd (VS.mk (LeD.refl _))
  ·rw [if_neg (fun h=>h hc)] at hA
   refine zpL ?_
   (all_goals refine qgp (Lf.mk ?_))
   refine zAZ hof ?_
   (all_goals refine qgp (Lf.mk ?_))
   refine zb zc9 op trivial (VS.mk (LeL.of_eq rfl)) ?_
   rw [hI]
   rw [← hF]
   (all_goals refine qgp (Lf.mk ?_))
   refine zb ziF sh trivial (VS.mk (LeL.of_eq rfl)) ?_
   (all_goals refine qgp ?_<;>(repeat' first | exact trivial | intro hc | refine And.intro ?_ ?_)<;>refine Lf.mk ?_)
   ·rw [if_pos (.inl hc)] at hA
    subst hA
    exact zd (VS.mk (LeD.refl _))
   ·rw [if_pos (.inr hc)] at hA
    subst hA
    exact zd (VS.mk (LeD.refl _))
   ·rw [if_neg (by omega)] at hA
    subst hA
    exact zd (VS.mk (LeD.refl _))
end Go.Proofs.YtnkdeacghopkiaaGreatDoor
