/-
  A part of the proof: what the given program's functions answer, each once; conditions that are enough for it.
-/
import Derived.Test.YtnkdeacghopkiaaGreatDoorSt4
import Derived.Test.YtnkdeacghopkiaaGreatDoorSt1
import Derived.Test.YtnkdeacghopkiaaGreatDoorFw3
import Derived.Test.YtnkdeacghopkiaaGreatDoorRows
import Derived.WalkKit
import Derived.ProofKit
import Derived.OpenShut
import Derived.JoinedCond
import Derived.Deep.DeepHandedRow
import Derived.Lay
import Derived.Test.YtnkdeacghopkiaaGreatDoorSt2
import Derived.Test.YtnkdeacghopkiaaGreatDoorTie
namespace Go.Proofs.YtnkdeacghopkiaaGreatDoor
open Go Go.Plat
set_option linter.unusedVariables false
set_option linter.unusedSimpArgs false
set_option maxRecDepth 100000
set_option maxHeartbeats 2000000
attribute [local irreducible] AWP zG yn zK zn yA z8 zI zY z6 zw za zN yB zt z7 yx yy yq yt zx zz zD yw zL zar zaq yO vu zag qz zb3 zg yD
end Go.Proofs.YtnkdeacghopkiaaGreatDoor
namespace Go.Proofs.YtnkdeacghopkiaaGreatDoor
open Go Go.Plat
set_option linter.unusedVariables false
set_option maxRecDepth 100000
attribute [local irreducible] yw zL yO zg yD
theorem zBn (c0 c1 c2 c3:UInt8):z1 [c0,c1,c2,c3] 0 4=(((c0.toNat:Int) * 256+c1.toNat) * 256+c2.toNat) * 256+c3.toNat:=by
 simp [z1,xk]
theorem zcE {n:Int} {x:List UInt8} (r:List UInt8) (h:(x.length:Int)=n):wB (x++r) n=x:=by
 unfold wB;rw [if_neg (by simp only [List.length_append];omega)]
 rw [← h];simp
theorem zcF {n:Int} {x:List UInt8} (r:List UInt8) (h:(x.length:Int)=n):vB (x++r) n=r:=by
 unfold vB;rw [if_neg (by simp only [List.length_append];omega)]
 rw [← h];simp
theorem zcG {n:Int} {x:List UInt8} (r:List UInt8) (e:Bool) (h:(x.length:Int)=n):ke (x++r) n e=e:=by
 unfold ke;rw [if_neg (by simp only [List.length_append];omega)]
theorem zbN (n:Int) (r:List UInt8):y5 (xQ n++r)=n % 4294967296:=by
 unfold y5
 rw [zcE r (by rfl)]
 unfold xQ
 rw [zBn]
 simp only [yG]
 omega
theorem zbO (n:Int) (r:List UInt8):yb (xQ n++r)=r:=zcF r rfl
theorem zbP (n:Int) (r:List UInt8) (e:Bool):vG (xQ n++r) e=e:=zcG r e rfl
theorem zev (n:Int) (r:List UInt8):jg (zr n::r)=n % 256:=by
 unfold jg
 have:wB (zr n::r) 1=[zr n]:=zcE (x:=[zr n]) r rfl
 rw [this]
 simp [z1,xk,yG]
theorem zew (c:UInt8) (r:List UInt8):xg (c::r)=r:=zcF (x:=[c]) r rfl
theorem zmZ (c:UInt8) (r:List UInt8) (e:Bool):zb1 (c::r) e=e:=zcG (x:=[c]) r e rfl
theorem zl4 {s:List UInt8} (h:s.length≤255):(s.length:Int) % 256=s.length:=Int.emod_eq_of_lt (by omega) (by omega)
theorem zm0 (s r:List UInt8) (h:s.length≤255):jY (vZ s++r)=s:=by
 unfold jY vZ
 rw [List.cons_append,zev,zew,zl4 h,zcE r rfl]
theorem zm1 (s r:List UInt8) (h:s.length≤255):x5 (vZ s++r)=r:=by
 unfold x5 vZ
 rw [List.cons_append,zev,zew,zl4 h,zcF r rfl]
theorem zm2 (s r:List UInt8) (e:Bool) (h:s.length≤255):zb2 (vZ s++r) e=e:=by
 unfold zb2 vZ
 rw [List.cons_append,zev,zew,zl4 h,zcG r _ rfl,zmZ]
theorem zm3:∀ (l:List zH) (r:List UInt8) (acc:List zH),(∀ s∈l,s.name.length≤255∧0≤s.at_∧s.at_ < 4294967296)→zaq l.length (l.flatMap ja++r) false acc=(acc++l,r,false)
 | [],r,acc,_=>by simp [zaq]
 | s::l,r,acc,h=>by
  obtain ⟨h1,h2,h3⟩:=h s (by simp)
  have ih:=zm3 l r (acc++[s]) fun t ht=>h t (by simp [ht])
  have hm:s.at_ % 4294967296=s.at_:=Int.emod_eq_of_lt h2 h3
  rw [List.length_cons,zaq,if_neg (by decide),List.flatMap_cons]
  unfold ja at ih ⊢
  simp only [List.append_assoc]
  rw [zm0 _ _ h1,zm1 _ _ h1,zm2 _ _ _ h1,zbN,zbO,zbP,hm,ih]
  simp
theorem zm4:∀ (l:List qZ) (r:List UInt8) (acc:List qZ),(∀ s∈l,s.name.length≤255∧0≤s.at_∧s.at_ < 4294967296∧0≤s.size∧s.size < 256∧zg (s.add % 4294967296) 32=s.add)→zar l.length (l.flatMap zbj++r) false acc=(acc++l,r,false)
 | [],r,acc,_=>by simp [zar]
 | s::l,r,acc,h=>by
  obtain ⟨h1,h2,h3,h4,h5,h6⟩:=h s (by simp)
  have ih:=zm4 l r (acc++[s]) fun t ht=>h t (by simp [ht])
  have hm:s.at_ % 4294967296=s.at_:=Int.emod_eq_of_lt h2 h3
  have hz:s.size % 256=s.size:=Int.emod_eq_of_lt h4 h5
  rw [List.length_cons,zar,if_neg (by decide),List.flatMap_cons]
  unfold zbj at ih ⊢
  simp only [List.append_assoc,List.cons_append]
  rw [zbN,zbO,zbP,zev,zew,zmZ,zm0 _ _ h1,zm1 _ _ h1,zm2 _ _ _ h1,zbN,zbO,zbP,hm,hz,h6,ih]
  simp
theorem zue (n:Int):zg (n % 4294967296) 32=zg n 32:=by
 have:∀ m:Int,zg m 32=if m % 4294967296 / 2147483648=1 then m % 4294967296 - 4294967296 else m % 4294967296:=fun m=>by unfold zg;rfl
 rw [this,this,Int.emod_emod]
theorem zwf {o:yz} (h:zya o):zb3 (vu o)=⟨o,[],false⟩:=by
 have hb:vu o=ko++(xQ o.code.length++(o.code++(xQ o.syms.length++(o.syms.flatMap ja++(xQ o.rels.length++(o.rels.flatMap zbj++[])))))):=by
  simp [vu,qN]
 have hc:=h.code
 have hs:=h.syms
 have hr:=h.rels
 have h1:(o.code.length:Int) % 4294967296=o.code.length:=Int.emod_eq_of_lt (by omega) (by omega)
 have h2:(o.syms.length:Int) % 4294967296=o.syms.length:=Int.emod_eq_of_lt (by omega) (by omega)
 have h3:(o.rels.length:Int) % 4294967296=o.rels.length:=Int.emod_eq_of_lt (by omega) (by omega)
 have hS:∀ s∈o.syms,s.name.length≤255∧0≤s.at_∧s.at_ < 4294967296:=fun s hm=>by
  obtain ⟨a,b,c⟩:=h.sym s hm
  have:=zes a
  exact ⟨by omega,b,by omega⟩
 have hR:∀ s∈o.rels,s.name.length≤255∧0≤s.at_∧s.at_ < 4294967296∧0≤s.size∧s.size < 256∧zg (s.add % 4294967296) 32=s.add:=fun s hm=>by
  have hk:=h.rel s hm
  have h1:=hk.len
  have h2:=hk.size
  have h3:=hk.at0
  have h4:=hk.at1
  exact ⟨by omega,by omega,by omega,by omega,by omega,by rw [zue,hk.add]⟩
 unfold zb3
 dsimp only
 rw [hb]
 rw [zcF _ (show ((ko.length:Nat):Int)=3 from rfl),zcG _ _ (show ((ko.length:Nat):Int)=3 from rfl)]
 rw [zbN,zbO,zbP,h1,zcE _ rfl,zcF _ rfl,zcG _ _ rfl,zbN,zbO,zbP,h2,Int.toNat_natCast,zm3 _ _ _ hS]
 dsimp only
 rw [zbN,zbO,zbP,h3,Int.toNat_natCast,zm4 _ _ _ hR]
 simp
theorem zuf {o:yz} (h:yD o=0):qz (vu o)=0∧zag (vu o)=o:=by
 have hr:=zwf (zdW h)
 have hm:wB (vu o) 3=ko:=by
  have hb:vu o=ko++(xQ o.code.length++(o.code++(xQ o.syms.length++(o.syms.flatMap ja++(xQ o.rels.length++(o.rels.flatMap zbj++[])))))):=by
   simp [vu,qN]
  rw [hb,zcE _ (show ((ko.length:Nat):Int)=3 from rfl)]
 have h1:qz (vu o)=0:=by
  unfold qz
  rw [if_neg (by rw [hm];simp),hr]
  dsimp only
  rw [if_neg (by simp),h]
 refine ⟨h1,?_⟩
 unfold zag
 rw [if_pos h1,hr]
end Go.Proofs.YtnkdeacghopkiaaGreatDoor
namespace Go.Proofs.YtnkdeacghopkiaaGreatDoor
open Go Go.Plat
set_option linter.unusedVariables false
set_option linter.unusedSimpArgs false
set_option maxRecDepth 100000
set_option maxHeartbeats 2000000
attribute [local irreducible] AWP zG yn zK zn yA z8 zI zY z6 zw za zN yB zt z7 yx yy yq yt zx zz zD zE wy wv yF
def jZ (a b:Int) (k:Nat):List UInt8:=if k=0 then zih (zbn a) else zii (zbn b)
def znU (a b:Int) (k:Nat):yz:=if k=0 then ji a else zat b
theorem zwg {b:List UInt8} {o:yz} (h:UP (b,o)) (ho:zhG o):zkV b:=⟨h.1,by rw [h.2];exact ho.rels,by rw [h.2];exact ho.syms⟩
theorem zzz {a b:Int} (ha0: -100≤a) (ha1:a≤100) (hb0: -100≤b) (hb1:b≤100):kb (jZ a b) (znU a b):=by
 obtain ⟨m1,m2⟩:=zsw ha0 ha1
 obtain ⟨n1,n2⟩:=zsx hb0 hb1
 have la:=zij a
 have lb:=zij b
 refine ⟨fun k=>?_,fun k=>?_,fun k=>?_,fun k=>?_,fun k=>?_⟩
 all_goals try unfold jZ
 all_goals try unfold znU
 all_goals by_cases hk:k=0
 all_goals simp only [hk,if_true,if_false]
 ·exact zwg m1 m2
 ·exact zwg n1 n2
 ·show ((zxJ++zbn a)++zt9).length≤1200
  rw [List.length_append,List.length_append]
  have h1:zxJ.length≤100:=by decide
  have h2:zt9.length≤1000:=by decide
  omega
 ·show ((zua++zbn b)++zxK).length≤1200
  rw [List.length_append,List.length_append]
  have h1:zua.length≤100:=by decide
  have h2:zxK.length≤1000:=by decide
  omega
 ·exact m1.2
 ·exact n1.2
 ·exact m2.right
 ·exact n2.right
 ·exact Nat.le_of_ble_eq_true (by kernel_rfl)
 ·exact Nat.le_of_ble_eq_true (by kernel_rfl)
theorem zxV {a b B:Int} (ha0: -100≤a) (ha1:a≤100) (hb0: -100≤b) (hb1:b≤100) {f:zp} (h:FI (jZ a b) (znU a b) B f) (hd:jf f=true) :
  zyb f [ji a,zat b] ⟨64,yv (wT a b) 12 4 80,[⟨zas,80⟩]⟩:=by
 obtain ⟨_,m2⟩:=zsw ha0 ha1
 obtain ⟨_,n2⟩:=zsx hb0 hb1
 have hl:=h.len
 refine ⟨⟨by omega,by rw [hl];rfl⟩,fun k j o hj ho=>?_,by rw [h.base];decide,by rw [h.base];exact zv9 (base:=64) (by decide) (by decide) (by decide) m2.right n2.right⟩
 have hk:k < f.jobs.length:=(List.getElem?_eq_some_iff.1 hj).1
 have hja:zm f k=j:=by unfold zm;rw [hj];rfl
 have hJ:=h.jobs k (by omega)
 rw [hja] at hJ
 have hdn:j.done=true:=List.all_eq_true.1 hd j (List.mem_of_getElem? hj)
 obtain ⟨h1,h2⟩:=hJ.done hdn
 have hO:zhG o∧o=znU a b k:=by
  rcases (by omega:k=0∨k=1) with rfl | rfl
  ·cases ho;exact ⟨m2,rfl⟩
  ·cases ho;exact ⟨n2,rfl⟩
 refine ⟨hdn,h2,by have:=hJ.obj;omega,?_,hO.1.rels,hO.1.syms⟩
 rw [h1,← hO.2]
 exact zuf hO.1.right
theorem zxW {a b:Int} (ha0: -100≤a) (ha1:a≤100) (hb0: -100≤b) (hb1:b≤100):∃ m,kR (zaD ⟨64,yv (wT a b) 12 4 80,[⟨zas,80⟩]⟩) 100=(m,0)∧m.told=[a+b]:=by
 obtain ⟨m,h1,h2⟩:=zxT (base:=64) ha0 ha1 hb0 hb1 (by decide) (by decide) (by decide) [⟨zas,80⟩]
 exact ⟨m,h1 94 (by decide),h2⟩
attribute [local irreducible] doF jf zih zii zdX zeM zaD zjw vu kR zbn vA xu yD
theorem znB:za Tryz.prog vv (zy (fun ((a,b,st):Int×Int×List Stp)=>(-9223372036854775808≤a∧a≤9223372036854775807)∧(-9223372036854775808≤b∧b≤9223372036854775807)∧st.length≤1000000000∧∀ s∈st,(-9223372036854775808≤s.kind∧s.kind≤9223372036854775807)∧-9223372036854775808≤s.n∧s.n≤9223372036854775807)
  (fun (a,b,st)=>[.int .i64 a,.int .i64 b,.sl 2 (st.map zgf) none]) fun _=>.bool true):=by
 refine zf zh Tryz.func5 rfl (by decide) ?_
 rintro ⟨a,b,st⟩ ⟨⟨ha0,ha1⟩,⟨hb0,hb1⟩,hl,hs⟩
 have ha0: -9223372036854775808≤a:=ha0
 have ha1:a≤9223372036854775807:=ha1
 have hb0: -9223372036854775808≤b:=hb0
 have hb1:b≤9223372036854775807:=hb1
 have hl:st.length≤1000000000:=hl
 have hs:∀ s∈st,(-9223372036854775808≤s.kind∧s.kind≤9223372036854775807)∧-9223372036854775808≤s.n∧s.n≤9223372036854775807:=hs
 refine ⟨Nat.le_refl _,by simp [Tryz.f5],fun E hE=>?_⟩
 have hE0:E.L.length=0:=by rw [hE];rfl
 refine ze _ ?_
 (all_goals refine qgp ?_<;>(repeat' first | exact trivial | intro hc | refine And.intro ?_ ?_)<;>refine Lf.mk ?_)
 refine zb zqq () trivial (VS.mk (LeL.of_eq rfl)) ?_
 (all_goals refine qgp ?_<;>(repeat' first | exact trivial | intro hc | refine And.intro ?_ ?_)<;>refine Lf.mk ?_)
 (any_goals (first | (exfalso;refine Bool.false_ne_true ?_;assumption) | (exfalso;refine Bool.false_ne_true (Eq.symm ?_);assumption) | (exfalso;refine absurd trivial ?_;assumption) | skip))
 all_goals first
  | exact zd (VS.mk (LeD.tt rfl))
  | skip
 refine yp (α:=Nat) (fun k=>k≤st.length∧∀ s∈st.take k,s.kind≠5) (fun k=>[(0,.int .i64 a),(1,.int .i64 b),(2,.sl 2 (st.map zgf) none),(37,.sl 2 (st.map zgf) none),(38,.int .i64 st.length),(39,.int .i64 k)]) (fun _=>[]) (fun k=>st.length - k) (fun _=>by rw [hE0];exact Nat.zero_le _) 0 ⟨Nat.zero_le _,fun s hs=>by cases hs⟩ ?_ ?_
 ·exact yf rfl ⟨rfl,rfl,rfl,rfl,rfl,rfl,trivial⟩
 rintro k ⟨hk,hn⟩
 have hk:k≤st.length:=hk
 refine ze _ ?_
 (all_goals refine qgp ?_<;>(repeat' first | exact trivial | intro hc | refine And.intro ?_ ?_)<;>refine Lf.mk ?_)
 ·obtain ⟨s,hx⟩:=zP (l:=st) (k:=k) (by omega)
  refine zl s (Int.natCast_nonneg _) (by rw [Int.toNat_natCast];exact hx) ?_
  (all_goals refine qgp ?_<;>(repeat' first | exact trivial | intro hc | refine And.intro ?_ ?_)<;>refine Lf.mk ?_)
  ·exact zd (VS.mk (LeD.tt rfl))
  ·rename_i hkd
   have htk:st.take (k+1)=st.take k++[s]:=by rw [List.take_add_one,hx];rfl
   refine w9 (k+1) [_] ⟨by show k+1≤_;omega,fun x hx=>?_⟩ (by omega) rfl (by rw [hE0];exact Nat.zero_le _) (fun o ho=>by cases ho) ⟨rfl,rfl,rfl,rfl,rfl,rfl,trivial⟩ (.cons .int (.cons .int (.cons .sl (.cons .sl (.cons .int (.cons .int .nil))))))
   rw [htk] at hx
   rcases List.mem_append.1 hx with hx | hx
   ·exact hn x hx
   ·rw [List.mem_singleton.1 hx];assumption
 have hkn:k=st.length:=by omega
 rw [hkn,List.take_length] at hn
 have hsa:=zij a
 have hsb:=zij b
 refine zb zf4 a ⟨ha0,ha1⟩ (VS.mk (LeL.of_eq rfl)) ?_
 rw [zql (by omega) (by omega)]
 (all_goals refine qgp ?_<;>(repeat' first | exact trivial | intro hc | refine And.intro ?_ ?_)<;>refine Lf.mk ?_)
 refine zik 5 4 (by decide) hsa (by decide) fun y1 e1 l1=>?_
 (all_goals refine qgp ?_<;>(repeat' first | exact trivial | intro hc | refine And.intro ?_ ?_)<;>refine Lf.mk ?_)
 refine zik 9 80 l1 (by decide) (by decide) fun y2 e2 l2=>?_
 (all_goals refine qgp ?_<;>(repeat' first | exact trivial | intro hc | refine And.intro ?_ ?_)<;>refine Lf.mk ?_)
 refine zb zf4 b ⟨hb0,hb1⟩ (VS.mk (LeL.of_eq rfl)) ?_
 rw [zql (by omega) (by omega)]
 (all_goals refine qgp ?_<;>(repeat' first | exact trivial | intro hc | refine And.intro ?_ ?_)<;>refine Lf.mk ?_)
 refine zik 16 4 (by decide) hsb (by decide) fun y3 e3 l3=>?_
 (all_goals refine qgp ?_<;>(repeat' first | exact trivial | intro hc | refine And.intro ?_ ?_)<;>refine Lf.mk ?_)
 refine zik 20 5 l3 (by decide) (by decide) fun y4 e4 l4=>?_
 (all_goals refine qgp ?_<;>(repeat' first | exact trivial | intro hc | refine And.intro ?_ ?_)<;>refine Lf.mk ?_)
 have hS:=zzz (a:=a) (b:=b) (by omega) (by omega) (by omega) (by omega)
 have hst:st.length≤80:=by omega
 obtain ⟨f,es,p1,p2⟩:=zqb hS st 0 _ (zAw hS) (by omega) fun s hx=>⟨hn s hx,(hs s hx).2⟩
 obtain ⟨g,m,s1,s2,s3⟩:=zzi hS p2 (by omega)
 obtain ⟨M,r1,r2⟩:=zxW (a:=a) (b:=b) (by omega) (by omega) (by omega) (by omega)
 have hlen:∀ k,(jZ a b k).length≤1200:=hS.len
 have hN:zdX [jZ a b 0,jZ a b 1] 64 2=0:=by
  have hb:zjv [jZ a b 0,jZ a b 1]=false:=zp4 fun s hx=>by
   simp only [List.mem_cons,List.not_mem_nil,or_false] at hx
   rcases hx with rfl | rfl<;>exact hlen _
  unfold zdX
  rw [hb]
  rfl
 refine zb zrB ([jZ a b 0,jZ a b 1],64,2,st,f,es) ⟨hN,by show 2≤4;decide,by decide,by decide,fun s hx=>?_,hst,p1⟩ (VS.mk (LeL.of_eq (by subst_vars;unfold jZ zii zih;rfl))) ?_
 ·have hx:s∈[jZ a b 0,jZ a b 1]:=hx
  simp only [List.mem_cons,List.not_mem_nil,or_false] at hx
  rcases hx with rfl | rfl
  ·have:=hlen 0;omega
  ·have:=hlen 1;omega
 (all_goals refine qgp ?_<;>(repeat' first | exact trivial | intro hc | refine And.intro ?_ ?_)<;>refine Lf.mk ?_)
 ·exact absurd trivial (by assumption)
 refine zb zny (f,g,m) ⟨(znR (s:=zgg) hS p2 (by omega) ⟨by decide,by decide⟩).own,s1⟩ (VS.mk (LeL.of_eq rfl)) ?_
 (all_goals refine qgp ?_<;>(repeat' first | exact trivial | intro hc | refine And.intro ?_ ?_)<;>refine Lf.mk ?_)
 refine zb zqi (g,[ji a,zat b],⟨64,yv (wT a b) 12 4 80,[⟨zas,80⟩]⟩) (zxV (by omega) (by omega) (by omega) (by omega) s2 s3) (VS.mk (LeL.of_eq rfl)) ?_
 unfold zf3
 (all_goals refine qgp ?_<;>(repeat' first | exact trivial | intro hc | refine And.intro ?_ ?_)<;>refine Lf.mk ?_)
 ·exact absurd trivial (by assumption)
 refine zb zmW ⟨64,yv (wT a b) 12 4 80,[⟨zas,80⟩]⟩ ⟨by rw [zl3];show 20≤_;decide,by show 1≤_;decide⟩ (VS.mk (LeL.of_eq rfl)) ?_
 unfold zbl vj
 (all_goals refine qgp ?_<;>(repeat' first | exact trivial | intro hc | refine And.intro ?_ ?_)<;>refine Lf.mk ?_)
 refine zb zmX (zaD ⟨64,yv (wT a b) 12 4 80,[⟨zas,80⟩]⟩,100) (zv5 ⟨by show (0:Int)≤64;decide,by show (64:Int)≤_;decide⟩ (by rw [zl3];show 20≤_;decide) (by show 1≤_;decide)) (VS.mk (LeL.of_eq rfl)) ?_
 dsimp only
 rw [r1]
 unfold zbl vj
 dsimp only
 rw [r2]
 (all_goals refine qgp ?_<;>(repeat' first | exact trivial | intro hc | refine And.intro ?_ ?_)<;>refine Lf.mk ?_)
 ·exact zd (VS.mk (LeD.of_eq (congrArg D.bool (beq_self_eq_true _))))
 ·exact absurd trivial (by assumption)
end Go.Proofs.YtnkdeacghopkiaaGreatDoor
namespace Go.Proofs.YtnkdeacghopkiaaGreatDoor
open Go Go.Plat
set_option linter.unusedVariables false
set_option linter.unusedSimpArgs false
set_option maxRecDepth 100000
set_option maxHeartbeats 2000000
attribute [local irreducible] AWP zG yn zK zn yA z8 zI zY z6 zw za zN yB zt z7 yx yy yq yt zx zz zD
theorem own:ownKnob Tryz.prog.godebug=none:=by kernel_rfl
theorem zAL {H:Type} (d:DataW H):1≤Rows.uptoBulk d:=by
 cases d with
 | lit l=>cases l<;>simp [Rows.uptoBulk]
 | nil=>simp [Rows.uptoBulk]
 | ptr d=>simp [Rows.uptoBulk]
 | slice el sp=>simp [Rows.uptoBulk]
 | agg ps=>simp [Rows.uptoBulk]
 | iface t d=>simp [Rows.uptoBulk]
 | map es=>simp [Rows.uptoBulk]
 | held h=>simp [Rows.uptoBulk]
theorem length_le {H:Type} (l:List (DataW H)):l.length≤Rows.uptoBulkAll l:=by
 induction l with
 | nil=>simp [Rows.uptoBulkAll]
 | cons x r ih=>have:=zAL x;simp only [Rows.uptoBulkAll,List.length_cons];omega
theorem zwh {H:Type} (d:DataW H):Rows.uptoBulkAll (qm d)≤Rows.uptoBulk d:=by
 cases d<;>simp only [qm,Rows.uptoBulk,Rows.uptoBulkAll]<;>omega
theorem zxX {H:Type} (d:DataW H):(qm d).length≤Rows.uptoBulk d:=Nat.le_trans (length_le _) (zwh d)
theorem zBb {H:Type} {l:List (DataW H)} (hk:Rows.uptoSmall H l=true):Rows.uptoBulkAll l≤1048576:=of_decide_eq_true hk
end Go.Proofs.YtnkdeacghopkiaaGreatDoor
namespace Go.Plat
open Go
set_option linter.unusedVariables false
set_option linter.unusedSimpArgs false
abbrev znV (w:World) (F:Nat→Nat→Prop) (g:Nat) (cs:List D):Prop:=zJ w F (.ptr cs) (.pointer (some ⟨g,0,none⟩)) ∧
 (∀ off,¬ F g off)∧(∃ row t z,w.heap[g]?=some (.cells row t z)∧(row.size=cs.length∨cs=[.any])) ∧
 (cs=[.any]→∃ u v,w.cell? ⟨g,0,none⟩=some (.iface u v))
def zug (w:World) (F:Nat→Nat→Prop) (l:List (Nat×Nat×List Nat)):Prop:=∀ g cs,zfe l g=some cs→znV w F g cs
theorem zxY {w:World} {F:Nat→Nat→Prop}:zug w F []:=fun g cs h=>by cases h
theorem zcH {w:World} {F:Nat→Nat→Prop} {h k:Nat} {ns:List Nat} {r:List (Nat×Nat×List Nat)} (hf:znV w F h (zx0 k ns)) (hr:zug w F r):zug w F ((h,k,ns)::r):=by
 intro g cs hg
 rw [zfe] at hg
 cases hb:Nat.beq h g with
 | false=>rw [hb] at hg;exact hr g cs hg
 | true=>
  rw [hb] at hg
  have e:=Nat.eq_of_beq_eq_true hb
  subst e
  cases hg
  exact hf
theorem zuh {P:Program} {w:World} {name:String} {g:Nat} {k:IntKind} {zs:List Int} {ns:List Nat} (hn:P.globalNamed name=some g) (h:Lib.TabIs P w name k zs)
  (hz:zs=ns.map fun n:Nat=>(n:Int)):znV w F0 g (ns.map fun n=>D.int k (n:Nat)):=by
 have hc:=fun i hi=>h.cell hn i hi
 refine ⟨.ptr _ _ _ (fun j=>.int k (zs.getD j 0)) (fun j c hj=>⟨?_,fun f=>f⟩) (fun j c hj=>?_),fun off f=>f,?_,fun e=>absurd e (fun e=>?_)⟩
 ·have hjl:j < ns.length:=by
   have:=(List.getElem?_eq_some_iff.1 hj).1
   simpa using this
  rw [Nat.zero_add]
  exact hc j (by rw [hz];simpa using hjl)
 ·have hjl:j < ns.length:=by
   have:=(List.getElem?_eq_some_iff.1 hj).1
   simpa using this
  rw [List.getElem?_map,List.getElem?_eq_getElem hjl] at hj
  cases hj
  have:zs.getD j 0=(ns[j]:Int):=by
   rw [hz,List.getD_eq_getElem?_getD,List.getElem?_map,List.getElem?_eq_getElem hjl];rfl
  dsimp only
  rw [this]
  exact .int _ _
 ·unfold Lib.TabIs World.var? at h
  rw [hn] at h
  dsimp only [Option.bind_some] at h
  split at h
  ·rename_i cs t z hh
   cases h
   exact ⟨_,_,_,hh,.inl (by rw [hz];simp)⟩
  ·cases h
 ·match ns,e with
  | [],e=>cases e
  | n::r,e=>cases (List.cons.inj e).1
theorem zeT {P:Program} {W:World} {name:String} {k:IntKind} {zs:List Int} {rest:List (String×DataW Unit)} {g:Nat} {t e:TypeId} {n:Nat} {ps:List MemPlace} {d:DataW Unit}
  (hg:P.globalNamed name=some g) (hty:(P.globals[g]?).map (·.type)=some t) (ht:P.underlying t=some (.array n e)) (he:P.underlying e=some (.int k)) (hce:P.cellsOf e=1) (hct:P.cellsOf t=n)
  (hd:d=Lib.tabData k zs) (h:DataW.LaidVars P W ((name,d)::rest) ps):Lib.TabIs P W name k zs∧∃ q,DataW.LaidVars P W rest q:=by
 subst hd
 obtain ⟨g',t',cs,fuel,p,q,hg',ht',hvar,hd,hr,_⟩:=h
 obtain rfl:=Option.some.inj (hg.symm.trans hg')
 obtain rfl:=Option.some.inj (hty.symm.trans ht')
 refine ⟨?_,q,hr⟩
 unfold Lib.TabIs
 rw [hvar,← Lib.cells_of_tab ht he hce hct hd]
theorem zwi {P:Program} {W:World} {x:String×DataW Unit} {rest:List (String×DataW Unit)} {ps:List MemPlace} (h:DataW.LaidVars P W (x::rest) ps):∃ q,DataW.LaidVars P W rest q:=by
 obtain ⟨g',t',cs,fuel,p,q,hg',ht',hvar,hd,hr,_⟩:=h
 exact ⟨q,hr⟩
def zBo:DataW Unit→Bool
 | .iface _ _=>true
 | _=>false
theorem zgt {P:Program} {W:World} {name:String} {rest:List (String×DataW Unit)} {g:Nat} {t:TypeId} {ps:List MemPlace} {d:DataW Unit}
  (hg:P.globalNamed name=some g) (hty:(P.globals[g]?).map (·.type)=some t) (ht:((P.underlying t).map fun | .interface _=>true | _=>false)=some true)
  (hd:zBo d=true) (h:DataW.LaidVars P W ((name,d)::rest) ps):znV W F0 g [.any]∧∃ q,DataW.LaidVars P W rest q:=by
 obtain ⟨g',t',cs,fuel,p,q,hg',ht',hvar,htr,hr,_⟩:=h
 obtain rfl:=Option.some.inj (hg.symm.trans hg')
 obtain rfl:=Option.some.inj (hty.symm.trans ht')
 refine ⟨?_,q,hr⟩
 cases d with
 | iface n x=>
  have hrow:∃ u v,cs.toList=[Value.iface u v]:=by
   cases fuel with
   | zero=>simp [DataW.trod] at htr
   | succ fuel=>
    cases hun:P.underlying t with
    | none=>rw [hun] at ht;cases ht
    | some dd=>
     rw [hun] at ht
     cases dd with
     | interface ms=>
      generalize cs.toList=l at htr
      unfold DataW.trod at htr
      rw [hun] at htr
      match l,htr with
      | [],htr=>cases htr
      | [.nilIface],htr=>cases htr
      | [.iface u v],htr=>exact ⟨u,v,rfl⟩
      | a::b::r,htr=>cases a<;>cases htr
      | [.bool _],htr | [.int _ _],htr | [.float _ _],htr | [.string _],htr | [.pointer _],htr | [.slice _ _ _],htr | [.map _],htr | [.chan _],htr | [.func _ _ _],htr | [.nilFunc],htr | [.agg _],htr | [.tuple _],htr=>cases htr
     | _=>cases ht
  obtain ⟨u,v,hv⟩:=hrow
  have hcs:cs= #[Value.iface u v]:=by
   apply Array.ext'
   rw [hv]
  subst hcs
  unfold World.var? at hvar
  rw [hg] at hvar
  dsimp only [Option.bind_some] at hvar
  split at hvar
  ·rename_i cs t z hh
   cases hvar
   have hcell:W.cell? ⟨g,0,none⟩=some (.iface u v):=by simp only [World.cell?,hh];rfl
   refine ⟨.ptr _ _ _ (fun _=>.iface u v) (fun j c hj=>?_) (fun j c hj=>?_),fun off f=>f,⟨_,_,_,hh,.inl rfl⟩,fun _=>⟨u,v,hcell⟩⟩
   ·cases j with
    | zero=>exact ⟨hcell,fun f=>f⟩
    | succ j=>simp at hj
   ·cases j with
    | zero=>
     simp at hj
     subst hj
     exact .any _
    | succ j=>simp at hj
  ·cases hvar
 | _=>cases hd
end Go.Plat
namespace Go.Proofs.YtnkdeacghopkiaaGreatDoor
open Go Go.Plat
set_option linter.unusedVariables false
set_option linter.unusedSimpArgs false
set_option maxRecDepth 100000
set_option maxHeartbeats 2000000
open Go.ChangeShapes Go.WideShapes Go.ChangeAt Go.RowKit
attribute [local irreducible] AWP zG yn zK zn yA z8 zI zY z6 zw za zN yB zt z7 yx yy yq yt zx zz zD
theorem zxZ {W:World} (h:laidMetH Tryz.prog Rows.fairDeadUptoRow.laid W):GOk W F0:=by
 rw [MakeChecks.laidMetH_plain _ _ _ (by kernel_rfl)] at h
 obtain ⟨ps,h,_⟩:=h
 obtain ⟨h1,q1,h⟩:=zeT (k:=.u8) (zs:=[0,1,28,2,29,14,24,3,30,22,20,15,25,17,4,8,31,27,13,23,21,19,16,7,26,12,18,6,11,5,10,9]) (g:=1) (t:=235) (e:=5) (n:=32) (by kernel_rfl) (by kernel_rfl) (by kernel_rfl) (by kernel_rfl) (by kernel_rfl) (by kernel_rfl) (by kernel_rfl) h
 obtain ⟨h2,q2,h⟩:=zeT (k:=.u8) (zs:=[0,1,56,2,57,49,28,3,61,58,42,50,38,29,17,4,62,47,59,36,45,43,51,22,53,39,33,30,24,18,12,5,63,55,48,27,60,41,37,16,46,35,44,21,52,32,23,11,54,26,40,15,34,20,31,10,25,14,19,9,13,8,7,6]) (g:=2) (t:=236) (e:=5) (n:=64) (by kernel_rfl) (by kernel_rfl) (by kernel_rfl) (by kernel_rfl) (by kernel_rfl) (by kernel_rfl) (by kernel_rfl) h
 obtain ⟨h3,q3,h⟩:=zeT (k:=.u64) (zs:=Lib.pow10Tab) (g:=0) (t:=158) (e:=132) (n:=20) (by kernel_rfl) (by kernel_rfl) (by kernel_rfl) (by kernel_rfl) (by kernel_rfl) (by kernel_rfl) (by kernel_rfl) h
 obtain ⟨q4,h⟩:=zwi h
 obtain ⟨h5,q5,h⟩:=zgt (g:=7) (t:=240) (by kernel_rfl) (by kernel_rfl) (by kernel_rfl) rfl h
 obtain ⟨h6,q6,h⟩:=zgt (g:=6) (t:=240) (by kernel_rfl) (by kernel_rfl) (by kernel_rfl) rfl h
 show zug W F0 zhJ
 unfold zhJ
 exact zcH (zuh (k:=.u64) (by kernel_rfl) h3 (by kernel_rfl)) (zcH (zuh (k:=.u8) (by kernel_rfl) h1 (by kernel_rfl)) (zcH (zuh (k:=.u8) (by kernel_rfl) h2 (by kernel_rfl)) (zcH h6 (zcH h5 zxY))))
end Go.Proofs.YtnkdeacghopkiaaGreatDoor
