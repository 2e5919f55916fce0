/-
  A part of the proof: what the given program's functions answer, each once; conditions that are enough for it.
-/
import Derived.Test.YtnkdeacghopkiaaGreatDoorFw2
import GoSem.ClaimChange
import Derived.ChangeArms
import Derived.ChangeStays
import Derived.ChangeShapes
import Derived.OpenShut
import Derived.RowKit
import Derived.ChangeMaps5
import Derived.JoinedCond
namespace Go.Plat
open Go
set_option linter.unusedVariables false
set_option linter.unusedSimpArgs false
def LeD (d d':D):Prop:=∀ (w:World) (F:Nat→Nat→Prop) (ρ:Pl) (L:List Ob) (v:Value),Rep w F ρ L d v→Rep w F ρ L d' v
theorem LeD.refl (d:D):LeD d d:=fun _ _ _ _ _ h=>h
theorem LeD.of_eq {d d':D} (h:d=d'):LeD d d':=h ▸ .refl d
theorem LeD.trans {a b c:D} (h:LeD a b) (k:LeD b c):LeD a c:=fun w F ρ L v hr=>k w F ρ L v (h w F ρ L v hr)
theorem LeD.nil (e:Nat):LeD .nilsl (.sl e [] none):=fun w F ρ L v h=>by
 obtain ⟨a,rfl⟩:=h.nilsl_inv
 exact .pure _ _ zhN
theorem LeD.strip (e:Nat) (ds:List D) (t:Option Nat):LeD (.sl e ds t) (.sl e ds none):=fun w F ρ L v h=>.pure _ _ h.sl_inv
theorem LeD.tt {b:Bool} (h:b=true):LeD .tt (.bool b):=fun w F ρ L v hr=>by rw [hr.tt_inv,h];exact .pure _ _ (.bool _)
theorem LeD.ff {b:Bool} (h:b=false):LeD .ff (.bool b):=fun w F ρ L v hr=>by rw [hr.ff_inv,h];exact .pure _ _ (.bool _)
def LeL (ds ds':List D):Prop:=ds.length=ds'.length∧∀ (i:Nat) d d',ds[i]?=some d→ds'[i]?=some d'→LeD d d'
theorem LeL.refl (ds:List D):LeL ds ds:=⟨rfl,fun i d d' h1 h2=>by rw [h1] at h2;cases h2;exact .refl _⟩
theorem LeL.of_eq {ds ds':List D} (h:ds=ds'):LeL ds ds':=h ▸ .refl ds
theorem LeL.nil:LeL [] []:=.refl []
theorem LeL.cons {d d':D} {ds ds':List D} (h:LeD d d') (k:LeL ds ds'):LeL (d::ds) (d'::ds'):=⟨by simp [k.1],fun i a b ha hb=>by
 cases i with
 | zero=>simp at ha hb;subst ha;subst hb;exact h
 | succ i=>exact k.2 i a b (by simpa using ha) (by simpa using hb)⟩
theorem LeD.tup {ds ds':List D} (h:LeL ds ds'):LeD (.tup ds) (.tup ds'):=fun w F ρ L v hr=>by
 obtain ⟨vs,rfl,h1,h2⟩:=hr.tup_inv
 refine .tup _ _ (h1.trans h.1) fun i d v hd hv=>?_
 have hlt:i < ds.length:=by rw [h.1];exact (List.getElem?_eq_some_iff.1 hd).1
 exact h.2 i _ d (List.getElem?_eq_getElem hlt) hd _ _ _ _ _ (h2 i _ v (List.getElem?_eq_getElem hlt) hv)
theorem LeD.agg {ds ds':List D} (h:LeL ds ds'):LeD (.agg ds) (.agg ds'):=fun w F ρ L v hr=>by
 obtain ⟨vs,rfl,h1,h2⟩:=hr.agg_inv
 refine .agg _ _ (h1.trans h.1) fun i d v hd hv=>?_
 have hlt:i < ds.length:=by rw [h.1];exact (List.getElem?_eq_some_iff.1 hd).1
 exact h.2 i _ d (List.getElem?_eq_getElem hlt) hd _ _ _ _ _ (h2 i _ v (List.getElem?_eq_getElem hlt) hv)
def Nz (e tok:Nat) (d d':D):Prop:=d'=d∨(d= .nilsl∧d'= .sl e [] (some tok))
theorem zmk {n0 e:Nat} {L:List Ob}:xJ n0 (Nz e L.length) L (L++[.spare 0]):=fun w ρ hf=>by
 obtain ⟨h1,h2⟩:=hf.snoc (Ext.refl F0 w) (o:=.spare 0) (l:=⟨0,0,0⟩) (fun b off h=>by
  obtain ⟨_,h3,h4⟩:=h
  have h4:off < 0+0:=h4
  omega) (fun j hj=>by simp at hj)
 have hc:zX ρ L (upd ρ L.length ⟨0,0,0⟩) (L++[.spare 0]):=.snoc _ _ _ _
 refine ⟨_,h1,fun d d' v hd hr=>?_,fun b off h=>?_,fun ρ0 L0 hl h0=>h0.trans hc⟩
 ·rcases hd with rfl | ⟨rfl,rfl⟩
  ·exact hr.keep (Ext.refl _ _) (h2.foot rfl) hc
  ·obtain ⟨a,rfl⟩:=hr.nilsl_inv
   refine .tok _ _ _ _ (by simp) zhN fun n hn=>?_
   simp at hn
   subst hn
   refine ⟨Nat.le_refl _,fun _=>?_⟩
   rw [zZ]
   cases a with
   | none=>exact ⟨rfl,rfl⟩
   | some x=>exact .inr ⟨rfl,rfl⟩
 ·rcases zfo h with h | ⟨_,h3,h4⟩
  ·exact h
  ·have h4:off < 0+0:=h4
   omega
theorem zaH {n0:Nat} {φ:D→D→Prop} {σ σ':List (Nat×D)} {L L':List Ob} (hS:xJ n0 φ L L') (h:∀ t,yr σ' t= .any∨φ (yr σ t) (yr σ' t)):wn n0 σ L σ' L':=⟨φ,hS,h⟩
theorem xK {n0:Nat} {σ σ1 σ2:List (Nat×D)} {L L1 L2:List Ob} (h:wn n0 σ L σ1 L1) (k:wn n0 σ1 L1 σ2 L2):wn n0 σ L σ2 L2:=by
 obtain ⟨φ,h1,h2⟩:=h
 obtain ⟨ψ,k1,k2⟩:=k
 refine ⟨fun d d''=>∃ d',(d'= .any∨φ d d')∧ψ d' d'',fun w ρ hf=>?_,fun t=>?_⟩
 ·obtain ⟨ρ1,a1,a2,a3,a4⟩:=h1 w ρ hf
  obtain ⟨ρ2,b1,b2,b3,b4⟩:=k1 w ρ1 a1
  refine ⟨ρ2,b1,fun d d'' v hd hr=>?_,fun b off ho=>a3 b off (b3 b off ho),fun ρ0 L0 e hc=>b4 ρ0 L0 e (a4 ρ0 L0 e hc)⟩
  obtain ⟨d',hd1,hd2⟩:=hd
  refine b2 d' d'' v hd2 ?_
  rcases hd1 with rfl | hd1
  ·exact .pure _ _ (.any _)
  ·exact a2 d d' v hd1 hr
 ·rcases k2 t with h | h
  ·exact .inl h
  ·exact .inr ⟨_,h2 t,h⟩
theorem zoj (t:Nat) (d:D) (σ:List (Nat×D)) (u:Nat):yr ((t,d)::σ) u=if t=u then d else yr σ u:=by
 simp only [yr]
 by_cases h:t=u
 ·subst h;simp
 ·have:Nat.beq t u=false:=by rw [Bool.eq_false_iff];intro h';exact h (Nat.eq_of_beq_eq_true h')
  rw [this,if_neg h]
theorem qV {n0:Nat} {σ:List (Nat×D)} {L:List Ob} (t e:Nat) (h:yr σ t= .nilsl):wn n0 σ L ((t,.sl e [] (some L.length))::σ) (L++[.spare 0]):=
 zaH zmk fun u=>by
  rw [zoj]
  split
  ·rename_i hu;subst hu;exact .inr (.inr ⟨h,rfl⟩)
  ·exact .inr (.inl rfl)
theorem x8 {P:Program} {n:Nat} {E:xp} {c:Code} {Q:Ex→List (Nat×D)→List Ob→Prop} {σ σ':List (Nat×D)} {L L':List Ob} (h:wn E.L.length σ L σ' L') (hk:AWP P n E c Q σ' L'):AWP P n E c Q σ L:=
 fun a w hr=>hk a w (h.rel hr)
theorem zcg {n0:Nat} {φ:D→D→Prop} {r r1 d:D} {L L1 L':List Ob} (hS:xJ n0 φ L L1) (hr:φ r r1) (h:zI n0 r1 d L1 L') (hlen:n0≤L'.length):zI n0 r d L L':=by
 have h2:∃ φ,xJ n0 φ L1 L'∧φ r1 d:=by
  rcases h with h | h
  ·obtain ⟨r',hr1,hr2⟩:=w8 h
   obtain ⟨L3,⟨hr3,hr4⟩,_,hS⟩:=kY hr2 hlen
   have hr3:=hr3.out
   have hr4:=hr4.out
   subst hr3
   subst hr4
   exact ⟨_,hS,hr1⟩
  ·exact h
 obtain ⟨ψ,h3,h4⟩:=h2
 exact .inr ⟨_,hS.trans h3,r1,hr,h4⟩
theorem vH {n0:Nat} {r r1 d:D} {L L':List Ob} (hr:LeD r r1) (h:zI n0 r1 d L L') (hlen:n0≤L'.length):zI n0 r d L L':=
 zcg (φ:=LeD) (fun w ρ hf=>⟨ρ,hf,fun d d' v hd hr=>hd _ _ _ _ _ hr,fun _ _ h=>h,fun _ _ _ h=>h⟩) hr h hlen
theorem zyq {n0 e:Nat} {d:D} {L L':List Ob} (h:zI n0 (.sl e [] (some L.length)) d (L++[.spare 0]) L') (hlen:n0≤L'.length):zI n0 .nilsl d L L':=
 zcg zmk (.inr ⟨rfl,rfl⟩) h hlen
theorem zd {r d:D} {L:List Ob} (h:zdp r fun r'=>VS (LeD r' d)):zI 0 r d L []:=by
 obtain ⟨r',h1,h2⟩:=zd2 h
 refine .inr ⟨fun a b=>a=r∧b=d,fun w ρ hf=>⟨ρ,⟨hf.glob.less fun b off hb=>by
  rcases hb with ⟨k,o,hk,_⟩ | hb
  ·simp at hk
  ·exact .inr hb,hf.hid,fun b off ⟨k,o,hk,_⟩=>by simp at hk,by simp,by simp⟩,?_,fun b off ⟨k,o,hk,_⟩=>by simp at hk,fun ρ0 L0 hl hc=>?_⟩,rfl,rfl⟩
 ·rintro a b v ⟨rfl,rfl⟩ hr
  refine h2.out w _ ρ [] v (.pure _ _ ((h1.2 _ _ _ _ _ hr).less fun b off hb=>?_))
  rcases hb with ⟨k,o,hk,_⟩ | hb
  ·simp at hk
  ·exact .inr hb
 ·have:L0=[]:=List.eq_nil_of_length_eq_zero hl
  subst this
  exact ⟨hc.hid,by simp,by simp,by simp,by simp,by simp⟩
theorem zgq {α:Type} {I:α→Prop} {S:α→List (Nat×D)} {O:α→List Ob} {μ:α→Nat} {p:α} {σ σ1:List (Nat×D)} {L L1:List Ob} (p':α) (h1:I p') (h2:μ p' < μ p) {n0:Nat}
  (hw:wn n0 σ L σ1 L1) (hn:n0≤(O p').length) (h3:zhX σ1 L1 (S p') (O p')):zw n0 I S O μ p σ L:=⟨p',h1,h2,.inr (xK hw (h3.weak hn))⟩
def qd:List Nat→Nat→Option Nat
 | [],_=>none
 | j::_,0=>some j
 | _::js,i+1=>qd js i
theorem ze1:∀ (js:List Nat) (i:Nat),qd js i=js[i]?
 | [],i=>by simp [qd]
 | j::js,0=>by simp [qd]
 | j::js,i+1=>by simpa [qd] using ze1 js i
def znG:List Nat→Nat→Bool
 | [],_=>true
 | j::js,n=>match Nat.beq j n with
  | true=>znG js (n+1)
  | false=>false
theorem zok:∀ {js:List Nat} {n:Nat},znG js n=true→∀ (i:Nat) j,js[i]?=some j→j=n+i
 | [],n,_,i,j,h=>by simp at h
 | a::js,n,h,i,j,hj=>by
  simp only [znG] at h
  split at h
  ·rename_i hb
   have:=Nat.eq_of_beq_eq_true hb
   cases i with
   | zero=>simp at hj;omega
   | succ i=>have:=zok h i j (by simpa using hj);omega
  ·cases h
def zg1 (m:Nat→Option Nat):List Nat→List Ob→List Ob→(List Ob→Prop)→Prop:=
 @List.rec Nat (fun _=>List Ob→List Ob→(List Ob→Prop)→Prop)
  (fun L1 L K=>@List.rec Ob (fun _=>(List Ob→Prop)→Prop) (fun K=>K []) (fun o _ ih K=>zab m o fun o=>ih fun r=>K (o::r)) L1 fun r=>K (L++r))
  (fun k _ ih L1 L K=>match L1 with
    | []=>False
    | o::L1=>zab m o fun o=>w4 k o L fun L=>ih L1 L K)
def zlt (m:Nat→Option Nat):List Ob→(List Ob→Prop)→Prop:=
 @List.rec Ob (fun _=>(List Ob→Prop)→Prop) (fun K=>K []) (fun o _ ih K=>zab m o fun o=>ih fun r=>K (o::r))
theorem zke {m:Nat→Option Nat}:∀ {L:List Ob} {K:List Ob→Prop},zlt m L K→∃ L',K L'∧L'.length=L.length∧∀ (i:Nat) o o',L[i]?=some o→L'[i]?=some o'→yu m o o'
 | [],K,h=>⟨[],h,rfl,by simp⟩
 | o::L,K,h=>by
  change zab m o (fun o=>zlt m L fun r=>K (o::r)) at h
  obtain ⟨o',h1,h2⟩:=zeb h
  obtain ⟨L',h3,h4,h5⟩:=zke h2
  refine ⟨_,h3,by simp [h4],fun i a b ha hb=>?_⟩
  cases i with
  | zero=>simp at ha hb;subst ha;subst hb;exact h1
  | succ i=>exact h5 i a b (by simpa using ha) (by simpa using hb)
theorem zsV {m:Nat→Option Nat} {L1 L:List Ob} {K:List Ob→Prop}:zg1 m [] L1 L K=zlt m L1 fun r=>K (L++r):=rfl
theorem zqH {m:Nat→Option Nat} {k:Nat} {ks:List Nat} {o:Ob} {L1 L:List Ob} {K:List Ob→Prop}:zg1 m (k::ks) (o::L1) L K=zab m o fun o=>w4 k o L fun L=>zg1 m ks L1 L K:=rfl
theorem zml {m:Nat→Option Nat}:∀ {ks:List Nat} {L1 L:List Ob} {K:List Ob→Prop},wI ks=true→(∀ k∈ks,k < L.length)→zg1 m ks L1 L K →
  ∃ L',K L'∧ks.length≤L1.length∧L'.length=L.length+(L1.length - ks.length) ∧
   (∀ k,k < L.length→k∉ks→L'[k]?=L[k]?) ∧
   (∀ (i k:Nat),ks[i]?=some k→∃ o o',L1[i]?=some o∧L'[k]?=some o'∧yu m o o') ∧
   (∀ (i:Nat) o,L1[ks.length+i]?=some o→∃ o',L'[L.length+i]?=some o'∧yu m o o')
 | [],L1,L,K,_,_,h=>by
  rw [zsV] at h
  obtain ⟨R,h1,h2,h3⟩:=zke h
  refine ⟨_,h1,Nat.zero_le _,by simp [h2],fun k hk _=>by rw [List.getElem?_append_left hk],by simp,fun i o ho=>?_⟩
  simp only [List.length_nil,Nat.zero_add] at ho
  have hi:i < R.length:=by rw [h2];exact (List.getElem?_eq_some_iff.1 ho).1
  refine ⟨R[i],?_,h3 i o _ ho (List.getElem?_eq_getElem hi)⟩
  rw [List.getElem?_append_right (by omega),Nat.add_sub_cancel_left,List.getElem?_eq_getElem hi]
 | k::ks,[],L,K,_,_,h=>h.elim
 | k::ks,o::L1,L,K,hnd,hlt,h=>by
  rw [zqH] at h
  obtain ⟨o',h1,h2⟩:=zeb h
  have h2:=wF h2
  have hk:k∉ks:=by
   simp only [wI] at hnd
   split at hnd
   ·cases hnd
   ·rename_i hm;exact zfx hm
  have hnd':wI ks=true:=by
   simp only [wI] at hnd
   split at hnd
   ·cases hnd
   ·exact hnd
  obtain ⟨L',h3,h4,h5,h6,h7,h8⟩:=zml hnd' (fun j hj=>by rw [List.length_set];exact hlt j (List.mem_cons_of_mem _ hj)) h2
  simp only [List.length_set] at h5 h6 h8
  have hkl:=hlt k (by simp)
  refine ⟨L',h3,by simp;omega,by simp only [List.length_cons];omega,fun j hj hjk=>?_,fun i j hij=>?_,fun i x hx=>h8 i x (by simpa [Nat.add_right_comm] using hx)⟩
  ·rw [h6 j hj (fun h=>hjk (List.mem_cons_of_mem _ h)),List.getElem?_set_ne (fun e=>hjk (by simp [e]))]
  ·cases i with
   | zero=>
    simp at hij
    subst hij
    exact ⟨o,o',by simp,by rw [h6 k hkl hk,List.getElem?_set_self hkl],h1⟩
   | succ i=>
    obtain ⟨a,b,h9,h10,h11⟩:=h7 i j (by simpa using hij)
    exact ⟨a,b,by simpa using h9,h10,h11⟩
theorem yu.cells_inv {m:Nat→Option Nat} {o:Ob} {ds:List D} (h:yu m o (.cells ds)):∃ ds',o= .cells ds':=by
 cases o<;>simp only [yu] at h
 ·exact ⟨_,rfl⟩
 ·obtain ⟨_,h,_⟩:=h;cases h
 ·cases h
 ·cases h.1
 ·cases h
theorem yu.map_inv {m:Nat→Option Nat} {o:Ob} {ds:List (D×D)} (h:yu m o (.map ds)):o= .map ds:=by
 cases o<;>simp only [yu] at h
 ·obtain ⟨_,h,_⟩:=h;cases h
 ·obtain ⟨_,h,_⟩:=h;cases h
 ·cases h
 ·rw [h.1]
 ·cases h
theorem yu.spare_inv {m:Nat→Option Nat} {o:Ob} {n:Nat} (h:yu m o (.spare n)):o= .spare n:=by
 cases o<;>simp only [yu] at h
 ·obtain ⟨_,h,_⟩:=h;cases h
 ·obtain ⟨_,h,_⟩:=h;cases h
 ·rw [h]
 ·cases h.1
 ·cases h
theorem yu.arr_inv {m:Nat→Option Nat} {o:Ob} {e:Nat} {ds:List D} (h:yu m o (.arr e ds)):∃ ds',o= .arr e ds'∧ds'.length=ds.length:=by
 cases o<;>simp only [yu] at h
 ·obtain ⟨_,h,_⟩:=h;cases h
 ·obtain ⟨_,h,h1,_⟩:=h;cases h;exact ⟨_,rfl,h1⟩
 ·cases h
 ·cases h.1
 ·cases h
theorem zol {m:Nat→Option Nat} {ρ:Pl} {L:List Ob} {ρ':Pl} {L':List Ob}
  (h:∀ k k',m k=some k'→k < L.length→ρ' k'=ρ k∧∃ o o',L[k]?=some o∧L'[k']?=some o'∧yu m o o'):zd6 m ρ L ρ' L':=by
 refine ⟨fun k k' h1 h2=>?_,fun k k' h1 h2=>(h k k' h1 h2).1,fun k k' ds h1 h2 h3=>?_,fun k k' ds h1 h2 h3=>?_,fun k k' n h1 h2 h3=>?_,fun k k' e ds h1 h2 h3=>?_⟩
 all_goals obtain ⟨_,o,o',g1,g2,g3⟩:=h k k' h1 h2
 ·exact (List.getElem?_eq_some_iff.1 g2).1
 all_goals
  rw [h3] at g2
  cases g2
 ·obtain ⟨ds',rfl⟩:=g3.cells_inv;exact ⟨_,g1⟩
 ·have:=g3.map_inv;subst this;exact ⟨_,g1⟩
 ·have:=g3.spare_inv;subst this;exact g1
 ·obtain ⟨ds',rfl,h4⟩:=g3.arr_inv;exact ⟨_,g1,h4⟩
theorem za7 {P:Program} {f:Nat} {spec:j0} (hm:za P f spec) {ks js:List Nat} {as as1:List D} {L L1:List Ob} {d1 d:D} {L1' L':List Ob}
  (hnd:wI ks=true) (hks:∀ k∈ks,k < L.length) (hjs:∀ i,i < ks.length→js[i]?=ks[i]?) (hjn:∀ (i:Nat) j,js[ks.length+i]?=some j→j=L.length+i)
  (has:qC (zM ks 0) as as1) (hL1:L1.length=ks.length) (hL1o:∀ (i:Nat) o',L1[i]?=some o'→∃ j o,ks[i]?=some j∧L[j]?=some o∧yu (zM ks 0) o o')
  (hs:spec as1 L1 d1 L1') (hd:xI (qd js) d1 d)
  (hle:ks.length≤L1'.length) (hlen:L'.length=L.length+(L1'.length - ks.length))
  (hsame:∀ k,k < L.length→k∉ks→L'[k]?=L[k]?)
  (hback:∀ (i k:Nat),ks[i]?=some k→∃ o o',L1'[i]?=some o∧L'[k]?=some o'∧yu (qd js) o o')
  (hnew:∀ (i:Nat) o,L1'[ks.length+i]?=some o→∃ o',L'[L.length+i]?=some o'∧yu (qd js) o o')
  {w:World} {ρ:Pl} {vs:List Value} (hf:yE w ρ L) (hr:zcM w (foot ρ L) ρ L as vs) :
  Calls P f vs.toArray w fun e w'=>∃ v ρ',e= .returned v∧wc w ρ L d L' v w' ρ':=by
 have hnd:=zec hnd
 have hkeep:∀ k k',zM ks 0 k=some k'→ks[k']?=some k:=fun k k' h=>by
  have:=(zc4 h).2
  simpa using this
 have hmem:∀ {k:Nat},k∈ks→∃ i,ks[i]?=some k:=fun h=>by
  obtain ⟨i,hi,rfl⟩:=List.getElem_of_mem h
  exact ⟨i,List.getElem?_eq_getElem hi⟩
 let F1:Nat→Nat→Prop:=fun b off=>∃ k o,k∉ks∧L[k]?=some o∧o.owns (ρ k) b off
 let ρ1:Pl:=⟨fun i=>ρ ((ks[i]?).getD 0),fun b off=>F1 b off∨ρ.hid b off⟩
 have hρ1:∀ i j,ks[i]?=some j→ρ1 i=ρ j:=fun i j h=>by show ρ ((ks[i]?).getD 0)=ρ j;rw [h];rfl
 have hF1:∀ b off,F1 b off→own ρ L b off:=fun b off ⟨k,o,_,h1,h2⟩=>⟨k,o,h1,h2⟩
 have hown1:∀ b off,own ρ1 L1 b off→own ρ L b off∧¬ F1 b off:=by
  rintro b off ⟨i,o',h1,h2⟩
  obtain ⟨j,o,h3,h4,h5⟩:=hL1o i o' h1
  rw [hρ1 _ _ h3] at h2
  have h2:=(h5.owns _ _ _).1 h2
  refine ⟨⟨j,o,h4,h2⟩,fun ⟨k,x,h6,h7,h8⟩=>?_⟩
  have:=hf.disj _ _ _ _ _ _ h4 h7 h2 h8
  subst this
  exact h6 (List.mem_of_getElem? h3)
 have hfoot1:∀ b off,foot ρ1 L1 b off→foot ρ L b off:=by
  rintro b off (h | h | h)
  ·exact .inl (hown1 _ _ h).1
  ·exact .inl (hF1 _ _ h)
  ·exact .inr h
 have hren1:zd6 (zM ks 0) ρ L ρ1 L1:=zol fun k k' h1 h2=>by
  have hk:=hkeep _ _ h1
  have hlt:k' < L1.length:=by rw [hL1];exact (List.getElem?_eq_some_iff.1 hk).1
  obtain ⟨j,o,h3,h4,h5⟩:=hL1o k' _ (List.getElem?_eq_getElem hlt)
  rw [hk] at h3
  cases h3
  exact ⟨hρ1 _ _ hk,o,_,h4,List.getElem?_eq_getElem hlt,h5⟩
 have hfits1:yE w ρ1 L1:=by
  refine ⟨hf.glob.less hfoot1,fun b off h=>?_,fun b off h h'=>?_,fun i o' hi=>?_,fun i i' o o' b off h1 h2 h3 h4=>?_⟩
  ·rcases h with h | h
   ·exact hf.foot_lt (.inl (hF1 _ _ h))
   ·exact hf.hid _ _ h
  ·rcases h' with h' | h'
   ·exact (hown1 _ _ h).2 h'
   ·exact hf.sep _ _ (hown1 _ _ h).1 h'
  ·obtain ⟨j,o,h3,h4,h5⟩:=hL1o i o' hi
   rw [hρ1 _ _ h3]
   exact (hf.obj j o h4).ren hren1 hfoot1 h5
  ·obtain ⟨j,x,h5,h6,h7⟩:=hL1o i o h1
   obtain ⟨j',x',k5,k6,k7⟩:=hL1o i' o' h2
   rw [hρ1 _ _ h5] at h3
   rw [hρ1 _ _ k5] at h4
   have:=hf.disj j j' x x' b off h6 k6 ((h7.owns _ _ _).1 h3) ((k7.owns _ _ _).1 h4)
   subst this
   exact hnd _ _ _ h5 k5
 have hrep1:zcM w (foot ρ1 L1) ρ1 L1 as1 vs:=⟨hr.1.trans has.1,fun i d v h1 h2=>by
  have hlt:i < as.length:=by rw [has.1];exact (List.getElem?_eq_some_iff.1 h1).1
  exact has.2 i _ d (List.getElem?_eq_getElem hlt) h1 _ _ _ _ _ _ _ _ hren1 hfoot1 (hr.2 i _ v (List.getElem?_eq_getElem hlt) h2)⟩
 refine (hm.2 as1 L1 d1 L1' hs w ρ1 vs hfits1 hrep1).mono ?_
 rintro e w' ⟨v,ρ1',he,hp⟩
 let ρ':Pl:=⟨fun k=>match zM ks 0 k with | some i=>ρ1' i | none=>if k < L.length then ρ k else ρ1' (ks.length+(k - L.length)),ρ.hid⟩
 have hkn:∀ k,k∉ks→zM ks 0 k=none:=fun k hk=>by
  cases h:zM ks 0 k with
  | none=>rfl
  | some i=>exact (hk (List.mem_of_getElem? (hkeep _ _ h))).elim
 have hkeepAt:∀ i k,ks[i]?=some k→zM ks 0 k=some i:=fun i k h=>by
  have:∀ (js:List Nat) (q:Nat),k∈js→∃ r,zM js q k=some r:=by
   intro js
   induction js with
   | nil=>intro q h;simp at h
   | cons a js ih=>
    intro q h
    simp only [zM]
    split
    ·exact ⟨_,rfl⟩
    ·rename_i hb
     refine ih _ ((List.mem_cons.1 h).resolve_left fun e=>?_)
     subst e
     simp at hb
  obtain ⟨r,hr⟩:=this ks 0 (List.mem_of_getElem? h)
  rw [hr,hnd _ _ _ (hkeep _ _ hr) h]
 have hp1:∀ i k,ks[i]?=some k→ρ' k=ρ1' i:=fun i k h=>by
  show (match zM ks 0 k with | some i=>ρ1' i | none=>if k < L.length then ρ k else ρ1' (ks.length+(k - L.length)))=ρ1' i
  rw [hkeepAt _ _ h]
 have hp2:∀ k,k∉ks→k < L.length→ρ' k=ρ k:=fun k h1 h2=>by
  show (match zM ks 0 k with | some i=>ρ1' i | none=>if k < L.length then ρ k else ρ1' (ks.length+(k - L.length)))=ρ k
  rw [hkn _ h1];simp [h2]
 have hp3:∀ i,ρ' (L.length+i)=ρ1' (ks.length+i):=fun i=>by
  show (match zM ks 0 (L.length+i) with | some i=>ρ1' i | none=>if L.length+i < L.length then ρ (L.length+i) else ρ1' (ks.length+(L.length+i - L.length)))=_
  rw [hkn _ (fun h=>by have:=hks _ h;omega)]
  show (if L.length+i < L.length then ρ (L.length+i) else ρ1' (ks.length+(L.length+i - L.length)))=_
  rw [if_neg (by omega),Nat.add_sub_cancel_left]
 have hfrom:∀ (k:Nat) o,L'[k]?=some o→(k < L.length∧k∉ks∧L[k]?=some o∧ρ' k=ρ k)∨(∃ i o1,L1'[i]?=some o1∧yu (qd js) o1 o∧ρ' k=ρ1' i∧((i < ks.length∧ks[i]?=some k)∨(ks.length≤i∧k=L.length+(i - ks.length)))):=by
  intro k o hk
  rcases Nat.lt_or_ge k L.length with hlt | hge
  ·rcases Classical.em (k∈ks) with hin | hin
   ·obtain ⟨i,hi⟩:=hmem hin
    obtain ⟨o1,o',h1,h2,h3⟩:=hback i k hi
    rw [hk] at h2
    cases h2
    exact .inr ⟨i,o1,h1,h3,hp1 _ _ hi,.inl ⟨(List.getElem?_eq_some_iff.1 hi).1,hi⟩⟩
   ·rw [hsame k hlt hin] at hk
    exact .inl ⟨hlt,hin,hk,hp2 k hin hlt⟩
  ·have hkl:=(List.getElem?_eq_some_iff.1 hk).1
   obtain ⟨i,rfl⟩:∃ i,k=L.length+i:=⟨k - L.length,by omega⟩
   have hil:ks.length+i < L1'.length:=by omega
   obtain ⟨o',h1,h2⟩:=hnew i _ (List.getElem?_eq_getElem hil)
   rw [hk] at h1
   cases h1
   exact .inr ⟨ks.length+i,_,List.getElem?_eq_getElem hil,h2,hp3 i,.inr ⟨by omega,by omega⟩⟩
 have hto:∀ (i:Nat) o1,L1'[i]?=some o1→∃ k o,L'[k]?=some o∧yu (qd js) o1 o∧ρ' k=ρ1' i∧((i < ks.length∧ks[i]?=some k)∨(ks.length≤i∧k=L.length+(i - ks.length))):=by
  intro i o1 hi
  rcases Nat.lt_or_ge i ks.length with hlt | hge
  ·have hki:=List.getElem?_eq_getElem hlt
   obtain ⟨o,o',h1,h2,h3⟩:=hback i _ hki
   rw [hi] at h1
   cases h1
   exact ⟨_,o',h2,h3,hp1 _ _ hki,.inl ⟨hlt,hki⟩⟩
  ·obtain ⟨q,rfl⟩:∃ q,i=ks.length+q:=⟨i - ks.length,by omega⟩
   obtain ⟨o',h1,h2⟩:=hnew q o1 hi
   exact ⟨_,o',h1,h2,hp3 q,.inr ⟨by omega,by omega⟩⟩
 have hown':∀ b off,own ρ' L' b off→F1 b off∨own ρ1' L1' b off:=by
  rintro b off ⟨k,o,h1,h2⟩
  rcases hfrom k o h1 with ⟨_,h3,h4,h5⟩ | ⟨i,o1,h3,h4,h5,_⟩
  ·rw [h5] at h2;exact .inl ⟨k,o,h3,h4,h2⟩
  ·rw [h5] at h2;exact .inr ⟨i,o1,h3,(h4.owns _ _ _).1 h2⟩
 have hownB:∀ b off,F1 b off∨own ρ1' L1' b off→own ρ' L' b off:=by
  rintro b off (⟨k,o,h1,h2,h3⟩ | ⟨i,o1,h1,h2⟩)
  ·have hlt:=(List.getElem?_eq_some_iff.1 h2).1
   exact ⟨k,o,by rw [hsame k hlt h1,h2],by rw [hp2 k h1 hlt];exact h3⟩
  ·obtain ⟨k,o,h3,h4,h5,_⟩:=hto i o1 h1
   exact ⟨k,o,h3,by rw [h5];exact (h4.owns _ _ _).2 h2⟩
 have hhid1:∀ b off,ρ1'.hid b off↔F1 b off∨ρ.hid b off:=fun b off=>by rw [hp.compat.hid]
 have hfoot':∀ b off,foot ρ' L' b off→foot ρ1' L1' b off:=by
  rintro b off (h | h)
  ·rcases hown' _ _ h with h | h
   ·exact .inr ((hhid1 _ _).2 (.inl h))
   ·exact .inl h
  ·exact .inr ((hhid1 _ _).2 (.inr h))
 have hm':∀ i k,qd js i=some k→i < L1'.length→(i < ks.length∧ks[i]?=some k)∨(ks.length≤i∧k=L.length+(i - ks.length)):=fun i k h1 h2=>by
  rw [ze1] at h1
  rcases Nat.lt_or_ge i ks.length with hlt | hge
  ·rw [hjs i hlt] at h1;exact .inl ⟨hlt,h1⟩
  ·refine .inr ⟨hge,hjn (i - ks.length) k ?_⟩
   rw [show ks.length+(i - ks.length)=i by omega];exact h1
 have hren':zd6 (qd js) ρ1' L1' ρ' L':=zol fun i k h1 h2=>by
  obtain ⟨k',o,h3,h4,h5,h6⟩:=hto i _ (List.getElem?_eq_getElem h2)
  have:k'=k:=by
   rcases hm' i k h1 h2 with ⟨a,b⟩ | ⟨a,b⟩<;>rcases h6 with ⟨c,d⟩ | ⟨c,d⟩
   ·rw [b] at d;cases d;rfl
   ·omega
   ·omega
   ·omega
  subst this
  exact ⟨h5,_,o,List.getElem?_eq_getElem h2,h3,h4⟩
 have hc:zX ρ L ρ' L':=by
  have get:∀ (k:Nat) o',k < L.length→L'[k]?=some o'→(L[k]?=some o'∧ρ' k=ρ k)∨∃ i o o1 o2,ks[i]?=some k∧i < L1.length∧L[k]?=some o∧L1[i]?=some o1∧yu (zM ks 0) o o1∧L1'[i]?=some o2∧yu (qd js) o2 o'∧ρ' k=ρ1' i∧ρ1 i=ρ k:=by
   intro k o' hk h
   rcases hfrom k o' h with ⟨_,_,h3,h4⟩ | ⟨i,o2,h3,h4,h5,h6⟩
   ·exact .inl ⟨h3,h4⟩
   ·rcases h6 with ⟨h6,h7⟩ | ⟨h6,h7⟩
    ·have hi1:i < L1.length:=by omega
     obtain ⟨j,o,h8,h9,h10⟩:=hL1o i _ (List.getElem?_eq_getElem hi1)
     rw [h7] at h8
     cases h8
     exact .inr ⟨i,o,_,o2,h7,hi1,h9,List.getElem?_eq_getElem hi1,h10,h3,h4,h5,hρ1 _ _ h7⟩
    ·omega
  refine ⟨rfl,by omega,fun k ds' hk h=>?_,fun k ds' hk h=>?_,fun k n hk h=>?_,fun k e ds' hk h=>?_⟩
  all_goals rcases get k _ hk h with ⟨h1,h2⟩ | ⟨i,o,o1,o2,g1,g2,g3,g4,g5,g6,g7,g8,g9⟩
  ·exact ⟨_,h1,h2⟩
  ·obtain ⟨d2,rfl⟩:=g7.cells_inv
   obtain ⟨d3,h3,h4⟩:=hp.compat.cells i d2 g2 g6
   rw [g4] at h3;cases h3
   obtain ⟨d4,rfl⟩:=g5.cells_inv
   exact ⟨d4,g3,by rw [g8,h4,g9]⟩
  ·exact ⟨_,h1,h2⟩
  ·have:=g7.map_inv
   subst this
   obtain ⟨d3,h3,h4⟩:=hp.compat.map i _ g2 g6
   rw [g4] at h3;cases h3
   have:=g5.map_inv
   subst this
   exact ⟨_,g3,by rw [g8,h4,g9]⟩
  ·exact ⟨_,h1,Nat.le_refl _,fun _=>h2⟩
  ·have:=g7.spare_inv
   subst this
   obtain ⟨n3,h3,h4,h5⟩:=hp.compat.spare i _ g2 g6
   rw [g4] at h3;cases h3
   have:=g5.spare_inv
   subst this
   exact ⟨_,g3,h4,fun e=>by rw [g8,h5 e,g9]⟩
  ·exact ⟨_,h1,Nat.le_refl _,fun _=>h2⟩
  ·obtain ⟨d2,rfl,l2⟩:=g7.arr_inv
   obtain ⟨d3,h3,h4,h5⟩:=hp.compat.arr i _ _ g2 g6
   rw [g4] at h3;cases h3
   obtain ⟨d4,rfl,l4⟩:=g5.arr_inv
   exact ⟨d4,g3,by omega,fun e=>by rw [g8,h5 (by omega),g9]⟩
 have hfresh:yU w (own ρ L) (own ρ' L'):=fun b off h=>by
  rcases hown' _ _ h with h | h
  ·exact .inl (hF1 _ _ h)
  ·rcases hp.fresh b off h with h | h
   ·exact .inl (hown1 _ _ h).1
   ·exact .inr h
 have hsep:∀ b off,F1 b off→own ρ1' L1' b off→False:=fun b off h1 h2=>hp.fits.sep b off h2 ((hhid1 _ _).2 (.inl h1))
 refine ⟨v,ρ',he,?_,?_,hp.ext.mono fun b off _ h=>(hown1 _ _ h).1,hfresh,hc⟩
 ·refine hf.change (own ρ1 L1) (fun b off h=>(hown1 _ _ h).1) hp.ext hc hfresh (fun k k' o o' b off h1 h2 h3 h4=>?_) fun k o hk=>?_
  ·rcases hfrom k o h1 with ⟨a1,a2,a3,a4⟩ | ⟨i,o1,a1,a2,a3,a4⟩<;>rcases hfrom k' o' h2 with ⟨b1,b2,b3,b4⟩ | ⟨i',o1',b1,b2,b3,b4⟩
   ·rw [a4] at h3;rw [b4] at h4
    exact hf.disj _ _ _ _ _ _ a3 b3 h3 h4
   ·rw [a4] at h3;rw [b3] at h4
    exact (hsep b off ⟨k,o,a2,a3,h3⟩ ⟨i',o1',b1,(b2.owns _ _ _).1 h4⟩).elim
   ·rw [a3] at h3;rw [b4] at h4
    exact (hsep b off ⟨k',o',b2,b3,h4⟩ ⟨i,o1,a1,(a2.owns _ _ _).1 h3⟩).elim
   ·rw [a3] at h3;rw [b3] at h4
    have:=hp.fits.disj _ _ _ _ _ _ a1 b1 ((a2.owns _ _ _).1 h3) ((b2.owns _ _ _).1 h4)
    subst this
    rcases a4 with ⟨c1,c2⟩ | ⟨c1,c2⟩<;>rcases b4 with ⟨d1,d2⟩ | ⟨d1,d2⟩
    ·rw [c2] at d2;cases d2;rfl
    ·omega
    ·omega
    ·omega
  ·rcases hfrom k o hk with ⟨a1,a2,a3,a4⟩ | ⟨i,o1,a1,a2,a3,a4⟩
   ·exact .inl ⟨a1,a3,a4,fun b off h h'=>(hown1 _ _ h').2 ⟨k,o,a2,a3,h⟩⟩
   ·refine .inr ?_
    rw [a3]
    exact (hp.fits.obj i o1 a1).ren hren' hfoot' a2
 ·exact hd _ _ _ _ _ _ _ _ hren' hfoot' hp.rep
def zkf:List Nat→List Nat→Nat→Bool
 | [],js,n=>znG js n
 | _::_,[],_=>false
 | k::ks,j::js,n=>match Nat.beq j k with
  | true=>zkf ks js n
  | false=>false
theorem zom:∀ {ks js:List Nat} {n:Nat},zkf ks js n=true→(∀ i,i < ks.length→js[i]?=ks[i]?)∧∀ (i:Nat) j,js[ks.length+i]?=some j→j=n+i
 | [],js,n,h=>⟨fun i hi=>by simp at hi,fun i j hj=>zok h i j (by simpa using hj)⟩
 | k::ks,[],n,h=>by simp [zkf] at h
 | k::ks,j::js,n,h=>by
  simp only [zkf] at h
  split at h
  ·rename_i hb
   have:=Nat.eq_of_beq_eq_true hb
   subst this
   obtain ⟨h1,h2⟩:=zom h
   refine ⟨fun i hi=>?_,fun i a ha=>h2 i a ?_⟩
   ·cases i with
    | zero=>simp
    | succ i=>simpa using h1 i (by simpa using hi)
   ·rw [List.length_cons,Nat.add_right_comm,List.getElem?_cons_succ] at ha
    exact ha
  ·cases h
theorem zfG {P:Program} {f:Nat} {as as1:List D} {L L1:List Ob} {φ:D→D→Prop} {KP:D→Prop} {KW:D→List Ob→Prop} (hS:xJ L.length φ L L1)
  (has:as.length=as1.length∧∀ (i:Nat) d d',as[i]?=some d→as1[i]?=some d'→φ d d') (h:zn P f as1 L1 (fun _=>False) KW):zn P f as L KP KW:=by
 rcases h with ⟨spec,hm,h⟩ | ⟨d,L',h1,h2,h3⟩
 ·obtain ⟨_,_,_,_,h⟩:=jE h
  exact h.elim
 ·refine .inr ⟨d,L',fun w ρ vs hf hr=>?_,h2,h3⟩
  obtain ⟨ρ1,g1,g2,g3,g4⟩:=hS w ρ hf
  refine (h1 w ρ1 vs g1 ⟨hr.1.trans has.1,fun i d v hd hv=>?_⟩).mono ?_
  ·have hlt:i < as.length:=by rw [has.1];exact (List.getElem?_eq_some_iff.1 hd).1
   exact g2 _ _ _ (has.2 i _ d (List.getElem?_eq_getElem hlt) hd) (hr.2 i _ v (List.getElem?_eq_getElem hlt) hv)
  ·rintro e w' ⟨v,ρ',he,hp⟩
   exact ⟨v,ρ',he,hp.fits,hp.rep,hp.ext.mono fun b off _ h=>g3 b off h,fun b off h=>(hp.fresh b off h).imp (g3 b off) id,(g4 ρ L rfl (.refl _ _)).trans hp.compat⟩
def FzL (k e:Nat) (els els':List D) (tok:Nat):List D→List D→Prop
 | [],[]=>True
 | d::ds,d'::ds'=>Fz k e els els' tok d d'∧FzL k e els els' tok ds ds'
 | _,_=>False
theorem zuv {k e:Nat} {els els':List D} {tok:Nat}:∀ {as as1:List D},FzL k e els els' tok as as1→as.length=as1.length∧∀ (i:Nat) d d',as[i]?=some d→as1[i]?=some d'→Fz k e els els' tok d d'
 | [],[],_=>⟨rfl,by simp⟩
 | d::ds,d'::ds',h=>by
  obtain ⟨h1,h2⟩:=zuv h.2
  refine ⟨by simp [h1],fun i a b ha hb=>?_⟩
  cases i with
  | zero=>simp at ha hb;subst ha;subst hb;exact h.1
  | succ i=>exact h2 i a b (by simpa using ha) (by simpa using hb)
 | [],_::_,h=>h.elim
 | _::_,[],h=>h.elim
theorem zqI {P:Program} {f:Nat} {as:List D} {L:List Ob} {KP:D→Prop} {KW:D→List Ob→Prop} {k e:Nat} {els els':List D} (as1:List D) (hk:L[k]?=some (.arr e els)) (hs:qU els els')
  (has:FzL k e els els' L.length as as1) (h:zn P f as1 (L.set k .dead++[.spare els.length]) (fun _=>False) KW):zn P f as L KP KW:=
 zfG (zdx hk hs) (zuv has) h
def zx5 (o:Ob):List Ob→(List Ob→Prop)→Prop:=@List.rec Ob (fun _=>(List Ob→Prop)→Prop) (fun K=>K [o]) (fun x _ ih K=>ih fun r=>K (x::r))
theorem zon {o:Ob}:∀ {L:List Ob} {K:List Ob→Prop},zx5 o L K→K (L++[o])
 | [],K,h=>h
 | x::L,K,h=>by
  have:=zon (L:=L) (K:=fun r=>K (x::r)) h
  exact this
theorem zil {P:Program} {f:Nat} {as:List D} {L:List Ob} {KP:D→Prop} {KW:D→List Ob→Prop} {els:List D} (k:Nat) (l:List UInt8) (as1:List D) (hk:L[k]?=some (.arr 1 els)) (he:els=l.map zC)
  (has:FzL k 1 (l.map zC) (l.map zC) L.length as as1) (h:w4 k .dead L fun L=>zx5 (.spare l.length) L fun L=>VS (zn P f as1 L (fun _=>False) KW)):zn P f as L KP KW:=by
 subst he
 have h:=(zon (wF h)).out
 exact zqI as1 hk (zeC l) has (by simpa using h)
mutual
theorem zqJ:∀ {d:D} {K K':D→Prop},zdp d K→(∀ x,K x→K' x)→zdp d K'
 | .agg ds,K,K',h,hK=>jq (ds:=ds) (K:=fun ds=>K (.agg ds)) (K':=fun ds=>K' (.agg ds)) h fun x=>hK _
 | .tup ds,K,K',h,hK=>jq (ds:=ds) (K:=fun ds=>K (.tup ds)) (K':=fun ds=>K' (.tup ds)) h fun x=>hK _
 | .fn f ds,K,K',h,hK=>jq (ds:=ds) (K:=fun ds=>K (.fn f ds)) (K':=fun ds=>K' (.fn f ds)) h fun x=>hK _
 | .any,_,_,h,hK=>hK _ h
 | .int _ _,_,_,h,hK=>hK _ h
 | .bool _,_,_,h,hK=>hK _ h
 | .tt,_,_,h,hK=>hK _ h
 | .ff,_,_,h,hK=>hK _ h
 | .str _,_,_,h,hK=>hK _ h
 | .nilsl,_,_,h,hK=>hK _ h
 | .sl _ _ _,_,_,h,hK=>hK _ h
 | .nilp,_,_,h,hK=>hK _ h
 | .ptr _,_,_,h,hK=>hK _ h
 | .nilmap,_,_,h,hK=>hK _ h
 | .nilfn,_,_,h,hK=>hK _ h
 | .nilif,_,_,h,hK=>hK _ h
 | .iface _ _,_,_,h,hK=>hK _ h
 | .osl _ _ _ _ _,K,_,h,_=>False.elim h
 | .loc _ _,K,_,h,_=>False.elim h
 | .aloc _ _ _ _,K,_,h,_=>False.elim h
 | .cloc _ _,K,_,h,_=>False.elim h
 | .mp _,K,_,h,_=>False.elim h
theorem jq:∀ {ds:List D} {K K':List D→Prop},qw ds K→(∀ x,K x→K' x)→qw ds K'
 | [],_,_,h,hK=>hK _ h
 | d::ds,_,_,h,hK=>by
  rename_i K K'
  exact zqJ (K:=fun d=>qw ds fun ds=>K (d::ds)) (K':=fun d=>qw ds fun ds=>K' (d::ds)) h fun x hx=>jq hx fun y=>hK _
end
def zQ {α:Type} (I:α→Prop) (A:α→List D) (O:α→List Ob) (R:α→D) (O':α→List Ob):j0:=fun as L d L'=>∃ p,I p∧LeL as (A p)∧L=O p∧d=R p∧L'=O' p
abbrev zy {α:Type} (I:α→Prop) (A:α→List D) (R:α→D):j0:=zQ I A (fun _=>[]) R (fun _=>[])
section
variable {P : Program} {f : Nat} {as : List D} {L : List Ob} {KP : D → Prop} {KW : D → List Ob → Prop} {α : Type} {I : α → Prop} {A : α → List D} {O : α → List Ob} {R : α → D} {O' : α → List Ob}
theorem zb (h:za P f (zy I A R)) (p:α) (hI:I p) (has:qw as fun as=>VS (LeL as (A p))) (hK:KP (R p)):zn P f as L KP KW:=
 zuu h (jq has fun as' h1=>⟨_,⟨p,hI,h1.out,rfl,rfl,rfl⟩,hK⟩)
theorem zu (h:za P f (zQ I A O R O')) (ks js:List Nat) (p:α) (hI:I p) (hnd:wI ks=true) (hjs:zkf ks js L.length=true)
  (has:zbQ (zM ks 0) as fun as1=>zkd (zM ks 0) ks L fun L1=>VS (LeL as1 (A p))∧VS (L1=O p)∧zbv (qd js) (R p) fun d=>zg1 (qd js) ks (O' p) L fun L'=>KW d L'):zn P f as L KP KW:=by
 obtain ⟨as1,h1,h2⟩:=zbw has
 obtain ⟨L1,⟨e1,e2,h3⟩,h4,h5⟩:=zi8 h2
 obtain ⟨d,h7,h8⟩:=w8 h3
 have hks:∀ k∈ks,k < L.length:=fun k hk=>by
  obtain ⟨i,hi,rfl⟩:=List.getElem_of_mem hk
  have hil:i < L1.length:=by omega
  obtain ⟨j,o,g1,g2,_⟩:=h5 i _ (List.getElem?_eq_getElem hil)
  rw [List.getElem?_eq_getElem hi] at g1
  cases g1
  exact (List.getElem?_eq_some_iff.1 g2).1
 obtain ⟨L',h9,h10,h11,h12,h13,h14⟩:=zml hnd hks h8
 obtain ⟨j1,j2⟩:=zom hjs
 exact .inr ⟨d,L',fun w ρ vs hf hr=>za7 h hnd hks j1 j2 h1 h4 h5 ⟨p,hI,e1.out,e2.out,rfl,rfl⟩ h7 h10 h11 h12 h13 h14 hf hr,h.1,h9⟩
theorem zf {T : Tab} (hT : ye P T) {fn : Func} {c : Code} (hf : P.funcs[f]? = some fn) (hb : fn.body = some c) (hn : (fn.name == "runtime.NumGoroutine") = false)
  (h:∀ p,I p→(O p).length≤(O' p).length∧(A p).length≤fn.ntmps∧∀ E:xp,E.L=O p→AWP P fn.ntmps E c (kg T fn.results.toList (O p).length (R p) (O' p)) (zdy 0 (A p)) (O p)) :
  za P f (zQ I A O R O'):=by
 have base:za P f (fun as L d L'=>∃ p,I p∧as=A p∧L=O p∧d=R p∧L'=O' p):=by
  refine ziy hT hf hb hn ?_
  rintro as L d L' ⟨p,hI,rfl,rfl,rfl,rfl⟩
  exact h p hI
 refine ⟨base.1,?_⟩
 rintro as L d L' ⟨p,hI,has,rfl,rfl,rfl⟩ w ρ vs hf hr
 refine base.2 (A p) _ _ _ ⟨p,hI,rfl,rfl,rfl,rfl⟩ w ρ vs hf ⟨hr.1.trans has.1,fun i d v h1 h2=>?_⟩
 have hlt:i < as.length:=by rw [has.1];exact (List.getElem?_eq_some_iff.1 h1).1
 exact has.2 i _ d (List.getElem?_eq_getElem hlt) h1 _ _ _ _ _ (hr.2 i _ v (List.getElem?_eq_getElem hlt) h2)
end
def znH (j:Nat) (o:Oper):Oper:={ o with after:=⟨⟨j,.phase⟩::o.after.toList⟩ }
def vP (i j:Nat) (ops:List Oper):List Oper:=ops.modify i (znH j)
def zsW (inv:List Nat) (e:Edge):Edge:=⟨inv.getD e.on 0,e.ground⟩
def znI (inv:List Nat):Option (Nat×Bool)→Option (Nat×Bool)
 | none=>none
 | some (j,b)=>some (inv.getD j 0,b)
def zhY (inv:List Nat) (o:Oper):Oper:={ o with after:=⟨o.after.toList.map (zsW inv)⟩,guard:=znI inv o.guard }
def zww (n:Nat) (ts inv:List Nat):Bool:=
 (ts.length==n) && (inv.length==n) && ((List.range n).all fun k=>(ts.getD k n < n) && (inv.getD k n < n) && (inv.getD (ts.getD k n) n==k) && (ts.getD (inv.getD k n) n==k))
def zx6 (ops:List Oper):Bool:=(List.range ops.length).all fun i=>match ops[i]? with
 | some o=>o.after.toList.all (fun e=>!(Region.binds .any e) || e.on < i) && (match o.guard with | some (j,_)=>j < ops.length | none=>true)
 | none=>true
theorem zfH {P:Program} {ops ops':Array Oper} (h:∀ i:Nat,(ops[i]?).map (fun (o:Oper)=>(o.dst,o.op,o.type,o.guard))=(ops'[i]?).map (fun (o:Oper)=>(o.dst,o.op,o.type,o.guard))) {Q:Exit→Act→World→Prop} :
  ∀ (π:List Nat) (a:Act) (w:World),wpOps P ops Q π a w=wpOps P ops' Q π a w
 | [],a,w=>rfl
 | i::π,a,w=>by
  have hy:∀ tmps j,yielded ops tmps j=yielded ops' tmps j:=fun tmps j=>by
   have hj:=h j
   unfold yielded
   have:(ops[j]?).bind (·.dst)=(ops'[j]?).bind (·.dst):=by
    cases h1:ops[j]?<;>cases h2:ops'[j]?<;>simp [h1,h2] at hj ⊢
    exact hj.1
   rw [this]
  have hi:=h i
  simp only [wpOps]
  have ih:wpOps P ops Q π=wpOps P ops' Q π:=by
   funext a w
   exact zfH h π a w
  rw [ih]
  cases h1:ops[i]?<;>cases h2:ops'[i]?<;>simp [h1,h2] at hi ⊢
  rename_i o o'
  obtain ⟨e1,e2,e3,e4⟩:=hi
  have hyy:yielded ops a.tmps=yielded ops' a.tmps:=funext fun j=>hy _ j
  have hw:Region.wanted o (yielded ops a.tmps)=Region.wanted o' (yielded ops' a.tmps):=by
   rw [hyy]
   unfold Region.wanted
   rw [e4]
  rw [hw,e1]
  obtain ⟨d,op,ty,pos,af,g⟩:=o
  obtain ⟨d',op',ty',pos',af',g'⟩:=o'
  simp only at e1 e2 e3 e4
  subst e1 e2 e3 e4
  rfl
theorem zkg {ops ops':Array Oper} (hs:ops'.size=ops.size):∀ (π dn:List Nat),(∀ i:Nat,i∉dn→∀ o o',ops[i]?=some o→ops'[i]?=some o'→∀ e∈o'.after.toList,Region.binds .any e=true→e∈o.after.toList∨e.on∈dn) →
  ql ops dn π→ql ops' dn π
 | [],dn,_,hS=>fun i hi=>hS i (by omega)
 | i::π,dn,h,⟨h1,h2,h3,h4⟩=>by
  refine ⟨by omega,h2,fun o' ho' e he hb=>?_,zkg hs π (i::dn) (fun k hk o o' h5 h6 e he hb=>?_) h4⟩
  ·obtain ⟨o,ho⟩:∃ o,ops[i]?=some o:=⟨_,Array.getElem?_eq_getElem h1⟩
   rcases h i h2 o o' ho ho' e he hb with h | h
   ·exact h3 o ho e h hb
   ·exact h
  ·rcases h k (fun hm=>hk (List.mem_cons_of_mem _ hm)) o o' h5 h6 e he hb with h | h
   ·exact .inl h
   ·exact .inr (List.mem_cons_of_mem _ h)
theorem zg2 {x y:Nat} {ops:List Oper} {i:Nat} {o o':Oper} (h1:ops[i]?=some o) (h2:(vP y x ops)[i]?=some o'):o'=o∨(i=y∧o'=znH x o):=by
 unfold vP at h2
 rw [List.getElem?_modify,h1] at h2
 simp at h2
 split at h2
 ·rename_i he;exact .inr ⟨he.symm,h2.symm⟩
 ·exact .inl h2.symm
theorem zmm {ops:List Oper} {x y:Nat} (hxy:x≠y):∀ (π dn:List Nat),x∉dn→y∉dn→ql ops.toArray dn π→ql (vP y x ops).toArray dn π∨ql (vP x y ops).toArray dn π
 | [],dn,hx,hy,hS=>.inl fun i hi=>hS i (by simpa [vP] using hi)
 | i::π,dn,hx,hy,⟨h1,h2,h3,h4⟩=>by
  have hsz:∀ a b,(vP a b ops).toArray.size=ops.toArray.size:=fun a b=>by simp [vP]
  have after:∀ a b dn π,b∈dn→ql ops.toArray dn π→ql (vP a b ops).toArray dn π:=fun a b dn π hb hS=>
   zkg (hsz a b) π dn (fun i hi o o' h5 h6 e he _=>by
    rw [List.getElem?_toArray] at h5 h6
    rcases zg2 h5 h6 with rfl | ⟨_,rfl⟩
    ·exact .inl he
    ·simp only [znH] at he
     rcases List.mem_cons.1 he with rfl | he
     ·exact .inr hb
     ·exact .inl he) hS
  have here:∀ a b,i≠a→∀ o',(vP a b ops).toArray[i]?=some o'→∀ e∈o'.after.toList,Region.binds .any e=true→e.on∈dn:=fun a b hia o' ho' e he hb=>by
   rw [List.getElem?_toArray] at ho'
   have hio:=Array.getElem?_eq_getElem h1
   rw [List.getElem?_toArray] at hio
   rcases zg2 hio ho' with rfl | ⟨e1,_⟩
   ·exact h3 _ (by rw [List.getElem?_toArray];exact hio) e he hb
   ·exact (hia e1).elim
  by_cases hix:i=x
  ·subst hix
   exact .inl ⟨by rw [hsz];exact h1,h2,here y i hxy,after y i _ _ (by simp) h4⟩
  ·by_cases hiy:i=y
   ·subst hiy
    exact .inr ⟨by rw [hsz];exact h1,h2,here x i hix,after x i _ _ (by simp) h4⟩
   ·rcases zmm hxy π (i::dn) (fun h=>hx ((List.mem_cons.1 h).resolve_left (Ne.symm hix))) (fun h=>hy ((List.mem_cons.1 h).resolve_left (Ne.symm hiy))) h4 with h | h
    ·exact .inl ⟨by rw [hsz];exact h1,h2,here y x hiy,h⟩
    ·exact .inr ⟨by rw [hsz];exact h1,h2,here x y hix,h⟩
def zak (inv ts:List Nat) (ops:List Oper):List Oper:=ts.map fun i=>zhY inv (ops.getD i default)
structure Inv (n:Nat) (ts inv:List Nat):Prop where
 lt:ts.length=n
 tsl:∀ k,k < n→ts.getD k 0 < n
 invl:∀ k,k < n→inv.getD k 0 < n
 it:∀ k,k < n→inv.getD (ts.getD k 0) 0=k
 ti:∀ k,k < n→ts.getD (inv.getD k 0) 0=k
theorem zja {n:Nat} {ts inv:List Nat} (h:Inv n ts inv) {ops:List Oper} (hn:ops.length=n) {i:Nat} {o:Oper} (ho:ops[i]?=some o):(zak inv ts ops)[inv.getD i 0]?=some (zhY inv o):=by
 have hi:i < n:=by rw [← hn];exact (List.getElem?_eq_some_iff.1 ho).1
 have h1:=h.invl i hi
 have h2:=h.ti i hi
 unfold zak
 rw [List.getElem?_map]
 have h3:ts[inv.getD i 0]?=some i:=by
  have hlt:inv.getD i 0 < ts.length:=by rw [h.lt];exact h1
  rw [List.getElem?_eq_getElem hlt]
  rw [List.getD_eq_getElem?_getD,List.getElem?_eq_getElem hlt] at h2
  simpa using h2
 rw [h3]
 simp [ho]
theorem zoo {n:Nat} {ts inv:List Nat} (h:Inv n ts inv) {ops:List Oper}:(zak inv ts ops).length=n:=by simp [zak,h.lt]
theorem zop {n:Nat} {ts inv:List Nat} (h:Inv n ts inv) {ops:List Oper} (hn:ops.length=n) {tmps:Array Value} {j:Nat} (hj:j < n):yielded (zak inv ts ops).toArray tmps (inv.getD j 0)=yielded ops.toArray tmps j:=by
 unfold yielded
 have ho:=List.getElem?_eq_getElem (l:=ops) (i:=j) (by omega)
 rw [List.getElem?_toArray,List.getElem?_toArray,zja h hn ho,ho]
 rfl
theorem zrK {P:Program} {n:Nat} {ts inv:List Nat} (h:Inv n ts inv) {ops:List Oper} (hn:ops.length=n) (hg:∀ (i:Nat) o j b,ops[i]?=some o→o.guard=some (j,b)→j < n) {Q:Exit→Act→World→Prop} :
  ∀ (π:List Nat),(∀ i∈π,i < n)→∀ (a:Act) (w:World),wpOps P (zak inv ts ops).toArray Q (π.map fun i=>inv.getD i 0) a w=wpOps P ops.toArray Q π a w
 | [],_,a,w=>rfl
 | i::π,hπ,a,w=>by
  have ih:wpOps P (zak inv ts ops).toArray Q (π.map fun i=>inv.getD i 0)=wpOps P ops.toArray Q π:=by
   funext a w
   exact zrK h hn hg π (fun i hi=>hπ i (List.mem_cons_of_mem _ hi)) a w
  have hi:=hπ i (by simp)
  have ho:=List.getElem?_eq_getElem (l:=ops) (i:=i) (by omega)
  simp only [List.map_cons,wpOps,List.getElem?_toArray,zja h hn ho,ho,ih]
  have hw:Region.wanted (zhY inv ops[i]) (yielded (zak inv ts ops).toArray a.tmps)=Region.wanted ops[i] (yielded ops.toArray a.tmps):=by
   unfold Region.wanted zhY
   simp only
   cases hgd:ops[i].guard with
   | none=>rfl
   | some p=>
    obtain ⟨j,b⟩:=p
    simp only [znI]
    rw [zop h hn (hg i _ j b ho hgd)]
  rw [hw]
  rfl
theorem zkh {n:Nat} {ts inv:List Nat} (h:Inv n ts inv) {ops:List Oper} (hn:ops.length=n):∀ (π dn:List Nat),(∀ i∈dn,i < n)→ql ops.toArray dn π→ql (zak inv ts ops).toArray (dn.map fun i=>inv.getD i 0) (π.map fun i=>inv.getD i 0)
 | [],dn,hdn,hS=>fun k hk=>by
  have hk:k < n:=by simpa [zoo h] using hk
  refine List.mem_map.2 ⟨ts.getD k 0,hS _ (by simpa [hn] using h.tsl k hk),h.it k hk⟩
 | i::π,dn,hdn,⟨h1,h2,h3,h4⟩=>by
  have hi:i < n:=by simpa [hn] using h1
  refine ⟨by simpa [zoo h] using h.invl i hi,fun hm=>?_,fun o' ho' e he hb=>?_,zkh h hn π (i::dn) (fun j hj=>?_) h4⟩
  ·obtain ⟨j,hj,hji⟩:=List.mem_map.1 hm
   have e1:=h.ti i hi
   have e2:=h.ti j (hdn j hj)
   rw [hji] at e2
   rw [e1] at e2
   subst e2
   exact h2 hj
  ·have ho:=List.getElem?_eq_getElem (l:=ops) (i:=i) (by omega)
   rw [List.getElem?_toArray,zja h hn ho] at ho'
   cases ho'
   simp only [zhY] at he
   obtain ⟨e0,h5,rfl⟩:=List.mem_map.1 he
   exact List.mem_map.2 ⟨e0.on,h3 _ (by rw [List.getElem?_toArray];exact ho) e0 h5 hb,rfl⟩
  ·rcases List.mem_cons.1 hj with rfl | hj
   ·exact hi
   ·exact hdn j hj
theorem zoq {ops:List Oper}:∀ (π dn:List Nat),ql ops.toArray dn π→∀ i∈π,i < ops.length
 | [],_,_,i,hi=>by simp at hi
 | j::π,dn,⟨h1,_,_,h4⟩,i,hi=>by
  rcases List.mem_cons.1 hi with rfl | hi
  ·simpa using h1
  ·exact zoq π _ h4 i hi
theorem zyr {n:Nat} {ts inv:List Nat} (h:zww n ts inv=true):Inv n ts inv:=by
 simp only [zww,Bool.and_eq_true,beq_iff_eq,List.all_eq_true,List.mem_range,decide_eq_true_eq] at h
 obtain ⟨⟨h1,h2⟩,h3⟩:=h
 have d:∀ (l:List Nat) k,l.length=n→k < n→l.getD k 0=l.getD k n:=fun l k hl hk=>by
  rw [List.getD_eq_getElem?_getD,List.getD_eq_getElem?_getD,List.getElem?_eq_getElem (by omega)]
  rfl
 refine ⟨h1,fun k hk=>?_,fun k hk=>?_,fun k hk=>?_,fun k hk=>?_⟩
 all_goals
  obtain ⟨⟨⟨a,b⟩,c⟩,e⟩:=h3 k hk
 ·rw [d _ _ h1 hk];exact a
 ·rw [d _ _ h2 hk];exact b
 ·rw [d ts _ h1 hk,d inv _ h2 a];exact c
 ·rw [d inv _ h2 hk,d ts _ h1 b];exact e
def zhZ (inv:List Nat):List Edge→(List Edge→Prop)→Prop:=
 @List.rec Edge (fun _=>(List Edge→Prop)→Prop) (fun K=>K []) (fun e _ ih K=>match e with
  | ⟨j,g⟩=>wC j inv fun j=>ih fun r=>K (⟨j,g⟩::r))
theorem zki {inv:List Nat}:∀ {es:List Edge} {K:List Edge→Prop},zhZ inv es K→K (es.map (zsW inv))
 | [],K,h=>h
 | e::es,K,h=>by
  obtain ⟨j,g⟩:=e
  change wC j inv (fun j=>zhZ inv es fun r=>K (⟨j,g⟩::r)) at h
  obtain ⟨k,h1,h2⟩:=xh h
  have:=zki h2
  simpa [zsW,h1] using this
def zh0 (inv:List Nat) (g:Option (Nat×Bool)) (K:Option (Nat×Bool)→Prop):Prop:=
 match g with
 | none=>K none
 | some (j,b)=>wC j inv fun j=>K (some (j,b))
theorem zsX {inv:List Nat} {g:Option (Nat×Bool)} {K:Option (Nat×Bool)→Prop} (h:zh0 inv g K):K (znI inv g):=by
 unfold zh0 at h
 split at h
 ·exact h
 ·rename_i j b
  obtain ⟨k,h1,h2⟩:=xh h
  simpa [znI,h1] using h2
def zsY (inv:List Nat) (ops:List Oper):List Nat→(List Oper→Prop)→Prop:=
 @List.rec Nat (fun _=>(List Oper→Prop)→Prop) (fun K=>K []) (fun i _ ih K=>wC i ops fun o=>match o with
  | ⟨dst,op,ty,pos,⟨af⟩,g⟩=>zhZ inv af fun af=>zh0 inv g fun g=>ih fun r=>K (⟨dst,op,ty,pos,⟨af⟩,g⟩::r))
theorem zor {inv:List Nat} {ops:List Oper}:∀ {ts:List Nat} {K:List Oper→Prop},zsY inv ops ts K→K (zak inv ts ops)
 | [],K,h=>h
 | i::ts,K,h=>by
  change wC i ops (fun o=>match o with
   | ⟨dst,op,ty,pos,⟨af⟩,g⟩=>zhZ inv af fun af=>zh0 inv g fun g=>zsY inv ops ts fun r=>K (⟨dst,op,ty,pos,⟨af⟩,g⟩::r)) at h
  obtain ⟨o,h1,h2⟩:=xh h
  obtain ⟨dst,op,ty,pos,⟨af⟩,g⟩:=o
  have h3:=zor (zsX (zki h2))
  simpa [zak,h1,zhY] using h3
def znJ (x:Nat):List Oper→Nat→(List Oper→Prop)→Prop:=
 @List.rec Oper (fun _=>Nat→(List Oper→Prop)→Prop) (fun _ K=>K []) (fun o r ih y K=>match y with
  | 0=>match o with
   | ⟨dst,op,ty,pos,⟨af⟩,g⟩=>K (⟨dst,op,ty,pos,⟨⟨x,.phase⟩::af⟩,g⟩::r)
  | y+1=>ih y fun r=>K (o::r))
theorem zjb {x:Nat}:∀ {ops:List Oper} {y:Nat} {K:List Oper→Prop},znJ x ops y K→K (vP y x ops)
 | [],y,K,h=>by
  have h:K []:=h
  simpa [vP] using h
 | ⟨dst,op,ty,pos,⟨af⟩,g⟩::r,0,K,h=>by
  have h:K (⟨dst,op,ty,pos,⟨⟨x,.phase⟩::af⟩,g⟩::r):=h
  simpa [vP,znH] using h
 | o::r,y+1,K,h=>by
  have h:znJ x r y fun r=>K (o::r):=h
  have:=zjb h
  simpa [vP] using this
theorem zfI {P:Program} {T:Tab} (hT:ye P T) (hm:P.follows .mixedOrders=true) {n:Nat} {E:xp} {id:Nat} {ops:Array Oper} {Q:Ex→List (Nat×D)→List Ob→Prop} {σ:List (Nat×D)} {L:List Ob}
  (x y:Nat) (ts inv:List Nat) (hxy:Nat.beq x y=false) (hb:zx6 ops.toList=true) (hinv:zww ops.toList.length ts inv=true)
  (hA:znJ x ops.toList y fun l=>VS (zhV P T n l σ L (Q .normal))) (hB:znJ y ops.toList x fun l=>zsY inv l ts fun l=>VS (zhV P T n l σ L (Q .normal))):AWP P n E (.region id ops true) Q σ L:=by
 intro a w hr
 have hA:=(zjb hA).out
 have hB:=(zor (zjb hB)).out
 have hinv:=zyr hinv
 have hxy:x≠y:=fun e=>by subst e;simp at hxy
 simp only [zx6,List.all_eq_true,List.mem_range] at hb
 have hops:∀ (i:Nat) o,ops.toList[i]?=some o→(∀ e∈o.after.toList,Region.binds .any e=true→e.on < i)∧∀ j b,o.guard=some (j,b)→j < ops.toList.length:=fun i o ho=>by
  have h:=hb i (List.getElem?_eq_some_iff.1 ho).1
  rw [ho] at h
  simp only [Bool.and_eq_true,List.all_eq_true,decide_eq_true_eq] at h
  refine ⟨fun e he hbd=>?_,fun j b hg=>?_⟩
  ·have:=h.1 e he
   rw [hbd] at this
   simpa using this
  ·rw [hg] at h
   simpa using h.2
 refine wp_region_draw fun t=>?_
 rw [hm]
 have hS:=zmh (ops:=ops) (fun i o hi e he hbd=>(hops i o (by simpa using hi)).1 e he hbd) t
 generalize Region.schedule true ops t=π at *
 have hS':ql ops.toList.toArray [] π:=by simpa using hS
 have same:∀ a b:Nat,∀ i:Nat,((vP a b ops.toList).toArray[i]?).map (fun (o:Oper)=>(o.dst,o.op,o.type,o.guard))=(ops[i]?).map (fun (o:Oper)=>(o.dst,o.op,o.type,o.guard)):=fun a b i=>by
  rw [List.getElem?_toArray]
  unfold vP
  rw [List.getElem?_modify,Array.getElem?_toList]
  cases ops[i]? with
  | none=>rfl
  | some o=>
   simp only [Option.map_some]
   split<;>rfl
 rcases zmm hxy π [] (by simp) (by simp) hS' with h | h
 ·have:=(zgY (ops:=(vP y x ops.toList).toArray) hT (by simpa using hA) hr).2 π h
  rwa [zfH (same y x)] at this
 ·have hl:(vP x y ops.toList).length=ops.toList.length:=by simp [vP]
  have hps:=zkh hinv hl π [] (by simp) h
  have:=(zgY (ops:=(zak inv ts (vP x y ops.toList)).toArray) hT (by simpa using hB) hr).2 _ hps
  rw [zrK hinv hl (fun i o j b ho hg=>by
   have hi:i < ops.toList.length:=by rw [← hl];exact (List.getElem?_eq_some_iff.1 ho).1
   rcases zg2 (List.getElem?_eq_getElem hi) ho with rfl | ⟨_,rfl⟩
   ·exact (hops i _ (List.getElem?_eq_getElem hi)).2 j b hg
   ·exact (hops i _ (List.getElem?_eq_getElem hi)).2 j b hg) π (fun i hi=>by rw [← hl];exact zoq π [] h i hi),zfH (same x y)] at this
  exact this
theorem zmn {α β:Type} {f:α→Option β}:∀ {l:List α} {xs:List β},l.mapM f=some xs→xs.length=l.length∧∀ (i:Nat) x,l[i]?=some x→∃ y,xs[i]?=some y∧f x=some y
 | [],xs,h=>by simp at h;subst h;simp
 | a::l,xs,h=>by
  simp only [List.mapM_cons,bind,Option.bind_eq_some_iff,pure,Option.some.injEq] at h
  obtain ⟨y,h1,ys,h2,rfl⟩:=h
  obtain ⟨h3,h4⟩:=zmn h2
  refine ⟨by simp [h3],fun i x hx=>?_⟩
  cases i with
  | zero=>simp at hx;subst hx;exact ⟨y,by simp,h1⟩
  | succ i=>simpa using h4 i x (by simpa using hx)
inductive Sh where
 | int (k:IntKind)
 | bool
 | str
 | sl (n:Nat) (σ:Sh)
 | fin
 | fld (σ rest:Sh)
 | arr (n:Nat) (σ:Sh)
 | void (n:Nat)
def Sh.size:Sh→Nat
 | .int _=>1
 | .bool=>1
 | .str=>1
 | .sl _ _=>1
 | .fin=>0
 | .fld a b=>a.size+b.size
 | .arr n a=>n * a.size
 | .void n=>n
def Sh.agg:Sh→Bool
 | .fin=>true
 | .fld _ _=>true
 | .arr _ _=>true
 | .void _=>true
 | _=>false
def vdB:Nat→Sh→Bool
 | _,.void _=>false
 | 0,.sl _ _=>true
 | k+1,.sl _ σ=>vdB k σ
 | k,.arr _ σ=>vdB k σ
 | k,.fld a b=>vdB k a && vdB k b
 | _,_=>true
theorem kK:∀ (σ:Sh) (k:Nat),vdB (k+1) σ=true→vdB k σ=true
 | .int _,_,_=>by simp [vdB]
 | .bool,_,_=>by simp [vdB]
 | .str,_,_=>by simp [vdB]
 | .fin,_,_=>by simp [vdB]
 | .void _,_,h=>by simp [vdB] at h
 | .sl _ σ,0,_=>by simp [vdB]
 | .sl _ σ,k+1,h=>by simp only [vdB] at h ⊢;exact kK σ k h
 | .arr _ σ,k,h=>by simp only [vdB] at h ⊢;exact kK σ k h
 | .fld a b,k,h=>by
  simp only [vdB,Bool.and_eq_true] at h ⊢
  exact ⟨kK a k h.1,kK b k h.2⟩
def zbU:Sh→Bool
 | .void _=>false
 | .sl _ σ=>zbU σ
 | .arr _ σ=>zbU σ
 | .fld a b=>zbU a && zbU b
 | _=>true
theorem zdz:∀ (σ:Sh) (k:Nat),zbU σ=true→vdB k σ=true
 | .int _,_,_=>by simp [vdB]
 | .bool,_,_=>by simp [vdB]
 | .str,_,_=>by simp [vdB]
 | .fin,_,_=>by simp [vdB]
 | .void _,_,h=>by simp [zbU] at h
 | .sl _ σ,0,_=>by simp [vdB]
 | .sl _ σ,k+1,h=>by simp only [vdB,zbU] at h ⊢;exact zdz σ k h
 | .arr _ σ,k,h=>by simp only [vdB,zbU] at h ⊢;exact zdz σ k h
 | .fld a b,k,h=>by
  simp only [vdB,zbU,Bool.and_eq_true] at h ⊢
  exact ⟨zdz a k h.1,zdz b k h.2⟩
def chk (P:Program):Sh→Sum TypeId (List Field×Nat)→Bool
 | .int k,.inl t=>match P.underlying t with | some (.int q)=>zaa q k | _=>false
 | .bool,.inl t=>match P.underlying t with | some .bool=>true | _=>false
 | .str,.inl t=>match P.underlying t with | some .string=>true | _=>false
 | .sl n σ,.inl t=>match P.underlying t with | some (.slice e)=>Nat.beq (P.cellsOf e) n && !Nat.beq n 0 && Nat.beq σ.size n && chk P σ (.inl e) | _=>false
 | .arr n σ,.inl t=>match P.underlying t with | some (.array m e)=>Nat.beq m n && Nat.beq (P.cellsOf t) (n * σ.size) && Nat.beq (P.cellsOf e) σ.size && chk P σ (.inl e) | _=>false
 | .fld a b,.inl t=>match P.underlying t with
  | some (.struct fs)=>match fs.toList with
   | f::r=>Nat.beq (P.cellsOf t) (a.size+b.size) && Nat.beq f.offset 0 && Nat.beq (P.cellsOf f.type) a.size && chk P a (.inl f.type) && chk P b (.inr (r,a.size))
   | []=>false
  | _=>false
 | .fld a b,.inr (f::r,off)=>Nat.beq f.offset off && Nat.beq (P.cellsOf f.type) a.size && chk P a (.inl f.type) && chk P b (.inr (r,off+a.size))
 | .fin,.inr ([],_)=>true
 | .void n,.inl t=>Nat.beq (P.cellsOf t) n
 | _,_=>false
def fit {H:Type}:Sh→Sum (DataW H) (List (DataW H))→Prop
 | .int k,.inl d=>∃ n,d= .lit (.int k n)∧(Lit.int k n).wf=true
 | .bool,.inl d=>∃ b,d= .lit (.bool b)
 | .str,.inl d=>∃ s,d= .lit (.string s)
 | .sl n σ,.inl d=>d= .nil∨∃ el sp,d= .slice el sp∧∀ x∈el,fit σ (.inl x)
 | .arr n σ,.inl d=>∃ ps,d= .agg ps∧ps.length=n∧∀ x∈ps,fit σ (.inl x)
 | .fld a b,.inl d=>∃ p ps,d= .agg (p::ps)∧fit a (.inl p)∧fit b (.inr ps)
 | .fld a b,.inr (p::ps)=>fit a (.inl p)∧fit b (.inr ps)
 | .fin,.inr []=>True
 | _,_=>False
def elD (σ:Sh) (cs:List D):D:=
 match σ.agg with
 | true=>.agg cs
 | false=>match cs with
  | [c]=>c
  | _=>.any
def cl {H:Type}:Sh→Sum (DataW H) (List (DataW H))→List D
 | .int k,.inl (.lit (.int _ n))=>[.int k n]
 | .bool,.inl (.lit (.bool b))=>[.bool b]
 | .str,.inl (.lit (.string s))=>[.str s]
 | .sl n σ,.inl d=>[.sl n (match d with | .slice el _=>el.map (fun x=>elD σ (cl σ (.inl x))) | _=>[]) none]
 | .arr n σ,.inl (.agg ps)=>ps.flatMap fun x=>cl σ (.inl x)
 | .fld a b,.inl (.agg (p::ps))=>cl a (.inl p)++cl b (.inr ps)
 | .fld a b,.inr (p::ps)=>cl a (.inl p)++cl b (.inr ps)
 | _,_=>[]
def rd {H:Type} (σ:Sh) (d:DataW H):D:=elD σ (cl σ (.inl d))
def x9 (w:World) (F:Nat→Nat→Prop) (ds:List D) (vs:List Value):Prop:=ds.length=vs.length∧∀ (i:Nat) c v,ds[i]?=some c→vs[i]?=some v→zJ w F c v∧v.oneCell'=true∧zcJ c=true
theorem zos {w:World} {F:Nat→Nat→Prop} {d:D} {v:Value} (h:zJ w F d v) (hd:zcJ d=true):v.oneCell'=true:=jo (ρ:=⟨fun _=>⟨0,0,0⟩,fun _ _=>False⟩) (L:=[]) (.pure _ _ h) hd
theorem x9.append {w:World} {F:Nat→Nat→Prop} {ds ds':List D} {vs vs':List Value} (h:x9 w F ds vs) (h':x9 w F ds' vs'):x9 w F (ds++ds') (vs++vs'):=by
 refine ⟨by simp [h.1,h'.1],fun i c v hc hv=>?_⟩
 rcases Nat.lt_or_ge i ds.length with hlt | hge
 ·rw [List.getElem?_append_left hlt] at hc
  rw [List.getElem?_append_left (by rw [← h.1];exact hlt)] at hv
  exact h.2 i c v hc hv
 ·rw [List.getElem?_append_right hge] at hc
  rw [List.getElem?_append_right (by rw [← h.1];exact hge),← h.1] at hv
  exact h'.2 _ c v hc hv
theorem x9.one {w:World} {F:Nat→Nat→Prop} {d:D} {v:Value} (h:zJ w F d v) (hd:zcJ d=true):x9 w F [d] [v]:=⟨rfl,fun i c u hc hu=>by
 cases i with
 | zero=>simp at hc hu;subst hc;subst hu;exact ⟨h,zos h hd,hd⟩
 | succ i=>simp at hc⟩
theorem zuw {H:Type} {w:World} {F:Nat→Nat→Prop} {σ:Sh} {d:DataW H} {vs:List Value} (h:x9 w F (cl σ (.inl d)) vs) (hs:σ.agg=false→(cl σ (.inl d)).length=1):(rd σ d).cells=cl σ (.inl d):=by
 unfold rd elD
 split
 ·rfl
 ·rename_i ha
  have h1:=hs ha
  split
  ·rename_i c hc
   have h2:zcJ c=true:=by
    have hlt:0 < vs.length:=by rw [← h.1];omega
    exact (h.2 0 c vs[0] (by rw [hc];rfl) (List.getElem?_eq_getElem hlt)).2.2
   rw [hc]
   cases c<;>first | rfl | simp [zcJ] at h2
  ·rename_i hne
   match hcl:cl σ (.inl d),h1 with
   | [c],_=>exact (hne c hcl).elim
theorem jr {a b:Nat} (h:Nat.beq a b=true):a=b:=Nat.eq_of_beq_eq_true h
theorem zg3 {P:Program} {n:Nat} {σ:Sh} {t:TypeId} (h:chk P (.sl n σ) (.inl t)=true):∃ e,P.underlying t=some (.slice e)∧P.cellsOf e=n∧n≠0∧σ.size=n∧chk P σ (.inl e)=true:=by
 simp only [chk] at h
 split at h<;>try cases h
 rename_i e hu
 simp only [Bool.and_eq_true,Bool.not_eq_true'] at h
 obtain ⟨⟨⟨h1,h2⟩,h3⟩,h4⟩:=h
 exact ⟨e,hu,jr h1,fun e=>by subst e;simp at h2,jr h3,h4⟩
theorem zlu {P:Program} {n:Nat} {σ:Sh} {t:TypeId} (h:chk P (.arr n σ) (.inl t)=true):∃ e,P.underlying t=some (.array n e)∧P.cellsOf t=n * σ.size∧P.cellsOf e=σ.size∧chk P σ (.inl e)=true:=by
 simp only [chk] at h
 split at h<;>try cases h
 rename_i m e hu
 simp only [Bool.and_eq_true] at h
 obtain ⟨⟨⟨h1,h2⟩,h3⟩,h4⟩:=h
 have:=jr h1
 subst this
 exact ⟨e,hu,jr h2,jr h3,h4⟩
theorem zlv {P:Program} {a b:Sh} {t:TypeId} (h:chk P (.fld a b) (.inl t)=true):∃ fs,P.underlying t=some (.struct fs)∧P.cellsOf t=a.size+b.size∧chk P (.fld a b) (.inr (fs.toList,0))=true:=by
 simp only [chk] at h
 split at h<;>try cases h
 rename_i fs hu
 split at h<;>try cases h
 rename_i f r hl
 simp only [Bool.and_eq_true] at h
 obtain ⟨⟨⟨⟨h1,h2⟩,h3⟩,h4⟩,h5⟩:=h
 refine ⟨fs,hu,jr h1,?_⟩
 rw [hl]
 simp only [chk,Bool.and_eq_true]
 exact ⟨⟨⟨h2,h3⟩,h4⟩,by rw [Nat.zero_add];exact h5⟩
theorem zot {P:Program} {a b:Sh} {fs:List Field} {off:Nat} (h:chk P (.fld a b) (.inr (fs,off))=true):∃ f r,fs=f::r∧f.offset=off∧P.cellsOf f.type=a.size∧chk P a (.inl f.type)=true∧chk P b (.inr (r,off+a.size))=true:=by
 cases fs with
 | nil=>simp [chk] at h
 | cons f r=>
  simp only [chk,Bool.and_eq_true] at h
  obtain ⟨⟨⟨h1,h2⟩,h3⟩,h4⟩:=h
  exact ⟨f,r,rfl,jr h1,jr h2,h3,h4⟩
def zch (P:Program) (t:TypeId):Prop:=∀ k,∃ σ,chk P σ (.inl t)=true∧vdB k σ=true
theorem ziz {P:Program} (k:Nat):∀ (σ:Sh) (fs:List Field) (off:Nat),chk P σ (.inr (fs,off))=true→vdB k σ=true →
  (∀ f∈fs,∃ σ,chk P σ (.inl f.type)=true∧vdB k σ=true)∧σ.size=(fs.map fun f=>P.cellsOf f.type).sum∧∀ (j:Nat) f,fs[j]?=some f→f.offset=off+((fs.take j).map fun f=>P.cellsOf f.type).sum
 | .fld a b,fs,off,h,hv=>by
  obtain ⟨f,r,rfl,h1,h2,h3,h4⟩:=zot h
  simp only [vdB,Bool.and_eq_true] at hv
  obtain ⟨h5,h6,h7⟩:=ziz k b r _ h4 hv.2
  refine ⟨fun g hg=>?_,by simp [Sh.size,h2,h6],fun j g hg=>?_⟩
  ·rcases List.mem_cons.1 hg with rfl | hg
   ·exact ⟨a,h3,hv.1⟩
   ·exact h5 g hg
  ·cases j with
   | zero=>simp at hg;subst hg;simp [h1]
   | succ j=>
    rw [h7 j g (by simpa using hg)]
    simp [h2]
    omega
 | .fin,[],off,h,_=>⟨by simp,by simp [Sh.size],by simp⟩
 | .fin,f::fs,off,h,_=>by simp [chk] at h
 | .int _,_,_,h,_=>by simp [chk] at h
 | .bool,_,_,h,_=>by simp [chk] at h
 | .str,_,_,h,_=>by simp [chk] at h
 | .sl _ _,_,_,h,_=>by simp [chk] at h
 | .arr _ _,_,_,h,_=>by simp [chk] at h
 | .void _,_,_,h,_=>by simp [chk] at h
theorem zed {P:Program} {t:TypeId} {k:Nat} {σ:Sh} (h:chk P σ (.inl t)=true) (hv:vdB (k+1) σ=true):(∃ k,P.underlying t=some (.int k))∨P.underlying t=some .bool∨P.underlying t=some .string ∨
  (∃ e,P.underlying t=some (.slice e)∧(∃ σ,chk P σ (.inl e)=true∧vdB k σ=true)∧0 < P.cellsOf e) ∨
  (∃ n e,P.underlying t=some (.array n e)∧(∃ σ,chk P σ (.inl e)=true∧vdB k σ=true)∧P.cellsOf t=n * P.cellsOf e) ∨
  ∃ fs a b,P.underlying t=some (.struct fs)∧P.cellsOf t=Sh.size (.fld a b)∧chk P (.fld a b) (.inr (fs.toList,0))=true∧vdB k (.fld a b)=true:=by
 cases σ with
 | int k => simp only [chk] at h; split at h <;> try cases h
            rename_i q hq;exact .inl ⟨_,hq⟩
 | bool => simp only [chk] at h; split at h <;> try cases h
           rename_i hq;exact .inr (.inl hq)
 | str => simp only [chk] at h; split at h <;> try cases h
          rename_i hq;exact .inr (.inr (.inl hq))
 | sl n σ=>
  obtain ⟨e,h1,h2,h3,_,h4⟩:=zg3 h
  exact .inr (.inr (.inr (.inl ⟨e,h1,⟨σ,h4,by simpa only [vdB] using hv⟩,by omega⟩)))
 | arr n σ=>
  obtain ⟨e,h1,h2,h3,h4⟩:=zlu h
  exact .inr (.inr (.inr (.inr (.inl ⟨n,e,h1,⟨σ,h4,kK σ k (by simpa only [vdB] using hv)⟩,by rw [h2,h3]⟩))))
 | fld a b=>
  obtain ⟨fs,h1,h2,h3⟩:=zlv h
  exact .inr (.inr (.inr (.inr (.inr ⟨fs,a,b,h1,h2,h3,kK _ k hv⟩))))
 | fin=>simp [chk] at h
 | void n=>simp [vdB] at hv
theorem zg4 {P:Program} {t e:TypeId} (ht:zch P t) (hu:P.underlying t=some (.slice e)):zch P e∧0 < P.cellsOf e:=by
 have key:∀ k,(∃ σ,chk P σ (.inl e)=true∧vdB k σ=true)∧0 < P.cellsOf e:=fun k=>by
  obtain ⟨σ,h1,h2⟩:=ht (k+1)
  rcases zed h1 h2 with ⟨k,h⟩ | h | h | ⟨e',h,h3,h4⟩ | ⟨n,e,h,_⟩ | ⟨fs,a,b,h,_⟩<;>rw [h] at hu<;>cases hu
  exact ⟨h3,h4⟩
 exact ⟨fun k=>(key k).1,(key 0).2⟩
theorem zmo {P:Program} {t:TypeId} (ht:zch P t):∃ d,P.underlying t=some d∧(∀ e,d≠ .pointer e)∧(∀ k e,d≠ .map k e):=by
 obtain ⟨σ,h1,h2⟩:=ht 1
 rcases zed h1 h2 with ⟨k,h⟩ | h | h | ⟨e',h,h3,h4⟩ | ⟨n,e,h,_⟩ | ⟨fs,a,b,h,_⟩<;>exact ⟨_,h,by simp,by simp⟩
theorem kids (P:Program):Kids P (zch P) where
 pointer ht hu:=by obtain ⟨d,h1,h2,_⟩:=zmo ht;rw [h1] at hu;cases hu;exact (h2 _ rfl).elim
 slice ht hu:=(zg4 ht hu).1
 array {t e n} ht hu:=by
  have key:∀ k,(∃ σ,chk P σ (.inl e)=true∧vdB k σ=true)∧P.cellsOf t=n * P.cellsOf e:=fun k=>by
   obtain ⟨σ,h1,h2⟩:=ht (k+1)
   rcases zed h1 h2 with ⟨k,h⟩ | h | h | ⟨e',h,h3,h4⟩ | ⟨n,e,h,h3,h4⟩ | ⟨fs,a,b,h,_⟩<;>rw [h] at hu<;>cases hu
   exact ⟨h3,h4⟩
  exact ⟨fun k=>(key k).1,(key 0).2⟩
 struct {t fs} ht hu:=by
  have key:∀ k,(∀ f∈fs.toList,∃ σ,chk P σ (.inl f.type)=true∧vdB k σ=true)∧P.cellsOf t=(fs.toList.map fun f=>P.cellsOf f.type).sum ∧
    ∀ (j:Nat) f,fs.toList[j]?=some f→f.offset=0+((fs.toList.take j).map fun f=>P.cellsOf f.type).sum:=fun k=>by
   obtain ⟨σ,h1,h2⟩:=ht (k+1)
   rcases zed h1 h2 with ⟨k,h⟩ | h | h | ⟨e',h,h3,h4⟩ | ⟨n,e,h,_⟩ | ⟨fs,a,b,h,h3,h4,h5⟩<;>rw [h] at hu<;>cases hu
   obtain ⟨h6,h7,h8⟩:=ziz _ _ _ _ h4 h5
   exact ⟨h6,h3.trans h7,h8⟩
  exact ⟨fun f hf k=>(key k).1 f hf,(key 0).2.1,fun j f hf=>by rw [(key 0).2.2 j f hf,Nat.zero_add]⟩
 map ht hu:=by obtain ⟨d,h1,_,h2⟩:=zmo ht;rw [h1] at hu;cases hu;exact (h2 _ _ rfl).elim
theorem zqK {P:Program} {t e:TypeId} (ht:zch P t) (hu:P.underlying t=some (.slice e)):0 < P.cellsOf e:=(zg4 ht hu).2
theorem zqL {H:Type} {enc:TypeId×Value→H} {P:Program} {w w':World} {t:TypeId} {v:Value} {d:DataW H} {ps:List MemPlace} {sp:Nat→Bool} (ht:zch P t)
  (h:DataW.Trod enc P w 0 (fun _=>true) true t v d ps) (hext:Ext F0 w w') (hs:∀ p∈ps,sp p.block=true):DataW.Trod enc P w' 0 sp true t v d ps:=by
 obtain ⟨fuel,h⟩:=h
 refine ⟨fuel,DataW.trod_stays (x:=(d,ps)) (kids P) (fun ht hu=>zqK ht hu) (by simp) ht h (fun p hp=>?_) hs⟩
 have hlt:=DataW.trod_lt fuel t _ (d,ps) h p hp
 cases p with
 | cell b off=>exact hext.cell b off hlt id
 | map b=>exact hext.block b hlt fun _ f=>f
theorem zkj {H:Type} {enc:TypeId×Value→H} {P:Program} {w w':World} {sp:Nat→Bool} (hext:Ext F0 w w'):∀ {ts:List TypeId} {vs:List Value} {ds:List (DataW H)} {ps:List MemPlace},(∀ t∈ts,zch P t) →
  DataW.TrodAll enc P w 0 (fun _=>true) true ts vs ds ps→(∀ p∈ps,sp p.block=true)→DataW.TrodAll enc P w' 0 sp true ts vs ds ps
 | [],[],[],ps,_,h,_=>h
 | t::ts,v::vs,d::ds,ps,ht,⟨p,q,h1,h2,e⟩,hs=>by
  subst e
  exact ⟨p,q,zqL (ht t (by simp)) h1 hext fun x hx=>hs x (by simp [hx]),zkj hext (fun t h=>ht t (by simp [h])) h2 fun x hx=>hs x (by simp [hx]),rfl⟩
 | [],[],_::_,_,_,h,_=>h.elim
 | [],_::_,_,_,_,h,_=>h.elim
 | _::_,[],_,_,_,h,_=>h.elim
 | _::_,_::_,[],_,_,h,_=>h.elim
theorem zwx {w w':World} (h:Ext F0 w w') (may:MemPlace→Prop):w.keptBut w' may:=by
 refine ⟨h.os,h.output,fun i hi=>?_⟩
 rw [h.block i hi fun _ f=>f]
 cases w.heap[i]? with
 | none=>trivial
 | some o=>cases o<;>first | exact ⟨rfl,rfl,rfl,fun _ _=>rfl⟩ | exact .inr ⟨rfl,rfl⟩ | rfl
theorem zmp {w:World} {a:Addr} {n:Nat} {vs:List Value} (h:w.cells? 0 a n=some vs):vs.length=n∧∀ i,i < n→∃ v,vs[i]?=some v∧w.cell? (a.add i)=some v:=by
 unfold World.cells? at h
 rw [if_pos (Nat.zero_le _)] at h
 obtain ⟨h1,h2⟩:=zmn h
 refine ⟨by simpa using h1,fun i hi=>?_⟩
 obtain ⟨y,h3,h4⟩:=h2 i i (by simp [hi])
 exact ⟨y,h3,h4⟩
theorem zys (a:Addr) (n i:Nat) (h:a.spot=none):(a.add n).add i=⟨a.block,a.off+(n+i),none⟩:=by
 obtain ⟨b,o,s⟩:=a
 simp at h
 subst h
 rw [xn,xn,Nat.add_assoc]
theorem zrL {w:World} {a:Addr} {v:Value} (h:w.cell? a=some v):a.spot=none:=by
 unfold World.cell? at h
 split at h
 ·split at h
  ·cases h
  ·rename_i hs;simpa using hs
 ·cases h
theorem zdA {H:Type} {enc:TypeId×Value→H} {P:Program} {w:World}:∀ (σ:Sh),
  (∀ (t:TypeId) (fuel:Nat) (cs:List Value) (d:DataW H) (ps:List MemPlace),chk P σ (.inl t)=true→vdB fuel σ=true→DataW.trod enc P w 0 (fun _=>true) true fuel t cs=some (d,ps) →
    fit σ (.inl d)∧x9 w F0 (cl σ (.inl d)) cs∧cs.length=σ.size) ∧
  (∀ (fs:List Field) (off fuel:Nat) (cs:List Value) (xs:List (DataW H×List MemPlace)),chk P σ (.inr (fs,off))=true→vdB fuel σ=true→xs.length=fs.length →
    (∀ (i:Nat) f,fs[i]?=some f→DataW.trod enc P w 0 (fun _=>true) true fuel f.type ((cs.drop f.offset).take (P.cellsOf f.type))=xs[i]?) →
    fit σ (.inr (xs.map (·.1)))∧x9 w F0 (cl σ (.inr (xs.map (·.1)))) ((cs.drop off).take σ.size)∧((cs.drop off).take σ.size).length=σ.size)
 | .int k=>by
  refine ⟨fun t fuel cs d ps hc hv h=>?_,fun fs off fuel cs xs hc hv=>by simp [chk] at hc⟩
  simp only [chk] at hc
  split at hc<;>try cases hc
  rename_i q hu
  have hq:=qB hc
  subst hq
  obtain ⟨n,h1,h2,h3⟩:=DataW.trod_int hu h
  cases h2
  subst h1
  exact ⟨⟨n,rfl,h3⟩,.one (.int _ _) rfl,rfl⟩
 | .bool=>by
  refine ⟨fun t fuel cs d ps hc hv h=>?_,fun fs off fuel cs xs hc hv=>by simp [chk] at hc⟩
  simp only [chk] at hc
  split at hc<;>try cases hc
  rename_i hu
  obtain ⟨n,h1,h2⟩:=DataW.trod_bool hu h
  cases h2
  subst h1
  exact ⟨⟨n,rfl⟩,.one (.bool _) rfl,rfl⟩
 | .str=>by
  refine ⟨fun t fuel cs d ps hc hv h=>?_,fun fs off fuel cs xs hc hv=>by simp [chk] at hc⟩
  simp only [chk] at hc
  split at hc<;>try cases hc
  rename_i hu
  obtain ⟨n,h1,h2,_⟩:=DataW.trod_string hu h
  cases h2
  subst h1
  refine ⟨⟨_,rfl⟩,.one ?_ rfl,rfl⟩
  have:n=⟨n.data.toList.toArray⟩:=by cases n;simp
  rw [this]
  simpa using zJ.str (w:=w) (F:=F0) n.data.toList
 | .sl n σ=>by
  refine ⟨fun t fuel cs d ps hc hv h=>?_,fun fs off fuel cs xs hc hv=>by simp [chk] at hc⟩
  obtain ⟨e,hu,hn,hn0,hσ,hce⟩:=zg3 hc
  rcases DataW.trod_slice hu h with ⟨h1,h2⟩ | ⟨a,len,cap,qm,rest,m,rfl,h1,h2,_,h4,_,h6,h7,h8,_⟩
  ·cases h2
   subst h1
   exact ⟨.inl rfl,.one (.slnil _ _) rfl,rfl⟩
  ·cases h2
   subst h1
   rw [hn] at h7 h8
   have key:∀ (i:Nat) (x:DataW H×List MemPlace),qm[i]?=some x→fit σ (.inl x.1)∧∃ vs:List Value,vs.length=n∧x9 w F0 (cl σ (.inl x.1)) vs∧∀ j,j < n→∃ v,vs[j]?=some v∧w.cell? ((a.add (i * n)).add j)=some v:=by
    intro i x hx
    have hlt:i < len:=by rw [← h6];exact (List.getElem?_eq_some_iff.1 hx).1
    have h9:=h7 i hlt
    rw [hx,Option.bind_eq_some_iff] at h9
    obtain ⟨vs,g1,g2⟩:=h9
    obtain ⟨g3,g4⟩:=zmp g1
    obtain ⟨k1,k2,k3⟩:=(zdA σ).1 e m vs x.1 x.2 hce (by simpa only [vdB] using hv) g2
    exact ⟨k1,vs,g3,k2,g4⟩
   have hone:∀ (i:Nat) (x:DataW H×List MemPlace),qm[i]?=some x→(rd σ x.1).cells=cl σ (.inl x.1):=fun i x hx=>by
    obtain ⟨_,vs,g1,g2,_⟩:=key i x hx
    exact zuw g2 fun ha=>by
     rw [g2.1,g1]
     cases σ<;>first | (simp [Sh.agg] at ha;done) | (simp [Sh.size] at hσ;omega)
   refine ⟨.inr ⟨_,_,rfl,fun y hy=>?_⟩,.one ?_ rfl,rfl⟩
   ·obtain ⟨x,hx,rfl⟩:=List.mem_map.1 hy
    obtain ⟨i,hi⟩:=List.getElem?_of_mem hx
    exact (key i x hi).1
   ·have hcl:(qm.map (·.1)).map (fun x=>elD σ (cl σ (.inl x)))=qm.map fun x=>rd σ x.1:=by simp [rd]
    change zJ w F0 (.sl n ((qm.map (·.1)).map (fun x=>elD σ (cl σ (.inl x)))) none) _
    rw [hcl]
    rcases Nat.eq_zero_or_pos cap with hz | hp
    ·subst hz
     have:qm=[]:=List.eq_nil_of_length_eq_zero (by omega)
     subst this
     have:len=0:=by simp at h6;omega
     subst this
     exact .slnil _ _
    ·have hspot:a.spot=none:=by
      rcases Nat.eq_zero_or_pos len with hl | hl
      ·obtain ⟨h9,h10⟩:=h8 rfl
       have h11:=h10 0 (by omega)
       have hr:0 < rest.length:=by omega
       rw [List.getElem?_eq_getElem hr,Option.bind_eq_some_iff] at h11
       obtain ⟨vs,g1,_⟩:=h11
       obtain ⟨v,_,g3⟩:=(zmp g1).2 0 (by omega)
       have:=zrL g3
       simpa [Addr.add,hl] using this
      ·have hel:0 < qm.length:=by omega
       obtain ⟨_,vs,g1,_,g2⟩:=key 0 _ (List.getElem?_eq_getElem hel)
       obtain ⟨v,_,g3⟩:=g2 0 (by omega)
       have:=zrL g3
       simpa [Addr.add] using this
     have hcell:∀ i d' j c,(qm.map fun x=>rd σ x.1)[i]?=some d'→d'.cells[j]?=some c→∃ v,w.cell? ⟨a.block,a.off+(i * n+j),none⟩=some v∧zJ w F0 c v∧v.oneCell'=true:=by
      intro i d' j c hi hj
      simp only [List.getElem?_map,Option.map_eq_some_iff] at hi
      obtain ⟨x,hx,rfl⟩:=hi
      rw [hone i x hx] at hj
      obtain ⟨_,vs,g1,g2,g3⟩:=key i x hx
      have hjl:j < n:=by rw [← g1,← g2.1];exact (List.getElem?_eq_some_iff.1 hj).1
      obtain ⟨v,g4,g5⟩:=g3 j hjl
      rw [zys a _ _ hspot] at g5
      obtain ⟨k1,k2,_⟩:=g2.2 j c v hj g4
      exact ⟨v,g5,k1,k2⟩
     have ha:a=⟨a.block,a.off,none⟩:=by cases a;simp at hspot;subst hspot;rfl
     have hlen:(qm.map fun x=>rd σ x.1).length=len:=by simpa using h6
     rw [ha,← hlen]
     refine .sl n _ a.block a.off cap (fun i j=>(w.cell? ⟨a.block,a.off+(i * n+j),none⟩).getD undef) (by omega) (fun i d' hi=>?_) (fun i d' j c hi hj=>?_) (fun i d' j c hi hj=>?_) (fun i d' j c hi hj=>?_)
     ·simp only [List.getElem?_map,Option.map_eq_some_iff] at hi
      obtain ⟨x,hx,rfl⟩:=hi
      rw [hone i x hx]
      obtain ⟨_,vs,g1,g2,_⟩:=key i x hx
      rw [g2.1,g1]
     all_goals obtain ⟨v,g1,g2,g3⟩:=hcell i d' j c hi hj
     ·exact ⟨by rw [g1];rfl,id⟩
     ·rw [g1];exact g3
     ·rw [g1];exact g2
 | .fin=>by
  refine ⟨fun t fuel cs d ps hc hv h=>by simp [chk] at hc,fun fs off fuel cs xs hc hv hl h=>?_⟩
  cases fs with
  | cons f fs=>simp [chk] at hc
  | nil=>
   have:xs=[]:=List.eq_nil_of_length_eq_zero (by simpa using hl)
   subst this
   exact ⟨trivial,by simp [Sh.size,cl,x9],by simp [Sh.size]⟩
 | .fld a b=>by
  have two:∀ (fs:List Field) (off fuel:Nat) (cs:List Value) (xs:List (DataW H×List MemPlace)),chk P (.fld a b) (.inr (fs,off))=true→vdB fuel (.fld a b)=true→xs.length=fs.length →
    (∀ (i:Nat) f,fs[i]?=some f→DataW.trod enc P w 0 (fun _=>true) true fuel f.type ((cs.drop f.offset).take (P.cellsOf f.type))=xs[i]?) →
    (∃ x r,xs=x::r∧fit a (.inl x.1)∧fit b (.inr (r.map (·.1)))∧x9 w F0 (cl a (.inl x.1)++cl b (.inr (r.map (·.1)))) ((cs.drop off).take (a.size+b.size))∧((cs.drop off).take (a.size+b.size)).length=a.size+b.size):=by
   intro fs off fuel cs xs hc hv hl h
   simp only [vdB,Bool.and_eq_true] at hv
   obtain ⟨f,r,rfl,h1,h2,h3,h4⟩:=zot hc
   cases xs with
   | nil=>simp at hl
   | cons x xs=>
    have h0:=h 0 f rfl
    rw [h1,h2] at h0
    obtain ⟨k1,k2,k3⟩:=(zdA a).1 f.type fuel _ x.1 x.2 h3 hv.1 h0
    obtain ⟨g1,g2,g3⟩:=(zdA b).2 r (off+a.size) fuel cs xs h4 hv.2 (by simpa using hl) fun i f' hf=>by simpa using h (i+1) f' (by simpa using hf)
    have hsplit:(cs.drop off).take (a.size+b.size)=(cs.drop off).take a.size++(cs.drop (off+a.size)).take b.size:=by
     rw [List.take_add,List.drop_drop]
    exact ⟨x,xs,rfl,k1,g1,by rw [hsplit];exact k2.append g2,by rw [hsplit,List.length_append,k3,g3]⟩
  refine ⟨fun t fuel cs d ps hc hv h=>?_,fun fs off fuel cs xs hc hv hl h=>?_⟩
  ·obtain ⟨fs,hu,hsz,hck⟩:=zlv hc
   obtain ⟨xs,m,rfl,hx,hlen,hxl,hget⟩:=DataW.trod_struct hu h
   cases hx
   obtain ⟨x,r,rfl,k1,k2,k3,k4⟩:=two fs.toList 0 m cs xs hck (kK _ m hv) (by simpa using hxl) (fun i f hf=>hget i f (by simpa using hf))
   have hcs:(cs.drop 0).take (a.size+b.size)=cs:=by rw [List.drop_zero,← hsz,← hlen,List.take_length]
   rw [hcs] at k3 k4
   exact ⟨⟨x.1,r.map (·.1),rfl,k1,k2⟩,k3,k4⟩
  ·obtain ⟨x,r,rfl,k1,k2,k3,k4⟩:=two fs off fuel cs xs hc hv hl h
   exact ⟨⟨k1,k2⟩,k3,k4⟩
 | .arr n σ=>by
  refine ⟨fun t fuel cs d ps hc hv h=>?_,fun fs off fuel cs xs hc hv=>by simp [chk] at hc⟩
  obtain ⟨e,hu,h1,h2,h3⟩:=zlu hc
  obtain ⟨xs,m,rfl,hx,hlen,hxl,hget⟩:=DataW.trod_array hu h
  cases hx
  rw [h1] at hlen
  rw [h2] at hget
  have key:∀ (k:Nat) (ys:List (DataW H×List MemPlace)) (j:Nat),ys.length=k→(∀ i,i < k→DataW.trod enc P w 0 (fun _=>true) true m e ((cs.drop ((j+i) * σ.size)).take σ.size)=ys[i]?) →
    (∀ y∈ys,fit σ (.inl y.1))∧x9 w F0 ((ys.map (·.1)).flatMap fun x=>cl σ (.inl x)) ((cs.drop (j * σ.size)).take (k * σ.size))∧((cs.drop (j * σ.size)).take (k * σ.size)).length=k * σ.size:=by
   intro k
   induction k with
   | zero=>intro ys j hl _;have:ys=[]:=List.eq_nil_of_length_eq_zero hl;subst this;simp [x9]
   | succ k ih=>
    intro ys j hl hg
    cases ys with
    | nil=>simp at hl
    | cons y ys=>
     have h0:=hg 0 (by omega)
     rw [Nat.add_zero] at h0
     obtain ⟨k1,k2,k3⟩:=(zdA σ).1 e m _ y.1 y.2 h3 (kK σ m (by simpa only [vdB] using hv)) h0
     obtain ⟨g1,g2,g3⟩:=ih ys (j+1) (by simpa using hl) fun i hi=>by
      have:=hg (i+1) (by omega)
      rw [show j+(i+1)=j+1+i by omega] at this
      simpa using this
     have hsplit:(cs.drop (j * σ.size)).take ((k+1) * σ.size)=(cs.drop (j * σ.size)).take σ.size++(cs.drop ((j+1) * σ.size)).take (k * σ.size):=by
      rw [Nat.succ_mul,Nat.add_comm,List.take_add,List.drop_drop,Nat.succ_mul]
     refine ⟨fun z hz=>?_,by rw [hsplit];exact k2.append g2,by rw [hsplit,List.length_append,k3,g3,Nat.succ_mul,Nat.add_comm]⟩
     rcases List.mem_cons.1 hz with rfl | hz
     ·exact k1
     ·exact g1 z hz
  obtain ⟨k1,k2,k3⟩:=key n xs 0 hxl fun i hi=>by rw [Nat.zero_add];exact hget i hi
  have hcs:(cs.drop (0 * σ.size)).take (n * σ.size)=cs:=by rw [Nat.zero_mul,List.drop_zero,← hlen,List.take_length]
  rw [hcs] at k2 k3
  exact ⟨⟨_,rfl,by simpa using hxl,fun y hy=>by obtain ⟨x,hx,rfl⟩:=List.mem_map.1 hy;exact k1 x hx⟩,k2,k3⟩
 | .void n=>⟨fun t fuel cs d ps hc hv h=>by simp [vdB] at hv,fun fs off fuel cs xs hc hv=>by simp [vdB] at hv⟩
theorem toNat_ofInt (n:Int):((BitVec.ofInt 64 n).toNat:Int)=n % 18446744073709551616:=by
 rw [BitVec.toNat_ofInt]
 have:(0:Int)≤n % ((2 ^ 64:Nat):Int):=Int.emod_nonneg _ (by decide)
 rw [Int.toNat_of_nonneg this]
 rfl
theorem wrap_small {n:Nat} (h:n≤9223372036854775807):IntKind.i64.wrap (n:Int)=n:=by
 exact zax (by omega) (by omega)
theorem kL {n m:Int} {k:Nat} (hk:k≤62) (hm:m=(2:Int) ^ k - 1):zD .and .i64 n m=n % (2:Int) ^ k:=by
 have h2:((2:Int) ^ k)=((2 ^ k:Nat):Int):=by simp
 have hp:1≤2 ^ k:=Nat.one_le_two_pow
 have hlt:2 ^ k≤2 ^ 62:=Nat.pow_le_pow_right (by decide) hk
 have hlt':2 ^ k≤4611686018427387904:=hlt
 have hm':m=((2 ^ k - 1:Nat):Int):=by rw [hm,h2];omega
 unfold zD
 have e1:(BitVec.ofInt IntKind.i64.bits m).toNat=2 ^ k - 1:=by
  have:=toNat_ofInt m
  have e:(BitVec.ofInt IntKind.i64.bits m).toNat=(BitVec.ofInt 64 m).toNat:=rfl
  rw [e]
  rw [hm'] at this ⊢
  omega
 simp only [BitVec.toNat_and,e1,Nat.and_two_pow_sub_one_eq_mod]
 have h3:(BitVec.ofInt IntKind.i64.bits n).toNat % 2 ^ k < 2 ^ k:=Nat.mod_lt _ (by omega)
 rw [wrap_small (by omega)]
 have h4:=toNat_ofInt n
 have e:(BitVec.ofInt IntKind.i64.bits n).toNat=(BitVec.ofInt 64 n).toNat:=rfl
 rw [Int.natCast_emod,e,h4,← h2]
 have hd:((2:Int) ^ k) ∣ 18446744073709551616:=by
  refine ⟨(2:Int) ^ (64 - k),?_⟩
  rw [← Int.pow_add,show k+(64 - k)=64 by omega]
  rfl
 exact Int.emod_emod_of_dvd n hd
theorem zc5 {n:Int}:zD .and .i64 n 1=n % 2:=kL (k:=1) (by decide) (by decide)
theorem za8 {n:Int}:zD .and .i64 n 15=n % 16:=kL (k:=4) (by decide) (by decide)
theorem kZ {n:Int}:zD .and .i64 n 255=n % 256:=kL (k:=8) (by decide) (by decide)
theorem qW {n:Int}:zD .and .i64 n 4095=n % 4096:=kL (k:=12) (by decide) (by decide)
theorem qF {n:Int}:zD .and .i64 n 65535=n % 65536:=kL (k:=16) (by decide) (by decide)
theorem zci {a:Nat} (h:a≤9223372036854775807):(BitVec.ofInt IntKind.i64.bits (a:Int)).toNat=a:=by
 have h4:=toNat_ofInt a
 have e:(BitVec.ofInt IntKind.i64.bits (a:Int)).toNat=(BitVec.ofInt 64 (a:Int)).toNat:=rfl
 omega
theorem zyt {a b:Nat} (ha:a≤9223372036854775807) (hb:b≤9223372036854775807):zD .and .i64 (a:Int) (b:Int)=((a &&& b:Nat):Int):=by
 unfold zD
 simp only [BitVec.toNat_and,zci ha,zci hb]
 exact wrap_small (Nat.le_trans Nat.and_le_left ha)
theorem zzM {a b:Nat} (ha:a < 9223372036854775808) (hb:b < 9223372036854775808):zD .or .i64 (a:Int) (b:Int)=((a ||| b:Nat):Int):=by
 unfold zD
 simp only [BitVec.toNat_or,zci (Nat.le_of_lt_succ ha),zci (Nat.le_of_lt_succ hb)]
 have:a ||| b < 2 ^ 63:=Nat.or_lt_two_pow ha hb
 exact wrap_small (by omega)
theorem znK {x y:Int} {a b:Nat} (hx:x=a) (hy:y=b) (ha:a < 9223372036854775808) (hb:b < 9223372036854775808):zD .or .i64 x y=((a ||| b:Nat):Int):=by subst hx;subst hy;exact zzM ha hb
theorem zzN {x y:Int} {a b:Nat} (hx:x=a) (hy:y=b) (ha:a < 9223372036854775808) (hb:b < 9223372036854775808):zD .and .i64 x y=((a &&& b:Nat):Int):=by subst hx;subst hy;exact zyt (Nat.le_of_lt_succ ha) (Nat.le_of_lt_succ hb)
theorem zh1 {α:Type} {p:α→Bool}:∀ {l:List α} {k:Nat} {x:α},l[k]?=some x→p x=true→(∀ i y,i < k→l[i]?=some y→p y=false)→l.find? p=some x
 | [],k,x,h,_,_=>by simp at h
 | a::l,0,x,h,hp,_=>by simp at h;subst h;simp [hp]
 | a::l,k+1,x,h,hp,hn=>by
  have h0:=hn 0 a (by omega) rfl
  rw [List.find?_cons_of_neg (by simp [h0])]
  exact zh1 (by simpa using h) hp fun i y hi hy=>hn (i+1) y (by omega) (by simpa using hy)
theorem zyu {α:Type} {p:α→Bool} {l:List α} (h:∀ (i:Nat) y,l[i]?=some y→p y=false):l.find? p=none:=by
 rw [List.find?_eq_none]
 intro x hx
 obtain ⟨i,hi⟩:=List.getElem?_of_mem hx
 simp [h i x hi]
theorem zh2 {α:Type} {p:α→Bool} {l:List α} {k:Nat} {x:α} (h:∀ (i:Nat) y,i < k→l[i]?=some y→p y=false) (hx:l[k]?=some x) (hp:p x=false):∀ (i:Nat) y,i < k+1→l[i]?=some y→p y=false:=fun i y hi hy=>by
 rcases Nat.lt_or_ge i k with h1 | h1
 ·exact h i y h1 hy
 ·obtain rfl:i=k:=by omega
  rw [hx] at hy
  cases hy
  exact hp
theorem zou {α:Type} {p:α→Bool} {l:List α} {k:Nat} (h:∀ (i:Nat) y,i < k→l[i]?=some y→p y=false) (hk:l.length≤k):l.find? p=none:=
 zyu fun i y hy=>h i y (by have:=(List.getElem?_eq_some_iff.1 hy).1;omega) hy
theorem zP {α:Type} {l:List α} {k:Nat} (h:k < l.length):∃ x,l[k]?=some x:=⟨_,List.getElem?_eq_getElem h⟩
end Go.Plat
namespace Go.Plat
open Go
set_option linter.unusedVariables false
structure Lf (G:Prop):Prop where
 h:G
structure Rd (R G:Prop):Prop where
 f:R→G
theorem Rd.of {R G G':Prop} (f:G'→G) (h:Rd R G'):Rd R G:=⟨fun r=>f (h.f r)⟩
theorem Rd.lf {G:Prop}:Rd (Lf G) G:=⟨fun r=>r.h⟩
theorem Rd.ab {A:Prop} (h:False):Rd True A:=h.elim
theorem Rd.sp {p q p' q' R1 R2 A B G:Prop} (f:(p→A)→(q→B)→G) (hp:p→p') (hq:q→q') (h1:p'→Rd R1 A) (h2:q'→Rd R2 B):Rd ((p'→R1)∧(q'→R2)) G:=
 ⟨fun r=>f (fun h=>(h1 (hp h)).f (r.1 (hp h))) fun h=>(h2 (hq h)).f (r.2 (hq h))⟩
theorem yh {op:BinOp} {k:IntKind} {x y y' r:Int} {K:D→Prop} (h:zD op k x y'=r) (hy:y=y') (hK:K (.int k r)):yn op k x y K:=by subst hy;exact wG h hK
theorem qga {R G:Prop} (k:R) (h:Rd R G:=by (repeat' (first | (apply Rd.of (VS.mk)) | (apply Rd.of (zea)) | (apply Rd.of (ziT)) | ((first | apply Rd.sp vN | apply Rd.sp zaY | apply Rd.sp zaZ | apply Rd.sp za0 | apply Rd.sp za2 | apply Rd.sp za3 | apply Rd.sp za1 | apply Rd.sp za4);(iterate 2 (next=>intro hc;first | (refine id (α:=False) ?_;simp only [List.length_map,List.length_append,List.length_cons,List.length_nil,Bool.and_true,Bool.and_eq_true,beq_iff_eq,Bool.and_eq_false_iff,beq_eq_false_iff_ne,Bool.true_and,ne_eq] at hc;done) | ((try simp only [List.length_map,List.length_append,List.length_cons,List.length_nil,Bool.and_true,Bool.and_eq_true,beq_iff_eq,Bool.and_eq_false_iff,beq_eq_false_iff_ne,Bool.true_and,ne_eq] at hc);exact hc)));(all_goals (try (first | exact Rd.ab | intro hc)))) | (with_reducible first | apply Rd.of (kH) | apply Rd.of (kI) | apply Rd.of (vc) | apply Rd.of (kJ) | apply Rd.of (vd) | apply Rd.of (vf) | apply Rd.of (wH) | apply Rd.of (qD) | apply Rd.of (jL)) | (with_reducible apply Rd.of (kG)) | (apply Rd.of (jH)) | (apply Rd.of (kh (by omega) (by omega))) | (apply Rd.of (za6)) | (apply Rd.of (kF (by omega))) | (apply Rd.of (kE (by simp only [Int.reduceToNat];exact rfl) (by decide) (by omega))) | (apply Rd.of (jK (by omega) (by omega))) | (apply Rd.of (w6 (by decide) rfl)) | (apply Rd.of (yL rfl)) | (apply Rd.of (yL (by decide +kernel))) | (apply Rd.of (yL (by first | (simp only [List.length_map,List.length_append,List.length_cons,List.length_nil];done) | ((try simp only [List.length_map,List.length_append,List.length_cons,List.length_nil,List.length_set,List.length_replicate,List.length_drop,List.length_take,true_and,and_true]);omega) | (dsimp only;omega)))) | (first | apply Rd.of (zfA (by omega) (by omega)) | apply Rd.of (zfC (by omega) (by omega)) | apply Rd.of (zfE (by omega) (by omega)) | apply Rd.of (zc0 (by omega) (by omega)) | apply Rd.of (zc2 (by omega) (by omega)) | apply Rd.of (zfB (by decide)) | apply Rd.of (zfD (by decide)) | apply Rd.of (zfF (by decide)) | apply Rd.of (zc1 (by decide)) | apply Rd.of (zc3 (by decide))) | (with_reducible first | apply Rd.of (yh zc5 (by decide)) | apply Rd.of (yh za8 (by decide)) | apply Rd.of (yh kZ (by decide)) | apply Rd.of (yh qW (by decide)) | apply Rd.of (yh qF (by decide))) | (apply Rd.of (jI (by omega) (by omega) (by omega))) | (apply Rd.of (jJ (by omega) (by omega))) | exact Rd.lf))):G:=h.f k
theorem qgo {R G:Prop} (k:R) (h:Rd R G:=by (repeat' (first | (apply Rd.of (VS.mk)) | (apply Rd.of (zea)) | (apply Rd.of (zau)) | ((first | apply Rd.sp vN | apply Rd.sp zaY | apply Rd.sp zaZ | apply Rd.sp za0 | apply Rd.sp za2 | apply Rd.sp za3 | apply Rd.sp za1 | apply Rd.sp za4);(iterate 2 (next=>intro hc;first | (refine id (α:=False) ?_;simp only [List.length_map,List.length_append,List.length_cons,List.length_nil,Bool.and_true,Bool.and_eq_true,beq_iff_eq,Bool.and_eq_false_iff,beq_eq_false_iff_ne,Bool.true_and,ne_eq] at hc;done) | ((try simp only [List.length_map,List.length_append,List.length_cons,List.length_nil,Bool.and_true,Bool.and_eq_true,beq_iff_eq,Bool.and_eq_false_iff,beq_eq_false_iff_ne,Bool.true_and,ne_eq] at hc);exact hc)));(all_goals (try (first | exact Rd.ab | intro hc)))) | (with_reducible first | apply Rd.of (kH) | apply Rd.of (kI) | apply Rd.of (vc) | apply Rd.of (kJ) | apply Rd.of (vd) | apply Rd.of (vf) | apply Rd.of (wH) | apply Rd.of (qD) | apply Rd.of (jL)) | (with_reducible apply Rd.of (kG)) | (apply Rd.of (jH)) | (apply Rd.of (kh (by omega) (by omega))) | (apply Rd.of (za6)) | (apply Rd.of (kF (by omega))) | (apply Rd.of (kE (by simp only [Int.reduceToNat];exact rfl) (by decide) (by omega))) | (apply Rd.of (jK (by omega) (by omega))) | (apply Rd.of (w6 (by decide) rfl)) | (apply Rd.of (yL rfl)) | (apply Rd.of (yL (by decide +kernel))) | (apply Rd.of (yL (by first | (simp only [List.length_map,List.length_append,List.length_cons,List.length_nil];done) | ((try simp only [List.length_map,List.length_append,List.length_cons,List.length_nil,List.length_set,List.length_replicate,List.length_drop,List.length_take,true_and,and_true]);omega) | (dsimp only;omega)))) | (first | apply Rd.of (zfA (by omega) (by omega)) | apply Rd.of (zfC (by omega) (by omega)) | apply Rd.of (zfE (by omega) (by omega)) | apply Rd.of (zc0 (by omega) (by omega)) | apply Rd.of (zc2 (by omega) (by omega)) | apply Rd.of (zfB (by decide)) | apply Rd.of (zfD (by decide)) | apply Rd.of (zfF (by decide)) | apply Rd.of (zc1 (by decide)) | apply Rd.of (zc3 (by decide))) | (with_reducible first | apply Rd.of (yh zc5 (by decide)) | apply Rd.of (yh za8 (by decide)) | apply Rd.of (yh kZ (by decide)) | apply Rd.of (yh qW (by decide)) | apply Rd.of (yh qF (by decide))) | (apply Rd.of (jI (by omega) (by omega) (by omega))) | (apply Rd.of (jJ (by omega) (by omega))) | exact Rd.lf))):G:=h.f k
theorem qgn {R G:Prop} (k:R) (h:Rd R G:=by (repeat' (first | (apply Rd.of (VS.mk)) | (apply Rd.of (zau)) | ((first | apply Rd.sp vN | apply Rd.sp zaY | apply Rd.sp zaZ | apply Rd.sp za0 | apply Rd.sp za2 | apply Rd.sp za3 | apply Rd.sp za1 | apply Rd.sp za4);(iterate 2 (next=>intro hc;first | (refine id (α:=False) ?_;simp only [List.length_map,List.length_append,List.length_cons,List.length_nil,Bool.and_true,Bool.and_eq_true,beq_iff_eq,Bool.and_eq_false_iff,beq_eq_false_iff_ne,Bool.true_and,ne_eq] at hc;done) | ((try simp only [List.length_map,List.length_append,List.length_cons,List.length_nil,Bool.and_true,Bool.and_eq_true,beq_iff_eq,Bool.and_eq_false_iff,beq_eq_false_iff_ne,Bool.true_and,ne_eq] at hc);exact hc)));(all_goals (try (first | exact Rd.ab | intro hc)))) | (with_reducible first | apply Rd.of (kH) | apply Rd.of (kI) | apply Rd.of (vc) | apply Rd.of (kJ) | apply Rd.of (vd) | apply Rd.of (vf) | apply Rd.of (wH) | apply Rd.of (qD) | apply Rd.of (jL)) | (with_reducible apply Rd.of (kG)) | (apply Rd.of (jH)) | (apply Rd.of (kh (by omega) (by omega))) | (apply Rd.of (za6)) | (apply Rd.of (kF (by omega))) | (apply Rd.of (kE (by simp only [Int.reduceToNat];exact rfl) (by decide) (by omega))) | (apply Rd.of (jK (by omega) (by omega))) | (apply Rd.of (w6 (by decide) rfl)) | (apply Rd.of (yL rfl)) | (apply Rd.of (yL (by decide +kernel))) | (apply Rd.of (yL (by first | (simp only [List.length_map,List.length_append,List.length_cons,List.length_nil];done) | ((try simp only [List.length_map,List.length_append,List.length_cons,List.length_nil,List.length_set,List.length_replicate,List.length_drop,List.length_take,true_and,and_true]);omega) | (dsimp only;omega)))) | (first | apply Rd.of (zfA (by omega) (by omega)) | apply Rd.of (zfC (by omega) (by omega)) | apply Rd.of (zfE (by omega) (by omega)) | apply Rd.of (zc0 (by omega) (by omega)) | apply Rd.of (zc2 (by omega) (by omega)) | apply Rd.of (zfB (by decide)) | apply Rd.of (zfD (by decide)) | apply Rd.of (zfF (by decide)) | apply Rd.of (zc1 (by decide)) | apply Rd.of (zc3 (by decide))) | (with_reducible first | apply Rd.of (yh zc5 (by decide)) | apply Rd.of (yh za8 (by decide)) | apply Rd.of (yh kZ (by decide)) | apply Rd.of (yh qW (by decide)) | apply Rd.of (yh qF (by decide))) | (apply Rd.of (jI (by omega) (by omega) (by omega))) | (apply Rd.of (jJ (by omega) (by omega))) | exact Rd.lf))):G:=h.f k
theorem qgs {R G:Prop} (k:R) (h:Rd R G:=by (repeat' (first | (apply Rd.of (VS.mk)) | (apply Rd.of (zea)) | ((first | apply Rd.sp vN | apply Rd.sp zaY | apply Rd.sp zaZ | apply Rd.sp za0 | apply Rd.sp za2 | apply Rd.sp za3 | apply Rd.sp za1 | apply Rd.sp za4);(iterate 2 (next=>intro hc;first | (refine id (α:=False) ?_;simp only [List.length_map,List.length_append,List.length_cons,List.length_nil,Bool.and_true,Bool.and_eq_true,beq_iff_eq,Bool.and_eq_false_iff,beq_eq_false_iff_ne,Bool.true_and,ne_eq] at hc;done) | ((try simp only [List.length_map,List.length_append,List.length_cons,List.length_nil,Bool.and_true,Bool.and_eq_true,beq_iff_eq,Bool.and_eq_false_iff,beq_eq_false_iff_ne,Bool.true_and,ne_eq] at hc);exact hc)));(all_goals (try (first | exact Rd.ab | intro hc)))) | (with_reducible first | apply Rd.of (kH) | apply Rd.of (kI) | apply Rd.of (vc) | apply Rd.of (kJ) | apply Rd.of (vd) | apply Rd.of (vf) | apply Rd.of (wH) | apply Rd.of (qD) | apply Rd.of (jL)) | (with_reducible apply Rd.of (kG)) | (apply Rd.of (jH)) | (apply Rd.of (kh (by omega) (by omega))) | (apply Rd.of (za6)) | (apply Rd.of (kF (by omega))) | (apply Rd.of (kE (by simp only [Int.reduceToNat];exact rfl) (by decide) (by omega))) | (apply Rd.of (jK (by omega) (by omega))) | (apply Rd.of (w6 (by decide) rfl)) | (apply Rd.of (yL rfl)) | (apply Rd.of (yL (by decide +kernel))) | (apply Rd.of (yL (by first | (simp only [List.length_map,List.length_append,List.length_cons,List.length_nil];done) | ((try simp only [List.length_map,List.length_append,List.length_cons,List.length_nil,List.length_set,List.length_replicate,List.length_drop,List.length_take,true_and,and_true]);omega) | (dsimp only;omega)))) | (first | apply Rd.of (zfA (by omega) (by omega)) | apply Rd.of (zfC (by omega) (by omega)) | apply Rd.of (zfE (by omega) (by omega)) | apply Rd.of (zc0 (by omega) (by omega)) | apply Rd.of (zc2 (by omega) (by omega)) | apply Rd.of (zfB (by decide)) | apply Rd.of (zfD (by decide)) | apply Rd.of (zfF (by decide)) | apply Rd.of (zc1 (by decide)) | apply Rd.of (zc3 (by decide))) | (with_reducible first | apply Rd.of (yh zc5 (by decide)) | apply Rd.of (yh za8 (by decide)) | apply Rd.of (yh kZ (by decide)) | apply Rd.of (yh qW (by decide)) | apply Rd.of (yh qF (by decide))) | (apply Rd.of (jI (by omega) (by omega) (by omega))) | (apply Rd.of (jJ (by omega) (by omega))) | exact Rd.lf))):G:=h.f k
theorem qgk {R G:Prop} (k:R) (h:Rd R G:=by (repeat' (first | (apply Rd.of (VS.mk)) | (apply Rd.of (zea)) | (apply Rd.of (zau)) | ((first | apply Rd.sp vN | apply Rd.sp zaY | apply Rd.sp zaZ | apply Rd.sp za0 | apply Rd.sp za2 | apply Rd.sp za3 | apply Rd.sp za1 | apply Rd.sp za4);(iterate 2 (next=>intro hc;first | (refine id (α:=False) ?_;simp only [List.length_map,List.length_append,List.length_cons,List.length_nil,Bool.and_true,Bool.and_eq_true,beq_iff_eq,Bool.and_eq_false_iff,beq_eq_false_iff_ne,Bool.true_and,ne_eq] at hc;done) | ((try simp only [List.length_map,List.length_append,List.length_cons,List.length_nil,Bool.and_true,Bool.and_eq_true,beq_iff_eq,Bool.and_eq_false_iff,beq_eq_false_iff_ne,Bool.true_and,ne_eq] at hc);exact hc)));(all_goals (try (first | exact Rd.ab | intro hc)))) | (with_reducible first | apply Rd.of (kH) | apply Rd.of (kI) | apply Rd.of (vc) | apply Rd.of (kJ) | apply Rd.of (vd) | apply Rd.of (vf) | apply Rd.of (wH) | apply Rd.of (qD)) | (with_reducible apply Rd.of (kG)) | (apply Rd.of (jH)) | (apply Rd.of (kh (by omega) (by omega))) | (apply Rd.of (za6)) | (apply Rd.of (kF (by omega))) | (apply Rd.of (kE (by simp only [Int.reduceToNat];exact rfl) (by decide) (by omega))) | (apply Rd.of (jK (by omega) (by omega))) | (apply Rd.of (w6 (by decide) rfl)) | (apply Rd.of (yL rfl)) | (apply Rd.of (yL (by decide +kernel))) | (apply Rd.of (yL (by first | (simp only [List.length_map,List.length_append,List.length_cons,List.length_nil];done) | ((try simp only [List.length_map,List.length_append,List.length_cons,List.length_nil,List.length_set,List.length_replicate,List.length_drop,List.length_take,true_and,and_true]);omega) | (dsimp only;omega)))) | (first | apply Rd.of (zfA (by omega) (by omega)) | apply Rd.of (zfC (by omega) (by omega)) | apply Rd.of (zfE (by omega) (by omega)) | apply Rd.of (zc0 (by omega) (by omega)) | apply Rd.of (zc2 (by omega) (by omega)) | apply Rd.of (zfB (by decide)) | apply Rd.of (zfD (by decide)) | apply Rd.of (zfF (by decide)) | apply Rd.of (zc1 (by decide)) | apply Rd.of (zc3 (by decide))) | (with_reducible first | apply Rd.of (yh zc5 (by decide)) | apply Rd.of (yh za8 (by decide)) | apply Rd.of (yh kZ (by decide)) | apply Rd.of (yh qW (by decide)) | apply Rd.of (yh qF (by decide))) | (apply Rd.of (jI (by omega) (by omega) (by omega))) | (apply Rd.of (jJ (by omega) (by omega))) | exact Rd.lf))):G:=h.f k
theorem qgp {R G:Prop} (k:R) (h:Rd R G:=by (repeat' (first | (apply Rd.of (VS.mk)) | (apply Rd.of (zea)) | (apply Rd.of (zau)) | ((first | apply Rd.sp vN | apply Rd.sp zaY | apply Rd.sp zaZ | apply Rd.sp za0 | apply Rd.sp za2 | apply Rd.sp za3 | apply Rd.sp za1 | apply Rd.sp za4);(iterate 2 (next=>intro hc;first | (refine id (α:=False) ?_;(try simp only [List.length_map,List.length_append,List.length_cons,List.length_nil,Bool.and_true,Bool.and_eq_true,beq_iff_eq,Bool.and_eq_false_iff,beq_eq_false_iff_ne,Bool.true_and,ne_eq] at hc);first | done | omega) | ((try simp only [List.length_map,List.length_append,List.length_cons,List.length_nil,Bool.and_true,Bool.and_eq_true,beq_iff_eq,Bool.and_eq_false_iff,beq_eq_false_iff_ne,Bool.true_and,ne_eq] at hc);exact hc)));(all_goals (try (first | exact Rd.ab | intro hc)))) | (with_reducible first | apply Rd.of (kH) | apply Rd.of (kI) | apply Rd.of (vc) | apply Rd.of (kJ) | apply Rd.of (vd) | apply Rd.of (vf) | apply Rd.of (wH) | apply Rd.of (qD) | apply Rd.of (jL)) | (with_reducible apply Rd.of (kG)) | (apply Rd.of (jH)) | (apply Rd.of (kh (by omega) (by omega))) | (apply Rd.of (za6)) | (apply Rd.of (kF (by omega))) | (apply Rd.of (kE (by simp only [Int.reduceToNat];exact rfl) (by decide) (by omega))) | (apply Rd.of (jK (by omega) (by omega))) | (apply Rd.of (w6 (by decide) rfl)) | (apply Rd.of (yL rfl)) | (apply Rd.of (yL (by decide +kernel))) | (apply Rd.of (yL (by first | (simp only [List.length_map,List.length_append,List.length_cons,List.length_nil];done) | ((try simp only [List.length_map,List.length_append,List.length_cons,List.length_nil,List.length_set,List.length_replicate,List.length_drop,List.length_take,true_and,and_true]);omega) | (dsimp only;omega)))) | (first | apply Rd.of (zfA (by omega) (by omega)) | apply Rd.of (zfC (by omega) (by omega)) | apply Rd.of (zfE (by omega) (by omega)) | apply Rd.of (zc0 (by omega) (by omega)) | apply Rd.of (zc2 (by omega) (by omega)) | apply Rd.of (zfB (by decide)) | apply Rd.of (zfD (by decide)) | apply Rd.of (zfF (by decide)) | apply Rd.of (zc1 (by decide)) | apply Rd.of (zc3 (by decide))) | (with_reducible first | apply Rd.of (yh zc5 (by decide)) | apply Rd.of (yh za8 (by decide)) | apply Rd.of (yh kZ (by decide)) | apply Rd.of (yh qW (by decide)) | apply Rd.of (yh qF (by decide))) | (apply Rd.of (jI (by omega) (by omega) (by omega))) | (apply Rd.of (jJ (by omega) (by omega))) | exact Rd.lf))):G:=h.f k
theorem zBf {R G:Prop} (k:R) (h:Rd R G:=by (repeat' (first | (apply Rd.of (VS.mk)) | (apply Rd.of (zau)) | ((first | apply Rd.sp vN | apply Rd.sp zaY | apply Rd.sp zaZ | apply Rd.sp za0 | apply Rd.sp za2 | apply Rd.sp za3 | apply Rd.sp za1 | apply Rd.sp za4);(iterate 2 (next=>intro hc;first | (refine id (α:=False) ?_;(try simp only [List.length_map,List.length_append,List.length_cons,List.length_nil,Bool.and_true,Bool.and_eq_true,beq_iff_eq,Bool.and_eq_false_iff,beq_eq_false_iff_ne,Bool.true_and,ne_eq] at hc);first | done | omega) | ((try simp only [List.length_map,List.length_append,List.length_cons,List.length_nil,Bool.and_true,Bool.and_eq_true,beq_iff_eq,Bool.and_eq_false_iff,beq_eq_false_iff_ne,Bool.true_and,ne_eq] at hc);exact hc)));(all_goals (try (first | exact Rd.ab | intro hc)))) | (with_reducible first | apply Rd.of (kH) | apply Rd.of (kI) | apply Rd.of (vc) | apply Rd.of (kJ) | apply Rd.of (vd) | apply Rd.of (vf) | apply Rd.of (wH) | apply Rd.of (qD) | apply Rd.of (jL)) | (with_reducible apply Rd.of (kG)) | (apply Rd.of (jH)) | (apply Rd.of (kh (by omega) (by omega))) | (apply Rd.of (za6)) | (apply Rd.of (kF (by omega))) | (apply Rd.of (kE (by simp only [Int.reduceToNat];exact rfl) (by decide) (by omega))) | (apply Rd.of (jK (by omega) (by omega))) | (apply Rd.of (w6 (by decide) rfl)) | (apply Rd.of (yL rfl)) | (apply Rd.of (yL (by decide +kernel))) | (apply Rd.of (yL (by first | (simp only [List.length_map,List.length_append,List.length_cons,List.length_nil];done) | ((try simp only [List.length_map,List.length_append,List.length_cons,List.length_nil,List.length_set,List.length_replicate,List.length_drop,List.length_take,true_and,and_true]);omega) | (dsimp only;omega)))) | (first | apply Rd.of (zfA (by omega) (by omega)) | apply Rd.of (zfC (by omega) (by omega)) | apply Rd.of (zfE (by omega) (by omega)) | apply Rd.of (zc0 (by omega) (by omega)) | apply Rd.of (zc2 (by omega) (by omega)) | apply Rd.of (zfB (by decide)) | apply Rd.of (zfD (by decide)) | apply Rd.of (zfF (by decide)) | apply Rd.of (zc1 (by decide)) | apply Rd.of (zc3 (by decide))) | (with_reducible first | apply Rd.of (yh zc5 (by decide)) | apply Rd.of (yh za8 (by decide)) | apply Rd.of (yh kZ (by decide)) | apply Rd.of (yh qW (by decide)) | apply Rd.of (yh qF (by decide))) | (apply Rd.of (jI (by omega) (by omega) (by omega))) | (apply Rd.of (jJ (by omega) (by omega))) | exact Rd.lf))):G:=h.f k
theorem qgv {R G:Prop} (k:R) (h:Rd R G:=by (repeat' (first | (apply Rd.of (VS.mk)) | (apply Rd.of (zea)) | (apply Rd.of (fun h=>zau (yL (by decide) h))) | (apply Rd.of (fun h=>ziT (yL ⟨by omega,by omega⟩ h))) | (apply Rd.of (zau)) | ((first | apply Rd.sp vN | apply Rd.sp zaY | apply Rd.sp zaZ | apply Rd.sp za0 | apply Rd.sp za2 | apply Rd.sp za3 | apply Rd.sp za1 | apply Rd.sp za4);(iterate 2 (next=>intro hc;first | (refine id (α:=False) ?_;(try simp only [List.length_map,List.length_append,List.length_cons,List.length_nil,Bool.and_true,Bool.and_eq_true,beq_iff_eq,Bool.and_eq_false_iff,beq_eq_false_iff_ne,Bool.true_and,ne_eq] at hc);first | done | omega) | ((try simp only [List.length_map,List.length_append,List.length_cons,List.length_nil,Bool.and_true,Bool.and_eq_true,beq_iff_eq,Bool.and_eq_false_iff,beq_eq_false_iff_ne,Bool.true_and,ne_eq] at hc);exact hc)));(all_goals (try (first | exact Rd.ab | intro hc)))) | (apply Rd.of (zvZ (by omega) (by omega))) | (apply Rd.of (zv0 (by omega) (by omega) rfl)) | (apply Rd.of (zsr (by omega) (by omega))) | (with_reducible first | apply Rd.of (kH) | apply Rd.of (kI) | apply Rd.of (vc) | apply Rd.of (kJ) | apply Rd.of (vd) | apply Rd.of (vf) | apply Rd.of (wH) | apply Rd.of (qD) | apply Rd.of (jL)) | (with_reducible apply Rd.of (kG)) | (apply Rd.of (jH)) | (apply Rd.of (kh (by omega) (by omega))) | (apply Rd.of (za6)) | (apply Rd.of (kF (by omega))) | (apply Rd.of (kE (by simp only [Int.reduceToNat];exact rfl) (by decide) (by omega))) | (apply Rd.of (jK (by omega) (by omega))) | (apply Rd.of (w6 (by decide) rfl)) | (apply Rd.of (yL rfl)) | (apply Rd.of (yL (by decide +kernel))) | (apply Rd.of (yL (by first | (simp only [List.length_map,List.length_append,List.length_cons,List.length_nil];done) | ((try simp only [List.length_map,List.length_append,List.length_cons,List.length_nil,List.length_set,List.length_replicate,List.length_drop,List.length_take,true_and,and_true]);omega) | (dsimp only;omega)))) | (first | apply Rd.of (zfA (by omega) (by omega)) | apply Rd.of (zfC (by omega) (by omega)) | apply Rd.of (zfE (by omega) (by omega)) | apply Rd.of (zc0 (by omega) (by omega)) | apply Rd.of (zc2 (by omega) (by omega)) | apply Rd.of (zfB (by decide)) | apply Rd.of (zfD (by decide)) | apply Rd.of (zfF (by decide)) | apply Rd.of (zc1 (by decide)) | apply Rd.of (zc3 (by decide))) | (with_reducible first | apply Rd.of (yh zc5 (by decide)) | apply Rd.of (yh za8 (by decide)) | apply Rd.of (yh kZ (by decide)) | apply Rd.of (yh qW (by decide)) | apply Rd.of (yh qF (by decide))) | (apply Rd.of (jI (by omega) (by omega) (by omega))) | (apply Rd.of (jJ (by omega) (by omega))) | exact Rd.lf))):G:=h.f k
theorem zbz {R G:Prop} (k:R) (h:Rd R G:=by (repeat' (first | (apply Rd.of (zzn (by assumption) (by assumption))) | (apply Rd.of (zAE (by assumption) (by assumption))) | (apply Rd.of (zzo (by assumption) (by assumption))) | (apply Rd.of (wG zzp)) | (apply Rd.of (zAA)) | (apply Rd.of (zAB)) | (apply Rd.of (zAC)) | (apply Rd.of (zAD)) | (apply Rd.of (VS.mk)) | (apply Rd.of (zea)) | (apply Rd.of (fun h=>zau (yL (by decide) h))) | (apply Rd.of (fun h=>ziT (yL ⟨by omega,by omega⟩ h))) | (apply Rd.of (zau)) | ((first | apply Rd.sp vN | apply Rd.sp zaY | apply Rd.sp zaZ | apply Rd.sp za0 | apply Rd.sp za2 | apply Rd.sp za3 | apply Rd.sp za1 | apply Rd.sp za4);(iterate 2 (next=>intro hc;first | (refine id (α:=False) ?_;(try simp only [List.length_map,List.length_append,List.length_cons,List.length_nil,Bool.and_true,Bool.and_eq_true,beq_iff_eq,Bool.and_eq_false_iff,beq_eq_false_iff_ne,Bool.true_and,ne_eq] at hc);first | done | omega) | ((try simp only [List.length_map,List.length_append,List.length_cons,List.length_nil,Bool.and_true,Bool.and_eq_true,beq_iff_eq,Bool.and_eq_false_iff,beq_eq_false_iff_ne,Bool.true_and,ne_eq] at hc);exact hc)));(all_goals (try (first | exact Rd.ab | intro hc)))) | (apply Rd.of (zvZ (by omega) (by omega))) | (apply Rd.of (zv0 (by omega) (by omega) rfl)) | (apply Rd.of (zsr (by omega) (by omega))) | (with_reducible first | apply Rd.of (kH) | apply Rd.of (kI) | apply Rd.of (vc) | apply Rd.of (kJ) | apply Rd.of (vd) | apply Rd.of (vf) | apply Rd.of (wH) | apply Rd.of (qD) | apply Rd.of (jL)) | (with_reducible apply Rd.of (kG)) | (apply Rd.of (jH)) | (apply Rd.of (kh (by omega) (by omega))) | (apply Rd.of (za6)) | (apply Rd.of (kF (by omega))) | (apply Rd.of (kE (by simp only [Int.reduceToNat];exact rfl) (by decide) (by omega))) | (apply Rd.of (jK (by omega) (by omega))) | (apply Rd.of (w6 (by decide) rfl)) | (apply Rd.of (yL rfl)) | (apply Rd.of (yL (by decide +kernel))) | (apply Rd.of (yL (by first | (simp only [List.length_map,List.length_append,List.length_cons,List.length_nil];done) | ((try simp only [List.length_map,List.length_append,List.length_cons,List.length_nil,List.length_set,List.length_replicate,List.length_drop,List.length_take,true_and,and_true]);omega) | (dsimp only;omega)))) | (first | apply Rd.of (zfA (by omega) (by omega)) | apply Rd.of (zfC (by omega) (by omega)) | apply Rd.of (zfE (by omega) (by omega)) | apply Rd.of (zc0 (by omega) (by omega)) | apply Rd.of (zc2 (by omega) (by omega)) | apply Rd.of (zfB (by decide)) | apply Rd.of (zfD (by decide)) | apply Rd.of (zfF (by decide)) | apply Rd.of (zc1 (by decide)) | apply Rd.of (zc3 (by decide))) | (with_reducible first | apply Rd.of (yh zc5 (by decide)) | apply Rd.of (yh za8 (by decide)) | apply Rd.of (yh kZ (by decide)) | apply Rd.of (yh qW (by decide)) | apply Rd.of (yh qF (by decide))) | (apply Rd.of (jI (by omega) (by omega) (by omega))) | (apply Rd.of (jJ (by omega) (by omega))) | exact Rd.lf))):G:=h.f k
end Go.Plat
namespace Go.Plat
open Go
set_option linter.unusedVariables false
set_option linter.unusedSimpArgs false
theorem zne {n0 e k:Nat} {L:List Ob} {ds ds':List D} (hk:L[k]?=some (.cells ds)) (hl:ds.length=ds'.length)
  (h:∀ (i:Nat) d d',ds[i]?=some d→ds'[i]?=some d'→Nz e L.length d d'):xJ n0 (fun d d'=>d'=d) L (L.set k (.cells ds')++[.spare 0]):=fun w ρ hf=>by
 have hkl:k < L.length:=(List.getElem?_eq_some_iff.1 hk).1
 have hlen:(L.set k (.cells ds')).length=L.length:=by simp
 obtain ⟨o1,o2⟩:=hf.obj k _ hk
 have hget:∀ {j:Nat} {x:Ob},(L.set k (.cells ds')++[.spare 0])[j]?=some x→(j=k∧x= .cells ds')∨(j≠k∧L[j]?=some x∧j < L.length)∨(j=L.length∧x= .spare 0):=by
  intro j x h
  rcases kC h with ⟨h1,h2⟩ | ⟨h1,h2⟩
  ·rcases zT h2 with ⟨h3,h4⟩ | ⟨h3,h4⟩
   ·exact .inl ⟨h3,h4⟩
   ·exact .inr (.inl ⟨h3,h4,by rwa [hlen] at h1⟩)
  ·exact .inr (.inr ⟨by rw [h1,hlen],h2.symm⟩)
 have hc:zX ρ L (upd ρ L.length ⟨0,0,0⟩) (L.set k (.cells ds')++[.spare 0]):=by
  refine ⟨rfl,by simp,fun j d hj h=>?_,fun j d hj h=>?_,fun j n hj h=>?_,fun j e' d hj h=>?_⟩
  all_goals
   rcases hget h with ⟨h1,h2⟩ | ⟨_,h2,_⟩ | ⟨h1,_⟩
   ·first
     | (cases h2;subst h1;exact ⟨_,hk,yi (by omega)⟩)
     | cases h2
   ·first
     | exact ⟨_,h2,yi (by omega)⟩
     | exact ⟨_,h2,Nat.le_refl _,fun _=>yi (by omega)⟩
   ·omega
 have hnone:∀ b off,¬ Ob.owns (.spare 0) ⟨0,0,0⟩ b off:=fun b off ⟨_,_,h4⟩=>by
  have h4:off < 0+0:=h4
  omega
 have hown:∀ b off,own (upd ρ L.length ⟨0,0,0⟩) (L.set k (.cells ds')++[.spare 0]) b off→own ρ L b off:=by
  rintro b off ⟨j,o,h1,h2⟩
  rcases hget h1 with ⟨h3,h4⟩ | ⟨h3,h4,h5⟩ | ⟨h3,h4⟩
  ·subst h3;subst h4
   rw [yi (by omega)] at h2
   exact ⟨j,_,hk,h2⟩
  ·rw [yi (by omega)] at h2
   exact ⟨j,o,h4,h2⟩
  ·subst h3;subst h4
   rw [zZ] at h2
   exact (hnone _ _ h2).elim
 have hfr:yU w (own ρ L) (own (upd ρ L.length ⟨0,0,0⟩) (L.set k (.cells ds')++[.spare 0])):=fun b off h=>.inl (hown b off h)
 have hff:=hfr.foot (ρ':=upd ρ L.length ⟨0,0,0⟩) rfl
 have hgo:∀ (j:Nat) x,(L.set k (.cells ds')++[.spare 0])[j]?=some x→∀ b off,x.owns (upd ρ L.length ⟨0,0,0⟩ j) b off→∃ y,L[j]?=some y∧y.owns (ρ j) b off:=by
  intro j x h1 b off h2
  rcases hget h1 with ⟨h3,h4⟩ | ⟨h3,h4,h5⟩ | ⟨h3,h4⟩
  ·subst h3;subst h4
   rw [yi (by omega)] at h2
   exact ⟨_,hk,h2⟩
  ·rw [yi (by omega)] at h2
   exact ⟨_,h4,h2⟩
  ·subst h3;subst h4
   rw [zZ] at h2
   exact (hnone _ _ h2).elim
 refine ⟨_,hf.change F0 (fun _ _ h=>h.elim) (Ext.refl _ _) hc hfr (fun j j' x x' b off h1 h2 h3 h4=>?_) (fun j o hj=>?_),fun d d' v hd hr=>?_,hown,fun ρ0 L0 hl h0=>h0.trans hc⟩
 ·obtain ⟨y,g1,g2⟩:=hgo j x h1 b off h3
  obtain ⟨y',g3,g4⟩:=hgo j' x' h2 b off h4
  exact hf.disj _ _ _ _ _ _ g1 g3 g2 g4
 ·rcases hget hj with ⟨h2,h3⟩ | ⟨h2,h3,h4⟩ | ⟨h2,h3⟩
  ·subst h2;subst h3
   rw [yi (by omega)]
   refine .inr ⟨by rw [o1,hl],fun i d' hi=>?_⟩
   have hil:i < ds.length:=by rw [hl];exact (List.getElem?_eq_some_iff.1 hi).1
   obtain ⟨⟨v,hv,hr⟩,hs⟩:=o2 i _ (List.getElem?_eq_getElem hil)
   refine ⟨⟨v,hv,?_⟩,hs⟩
   rcases h i _ d' (List.getElem?_eq_getElem hil) hi with he | ⟨he,rfl⟩
   ·rw [he];exact hr.keep (Ext.refl _ _) hff hc
   ·rw [he] at hr
    obtain ⟨a,rfl⟩:=hr.nilsl_inv
    refine .tok _ _ _ _ (by simp) zhN fun n hn=>?_
    rw [List.getElem?_append_right (by simp),hlen,Nat.sub_self] at hn
    simp at hn
    subst hn
    refine ⟨Nat.le_refl _,fun _=>?_⟩
    rw [zZ]
    cases a with
    | none=>exact ⟨rfl,rfl⟩
    | some x=>exact .inr ⟨rfl,rfl⟩
  ·exact .inl ⟨h4,h3,yi (by omega),fun _ _ _ h=>h⟩
  ·subst h2;subst h3
   rw [zZ]
   exact .inr fun q hq=>by simp at hq
 ·subst hd
  exact hr.keep (Ext.refl _ _) hff hc
theorem zfJ {n0 k:Nat} {L:List Ob} {ds ds':List D} (hk:L[k]?=some (.cells ds)) (h:LeL ds ds'):xJ n0 (fun d d'=>d'=d) L (L.set k (.cells ds')):=fun w ρ hf=>by
 have hkl:k < L.length:=(List.getElem?_eq_some_iff.1 hk).1
 obtain ⟨o1,o2⟩:=hf.obj k _ hk
 have hc:zX ρ L ρ (L.set k (.cells ds')):=by
  refine ⟨rfl,by simp,fun j d hj h=>?_,fun j d hj h=>?_,fun j n hj h=>?_,fun j e' d hj h=>?_⟩
  all_goals
   rcases zT h with ⟨h1,h2⟩ | ⟨_,h2⟩
   ·first
     | (cases h2;subst h1;exact ⟨_,hk,rfl⟩)
     | cases h2
   ·first
     | exact ⟨_,h2,rfl⟩
     | exact ⟨_,h2,Nat.le_refl _,fun _=>rfl⟩
 have hgo:∀ (j:Nat) x,(L.set k (.cells ds'))[j]?=some x→∀ b off,x.owns (ρ j) b off→∃ y,L[j]?=some y∧y.owns (ρ j) b off:=by
  intro j x h1 b off h2
  rcases zT h1 with ⟨h3,h4⟩ | ⟨h3,h4⟩
  ·subst h3;subst h4;exact ⟨_,hk,h2⟩
  ·exact ⟨_,h4,h2⟩
 have hown:∀ b off,own ρ (L.set k (.cells ds')) b off→own ρ L b off:=by
  rintro b off ⟨j,o,h1,h2⟩
  obtain ⟨y,h3,h4⟩:=hgo j o h1 b off h2
  exact ⟨j,y,h3,h4⟩
 have hfr:yU w (own ρ L) (own ρ (L.set k (.cells ds'))):=fun b off h=>.inl (hown b off h)
 have hff:=hfr.foot (ρ':=ρ) rfl
 refine ⟨_,hf.change F0 (fun _ _ h=>h.elim) (Ext.refl _ _) hc hfr (fun j j' x x' b off h1 h2 h3 h4=>?_) (fun j o hj=>?_),fun d d' v hd hr=>?_,hown,fun ρ0 L0 hl h0=>h0.trans hc⟩
 ·obtain ⟨y,g1,g2⟩:=hgo j x h1 b off h3
  obtain ⟨y',g3,g4⟩:=hgo j' x' h2 b off h4
  exact hf.disj _ _ _ _ _ _ g1 g3 g2 g4
 ·rcases zT hj with ⟨h2,h3⟩ | ⟨h2,h3⟩
  ·subst h2;subst h3
   refine .inr ⟨by rw [o1,h.1],fun i d' hi=>?_⟩
   have hil:i < ds.length:=by rw [h.1];exact (List.getElem?_eq_some_iff.1 hi).1
   obtain ⟨⟨v,hv,hr⟩,hs⟩:=o2 i _ (List.getElem?_eq_getElem hil)
   exact ⟨⟨v,hv,h.2 i _ d' (List.getElem?_eq_getElem hil) hi _ _ _ _ _ (hr.keep (Ext.refl _ _) hff hc)⟩,hs⟩
  ·exact .inl ⟨(List.getElem?_eq_some_iff.1 h3).1,h3,rfl,fun _ _ _ h=>h⟩
 ·subst hd
  exact hr.keep (Ext.refl _ _) hff hc
theorem zov {n0:Nat} {σ:List (Nat×D)} {L:List Ob} (k e:Nat) {ds:List D} (ds':List D) (hk:L[k]?=some (.cells ds)) (hl:ds.length=ds'.length)
  (h:∀ (i:Nat) d d',ds[i]?=some d→ds'[i]?=some d'→Nz e L.length d d'):wn n0 σ L σ (L.set k (.cells ds')++[.spare 0]):=zaH (zne hk hl h) fun _=>.inr rfl
theorem zg5 {n0:Nat} {σ:List (Nat×D)} {L:List Ob} (k:Nat) {ds:List D} (ds':List D) (hk:L[k]?=some (.cells ds)) (h:LeL ds ds'):wn n0 σ L σ (L.set k (.cells ds')):=zaH (zfJ hk h) fun _=>.inr rfl
theorem Nz.here {e tok:Nat}:Nz e tok .nilsl (.sl e [] (some tok)):=.inr ⟨rfl,rfl⟩
theorem Nz.same {e tok:Nat} {d:D}:Nz e tok d d:=.inl rfl
def NzL (e tok:Nat):List D→List D→Prop
 | [],[]=>True
 | d::ds,d'::ds'=>Nz e tok d d'∧NzL e tok ds ds'
 | _,_=>False
theorem zow {e tok:Nat}:∀ {ds ds':List D},NzL e tok ds ds'→ds.length=ds'.length∧∀ (i:Nat) d d',ds[i]?=some d→ds'[i]?=some d'→Nz e tok d d'
 | [],[],_=>⟨rfl,by simp⟩
 | d::ds,d'::ds',h=>by
  obtain ⟨h1,h2⟩:=zow h.2
  refine ⟨by simp [h1],fun i a b ha hb=>?_⟩
  cases i with
  | zero=>simp at ha hb;subst ha;subst hb;exact h.1
  | succ i=>exact h2 i a b (by simpa using ha) (by simpa using hb)
 | [],_::_,h=>h.elim
 | _::_,[],h=>h.elim
theorem wW {n0:Nat} {σ:List (Nat×D)} {L:List Ob} (k e:Nat) {ds:List D} (ds':List D) (hk:L[k]?=some (.cells ds)) (h:NzL e L.length ds ds') :
  wn n0 σ L σ (L.set k (.cells ds')++[.spare 0]):=zov k e ds' hk (zow h).1 (zow h).2
theorem zfK {n0:Nat} (k:Nat) {ds:List D} (ds':List D) {r d:D} {L L':List Ob} (hk:L[k]?=some (.cells ds)) (h:LeL ds ds') (he:zI n0 r d (L.set k (.cells ds')) L') (hlen:n0≤L'.length):zI n0 r d L L':=
 zcg (zfJ hk h) rfl he hlen
theorem zux {P:Program} {f:Nat} {as:List D} {L:List Ob} {KP:D→Prop} {KW:D→List Ob→Prop} (k:Nat) {ds:List D} (ds':List D) (hk:L[k]?=some (.cells ds)) (h:LeL ds ds')
  (hc:w4 k (.cells ds') L fun L=>VS (zn P f as L (fun _=>False) KW)):zn P f as L KP KW:=
 zfG (φ:=fun d d'=>d'=d) (zfJ hk h) ⟨rfl,fun i d d' h1 h2=>by rw [h1] at h2;cases h2;rfl⟩ (wF hc).out
def znL (P:Program) (n:Nat) (E:xp) (c:Code) (Q:Ex→List (Nat×D)→List Ob→Prop) (σ:List (Nat×D)) (L:List Ob):Prop:=
 ∀ a w,qS n E σ L a w→∀ (b:Frame) (kk:List Item) (cs:List Frame),∃ e a' w',AQ n E Q e a' w'∧Arrives P (lone (b.at a (.code c:: .inLoop c::kk)) cs w) b kk cs e a' w'
theorem zsZ {P:Program} {n:Nat} {E:xp} {c:Code} {Q:Ex→List (Nat×D)→List Ob→Prop} {σ:List (Nat×D)} {L:List Ob} (h:znL P n E c Q σ L):AWP P n E (.loop c) Q σ L:=by
 intro a w hr b kk cs
 obtain ⟨e,a',w',hq,harr⟩:=h a w hr b kk cs
 exact ⟨e,a',w',hq,.of_steps (.one step_loop) harr⟩
theorem zdB {P:Program} {n:Nat} {E:xp} {c:Code} {Q:Ex→List (Nat×D)→List Ob→Prop} {σ:List (Nat×D)} {L:List Ob}
  (h:AWP P n E c (fun e σ L=>match e with | .normal=>VS (znL P n E c Q σ L) | e=>Q e σ L) σ L):znL P n E c Q σ L:=by
 intro a w hrel b kk cs
 obtain ⟨e,a₁,w₁,hq,harr⟩:=h a w hrel b (.inLoop c::kk) cs
 cases e with
 | normal=>
  obtain ⟨σ₁,L₁,hend,hrel₁⟩:=hq
  obtain ⟨e₂,a₂,w₂,hq₂,harr₂⟩:=hend.out a₁ w₁ hrel₁ b kk cs
  exact ⟨e₂,a₂,w₂,hq₂,.of_steps (Steps.trans harr (.one step_inLoop)) harr₂⟩
 | exit id=>exact ⟨.exit id,a₁,w₁,hq,.pass (x:=.inLoop c) rfl (fun _ _=>.inl (by simp)) harr⟩
 | ret=>exact ⟨.ret,a₁,w₁,hq,.pass (x:=.inLoop c) rfl (fun _ _=>.inl (by simp)) harr⟩
 | goto l=>exact hq.elim
 | panic ch=>exact hq.elim
 | outgrown=>exact hq.elim
theorem zfL {P:Program} {n:Nat} {E:xp} {c:Code} {Q:Ex→List (Nat×D)→List Ob→Prop} {σ:List (Nat×D)} {L:List Ob}
  (h:AWP P n E c (fun e σ L=>match e with | .normal=>VS (znL P n E c Q σ L) | e=>Q e σ L) σ L):AWP P n E (.loop c) Q σ L:=zsZ (zdB h)
theorem xP {P : Program} {T : Tab} (hT : ye P T) {f : FuncId} {fn : Func} {c : Code} (hf : P.funcs[f]? = some fn) (hb : fn.body = some c) (hn : (fn.name == "runtime.NumGoroutine") = false)
  {as:List D} {L:List Ob} {KP:D→Prop} {KW:D→List Ob→Prop} (d:D) (L':List Ob) (hlen:L.length≤L'.length) (has:as.length≤fn.ntmps)
  (h:∀ E:xp,E.L=L→AWP P fn.ntmps E c (kg T fn.results.toList L.length d L') (zdy 0 as) L) (hK:KW d L'):zn P f as L KP KW:=by
 have hm:za P f (fun a M x M'=>a=as∧M=L∧x=d∧M'=L'):=ziy hT hf hb hn (by
  rintro a M x M' ⟨rfl,rfl,rfl,rfl⟩
  exact ⟨hlen,has,h⟩)
 exact .inr ⟨d,L',fun w ρ vs hfit hr=>hm.2 _ _ _ _ ⟨rfl,rfl,rfl,rfl⟩ w ρ vs hfit hr,hm.1,hK⟩
theorem zlw {n0:Nat} {r:D} {L:List Ob}:zI n0 r r L L:=
 .inr ⟨fun a b=>a=b,fun w ρ hf=>⟨ρ,hf,fun d d' v hd hr=>by subst hd;exact hr,fun _ _ h=>h,fun _ _ _ h=>h⟩,rfl⟩
theorem zox {n0:Nat} {b:Bool} {L L':List Ob} (h:b=false) (hL:L=L') (hn:n0≤L'.length):zI n0 .ff (.bool b) L L':=by subst hL;exact vH (LeD.ff h) zlw hn
theorem zzO {n0:Nat} {b:Bool} {L L':List Ob} (h:b=true) (hL:L=L') (hn:n0≤L'.length):zI n0 .tt (.bool b) L L':=by subst hL;exact vH (LeD.tt h) zlw hn
theorem yQ {n0:Nat} {r d:D} {L L':List Ob} (hr:r=d) (hL:L=L'):zI n0 r d L L':=by subst hr;subst hL;exact zlw
def ClD (n:Nat) (d:D):Prop:=∀ m:Nat→Option Nat,(∀ k,k < n→m k=some k)→xI m d d
def ClL (n:Nat) (ds:List D):Prop:=∀ d∈ds,ClD n d
def ClO (n:Nat) (o:Ob):Prop:=∀ m:Nat→Option Nat,(∀ k,k < n→m k=some k)→yu m o o
theorem ClL.ren {n:Nat} {ds:List D} (h:ClL n ds) {m:Nat→Option Nat} (hm:∀ k,k < n→m k=some k):qC m ds ds:=
 ⟨rfl,fun i d d' h1 h2=>by rw [h1] at h2;cases h2;exact h d (List.mem_of_getElem? h1) m hm⟩
theorem ClL.nil {n:Nat}:ClL n []:=by intro d hd;cases hd
theorem ClL.cons {n:Nat} {d:D} {ds:List D} (h:ClD n d) (k:ClL n ds):ClL n (d::ds):=by
 intro x hx
 rcases List.mem_cons.1 hx with rfl | hx
 ·exact h
 ·exact k x hx
theorem ClD.of {n:Nat} {d:D} (h:∀ m:Nat→Option Nat,(∀ k,k < n→m k=some k)→zbv m d (fun d'=>d'=d)):ClD n d:=fun m hm=>by
 obtain ⟨d',h1,rfl⟩:=w8 (h m hm)
 exact h1
theorem ClD.int {n:Nat} {k:IntKind} {x:Int}:ClD n (.int k x):=ClD.of fun m hm=>rfl
theorem ClD.str {n:Nat} {s:List UInt8}:ClD n (.str s):=ClD.of fun m hm=>rfl
theorem ClD.bool {n:Nat} {b:Bool}:ClD n (.bool b):=ClD.of fun m hm=>rfl
theorem ClD.nilsl {n:Nat}:ClD n .nilsl:=ClD.of fun m hm=>rfl
theorem ClD.ff {n:Nat}:ClD n .ff:=ClD.of fun m hm=>rfl
theorem ClD.tup0 {n:Nat}:ClD n (.tup []):=ClD.of fun m hm=>rfl
theorem ClD.sl {n e:Nat} {ds:List D}:ClD n (.sl e ds none):=ClD.of fun m hm=>rfl
theorem ClD.tok {n e k:Nat} {ds:List D} (h:k < n):ClD n (.sl e ds (some k)):=ClD.of fun m hm=>by
 show zd5 m e ds (some k) (zbQ m ds) (fun d'=>d'= .sl e ds (some k))
 unfold zd5
 simp [hm k h]
theorem ClD.osl {n e k v off len:Nat} (h:k < n):ClD n (.osl e k v off len):=ClD.of fun m hm=>by
 show zb8 m e k v off len (fun d'=>d'= .osl e k v off len)
 unfold zb8
 simp [hm k h]
theorem ClD.loc {n k off:Nat} (h:k < n):ClD n (.loc k off):=ClD.of fun m hm=>by
 show zb9 m k off (fun d'=>d'= .loc k off)
 unfold zb9
 simp [hm k h]
theorem ClD.aloc {n k v i off:Nat} (h:k < n):ClD n (.aloc k v i off):=ClD.of fun m hm=>by
 show zdj m k v i off (fun d'=>d'= .aloc k v i off)
 unfold zdj
 simp [hm k h]
theorem ClD.agg {n:Nat} {ds:List D} (h:ClL n ds):ClD n (.agg ds):=fun m hm w F F1 ρ L ρ1 L1 v hr hF hv=>by
 obtain ⟨vs,rfl,h1,h2⟩:=hv.agg_inv
 exact .agg _ _ h1 fun i d u hd hu=>h d (List.mem_of_getElem? hd) m hm _ _ _ _ _ _ _ _ hr hF (h2 i d u hd hu)
theorem ClD.tup {n:Nat} {ds:List D} (h:ClL n ds):ClD n (.tup ds):=fun m hm w F F1 ρ L ρ1 L1 v hr hF hv=>by
 obtain ⟨vs,rfl,h1,h2⟩:=hv.tup_inv
 exact .tup _ _ h1 fun i d u hd hu=>h d (List.mem_of_getElem? hd) m hm _ _ _ _ _ _ _ _ hr hF (h2 i d u hd hu)
theorem ClO.cells {n:Nat} {ds:List D} (h:ClL n ds):ClO n (.cells ds):=fun m hm=>⟨ds,rfl,h.ren hm⟩
theorem ClO.spare {n k:Nat}:ClO n (.spare k):=fun m hm=>rfl
theorem ClO.dead {n:Nat}:ClO n .dead:=fun m hm=>rfl
theorem ClO.arr {n e:Nat} {ds:List D} (h:∀ d∈ds,ClL n d.cells):ClO n (.arr e ds):=fun m hm=>⟨ds,rfl,rfl,fun i d d' h1 h2=>by
 rw [h1] at h2;cases h2;exact ⟨rfl,(h d (List.mem_of_getElem? h1)).ren hm⟩⟩
theorem zg6 (n:Nat):∀ (i k:Nat),i≤k→k < n→zM (List.range' i (n - i)) i k=some k:=by
 intro i k hi hk
 generalize hq:n - i=q
 induction q generalizing i with
 | zero=>omega
 | succ q ih=>
  rw [List.range'_succ,zM]
  rcases Nat.eq_or_lt_of_le hi with rfl | hlt
  ·simp
  ·have:Nat.beq i k=false:=by
    cases h:Nat.beq i k with
    | false=>rfl
    | true=>have:=Nat.eq_of_beq_eq_true h;omega
   rw [this]
   exact ih (i+1) (by omega) (by omega)
theorem zjc {n k:Nat} (h:k < n):below n k=some k:=by
 unfold below
 have:Nat.blt k n=true:=by simpa [Nat.blt_eq] using h
 rw [this]
theorem zmq {n0:Nat} (M X:List Ob) (hn:n0≤M.length) (hc:∀ o∈M,ClO M.length o):xJ n0 (xI (below M.length)) (M++X) M:=by
 have h3:M.length≤(M++X).length:=by simp
 have hm:∀ k,k < M.length→below M.length k=some k:=fun k hk=>zjc hk
 have h4:∀ (k:Nat) o o',(M++X)[k]?=some o→M[k]?=some o'→yu (below M.length) o o':=fun k o o' h1 h2=>by
  have hk:k < M.length:=(List.getElem?_eq_some_iff.1 h2).1
  rw [List.getElem?_append_left hk,h2] at h1
  cases h1
  exact hc _ (List.mem_of_getElem? h2) _ hm
 exact fun w ρ hf=>⟨ρ,hf.first h3 h4,fun d d' v hd hr=>hd _ _ _ _ _ _ _ _ (zi5 h3 h4) (fun b off=>zbT h3 h4) hr,fun b off ho=>zcY h3 h4 ho,
  fun ρ0 L0 e hc=>hc.first (by omega) h3 h4⟩
theorem xq {n0:Nat} {d:D} {L:List Ob} (M X:List Ob) (hL:L=M++X) (hn:n0≤M.length) (hd:ClD M.length d) (hc:∀ o∈M,ClO M.length o):zI n0 d d L M:=by
 subst hL
 exact .inr ⟨xI (below M.length),zmq M X hn hc,hd _ fun k hk=>zjc hk⟩
theorem zjd {P:Program} {f:Nat} {spec:j0} (hm:za P f spec) (M X M':List Ob) {as:List D} {L:List Ob} {d:D} {KP:D→Prop} {KW:D→List Ob→Prop} (hL:L=M++X) (hs:spec as M d M')
  (hlen:M'.length=M.length) (has:ClL M.length as) (hd:ClD M.length d) (hc:∀ o∈M,ClO M.length o) (hc':∀ o∈M',ClO M.length o) (hK:KW d (M'++X)):zn P f as L KP KW:=by
 subst hL
 refine .inr ⟨d,M'++X,fun w ρ vs hf hr=>?_,hm.1,hK⟩
 have hkeep:∀ k,k < M.length→zM (List.range M.length) 0 k=some k:=fun k hk=>by
  have:=zg6 M.length 0 k (Nat.zero_le _) hk
  rwa [Nat.sub_zero,← List.range_eq_range'] at this
 have hnth:∀ k,k < M.length→qd (List.range M.length) k=some k:=fun k hk=>by rw [ze1,List.getElem?_range hk]
 have hget:∀ k,k < M.length→(M++X)[k]?=M[k]?:=fun k hk=>List.getElem?_append_left hk
 refine za7 hm (ks:=List.range M.length) (js:=List.range M.length) (as1:=as) (L1:=M) (d1:=d) (L1':=M') ?_ ?_ (fun _ _=>rfl) (fun i j hj=>?_) (has.ren hkeep) (by simp) (fun i o' ho=>?_) hs (hd _ hnth) (by simp [hlen]) (by simp [hlen]) (fun k hk hn=>?_) (fun i k hk=>?_) (fun i o ho=>?_) hf hr
 ·suffices h:∀ (n i:Nat),wI (List.range' i n)=true by rw [List.range_eq_range'];exact h _ _
  intro n
  induction n with
  | zero=>intro i;rfl
  | succ n ih=>
   intro i
   rw [List.range'_succ,wI]
   have:zdw i (List.range' (i+1) n)=false:=by
    suffices h:∀ (n j:Nat),i < j→zdw i (List.range' j n)=false from h _ _ (Nat.lt_succ_self i)
    intro n
    induction n with
    | zero=>intro j _;rfl
    | succ n ih2=>
     intro j hj
     rw [List.range'_succ,zdw]
     have hb:Nat.beq j i=false:=by
      cases h:Nat.beq j i with
      | false=>rfl
      | true=>have:=Nat.eq_of_beq_eq_true h;omega
     have hb2:Nat.beq i j=false:=by
      cases h:Nat.beq i j with
      | false=>rfl
      | true=>have:=Nat.eq_of_beq_eq_true h;omega
     simp only [hb,hb2]
     exact ih2 _ (by omega)
   rw [this]
   exact ih _
 ·intro k hk;simp at hk ⊢;omega
 ·simp at hj
 ·have hi:i < M.length:=(List.getElem?_eq_some_iff.1 ho).1
  exact ⟨i,o',by rw [List.getElem?_range hi],by rw [hget i hi];exact ho,hc o' (List.mem_of_getElem? ho) _ hkeep⟩
 ·have:M.length≤k:=by simpa using hn
  rw [List.getElem?_append_right (by omega),List.getElem?_append_right this,hlen]
 ·have hi:i < M.length:=by have:=(List.getElem?_eq_some_iff.1 hk).1;simpa using this
  rw [List.getElem?_range hi] at hk
  cases hk
  have hi':i < M'.length:=by omega
  exact ⟨M'[i],M'[i],List.getElem?_eq_getElem hi',by rw [List.getElem?_append_left hi',List.getElem?_eq_getElem hi'],hc' _ (List.getElem_mem hi') _ hnth⟩
 ·have:=(List.getElem?_eq_some_iff.1 ho).1
  simp [hlen] at this
  omega
theorem xF {P:Program} {f:Nat} {as:List D} {L:List Ob} {KP:D→Prop} {KW:D→List Ob→Prop} {α:Type} {I:α→Prop} {A:α→List D} {O:α→List Ob} {R:α→D} {O':α→List Ob}
  (h:za P f (zQ I A O R O')) (X:List Ob) (p:α) (hI:I p) (hL:L=O p++X) (has:LeL as (A p)) (hlen:(O' p).length=(O p).length) (hcl:ClL (O p).length as) (hR:ClD (O p).length (R p))
  (hc:∀ o∈O p,ClO (O p).length o) (hc':∀ o∈O' p,ClO (O p).length o) (hK:KW (R p) (O' p++X)):zn P f as L KP KW:=
 zjd h (O p) X (O' p) hL ⟨p,hI,has,rfl,rfl,rfl⟩ hlen hcl hR hc hc' hK
def zfM (σ:List (Nat×D)):List (Nat×D)→Prop
 | []=>True
 | (t,d)::r=>yr σ t=d∧zfM σ r
theorem zfN {σ:List (Nat×D)}:∀ {σ':List (Nat×D)},zfM σ σ'→∀ t,yr σ' t= .any∨yr σ t=yr σ' t
 | [],_,t=>.inl rfl
 | (s,d)::r,h,t=>by
  simp only [yr]
  split
  ·rename_i hb
   have:=Nat.eq_of_beq_eq_true hb
   subst this
   exact .inr h.1
  ·exact zfN h.2 t
theorem yf {n0:Nat} {σ σ':List (Nat×D)} {L L':List Ob} (hL:L=L') (h:zfM σ σ'):wn n0 σ L σ' L':=by
 subst hL
 exact ⟨fun d d'=>d=d',.refl _ _,fun t=>zfN h t⟩
theorem yj {α:Type} {n0:Nat} {I:α→Prop} {S:α→List (Nat×D)} {O:α→List Ob} {μ:α→Nat} {p:α} {σ:List (Nat×D)} {L:List Ob} (p':α) (h1:I p') (h2:μ p' < μ p) (hL:L=O p') (h:zfM σ (S p')) :
  zw n0 I S O μ p σ L:=⟨p',h1,h2,.inr (yf hL h)⟩
theorem ze2 {P:Program} {f:Nat} {as as1:List D} {L:List Ob} {KP:D→Prop} {KW:D→List Ob→Prop} (has:LeL as as1) (h:zn P f as1 L (fun _=>False) KW):zn P f as L KP KW:=
 zfG (φ:=LeD) (fun w ρ hf=>⟨ρ,hf,fun d d' v hd hr=>hd _ _ _ _ _ hr,fun _ _ h=>h,fun _ _ _ h=>h⟩) has h
theorem zoy:∀ (σ:List (Nat×D)) (t:Nat),yr σ t= .any∨∃ p∈σ,p.2=yr σ t
 | [],t=>.inl rfl
 | (s,d)::r,t=>by
  simp only [yr]
  split
  ·exact .inr ⟨_,List.mem_cons_self,rfl⟩
  ·exact (zoy r t).imp id fun ⟨p,h1,h2⟩=>⟨p,List.mem_cons_of_mem _ h1,h2⟩
theorem zje {n0:Nat} {σ σ':List (Nat×D)} {L:List Ob} (M X:List Ob) (hL:L=M++X) (hn:n0≤M.length) (hc:∀ o∈M,ClO M.length o) (h:zfM σ σ') (hσ:ClL M.length (σ'.map (·.2))):wn n0 σ L σ' M:=by
 subst hL
 refine ⟨_,zmq M X hn hc,fun t=>?_⟩
 rcases zfN h t with h1 | h1
 ·exact .inl h1
 rcases zoy σ' t with h2 | ⟨p,h2,h3⟩
 ·exact .inl h2
 ·rw [h1,← h3]
  exact .inr (hσ p.2 (List.mem_map.2 ⟨p,h2,rfl⟩) _ fun k hk=>zjc hk)
theorem w9 {α:Type} {n0:Nat} {I:α→Prop} {S:α→List (Nat×D)} {O:α→List Ob} {μ:α→Nat} {p:α} {σ:List (Nat×D)} {L:List Ob} (p':α) (X:List Ob) (h1:I p') (h2:μ p' < μ p) (hL:L=O p'++X)
  (hn:n0≤(O p').length) (hc:∀ o∈O p',ClO (O p').length o) (h:zfM σ (S p')) (hσ:ClL (O p').length ((S p').map (·.2))):zw n0 I S O μ p σ L:=⟨p',h1,h2,.inr (zje (O p') X hL hn hc h hσ)⟩
theorem zs0 {n0 k:Nat} {L:List Ob} (hkl:k < L.length):xJ n0 (fun d d'=>d'=d) L (L.set k .dead):=fun w ρ hf=>by
 have hc:zX ρ L ρ (L.set k .dead):=by
  refine ⟨rfl,by simp,fun j d hj h=>?_,fun j d hj h=>?_,fun j n hj h=>?_,fun j e' d hj h=>?_⟩
  all_goals
   rcases zT h with ⟨h1,h2⟩ | ⟨_,h2⟩
   ·cases h2
   ·first
     | exact ⟨_,h2,rfl⟩
     | exact ⟨_,h2,Nat.le_refl _,fun _=>rfl⟩
 have hgo:∀ (j:Nat) x,(L.set k .dead)[j]?=some x→∀ b off,x.owns (ρ j) b off→∃ y,L[j]?=some y∧y.owns (ρ j) b off:=by
  intro j x h1 b off h2
  rcases zT h1 with ⟨h3,h4⟩ | ⟨h3,h4⟩
  ·subst h3;subst h4;exact h2.elim
  ·exact ⟨_,h4,h2⟩
 have hown:∀ b off,own ρ (L.set k .dead) b off→own ρ L b off:=by
  rintro b off ⟨j,o,h1,h2⟩
  obtain ⟨y,h3,h4⟩:=hgo j o h1 b off h2
  exact ⟨j,y,h3,h4⟩
 have hfr:yU w (own ρ L) (own ρ (L.set k .dead)):=fun b off h=>.inl (hown b off h)
 have hff:=hfr.foot (ρ':=ρ) rfl
 refine ⟨_,hf.change F0 (fun _ _ h=>h.elim) (Ext.refl _ _) hc hfr (fun j j' x x' b off h1 h2 h3 h4=>?_) (fun j o hj=>?_),fun d d' v hd hr=>?_,hown,fun ρ0 L0 hl h0=>h0.trans hc⟩
 ·obtain ⟨y,g1,g2⟩:=hgo j x h1 b off h3
  obtain ⟨y',g3,g4⟩:=hgo j' x' h2 b off h4
  exact hf.disj _ _ _ _ _ _ g1 g3 g2 g4
 ·rcases zT hj with ⟨h2,h3⟩ | ⟨h2,h3⟩
  ·subst h2;subst h3;exact .inr trivial
  ·exact .inl ⟨(List.getElem?_eq_some_iff.1 h3).1,h3,rfl,fun _ _ _ h=>h⟩
 ·subst hd
  exact hr.keep (Ext.refl _ _) hff hc
theorem zmr {n0 k e:Nat} {L:List Ob} {ds ds':List D} (hk:L[k]?=some (.arr e ds)) (hl:ds.length=ds'.length) (h:∀ (i:Nat) d d',ds[i]?=some d→ds'[i]?=some d'→LeL d.cells d'.cells):xJ n0 (fun d d'=>d'=d) L (L.set k (.arr e ds')):=fun w ρ hf=>by
 have hkl:k < L.length:=(List.getElem?_eq_some_iff.1 hk).1
 obtain ⟨o1,o2,o3,o4⟩:=hf.obj k _ hk
 have hc:zX ρ L ρ (L.set k (.arr e ds')):=by
  refine ⟨rfl,by simp,fun j d hj h=>?_,fun j d hj h=>?_,fun j n hj h=>?_,fun j e' d hj h=>?_⟩
  all_goals
   rcases zT h with ⟨h1,h2⟩ | ⟨_,h2⟩
   ·first
     | (cases h2;subst h1;exact ⟨_,hk,Nat.le_of_eq hl,fun _=>rfl⟩)
     | cases h2
   ·first
     | exact ⟨_,h2,rfl⟩
     | exact ⟨_,h2,Nat.le_refl _,fun _=>rfl⟩
 have hgo:∀ (j:Nat) x,(L.set k (.arr e ds'))[j]?=some x→∀ b off,x.owns (ρ j) b off→∃ y,L[j]?=some y∧y.owns (ρ j) b off:=by
  intro j x h1 b off h2
  rcases zT h1 with ⟨h3,h4⟩ | ⟨h3,h4⟩
  ·subst h3;subst h4;exact ⟨_,hk,h2⟩
  ·exact ⟨_,h4,h2⟩
 have hown:∀ b off,own ρ (L.set k (.arr e ds')) b off→own ρ L b off:=by
  rintro b off ⟨j,o,h1,h2⟩
  obtain ⟨y,h3,h4⟩:=hgo j o h1 b off h2
  exact ⟨j,y,h3,h4⟩
 have hfr:yU w (own ρ L) (own ρ (L.set k (.arr e ds'))):=fun b off h=>.inl (hown b off h)
 have hff:=hfr.foot (ρ':=ρ) rfl
 refine ⟨_,hf.change F0 (fun _ _ h=>h.elim) (Ext.refl _ _) hc hfr (fun j j' x x' b off h1 h2 h3 h4=>?_) (fun j o hj=>?_),fun d d' v hd hr=>?_,hown,fun ρ0 L0 hl h0=>h0.trans hc⟩
 ·obtain ⟨y,g1,g2⟩:=hgo j x h1 b off h3
  obtain ⟨y',g3,g4⟩:=hgo j' x' h2 b off h4
  exact hf.disj _ _ _ _ _ _ g1 g3 g2 g4
 ·rcases zT hj with ⟨h2,h3⟩ | ⟨h2,h3⟩
  ·subst h2;subst h3
   have hg:∀ (i:Nat) d',ds'[i]?=some d'→∃ d,ds[i]?=some d:=fun i d' hi=>⟨_,List.getElem?_eq_getElem (by rw [hl];exact (List.getElem?_eq_some_iff.1 hi).1)⟩
   refine .inr ⟨by rw [← hl];exact o1,fun i d' hi=>?_,fun i d' q c hi hq=>?_,o4⟩
   ·obtain ⟨d,hd⟩:=hg i d' hi
    rw [← (h i d d' hd hi).1]
    exact o2 i d hd
   ·obtain ⟨d,hd⟩:=hg i d' hi
    have hle:=h i d d' hd hi
    have hql:q < d.cells.length:=by rw [hle.1];exact (List.getElem?_eq_some_iff.1 hq).1
    obtain ⟨v,hv,hr⟩:=o3 i d q _ hd (List.getElem?_eq_getElem hql)
    exact ⟨v,hv,hle.2 q _ c (List.getElem?_eq_getElem hql) hq _ _ _ _ _ (hr.keep (Ext.refl _ _) hff hc)⟩
  ·exact .inl ⟨(List.getElem?_eq_some_iff.1 h3).1,h3,rfl,fun _ _ _ h=>h⟩
 ·subst hd
  exact hr.keep (Ext.refl _ _) hff hc
theorem zwy {n0 k:Nat} {r d:D} {L L':List Ob} (hk:k < L.length) (he:zI n0 r d (L.set k .dead) L') (hlen:n0≤L'.length):zI n0 r d L L':=zcg (zs0 hk) rfl he hlen
theorem zrM {n0 k e:Nat} {r d:D} {L L':List Ob} {ds:List D} (ds':List D) (hk:L[k]?=some (.arr e ds)) (hl:ds.length=ds'.length) (h:∀ (i:Nat) d d',ds[i]?=some d→ds'[i]?=some d'→LeL d.cells d'.cells)
  (he:zI n0 r d (L.set k (.arr e ds')) L') (hlen:n0≤L'.length):zI n0 r d L L':=zcg (zmr hk hl h) rfl he hlen
theorem zyv {P:Program} {f:Nat} {as:List D} {L:List Ob} {KP:D→Prop} {KW:D→List Ob→Prop} (d:D) (L':List Ob) (h:∀ (w:World) (ρ:Pl) (vs:List Value),yE w ρ L→zcM w (foot ρ L) ρ L as vs →
  Calls P f vs.toArray w fun e w'=>∃ v ρ',e= .returned v∧wc w ρ L d L' v w' ρ') (hc:zbx P f) (hK:KW d L'):zn P f as L KP KW:=.inr ⟨d,L',h,hc,hK⟩
def Gap (m:Nat) (L L':List Ob):Prop:=∀ k,m≤k→k < L.length→∃ n n',L[k]?=some (.spare n)∧L'[k]?=some (.spare n')∧n < n'
theorem zX.take {ρ ρ':Pl} {L L':List Ob} (h:zX ρ L ρ' L') (m:Nat):zX ρ (L.take m) ρ' L':=by
 have hl:(L.take m).length≤L.length:=by simp;omega
 have get:∀ {k:Nat} {o:Ob},k < (L.take m).length→L[k]?=some o→(L.take m)[k]?=some o:=fun {k o} hk h=>by
  rw [List.getElem?_take,if_pos (by simp at hk;omega)];exact h
 refine ⟨h.hid,Nat.le_trans hl h.len,fun k ds' hk h1=>?_,fun k ds' hk h1=>?_,fun k ds' hk h1=>?_,fun k e ds' hk h1=>?_⟩
 ·obtain ⟨ds,h2,h3⟩:=h.cells k ds' (by omega) h1;exact ⟨ds,get hk h2,h3⟩
 ·obtain ⟨ds,h2,h3⟩:=h.map k ds' (by omega) h1;exact ⟨ds,get hk h2,h3⟩
 ·obtain ⟨ds,h2,h3⟩:=h.spare k ds' (by omega) h1;exact ⟨ds,get hk h2,h3⟩
 ·obtain ⟨ds,h2,h3⟩:=h.arr k e ds' (by omega) h1;exact ⟨ds,get hk h2,h3⟩
theorem zX.untake {ρ ρ':Pl} {L L':List Ob} {m:Nat} (h:zX ρ (L.take m) ρ' L') (hl:L.length≤L'.length) (hg:Gap m L L'):zX ρ L ρ' L':=by
 have get:∀ {k:Nat} {o:Ob},(L.take m)[k]?=some o→L[k]?=some o:=fun {k o} h=>by
  rw [List.getElem?_take] at h
  split at h
  ·exact h
  ·cases h
 have gap:∀ {k:Nat} {o:Ob},¬ k < (L.take m).length→k < L.length→L'[k]?=some o→∃ n n',L[k]?=some (.spare n)∧o= .spare n'∧n < n':=fun {k o} h1 h2 h3=>by
  obtain ⟨n,n',h4,h5,h6⟩:=hg k (by simp at h1;omega) h2
  rw [h3] at h5
  cases h5
  exact ⟨n,n',h4,rfl,h6⟩
 refine ⟨h.hid,hl,fun k ds' hk h1=>?_,fun k ds' hk h1=>?_,fun k n' hk h1=>?_,fun k e ds' hk h1=>?_⟩
 all_goals by_cases hm:k < (L.take m).length
 ·obtain ⟨ds,h2,h3⟩:=h.cells k ds' hm h1;exact ⟨ds,get h2,h3⟩
 ·obtain ⟨n,n',_,h5,_⟩:=gap hm hk h1;cases h5
 ·obtain ⟨ds,h2,h3⟩:=h.map k ds' hm h1;exact ⟨ds,get h2,h3⟩
 ·obtain ⟨n,n',_,h5,_⟩:=gap hm hk h1;cases h5
 ·obtain ⟨ds,h2,h3⟩:=h.spare k n' hm h1;exact ⟨ds,get h2,h3⟩
 ·obtain ⟨n,n',h4,h5,h6⟩:=gap hm hk h1
  cases h5
  exact ⟨n,h4,by omega,fun e=>by omega⟩
 ·obtain ⟨ds,h2,h3⟩:=h.arr k e ds' hm h1;exact ⟨ds,get h2,h3⟩
 ·obtain ⟨n,n',_,h5,_⟩:=gap hm hk h1;cases h5
theorem zoz {P : Program} {T : Tab} (hT : ye P T) {f : FuncId} {fn : Func} {c : Code} {spec : j0} (m : Nat) (hf : P.funcs[f]? = some fn) (hb : fn.body = some c) (hn : (fn.name == "runtime.NumGoroutine") = false)
  (h:∀ as L d L',spec as L d L'→m≤L.length∧Gap m L L'∧L.length≤L'.length∧as.length≤fn.ntmps∧∀ E:xp,E.L=L→AWP P fn.ntmps E c (kg T fn.results.toList m d L') (zdy 0 as) L):za P f spec:=by
 refine ⟨⟨fn,hf,hn,by rw [hb];rfl⟩,fun as L d L' hs w ρ vs hfit hrep=>?_⟩
 obtain ⟨hm,hgap,hlen,has,hc⟩:=h as L d L' hs
 refine calls_of_wp hf hb ?_
 have hrel:qS fn.ntmps ⟨w,ρ,L⟩ (zdy 0 as) L { tmps:=vs.toArray++Array.replicate (fn.ntmps - vs.toArray.size) undef,defers:=[] } w:=by
  refine ⟨ρ,by simp [hrep.1];omega,rfl,hfit,fun t=>?_,.refl _ _,.refl _ _,.refl _ _⟩
  rw [zgZ]
  simp only [Nat.zero_le,if_true,Nat.sub_zero]
  rcases Nat.lt_or_ge t as.length with hlt | hge
  ·have hlt':t < vs.length:=by rw [hrep.1];exact hlt
   rw [List.getElem?_eq_getElem hlt,Option.getD_some,Array.getD_eq_getD_getElem?,Array.getElem?_append_left (by simpa using hlt')]
   simp only [List.getElem?_toArray,List.getElem?_eq_getElem hlt',Option.getD_some]
   exact hrep.2 t _ _ (List.getElem?_eq_getElem hlt) (List.getElem?_eq_getElem hlt')
  ·rw [List.getElem?_eq_none hge]
   exact .pure _ _ (.any _)
 refine wp_mono (hc ⟨w,ρ,L⟩ rfl _ _ hrel) fun e a w' hq=>?_
 have fin:∀ σ' L'',(zfz T σ' L'' fn.results.toList fun ds=>VS (zI m (zaX ds) d L'' L'))→qS fn.ntmps ⟨w,ρ,L⟩ σ' L'' a w' →
   a.defers=[]∧∃ v,(results fn a.tmps).run P w'= .ok v w'∧(∃ u ρ',Ending.returned v= .returned u∧wc w ρ L d L' u w' ρ'):=by
  rintro σ' L'' hret ⟨ρ',h1,h2,h3,h4,h5,h6,h7⟩
  obtain ⟨ds,hend,hds⟩:=zcZ hT hret
  obtain ⟨vs',h8,h9,h10⟩:=hds w' ρ' a h3 h4
  have hend:∃ φ,xJ m φ L'' L'∧φ (zaX ds) d:=by
   rcases hend.out with h | h
   ·obtain ⟨r',hr1,hr2⟩:=w8 h
    obtain ⟨L3,⟨hr3,hr4⟩,_,hS⟩:=kY hr2 (Nat.le_trans hm hlen)
    have hr3:=hr3.out
    have hr4:=hr4.out
    subst hr3
    subst hr4
    exact ⟨_,hS,hr1⟩
   ·exact h
  obtain ⟨φ,hS,hφ⟩:=hend
  obtain ⟨ρ2,g1,g2,g3,g4⟩:=hS w' ρ' h3
  let v:Value:=if h:vs'.toArray.size=1 then vs'.toArray[0] else .tuple vs'.toArray
  have hrun:(results fn a.tmps).run P w'= .ok v w':=by
   rw [zkb,Sem.run_bind,Array.mapM_eq_mapM_toList]
   simp only [Sem.run_map,h8,Result.andThen,Sem.run_pure]
   rfl
  have hrv:Rep w' (foot ρ' L'') ρ' L'' (zaX ds) v:=zrJ ⟨h9,h10⟩
  have hcomp:zX ρ L ρ2 L':=(g4 ρ (L.take m) (by simp;omega) (h7.take m)).untake hlen hgap
  exact ⟨h2,v,hrun,v,ρ2,rfl,g1,g2 _ _ _ hφ hrv,h5,fun b off ho=>h6 b off (g3 b off ho),hcomp⟩
 cases e with
 | normal=>obtain ⟨σ',L'',hq,hr⟩:=hq;exact fin σ' L'' hq hr
 | ret=>obtain ⟨σ',L'',hq,hr⟩:=hq;exact fin σ' L'' hq hr
 | exit id=>obtain ⟨σ',L'',hq,hr⟩:=hq;exact hq.elim
 | goto l=>exact hq.elim
 | panic ch=>exact hq.elim
 | outgrown=>exact hq.elim
theorem zyw {P : Program} {f : Nat} {α : Type} {I : α → Prop} {A : α → List D} {O : α → List Ob} {R : α → D} {O' : α → List Ob} {T : Tab} (m : Nat) (hT : ye P T) {fn : Func} {c : Code} (hf : P.funcs[f]? = some fn) (hb : fn.body = some c) (hn : (fn.name == "runtime.NumGoroutine") = false)
  (h:∀ p,I p→m≤(O p).length∧Gap m (O p) (O' p)∧(O p).length≤(O' p).length∧(A p).length≤fn.ntmps∧∀ E:xp,E.L=O p→AWP P fn.ntmps E c (kg T fn.results.toList m (R p) (O' p)) (zdy 0 (A p)) (O p)) :
  za P f (zQ I A O R O'):=by
 have base:za P f (fun as L d L'=>∃ p,I p∧as=A p∧L=O p∧d=R p∧L'=O' p):=by
  refine zoz hT m hf hb hn ?_
  rintro as L d L' ⟨p,hI,rfl,rfl,rfl,rfl⟩
  exact h p hI
 refine ⟨base.1,?_⟩
 rintro as L d L' ⟨p,hI,has,rfl,rfl,rfl⟩ w ρ vs hf hr
 refine base.2 (A p) _ _ _ ⟨p,hI,rfl,rfl,rfl,rfl⟩ w ρ vs hf ⟨hr.1.trans has.1,fun i d v h1 h2=>?_⟩
 have hlt:i < as.length:=by rw [has.1];exact (List.getElem?_eq_some_iff.1 h1).1
 exact has.2 i _ d (List.getElem?_eq_getElem hlt) h1 _ _ _ _ _ (hr.2 i _ v (List.getElem?_eq_getElem hlt) h2)
theorem zms {P:Program} {f:Nat} {spec:j0} (hm:za P f spec) (M X N N':List Ob) (o:Ob) {as:List D} {L:List Ob} {d:D} {KP:D→Prop} {KW:D→List Ob→Prop} (hL:L=M++X) (hs:spec as M d (N++[o]))
  (hlen:N.length=M.length) (hlen':N'.length=M.length) (has:ClL M.length as) (hd:ClD M.length d) (hc:∀ o∈M,ClO M.length o)
  (hc':∀ m:Nat→Option Nat,(∀ k,k < M.length→m k=some k)→m M.length=some L.length→∀ (i:Nat) x y,N[i]?=some x→N'[i]?=some y→yu m x y) (ho:ClO M.length o)
  (hK:KW d (N'++X++[o])):zn P f as L KP KW:=by
 subst hL
 refine .inr ⟨d,N'++X++[o],fun w ρ vs hf hr=>?_,hm.1,hK⟩
 have hkeep:∀ k,k < M.length→zM (List.range M.length) 0 k=some k:=fun k hk=>by
  have:=zg6 M.length 0 k (Nat.zero_le _) hk
  rwa [Nat.sub_zero,← List.range_eq_range'] at this
 have hnth:∀ k,k < M.length→qd (List.range M.length++[(M++X).length]) k=some k:=fun k hk=>by
  rw [ze1,List.getElem?_append_left (by simpa using hk),List.getElem?_range hk]
 have hnthN:qd (List.range M.length++[(M++X).length]) M.length=some (M++X).length:=by rw [ze1,List.getElem?_append_right (by simp)];simp
 have hget:∀ k,k < M.length→(M++X)[k]?=M[k]?:=fun k hk=>List.getElem?_append_left hk
 refine za7 hm (ks:=List.range M.length) (js:=List.range M.length++[(M++X).length]) (as1:=as) (L1:=M) (d1:=d) (L1':=N++[o]) ?_ ?_ (fun i hi=>List.getElem?_append_left hi) (fun i j hj=>?_) (has.ren hkeep) (by simp) (fun i o' ho=>?_) hs (hd _ hnth) (by simp [hlen]) (by simp [hlen,hlen'];omega)
  (fun k hk hn=>?_) (fun i k hk=>?_) (fun i x hx=>?_) hf hr
 ·suffices h:∀ (n i:Nat),wI (List.range' i n)=true by rw [List.range_eq_range'];exact h _ _
  intro n
  induction n with
  | zero=>intro i;rfl
  | succ n ih=>
   intro i
   rw [List.range'_succ,wI]
   have:zdw i (List.range' (i+1) n)=false:=by
    suffices h:∀ (n j:Nat),i < j→zdw i (List.range' j n)=false from h _ _ (Nat.lt_succ_self i)
    intro n
    induction n with
    | zero=>intro j _;rfl
    | succ n ih2=>
     intro j hj
     rw [List.range'_succ,zdw]
     have hb:Nat.beq j i=false:=by
      cases h:Nat.beq j i with
      | false=>rfl
      | true=>have:=Nat.eq_of_beq_eq_true h;omega
     have hb2:Nat.beq i j=false:=by
      cases h:Nat.beq i j with
      | false=>rfl
      | true=>have:=Nat.eq_of_beq_eq_true h;omega
     simp only [hb,hb2]
     exact ih2 _ (by omega)
   rw [this]
   exact ih _
 ·intro k hk;simp at hk ⊢;omega
 ·rw [List.getElem?_append_right (by simp)] at hj
  simp only [List.length_range,Nat.add_sub_cancel_left] at hj
  cases i with
  | zero=>simpa using hj.symm
  | succ i=>simp at hj
 ·have hi:i < M.length:=(List.getElem?_eq_some_iff.1 ho).1
  exact ⟨i,o',by rw [List.getElem?_range hi],by rw [hget i hi];exact ho,hc o' (List.mem_of_getElem? ho) _ hkeep⟩
 ·have:M.length≤k:=by simpa using hn
  rw [List.getElem?_append_left (by simp at hk ⊢;omega),List.getElem?_append_right (by omega),List.getElem?_append_right this,hlen']
 ·have hi:i < M.length:=by have:=(List.getElem?_eq_some_iff.1 hk).1;simpa using this
  rw [List.getElem?_range hi] at hk
  cases hk
  have hi1:i < N.length:=by omega
  have hi2:i < N'.length:=by omega
  refine ⟨N[i],N'[i],by rw [List.getElem?_append_left hi1,List.getElem?_eq_getElem hi1],by rw [List.append_assoc,List.getElem?_append_left hi2,List.getElem?_eq_getElem hi2],?_⟩
  exact hc' _ hnth hnthN i _ _ (List.getElem?_eq_getElem hi1) (List.getElem?_eq_getElem hi2)
 ·rw [List.length_range,List.getElem?_append_right (by omega)] at hx
  rw [hlen,Nat.add_sub_cancel_left] at hx
  cases i with
  | zero=>
   cases hx
   refine ⟨_,?_,ho _ hnth⟩
   rw [Nat.add_zero,List.getElem?_append_right (by simp [hlen'])]
   simp [hlen']
  | succ i=>cases hx
theorem za.can {P:Program} {f:Nat} {spec:j0} (h:za P f spec):zbx P f:=h.1
inductive zfO (m:Nat→Option Nat) (L:List Ob):List Nat→List Ob→Prop
 | nil:zfO m L [] []
 | cons {j:Nat} {js:List Nat} {o o':Ob} {L':List Ob} (h1:L[j]?=some o) (h2:yu m o o') (h3:zfO m L js L'):zfO m L (j::js) (o'::L')
theorem zfO.eq {m:Nat→Option Nat} {L:List Ob} {js:List Nat} {L':List Ob} (h:zfO m L js L'):L'.length=js.length∧∀ (i:Nat) o',L'[i]?=some o'→∃ j o,js[i]?=some j∧L[j]?=some o∧yu m o o':=by
 induction h with
 | nil=>exact ⟨rfl,by simp⟩
 | cons h1 h2 _ ih=>
  refine ⟨by simp [ih.1],fun i x hx=>?_⟩
  cases i with
  | zero=>cases hx;exact ⟨_,_,rfl,h1,h2⟩
  | succ i=>obtain ⟨j',o2,h3,h4,h5⟩:=ih.2 i x hx;exact ⟨j',o2,h3,h4,h5⟩
theorem ziA {n0:Nat} {js:List Nat} {L L':List Ob} (hnd:wI js=true) (hst:za5 js 0 n0=true) (h:zfO (zM js 0) L js L') :
  xJ n0 (xI (zM js 0)) L L':=by
 obtain ⟨hlen,hL⟩:=h.eq
 have hnd:=zec hnd
 obtain ⟨hs1,hs2⟩:=zg0 hst
 refine fun w ρ hf=>?_
 let ρ':Pl:=⟨fun i=>ρ ((js[i]?).getD 0),ρ.hid⟩
 have hρ:∀ i j,js[i]?=some j→ρ' i=ρ j:=fun i j h=>by show ρ ((js[i]?).getD 0)=ρ j;rw [h];rfl
 have hm:∀ k k',zM js 0 k=some k'→js[k']?=some k:=fun k k' h=>by
  have:=(zc4 h).2
  simpa using this
 have kind:∀ k k' o',zM js 0 k=some k'→L'[k']?=some o'→∃ o,L[k]?=some o∧yu (zM js 0) o o':=fun k k' o' h1 h2=>by
  obtain ⟨j,o,h3,h4,h5⟩:=hL k' o' h2
  rw [hm k k' h1] at h3
  cases h3
  exact ⟨o,h4,h5⟩
 have hren:zd6 (zM js 0) ρ L ρ' L':=by
  refine ⟨fun k k' h _=>?_,fun k k' h _=>hρ _ _ (hm _ _ h),fun k k' ds h _ hL'=>?_,fun k k' ds h _ hL'=>?_,fun k k' n h _ hL'=>?_,fun k k' e ds h _ hL'=>?_⟩
  ·rw [hlen];exact (List.getElem?_eq_some_iff.1 (hm _ _ h)).1
  all_goals
   obtain ⟨o,h1,h2⟩:=kind _ _ _ h hL'
   rw [h1]
   cases o<;>simp only [yu] at h2
  all_goals first
   | (cases h2;done)
   | (obtain ⟨_,h3,_⟩:=h2;cases h3;done)
   | (obtain ⟨h3,_⟩:=h2;cases h3;done)
   | skip
  all_goals first
   | exact ⟨_,rfl⟩
   | (cases h2;rfl)
   | (obtain ⟨_,h3,h4,_⟩:=h2;cases h3;exact ⟨_,rfl,h4⟩)
 have hown:∀ b off,own ρ' L' b off→own ρ L b off:=by
  rintro b off ⟨i,o',h1,h2⟩
  obtain ⟨j,o,h3,h4,h5⟩:=hL i o' h1
  rw [hρ _ _ h3] at h2
  exact ⟨j,o,h4,(h5.owns _ _ _).1 h2⟩
 have hfoot:∀ b off,foot ρ' L' b off→foot ρ L b off:=fun b off h=>h.imp (hown b off) id
 refine ⟨ρ',⟨hf.glob.less hfoot,hf.hid,fun b off h=>hf.sep b off (hown b off h),fun i o' hi=>?_,fun i i' o o' b off h1 h2 h3 h4=>?_⟩,fun d d' v hd hr=>hd _ _ _ _ _ _ _ _ hren hfoot hr,hown,fun ρ0 L0 e hc=>?_⟩
 ·obtain ⟨j,o,h3,h4,h5⟩:=hL i o' hi
  rw [hρ _ _ h3]
  exact (hf.obj j o h4).ren hren hfoot h5
 ·obtain ⟨j,x,h5,h6,h7⟩:=hL i o h1
  obtain ⟨j',x',k5,k6,k7⟩:=hL i' o' h2
  rw [hρ _ _ h5] at h3
  rw [hρ _ _ k5] at h4
  have:=hf.disj j j' x x' b off h6 k6 ((h7.owns _ _ _).1 h3) ((k7.owns _ _ _).1 h4)
  subst this
  exact hnd _ _ _ h5 k5
 ·have get:∀ (k:Nat) o',k < L0.length→L'[k]?=some o'→∃ o,L[k]?=some o∧yu (zM js 0) o o'∧ρ' k=ρ k:=fun k o' hk h1=>by
   obtain ⟨j,o,h3,h4,h5⟩:=hL k o' h1
   have:=hs2 k (by omega)
   rw [Nat.zero_add] at this
   rw [this] at h3
   cases h3
   exact ⟨o,h4,h5,hρ _ _ this⟩
  refine ⟨hc.hid,by omega,fun k ds' hk hL'=>?_,fun k ds' hk hL'=>?_,fun k n hk hL'=>?_,fun k e ds' hk hL'=>?_⟩
  all_goals
   obtain ⟨o,h1,h2,h3⟩:=get k _ hk hL'
   rw [h3]
   cases o<;>simp only [yu] at h2
  all_goals first
   | (cases h2;done)
   | (obtain ⟨_,h3,_⟩:=h2;cases h3;done)
   | (obtain ⟨h3,_⟩:=h2;cases h3;done)
   | skip
  ·exact hc.cells k _ hk h1
  ·exact hc.map k _ hk h1
  ·cases h2;exact hc.spare k n hk h1
  ·obtain ⟨_,h5,h6,_⟩:=h2
   cases h5
   obtain ⟨ds0,h7,h8,h9⟩:=hc.arr k e _ hk h1
   exact ⟨ds0,h7,by omega,fun hh=>h9 (by omega)⟩
theorem zg7 {n0:Nat} (js:List Nat) {r d:D} {L L':List Ob} (hnd:wI js=true) (hst:za5 js 0 n0=true) (h:zfO (zM js 0) L js L') (hr:xI (zM js 0) r d):zI n0 r d L L':=
 .inr ⟨_,ziA hnd hst h,hr⟩
def zh3 (m:Nat→Option Nat) (σ:List (Nat×D)):List (Nat×D)→Prop
 | []=>True
 | (t,d)::r=>xI m (yr σ t) d∧zh3 m σ r
theorem zkk {m:Nat→Option Nat} {σ:List (Nat×D)}:∀ {σ':List (Nat×D)},zh3 m σ σ'→∀ t,yr σ' t= .any∨xI m (yr σ t) (yr σ' t)
 | [],_,t=>.inl rfl
 | (s,d)::r,h,t=>by
  simp only [yr]
  split
  ·rename_i hb
   have:=Nat.eq_of_beq_eq_true hb
   subst this
   exact .inr h.1
  ·exact zkk h.2 t
theorem vQ {n0:Nat} (js:List Nat) {σ σ':List (Nat×D)} {L L':List Ob} (hnd:wI js=true) (hst:za5 js 0 n0=true) (h:zfO (zM js 0) L js L') (hs:zh3 (zM js 0) σ σ'):wn n0 σ L σ' L':=
 ⟨_,ziA hnd hst h,zkk hs⟩
theorem zdC {P:Program} {f:Nat} {as:List D} {L:List Ob} {KP:D→Prop} {KW:D→List Ob→Prop} {α:Type} {I:α→Prop} {A:α→List D} {O:α→List Ob} {R:α→D} {O':α→List Ob}
  (h:za P f (zQ I A O R O')) (p:α) (hI:I p) (hL:L=O p) (has:LeL as (A p)) (hK:KW (R p) (O' p)):zn P f as L KP KW:=by
 subst hL
 exact .inr ⟨R p,O' p,fun w ρ vs hf hr=>h.2 as _ _ _ ⟨p,hI,has,rfl,rfl,rfl⟩ w ρ vs hf hr,h.1,hK⟩
theorem zwz {P:Program} {f:Nat} {s s1 s2:j0} (h1:za P f s1) (h2:za P f s2) (h:∀ as L d L',s as L d L'→s1 as L d L'∨s2 as L d L'):za P f s:=
 ⟨h1.1,fun as L d L' hs=>(h as L d L' hs).elim (h1.2 as L d L') (h2.2 as L d L')⟩
theorem zbA {P:Program} {n:Nat} {E:xp} {x y:Code} {Q:Ex→List (Nat×D)→List Ob→Prop} {σ:List (Nat×D)} {L:List Ob} {α:Type} (I:α→Prop) (S:α→List (Nat×D)) (O:α→List Ob)
  (hx:AWP P n E x (fun e σ' L'=>match e with | .normal=>VS (∃ p,I p∧wn E.L.length σ' L' (S p) (O p)) | e=>Q e σ' L') σ L) (hy:∀ p,I p→AWP P n E y Q (S p) (O p)):AWP P n E (.seq x y) Q σ L:=fun a w hr=>by
 refine wp_seq (wp_mono (hx a w hr) fun e a w hq=>?_)
 cases e with
 | normal=>
  obtain ⟨σ',L',h1,h2⟩:=hq
  obtain ⟨p,hI,hw⟩:=h1.out
  exact hy p hI a w (hw.rel h2)
 | exit id=>exact hq
 | ret=>exact hq
 | goto l=>exact hq.elim
 | panic ch=>exact hq.elim
 | outgrown=>exact hq.elim
def leS (σ:List (Nat×D)):List (Nat×D)→Prop
 | []=>True
 | (t,d)::r=>LeD (yr σ t) d∧leS σ r
theorem zoA {σ:List (Nat×D)}:∀ {σ':List (Nat×D)},leS σ σ'→∀ t,yr σ' t= .any∨LeD (yr σ t) (yr σ' t)
 | [],_,t=>.inl rfl
 | (s,d)::r,h,t=>by
  simp only [yr]
  split
  ·rename_i hb
   have:=Nat.eq_of_beq_eq_true hb
   subst this
   exact .inr h.1
  ·exact zoA h.2 t
theorem zjf {n0:Nat} {σ σ':List (Nat×D)} {L L':List Ob} (hL:L=L') (h:leS σ σ'):wn n0 σ L σ' L':=by
 subst hL
 exact ⟨fun d d'=>LeD d d',fun w ρ hf=>⟨ρ,hf,fun d d' v hd hr=>hd _ _ _ _ _ hr,fun _ _ h=>h,fun _ _ _ h=>h⟩,zoA h⟩
theorem zwA {P:Program} {f:Nat} {spec:j0} (hm:za P f spec) (ks:List Nat) {as as1:List D} {L L1 L1' L':List Ob} {d1 d:D} {KP:D→Prop} {KW:D→List Ob→Prop} (hnd:wI ks=true)
  (has:qC (zM ks 0) as as1) (hL1:zfO (zM ks 0) L ks L1) (hs:spec as1 L1 d1 L1') (hd:xI (qd ks) d1 d) (hlen:L1'.length=ks.length) (hlen':L'.length=L.length)
  (hsame:∀ k,k < L.length→k∉ks→L'[k]?=L[k]?) (hback:∀ (i k:Nat),ks[i]?=some k→∃ o o',L1'[i]?=some o∧L'[k]?=some o'∧yu (qd ks) o o') (hK:KW d L'):zn P f as L KP KW:=by
 obtain ⟨h1,h2⟩:=hL1.eq
 refine .inr ⟨d,L',fun w ρ vs hf hr=>?_,hm.1,hK⟩
 refine za7 hm (ks:=ks) (js:=ks) (as1:=as1) (L1:=L1) (d1:=d1) (L1':=L1') hnd (fun k hk=>?_) (fun _ _=>rfl) (fun i j hj=>?_) has h1 h2 hs hd (by omega) (by omega) hsame hback (fun i o ho=>?_) hf hr
 ·obtain ⟨i,hi,rfl⟩:=List.getElem_of_mem hk
  obtain ⟨j,o,g1,g2,_⟩:=h2 i _ (List.getElem?_eq_getElem (by omega))
  rw [List.getElem?_eq_getElem hi] at g1
  cases g1
  exact (List.getElem?_eq_some_iff.1 g2).1
 ·rw [List.getElem?_eq_none (by omega)] at hj;cases hj
 ·rw [List.getElem?_eq_none (by omega)] at ho;cases ho
theorem xW {P:Program} {n:Nat} {E:xp} {x y:Code} {Q:Ex→List (Nat×D)→List Ob→Prop} {σ:List (Nat×D)} {L:List Ob}
  (hx:AWP P n E x (fun e σ' L'=>match e with | .normal=>VS (AWP P n E y Q σ' L') | e=>Q e σ' L') σ L):AWP P n E (.seq x y) Q σ L:=fun a w hr=>by
 refine wp_seq (wp_mono (hx a w hr) fun e a w hq=>?_)
 cases e with
 | normal=>
  obtain ⟨σ',L',h1,h2⟩:=hq
  exact h1.out a w h2
 | exit id=>exact hq
 | ret=>exact hq
 | goto l=>exact hq.elim
 | panic ch=>exact hq.elim
 | outgrown=>exact hq.elim
theorem zwB {n0 k e:Nat} {σ:List (Nat×D)} {L:List Ob} {ds:List D} (ds':List D) (hk:L[k]?=some (.arr e ds)) (hl:ds.length=ds'.length) (h:∀ (i:Nat) d d',ds[i]?=some d→ds'[i]?=some d'→LeL d.cells d'.cells):wn n0 σ L σ (L.set k (.arr e ds')):=
 zaH (zmr hk hl h) fun _=>.inr rfl
theorem zrN {ds:List D} {k:Nat} {c:D} {x:D} (hx:LeL x.cells c.cells):∀ (i:Nat) d d',(ds.set k x)[i]?=some d→(ds.set k c)[i]?=some d'→LeL d.cells d'.cells:=by
 intro i d d' h1 h2
 by_cases hi:i=k
 ·subst hi
  by_cases hlt:i < ds.length
  ·rw [List.getElem?_set_self hlt] at h1 h2
   cases h1;cases h2
   exact hx
  ·rw [List.getElem?_eq_none (by simp;omega)] at h1;cases h1
 ·rw [List.getElem?_set_ne (by omega)] at h1 h2
  rw [h1] at h2
  cases h2
  exact LeL.refl _
theorem zmt {α:Type} {n0:Nat} {I:α→Prop} {S:α→List (Nat×D)} {O:α→List Ob} {μ:α→Nat} {p:α} {σ:List (Nat×D)} {L:List Ob} (p':α) (h1:I p') (h2:μ p' < μ p) (h:wn n0 σ L (S p') (O p')):zw n0 I S O μ p σ L:=⟨p',h1,h2,.inr h⟩
theorem qC.nil {m:Nat→Option Nat}:qC m [] []:=⟨rfl,by simp⟩
theorem qC.cons {m:Nat→Option Nat} {d d':D} {ds ds':List D} (h:xI m d d') (k:qC m ds ds'):qC m (d::ds) (d'::ds'):=⟨by simp [k.1],fun i a b ha hb=>by
 cases i with
 | zero=>cases ha;cases hb;exact h
 | succ i=>exact k.2 i a b ha hb⟩
theorem xI.tok {m:Nat→Option Nat} {e k k':Nat} {ds:List D} (hm:m k=some k'):xI m (.sl e ds (some k)) (.sl e ds (some k')):=by
 have:zbv m (.sl e ds (some k)) (fun d'=>d'= .sl e ds (some k')):=by
  show zd5 m e ds (some k) (zbQ m ds) (fun d'=>d'= .sl e ds (some k'))
  unfold zd5
  simp [hm]
 obtain ⟨d',h3,rfl⟩:=w8 this
 exact h3
theorem xI.loc {m:Nat→Option Nat} {k k' off:Nat} (hm:m k=some k'):xI m (.loc k off) (.loc k' off):=by
 have:zbv m (.loc k off) (fun d'=>d'= .loc k' off):=by
  show zb9 m k off (fun d'=>d'= .loc k' off)
  unfold zb9
  simp [hm]
 obtain ⟨d',h3,rfl⟩:=w8 this
 exact h3
theorem xI.osl {m:Nat→Option Nat} {e k k' v off len:Nat} (hm:m k=some k'):xI m (.osl e k v off len) (.osl e k' v off len):=by
 have:zbv m (.osl e k v off len) (fun d'=>d'= .osl e k' v off len):=by
  show zb8 m e k v off len (fun d'=>d'= .osl e k' v off len)
  unfold zb8
  simp [hm]
 obtain ⟨d',h3,rfl⟩:=w8 this
 exact h3
theorem xI.flat {m:Nat→Option Nat} {d:D} (h:ClD 0 d):xI m d d:=h m fun k hk=>absurd hk (Nat.not_lt_zero k)
theorem zlx {n0:Nat} {L:List Ob}:xJ n0 (fun d d'=>d'=d) L (L++[.dead]):=fun w ρ hf=>by
 obtain ⟨h1,h2⟩:=hf.snoc (Ext.refl F0 w) (o:=.dead) (l:=⟨0,0,0⟩) (fun b off h=>h.elim) trivial
 have hff:=h2.foot (ρ':=upd ρ L.length ⟨0,0,0⟩) rfl
 refine ⟨_,h1,fun d d' v hd hr=>?_,fun b off ho=>?_,fun ρ0 L0 hl hc=>hc.trans (.snoc _ _ _ _)⟩
 ·subst hd
  exact hr.keep (Ext.refl _ _) hff (.snoc _ _ _ _)
 ·rcases zfo ho with h | h
  ·exact h
  ·exact h.elim
theorem znf {n0:Nat} {σ:List (Nat×D)} {L:List Ob}:wn n0 σ L σ (L++[.dead]):=zaH zlx fun _=>.inr rfl
theorem zs1 {n0 j:Nat} {φ:D→D→Prop} {L L1:List Ob} {ds ds':List D} (hS:xJ L.length φ L L1) (hj:L[j]?=some (.cells ds)) (hj1:L1[j]?=some (.cells ds)) (hl:ds.length=ds'.length)
  (hφ:∀ (i:Nat) d d',ds[i]?=some d→ds'[i]?=some d'→φ d d'):xJ n0 φ L (L1.set j (.cells ds')):=fun w ρ hf=>by
 obtain ⟨ρ1,f1,r1,ow1,c1⟩:=hS w ρ hf
 have hc1:=c1 ρ L rfl (zX.refl _ _)
 have hjl:j < L.length:=(List.getElem?_eq_some_iff.1 hj).1
 have hρ:ρ1 j=ρ j:=by
  obtain ⟨_,_,h⟩:=hc1.cells j ds hjl hj1
  exact h
 obtain ⟨o1,o2⟩:=hf.obj j _ hj
 obtain ⟨p1,p2⟩:=f1.obj j _ hj1
 have hc:zX ρ1 L1 ρ1 (L1.set j (.cells ds')):=by
  refine ⟨rfl,by simp,fun j d hj h=>?_,fun j d hj h=>?_,fun j n hj h=>?_,fun j e' d hj h=>?_⟩
  all_goals
   rcases zT h with ⟨h1,h2⟩ | ⟨_,h2⟩
   ·first
     | (cases h2;subst h1;exact ⟨_,hj1,rfl⟩)
     | cases h2
   ·first
     | exact ⟨_,h2,rfl⟩
     | exact ⟨_,h2,Nat.le_refl _,fun _=>rfl⟩
 have hgo:∀ (q:Nat) x,(L1.set j (.cells ds'))[q]?=some x→∀ b off,x.owns (ρ1 q) b off→∃ y,L1[q]?=some y∧y.owns (ρ1 q) b off:=by
  intro q x h1 b off h2
  rcases zT h1 with ⟨h3,h4⟩ | ⟨h3,h4⟩
  ·subst h3;subst h4;exact ⟨_,hj1,h2⟩
  ·exact ⟨_,h4,h2⟩
 have hown:∀ b off,own ρ1 (L1.set j (.cells ds')) b off→own ρ1 L1 b off:=by
  rintro b off ⟨q,o,h1,h2⟩
  obtain ⟨y,h3,h4⟩:=hgo q o h1 b off h2
  exact ⟨q,y,h3,h4⟩
 have hfr:yU w (own ρ1 L1) (own ρ1 (L1.set j (.cells ds'))):=fun b off h=>.inl (hown b off h)
 have hff:=hfr.foot (ρ':=ρ1) rfl
 refine ⟨ρ1,f1.change F0 (fun _ _ h=>h.elim) (Ext.refl _ _) hc hfr (fun q q' x x' b off h1 h2 h3 h4=>?_) (fun q o hq=>?_),fun d d' v hd hr=>(r1 d d' v hd hr).keep (Ext.refl _ _) hff hc,fun b off h=>ow1 b off (hown b off h),fun ρ0 L0 hl h0=>h0.trans (hc1.trans hc)⟩
 ·obtain ⟨y,g1,g2⟩:=hgo q x h1 b off h3
  obtain ⟨y',g3,g4⟩:=hgo q' x' h2 b off h4
  exact f1.disj _ _ _ _ _ _ g1 g3 g2 g4
 ·rcases zT hq with ⟨h2,h3⟩ | ⟨h2,h3⟩
  ·subst h2;subst h3
   refine .inr ⟨by rw [p1,hl],fun i d' hi=>?_⟩
   have hil:i < ds.length:=by rw [hl];exact (List.getElem?_eq_some_iff.1 hi).1
   obtain ⟨⟨v,hv,hr⟩,hs⟩:=o2 i _ (List.getElem?_eq_getElem hil)
   obtain ⟨⟨v1,hv1,hr1⟩,hs1⟩:=p2 i _ (List.getElem?_eq_getElem hil)
   rw [hρ] at hv1 hs1 ⊢
   exact ⟨⟨v,hv,(r1 _ d' v (hφ i _ d' (List.getElem?_eq_getElem hil) hi) hr).keep (Ext.refl _ _) hff hc⟩,hs1⟩
  ·exact .inl ⟨(List.getElem?_eq_some_iff.1 h3).1,h3,rfl,fun _ _ _ h=>h⟩
def zwC (φ:D→D→Prop):List D→List D→Prop
 | [],[]=>True
 | d::ds,d'::ds'=>φ d d'∧zwC φ ds ds'
 | _,_=>False
theorem zrO {φ:D→D→Prop}:∀ {ds ds':List D},zwC φ ds ds'→ds.length=ds'.length∧∀ (i:Nat) d d',ds[i]?=some d→ds'[i]?=some d'→φ d d'
 | [],[],_=>⟨rfl,by simp⟩
 | d::ds,d'::ds',h=>by
  obtain ⟨h1,h2⟩:=zrO h.2
  refine ⟨by simp [h1],fun i a b ha hb=>?_⟩
  cases i with
  | zero=>simp at ha hb;subst ha;subst hb;exact h.1
  | succ i=>exact h2 i a b (by simpa using ha) (by simpa using hb)
 | [],_::_,h=>h.elim
 | _::_,[],h=>h.elim
theorem zkl {n0 k:Nat} {σ:List (Nat×D)} {L:List Ob} (j:Nat) {els:List D} (l:List UInt8) {ds:List D} (ds':List D) (hk:L[k]?=some (.arr 1 els)) (he:els=l.map zC)
  (hj:L[j]?=some (.cells ds)) (h:zwC (Fz k 1 (l.map zC) (l.map zC) L.length) ds ds') :
  wn n0 σ L σ ((L.set k Ob.dead++[Ob.spare l.length]).set j (.cells ds')):=by
 subst he
 obtain ⟨h1,h2⟩:=zrO h
 have hjk:j≠k:=fun e=>by subst e;rw [hk] at hj;cases hj
 have hjl:j < L.length:=(List.getElem?_eq_some_iff.1 hj).1
 have hS:=zs1 (n0:=n0) (zdx hk (zeC l)) hj (by rw [List.getElem?_append_left (by simpa using hjl),List.getElem?_set_ne (by omega)];exact hj) h1 h2
 rw [List.length_map] at hS
 exact zaH hS fun t=>.inr (Fz.keep _)
def Na (e tok:Nat) (d d':D):Prop:=d'=d∨(d= .nilsl∧d'= .osl e tok 0 0 0)
theorem zng {n0 e k:Nat} {L:List Ob} {ds ds':List D} (hk:L[k]?=some (.cells ds)) (hl:ds.length=ds'.length)
  (h:∀ (i:Nat) d d',ds[i]?=some d→ds'[i]?=some d'→Na e L.length d d'):xJ n0 (fun d d'=>d'=d) L (L.set k (.cells ds')++[.arr e []]):=fun w ρ hf=>by
 have hkl:k < L.length:=(List.getElem?_eq_some_iff.1 hk).1
 have hlen:(L.set k (.cells ds')).length=L.length:=by simp
 obtain ⟨o1,o2⟩:=hf.obj k _ hk
 have hget:∀ {j:Nat} {x:Ob},(L.set k (.cells ds')++[.arr e []])[j]?=some x→(j=k∧x= .cells ds')∨(j≠k∧L[j]?=some x∧j < L.length)∨(j=L.length∧x= .arr e []):=by
  intro j x h
  rcases kC h with ⟨h1,h2⟩ | ⟨h1,h2⟩
  ·rcases zT h2 with ⟨h3,h4⟩ | ⟨h3,h4⟩
   ·exact .inl ⟨h3,h4⟩
   ·exact .inr (.inl ⟨h3,h4,by rwa [hlen] at h1⟩)
  ·exact .inr (.inr ⟨by rw [h1,hlen],h2.symm⟩)
 have hc:zX ρ L (upd ρ L.length ⟨0,0,0⟩) (L.set k (.cells ds')++[.arr e []]):=by
  refine ⟨rfl,by simp,fun j d hj h=>?_,fun j d hj h=>?_,fun j n hj h=>?_,fun j e' d hj h=>?_⟩
  all_goals
   rcases hget h with ⟨h1,h2⟩ | ⟨_,h2,_⟩ | ⟨h1,_⟩
   ·first
     | (cases h2;subst h1;exact ⟨_,hk,yi (by omega)⟩)
     | cases h2
   ·first
     | exact ⟨_,h2,yi (by omega)⟩
     | exact ⟨_,h2,Nat.le_refl _,fun _=>yi (by omega)⟩
   ·omega
 have hnone:∀ b off,¬ Ob.owns (.arr e []) ⟨0,0,0⟩ b off:=fun b off ⟨_,_,h4⟩=>by
  have h4:off < 0+0:=h4
  omega
 have hown:∀ b off,own (upd ρ L.length ⟨0,0,0⟩) (L.set k (.cells ds')++[.arr e []]) b off→own ρ L b off:=by
  rintro b off ⟨j,o,h1,h2⟩
  rcases hget h1 with ⟨h3,h4⟩ | ⟨h3,h4,h5⟩ | ⟨h3,h4⟩
  ·subst h3;subst h4
   rw [yi (by omega)] at h2
   exact ⟨j,_,hk,h2⟩
  ·rw [yi (by omega)] at h2
   exact ⟨j,o,h4,h2⟩
  ·subst h3;subst h4
   rw [zZ] at h2
   exact (hnone _ _ h2).elim
 have hfr:yU w (own ρ L) (own (upd ρ L.length ⟨0,0,0⟩) (L.set k (.cells ds')++[.arr e []])):=fun b off h=>.inl (hown b off h)
 have hff:=hfr.foot (ρ':=upd ρ L.length ⟨0,0,0⟩) rfl
 have hgo:∀ (j:Nat) x,(L.set k (.cells ds')++[.arr e []])[j]?=some x→∀ b off,x.owns (upd ρ L.length ⟨0,0,0⟩ j) b off→∃ y,L[j]?=some y∧y.owns (ρ j) b off:=by
  intro j x h1 b off h2
  rcases hget h1 with ⟨h3,h4⟩ | ⟨h3,h4,h5⟩ | ⟨h3,h4⟩
  ·subst h3;subst h4
   rw [yi (by omega)] at h2
   exact ⟨_,hk,h2⟩
  ·rw [yi (by omega)] at h2
   exact ⟨_,h4,h2⟩
  ·subst h3;subst h4
   rw [zZ] at h2
   exact (hnone _ _ h2).elim
 refine ⟨_,hf.change F0 (fun _ _ h=>h.elim) (Ext.refl _ _) hc hfr (fun j j' x x' b off h1 h2 h3 h4=>?_) (fun j o hj=>?_),fun d d' v hd hr=>?_,hown,fun ρ0 L0 hl h0=>h0.trans hc⟩
 ·obtain ⟨y,g1,g2⟩:=hgo j x h1 b off h3
  obtain ⟨y',g3,g4⟩:=hgo j' x' h2 b off h4
  exact hf.disj _ _ _ _ _ _ g1 g3 g2 g4
 ·rcases hget hj with ⟨h2,h3⟩ | ⟨h2,h3,h4⟩ | ⟨h2,h3⟩
  ·subst h2;subst h3
   rw [yi (by omega)]
   refine .inr ⟨by rw [o1,hl],fun i d' hi=>?_⟩
   have hil:i < ds.length:=by rw [hl];exact (List.getElem?_eq_some_iff.1 hi).1
   obtain ⟨⟨v,hv,hr⟩,hs⟩:=o2 i _ (List.getElem?_eq_getElem hil)
   refine ⟨⟨v,hv,?_⟩,hs⟩
   rcases h i _ d' (List.getElem?_eq_getElem hil) hi with he | ⟨he,rfl⟩
   ·rw [he];exact hr.keep (Ext.refl _ _) hff hc
   ·rw [he] at hr
    obtain ⟨a,rfl⟩:=hr.nilsl_inv
    refine .osl _ _ _ _ _ _ _ (by simp) ⟨Nat.le_refl _,fun _=>rfl⟩ fun e' ds2 hn=>?_
    rw [List.getElem?_append_right (by simp),hlen,Nat.sub_self] at hn
    simp at hn
    obtain ⟨rfl,rfl⟩:=hn
    refine ⟨rfl,Nat.zero_le _,fun _=>⟨.inl rfl,?_,Nat.le_refl _⟩⟩
    rw [zZ]
    simp
  ·exact .inl ⟨h4,h3,yi (by omega),fun _ _ _ h=>h⟩
  ·subst h2;subst h3
   rw [zZ]
   exact .inr ⟨by simp,by simp,by simp,fun q hq=>by simp at hq⟩
 ·subst hd
  exact hr.keep (Ext.refl _ _) hff hc
theorem Na.here {e tok:Nat}:Na e tok .nilsl (.osl e tok 0 0 0):=.inr ⟨rfl,rfl⟩
theorem Na.same {e tok:Nat} {d:D}:Na e tok d d:=.inl rfl
def NaL (e tok:Nat):List D→List D→Prop
 | [],[]=>True
 | d::ds,d'::ds'=>Na e tok d d'∧NaL e tok ds ds'
 | _,_=>False
theorem zoB {e tok:Nat}:∀ {ds ds':List D},NaL e tok ds ds'→ds.length=ds'.length∧∀ (i:Nat) d d',ds[i]?=some d→ds'[i]?=some d'→Na e tok d d'
 | [],[],_=>⟨rfl,by simp⟩
 | d::ds,d'::ds',h=>by
  obtain ⟨h1,h2⟩:=zoB h.2
  refine ⟨by simp [h1],fun i a b ha hb=>?_⟩
  cases i with
  | zero=>simp at ha hb;subst ha;subst hb;exact h.1
  | succ i=>exact h2 i a b (by simpa using ha) (by simpa using hb)
 | [],_::_,h=>h.elim
 | _::_,[],h=>h.elim
theorem qe {n0:Nat} {σ:List (Nat×D)} {L:List Ob} (k e:Nat) {ds:List D} (ds':List D) (hk:L[k]?=some (.cells ds)) (h:NaL e L.length ds ds') :
  wn n0 σ L σ (L.set k (.cells ds')++[.arr e []]):=zaH (zng hk (zoB h).1 (zoB h).2) fun _=>.inr rfl
theorem zoC {n0 e:Nat} {L:List Ob}:xJ n0 (fun d d'=>d'=d∨(d= .nilsl∧d'= .osl e L.length 0 0 0)) L (L++[.arr e []]):=fun w ρ hf=>by
 obtain ⟨h1,h2⟩:=hf.snoc (Ext.refl F0 w) (o:=.arr e []) (l:=⟨0,0,0⟩) (fun b off h=>by
  obtain ⟨_,h3,h4⟩:=h
  have h4:off < 0+0:=h4
  omega) ⟨by simp,by simp,by simp,fun j hj=>by simp at hj⟩
 have hc:zX ρ L (upd ρ L.length ⟨0,0,0⟩) (L++[.arr e []]):=.snoc _ _ _ _
 refine ⟨_,h1,fun d d' v hd hr=>?_,fun b off h=>?_,fun ρ0 L0 hl h0=>h0.trans hc⟩
 ·rcases hd with rfl | ⟨rfl,rfl⟩
  ·exact hr.keep (Ext.refl _ _) (h2.foot rfl) hc
  ·obtain ⟨a,rfl⟩:=hr.nilsl_inv
   refine .osl _ _ _ _ _ _ _ (by simp) ⟨Nat.le_refl _,fun _=>rfl⟩ fun e' ds hds=>?_
   simp at hds
   obtain ⟨rfl,rfl⟩:=hds
   exact ⟨rfl,Nat.le_refl _,fun _=>⟨.inl rfl,by rw [zZ];simp,by simp⟩⟩
 ·rcases zfo h with h | ⟨_,h3,h4⟩
  ·exact h
  ·have h4:off < 0+0:=h4
   omega
theorem zqM {n0:Nat} {σ:List (Nat×D)} {L:List Ob} (t e:Nat) (h:yr σ t= .nilsl):wn n0 σ L ((t,.osl e L.length 0 0 0)::σ) (L++[.arr e []]):=
 zaH zoC fun u=>by
  rw [zoj]
  split
  ·rename_i hu;subst hu;exact .inr (.inr ⟨h,rfl⟩)
  ·exact .inr (.inl rfl)
theorem zuy {P:Program} {T:Tab} (hT:ye P T) {n id t:Nat} {E:xp} {o:Oper} {os:List Oper} {Q:Ex→List (Nat×D)→List Ob→Prop} {σ:List (Nat×D)} {L:List Ob} (hg:o.guard=none) (ht:o.dst=some t) (hn:t < n) (d:D) (L1:List Ob) (σ2:List (Nat×D)) (L2:List Ob)
  (h1:opK P T σ L o.op (fun d'=>VS (d'=d∧L=L1)) (fun d'=>VS (d'=d∧L=L1)) fun d' L'=>VS (d'=d∧L'=L1)) (hw:wn E.L.length ((t,d)::σ) L1 σ2 L2) (h2:zcO P T n (o::os) os σ2 L2 (Q .normal)):AWP P n E (.region id (o::os).toArray false) Q σ L:=by
 intro a w hr
 refine wp_region ?_
 obtain ⟨d',L',hok,hd⟩:=zrH hT (K:=fun d' L'=>VS (d'=d∧L'=L1)) h1
 obtain ⟨rfl,rfl⟩:=hd.out
 obtain ⟨ρ,g1,g2,g3,g4,g5,g6,g7⟩:=hr
 have hwn:Region.wanted o (yielded (o::os).toArray a.tmps)=true:=by simp [Region.wanted,hg]
 rw [List.range_eq_range',List.size_toArray,List.length_cons,List.range'_succ]
 simp only [wpOps,List.getElem?_toArray,List.getElem?_cons_zero,hwn,if_true]
 refine .inl (hok a w ρ _ _ g3 g4 fun v w' ρ' hp=>?_)
 obtain ⟨σ'',hσ,hr'⟩:=qS.step (E:=E) (n:=n) (K:=fun τ=>τ=(t,d')::σ) (dst:=o.dst) g1 g2 g3 g4 g5 g6 g7 hp (by
  rw [ht]
  unfold zav
  dsimp only
  have:Nat.blt t n=true:=by simpa [Nat.blt_eq] using hn
  rw [this])
 subst hσ
 exact zce hT (E:=E) (Q:=AQ n E Q) (K:=Q .normal) (fun σ L a w h1 h2=>⟨σ,L,h1,h2⟩) os 1 σ2 L2 _ w' (fun j=>by rw [Nat.add_comm,List.getElem?_cons_succ]) h2 (hw.rel hr')
end Go.Plat
namespace Go.Plat
open Go
theorem zs2 {P:Program} {f:FuncId} {s s':j0} (h:za P f s) (hs:∀ av L d L',s' av L d L'→s av L d L'):za P f s':=
 ⟨h.1,fun av L d L' k=>h.2 av L d L' (hs av L d L' k)⟩
end Go.Plat
namespace Go.Plat
open Go
open Go.ChangeShapes Go.WideShapes
set_option linter.unusedVariables false
set_option linter.unusedSimpArgs false
theorem zkm {P:Program} {w:World} {r:Reach} {b:Nat} {t:TypeId} {v:Value} (h:Value.okWide P w r b t v) (hu:(∃ fs,P.underlying t=some (.struct fs))∨∃ n e,P.underlying t=some (.array n e)):∃ cs,v= .agg cs:=by
 unfold Value.okWide at h
 rcases hu with ⟨fs,hu⟩ | ⟨n,e,hu⟩<;>rw [hu] at h<;>obtain ⟨cs,h,_⟩:=h<;>exact ⟨cs,h⟩
theorem zrP {w:World} {cs:List D} {vs:Array Value} (h:x9 w F0 cs vs.toList):zJ w F0 (.agg cs) (.agg vs):=by
 have:zJ w F0 (.agg cs) (.agg vs.toList.toArray):=.agg cs vs.toList h.1.symm fun i d v hd hv=>(h.2 i d v hd hv).1
 simpa using this
theorem zwD {w:World} {σ:Sh} {cs:List D} {v:Value} (ha:σ.agg=false) (h:x9 w F0 cs [v]):zJ w F0 (elD σ cs) v:=by
 unfold elD
 rw [ha]
 match cs,h with
 | [c],h=>exact (h.2 0 c v rfl rfl).1
 | [],h=>exact absurd h.1 (by simp)
 | _::_::_,h=>exact absurd h.1 (by simp)
theorem zyx {H:Type} {enc:TypeId×Value→H} {P:Program} {w:World} {σ:Sh} {t:TypeId} {v:Value} {d:DataW H} {ps:List MemPlace} {r:Reach} {b:Nat} {fuel:Nat} (hc:chk P σ (.inl t)=true) (hvd:vdB fuel σ=true)
  (hok:Value.okWide P w r b t v) (h:DataW.trod enc P w 0 (fun _=>true) true fuel t v.cells.toList=some (d,ps)):fit σ (.inl d)∧zJ w F0 (rd σ d) v:=by
 obtain ⟨h1,h2,_⟩:=(zdA σ).1 t fuel _ d ps hc hvd h
 refine ⟨h1,?_⟩
 have one:σ.agg=false→(∀ cs,v≠ .agg cs)→zJ w F0 (rd σ d) v:=fun ha hv=>by
  have hcells:v.cells.toList=[v]:=by cases v<;>first | rfl | exact (hv _ rfl).elim
  rw [hcells] at h2
  exact zwD ha h2
 cases σ with
 | int k=>
  simp only [chk] at hc;split at hc<;>try cases hc
  rename_i q hu
  refine one rfl fun cs e=>?_
  subst e;simp [Value.okWide,hu,Cell.okWide,Cell.ok] at hok
 | bool=>
  simp only [chk] at hc;split at hc<;>try cases hc
  rename_i hu
  refine one rfl fun cs e=>?_
  subst e;simp [Value.okWide,hu,Cell.okWide,Cell.ok] at hok
 | str=>
  simp only [chk] at hc;split at hc<;>try cases hc
  rename_i hu
  refine one rfl fun cs e=>?_
  subst e;simp [Value.okWide,hu,Cell.okWide,Cell.ok] at hok
 | sl n σ=>
  obtain ⟨e,hu,_⟩:=zg3 hc
  refine one rfl fun cs e=>?_
  subst e;simp [Value.okWide,hu,Cell.okWide,Cell.ok] at hok
 | fin=>simp [chk] at hc
 | fld a b=>
  obtain ⟨fs,hu,_⟩:=zlv hc
  obtain ⟨cs,rfl⟩:=zkm hok (.inl ⟨_,hu⟩)
  exact zrP h2
 | arr n σ=>
  obtain ⟨e,hu,_⟩:=zlu hc
  obtain ⟨cs,rfl⟩:=zkm hok (.inr ⟨_,_,hu⟩)
  exact zrP h2
 | void n=>simp [vdB] at hvd
def kj (P:Program):List Sh→List TypeId→Bool
 | [],[]=>true
 | σ::σs,t::ts=>chk P σ (.inl t) && kj P σs ts
 | _,_=>false
def qf {H:Type}:List Sh→List (DataW H)→Prop
 | [],[]=>True
 | σ::σs,d::ds=>fit σ (.inl d)∧qf σs ds
 | _,_=>False
def zal {H:Type}:List Sh→List (DataW H)→List D
 | σ::σs,d::ds=>rd σ d::zal σs ds
 | _,_=>[]
theorem zuz {σ:Sh} {k m:Nat} (h:vdB k σ=true) (hle:m≤k):vdB m σ=true:=by
 induction k with
 | zero => have : m = 0 := by omega
           subst this;exact h
 | succ k ih=>
  rcases Nat.eq_or_lt_of_le hle with rfl | hlt
  ·exact h
  ·exact ih (kK σ k h) (by omega)
theorem zoD {H:Type} {enc:TypeId×Value→H} {P:Program} {w:World}:∀ {ts:List TypeId} {vs:List Value} {ds:List (DataW H)} {ps:List MemPlace},
  (∀ (j:Nat) t v,ts[j]?=some t→vs[j]?=some v→∃ r b,Value.okWide P w r b t v)→DataW.TrodAll enc P w 0 (fun _=>true) true ts vs ds ps →
  ∃ K,∀ σs:List Sh,kj P σs ts=true→(∀ σ∈σs,vdB K σ=true)→qf σs ds∧vs.length=(zal σs ds).length∧∀ (i:Nat) d v,(zal σs ds)[i]?=some d→vs[i]?=some v→zJ w F0 d v
 | [],vs,ds,ps,_,h=>by
  obtain ⟨rfl,rfl,rfl⟩:=trodAll_nil h
  refine ⟨0,fun σs hc _=>?_⟩
  cases σs with
  | nil=>exact ⟨trivial,rfl,fun i d v hd=>by simp [zal] at hd⟩
  | cons σ σs=>simp [kj] at hc
 | t::ts,vs,ds,ps,hok,h=>by
  obtain ⟨v,vs1,d,ds1,p,q,rfl,rfl,rfl,h1,h2⟩:=trodAll_cons h
  obtain ⟨r,b,hv⟩:=hok 0 t v rfl rfl
  obtain ⟨fuel,h1⟩:=h1
  obtain ⟨K,hK⟩:=zoD (fun j t v ht hv=>hok (j+1) t v (by simpa using ht) (by simpa using hv)) h2
  refine ⟨max fuel K,fun σs hc hvd=>?_⟩
  cases σs with
  | nil=>simp [kj] at hc
  | cons σ σs=>
   simp only [kj,Bool.and_eq_true] at hc
   obtain ⟨f1,r1⟩:=zyx hc.1 (zuz (hvd σ (by simp)) (Nat.le_max_left _ _)) hv h1
   obtain ⟨f2,l2,r2⟩:=hK σs hc.2 fun x hx=>zuz (hvd x (by simp [hx])) (Nat.le_max_right _ _)
   refine ⟨⟨f1,f2⟩,by simp [zal,l2],fun i d' v' hd hv'=>?_⟩
   cases i with
   | zero=>simp [zal] at hd hv';subst hd;subst hv';exact r1
   | succ i=>exact r2 i d' v' (by simpa [zal] using hd) (by simpa using hv')
theorem zkn {P:Program}:∀ {σs:List Sh} {ts:List TypeId} {i:Nat} {t:TypeId},kj P σs ts=true→ts[i]?=some t→∃ σ∈σs,chk P σ (.inl t)=true
 | [],[],i,t,_,ht=>by simp at ht
 | σ::σs,t::ts,i,u,hc,hu=>by
  simp only [kj,Bool.and_eq_true] at hc
  cases i with
  | zero=>simp at hu;subst hu;exact ⟨σ,by simp,hc.1⟩
  | succ i=>
   obtain ⟨x,h1,h2⟩:=zkn hc.2 (by simpa using hu)
   exact ⟨x,by simp [h1],h2⟩
 | [],_::_,_,_,hc,_=>by simp [kj] at hc
 | _::_,[],_,_,hc,_=>by simp [kj] at hc
theorem znh {P:Program} {σs:Nat→List Sh} {ts:List TypeId} (hc:∀ K,kj P (σs K) ts=true) (hv:∀ K,∀ σ∈σs K,vdB K σ=true):∀ t∈ts,zch P t:=fun t ht K=>by
 obtain ⟨i,hi⟩:=List.getElem?_of_mem ht
 obtain ⟨σ,h1,h2⟩:=zkn (hc K) hi
 exact ⟨σ,h2,hv K σ h1⟩
theorem zni {H:Type} {enc:TypeId×Value→H} {P:Program} {f:FuncId} {fn:Func} {s:ChangeSpec} {σs:Nat→List Sh} {spec:j0} {apart fresh handsOn:Bool} {W:World} {args:Array Value} {ds gs:List (DataW H)} {before:List MemPlace} {tb:TypeId}
  (hc:∀ K,kj P (σs K) fn.params.toList=true) (hvd:∀ K,∀ σ∈σs K,vdB K σ=true) (hvars:s.vars=[]) (hrt:fn.resultTypes= #[tb]) (htb:P.underlying tb=some .bool)
  (hfn:∀ K,qf (σs K) ds→s.fn H (ds++gs)={ results:=[.lit (.bool true)],args:=ds })
  (hval:∀ (j:Nat) t v,fn.params[j]?=some t→args[j]?=some v→∃ r b,Value.okWide P W r b t v)
  (hW:DataW.Whole enc P fn.params.toList s.vars apart W args.toList ds gs before) (hG:GOk W F0)
  (hm:za P f spec) (hs:∀ K,qf (σs K) ds→spec (zal (σs K) ds) [] (.bool true) []) :
  Calls P f args W fun e W'=>∃ v,e= .returned v∧s.post enc P fn apart fresh handsOn false W args v W':=by
 have hW':=hW
 obtain ⟨p,q,hA,hV,rfl,hfz,hnd⟩:=hW
 obtain ⟨K,hK⟩:=zoD (fun j t v ht hv=>hval j t v (by simpa using ht) (by simpa using hv)) hA
 obtain ⟨h1,h2,h3⟩:=hK (σs K) (hc K) (hvd K)
 have hq:q=[]∧gs=[]:=by
  rw [hvars] at hV
  cases gs with
  | nil=>exact ⟨hV,rfl⟩
  | cons g gs=>exact hV.elim
 obtain ⟨rfl,rfl⟩:=hq
 have hcall:=hm.2 (zal (σs K) ds) [] (.bool true) [] (hs K h1) W ⟨fun _=>⟨0,0,0⟩,fun _ _=>False⟩ args.toList
  ⟨hG.less fun b off hF=>by
    rcases hF with ⟨k,o,h,_⟩ | hF
    ·simp at h
    ·exact hF.elim,fun _ _ h=>h.elim,fun _ _ _ h=>h,fun k o h=>by simp at h,fun k k' o o' b off h=>by simp at h⟩
  ⟨h2,fun i d v hd hv=>.pure _ _ ((h3 i d v hd hv).less (fun b off hF=>by
    rcases hF with ⟨k,o,h,_⟩ | hF
    ·simp at h
    ·exact hF.elim))⟩
 rw [show args.toList.toArray=args by simp] at hcall
 refine hcall.mono ?_
 rintro e W' ⟨v,ρ',he,hp⟩
 have hext:Ext F0 W W':=hp.ext.mono fun b off _ h=>by
  obtain ⟨k,o,h,_⟩:=h
  simp at h
 have hv:v= .bool true:=by
  have:=zhP hp.rep
  cases this
  rfl
 subst hv
 refine ⟨_,he,ds,[],p++[],[],p,[],hW',?_,?_,?_,zwx hext _,fun h=>by cases h⟩
 ·rw [hfn K h1,hrt]
  exact trodAll_mk1 (Go.RowKit.shut_bool htb true)
 ·rw [hfn K h1]
  refine zkj hext (znh hc hvd) hA fun x hx=>?_
  have:=hW'.lt x (by simpa using hx)
  simpa using this
 ·rw [hvars,hfn K h1]
  rfl
theorem zoE {H:Type} {enc:TypeId×Value→H} {P:Program} {f:FuncId} {fn:Func} {s:ChangeSpec} {σs:List Sh} {spec:j0} {apart fresh handsOn:Bool} {W:World} {args:Array Value} {ds gs:List (DataW H)} {before:List MemPlace} {tb:TypeId}
  (hc:kj P σs fn.params.toList=true) (hfull:σs.all zbU=true) (hvars:s.vars=[]) (hrt:fn.resultTypes= #[tb]) (htb:P.underlying tb=some .bool)
  (hfn:qf σs ds→s.fn H (ds++gs)={ results:=[.lit (.bool true)],args:=ds })
  (hval:∀ (j:Nat) t v,fn.params[j]?=some t→args[j]?=some v→∃ r b,Value.okWide P W r b t v)
  (hW:DataW.Whole enc P fn.params.toList s.vars apart W args.toList ds gs before) (hG:GOk W F0)
  (hm:za P f spec) (hs:qf σs ds→spec (zal σs ds) [] (.bool true) []) :
  Calls P f args W fun e W'=>∃ v,e= .returned v∧s.post enc P fn apart fresh handsOn false W args v W':=
 zni (σs:=fun _=>σs) (fun _=>hc) (fun K σ h=>zdz σ K (List.all_eq_true.1 hfull σ h)) hvars hrt htb (fun _=>hfn) hval hW hG hm fun _=>hs
end Go.Plat
namespace Go.Plat
open Go
set_option linter.unusedVariables false
set_option linter.unusedSimpArgs false
def qm {H:Type}:DataW H→List (DataW H)
 | .slice el _=>el
 | _=>[]
theorem zyy {H:Type} {k:IntKind} {d:DataW H} (h:fit (.int k) (.inl d)):∃ n,rd (.int k) d= .int k n∧k.min≤n∧n≤k.max:=by
 simp only [fit] at h
 obtain ⟨n,rfl,h⟩:=h
 refine ⟨n,rfl,?_⟩
 simpa [Lit.wf] using h
theorem zh4 {H:Type} {d:DataW H} (h:fit (.int .i64) (.inl d)):∃ n,rd (.int .i64) d= .int .i64 n∧-9223372036854775808≤n∧n≤9223372036854775807:=zyy h
theorem zzP {H:Type} {α:Type} {n:Nat} {σ:Sh} {g:α→D} {Q:DataW H→α→Prop} {d:DataW H} (h:fit (.sl n σ) (.inl d)) (he:∀ x∈qm d,fit σ (.inl x)→∃ a,rd σ x=g a∧Q x a) :
  ∃ l:List α,rd (.sl n σ) d= .sl n (l.map g) none∧l.length=(qm d).length∧∀ (i:Nat) x a,(qm d)[i]?=some x→l[i]?=some a→Q x a:=by
 have key:∀ el:List (DataW H),(∀ x∈el,∃ a,rd σ x=g a∧Q x a)→∃ l:List α,el.map (rd σ)=l.map g∧l.length=el.length∧∀ (i:Nat) x a,el[i]?=some x→l[i]?=some a→Q x a:=by
  intro el
  induction el with
  | nil=>intro _;exact ⟨[],rfl,rfl,by simp⟩
  | cons x el ih=>
   intro hx
   obtain ⟨a,h1,h2⟩:=hx x (by simp)
   obtain ⟨l,h3,h4,h5⟩:=ih fun y hy=>hx y (by simp [hy])
   refine ⟨a::l,by simp [h1,h3],by simp [h4],fun i y b hy hb=>?_⟩
   cases i with
   | zero=>simp at hy hb;subst hy;subst hb;exact h2
   | succ i=>exact h5 i y b (by simpa using hy) (by simpa using hb)
 simp only [fit] at h
 rcases h with rfl | ⟨el,sp,rfl,h⟩
 ·exact ⟨[],rfl,rfl,by simp [qm]⟩
 ·obtain ⟨l,h1,h2,h3⟩:=key el fun x hx=>he x hx (h x hx)
  refine ⟨l,?_,h2,h3⟩
  show D.sl n (el.map (rd σ)) none=_
  rw [h1]
def rdF {H:Type} (σ:Sh) (ds:List (DataW H)):List D:=cl σ (.inr ds)
theorem zzQ {H:Type} {a b:Sh} {p:DataW H} {ps:List (DataW H)}:rd (.fld a b) (.agg (p::ps))= .agg (cl a (.inl p)++rdF b ps):=rfl
theorem zyz {H:Type} {a b:Sh} {d:DataW H} (h:fit (.fld a b) (.inl d)):∃ p ps,d= .agg (p::ps)∧fit a (.inl p)∧fit b (.inr ps):=by
 simpa only [fit] using h
theorem zwE {H:Type} {a b:Sh} {ds:List (DataW H)} (h:fit (.fld a b) (.inr ds)):∃ p ps,ds=p::ps∧fit a (.inl p)∧fit b (.inr ps):=by
 cases ds with
 | nil=>simp [fit] at h
 | cons p ps=>exact ⟨p,ps,rfl,by simpa only [fit] using h⟩
theorem zyA {H:Type} {ds:List (DataW H)} (h:fit .fin (.inr ds)):ds=[]:=by
 cases ds with
 | nil=>rfl
 | cons p ps=>simp [fit] at h
theorem zwF {H:Type} {a b:Sh} {p:DataW H} {ps:List (DataW H)}:rdF (.fld a b) (p::ps)=cl a (.inl p)++rdF b ps:=by simp [rdF,cl]
theorem zyB {H:Type}:rdF (.fin) ([]:List (DataW H))=[]:=by simp [rdF,cl]
theorem zuA {H:Type} {σ:Sh} {d:DataW H} {x:D} (h:rd σ d=x) (ha:σ.agg=false) (hx:x≠ .any):cl σ (.inl d)=[x]:=by
 unfold rd elD at h
 rw [ha] at h
 split at h
 ·rename_i h1;cases h1
 ·split at h
  ·rename_i c hc;rw [hc,h]
  ·exact (hx h.symm).elim
theorem zyC {H:Type} {ds:List (DataW H)} (h:qf [] ds):ds=[]:=by
 cases ds with
 | nil=>rfl
 | cons d ds=>simp [qf] at h
theorem zeD {H:Type} {σ:Sh} {σs:List Sh} {ds:List (DataW H)} (h:qf (σ::σs) ds):∃ d ds',ds=d::ds'∧fit σ (.inl d)∧qf σs ds':=by
 cases ds with
 | nil=>simp [qf] at h
 | cons d ds=>exact ⟨d,ds,rfl,h.1,h.2⟩
theorem zyD {H:Type} {a:Sh} {ds:List (DataW H)} (h:qf [a] ds):∃ d1,ds=[d1]∧fit a (.inl d1):=by
 obtain ⟨d1,r,rfl,h1,h⟩:=zeD h
 obtain rfl:=zyC h
 exact ⟨d1,rfl,h1⟩
theorem zyE {H:Type} {a b:Sh} {ds:List (DataW H)} (h:qf [a,b] ds):∃ d1 d2,ds=[d1,d2]∧fit a (.inl d1)∧fit b (.inl d2):=by
 obtain ⟨d1,r,rfl,h1,h⟩:=zeD h
 obtain ⟨d2,rfl,h2⟩:=zyD h
 exact ⟨d1,d2,rfl,h1,h2⟩
theorem zrQ {H:Type} {a b c:Sh} {ds:List (DataW H)} (h:qf [a,b,c] ds):∃ d1 d2 d3,ds=[d1,d2,d3]∧fit a (.inl d1)∧fit b (.inl d2)∧fit c (.inl d3):=by
 obtain ⟨d1,r,rfl,h1,h⟩:=zeD h
 obtain ⟨d2,d3,rfl,h2,h3⟩:=zyE h
 exact ⟨d1,d2,d3,rfl,h1,h2,h3⟩
end Go.Plat
