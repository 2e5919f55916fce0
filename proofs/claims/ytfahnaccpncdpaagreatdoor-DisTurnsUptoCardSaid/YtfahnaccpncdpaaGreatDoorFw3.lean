/-
  A part of the proof: what the given program's functions answer, each once; conditions that are enough for it.
-/
import Derived.Test.YtfahnaccpncdpaaGreatDoorFw2
import GoSem.ClaimChange
import Derived.ChangeArms
import Derived.ChangeStays
import Derived.ChangeShapes
import Derived.OpenShut
import Derived.RowKit
import Derived.ChangeMaps5
import Derived.JoinedCond
namespace Go.Plat
open Go
set_option linter.unusedVariables false
set_option linter.unusedSimpArgs false
def below (n:Nat) (k:Nat):Option Nat:=
 match Nat.blt k n with
 | true=>some k
 | false=>none
def RenS (m:Nat→Option Nat) (ds:List D) (K:List D→Prop):Prop:=∃ ds',RenLOf m ds ds'∧(∀ (i:Nat) d d',ds[i]?=some d→ds'[i]?=some d'→d.cells.length=d'.cells.length∧RenLOf m d.cells d'.cells)∧K ds'
def RenM (m:Nat→Option Nat) (es:List (D×D)) (K:Prop):Prop:=(∀ p∈es,RenOf m p.2 p.2)∧K
def renObK (m:Nat→Option Nat) (o:Ob) (K:Ob→Prop):Prop:=
 match o with
 | .cells ds=>renLK m ds fun ds=>K (.cells ds)
 | .arr e ds=>VS (RenS m ds fun ds=>K (.arr e ds))
 | .spare n=>K (.spare n)
 | .map es=>VS (RenM m es (K (.map es)))
 | .dead=>K .dead
def renObsK (m:Nat→Option Nat) (n:Nat) (L:List Ob):(List Ob→Prop)→Prop:=
 @List.rec Ob (fun _=>Nat→(List Ob→Prop)→Prop) (fun n K=>match n with | 0=>K [] | _+1=>False)
  (fun o _ ih n K=>match n with | 0=>K [] | n+1=>renObK m o fun o=>ih n fun r=>K (o::r)) L n
def ObRen (m:Nat→Option Nat) (o o':Ob):Prop:=
 match o with
 | .cells ds=>∃ ds',o'= .cells ds'∧RenLOf m ds ds'
 | .arr e ds=>∃ ds',o'= .arr e ds'∧ds.length=ds'.length∧∀ (i:Nat) d d',ds[i]?=some d→ds'[i]?=some d'→d.cells.length=d'.cells.length∧RenLOf m d.cells d'.cells
 | .spare n=>o'= .spare n
 | .map es=>o'= .map es∧∀ p∈es,RenOf m p.2 p.2
 | .dead=>o'= .dead
theorem renObK_eq {m:Nat→Option Nat} {o:Ob} {K:Ob→Prop} (h:renObK m o K):∃ o',ObRen m o o'∧K o':=by
 cases o with
 | cells ds=>
  obtain ⟨ds',h1,h2⟩:=renLK_eq h
  exact ⟨_,⟨ds',rfl,h1⟩,h2⟩
 | arr e ds=>
  obtain ⟨ds',h1,h2,h3⟩:=VS.out h
  exact ⟨_,⟨ds',rfl,h1.1,h2⟩,h3⟩
 | spare n=>exact ⟨_,rfl,h⟩
 | map es=>exact ⟨_,⟨rfl,(VS.out h).1⟩,(VS.out h).2⟩
 | dead=>exact ⟨_,rfl,h⟩
theorem renObsK_eq {m:Nat→Option Nat}:∀ {n:Nat} {L:List Ob} {K:List Ob→Prop},renObsK m n L K →
  ∃ L',K L'∧L'.length=n∧n≤L.length∧∀ (k:Nat) o o',L[k]?=some o→L'[k]?=some o'→ObRen m o o'
 | 0,[],K,h=>⟨[],h,rfl,by simp,by simp⟩
 | 0,_::_,K,h=>⟨[],h,rfl,by simp,by simp⟩
 | n+1,[],K,h=>False.elim h
 | n+1,o::L,K,h=>by
  change renObK m o (fun o=>renObsK m n L fun r=>K (o::r)) at h
  obtain ⟨o',h1,h2⟩:=renObK_eq h
  obtain ⟨L',h3,h4,h5,h6⟩:=renObsK_eq h2
  refine ⟨o'::L',h3,by simp [h4],by simp;omega,fun k a b ha hb=>?_⟩
  cases k with
  | zero=>simp at ha hb;subst ha;subst hb;exact h1
  | succ k=>exact h6 k a b (by simpa using ha) (by simpa using hb)
theorem ObFits.ren {m:Nat→Option Nat} {w:World} {F F1:Nat→Nat→Prop} {ρ:Pl} {L:List Ob} {ρ1:Pl} {L1:List Ob} {l:Loc} {o o':Ob} (hm:RenOk m ρ L ρ1 L1)
  (hF:∀ b off,F1 b off→F b off) (hr:ObRen m o o') (h:ObFits w F ρ L l o):ObFits w F1 ρ1 L1 l o':=by
 cases o with
 | cells ds=>
  obtain ⟨ds',rfl,h1,h2⟩:=hr
  refine ⟨h.1.trans h1,fun j d hj=>?_⟩
  have hlt:j < ds.length:=by rw [h1];exact (List.getElem?_eq_some_iff.1 hj).1
  obtain ⟨⟨v,h3,h4⟩,h5⟩:=h.2 j _ (List.getElem?_eq_getElem hlt)
  exact ⟨⟨v,h3,h2 j _ d (List.getElem?_eq_getElem hlt) hj _ _ _ _ _ _ _ _ hm hF h4⟩,h5⟩
 | arr e ds=>
  obtain ⟨ds',rfl,h1,h2⟩:=hr
  obtain ⟨h3,h4,h5,h6⟩:=h
  refine ⟨by rw [← h1];exact h3,fun i d hi=>?_,fun i d j c hi hj=>?_,h6⟩
  ·have hlt:i < ds.length:=by rw [h1];exact (List.getElem?_eq_some_iff.1 hi).1
   rw [← (h2 i _ d (List.getElem?_eq_getElem hlt) hi).1]
   exact h4 i _ (List.getElem?_eq_getElem hlt)
  ·have hlt:i < ds.length:=by rw [h1];exact (List.getElem?_eq_some_iff.1 hi).1
   obtain ⟨h7,h8,h9⟩:=h2 i _ d (List.getElem?_eq_getElem hlt) hi
   have hjl:j < (ds[i]).cells.length:=by rw [h7];exact (List.getElem?_eq_some_iff.1 hj).1
   obtain ⟨v,h10,h11⟩:=h5 i _ j _ (List.getElem?_eq_getElem hlt) (List.getElem?_eq_getElem hjl)
   exact ⟨v,h10,h9 j _ c (List.getElem?_eq_getElem hjl) hj _ _ _ _ _ _ _ _ hm hF h11⟩
 | spare n=>
  have:o'= .spare n:=hr
  subst this
  exact h
 | map es=>
  obtain ⟨rfl,h1⟩:=hr
  obtain ⟨ents,clock,h2,h3,h4⟩:=h
  exact ⟨ents,clock,h2,h3,fun i p q hp hq=>⟨(h4 i p q hp hq).1.less hF,h1 p (List.mem_of_getElem? hp) _ _ _ _ _ _ _ _ hm hF (h4 i p q hp hq).2⟩⟩
 | dead=>
  have:o'= .dead:=hr
  subst this
  trivial
theorem ObRen.owns {m:Nat→Option Nat} {o o':Ob} (h:ObRen m o o') (l:Loc) (b off:Nat):o'.owns l b off↔o.owns l b off:=by
 cases o with
 | cells ds=>obtain ⟨ds',rfl,_⟩:=h;exact Iff.rfl
 | arr e ds=>obtain ⟨ds',rfl,_⟩:=h;exact Iff.rfl
 | spare n=>have:o'= .spare n:=h;subst this;exact Iff.rfl
 | map es=>obtain ⟨rfl,_⟩:=h;exact Iff.rfl
 | dead=>have:o'= .dead:=h;subst this;exact Iff.rfl
theorem below_ok {ρ:Pl} {L L':List Ob} (hl:L'.length≤L.length) (h:∀ (k:Nat) o o',L[k]?=some o→L'[k]?=some o'→ObRen (below L'.length) o o'):RenOk (below L'.length) ρ L ρ L':=by
 have hb:∀ k k',below L'.length k=some k'→k'=k∧k < L'.length:=by
  intro k k' h
  unfold below at h
  split at h
  ·rename_i hlt;cases h;exact ⟨rfl,by simpa [Nat.blt_eq] using hlt⟩
  ·cases h
 refine ⟨fun k k' hk _=>by obtain ⟨rfl,h⟩:=hb _ _ hk;exact h,fun k k' hk _=>by obtain ⟨rfl,h⟩:=hb _ _ hk;rfl,
  fun k k' ds hk hlt hL=>?_,fun k k' ds hk hlt hL=>?_,fun k k' ds hk hlt hL=>?_,fun k k' e ds hk hlt hL=>?_⟩<;>obtain ⟨rfl,hk⟩:=hb _ _ hk<;>
  have hr:=h _ _ _ (List.getElem?_eq_getElem hlt) hL<;>have hg:=List.getElem?_eq_getElem hlt<;>revert hr hg<;>generalize L[k']=o<;>intro hr hg<;>rw [hg]
 all_goals cases o<;>simp only [ObRen] at hr
 all_goals first
  | (cases hr;done)
  | (obtain ⟨_,h1,_⟩:=hr;cases h1;done)
  | (obtain ⟨h1,_⟩:=hr;cases h1;done)
  | skip
 all_goals first
  | exact ⟨_,rfl⟩
  | (cases hr;rfl)
  | (obtain ⟨_,h1,h2,_⟩:=hr;cases h1;exact ⟨_,rfl,h2⟩)
theorem own_prefix {ρ:Pl} {L L':List Ob} {m:Nat→Option Nat} (hl:L'.length≤L.length) (h:∀ (k:Nat) o o',L[k]?=some o→L'[k]?=some o'→ObRen m o o') {b off:Nat} (ho:own ρ L' b off):own ρ L b off:=by
 obtain ⟨k,o',h1,h2⟩:=ho
 have hlt:k < L.length:=Nat.lt_of_lt_of_le (List.getElem?_eq_some_iff.1 h1).1 hl
 exact ⟨k,L[k],List.getElem?_eq_getElem hlt,((h k _ o' (List.getElem?_eq_getElem hlt) h1).owns _ _ _).1 h2⟩
theorem foot_prefix {ρ:Pl} {L L':List Ob} {m:Nat→Option Nat} (hl:L'.length≤L.length) (h:∀ (k:Nat) o o',L[k]?=some o→L'[k]?=some o'→ObRen m o o') {b off:Nat} (ho:foot ρ L' b off):foot ρ L b off:=
 ho.imp (own_prefix hl h) id
theorem Fits.first {w:World} {ρ:Pl} {L L':List Ob} (hf:Fits w ρ L) (hl:L'.length≤L.length) (h:∀ (k:Nat) o o',L[k]?=some o→L'[k]?=some o'→ObRen (below L'.length) o o'):Fits w ρ L' where
 glob:=hf.glob.less fun b off=>foot_prefix hl h
 hid:=hf.hid
 sep b off ho:=hf.sep b off (own_prefix hl h ho)
 obj k o' hk:=by
  have hlt:k < L.length:=Nat.lt_of_lt_of_le (List.getElem?_eq_some_iff.1 hk).1 hl
  exact (hf.obj k _ (List.getElem?_eq_getElem hlt)).ren (below_ok hl h) (fun b off=>foot_prefix hl h) (h k _ o' (List.getElem?_eq_getElem hlt) hk)
 disj k k' o o' b off h1 h2 h3 h4:=by
  have hlt:k < L.length:=Nat.lt_of_lt_of_le (List.getElem?_eq_some_iff.1 h1).1 hl
  have hlt':k' < L.length:=Nat.lt_of_lt_of_le (List.getElem?_eq_some_iff.1 h2).1 hl
  exact hf.disj k k' _ _ b off (List.getElem?_eq_getElem hlt) (List.getElem?_eq_getElem hlt') (((h k _ o (List.getElem?_eq_getElem hlt) h1).owns _ _ _).1 h3) (((h k' _ o' (List.getElem?_eq_getElem hlt') h2).owns _ _ _).1 h4)
theorem Compat.first {ρ0 ρ:Pl} {L0 L L':List Ob} (hc:Compat ρ0 L0 ρ L) (h0:L0.length≤L'.length) (hl:L'.length≤L.length) (h:∀ (k:Nat) o o',L[k]?=some o→L'[k]?=some o'→ObRen (below L'.length) o o'):Compat ρ0 L0 ρ L':=by
 have back:∀ (k:Nat) o',L'[k]?=some o'→∃ o,L[k]?=some o∧ObRen (below L'.length) o o':=fun k o' hk=>by
  have hlt:k < L.length:=Nat.lt_of_lt_of_le (List.getElem?_eq_some_iff.1 hk).1 hl
  exact ⟨_,List.getElem?_eq_getElem hlt,h k _ o' (List.getElem?_eq_getElem hlt) hk⟩
 refine ⟨hc.hid,h0,fun k ds' hk hL=>?_,fun k ds' hk hL=>?_,fun k n hk hL=>?_,fun k e ds' hk hL=>?_⟩
 ·obtain ⟨o,h1,h2⟩:=back k _ hL
  cases o<;>simp only [ObRen] at h2
  case cells ds=>exact hc.cells k ds hk h1
  case arr=>obtain ⟨_,h3,_⟩:=h2;cases h3
  case map=>obtain ⟨h3,_⟩:=h2;cases h3
  all_goals cases h2
 ·obtain ⟨o,h1,h2⟩:=back k _ hL
  cases o<;>simp only [ObRen] at h2
  case cells ds=>obtain ⟨_,h3,_⟩:=h2;cases h3
  case arr=>obtain ⟨_,h3,_⟩:=h2;cases h3
  case map es=>exact hc.map k es hk h1
  all_goals cases h2
 ·obtain ⟨o,h1,h2⟩:=back k _ hL
  cases o<;>simp only [ObRen] at h2
  case cells ds=>obtain ⟨_,h3,_⟩:=h2;cases h3
  case arr=>obtain ⟨_,h3,_⟩:=h2;cases h3
  case map=>obtain ⟨h3,_⟩:=h2;cases h3
  case spare n'=>cases h2;exact hc.spare k n hk h1
  all_goals cases h2
 ·obtain ⟨o,h1,h2⟩:=back k _ hL
  cases o<;>simp only [ObRen] at h2
  case cells ds=>obtain ⟨_,h3,_⟩:=h2;cases h3
  case arr e1 ds=>
   obtain ⟨_,h3,h4,_⟩:=h2
   cases h3
   obtain ⟨ds0,h5,h6,h7⟩:=hc.arr k e ds hk h1
   exact ⟨ds0,h5,by omega,fun hh=>h7 (by omega)⟩
  case map=>obtain ⟨h3,_⟩:=h2;cases h3
  all_goals cases h2
def weakS (m:Nat→Option Nat) (σ:List (Nat×D)):List (Nat×D)→Prop:=
 @List.rec (Nat×D) (fun _=>Prop) True (fun p _ ih=>match p with | (t,d)=>renK m (look σ t) (fun d'=>VS (d'=d))∧ih)
def WeakC (σ:List (Nat×D)) (L:List Ob) (σ':List (Nat×D)) (L':List Ob):Prop:=
 renObsK (below L'.length) L'.length L (fun L''=>VS (L''=L'))∧weakS (below L'.length) σ σ'
def Weak (n0:Nat) (σ:List (Nat×D)) (L:List Ob) (σ':List (Nat×D)) (L':List Ob):Prop:=
 ∃ φ,Shift n0 φ L L'∧∀ t,look σ' t= .any∨φ (look σ t) (look σ' t)
theorem shift_below {n0 n:Nat} {L:List Ob} {K:List Ob→Prop} (h:renObsK (below n) n L K) (hn:n0≤n):∃ L',K L'∧L'.length=n∧Shift n0 (RenOf (below n)) L L':=by
 obtain ⟨L',h1,h2,h3,h4⟩:=renObsK_eq h
 subst h2
 exact ⟨L',h1,rfl,fun w ρ hf=>⟨ρ,hf.first h3 h4,fun d d' v hd hr=>hd _ _ _ _ _ _ _ _ (below_ok h3 h4) (fun b off=>foot_prefix h3 h4) hr,fun b off ho=>own_prefix h3 h4 ho,
  fun ρ0 L0 e hc=>hc.first (by omega) h3 h4⟩⟩
theorem weakS_look {m:Nat→Option Nat} {σ:List (Nat×D)}:∀ {σ':List (Nat×D)},weakS m σ σ'→∀ t,look σ' t= .any∨RenOf m (look σ t) (look σ' t)
 | [],_,t=>.inl rfl
 | (s,d)::r,h,t=>by
  simp only [look]
  split
  ·rename_i hb
   have:=Nat.eq_of_beq_eq_true hb
   subst this
   obtain ⟨d',h1,h2⟩:=renK_eq h.1
   have h2:=h2.out
   subst h2
   exact .inr h1
  ·exact weakS_look h.2 t
theorem WeakC.weak {n0:Nat} {σ σ':List (Nat×D)} {L L':List Ob} (h:WeakC σ L σ' L') (hn:n0≤L'.length):Weak n0 σ L σ' L':=by
 obtain ⟨L'',h1,_,h2⟩:=shift_below h.1 hn
 have:=h1.out
 subst this
 exact ⟨_,h2,weakS_look h.2⟩
theorem Weak.rel {n:Nat} {E:Entry} {σ σ':List (Nat×D)} {L L':List Ob} {a:Act} {w:World} (h:Weak E.L.length σ L σ' L') (hr:ARel n E σ L a w):ARel n E σ' L' a w:=by
 obtain ⟨ρ,h1,h2,h3,h4,h5,h6,h7⟩:=hr
 obtain ⟨φ,hS,hφ⟩:=h
 obtain ⟨ρ',g1,g2,g3,g4⟩:=hS w ρ h3
 refine ⟨ρ',h1,h2,g1,fun t=>?_,h5,fun b off ho=>h6 b off (g3 b off ho),g4 _ _ rfl h7⟩
 rcases hφ t with h | h
 ·rw [h];exact .pure _ _ (.any _)
 ·exact g2 _ _ _ h (h4 t)
def LoopEnd {α:Type} (n0:Nat) (I:α→Prop) (S:α→List (Nat×D)) (O:α→List Ob) (μ:α→Nat) (p:α) (σ:List (Nat×D)) (L:List Ob):Prop:=
 ∃ p',I p'∧μ p' < μ p∧(WeakC σ L (S p') (O p')∨Weak n0 σ L (S p') (O p'))
theorem awp_loopW {P:Program} {n:Nat} {E:Entry} {c:Code} {Q:Ex→List (Nat×D)→List Ob→Prop} {σ:List (Nat×D)} {L:List Ob} {α:Type}
  (I:α→Prop) (S:α→List (Nat×D)) (O:α→List Ob) (μ:α→Nat) (hO:∀ p,E.L.length≤(O p).length) (p0:α) (h0:I p0) (hw:Weak E.L.length σ L (S p0) (O p0))
  (round:∀ p,I p→AWP P n E c (fun e σ L=>match e with | .normal=>VS (LoopEnd E.L.length I S O μ p σ L) | e=>Q e σ L) (S p) (O p)) :
  AWP P n E (.loop c) Q σ L:=by
 intro a w hr
 have hr0:=hw.rel hr
 have key:∀ k a w,(∃ p,I p∧ARel n E (S p) (O p) a w∧μ p=k)→∀ (b:Frame) (kk:List Item) (cs:List Frame),
   ∃ e a' w',AQ n E Q e a' w'∧Arrives P (lone (b.at a (.code c:: .inLoop c::kk)) cs w) b kk cs e a' w':=by
  intro k
  induction k using Nat.strongRecOn with
  | _ k ih=>
   rintro a w ⟨p,hI,hrel,rfl⟩ b kk cs
   obtain ⟨e,a₁,w₁,hq,harr⟩:=round p hI a w hrel b (.inLoop c::kk) cs
   cases e with
   | normal=>
    obtain ⟨σ₁,L₁,hend,hrel₁⟩:=hq
    obtain ⟨p',hI',hlt,hwk⟩:=hend.out
    have hwk:Weak E.L.length σ₁ L₁ (S p') (O p'):=hwk.elim (fun h=>h.weak (hO p')) id
    obtain ⟨e₂,a₂,w₂,hq₂,harr₂⟩:=ih (μ p') hlt a₁ w₁ ⟨p',hI',hwk.rel hrel₁,rfl⟩ b kk cs
    exact ⟨e₂,a₂,w₂,hq₂,.of_steps (Steps.trans harr (.one step_inLoop)) harr₂⟩
   | exit id=>exact ⟨.exit id,a₁,w₁,hq,.pass (x:=.inLoop c) rfl (fun _ _=>.inl (by simp)) harr⟩
   | ret=>exact ⟨.ret,a₁,w₁,hq,.pass (x:=.inLoop c) rfl (fun _ _=>.inl (by simp)) harr⟩
   | goto l=>exact hq.elim
   | panic ch=>exact hq.elim
   | outgrown=>exact hq.elim
 intro b kk cs
 obtain ⟨e,a',w',hq,harr⟩:=key _ a w ⟨p0,h0,hr0,rfl⟩ b kk cs
 exact ⟨e,a',w',hq,.of_steps (.one step_loop) harr⟩
theorem awp_loop {P:Program} {n:Nat} {E:Entry} {c:Code} {Q:Ex→List (Nat×D)→List Ob→Prop} {σ:List (Nat×D)} {L:List Ob} {α:Type}
  (I:α→Prop) (S:α→List (Nat×D)) (O:α→List Ob) (μ:α→Nat) (hO:∀ p,E.L.length≤(O p).length) (p0:α) (h0:I p0) (hw:WeakC σ L (S p0) (O p0))
  (round:∀ p,I p→AWP P n E c (fun e σ L=>match e with | .normal=>VS (LoopEnd E.L.length I S O μ p σ L) | e=>Q e σ L) (S p) (O p)) :
  AWP P n E (.loop c) Q σ L:=awp_loopW I S O μ hO p0 h0 (hw.weak (hO p0)) round
def cellRetK (T:Tab) (t:Nat) (x:D) (L:List Ob) (K:D→Prop):Prop:=
 match ty T t with
 | some i=>match x with
  | .loc k off=>nthK k L fun o=>match o with
   | .cells ds=>loadCellsK i off ds K
   | _=>False
  | _=>False
 | none=>False
def retK (T:Tab) (σ:List (Nat×D)) (L:List Ob):List ResultVar→(List D→Prop)→Prop
 | [],K=>K []
 | .tmp t::rs,K=>forceD (look σ t) fun d=>retK T σ L rs fun ds=>K (d::ds)
 | .cell a t::rs,K=>cellRetK T t (look σ a) L fun d=>retK T σ L rs fun ds=>K (d::ds)
def oneOf:List D→D
 | [d]=>d
 | ds=>.tup ds
def EndC (r d:D) (L L':List Ob):Prop:=renK (below L'.length) r fun r'=>renObsK (below L'.length) L'.length L fun L''=>VS (r'=d)∧VS (L''=L')
def EndS (n0:Nat) (r d:D) (L L':List Ob):Prop:=EndC r d L L'∨∃ φ,Shift n0 φ L L'∧φ r d
def FinQ (T:Tab) (rs:List ResultVar) (n0:Nat) (d:D) (L':List Ob):Ex→List (Nat×D)→List Ob→Prop
 | .exit _,_,_=>False
 | _,σ,L=>retK T σ L rs fun ds=>VS (EndS n0 (oneOf ds) d L L')
theorem cellRet_sound {P:Program} {T:Tab} (hT:TabOk P T) {t:Nat} {x:D} {L:List Ob} {K:D→Prop} (h:cellRetK T t x L K) :
  ∃ d,K d∧∀ (w:World) (ρ:Pl) (v:Value),Fits w ρ L→Rep w (foot ρ L) ρ L x v→∃ ad u,v= .pointer (some ad)∧(loadVar t ad).run P w= .ok u w∧Rep w (foot ρ L) ρ L d u:=by
 unfold cellRetK at h
 split at h<;>try exact h.elim
 rename_i i hi
 have hi:=hT _ _ hi
 split at h<;>try exact h.elim
 rename_i k off
 obtain ⟨ob,h1,h2⟩:=nthK_eq h
 split at h2<;>try exact h2.elim
 rename_i ds
 obtain ⟨d,h3,h4⟩:=loadCells_rep hi h2
 refine ⟨d,h3,fun w ρ v hf hv=>?_⟩
 obtain ⟨ad,h5,h6,h7⟩:=hv.loc_inv
 obtain ⟨h8,h9⟩:=hf.obj k _ h1
 obtain ⟨u,h10,h11⟩:=h4 w (foot ρ L) ρ L (ρ k).block (ρ k).off fun j c hj=>(h9 j c hj).1
 exact ⟨ad,u,h5,by rw [h7 _ h1];exact h10,h11⟩
def retVar (tmps:Array Value):ResultVar→Sem Value
 | .tmp t=>pure (tmps.getD t undef)
 | .cell a t=>do loadVar t (← asAddr (tmps.getD a undef))
theorem results_eq (fn:Func) (tmps:Array Value):results fn tmps=(do
  let vs ← fn.results.mapM (retVar tmps)
  pure (if h:vs.size=1 then vs[0] else .tuple vs)):=by
 unfold results
 congr 1
theorem retK_sound {P:Program} {T:Tab} (hT:TabOk P T) {σ:List (Nat×D)} {L:List Ob}:∀ {rs:List ResultVar} {K:List D→Prop},retK T σ L rs K →
  ∃ ds,K ds∧∀ (w:World) (ρ:Pl) (a:Act),Fits w ρ L→Env w ρ L σ a→∃ vs:List Value,
   (rs.mapM (retVar a.tmps)).run P w= .ok vs w∧RepL w (foot ρ L) ρ L ds vs
 | [],K,h=>⟨[],by simpa [retK] using h,fun w ρ a _ _=>⟨[],rfl,rfl,by simp⟩⟩
 | .tmp t::rs,K,h=>by
  simp only [retK] at h
  obtain ⟨ds,h1,h2⟩:=retK_sound hT (forceD_eq h)
  refine ⟨_,h1,fun w ρ a hf he=>?_⟩
  obtain ⟨vs,h3,h4,h5⟩:=h2 w ρ a hf he
  refine ⟨a.tmps.getD t undef::vs,?_,by simp [h4],fun i d v hd hv=>?_⟩
  ·simp only [List.mapM_cons,Sem.run_bind,Sem.run_pure,Result.andThen,retVar]
   rw [h3]
  ·cases i with
   | zero=>simp at hd hv;subst hd;subst hv;simpa using he t
   | succ i=>exact h5 i d v (by simpa using hd) (by simpa using hv)
 | .cell ad t::rs,K,h=>by
  simp only [retK] at h
  obtain ⟨d,hK,hrd⟩:=cellRet_sound hT h
  obtain ⟨ds,h1,h2⟩:=retK_sound hT hK
  refine ⟨_,h1,fun w ρ a hf he=>?_⟩
  obtain ⟨vs,h3,h4,h5⟩:=h2 w ρ a hf he
  obtain ⟨aa,u,h6,h7,h8⟩:=hrd w ρ _ hf (he ad)
  refine ⟨u::vs,?_,by simp [h4],fun i d v hd hv=>?_⟩
  ·have:(asAddr (a.tmps.getD ad undef)).run P w= .ok aa w:=by rw [h6];rfl
   simp only [List.mapM_cons,retVar,Sem.run_bind,this,h7,Result.andThen,h3,Sem.run_pure]
  ·cases i with
   | zero=>simp at hd hv;subst hd;subst hv;exact h8
   | succ i=>exact h5 i d v (by simpa using hd) (by simpa using hv)
theorem one_rep {w:World} {F:Nat→Nat→Prop} {ρ:Pl} {L:List Ob}:∀ {ds:List D} {vs:List Value},RepL w F ρ L ds vs →
  Rep w F ρ L (oneOf ds) (if h:vs.toArray.size=1 then vs.toArray[0] else .tuple vs.toArray)
 | [],[],_=>.tup [] [] rfl (by simp)
 | [d0],[v0],h=>h.2 0 d0 v0 rfl rfl
 | d0::d1::ds,v0::v1::vs,h=>by
  rw [dif_neg (by simp)]
  exact .tup _ _ h.1 h.2
 | [],v::vs,h=>by have:=h.1;simp at this
 | d::ds,[],h=>by have:=h.1;simp at this
 | [d0],v0::v1::vs,h=>by have:=h.1;simp at this
 | d0::d1::ds,[v0],h=>by have:=h.1;simp at this
def argS:Nat→List D→List (Nat×D)
 | _,[]=>[]
 | k,d::ds=>(k,d)::argS (k+1) ds
theorem argS_look:∀ (ds:List D) (k t:Nat),look (argS k ds) t=if k≤t then (ds[t - k]?).getD .any else .any
 | [],k,t=>by simp [argS,look]
 | d::ds,k,t=>by
  simp only [argS,look]
  split
  ·rename_i h
   have:=Nat.eq_of_beq_eq_true h
   subst this
   simp
  ·rename_i h
   have hne:k≠t:=fun e=>by subst e;simp at h
   rw [argS_look ds (k+1) t]
   by_cases hk:k≤t
   ·rw [if_pos hk,if_pos (by omega),show t - k=t - (k+1)+1 by omega,List.getElem?_cons_succ]
   ·rw [if_neg hk,if_neg (by omega)]
theorem meets_intro {P : Program} {T : Tab} (hT : TabOk P T) {f : FuncId} {fn : Func} {c : Code} {spec : Spec} (hf : P.funcs[f]? = some fn) (hb : fn.body = some c) (hn : (fn.name == "runtime.NumGoroutine") = false)
  (h:∀ as L d L',spec as L d L'→L.length≤L'.length∧as.length≤fn.ntmps∧∀ E:Entry,E.L=L→AWP P fn.ntmps E c (FinQ T fn.results.toList L.length d L') (argS 0 as) L):Meets P f spec:=by
 refine ⟨⟨fn,hf,hn,by rw [hb];rfl⟩,fun as L d L' hs w ρ vs hfit hrep=>?_⟩
 obtain ⟨hlen,has,hc⟩:=h as L d L' hs
 refine calls_of_wp hf hb ?_
 have hrel:ARel fn.ntmps ⟨w,ρ,L⟩ (argS 0 as) L { tmps:=vs.toArray++Array.replicate (fn.ntmps - vs.toArray.size) undef,defers:=[] } w:=by
  refine ⟨ρ,by simp [hrep.1];omega,rfl,hfit,fun t=>?_,.refl _ _,.refl _ _,.refl _ _⟩
  rw [argS_look]
  simp only [Nat.zero_le,if_true,Nat.sub_zero]
  rcases Nat.lt_or_ge t as.length with hlt | hge
  ·have hlt':t < vs.length:=by rw [hrep.1];exact hlt
   rw [List.getElem?_eq_getElem hlt,Option.getD_some,Array.getD_eq_getD_getElem?,Array.getElem?_append_left (by simpa using hlt')]
   simp only [List.getElem?_toArray,List.getElem?_eq_getElem hlt',Option.getD_some]
   exact hrep.2 t _ _ (List.getElem?_eq_getElem hlt) (List.getElem?_eq_getElem hlt')
  ·rw [List.getElem?_eq_none hge]
   exact .pure _ _ (.any _)
 refine wp_mono (hc ⟨w,ρ,L⟩ rfl _ _ hrel) fun e a w' hq=>?_
 have fin:∀ σ' L'',(retK T σ' L'' fn.results.toList fun ds=>VS (EndS L.length (oneOf ds) d L'' L'))→ARel fn.ntmps ⟨w,ρ,L⟩ σ' L'' a w' →
   a.defers=[]∧∃ v,(results fn a.tmps).run P w'= .ok v w'∧(∃ u ρ',Ending.returned v= .returned u∧Post w ρ L d L' u w' ρ'):=by
  rintro σ' L'' hret ⟨ρ',h1,h2,h3,h4,h5,h6,h7⟩
  obtain ⟨ds,hend,hds⟩:=retK_sound hT hret
  obtain ⟨vs',h8,h9,h10⟩:=hds w' ρ' a h3 h4
  have hend:∃ φ,Shift L.length φ L'' L'∧φ (oneOf ds) d:=by
   rcases hend.out with h | h
   ·obtain ⟨r',hr1,hr2⟩:=renK_eq h
    obtain ⟨L3,⟨hr3,hr4⟩,_,hS⟩:=shift_below hr2 hlen
    have hr3:=hr3.out
    have hr4:=hr4.out
    subst hr3
    subst hr4
    exact ⟨_,hS,hr1⟩
   ·exact h
  obtain ⟨φ,hS,hφ⟩:=hend
  obtain ⟨ρ2,g1,g2,g3,g4⟩:=hS w' ρ' h3
  let v:Value:=if h:vs'.toArray.size=1 then vs'.toArray[0] else .tuple vs'.toArray
  have hrun:(results fn a.tmps).run P w'= .ok v w':=by
   rw [results_eq,Sem.run_bind,Array.mapM_eq_mapM_toList]
   simp only [Sem.run_map,h8,Result.andThen,Sem.run_pure]
   rfl
  have hrv:Rep w' (foot ρ' L'') ρ' L'' (oneOf ds) v:=one_rep ⟨h9,h10⟩
  exact ⟨h2,v,hrun,v,ρ2,rfl,g1,g2 _ _ _ hφ hrv,h5,fun b off ho=>h6 b off (g3 b off ho),g4 _ _ rfl h7⟩
 cases e with
 | normal=>obtain ⟨σ',L'',hq,hr⟩:=hq;exact fin σ' L'' hq hr
 | ret=>obtain ⟨σ',L'',hq,hr⟩:=hq;exact fin σ' L'' hq hr
 | exit id=>obtain ⟨σ',L'',hq,hr⟩:=hq;exact hq.elim
 | goto l=>exact hq.elim
 | panic ch=>exact hq.elim
 | outgrown=>exact hq.elim
theorem wrap_i64 {n:Int} (h1: -9223372036854775808≤n) (h2:n≤9223372036854775807):IntKind.i64.wrap n=n:=by
 simp only [IntKind.wrap,IntKind.bits,IntKind.signed];simp;omega
theorem wrap_u64 {n:Int} (h1:0≤n) (h2:n≤18446744073709551615):IntKind.u64.wrap n=n:=by
 simp only [IntKind.wrap,IntKind.bits,IntKind.signed];simp;omega
theorem wrap_u8_mod (n:Int):IntKind.u8.wrap n=n % 256:=by
 simp only [IntKind.wrap,IntKind.bits,IntKind.signed];simp
section
variable {K : D → Prop} {n x y : Int}
theorem ar_i64 (h1: -9223372036854775808≤n) (h2:n≤9223372036854775807) (h:K (.int .i64 n)):Arith .i64 n K:=by unfold Arith;rwa [wrap_i64 h1 h2]
theorem ar_u64 (h1:0≤n) (h2:n≤18446744073709551615) (h:K (.int .u64 n)):Arith .u64 n K:=by unfold Arith;rwa [wrap_u64 h1 h2]
theorem ar_byte {c:UInt8} (h:K (.int .i64 (c.toNat:Int))):Arith .i64 (c.toNat:Int) K:=ar_i64 (by omega) (by have:=c.toNat_lt;omega) h
theorem ar_u8_mod (h:K (.int .u8 (n % 256))):Arith .u8 n K:=by unfold Arith;rwa [wrap_u8_mod]
theorem quo_pos (h0:0 < y) (h1:0≤x) (h2:x≤9223372036854775807) (h:K (.int .i64 (x / y))):QuoS .i64 x y K:=by
 refine ⟨by omega,?_⟩
 have e:x.tdiv y=x / y:=Int.tdiv_eq_ediv_of_nonneg h1
 rw [e,wrap_i64]
 ·exact h
 ·have:=Int.ediv_nonneg h1 (Int.le_of_lt h0);omega
 ·have:=Int.ediv_le_self y h1;omega
theorem rem_pos (h0:0 < y) (h1:0≤x) (h:K (.int .i64 (x % y))):RemS .i64 x y K:=by
 refine ⟨by omega,?_⟩
 rw [Int.tmod_eq_emod_of_nonneg h1]
 exact h
theorem shl_lit {s:Nat} {m:Int} (hy:y=s) (hs:s≤64) (hm:(2:Int) ^ s=m) (h1: -9223372036854775808≤x * m) (h2:x * m≤9223372036854775807) (h:K (.int .i64 (x * m))):ShlS .i64 x y K:=by
 subst hy
 refine ⟨by omega,?_⟩
 have:min ((s:Int).toNat) IntKind.i64.bits=s:=by simp only [IntKind.bits,Int.toNat_natCast];omega
 rw [this,hm,wrap_i64 h1 h2]
 exact h
theorem shr_lit {k:IntKind} {s:Nat} {m:Int} (hy:y=s) (hs:s≤k.bits) (hm:(2:Int) ^ s=m) (h:K (.int k (x / m))):ShrS k x y K:=by
 subst hy
 refine ⟨by omega,?_⟩
 have:min ((s:Int).toNat) k.bits=s:=by simp only [Int.toNat_natCast];omega
 have hp:(0:Int)≤2 ^ s:=Int.le_of_lt (Int.pow_pos (by decide))
 rw [this,Int.fdiv_eq_ediv_of_nonneg _ hp,hm]
 exact h
end
section
variable {b : Bool} {Kt Kf : Prop} {p : Prop} [Decidable p] {x y : Int}
theorem sp_dec (h1:p→Kt) (h2:¬ p→Kf):SplitS (decide p) Kt Kf:=⟨fun h=>h1 (by simpa using h),fun h=>h2 (by simpa using h)⟩
theorem sp_beq (h1:x=y→Kt) (h2:x≠y→Kf):SplitS (x==y) Kt Kf:=⟨fun h=>h1 (by simpa using h),fun h=>h2 (by simpa using h)⟩
theorem sp_bne (h1:x≠y→Kt) (h2:x=y→Kf):SplitS (x != y) Kt Kf:=⟨fun h=>h1 (by simpa using h),fun h=>h2 (by simpa using h)⟩
theorem sp_not (h1:b=false→Kt) (h2:b=true→Kf):SplitS (!b) Kt Kf:=⟨fun h=>h1 (by simpa using h),fun h=>h2 (by simpa using h)⟩
theorem sp_not_dec (h1:¬ p→Kt) (h2:p→Kf):SplitS (!decide p) Kt Kf:=⟨fun h=>h1 (by simpa using h),fun h=>h2 (by simpa using h)⟩
theorem sp_seq {s t:List UInt8} (h1:s=t→Kt) (h2:s≠t→Kf):SplitS (s==t) Kt Kf:=⟨fun h=>h1 (by simpa using h),fun h=>h2 (by simpa using h)⟩
theorem sp_sne {s t:List UInt8} (h1:s≠t→Kt) (h2:s=t→Kf):SplitS (!(s==t)) Kt Kf:=⟨fun h=>h1 (by simpa using h),fun h=>h2 (by simpa using h)⟩
theorem sp_any (h1:b=true→Kt) (h2:b=false→Kf):SplitS b Kt Kf:=⟨h1,h2⟩
end
theorem sd_mk {p K:Prop} (h1:p) (h2:K):SideS p K:=⟨h1,h2⟩
theorem ix_map {α:Type} {enc:α→D} {l:List α} {n:Int} {K:D→Prop} (x:α) (h0:0≤n) (hx:l[n.toNat]?=some x) (h:K (enc x)):IdxS (l.map enc) n K:=
 ⟨h0,enc x,by simp [hx],h⟩
theorem ix_getD {α:Type} {enc:α→D} {l:List α} {n:Int} {K:D→Prop} (d:α) (h0:0≤n) (hlt:n < l.length) (h:K (enc (l.getD n.toNat d))):IdxS (l.map enc) n K:=by
 have hlt:n.toNat < l.length:=by omega
 refine ⟨h0,_,?_,h⟩
 simp [List.getElem?_eq_getElem hlt]
theorem ix_rfl {ds:List D} {n:Int} {K:D→Prop} {d:D} (h0:0≤n) (h:ds[n.toNat]?=some d) (hK:K d):IdxS ds n K:=⟨h0,d,h,hK⟩
def byteD (c:UInt8):D:=.int .u8 c.toNat
def bytesD (l:List UInt8):D:=.sl 1 (l.map byteD) none
theorem ix_byte {l:List UInt8} {n:Int} {K:D→Prop} (h0:0≤n) (hlt:n < l.length) (h:K (.int .u8 ((l.getD n.toNat 0).toNat:Int))):IdxS (l.map byteD) n K:=ix_getD 0 h0 hlt h
theorem ix_byteK {l:List UInt8} {n:Int} {k:Nat} {K:D→Prop} (hk:n.toNat=k) (h0:0≤n) (hlt:n < l.length) (h:K (.int .u8 ((l.getD k 0).toNat:Int))):IdxS (l.map byteD) n K:=by
 subst hk;exact ix_getD 0 h0 hlt h
theorem ix_byteN {l:List UInt8} {k:Nat} {K:D→Prop} (hlt:(k:Int) < l.length) (h:K (.int .u8 ((l.getD k 0).toNat:Int))):IdxS (l.map byteD) (k:Int) K:=ix_getD 0 (Int.natCast_nonneg k) hlt h
theorem u8_lt (c:UInt8):((c.toNat:Nat):Int) < 256:=by have:=c.toNat_lt;omega
theorem or_add {x c:Int} {s:Nat} {m:Int} (hm:(2:Int) ^ s=m) (h0:0≤x) (hc0:0≤c) (hc:c < m) (hx:x * m+c≤9223372036854775807):bitI .or .i64 (x * m) c=x * m+c:=by
 obtain ⟨a,rfl⟩:=Int.eq_ofNat_of_zero_le h0
 obtain ⟨d,rfl⟩:=Int.eq_ofNat_of_zero_le hc0
 obtain ⟨q,rfl⟩:∃ q:Nat,m=q:=⟨2 ^ s,by rw [← hm];simp⟩
 have hq:q=2 ^ s:=by exact_mod_cast hm.symm
 have hd:d < 2 ^ s:=by rw [← hq];omega
 unfold bitI
 have e1:BitVec.ofInt IntKind.i64.bits ((a:Int) * q)=BitVec.ofNat 64 (a * q):=by
  rw [← Int.natCast_mul];rfl
 have e2:BitVec.ofInt IntKind.i64.bits (d:Int)=BitVec.ofNat 64 d:=rfl
 have hb:a * q+d < 2 ^ 64:=by
  have:((a * q+d:Nat):Int)≤9223372036854775807:=by simpa using hx
  omega
 have key:(BitVec.ofNat 64 (a * q) ||| BitVec.ofNat 64 d).toNat=a * q+d:=by
  rw [BitVec.toNat_or,BitVec.toNat_ofNat,BitVec.toNat_ofNat,Nat.mod_eq_of_lt (by omega),Nat.mod_eq_of_lt (by omega),hq,← Nat.shiftLeft_eq,← Nat.shiftLeft_add_eq_or_of_lt hd]
 have e3:((BitVec.ofInt IntKind.i64.bits ((a:Int) * q) ||| BitVec.ofInt IntKind.i64.bits (d:Int)).toNat:Int)=a * q+d:=by
  have:(BitVec.ofInt IntKind.i64.bits ((a:Int) * q) ||| BitVec.ofInt IntKind.i64.bits (d:Int)).toNat=a * q+d:=by
   rw [e1,e2];exact key
  rw [this];simp
 show IntKind.i64.wrap ((BitVec.ofInt IntKind.i64.bits ((a:Int) * q) ||| BitVec.ofInt IntKind.i64.bits (d:Int)).toNat:Int)=_
 rw [e3,wrap_i64 (by omega) (by simpa using hx)]
theorem bit_mk {op:BinOp} {k:IntKind} {x y r:Int} {K:D→Prop} (h:bitI op k x y=r) (hK:K (.int k r)):BitS op k x y K:=by unfold BitS;rwa [h]
theorem cat_mk {s t:List UInt8} {K:D→Prop} (h:((s.length+t.length:Nat):Int)≤9223372036854775807) (hK:K (.str (s++t))):CatS s t K:=⟨h,hK⟩
theorem call_pure {P:Program} {f:Nat} {av:List D} {L:List Ob} {KP:D→Prop} {KW:D→List Ob→Prop} {spec:Spec} (h:Meets P f spec) (hs:stripLK av fun av=>∃ d,spec av [] d []∧KP d):CallS P f av L KP KW:=
 .inl ⟨spec,h,hs⟩
theorem loop_end {α:Type} {I:α→Prop} {S:α→List (Nat×D)} {O:α→List Ob} {μ:α→Nat} {p:α} {σ:List (Nat×D)} {L:List Ob} (p':α) (h1:I p') (h2:μ p' < μ p) {n0:Nat} (h3:WeakC σ L (S p') (O p')):LoopEnd n0 I S O μ p σ L:=⟨p',h1,h2,.inl h3⟩
theorem end_mk {n0:Nat} {r d:D} {L L':List Ob} (h:renK (below L'.length) r fun r'=>renObsK (below L'.length) L'.length L fun L''=>VS (r'=d)∧VS (L''=L')):EndS n0 r d L L':=.inl h
theorem bytes_mk {l:List UInt8} {K:D→Prop} (h:K (.str l)):BytesS (l.map byteD) K:=⟨l,rfl,h⟩
theorem norm_mk {ds:List D} {K:List D→Nat→Prop} (h:K ds ds.length):NormL ds K:=h
theorem norm_eq {ds:List D} (r:List D) {K:List D→Nat→Prop} (h:ds=r) (hK:K r r.length):NormL ds K:=h ▸ hK
theorem norm_map {α:Type} {f:α→D} {ds:List D} (l:List α) {K:List D→Nat→Prop} (h:ds=l.map f) (hK:K (l.map f) l.length):NormL ds K:=by
 subst h
 unfold NormL
 rwa [List.length_map]
theorem norm_one {α:Type} {f:α→D} {l:List α} {K:List D→Nat→Prop} (hK:K (l.map f) l.length):NormL (l.map f) K:=norm_map l rfl hK
theorem norm_app {α:Type} {f:α→D} {l m:List α} {K:List D→Nat→Prop} (hK:K ((l++m).map f) (l++m).length):NormL (l.map f++m.map f) K:=norm_map _ List.map_append.symm hK
theorem norm_cut {α:Type} {f:α→D} {l:List α} {a b:Int} {K:List D→Nat→Prop} (hK:K (((l.take a.toNat).drop b.toNat).map f) ((l.take a.toNat).drop b.toNat).length):NormL (((l.map f).take a.toNat).drop b.toNat) K:=
 norm_map _ (by rw [List.map_drop,List.map_take]) hK
theorem norm_cutEnd {α:Type} {f:α→D} {l:List α} {b:Int} {K:List D→Nat→Prop} (hK:K ((l.drop b.toNat).map f) (l.drop b.toNat).length):NormL (((l.map f).take (((l.map f).length:Nat):Int).toNat).drop b.toNat) K:=
 norm_map _ (by rw [Int.toNat_natCast,List.take_length,List.map_drop]) hK
theorem norm_bytes1 {l:List UInt8} {a:UInt8} {K:List D→Nat→Prop} (hK:K ((l++[a]).map byteD) (l++[a]).length):NormL (l.map byteD++[.int .u8 a.toNat]) K:=norm_map _ (by simp [byteD]) hK
theorem norm_bytes2 {l:List UInt8} {a b:UInt8} {K:List D→Nat→Prop} (hK:K ((l++[a,b]).map byteD) (l++[a,b]).length):NormL (l.map byteD++[.int .u8 a.toNat,.int .u8 b.toNat]) K:=norm_map _ (by simp [byteD]) hK
theorem norm_setByte {l:List UInt8} {q:Nat} {a:UInt8} {K:List D→Nat→Prop} (hK:K ((l.set q a).map byteD) (l.set q a).length):NormL ((l.map byteD).set q (.int .u8 a.toNat)) K:=norm_map _ (by simp [byteD,List.map_set]) hK
def intD (n:Int):D:=.int .i64 n
theorem norm_int1 {l:List Int} {a:Int} {K:List D→Nat→Prop} (hK:K ((l++[a]).map intD) (l++[a]).length):NormL (l.map intD++[.int .i64 a]) K:=norm_map _ (by simp [intD]) hK
section
variable {x : Int} {K : D → Prop}
theorem shl8 (h1: -9223372036854775808≤x * 256) (h2:x * 256≤9223372036854775807) (h:K (.int .i64 (x * 256))):ShlS .i64 x 8 K:=shl_lit (s:=8) (m:=256) rfl (by decide) (by decide) h1 h2 h
theorem shr8 {k:IntKind} (hs:8≤k.bits) (h:K (.int k (x / 256))):ShrS k x 8 K:=shr_lit (s:=8) (m:=256) rfl hs (by decide) h
theorem shl4 (h1: -9223372036854775808≤x * 16) (h2:x * 16≤9223372036854775807) (h:K (.int .i64 (x * 16))):ShlS .i64 x 4 K:=shl_lit (s:=4) (m:=16) rfl (by decide) (by decide) h1 h2 h
theorem shr4 {k:IntKind} (hs:4≤k.bits) (h:K (.int k (x / 16))):ShrS k x 4 K:=shr_lit (s:=4) (m:=16) rfl hs (by decide) h
theorem shl1 (h1: -9223372036854775808≤x * 2) (h2:x * 2≤9223372036854775807) (h:K (.int .i64 (x * 2))):ShlS .i64 x 1 K:=shl_lit (s:=1) (m:=2) rfl (by decide) (by decide) h1 h2 h
theorem shr1 {k:IntKind} (hs:1≤k.bits) (h:K (.int k (x / 2))):ShrS k x 1 K:=shr_lit (s:=1) (m:=2) rfl hs (by decide) h
theorem shl16 (h1: -9223372036854775808≤x * 65536) (h2:x * 65536≤9223372036854775807) (h:K (.int .i64 (x * 65536))):ShlS .i64 x 16 K:=shl_lit (s:=16) (m:=65536) rfl (by decide) (by decide) h1 h2 h
theorem shr16 {k:IntKind} (hs:16≤k.bits) (h:K (.int k (x / 65536))):ShrS k x 16 K:=shr_lit (s:=16) (m:=65536) rfl hs (by decide) h
theorem shl24 (h1: -9223372036854775808≤x * 16777216) (h2:x * 16777216≤9223372036854775807) (h:K (.int .i64 (x * 16777216))):ShlS .i64 x 24 K:=shl_lit (s:=24) (m:=16777216) rfl (by decide) (by decide) h1 h2 h
theorem shr24 {k:IntKind} (hs:24≤k.bits) (h:K (.int k (x / 16777216))):ShrS k x 24 K:=shr_lit (s:=24) (m:=16777216) rfl hs (by decide) h
end
def keepAt:List Nat→Nat→Nat→Option Nat
 | [],_,_=>none
 | j::js,i,k=>match Nat.beq j k with
  | true=>some i
  | false=>keepAt js (i+1) k
theorem keepAt_get:∀ {js:List Nat} {i k k':Nat},keepAt js i k=some k'→i≤k'∧js[k' - i]?=some k
 | [],i,k,k',h=>by simp [keepAt] at h
 | j::js,i,k,k',h=>by
  simp only [keepAt] at h
  split at h
  ·rename_i hb
   have:=Nat.eq_of_beq_eq_true hb
   subst this
   cases h
   exact ⟨Nat.le_refl _,by simp⟩
  ·obtain ⟨h1,h2⟩:=keepAt_get h
   refine ⟨by omega,?_⟩
   rw [show k' - i=(k' - (i+1))+1 by omega,List.getElem?_cons_succ]
   exact h2
def keepK (m:Nat→Option Nat):List Nat→List Ob→(List Ob→Prop)→Prop:=
 @List.rec Nat (fun _=>List Ob→(List Ob→Prop)→Prop) (fun _ K=>K []) (fun j _ ih L K=>nthK j L fun o=>renObK m o fun o=>ih L fun r=>K (o::r))
theorem keepK_eq {m:Nat→Option Nat}:∀ {js:List Nat} {L:List Ob} {K:List Ob→Prop},keepK m js L K →
  ∃ L',K L'∧L'.length=js.length∧∀ (i:Nat) o',L'[i]?=some o'→∃ j o,js[i]?=some j∧L[j]?=some o∧ObRen m o o'
 | [],L,K,h=>⟨[],h,rfl,by simp⟩
 | j::js,L,K,h=>by
  change nthK j L (fun o=>renObK m o fun o=>keepK m js L fun r=>K (o::r)) at h
  obtain ⟨o,h1,h2⟩:=nthK_eq h
  obtain ⟨o',h3,h4⟩:=renObK_eq h2
  obtain ⟨L',h5,h6,h7⟩:=keepK_eq h4
  refine ⟨_,h5,by simp [h6],fun i x hx=>?_⟩
  cases i with
  | zero=>simp at hx;subst hx;exact ⟨j,o,by simp,h1,h3⟩
  | succ i=>
   obtain ⟨j',o2,h8,h9⟩:=h7 i x (by simpa using hx)
   exact ⟨j',o2,by simpa using h8,h9⟩
def nodupB:List Nat→Bool
 | []=>true
 | j::js=>match memB j js with
  | true=>false
  | false=>nodupB js
theorem nodupB_eq:∀ {js:List Nat},nodupB js=true→∀ (i i' j:Nat),js[i]?=some j→js[i']?=some j→i=i'
 | [],_,i,i',j,h,_=>by simp at h
 | a::js,h,i,i',j,h1,h2=>by
  simp only [nodupB] at h
  split at h
  ·cases h
  ·rename_i hm
   have hm:=memB_mem hm
   cases i with
   | zero=>
    cases i' with
    | zero=>rfl
    | succ i'=>simp at h1 h2;subst h1;exact (hm (List.mem_of_getElem? h2)).elim
   | succ i=>
    cases i' with
    | zero=>simp at h1 h2;subst h2;exact (hm (List.mem_of_getElem? h1)).elim
    | succ i'=>rw [nodupB_eq h i i' j (by simpa using h1) (by simpa using h2)]
def startB:List Nat→Nat→Nat→Bool
 | _,_,0=>true
 | [],_,_+1=>false
 | j::js,i,n+1=>match Nat.beq j i with
  | true=>startB js (i+1) n
  | false=>false
theorem startB_eq:∀ {js:List Nat} {i n:Nat},startB js i n=true→n≤js.length∧∀ q,q < n→js[q]?=some (i+q)
 | js,i,0,_=>⟨Nat.zero_le _,fun q h=>by omega⟩
 | [],i,n+1,h=>by simp [startB] at h
 | j::js,i,n+1,h=>by
  simp only [startB] at h
  split at h
  ·rename_i hb
   have:=Nat.eq_of_beq_eq_true hb
   subst this
   obtain ⟨h1,h2⟩:=startB_eq h
   refine ⟨by simpa using h1,fun q hq=>?_⟩
   cases q with
   | zero=>simp
   | succ q=>
    rw [List.getElem?_cons_succ,h2 q (by omega)]
    congr 1;omega
  ·cases h
theorem shift_keep {n0:Nat} {js:List Nat} {L:List Ob} {K:List Ob→Prop} (hnd:nodupB js=true) (hst:startB js 0 n0=true) (h:keepK (keepAt js 0) js L K) :
  ∃ L',K L'∧Shift n0 (RenOf (keepAt js 0)) L L':=by
 obtain ⟨L',hK,hlen,hL⟩:=keepK_eq h
 have hnd:=nodupB_eq hnd
 obtain ⟨hs1,hs2⟩:=startB_eq hst
 refine ⟨L',hK,fun w ρ hf=>?_⟩
 let ρ':Pl:=⟨fun i=>ρ ((js[i]?).getD 0),ρ.hid⟩
 have hρ:∀ i j,js[i]?=some j→ρ' i=ρ j:=fun i j h=>by show ρ ((js[i]?).getD 0)=ρ j;rw [h];rfl
 have hm:∀ k k',keepAt js 0 k=some k'→js[k']?=some k:=fun k k' h=>by
  have:=(keepAt_get h).2
  simpa using this
 have kind:∀ k k' o',keepAt js 0 k=some k'→L'[k']?=some o'→∃ o,L[k]?=some o∧ObRen (keepAt js 0) o o':=fun k k' o' h1 h2=>by
  obtain ⟨j,o,h3,h4,h5⟩:=hL k' o' h2
  rw [hm k k' h1] at h3
  cases h3
  exact ⟨o,h4,h5⟩
 have hren:RenOk (keepAt js 0) ρ L ρ' L':=by
  refine ⟨fun k k' h _=>?_,fun k k' h _=>hρ _ _ (hm _ _ h),fun k k' ds h _ hL'=>?_,fun k k' ds h _ hL'=>?_,fun k k' n h _ hL'=>?_,fun k k' e ds h _ hL'=>?_⟩
  ·rw [hlen];exact (List.getElem?_eq_some_iff.1 (hm _ _ h)).1
  all_goals
   obtain ⟨o,h1,h2⟩:=kind _ _ _ h hL'
   rw [h1]
   cases o<;>simp only [ObRen] at h2
  all_goals first
   | (cases h2;done)
   | (obtain ⟨_,h3,_⟩:=h2;cases h3;done)
   | (obtain ⟨h3,_⟩:=h2;cases h3;done)
   | skip
  all_goals first
   | exact ⟨_,rfl⟩
   | (cases h2;rfl)
   | (obtain ⟨_,h3,h4,_⟩:=h2;cases h3;exact ⟨_,rfl,h4⟩)
 have hown:∀ b off,own ρ' L' b off→own ρ L b off:=by
  rintro b off ⟨i,o',h1,h2⟩
  obtain ⟨j,o,h3,h4,h5⟩:=hL i o' h1
  rw [hρ _ _ h3] at h2
  exact ⟨j,o,h4,(h5.owns _ _ _).1 h2⟩
 have hfoot:∀ b off,foot ρ' L' b off→foot ρ L b off:=fun b off h=>h.imp (hown b off) id
 refine ⟨ρ',⟨hf.glob.less hfoot,hf.hid,fun b off h=>hf.sep b off (hown b off h),fun i o' hi=>?_,fun i i' o o' b off h1 h2 h3 h4=>?_⟩,fun d d' v hd hr=>hd _ _ _ _ _ _ _ _ hren hfoot hr,hown,fun ρ0 L0 e hc=>?_⟩
 ·obtain ⟨j,o,h3,h4,h5⟩:=hL i o' hi
  rw [hρ _ _ h3]
  exact (hf.obj j o h4).ren hren hfoot h5
 ·obtain ⟨j,x,h5,h6,h7⟩:=hL i o h1
  obtain ⟨j',x',k5,k6,k7⟩:=hL i' o' h2
  rw [hρ _ _ h5] at h3
  rw [hρ _ _ k5] at h4
  have:=hf.disj j j' x x' b off h6 k6 ((h7.owns _ _ _).1 h3) ((k7.owns _ _ _).1 h4)
  subst this
  exact hnd _ _ _ h5 k5
 ·have get:∀ (k:Nat) o',k < L0.length→L'[k]?=some o'→∃ o,L[k]?=some o∧ObRen (keepAt js 0) o o'∧ρ' k=ρ k:=fun k o' hk h1=>by
   obtain ⟨j,o,h3,h4,h5⟩:=hL k o' h1
   have:=hs2 k (by omega)
   rw [Nat.zero_add] at this
   rw [this] at h3
   cases h3
   exact ⟨o,h4,h5,hρ _ _ this⟩
  refine ⟨hc.hid,by omega,fun k ds' hk hL'=>?_,fun k ds' hk hL'=>?_,fun k n hk hL'=>?_,fun k e ds' hk hL'=>?_⟩
  all_goals
   obtain ⟨o,h1,h2,h3⟩:=get k _ hk hL'
   rw [h3]
   cases o<;>simp only [ObRen] at h2
  all_goals first
   | (cases h2;done)
   | (obtain ⟨_,h3,_⟩:=h2;cases h3;done)
   | (obtain ⟨h3,_⟩:=h2;cases h3;done)
   | skip
  ·exact hc.cells k _ hk h1
  ·exact hc.map k _ hk h1
  ·cases h2;exact hc.spare k n hk h1
  ·obtain ⟨_,h5,h6,_⟩:=h2
   cases h5
   obtain ⟨ds0,h7,h8,h9⟩:=hc.arr k e _ hk h1
   exact ⟨ds0,h7,by omega,fun hh=>h9 (by omega)⟩
theorem end_freeze {n0 k e:Nat} {els els':List D} {r r1 d:D} {L L':List Ob} (hk:L[k]?=some (.arr e els)) (hn:n0≤k) (hs:StripEls els els') (hr:Fz k e els els' L.length r r1)
  (h:EndS n0 r1 d (L.set k .dead++[.spare els.length]) L') (hlen:n0≤L'.length):EndS n0 r d L L':=by
 have h2:∃ φ,Shift n0 φ (L.set k .dead++[.spare els.length]) L'∧φ r1 d:=by
  rcases h with h | h
  ·obtain ⟨r',hr1,hr2⟩:=renK_eq h
   obtain ⟨L3,⟨hr3,hr4⟩,_,hS⟩:=shift_below hr2 hlen
   have hr3:=hr3.out
   have hr4:=hr4.out
   subst hr3
   subst hr4
   exact ⟨_,hS,hr1⟩
  ·exact h
 obtain ⟨φ,h3,h4⟩:=h2
 exact .inr ⟨_,(shift_freeze hk hs).trans h3,r1,hr,h4⟩
theorem end_keep {n0:Nat} (js:List Nat) {r d:D} {L L':List Ob} (hnd:nodupB js=true) (hst:startB js 0 n0=true)
  (h:renK (keepAt js 0) r fun r'=>keepK (keepAt js 0) js L fun L''=>VS (r'=d)∧VS (L''=L')):EndS n0 r d L L':=by
 obtain ⟨r',h1,h2⟩:=renK_eq h
 obtain ⟨L'',⟨h3,h4⟩,h5⟩:=shift_keep hnd hst h2
 have h3:=h3.out
 have h4:=h4.out
 subst h3
 subst h4
 exact .inr ⟨_,h5,h1⟩
theorem strip_bytes (l:List UInt8):StripEls (l.map byteD) (l.map byteD):=by
 refine ⟨rfl,fun i d d' h1 h2=>?_⟩
 rw [h1] at h2
 cases h2
 simp only [List.getElem?_map,Option.map_eq_some_iff] at h1
 obtain ⟨c,_,rfl⟩:=h1
 refine ⟨rfl,rfl,fun j x x' h3 h4=>?_⟩
 rw [h3] at h4
 cases h4
 cases j with
 | zero=>
  simp [byteD,D.cells] at h3
  subst h3
  intro w F ρ L v h
  rw [h.int_inv]
  exact .int _ _
 | succ j=>simp [byteD,D.cells] at h3
def lowByte (n:Int):UInt8:=UInt8.ofNat (n % 256).toNat
theorem lowByte_toNat (n:Int):((lowByte n).toNat:Int)=n % 256:=by
 unfold lowByte
 rw [UInt8.toNat_ofNat']
 have:=Int.emod_nonneg n (b:=256) (by decide)
 have:=Int.emod_lt_of_pos n (b:=256) (by decide)
 omega
theorem ar_low {n:Int} {K:D→Prop} (h:K (byteD (lowByte n))):Arith .u8 n K:=ar_u8_mod (by rw [← lowByte_toNat];exact h)
theorem rens_bytes {m:Nat→Option Nat} {ds:List D} {K:List D→Prop} (l:List UInt8) (h:ds=l.map byteD) (hK:K (l.map byteD)):RenS m ds K:=by
 subst h
 have hp:∀ (c:UInt8),RenOf m (byteD c) (byteD c):=fun c=>renOf_pure trivial
 refine ⟨l.map byteD,⟨rfl,fun i d d' h1 h2=>?_⟩,fun i d d' h1 h2=>?_,hK⟩
 all_goals
  rw [h1] at h2
  cases h2
  simp only [List.getElem?_map,Option.map_eq_some_iff] at h1
  obtain ⟨c,_,rfl⟩:=h1
 ·exact hp c
 ·refine ⟨rfl,rfl,fun j x x' h3 h4=>?_⟩
  rw [h3] at h4
  cases h4
  cases j with
  | zero=>simp [byteD,D.cells] at h3;subst h3;exact hp c
  | succ j=>simp [byteD,D.cells] at h3
theorem end_freeze_bytes {n0 k:Nat} {els:List D} (l:List UInt8) {r r1 d:D} {L L':List Ob} (hk:L[k]?=some (.arr 1 els)) (he:els=l.map byteD) (hn:n0≤k) (hlen:n0≤L'.length) (hr:Fz k 1 (l.map byteD) (l.map byteD) L.length r r1)
  (h:EndS n0 r1 d (L.set k .dead++[.spare l.length]) L'):EndS n0 r d L L':=by
 subst he
 exact end_freeze hk hn (strip_bytes l) hr (by simpa using h) hlen
def LeD (d d':D):Prop:=∀ (w:World) (F:Nat→Nat→Prop) (ρ:Pl) (L:List Ob) (v:Value),Rep w F ρ L d v→Rep w F ρ L d' v
theorem LeD.refl (d:D):LeD d d:=fun _ _ _ _ _ h=>h
theorem LeD.of_eq {d d':D} (h:d=d'):LeD d d':=h ▸ .refl d
theorem LeD.nil (e:Nat):LeD .nilsl (.sl e [] none):=fun w F ρ L v h=>by
 obtain ⟨a,rfl⟩:=h.nilsl_inv
 exact .pure _ _ nil_tok
theorem LeD.strip (e:Nat) (ds:List D) (t:Option Nat):LeD (.sl e ds t) (.sl e ds none):=fun w F ρ L v h=>.pure _ _ h.sl_inv
theorem LeD.tt {b:Bool} (h:b=true):LeD .tt (.bool b):=fun w F ρ L v hr=>by rw [hr.tt_inv,h];exact .pure _ _ (.bool _)
theorem LeD.ff {b:Bool} (h:b=false):LeD .ff (.bool b):=fun w F ρ L v hr=>by rw [hr.ff_inv,h];exact .pure _ _ (.bool _)
def LeL (ds ds':List D):Prop:=ds.length=ds'.length∧∀ (i:Nat) d d',ds[i]?=some d→ds'[i]?=some d'→LeD d d'
theorem LeL.refl (ds:List D):LeL ds ds:=⟨rfl,fun i d d' h1 h2=>by rw [h1] at h2;cases h2;exact .refl _⟩
theorem LeL.of_eq {ds ds':List D} (h:ds=ds'):LeL ds ds':=h ▸ .refl ds
theorem LeL.nil:LeL [] []:=.refl []
theorem LeL.cons {d d':D} {ds ds':List D} (h:LeD d d') (k:LeL ds ds'):LeL (d::ds) (d'::ds'):=⟨by simp [k.1],fun i a b ha hb=>by
 cases i with
 | zero=>simp at ha hb;subst ha;subst hb;exact h
 | succ i=>exact k.2 i a b (by simpa using ha) (by simpa using hb)⟩
theorem LeD.tup {ds ds':List D} (h:LeL ds ds'):LeD (.tup ds) (.tup ds'):=fun w F ρ L v hr=>by
 obtain ⟨vs,rfl,h1,h2⟩:=hr.tup_inv
 refine .tup _ _ (h1.trans h.1) fun i d v hd hv=>?_
 have hlt:i < ds.length:=by rw [h.1];exact (List.getElem?_eq_some_iff.1 hd).1
 exact h.2 i _ d (List.getElem?_eq_getElem hlt) hd _ _ _ _ _ (h2 i _ v (List.getElem?_eq_getElem hlt) hv)
theorem LeD.agg {ds ds':List D} (h:LeL ds ds'):LeD (.agg ds) (.agg ds'):=fun w F ρ L v hr=>by
 obtain ⟨vs,rfl,h1,h2⟩:=hr.agg_inv
 refine .agg _ _ (h1.trans h.1) fun i d v hd hv=>?_
 have hlt:i < ds.length:=by rw [h.1];exact (List.getElem?_eq_some_iff.1 hd).1
 exact h.2 i _ d (List.getElem?_eq_getElem hlt) hd _ _ _ _ _ (h2 i _ v (List.getElem?_eq_getElem hlt) hv)
def Nz (e tok:Nat) (d d':D):Prop:=d'=d∨(d= .nilsl∧d'= .sl e [] (some tok))
theorem shift_nil {n0 e:Nat} {L:List Ob}:Shift n0 (Nz e L.length) L (L++[.spare 0]):=fun w ρ hf=>by
 obtain ⟨h1,h2⟩:=hf.snoc (Ext.refl F0 w) (o:=.spare 0) (l:=⟨0,0,0⟩) (fun b off h=>by
  obtain ⟨_,h3,h4⟩:=h
  have h4:off < 0+0:=h4
  omega) (fun j hj=>by simp at hj)
 have hc:Compat ρ L (upd ρ L.length ⟨0,0,0⟩) (L++[.spare 0]):=.snoc _ _ _ _
 refine ⟨_,h1,fun d d' v hd hr=>?_,fun b off h=>?_,fun ρ0 L0 hl h0=>h0.trans hc⟩
 ·rcases hd with rfl | ⟨rfl,rfl⟩
  ·exact hr.keep (Ext.refl _ _) (h2.foot rfl) hc
  ·obtain ⟨a,rfl⟩:=hr.nilsl_inv
   refine .tok _ _ _ _ (by simp) nil_tok fun n hn=>?_
   simp at hn
   subst hn
   refine ⟨Nat.le_refl _,fun _=>?_⟩
   rw [upd_same]
   cases a with
   | none=>exact ⟨rfl,rfl⟩
   | some x=>exact .inr ⟨rfl,rfl⟩
 ·rcases own_snoc h with h | ⟨_,h3,h4⟩
  ·exact h
  ·have h4:off < 0+0:=h4
   omega
theorem weak_of {n0:Nat} {φ:D→D→Prop} {σ σ':List (Nat×D)} {L L':List Ob} (hS:Shift n0 φ L L') (h:∀ t,look σ' t= .any∨φ (look σ t) (look σ' t)):Weak n0 σ L σ' L':=⟨φ,hS,h⟩
theorem weak_trans {n0:Nat} {σ σ1 σ2:List (Nat×D)} {L L1 L2:List Ob} (h:Weak n0 σ L σ1 L1) (k:Weak n0 σ1 L1 σ2 L2):Weak n0 σ L σ2 L2:=by
 obtain ⟨φ,h1,h2⟩:=h
 obtain ⟨ψ,k1,k2⟩:=k
 refine ⟨fun d d''=>∃ d',(d'= .any∨φ d d')∧ψ d' d'',fun w ρ hf=>?_,fun t=>?_⟩
 ·obtain ⟨ρ1,a1,a2,a3,a4⟩:=h1 w ρ hf
  obtain ⟨ρ2,b1,b2,b3,b4⟩:=k1 w ρ1 a1
  refine ⟨ρ2,b1,fun d d'' v hd hr=>?_,fun b off ho=>a3 b off (b3 b off ho),fun ρ0 L0 e hc=>b4 ρ0 L0 e (a4 ρ0 L0 e hc)⟩
  obtain ⟨d',hd1,hd2⟩:=hd
  refine b2 d' d'' v hd2 ?_
  rcases hd1 with rfl | hd1
  ·exact .pure _ _ (.any _)
  ·exact a2 d d' v hd1 hr
 ·rcases k2 t with h | h
  ·exact .inl h
  ·exact .inr ⟨_,h2 t,h⟩
theorem look_put (t:Nat) (d:D) (σ:List (Nat×D)) (u:Nat):look ((t,d)::σ) u=if t=u then d else look σ u:=by
 simp only [look]
 by_cases h:t=u
 ·subst h;simp
 ·have:Nat.beq t u=false:=by rw [Bool.eq_false_iff];intro h';exact h (Nat.eq_of_beq_eq_true h')
  rw [this,if_neg h]
theorem weak_nil {n0:Nat} {σ:List (Nat×D)} {L:List Ob} (t e:Nat) (h:look σ t= .nilsl):Weak n0 σ L ((t,.sl e [] (some L.length))::σ) (L++[.spare 0]):=
 weak_of shift_nil fun u=>by
  rw [look_put]
  split
  ·rename_i hu;subst hu;exact .inr (.inr ⟨h,rfl⟩)
  ·exact .inr (.inl rfl)
theorem awp_weak {P:Program} {n:Nat} {E:Entry} {c:Code} {Q:Ex→List (Nat×D)→List Ob→Prop} {σ σ':List (Nat×D)} {L L':List Ob} (h:Weak E.L.length σ L σ' L') (hk:AWP P n E c Q σ' L'):AWP P n E c Q σ L:=
 fun a w hr=>hk a w (h.rel hr)
theorem end_shift {n0:Nat} {φ:D→D→Prop} {r r1 d:D} {L L1 L':List Ob} (hS:Shift n0 φ L L1) (hr:φ r r1) (h:EndS n0 r1 d L1 L') (hlen:n0≤L'.length):EndS n0 r d L L':=by
 have h2:∃ φ,Shift n0 φ L1 L'∧φ r1 d:=by
  rcases h with h | h
  ·obtain ⟨r',hr1,hr2⟩:=renK_eq h
   obtain ⟨L3,⟨hr3,hr4⟩,_,hS⟩:=shift_below hr2 hlen
   have hr3:=hr3.out
   have hr4:=hr4.out
   subst hr3
   subst hr4
   exact ⟨_,hS,hr1⟩
  ·exact h
 obtain ⟨ψ,h3,h4⟩:=h2
 exact .inr ⟨_,hS.trans h3,r1,hr,h4⟩
theorem end_le {n0:Nat} {r r1 d:D} {L L':List Ob} (hr:LeD r r1) (h:EndS n0 r1 d L L') (hlen:n0≤L'.length):EndS n0 r d L L':=
 end_shift (φ:=LeD) (fun w ρ hf=>⟨ρ,hf,fun d d' v hd hr=>hd _ _ _ _ _ hr,fun _ _ h=>h,fun _ _ _ h=>h⟩) hr h hlen
theorem end_p {r d:D} {L:List Ob} (h:stripK r fun r'=>VS (LeD r' d)):EndS 0 r d L []:=by
 obtain ⟨r',h1,h2⟩:=stripK_eq h
 refine .inr ⟨fun a b=>a=r∧b=d,fun w ρ hf=>⟨ρ,⟨hf.glob.less fun b off hb=>by
  rcases hb with ⟨k,o,hk,_⟩ | hb
  ·simp at hk
  ·exact .inr hb,hf.hid,fun b off ⟨k,o,hk,_⟩=>by simp at hk,by simp,by simp⟩,?_,fun b off ⟨k,o,hk,_⟩=>by simp at hk,fun ρ0 L0 hl hc=>?_⟩,rfl,rfl⟩
 ·rintro a b v ⟨rfl,rfl⟩ hr
  refine h2.out w _ ρ [] v (.pure _ _ ((h1.2 _ _ _ _ _ hr).less fun b off hb=>?_))
  rcases hb with ⟨k,o,hk,_⟩ | hb
  ·simp at hk
  ·exact .inr hb
 ·have:L0=[]:=List.eq_nil_of_length_eq_zero hl
  subst this
  exact ⟨hc.hid,by simp,by simp,by simp,by simp,by simp⟩
def nthO:List Nat→Nat→Option Nat
 | [],_=>none
 | j::_,0=>some j
 | _::js,i+1=>nthO js i
theorem nthO_eq:∀ (js:List Nat) (i:Nat),nthO js i=js[i]?
 | [],i=>by simp [nthO]
 | j::js,0=>by simp [nthO]
 | j::js,i+1=>by simpa [nthO] using nthO_eq js i
def fromB:List Nat→Nat→Bool
 | [],_=>true
 | j::js,n=>match Nat.beq j n with
  | true=>fromB js (n+1)
  | false=>false
theorem fromB_eq:∀ {js:List Nat} {n:Nat},fromB js n=true→∀ (i:Nat) j,js[i]?=some j→j=n+i
 | [],n,_,i,j,h=>by simp at h
 | a::js,n,h,i,j,hj=>by
  simp only [fromB] at h
  split at h
  ·rename_i hb
   have:=Nat.eq_of_beq_eq_true hb
   cases i with
   | zero=>simp at hj;omega
   | succ i=>have:=fromB_eq h i j (by simpa using hj);omega
  ·cases h
def bringK (m:Nat→Option Nat):List Nat→List Ob→List Ob→(List Ob→Prop)→Prop:=
 @List.rec Nat (fun _=>List Ob→List Ob→(List Ob→Prop)→Prop)
  (fun L1 L K=>@List.rec Ob (fun _=>(List Ob→Prop)→Prop) (fun K=>K []) (fun o _ ih K=>renObK m o fun o=>ih fun r=>K (o::r)) L1 fun r=>K (L++r))
  (fun k _ ih L1 L K=>match L1 with
    | []=>False
    | o::L1=>renObK m o fun o=>setLK k o L fun L=>ih L1 L K)
def renAllK (m:Nat→Option Nat):List Ob→(List Ob→Prop)→Prop:=
 @List.rec Ob (fun _=>(List Ob→Prop)→Prop) (fun K=>K []) (fun o _ ih K=>renObK m o fun o=>ih fun r=>K (o::r))
theorem renAllK_eq {m:Nat→Option Nat}:∀ {L:List Ob} {K:List Ob→Prop},renAllK m L K→∃ L',K L'∧L'.length=L.length∧∀ (i:Nat) o o',L[i]?=some o→L'[i]?=some o'→ObRen m o o'
 | [],K,h=>⟨[],h,rfl,by simp⟩
 | o::L,K,h=>by
  change renObK m o (fun o=>renAllK m L fun r=>K (o::r)) at h
  obtain ⟨o',h1,h2⟩:=renObK_eq h
  obtain ⟨L',h3,h4,h5⟩:=renAllK_eq h2
  refine ⟨_,h3,by simp [h4],fun i a b ha hb=>?_⟩
  cases i with
  | zero=>simp at ha hb;subst ha;subst hb;exact h1
  | succ i=>exact h5 i a b (by simpa using ha) (by simpa using hb)
theorem bringK_nil {m:Nat→Option Nat} {L1 L:List Ob} {K:List Ob→Prop}:bringK m [] L1 L K=renAllK m L1 fun r=>K (L++r):=rfl
theorem bringK_cons {m:Nat→Option Nat} {k:Nat} {ks:List Nat} {o:Ob} {L1 L:List Ob} {K:List Ob→Prop}:bringK m (k::ks) (o::L1) L K=renObK m o fun o=>setLK k o L fun L=>bringK m ks L1 L K:=rfl
theorem bringK_eq {m:Nat→Option Nat}:∀ {ks:List Nat} {L1 L:List Ob} {K:List Ob→Prop},nodupB ks=true→(∀ k∈ks,k < L.length)→bringK m ks L1 L K →
  ∃ L',K L'∧ks.length≤L1.length∧L'.length=L.length+(L1.length - ks.length) ∧
   (∀ k,k < L.length→k∉ks→L'[k]?=L[k]?) ∧
   (∀ (i k:Nat),ks[i]?=some k→∃ o o',L1[i]?=some o∧L'[k]?=some o'∧ObRen m o o') ∧
   (∀ (i:Nat) o,L1[ks.length+i]?=some o→∃ o',L'[L.length+i]?=some o'∧ObRen m o o')
 | [],L1,L,K,_,_,h=>by
  rw [bringK_nil] at h
  obtain ⟨R,h1,h2,h3⟩:=renAllK_eq h
  refine ⟨_,h1,Nat.zero_le _,by simp [h2],fun k hk _=>by rw [List.getElem?_append_left hk],by simp,fun i o ho=>?_⟩
  simp only [List.length_nil,Nat.zero_add] at ho
  have hi:i < R.length:=by rw [h2];exact (List.getElem?_eq_some_iff.1 ho).1
  refine ⟨R[i],?_,h3 i o _ ho (List.getElem?_eq_getElem hi)⟩
  rw [List.getElem?_append_right (by omega),Nat.add_sub_cancel_left,List.getElem?_eq_getElem hi]
 | k::ks,[],L,K,_,_,h=>h.elim
 | k::ks,o::L1,L,K,hnd,hlt,h=>by
  rw [bringK_cons] at h
  obtain ⟨o',h1,h2⟩:=renObK_eq h
  have h2:=setLK_eq h2
  have hk:k∉ks:=by
   simp only [nodupB] at hnd
   split at hnd
   ·cases hnd
   ·rename_i hm;exact memB_mem hm
  have hnd':nodupB ks=true:=by
   simp only [nodupB] at hnd
   split at hnd
   ·cases hnd
   ·exact hnd
  obtain ⟨L',h3,h4,h5,h6,h7,h8⟩:=bringK_eq hnd' (fun j hj=>by rw [List.length_set];exact hlt j (List.mem_cons_of_mem _ hj)) h2
  simp only [List.length_set] at h5 h6 h8
  have hkl:=hlt k (by simp)
  refine ⟨L',h3,by simp;omega,by simp only [List.length_cons];omega,fun j hj hjk=>?_,fun i j hij=>?_,fun i x hx=>h8 i x (by simpa [Nat.add_right_comm] using hx)⟩
  ·rw [h6 j hj (fun h=>hjk (List.mem_cons_of_mem _ h)),List.getElem?_set_ne (fun e=>hjk (by simp [e]))]
  ·cases i with
   | zero=>
    simp at hij
    subst hij
    exact ⟨o,o',by simp,by rw [h6 k hkl hk,List.getElem?_set_self hkl],h1⟩
   | succ i=>
    obtain ⟨a,b,h9,h10,h11⟩:=h7 i j (by simpa using hij)
    exact ⟨a,b,by simpa using h9,h10,h11⟩
theorem ObRen.cells_inv {m:Nat→Option Nat} {o:Ob} {ds:List D} (h:ObRen m o (.cells ds)):∃ ds',o= .cells ds':=by
 cases o<;>simp only [ObRen] at h
 ·exact ⟨_,rfl⟩
 ·obtain ⟨_,h,_⟩:=h;cases h
 ·cases h
 ·cases h.1
 ·cases h
theorem ObRen.map_inv {m:Nat→Option Nat} {o:Ob} {ds:List (D×D)} (h:ObRen m o (.map ds)):o= .map ds:=by
 cases o<;>simp only [ObRen] at h
 ·obtain ⟨_,h,_⟩:=h;cases h
 ·obtain ⟨_,h,_⟩:=h;cases h
 ·cases h
 ·rw [h.1]
 ·cases h
theorem ObRen.spare_inv {m:Nat→Option Nat} {o:Ob} {n:Nat} (h:ObRen m o (.spare n)):o= .spare n:=by
 cases o<;>simp only [ObRen] at h
 ·obtain ⟨_,h,_⟩:=h;cases h
 ·obtain ⟨_,h,_⟩:=h;cases h
 ·rw [h]
 ·cases h.1
 ·cases h
theorem ObRen.arr_inv {m:Nat→Option Nat} {o:Ob} {e:Nat} {ds:List D} (h:ObRen m o (.arr e ds)):∃ ds',o= .arr e ds'∧ds'.length=ds.length:=by
 cases o<;>simp only [ObRen] at h
 ·obtain ⟨_,h,_⟩:=h;cases h
 ·obtain ⟨_,h,h1,_⟩:=h;cases h;exact ⟨_,rfl,h1⟩
 ·cases h
 ·cases h.1
 ·cases h
theorem renOk_of {m:Nat→Option Nat} {ρ:Pl} {L:List Ob} {ρ':Pl} {L':List Ob}
  (h:∀ k k',m k=some k'→k < L.length→ρ' k'=ρ k∧∃ o o',L[k]?=some o∧L'[k']?=some o'∧ObRen m o o'):RenOk m ρ L ρ' L':=by
 refine ⟨fun k k' h1 h2=>?_,fun k k' h1 h2=>(h k k' h1 h2).1,fun k k' ds h1 h2 h3=>?_,fun k k' ds h1 h2 h3=>?_,fun k k' n h1 h2 h3=>?_,fun k k' e ds h1 h2 h3=>?_⟩
 all_goals obtain ⟨_,o,o',g1,g2,g3⟩:=h k k' h1 h2
 ·exact (List.getElem?_eq_some_iff.1 g2).1
 all_goals
  rw [h3] at g2
  cases g2
 ·obtain ⟨ds',rfl⟩:=g3.cells_inv;exact ⟨_,g1⟩
 ·have:=g3.map_inv;subst this;exact ⟨_,g1⟩
 ·have:=g3.spare_inv;subst this;exact g1
 ·obtain ⟨ds',rfl,h4⟩:=g3.arr_inv;exact ⟨_,g1,h4⟩
theorem frame_call {P:Program} {f:Nat} {spec:Spec} (hm:Meets P f spec) {ks js:List Nat} {as as1:List D} {L L1:List Ob} {d1 d:D} {L1' L':List Ob}
  (hnd:nodupB ks=true) (hks:∀ k∈ks,k < L.length) (hjs:∀ i,i < ks.length→js[i]?=ks[i]?) (hjn:∀ (i:Nat) j,js[ks.length+i]?=some j→j=L.length+i)
  (has:RenLOf (keepAt ks 0) as as1) (hL1:L1.length=ks.length) (hL1o:∀ (i:Nat) o',L1[i]?=some o'→∃ j o,ks[i]?=some j∧L[j]?=some o∧ObRen (keepAt ks 0) o o')
  (hs:spec as1 L1 d1 L1') (hd:RenOf (nthO js) d1 d)
  (hle:ks.length≤L1'.length) (hlen:L'.length=L.length+(L1'.length - ks.length))
  (hsame:∀ k,k < L.length→k∉ks→L'[k]?=L[k]?)
  (hback:∀ (i k:Nat),ks[i]?=some k→∃ o o',L1'[i]?=some o∧L'[k]?=some o'∧ObRen (nthO js) o o')
  (hnew:∀ (i:Nat) o,L1'[ks.length+i]?=some o→∃ o',L'[L.length+i]?=some o'∧ObRen (nthO js) o o')
  {w:World} {ρ:Pl} {vs:List Value} (hf:Fits w ρ L) (hr:RepL w (foot ρ L) ρ L as vs) :
  Calls P f vs.toArray w fun e w'=>∃ v ρ',e= .returned v∧Post w ρ L d L' v w' ρ':=by
 have hnd:=nodupB_eq hnd
 have hkeep:∀ k k',keepAt ks 0 k=some k'→ks[k']?=some k:=fun k k' h=>by
  have:=(keepAt_get h).2
  simpa using this
 have hmem:∀ {k:Nat},k∈ks→∃ i,ks[i]?=some k:=fun h=>by
  obtain ⟨i,hi,rfl⟩:=List.getElem_of_mem h
  exact ⟨i,List.getElem?_eq_getElem hi⟩
 let F1:Nat→Nat→Prop:=fun b off=>∃ k o,k∉ks∧L[k]?=some o∧o.owns (ρ k) b off
 let ρ1:Pl:=⟨fun i=>ρ ((ks[i]?).getD 0),fun b off=>F1 b off∨ρ.hid b off⟩
 have hρ1:∀ i j,ks[i]?=some j→ρ1 i=ρ j:=fun i j h=>by show ρ ((ks[i]?).getD 0)=ρ j;rw [h];rfl
 have hF1:∀ b off,F1 b off→own ρ L b off:=fun b off ⟨k,o,_,h1,h2⟩=>⟨k,o,h1,h2⟩
 have hown1:∀ b off,own ρ1 L1 b off→own ρ L b off∧¬ F1 b off:=by
  rintro b off ⟨i,o',h1,h2⟩
  obtain ⟨j,o,h3,h4,h5⟩:=hL1o i o' h1
  rw [hρ1 _ _ h3] at h2
  have h2:=(h5.owns _ _ _).1 h2
  refine ⟨⟨j,o,h4,h2⟩,fun ⟨k,x,h6,h7,h8⟩=>?_⟩
  have:=hf.disj _ _ _ _ _ _ h4 h7 h2 h8
  subst this
  exact h6 (List.mem_of_getElem? h3)
 have hfoot1:∀ b off,foot ρ1 L1 b off→foot ρ L b off:=by
  rintro b off (h | h | h)
  ·exact .inl (hown1 _ _ h).1
  ·exact .inl (hF1 _ _ h)
  ·exact .inr h
 have hren1:RenOk (keepAt ks 0) ρ L ρ1 L1:=renOk_of fun k k' h1 h2=>by
  have hk:=hkeep _ _ h1
  have hlt:k' < L1.length:=by rw [hL1];exact (List.getElem?_eq_some_iff.1 hk).1
  obtain ⟨j,o,h3,h4,h5⟩:=hL1o k' _ (List.getElem?_eq_getElem hlt)
  rw [hk] at h3
  cases h3
  exact ⟨hρ1 _ _ hk,o,_,h4,List.getElem?_eq_getElem hlt,h5⟩
 have hfits1:Fits w ρ1 L1:=by
  refine ⟨hf.glob.less hfoot1,fun b off h=>?_,fun b off h h'=>?_,fun i o' hi=>?_,fun i i' o o' b off h1 h2 h3 h4=>?_⟩
  ·rcases h with h | h
   ·exact hf.foot_lt (.inl (hF1 _ _ h))
   ·exact hf.hid _ _ h
  ·rcases h' with h' | h'
   ·exact (hown1 _ _ h).2 h'
   ·exact hf.sep _ _ (hown1 _ _ h).1 h'
  ·obtain ⟨j,o,h3,h4,h5⟩:=hL1o i o' hi
   rw [hρ1 _ _ h3]
   exact (hf.obj j o h4).ren hren1 hfoot1 h5
  ·obtain ⟨j,x,h5,h6,h7⟩:=hL1o i o h1
   obtain ⟨j',x',k5,k6,k7⟩:=hL1o i' o' h2
   rw [hρ1 _ _ h5] at h3
   rw [hρ1 _ _ k5] at h4
   have:=hf.disj j j' x x' b off h6 k6 ((h7.owns _ _ _).1 h3) ((k7.owns _ _ _).1 h4)
   subst this
   exact hnd _ _ _ h5 k5
 have hrep1:RepL w (foot ρ1 L1) ρ1 L1 as1 vs:=⟨hr.1.trans has.1,fun i d v h1 h2=>by
  have hlt:i < as.length:=by rw [has.1];exact (List.getElem?_eq_some_iff.1 h1).1
  exact has.2 i _ d (List.getElem?_eq_getElem hlt) h1 _ _ _ _ _ _ _ _ hren1 hfoot1 (hr.2 i _ v (List.getElem?_eq_getElem hlt) h2)⟩
 refine (hm.2 as1 L1 d1 L1' hs w ρ1 vs hfits1 hrep1).mono ?_
 rintro e w' ⟨v,ρ1',he,hp⟩
 let ρ':Pl:=⟨fun k=>match keepAt ks 0 k with | some i=>ρ1' i | none=>if k < L.length then ρ k else ρ1' (ks.length+(k - L.length)),ρ.hid⟩
 have hkn:∀ k,k∉ks→keepAt ks 0 k=none:=fun k hk=>by
  cases h:keepAt ks 0 k with
  | none=>rfl
  | some i=>exact (hk (List.mem_of_getElem? (hkeep _ _ h))).elim
 have hkeepAt:∀ i k,ks[i]?=some k→keepAt ks 0 k=some i:=fun i k h=>by
  have:∀ (js:List Nat) (q:Nat),k∈js→∃ r,keepAt js q k=some r:=by
   intro js
   induction js with
   | nil=>intro q h;simp at h
   | cons a js ih=>
    intro q h
    simp only [keepAt]
    split
    ·exact ⟨_,rfl⟩
    ·rename_i hb
     refine ih _ ((List.mem_cons.1 h).resolve_left fun e=>?_)
     subst e
     simp at hb
  obtain ⟨r,hr⟩:=this ks 0 (List.mem_of_getElem? h)
  rw [hr,hnd _ _ _ (hkeep _ _ hr) h]
 have hp1:∀ i k,ks[i]?=some k→ρ' k=ρ1' i:=fun i k h=>by
  show (match keepAt ks 0 k with | some i=>ρ1' i | none=>if k < L.length then ρ k else ρ1' (ks.length+(k - L.length)))=ρ1' i
  rw [hkeepAt _ _ h]
 have hp2:∀ k,k∉ks→k < L.length→ρ' k=ρ k:=fun k h1 h2=>by
  show (match keepAt ks 0 k with | some i=>ρ1' i | none=>if k < L.length then ρ k else ρ1' (ks.length+(k - L.length)))=ρ k
  rw [hkn _ h1];simp [h2]
 have hp3:∀ i,ρ' (L.length+i)=ρ1' (ks.length+i):=fun i=>by
  show (match keepAt ks 0 (L.length+i) with | some i=>ρ1' i | none=>if L.length+i < L.length then ρ (L.length+i) else ρ1' (ks.length+(L.length+i - L.length)))=_
  rw [hkn _ (fun h=>by have:=hks _ h;omega)]
  show (if L.length+i < L.length then ρ (L.length+i) else ρ1' (ks.length+(L.length+i - L.length)))=_
  rw [if_neg (by omega),Nat.add_sub_cancel_left]
 have hfrom:∀ (k:Nat) o,L'[k]?=some o→(k < L.length∧k∉ks∧L[k]?=some o∧ρ' k=ρ k)∨(∃ i o1,L1'[i]?=some o1∧ObRen (nthO js) o1 o∧ρ' k=ρ1' i∧((i < ks.length∧ks[i]?=some k)∨(ks.length≤i∧k=L.length+(i - ks.length)))):=by
  intro k o hk
  rcases Nat.lt_or_ge k L.length with hlt | hge
  ·rcases Classical.em (k∈ks) with hin | hin
   ·obtain ⟨i,hi⟩:=hmem hin
    obtain ⟨o1,o',h1,h2,h3⟩:=hback i k hi
    rw [hk] at h2
    cases h2
    exact .inr ⟨i,o1,h1,h3,hp1 _ _ hi,.inl ⟨(List.getElem?_eq_some_iff.1 hi).1,hi⟩⟩
   ·rw [hsame k hlt hin] at hk
    exact .inl ⟨hlt,hin,hk,hp2 k hin hlt⟩
  ·have hkl:=(List.getElem?_eq_some_iff.1 hk).1
   obtain ⟨i,rfl⟩:∃ i,k=L.length+i:=⟨k - L.length,by omega⟩
   have hil:ks.length+i < L1'.length:=by omega
   obtain ⟨o',h1,h2⟩:=hnew i _ (List.getElem?_eq_getElem hil)
   rw [hk] at h1
   cases h1
   exact .inr ⟨ks.length+i,_,List.getElem?_eq_getElem hil,h2,hp3 i,.inr ⟨by omega,by omega⟩⟩
 have hto:∀ (i:Nat) o1,L1'[i]?=some o1→∃ k o,L'[k]?=some o∧ObRen (nthO js) o1 o∧ρ' k=ρ1' i∧((i < ks.length∧ks[i]?=some k)∨(ks.length≤i∧k=L.length+(i - ks.length))):=by
  intro i o1 hi
  rcases Nat.lt_or_ge i ks.length with hlt | hge
  ·have hki:=List.getElem?_eq_getElem hlt
   obtain ⟨o,o',h1,h2,h3⟩:=hback i _ hki
   rw [hi] at h1
   cases h1
   exact ⟨_,o',h2,h3,hp1 _ _ hki,.inl ⟨hlt,hki⟩⟩
  ·obtain ⟨q,rfl⟩:∃ q,i=ks.length+q:=⟨i - ks.length,by omega⟩
   obtain ⟨o',h1,h2⟩:=hnew q o1 hi
   exact ⟨_,o',h1,h2,hp3 q,.inr ⟨by omega,by omega⟩⟩
 have hown':∀ b off,own ρ' L' b off→F1 b off∨own ρ1' L1' b off:=by
  rintro b off ⟨k,o,h1,h2⟩
  rcases hfrom k o h1 with ⟨_,h3,h4,h5⟩ | ⟨i,o1,h3,h4,h5,_⟩
  ·rw [h5] at h2;exact .inl ⟨k,o,h3,h4,h2⟩
  ·rw [h5] at h2;exact .inr ⟨i,o1,h3,(h4.owns _ _ _).1 h2⟩
 have hownB:∀ b off,F1 b off∨own ρ1' L1' b off→own ρ' L' b off:=by
  rintro b off (⟨k,o,h1,h2,h3⟩ | ⟨i,o1,h1,h2⟩)
  ·have hlt:=(List.getElem?_eq_some_iff.1 h2).1
   exact ⟨k,o,by rw [hsame k hlt h1,h2],by rw [hp2 k h1 hlt];exact h3⟩
  ·obtain ⟨k,o,h3,h4,h5,_⟩:=hto i o1 h1
   exact ⟨k,o,h3,by rw [h5];exact (h4.owns _ _ _).2 h2⟩
 have hhid1:∀ b off,ρ1'.hid b off↔F1 b off∨ρ.hid b off:=fun b off=>by rw [hp.compat.hid]
 have hfoot':∀ b off,foot ρ' L' b off→foot ρ1' L1' b off:=by
  rintro b off (h | h)
  ·rcases hown' _ _ h with h | h
   ·exact .inr ((hhid1 _ _).2 (.inl h))
   ·exact .inl h
  ·exact .inr ((hhid1 _ _).2 (.inr h))
 have hm':∀ i k,nthO js i=some k→i < L1'.length→(i < ks.length∧ks[i]?=some k)∨(ks.length≤i∧k=L.length+(i - ks.length)):=fun i k h1 h2=>by
  rw [nthO_eq] at h1
  rcases Nat.lt_or_ge i ks.length with hlt | hge
  ·rw [hjs i hlt] at h1;exact .inl ⟨hlt,h1⟩
  ·refine .inr ⟨hge,hjn (i - ks.length) k ?_⟩
   rw [show ks.length+(i - ks.length)=i by omega];exact h1
 have hren':RenOk (nthO js) ρ1' L1' ρ' L':=renOk_of fun i k h1 h2=>by
  obtain ⟨k',o,h3,h4,h5,h6⟩:=hto i _ (List.getElem?_eq_getElem h2)
  have:k'=k:=by
   rcases hm' i k h1 h2 with ⟨a,b⟩ | ⟨a,b⟩<;>rcases h6 with ⟨c,d⟩ | ⟨c,d⟩
   ·rw [b] at d;cases d;rfl
   ·omega
   ·omega
   ·omega
  subst this
  exact ⟨h5,_,o,List.getElem?_eq_getElem h2,h3,h4⟩
 have hc:Compat ρ L ρ' L':=by
  have get:∀ (k:Nat) o',k < L.length→L'[k]?=some o'→(L[k]?=some o'∧ρ' k=ρ k)∨∃ i o o1 o2,ks[i]?=some k∧i < L1.length∧L[k]?=some o∧L1[i]?=some o1∧ObRen (keepAt ks 0) o o1∧L1'[i]?=some o2∧ObRen (nthO js) o2 o'∧ρ' k=ρ1' i∧ρ1 i=ρ k:=by
   intro k o' hk h
   rcases hfrom k o' h with ⟨_,_,h3,h4⟩ | ⟨i,o2,h3,h4,h5,h6⟩
   ·exact .inl ⟨h3,h4⟩
   ·rcases h6 with ⟨h6,h7⟩ | ⟨h6,h7⟩
    ·have hi1:i < L1.length:=by omega
     obtain ⟨j,o,h8,h9,h10⟩:=hL1o i _ (List.getElem?_eq_getElem hi1)
     rw [h7] at h8
     cases h8
     exact .inr ⟨i,o,_,o2,h7,hi1,h9,List.getElem?_eq_getElem hi1,h10,h3,h4,h5,hρ1 _ _ h7⟩
    ·omega
  refine ⟨rfl,by omega,fun k ds' hk h=>?_,fun k ds' hk h=>?_,fun k n hk h=>?_,fun k e ds' hk h=>?_⟩
  all_goals rcases get k _ hk h with ⟨h1,h2⟩ | ⟨i,o,o1,o2,g1,g2,g3,g4,g5,g6,g7,g8,g9⟩
  ·exact ⟨_,h1,h2⟩
  ·obtain ⟨d2,rfl⟩:=g7.cells_inv
   obtain ⟨d3,h3,h4⟩:=hp.compat.cells i d2 g2 g6
   rw [g4] at h3;cases h3
   obtain ⟨d4,rfl⟩:=g5.cells_inv
   exact ⟨d4,g3,by rw [g8,h4,g9]⟩
  ·exact ⟨_,h1,h2⟩
  ·have:=g7.map_inv
   subst this
   obtain ⟨d3,h3,h4⟩:=hp.compat.map i _ g2 g6
   rw [g4] at h3;cases h3
   have:=g5.map_inv
   subst this
   exact ⟨_,g3,by rw [g8,h4,g9]⟩
  ·exact ⟨_,h1,Nat.le_refl _,fun _=>h2⟩
  ·have:=g7.spare_inv
   subst this
   obtain ⟨n3,h3,h4,h5⟩:=hp.compat.spare i _ g2 g6
   rw [g4] at h3;cases h3
   have:=g5.spare_inv
   subst this
   exact ⟨_,g3,h4,fun e=>by rw [g8,h5 e,g9]⟩
  ·exact ⟨_,h1,Nat.le_refl _,fun _=>h2⟩
  ·obtain ⟨d2,rfl,l2⟩:=g7.arr_inv
   obtain ⟨d3,h3,h4,h5⟩:=hp.compat.arr i _ _ g2 g6
   rw [g4] at h3;cases h3
   obtain ⟨d4,rfl,l4⟩:=g5.arr_inv
   exact ⟨d4,g3,by omega,fun e=>by rw [g8,h5 (by omega),g9]⟩
 have hfresh:Fresh w (own ρ L) (own ρ' L'):=fun b off h=>by
  rcases hown' _ _ h with h | h
  ·exact .inl (hF1 _ _ h)
  ·rcases hp.fresh b off h with h | h
   ·exact .inl (hown1 _ _ h).1
   ·exact .inr h
 have hsep:∀ b off,F1 b off→own ρ1' L1' b off→False:=fun b off h1 h2=>hp.fits.sep b off h2 ((hhid1 _ _).2 (.inl h1))
 refine ⟨v,ρ',he,?_,?_,hp.ext.mono fun b off _ h=>(hown1 _ _ h).1,hfresh,hc⟩
 ·refine hf.change (own ρ1 L1) (fun b off h=>(hown1 _ _ h).1) hp.ext hc hfresh (fun k k' o o' b off h1 h2 h3 h4=>?_) fun k o hk=>?_
  ·rcases hfrom k o h1 with ⟨a1,a2,a3,a4⟩ | ⟨i,o1,a1,a2,a3,a4⟩<;>rcases hfrom k' o' h2 with ⟨b1,b2,b3,b4⟩ | ⟨i',o1',b1,b2,b3,b4⟩
   ·rw [a4] at h3;rw [b4] at h4
    exact hf.disj _ _ _ _ _ _ a3 b3 h3 h4
   ·rw [a4] at h3;rw [b3] at h4
    exact (hsep b off ⟨k,o,a2,a3,h3⟩ ⟨i',o1',b1,(b2.owns _ _ _).1 h4⟩).elim
   ·rw [a3] at h3;rw [b4] at h4
    exact (hsep b off ⟨k',o',b2,b3,h4⟩ ⟨i,o1,a1,(a2.owns _ _ _).1 h3⟩).elim
   ·rw [a3] at h3;rw [b3] at h4
    have:=hp.fits.disj _ _ _ _ _ _ a1 b1 ((a2.owns _ _ _).1 h3) ((b2.owns _ _ _).1 h4)
    subst this
    rcases a4 with ⟨c1,c2⟩ | ⟨c1,c2⟩<;>rcases b4 with ⟨d1,d2⟩ | ⟨d1,d2⟩
    ·rw [c2] at d2;cases d2;rfl
    ·omega
    ·omega
    ·omega
  ·rcases hfrom k o hk with ⟨a1,a2,a3,a4⟩ | ⟨i,o1,a1,a2,a3,a4⟩
   ·exact .inl ⟨a1,a3,a4,fun b off h h'=>(hown1 _ _ h').2 ⟨k,o,a2,a3,h⟩⟩
   ·refine .inr ?_
    rw [a3]
    exact (hp.fits.obj i o1 a1).ren hren' hfoot' a2
 ·exact hd _ _ _ _ _ _ _ _ hren' hfoot' hp.rep
def prefB:List Nat→List Nat→Nat→Bool
 | [],js,n=>fromB js n
 | _::_,[],_=>false
 | k::ks,j::js,n=>match Nat.beq j k with
  | true=>prefB ks js n
  | false=>false
theorem prefB_eq:∀ {ks js:List Nat} {n:Nat},prefB ks js n=true→(∀ i,i < ks.length→js[i]?=ks[i]?)∧∀ (i:Nat) j,js[ks.length+i]?=some j→j=n+i
 | [],js,n,h=>⟨fun i hi=>by simp at hi,fun i j hj=>fromB_eq h i j (by simpa using hj)⟩
 | k::ks,[],n,h=>by simp [prefB] at h
 | k::ks,j::js,n,h=>by
  simp only [prefB] at h
  split at h
  ·rename_i hb
   have:=Nat.eq_of_beq_eq_true hb
   subst this
   obtain ⟨h1,h2⟩:=prefB_eq h
   refine ⟨fun i hi=>?_,fun i a ha=>h2 i a ?_⟩
   ·cases i with
    | zero=>simp
    | succ i=>simpa using h1 i (by simpa using hi)
   ·rw [List.length_cons,Nat.add_right_comm,List.getElem?_cons_succ] at ha
    exact ha
  ·cases h
theorem call_shift {P:Program} {f:Nat} {as as1:List D} {L L1:List Ob} {φ:D→D→Prop} {KP:D→Prop} {KW:D→List Ob→Prop} (hS:Shift L.length φ L L1)
  (has:as.length=as1.length∧∀ (i:Nat) d d',as[i]?=some d→as1[i]?=some d'→φ d d') (h:CallS P f as1 L1 (fun _=>False) KW):CallS P f as L KP KW:=by
 rcases h with ⟨spec,hm,h⟩ | ⟨d,L',h1,h2,h3⟩
 ·obtain ⟨_,_,_,_,h⟩:=stripLK_eq h
  exact h.elim
 ·refine .inr ⟨d,L',fun w ρ vs hf hr=>?_,h2,h3⟩
  obtain ⟨ρ1,g1,g2,g3,g4⟩:=hS w ρ hf
  refine (h1 w ρ1 vs g1 ⟨hr.1.trans has.1,fun i d v hd hv=>?_⟩).mono ?_
  ·have hlt:i < as.length:=by rw [has.1];exact (List.getElem?_eq_some_iff.1 hd).1
   exact g2 _ _ _ (has.2 i _ d (List.getElem?_eq_getElem hlt) hd) (hr.2 i _ v (List.getElem?_eq_getElem hlt) hv)
  ·rintro e w' ⟨v,ρ',he,hp⟩
   exact ⟨v,ρ',he,hp.fits,hp.rep,hp.ext.mono fun b off _ h=>g3 b off h,fun b off h=>(hp.fresh b off h).imp (g3 b off) id,(g4 ρ L rfl (.refl _ _)).trans hp.compat⟩
mutual
theorem stripK_mono:∀ {d:D} {K K':D→Prop},stripK d K→(∀ x,K x→K' x)→stripK d K'
 | .agg ds,K,K',h,hK=>stripLK_mono (ds:=ds) (K:=fun ds=>K (.agg ds)) (K':=fun ds=>K' (.agg ds)) h fun x=>hK _
 | .tup ds,K,K',h,hK=>stripLK_mono (ds:=ds) (K:=fun ds=>K (.tup ds)) (K':=fun ds=>K' (.tup ds)) h fun x=>hK _
 | .fn f ds,K,K',h,hK=>stripLK_mono (ds:=ds) (K:=fun ds=>K (.fn f ds)) (K':=fun ds=>K' (.fn f ds)) h fun x=>hK _
 | .any,_,_,h,hK=>hK _ h
 | .int _ _,_,_,h,hK=>hK _ h
 | .bool _,_,_,h,hK=>hK _ h
 | .tt,_,_,h,hK=>hK _ h
 | .ff,_,_,h,hK=>hK _ h
 | .str _,_,_,h,hK=>hK _ h
 | .nilsl,_,_,h,hK=>hK _ h
 | .sl _ _ _,_,_,h,hK=>hK _ h
 | .nilp,_,_,h,hK=>hK _ h
 | .ptr _,_,_,h,hK=>hK _ h
 | .nilmap,_,_,h,hK=>hK _ h
 | .nilfn,_,_,h,hK=>hK _ h
 | .nilif,_,_,h,hK=>hK _ h
 | .iface _ _,_,_,h,hK=>hK _ h
 | .osl _ _ _ _ _,K,_,h,_=>False.elim h
 | .loc _ _,K,_,h,_=>False.elim h
 | .aloc _ _ _ _,K,_,h,_=>False.elim h
 | .cloc _ _,K,_,h,_=>False.elim h
 | .mp _,K,_,h,_=>False.elim h
theorem stripLK_mono:∀ {ds:List D} {K K':List D→Prop},stripLK ds K→(∀ x,K x→K' x)→stripLK ds K'
 | [],_,_,h,hK=>hK _ h
 | d::ds,_,_,h,hK=>by
  rename_i K K'
  exact stripK_mono (K:=fun d=>stripLK ds fun ds=>K (d::ds)) (K':=fun d=>stripLK ds fun ds=>K' (d::ds)) h fun x hx=>stripLK_mono hx fun y=>hK _
end
def SpecF {α:Type} (I:α→Prop) (A:α→List D) (O:α→List Ob) (R:α→D) (O':α→List Ob):Spec:=fun as L d L'=>∃ p,I p∧LeL as (A p)∧L=O p∧d=R p∧L'=O' p
abbrev SpecP {α:Type} (I:α→Prop) (A:α→List D) (R:α→D):Spec:=SpecF I A (fun _=>[]) R (fun _=>[])
section
variable {P : Program} {f : Nat} {as : List D} {L : List Ob} {KP : D → Prop} {KW : D → List Ob → Prop} {α : Type} {I : α → Prop} {A : α → List D} {O : α → List Ob} {R : α → D} {O' : α → List Ob}
theorem call_p (h:Meets P f (SpecP I A R)) (p:α) (hI:I p) (has:stripLK as fun as=>VS (LeL as (A p))) (hK:KP (R p)):CallS P f as L KP KW:=
 call_pure h (stripLK_mono has fun as' h1=>⟨_,⟨p,hI,h1.out,rfl,rfl,rfl⟩,hK⟩)
theorem call_f (h:Meets P f (SpecF I A O R O')) (ks js:List Nat) (p:α) (hI:I p) (hnd:nodupB ks=true) (hjs:prefB ks js L.length=true)
  (has:renLK (keepAt ks 0) as fun as1=>keepK (keepAt ks 0) ks L fun L1=>VS (LeL as1 (A p))∧VS (L1=O p)∧renK (nthO js) (R p) fun d=>bringK (nthO js) ks (O' p) L fun L'=>KW d L'):CallS P f as L KP KW:=by
 obtain ⟨as1,h1,h2⟩:=renLK_eq has
 obtain ⟨L1,⟨e1,e2,h3⟩,h4,h5⟩:=keepK_eq h2
 obtain ⟨d,h7,h8⟩:=renK_eq h3
 have hks:∀ k∈ks,k < L.length:=fun k hk=>by
  obtain ⟨i,hi,rfl⟩:=List.getElem_of_mem hk
  have hil:i < L1.length:=by omega
  obtain ⟨j,o,g1,g2,_⟩:=h5 i _ (List.getElem?_eq_getElem hil)
  rw [List.getElem?_eq_getElem hi] at g1
  cases g1
  exact (List.getElem?_eq_some_iff.1 g2).1
 obtain ⟨L',h9,h10,h11,h12,h13,h14⟩:=bringK_eq hnd hks h8
 obtain ⟨j1,j2⟩:=prefB_eq hjs
 exact .inr ⟨d,L',fun w ρ vs hf hr=>frame_call h hnd hks j1 j2 h1 h4 h5 ⟨p,hI,e1.out,e2.out,rfl,rfl⟩ h7 h10 h11 h12 h13 h14 hf hr,h.1,h9⟩
theorem meets_f {T : Tab} (hT : TabOk P T) {fn : Func} {c : Code} (hf : P.funcs[f]? = some fn) (hb : fn.body = some c) (hn : (fn.name == "runtime.NumGoroutine") = false)
  (h:∀ p,I p→(O p).length≤(O' p).length∧(A p).length≤fn.ntmps∧∀ E:Entry,E.L=O p→AWP P fn.ntmps E c (FinQ T fn.results.toList (O p).length (R p) (O' p)) (argS 0 (A p)) (O p)) :
  Meets P f (SpecF I A O R O'):=by
 have base:Meets P f (fun as L d L'=>∃ p,I p∧as=A p∧L=O p∧d=R p∧L'=O' p):=by
  refine meets_intro hT hf hb hn ?_
  rintro as L d L' ⟨p,hI,rfl,rfl,rfl,rfl⟩
  exact h p hI
 refine ⟨base.1,?_⟩
 rintro as L d L' ⟨p,hI,has,rfl,rfl,rfl⟩ w ρ vs hf hr
 refine base.2 (A p) _ _ _ ⟨p,hI,rfl,rfl,rfl,rfl⟩ w ρ vs hf ⟨hr.1.trans has.1,fun i d v h1 h2=>?_⟩
 have hlt:i < as.length:=by rw [has.1];exact (List.getElem?_eq_some_iff.1 h1).1
 exact has.2 i _ d (List.getElem?_eq_getElem hlt) h1 _ _ _ _ _ (hr.2 i _ v (List.getElem?_eq_getElem hlt) h2)
end
def edgeO (j:Nat) (o:Oper):Oper:={ o with after:=⟨⟨j,.phase⟩::o.after.toList⟩ }
def edgeL (i j:Nat) (ops:List Oper):List Oper:=ops.modify i (edgeO j)
def moveE (inv:List Nat) (e:Edge):Edge:=⟨inv.getD e.on 0,e.ground⟩
def moveG (inv:List Nat):Option (Nat×Bool)→Option (Nat×Bool)
 | none=>none
 | some (j,b)=>some (inv.getD j 0,b)
def moveO (inv:List Nat) (o:Oper):Oper:={ o with after:=⟨o.after.toList.map (moveE inv)⟩,guard:=moveG inv o.guard }
def invB (n:Nat) (ts inv:List Nat):Bool:=
 (ts.length==n) && (inv.length==n) && ((List.range n).all fun k=>(ts.getD k n < n) && (inv.getD k n < n) && (inv.getD (ts.getD k n) n==k) && (ts.getD (inv.getD k n) n==k))
def backB (ops:List Oper):Bool:=(List.range ops.length).all fun i=>match ops[i]? with
 | some o=>o.after.toList.all (fun e=>!(Region.binds .any e) || e.on < i) && (match o.guard with | some (j,_)=>j < ops.length | none=>true)
 | none=>true
theorem wpOps_same {P:Program} {ops ops':Array Oper} (h:∀ i:Nat,(ops[i]?).map (fun (o:Oper)=>(o.dst,o.op,o.type,o.guard))=(ops'[i]?).map (fun (o:Oper)=>(o.dst,o.op,o.type,o.guard))) {Q:Exit→Act→World→Prop} :
  ∀ (π:List Nat) (a:Act) (w:World),wpOps P ops Q π a w=wpOps P ops' Q π a w
 | [],a,w=>rfl
 | i::π,a,w=>by
  have hy:∀ tmps j,yielded ops tmps j=yielded ops' tmps j:=fun tmps j=>by
   have hj:=h j
   unfold yielded
   have:(ops[j]?).bind (·.dst)=(ops'[j]?).bind (·.dst):=by
    cases h1:ops[j]?<;>cases h2:ops'[j]?<;>simp [h1,h2] at hj ⊢
    exact hj.1
   rw [this]
  have hi:=h i
  simp only [wpOps]
  have ih:wpOps P ops Q π=wpOps P ops' Q π:=by
   funext a w
   exact wpOps_same h π a w
  rw [ih]
  cases h1:ops[i]?<;>cases h2:ops'[i]?<;>simp [h1,h2] at hi ⊢
  rename_i o o'
  obtain ⟨e1,e2,e3,e4⟩:=hi
  have hyy:yielded ops a.tmps=yielded ops' a.tmps:=funext fun j=>hy _ j
  have hw:Region.wanted o (yielded ops a.tmps)=Region.wanted o' (yielded ops' a.tmps):=by
   rw [hyy]
   unfold Region.wanted
   rw [e4]
  rw [hw,e1]
  obtain ⟨d,op,ty,pos,af,g⟩:=o
  obtain ⟨d',op',ty',pos',af',g'⟩:=o'
  simp only at e1 e2 e3 e4
  subst e1 e2 e3 e4
  rfl
theorem sched_mono {ops ops':Array Oper} (hs:ops'.size=ops.size):∀ (π dn:List Nat),(∀ i:Nat,i∉dn→∀ o o',ops[i]?=some o→ops'[i]?=some o'→∀ e∈o'.after.toList,Region.binds .any e=true→e∈o.after.toList∨e.on∈dn) →
  Sched ops dn π→Sched ops' dn π
 | [],dn,_,hS=>fun i hi=>hS i (by omega)
 | i::π,dn,h,⟨h1,h2,h3,h4⟩=>by
  refine ⟨by omega,h2,fun o' ho' e he hb=>?_,sched_mono hs π (i::dn) (fun k hk o o' h5 h6 e he hb=>?_) h4⟩
  ·obtain ⟨o,ho⟩:∃ o,ops[i]?=some o:=⟨_,Array.getElem?_eq_getElem h1⟩
   rcases h i h2 o o' ho ho' e he hb with h | h
   ·exact h3 o ho e h hb
   ·exact h
  ·rcases h k (fun hm=>hk (List.mem_cons_of_mem _ hm)) o o' h5 h6 e he hb with h | h
   ·exact .inl h
   ·exact .inr (List.mem_cons_of_mem _ h)
theorem edgeL_get {x y:Nat} {ops:List Oper} {i:Nat} {o o':Oper} (h1:ops[i]?=some o) (h2:(edgeL y x ops)[i]?=some o'):o'=o∨(i=y∧o'=edgeO x o):=by
 unfold edgeL at h2
 rw [List.getElem?_modify,h1] at h2
 simp at h2
 split at h2
 ·rename_i he;exact .inr ⟨he.symm,h2.symm⟩
 ·exact .inl h2.symm
theorem sched_two {ops:List Oper} {x y:Nat} (hxy:x≠y):∀ (π dn:List Nat),x∉dn→y∉dn→Sched ops.toArray dn π→Sched (edgeL y x ops).toArray dn π∨Sched (edgeL x y ops).toArray dn π
 | [],dn,hx,hy,hS=>.inl fun i hi=>hS i (by simpa [edgeL] using hi)
 | i::π,dn,hx,hy,⟨h1,h2,h3,h4⟩=>by
  have hsz:∀ a b,(edgeL a b ops).toArray.size=ops.toArray.size:=fun a b=>by simp [edgeL]
  have after:∀ a b dn π,b∈dn→Sched ops.toArray dn π→Sched (edgeL a b ops).toArray dn π:=fun a b dn π hb hS=>
   sched_mono (hsz a b) π dn (fun i hi o o' h5 h6 e he _=>by
    rw [List.getElem?_toArray] at h5 h6
    rcases edgeL_get h5 h6 with rfl | ⟨_,rfl⟩
    ·exact .inl he
    ·simp only [edgeO] at he
     rcases List.mem_cons.1 he with rfl | he
     ·exact .inr hb
     ·exact .inl he) hS
  have here:∀ a b,i≠a→∀ o',(edgeL a b ops).toArray[i]?=some o'→∀ e∈o'.after.toList,Region.binds .any e=true→e.on∈dn:=fun a b hia o' ho' e he hb=>by
   rw [List.getElem?_toArray] at ho'
   have hio:=Array.getElem?_eq_getElem h1
   rw [List.getElem?_toArray] at hio
   rcases edgeL_get hio ho' with rfl | ⟨e1,_⟩
   ·exact h3 _ (by rw [List.getElem?_toArray];exact hio) e he hb
   ·exact (hia e1).elim
  by_cases hix:i=x
  ·subst hix
   exact .inl ⟨by rw [hsz];exact h1,h2,here y i hxy,after y i _ _ (by simp) h4⟩
  ·by_cases hiy:i=y
   ·subst hiy
    exact .inr ⟨by rw [hsz];exact h1,h2,here x i hix,after x i _ _ (by simp) h4⟩
   ·rcases sched_two hxy π (i::dn) (fun h=>hx ((List.mem_cons.1 h).resolve_left (Ne.symm hix))) (fun h=>hy ((List.mem_cons.1 h).resolve_left (Ne.symm hiy))) h4 with h | h
    ·exact .inl ⟨by rw [hsz];exact h1,h2,here y x hiy,h⟩
    ·exact .inr ⟨by rw [hsz];exact h1,h2,here x y hix,h⟩
def permL (inv ts:List Nat) (ops:List Oper):List Oper:=ts.map fun i=>moveO inv (ops.getD i default)
structure Inv (n:Nat) (ts inv:List Nat):Prop where
 lt:ts.length=n
 tsl:∀ k,k < n→ts.getD k 0 < n
 invl:∀ k,k < n→inv.getD k 0 < n
 it:∀ k,k < n→inv.getD (ts.getD k 0) 0=k
 ti:∀ k,k < n→ts.getD (inv.getD k 0) 0=k
theorem perm_get {n:Nat} {ts inv:List Nat} (h:Inv n ts inv) {ops:List Oper} (hn:ops.length=n) {i:Nat} {o:Oper} (ho:ops[i]?=some o):(permL inv ts ops)[inv.getD i 0]?=some (moveO inv o):=by
 have hi:i < n:=by rw [← hn];exact (List.getElem?_eq_some_iff.1 ho).1
 have h1:=h.invl i hi
 have h2:=h.ti i hi
 unfold permL
 rw [List.getElem?_map]
 have h3:ts[inv.getD i 0]?=some i:=by
  have hlt:inv.getD i 0 < ts.length:=by rw [h.lt];exact h1
  rw [List.getElem?_eq_getElem hlt]
  rw [List.getD_eq_getElem?_getD,List.getElem?_eq_getElem hlt] at h2
  simpa using h2
 rw [h3]
 simp [ho]
theorem perm_len {n:Nat} {ts inv:List Nat} (h:Inv n ts inv) {ops:List Oper}:(permL inv ts ops).length=n:=by simp [permL,h.lt]
theorem perm_yielded {n:Nat} {ts inv:List Nat} (h:Inv n ts inv) {ops:List Oper} (hn:ops.length=n) {tmps:Array Value} {j:Nat} (hj:j < n):yielded (permL inv ts ops).toArray tmps (inv.getD j 0)=yielded ops.toArray tmps j:=by
 unfold yielded
 have ho:=List.getElem?_eq_getElem (l:=ops) (i:=j) (by omega)
 rw [List.getElem?_toArray,List.getElem?_toArray,perm_get h hn ho,ho]
 rfl
theorem perm_wp {P:Program} {n:Nat} {ts inv:List Nat} (h:Inv n ts inv) {ops:List Oper} (hn:ops.length=n) (hg:∀ (i:Nat) o j b,ops[i]?=some o→o.guard=some (j,b)→j < n) {Q:Exit→Act→World→Prop} :
  ∀ (π:List Nat),(∀ i∈π,i < n)→∀ (a:Act) (w:World),wpOps P (permL inv ts ops).toArray Q (π.map fun i=>inv.getD i 0) a w=wpOps P ops.toArray Q π a w
 | [],_,a,w=>rfl
 | i::π,hπ,a,w=>by
  have ih:wpOps P (permL inv ts ops).toArray Q (π.map fun i=>inv.getD i 0)=wpOps P ops.toArray Q π:=by
   funext a w
   exact perm_wp h hn hg π (fun i hi=>hπ i (List.mem_cons_of_mem _ hi)) a w
  have hi:=hπ i (by simp)
  have ho:=List.getElem?_eq_getElem (l:=ops) (i:=i) (by omega)
  simp only [List.map_cons,wpOps,List.getElem?_toArray,perm_get h hn ho,ho,ih]
  have hw:Region.wanted (moveO inv ops[i]) (yielded (permL inv ts ops).toArray a.tmps)=Region.wanted ops[i] (yielded ops.toArray a.tmps):=by
   unfold Region.wanted moveO
   simp only
   cases hgd:ops[i].guard with
   | none=>rfl
   | some p=>
    obtain ⟨j,b⟩:=p
    simp only [moveG]
    rw [perm_yielded h hn (hg i _ j b ho hgd)]
  rw [hw]
  rfl
theorem perm_sched {n:Nat} {ts inv:List Nat} (h:Inv n ts inv) {ops:List Oper} (hn:ops.length=n):∀ (π dn:List Nat),(∀ i∈dn,i < n)→Sched ops.toArray dn π→Sched (permL inv ts ops).toArray (dn.map fun i=>inv.getD i 0) (π.map fun i=>inv.getD i 0)
 | [],dn,hdn,hS=>fun k hk=>by
  have hk:k < n:=by simpa [perm_len h] using hk
  refine List.mem_map.2 ⟨ts.getD k 0,hS _ (by simpa [hn] using h.tsl k hk),h.it k hk⟩
 | i::π,dn,hdn,⟨h1,h2,h3,h4⟩=>by
  have hi:i < n:=by simpa [hn] using h1
  refine ⟨by simpa [perm_len h] using h.invl i hi,fun hm=>?_,fun o' ho' e he hb=>?_,perm_sched h hn π (i::dn) (fun j hj=>?_) h4⟩
  ·obtain ⟨j,hj,hji⟩:=List.mem_map.1 hm
   have e1:=h.ti i hi
   have e2:=h.ti j (hdn j hj)
   rw [hji] at e2
   rw [e1] at e2
   subst e2
   exact h2 hj
  ·have ho:=List.getElem?_eq_getElem (l:=ops) (i:=i) (by omega)
   rw [List.getElem?_toArray,perm_get h hn ho] at ho'
   cases ho'
   simp only [moveO] at he
   obtain ⟨e0,h5,rfl⟩:=List.mem_map.1 he
   exact List.mem_map.2 ⟨e0.on,h3 _ (by rw [List.getElem?_toArray];exact ho) e0 h5 hb,rfl⟩
  ·rcases List.mem_cons.1 hj with rfl | hj
   ·exact hi
   ·exact hdn j hj
theorem sched_lt {ops:List Oper}:∀ (π dn:List Nat),Sched ops.toArray dn π→∀ i∈π,i < ops.length
 | [],_,_,i,hi=>by simp at hi
 | j::π,dn,⟨h1,_,_,h4⟩,i,hi=>by
  rcases List.mem_cons.1 hi with rfl | hi
  ·simpa using h1
  ·exact sched_lt π _ h4 i hi
theorem invB_eq {n:Nat} {ts inv:List Nat} (h:invB n ts inv=true):Inv n ts inv:=by
 simp only [invB,Bool.and_eq_true,beq_iff_eq,List.all_eq_true,List.mem_range,decide_eq_true_eq] at h
 obtain ⟨⟨h1,h2⟩,h3⟩:=h
 have d:∀ (l:List Nat) k,l.length=n→k < n→l.getD k 0=l.getD k n:=fun l k hl hk=>by
  rw [List.getD_eq_getElem?_getD,List.getD_eq_getElem?_getD,List.getElem?_eq_getElem (by omega)]
  rfl
 refine ⟨h1,fun k hk=>?_,fun k hk=>?_,fun k hk=>?_,fun k hk=>?_⟩
 all_goals
  obtain ⟨⟨⟨a,b⟩,c⟩,e⟩:=h3 k hk
 ·rw [d _ _ h1 hk];exact a
 ·rw [d _ _ h2 hk];exact b
 ·rw [d ts _ h1 hk,d inv _ h2 a];exact c
 ·rw [d inv _ h2 hk,d ts _ h1 b];exact e
def edgesMK (inv:List Nat):List Edge→(List Edge→Prop)→Prop:=
 @List.rec Edge (fun _=>(List Edge→Prop)→Prop) (fun K=>K []) (fun e _ ih K=>match e with
  | ⟨j,g⟩=>nthK j inv fun j=>ih fun r=>K (⟨j,g⟩::r))
theorem edgesMK_eq {inv:List Nat}:∀ {es:List Edge} {K:List Edge→Prop},edgesMK inv es K→K (es.map (moveE inv))
 | [],K,h=>h
 | e::es,K,h=>by
  obtain ⟨j,g⟩:=e
  change nthK j inv (fun j=>edgesMK inv es fun r=>K (⟨j,g⟩::r)) at h
  obtain ⟨k,h1,h2⟩:=nthK_eq h
  have:=edgesMK_eq h2
  simpa [moveE,h1] using this
def guardMK (inv:List Nat) (g:Option (Nat×Bool)) (K:Option (Nat×Bool)→Prop):Prop:=
 match g with
 | none=>K none
 | some (j,b)=>nthK j inv fun j=>K (some (j,b))
theorem guardMK_eq {inv:List Nat} {g:Option (Nat×Bool)} {K:Option (Nat×Bool)→Prop} (h:guardMK inv g K):K (moveG inv g):=by
 unfold guardMK at h
 split at h
 ·exact h
 ·rename_i j b
  obtain ⟨k,h1,h2⟩:=nthK_eq h
  simpa [moveG,h1] using h2
def permK (inv:List Nat) (ops:List Oper):List Nat→(List Oper→Prop)→Prop:=
 @List.rec Nat (fun _=>(List Oper→Prop)→Prop) (fun K=>K []) (fun i _ ih K=>nthK i ops fun o=>match o with
  | ⟨dst,op,ty,pos,⟨af⟩,g⟩=>edgesMK inv af fun af=>guardMK inv g fun g=>ih fun r=>K (⟨dst,op,ty,pos,⟨af⟩,g⟩::r))
theorem permK_eq {inv:List Nat} {ops:List Oper}:∀ {ts:List Nat} {K:List Oper→Prop},permK inv ops ts K→K (permL inv ts ops)
 | [],K,h=>h
 | i::ts,K,h=>by
  change nthK i ops (fun o=>match o with
   | ⟨dst,op,ty,pos,⟨af⟩,g⟩=>edgesMK inv af fun af=>guardMK inv g fun g=>permK inv ops ts fun r=>K (⟨dst,op,ty,pos,⟨af⟩,g⟩::r)) at h
  obtain ⟨o,h1,h2⟩:=nthK_eq h
  obtain ⟨dst,op,ty,pos,⟨af⟩,g⟩:=o
  have h3:=permK_eq (guardMK_eq (edgesMK_eq h2))
  simpa [permL,h1,moveO] using h3
def edgeK (x:Nat):List Oper→Nat→(List Oper→Prop)→Prop:=
 @List.rec Oper (fun _=>Nat→(List Oper→Prop)→Prop) (fun _ K=>K []) (fun o r ih y K=>match y with
  | 0=>match o with
   | ⟨dst,op,ty,pos,⟨af⟩,g⟩=>K (⟨dst,op,ty,pos,⟨⟨x,.phase⟩::af⟩,g⟩::r)
  | y+1=>ih y fun r=>K (o::r))
theorem edgeK_eq {x:Nat}:∀ {ops:List Oper} {y:Nat} {K:List Oper→Prop},edgeK x ops y K→K (edgeL y x ops)
 | [],y,K,h=>by
  have h:K []:=h
  simpa [edgeL] using h
 | ⟨dst,op,ty,pos,⟨af⟩,g⟩::r,0,K,h=>by
  have h:K (⟨dst,op,ty,pos,⟨⟨x,.phase⟩::af⟩,g⟩::r):=h
  simpa [edgeL,edgeO] using h
 | o::r,y+1,K,h=>by
  have h:edgeK x r y fun r=>K (o::r):=h
  have:=edgeK_eq h
  simpa [edgeL] using this
theorem draw_two {P:Program} {T:Tab} (hT:TabOk P T) (hm:P.follows .mixedOrders=true) {n:Nat} {E:Entry} {id:Nat} {ops:Array Oper} {Q:Ex→List (Nat×D)→List Ob→Prop} {σ:List (Nat×D)} {L:List Ob}
  (x y:Nat) (ts inv:List Nat) (hxy:Nat.beq x y=false) (hb:backB ops.toList=true) (hinv:invB ops.toList.length ts inv=true)
  (hA:edgeK x ops.toList y fun l=>VS (drawK P T n l σ L (Q .normal))) (hB:edgeK y ops.toList x fun l=>permK inv l ts fun l=>VS (drawK P T n l σ L (Q .normal))):AWP P n E (.region id ops true) Q σ L:=by
 intro a w hr
 have hA:=(edgeK_eq hA).out
 have hB:=(permK_eq (edgeK_eq hB)).out
 have hinv:=invB_eq hinv
 have hxy:x≠y:=fun e=>by subst e;simp at hxy
 simp only [backB,List.all_eq_true,List.mem_range] at hb
 have hops:∀ (i:Nat) o,ops.toList[i]?=some o→(∀ e∈o.after.toList,Region.binds .any e=true→e.on < i)∧∀ j b,o.guard=some (j,b)→j < ops.toList.length:=fun i o ho=>by
  have h:=hb i (List.getElem?_eq_some_iff.1 ho).1
  rw [ho] at h
  simp only [Bool.and_eq_true,List.all_eq_true,decide_eq_true_eq] at h
  refine ⟨fun e he hbd=>?_,fun j b hg=>?_⟩
  ·have:=h.1 e he
   rw [hbd] at this
   simpa using this
  ·rw [hg] at h
   simpa using h.2
 refine wp_region_draw fun t=>?_
 rw [hm]
 have hS:=sched_any (ops:=ops) (fun i o hi e he hbd=>(hops i o (by simpa using hi)).1 e he hbd) t
 generalize Region.schedule true ops t=π at *
 have hS':Sched ops.toList.toArray [] π:=by simpa using hS
 have same:∀ a b:Nat,∀ i:Nat,((edgeL a b ops.toList).toArray[i]?).map (fun (o:Oper)=>(o.dst,o.op,o.type,o.guard))=(ops[i]?).map (fun (o:Oper)=>(o.dst,o.op,o.type,o.guard)):=fun a b i=>by
  rw [List.getElem?_toArray]
  unfold edgeL
  rw [List.getElem?_modify,Array.getElem?_toList]
  cases ops[i]? with
  | none=>rfl
  | some o=>
   simp only [Option.map_some]
   split<;>rfl
 rcases sched_two hxy π [] (by simp) (by simp) hS' with h | h
 ·have:=(draw_core (ops:=(edgeL y x ops.toList).toArray) hT (by simpa using hA) hr).2 π h
  rwa [wpOps_same (same y x)] at this
 ·have hl:(edgeL x y ops.toList).length=ops.toList.length:=by simp [edgeL]
  have hps:=perm_sched hinv hl π [] (by simp) h
  have:=(draw_core (ops:=(permL inv ts (edgeL x y ops.toList)).toArray) hT (by simpa using hB) hr).2 _ hps
  rw [perm_wp hinv hl (fun i o j b ho hg=>by
   have hi:i < ops.toList.length:=by rw [← hl];exact (List.getElem?_eq_some_iff.1 ho).1
   rcases edgeL_get (List.getElem?_eq_getElem hi) ho with rfl | ⟨_,rfl⟩
   ·exact (hops i _ (List.getElem?_eq_getElem hi)).2 j b hg
   ·exact (hops i _ (List.getElem?_eq_getElem hi)).2 j b hg) π (fun i hi=>by rw [← hl];exact sched_lt π [] h i hi),wpOps_same (same x y)] at this
  exact this
theorem mapM_some {α β:Type} {f:α→Option β}:∀ {l:List α} {xs:List β},l.mapM f=some xs→xs.length=l.length∧∀ (i:Nat) x,l[i]?=some x→∃ y,xs[i]?=some y∧f x=some y
 | [],xs,h=>by simp at h;subst h;simp
 | a::l,xs,h=>by
  simp only [List.mapM_cons,bind,Option.bind_eq_some_iff,pure,Option.some.injEq] at h
  obtain ⟨y,h1,ys,h2,rfl⟩:=h
  obtain ⟨h3,h4⟩:=mapM_some h2
  refine ⟨by simp [h3],fun i x hx=>?_⟩
  cases i with
  | zero=>simp at hx;subst hx;exact ⟨y,by simp,h1⟩
  | succ i=>simpa using h4 i x (by simpa using hx)
inductive Sh where
 | int (k:IntKind)
 | bool
 | str
 | sl (n:Nat) (σ:Sh)
 | fin
 | fld (σ rest:Sh)
 | arr (n:Nat) (σ:Sh)
 | void (n:Nat)
def Sh.size:Sh→Nat
 | .int _=>1
 | .bool=>1
 | .str=>1
 | .sl _ _=>1
 | .fin=>0
 | .fld a b=>a.size+b.size
 | .arr n a=>n * a.size
 | .void n=>n
def Sh.agg:Sh→Bool
 | .fin=>true
 | .fld _ _=>true
 | .arr _ _=>true
 | .void _=>true
 | _=>false
def vdB:Nat→Sh→Bool
 | _,.void _=>false
 | 0,.sl _ _=>true
 | k+1,.sl _ σ=>vdB k σ
 | k,.arr _ σ=>vdB k σ
 | k,.fld a b=>vdB k a && vdB k b
 | _,_=>true
theorem vdB_mono:∀ (σ:Sh) (k:Nat),vdB (k+1) σ=true→vdB k σ=true
 | .int _,_,_=>by simp [vdB]
 | .bool,_,_=>by simp [vdB]
 | .str,_,_=>by simp [vdB]
 | .fin,_,_=>by simp [vdB]
 | .void _,_,h=>by simp [vdB] at h
 | .sl _ σ,0,_=>by simp [vdB]
 | .sl _ σ,k+1,h=>by simp only [vdB] at h ⊢;exact vdB_mono σ k h
 | .arr _ σ,k,h=>by simp only [vdB] at h ⊢;exact vdB_mono σ k h
 | .fld a b,k,h=>by
  simp only [vdB,Bool.and_eq_true] at h ⊢
  exact ⟨vdB_mono a k h.1,vdB_mono b k h.2⟩
def fullB:Sh→Bool
 | .void _=>false
 | .sl _ σ=>fullB σ
 | .arr _ σ=>fullB σ
 | .fld a b=>fullB a && fullB b
 | _=>true
theorem fullB_vd:∀ (σ:Sh) (k:Nat),fullB σ=true→vdB k σ=true
 | .int _,_,_=>by simp [vdB]
 | .bool,_,_=>by simp [vdB]
 | .str,_,_=>by simp [vdB]
 | .fin,_,_=>by simp [vdB]
 | .void _,_,h=>by simp [fullB] at h
 | .sl _ σ,0,_=>by simp [vdB]
 | .sl _ σ,k+1,h=>by simp only [vdB,fullB] at h ⊢;exact fullB_vd σ k h
 | .arr _ σ,k,h=>by simp only [vdB,fullB] at h ⊢;exact fullB_vd σ k h
 | .fld a b,k,h=>by
  simp only [vdB,fullB,Bool.and_eq_true] at h ⊢
  exact ⟨fullB_vd a k h.1,fullB_vd b k h.2⟩
def chk (P:Program):Sh→Sum TypeId (List Field×Nat)→Bool
 | .int k,.inl t=>match P.underlying t with | some (.int q)=>kindEq q k | _=>false
 | .bool,.inl t=>match P.underlying t with | some .bool=>true | _=>false
 | .str,.inl t=>match P.underlying t with | some .string=>true | _=>false
 | .sl n σ,.inl t=>match P.underlying t with | some (.slice e)=>Nat.beq (P.cellsOf e) n && !Nat.beq n 0 && Nat.beq σ.size n && chk P σ (.inl e) | _=>false
 | .arr n σ,.inl t=>match P.underlying t with | some (.array m e)=>Nat.beq m n && Nat.beq (P.cellsOf t) (n * σ.size) && Nat.beq (P.cellsOf e) σ.size && chk P σ (.inl e) | _=>false
 | .fld a b,.inl t=>match P.underlying t with
  | some (.struct fs)=>match fs.toList with
   | f::r=>Nat.beq (P.cellsOf t) (a.size+b.size) && Nat.beq f.offset 0 && Nat.beq (P.cellsOf f.type) a.size && chk P a (.inl f.type) && chk P b (.inr (r,a.size))
   | []=>false
  | _=>false
 | .fld a b,.inr (f::r,off)=>Nat.beq f.offset off && Nat.beq (P.cellsOf f.type) a.size && chk P a (.inl f.type) && chk P b (.inr (r,off+a.size))
 | .fin,.inr ([],_)=>true
 | .void n,.inl t=>Nat.beq (P.cellsOf t) n
 | _,_=>false
def fit {H:Type}:Sh→Sum (DataW H) (List (DataW H))→Prop
 | .int k,.inl d=>∃ n,d= .lit (.int k n)∧(Lit.int k n).wf=true
 | .bool,.inl d=>∃ b,d= .lit (.bool b)
 | .str,.inl d=>∃ s,d= .lit (.string s)
 | .sl n σ,.inl d=>d= .nil∨∃ el sp,d= .slice el sp∧∀ x∈el,fit σ (.inl x)
 | .arr n σ,.inl d=>∃ ps,d= .agg ps∧ps.length=n∧∀ x∈ps,fit σ (.inl x)
 | .fld a b,.inl d=>∃ p ps,d= .agg (p::ps)∧fit a (.inl p)∧fit b (.inr ps)
 | .fld a b,.inr (p::ps)=>fit a (.inl p)∧fit b (.inr ps)
 | .fin,.inr []=>True
 | _,_=>False
def elD (σ:Sh) (cs:List D):D:=
 match σ.agg with
 | true=>.agg cs
 | false=>match cs with
  | [c]=>c
  | _=>.any
def cl {H:Type}:Sh→Sum (DataW H) (List (DataW H))→List D
 | .int k,.inl (.lit (.int _ n))=>[.int k n]
 | .bool,.inl (.lit (.bool b))=>[.bool b]
 | .str,.inl (.lit (.string s))=>[.str s]
 | .sl n σ,.inl d=>[.sl n (match d with | .slice el _=>el.map (fun x=>elD σ (cl σ (.inl x))) | _=>[]) none]
 | .arr n σ,.inl (.agg ps)=>ps.flatMap fun x=>cl σ (.inl x)
 | .fld a b,.inl (.agg (p::ps))=>cl a (.inl p)++cl b (.inr ps)
 | .fld a b,.inr (p::ps)=>cl a (.inl p)++cl b (.inr ps)
 | _,_=>[]
def rd {H:Type} (σ:Sh) (d:DataW H):D:=elD σ (cl σ (.inl d))
def CellsRep (w:World) (F:Nat→Nat→Prop) (ds:List D) (vs:List Value):Prop:=ds.length=vs.length∧∀ (i:Nat) c v,ds[i]?=some c→vs[i]?=some v→RepP w F c v∧v.oneCell'=true∧oneD c=true
theorem oneCell_repP {w:World} {F:Nat→Nat→Prop} {d:D} {v:Value} (h:RepP w F d v) (hd:oneD d=true):v.oneCell'=true:=oneD_cell (ρ:=⟨fun _=>⟨0,0,0⟩,fun _ _=>False⟩) (L:=[]) (.pure _ _ h) hd
theorem CellsRep.append {w:World} {F:Nat→Nat→Prop} {ds ds':List D} {vs vs':List Value} (h:CellsRep w F ds vs) (h':CellsRep w F ds' vs'):CellsRep w F (ds++ds') (vs++vs'):=by
 refine ⟨by simp [h.1,h'.1],fun i c v hc hv=>?_⟩
 rcases Nat.lt_or_ge i ds.length with hlt | hge
 ·rw [List.getElem?_append_left hlt] at hc
  rw [List.getElem?_append_left (by rw [← h.1];exact hlt)] at hv
  exact h.2 i c v hc hv
 ·rw [List.getElem?_append_right hge] at hc
  rw [List.getElem?_append_right (by rw [← h.1];exact hge),← h.1] at hv
  exact h'.2 _ c v hc hv
theorem CellsRep.one {w:World} {F:Nat→Nat→Prop} {d:D} {v:Value} (h:RepP w F d v) (hd:oneD d=true):CellsRep w F [d] [v]:=⟨rfl,fun i c u hc hu=>by
 cases i with
 | zero=>simp at hc hu;subst hc;subst hu;exact ⟨h,oneCell_repP h hd,hd⟩
 | succ i=>simp at hc⟩
theorem elD_cells {H:Type} {w:World} {F:Nat→Nat→Prop} {σ:Sh} {d:DataW H} {vs:List Value} (h:CellsRep w F (cl σ (.inl d)) vs) (hs:σ.agg=false→(cl σ (.inl d)).length=1):(rd σ d).cells=cl σ (.inl d):=by
 unfold rd elD
 split
 ·rfl
 ·rename_i ha
  have h1:=hs ha
  split
  ·rename_i c hc
   have h2:oneD c=true:=by
    have hlt:0 < vs.length:=by rw [← h.1];omega
    exact (h.2 0 c vs[0] (by rw [hc];rfl) (List.getElem?_eq_getElem hlt)).2.2
   rw [hc]
   cases c<;>first | rfl | simp [oneD] at h2
  ·rename_i hne
   match hcl:cl σ (.inl d),h1 with
   | [c],_=>exact (hne c hcl).elim
theorem beq_true {a b:Nat} (h:Nat.beq a b=true):a=b:=Nat.eq_of_beq_eq_true h
theorem chk_slice {P:Program} {n:Nat} {σ:Sh} {t:TypeId} (h:chk P (.sl n σ) (.inl t)=true):∃ e,P.underlying t=some (.slice e)∧P.cellsOf e=n∧n≠0∧σ.size=n∧chk P σ (.inl e)=true:=by
 simp only [chk] at h
 split at h<;>try cases h
 rename_i e hu
 simp only [Bool.and_eq_true,Bool.not_eq_true'] at h
 obtain ⟨⟨⟨h1,h2⟩,h3⟩,h4⟩:=h
 exact ⟨e,hu,beq_true h1,fun e=>by subst e;simp at h2,beq_true h3,h4⟩
theorem chk_arr {P:Program} {n:Nat} {σ:Sh} {t:TypeId} (h:chk P (.arr n σ) (.inl t)=true):∃ e,P.underlying t=some (.array n e)∧P.cellsOf t=n * σ.size∧P.cellsOf e=σ.size∧chk P σ (.inl e)=true:=by
 simp only [chk] at h
 split at h<;>try cases h
 rename_i m e hu
 simp only [Bool.and_eq_true] at h
 obtain ⟨⟨⟨h1,h2⟩,h3⟩,h4⟩:=h
 have:=beq_true h1
 subst this
 exact ⟨e,hu,beq_true h2,beq_true h3,h4⟩
theorem chk_fld {P:Program} {a b:Sh} {t:TypeId} (h:chk P (.fld a b) (.inl t)=true):∃ fs,P.underlying t=some (.struct fs)∧P.cellsOf t=a.size+b.size∧chk P (.fld a b) (.inr (fs.toList,0))=true:=by
 simp only [chk] at h
 split at h<;>try cases h
 rename_i fs hu
 split at h<;>try cases h
 rename_i f r hl
 simp only [Bool.and_eq_true] at h
 obtain ⟨⟨⟨⟨h1,h2⟩,h3⟩,h4⟩,h5⟩:=h
 refine ⟨fs,hu,beq_true h1,?_⟩
 rw [hl]
 simp only [chk,Bool.and_eq_true]
 exact ⟨⟨⟨h2,h3⟩,h4⟩,by rw [Nat.zero_add];exact h5⟩
theorem chk_more {P:Program} {a b:Sh} {fs:List Field} {off:Nat} (h:chk P (.fld a b) (.inr (fs,off))=true):∃ f r,fs=f::r∧f.offset=off∧P.cellsOf f.type=a.size∧chk P a (.inl f.type)=true∧chk P b (.inr (r,off+a.size))=true:=by
 cases fs with
 | nil=>simp [chk] at h
 | cons f r=>
  simp only [chk,Bool.and_eq_true] at h
  obtain ⟨⟨⟨h1,h2⟩,h3⟩,h4⟩:=h
  exact ⟨f,r,rfl,beq_true h1,beq_true h2,h3,h4⟩
def Shaped (P:Program) (t:TypeId):Prop:=∀ k,∃ σ,chk P σ (.inl t)=true∧vdB k σ=true
theorem fields_kids {P:Program} (k:Nat):∀ (σ:Sh) (fs:List Field) (off:Nat),chk P σ (.inr (fs,off))=true→vdB k σ=true →
  (∀ f∈fs,∃ σ,chk P σ (.inl f.type)=true∧vdB k σ=true)∧σ.size=(fs.map fun f=>P.cellsOf f.type).sum∧∀ (j:Nat) f,fs[j]?=some f→f.offset=off+((fs.take j).map fun f=>P.cellsOf f.type).sum
 | .fld a b,fs,off,h,hv=>by
  obtain ⟨f,r,rfl,h1,h2,h3,h4⟩:=chk_more h
  simp only [vdB,Bool.and_eq_true] at hv
  obtain ⟨h5,h6,h7⟩:=fields_kids k b r _ h4 hv.2
  refine ⟨fun g hg=>?_,by simp [Sh.size,h2,h6],fun j g hg=>?_⟩
  ·rcases List.mem_cons.1 hg with rfl | hg
   ·exact ⟨a,h3,hv.1⟩
   ·exact h5 g hg
  ·cases j with
   | zero=>simp at hg;subst hg;simp [h1]
   | succ j=>
    rw [h7 j g (by simpa using hg)]
    simp [h2]
    omega
 | .fin,[],off,h,_=>⟨by simp,by simp [Sh.size],by simp⟩
 | .fin,f::fs,off,h,_=>by simp [chk] at h
 | .int _,_,_,h,_=>by simp [chk] at h
 | .bool,_,_,h,_=>by simp [chk] at h
 | .str,_,_,h,_=>by simp [chk] at h
 | .sl _ _,_,_,h,_=>by simp [chk] at h
 | .arr _ _,_,_,h,_=>by simp [chk] at h
 | .void _,_,_,h,_=>by simp [chk] at h
theorem chk_cases {P:Program} {t:TypeId} {k:Nat} {σ:Sh} (h:chk P σ (.inl t)=true) (hv:vdB (k+1) σ=true):(∃ k,P.underlying t=some (.int k))∨P.underlying t=some .bool∨P.underlying t=some .string ∨
  (∃ e,P.underlying t=some (.slice e)∧(∃ σ,chk P σ (.inl e)=true∧vdB k σ=true)∧0 < P.cellsOf e) ∨
  (∃ n e,P.underlying t=some (.array n e)∧(∃ σ,chk P σ (.inl e)=true∧vdB k σ=true)∧P.cellsOf t=n * P.cellsOf e) ∨
  ∃ fs a b,P.underlying t=some (.struct fs)∧P.cellsOf t=Sh.size (.fld a b)∧chk P (.fld a b) (.inr (fs.toList,0))=true∧vdB k (.fld a b)=true:=by
 cases σ with
 | int k => simp only [chk] at h; split at h <;> try cases h
            rename_i q hq;exact .inl ⟨_,hq⟩
 | bool => simp only [chk] at h; split at h <;> try cases h
           rename_i hq;exact .inr (.inl hq)
 | str => simp only [chk] at h; split at h <;> try cases h
          rename_i hq;exact .inr (.inr (.inl hq))
 | sl n σ=>
  obtain ⟨e,h1,h2,h3,_,h4⟩:=chk_slice h
  exact .inr (.inr (.inr (.inl ⟨e,h1,⟨σ,h4,by simpa only [vdB] using hv⟩,by omega⟩)))
 | arr n σ=>
  obtain ⟨e,h1,h2,h3,h4⟩:=chk_arr h
  exact .inr (.inr (.inr (.inr (.inl ⟨n,e,h1,⟨σ,h4,vdB_mono σ k (by simpa only [vdB] using hv)⟩,by rw [h2,h3]⟩))))
 | fld a b=>
  obtain ⟨fs,h1,h2,h3⟩:=chk_fld h
  exact .inr (.inr (.inr (.inr (.inr ⟨fs,a,b,h1,h2,h3,vdB_mono _ k hv⟩))))
 | fin=>simp [chk] at h
 | void n=>simp [vdB] at hv
theorem shaped_slice {P:Program} {t e:TypeId} (ht:Shaped P t) (hu:P.underlying t=some (.slice e)):Shaped P e∧0 < P.cellsOf e:=by
 have key:∀ k,(∃ σ,chk P σ (.inl e)=true∧vdB k σ=true)∧0 < P.cellsOf e:=fun k=>by
  obtain ⟨σ,h1,h2⟩:=ht (k+1)
  rcases chk_cases h1 h2 with ⟨k,h⟩ | h | h | ⟨e',h,h3,h4⟩ | ⟨n,e,h,_⟩ | ⟨fs,a,b,h,_⟩<;>rw [h] at hu<;>cases hu
  exact ⟨h3,h4⟩
 exact ⟨fun k=>(key k).1,(key 0).2⟩
theorem shaped_no {P:Program} {t:TypeId} (ht:Shaped P t):∃ d,P.underlying t=some d∧(∀ e,d≠ .pointer e)∧(∀ k e,d≠ .map k e):=by
 obtain ⟨σ,h1,h2⟩:=ht 1
 rcases chk_cases h1 h2 with ⟨k,h⟩ | h | h | ⟨e',h,h3,h4⟩ | ⟨n,e,h,_⟩ | ⟨fs,a,b,h,_⟩<;>exact ⟨_,h,by simp,by simp⟩
theorem kids (P:Program):Kids P (Shaped P) where
 pointer ht hu:=by obtain ⟨d,h1,h2,_⟩:=shaped_no ht;rw [h1] at hu;cases hu;exact (h2 _ rfl).elim
 slice ht hu:=(shaped_slice ht hu).1
 array {t e n} ht hu:=by
  have key:∀ k,(∃ σ,chk P σ (.inl e)=true∧vdB k σ=true)∧P.cellsOf t=n * P.cellsOf e:=fun k=>by
   obtain ⟨σ,h1,h2⟩:=ht (k+1)
   rcases chk_cases h1 h2 with ⟨k,h⟩ | h | h | ⟨e',h,h3,h4⟩ | ⟨n,e,h,h3,h4⟩ | ⟨fs,a,b,h,_⟩<;>rw [h] at hu<;>cases hu
   exact ⟨h3,h4⟩
  exact ⟨fun k=>(key k).1,(key 0).2⟩
 struct {t fs} ht hu:=by
  have key:∀ k,(∀ f∈fs.toList,∃ σ,chk P σ (.inl f.type)=true∧vdB k σ=true)∧P.cellsOf t=(fs.toList.map fun f=>P.cellsOf f.type).sum ∧
    ∀ (j:Nat) f,fs.toList[j]?=some f→f.offset=0+((fs.toList.take j).map fun f=>P.cellsOf f.type).sum:=fun k=>by
   obtain ⟨σ,h1,h2⟩:=ht (k+1)
   rcases chk_cases h1 h2 with ⟨k,h⟩ | h | h | ⟨e',h,h3,h4⟩ | ⟨n,e,h,_⟩ | ⟨fs,a,b,h,h3,h4,h5⟩<;>rw [h] at hu<;>cases hu
   obtain ⟨h6,h7,h8⟩:=fields_kids _ _ _ _ h4 h5
   exact ⟨h6,h3.trans h7,h8⟩
  exact ⟨fun f hf k=>(key k).1 f hf,(key 0).2.1,fun j f hf=>by rw [(key 0).2.2 j f hf,Nat.zero_add]⟩
 map ht hu:=by obtain ⟨d,h1,_,h2⟩:=shaped_no ht;rw [h1] at hu;cases hu;exact (h2 _ _ rfl).elim
theorem slices_wide {P:Program} {t e:TypeId} (ht:Shaped P t) (hu:P.underlying t=some (.slice e)):0 < P.cellsOf e:=(shaped_slice ht hu).2
theorem trod_behind {H:Type} {enc:TypeId×Value→H} {P:Program} {w w':World} {t:TypeId} {v:Value} {d:DataW H} {ps:List MemPlace} {sp:Nat→Bool} (ht:Shaped P t)
  (h:DataW.Trod enc P w 0 (fun _=>true) true t v d ps) (hext:Ext F0 w w') (hs:∀ p∈ps,sp p.block=true):DataW.Trod enc P w' 0 sp true t v d ps:=by
 obtain ⟨fuel,h⟩:=h
 refine ⟨fuel,DataW.trod_stays (x:=(d,ps)) (kids P) (fun ht hu=>slices_wide ht hu) (by simp) ht h (fun p hp=>?_) hs⟩
 have hlt:=DataW.trod_lt fuel t _ (d,ps) h p hp
 cases p with
 | cell b off=>exact hext.cell b off hlt id
 | map b=>exact hext.block b hlt fun _ f=>f
theorem all_behind {H:Type} {enc:TypeId×Value→H} {P:Program} {w w':World} {sp:Nat→Bool} (hext:Ext F0 w w'):∀ {ts:List TypeId} {vs:List Value} {ds:List (DataW H)} {ps:List MemPlace},(∀ t∈ts,Shaped P t) →
  DataW.TrodAll enc P w 0 (fun _=>true) true ts vs ds ps→(∀ p∈ps,sp p.block=true)→DataW.TrodAll enc P w' 0 sp true ts vs ds ps
 | [],[],[],ps,_,h,_=>h
 | t::ts,v::vs,d::ds,ps,ht,⟨p,q,h1,h2,e⟩,hs=>by
  subst e
  exact ⟨p,q,trod_behind (ht t (by simp)) h1 hext fun x hx=>hs x (by simp [hx]),all_behind hext (fun t h=>ht t (by simp [h])) h2 fun x hx=>hs x (by simp [hx]),rfl⟩
 | [],[],_::_,_,_,h,_=>h.elim
 | [],_::_,_,_,_,h,_=>h.elim
 | _::_,[],_,_,_,h,_=>h.elim
 | _::_,_::_,[],_,_,h,_=>h.elim
theorem kept_ext {w w':World} (h:Ext F0 w w') (may:MemPlace→Prop):w.keptBut w' may:=by
 refine ⟨h.os,h.output,fun i hi=>?_⟩
 rw [h.block i hi fun _ f=>f]
 cases w.heap[i]? with
 | none=>trivial
 | some o=>cases o<;>first | exact ⟨rfl,rfl,rfl,fun _ _=>rfl⟩ | exact .inr ⟨rfl,rfl⟩ | rfl
theorem cells_get {w:World} {a:Addr} {n:Nat} {vs:List Value} (h:w.cells? 0 a n=some vs):vs.length=n∧∀ i,i < n→∃ v,vs[i]?=some v∧w.cell? (a.add i)=some v:=by
 unfold World.cells? at h
 rw [if_pos (Nat.zero_le _)] at h
 obtain ⟨h1,h2⟩:=mapM_some h
 refine ⟨by simpa using h1,fun i hi=>?_⟩
 obtain ⟨y,h3,h4⟩:=h2 i i (by simp [hi])
 exact ⟨y,h3,h4⟩
theorem add_add (a:Addr) (n i:Nat) (h:a.spot=none):(a.add n).add i=⟨a.block,a.off+(n+i),none⟩:=by
 obtain ⟨b,o,s⟩:=a
 simp at h
 subst h
 rw [addr_add,addr_add,Nat.add_assoc]
theorem spot_of {w:World} {a:Addr} {v:Value} (h:w.cell? a=some v):a.spot=none:=by
 unfold World.cell? at h
 split at h
 ·split at h
  ·cases h
  ·rename_i hs;simpa using hs
 ·cases h
theorem trod_rep {H:Type} {enc:TypeId×Value→H} {P:Program} {w:World}:∀ (σ:Sh),
  (∀ (t:TypeId) (fuel:Nat) (cs:List Value) (d:DataW H) (ps:List MemPlace),chk P σ (.inl t)=true→vdB fuel σ=true→DataW.trod enc P w 0 (fun _=>true) true fuel t cs=some (d,ps) →
    fit σ (.inl d)∧CellsRep w F0 (cl σ (.inl d)) cs∧cs.length=σ.size) ∧
  (∀ (fs:List Field) (off fuel:Nat) (cs:List Value) (xs:List (DataW H×List MemPlace)),chk P σ (.inr (fs,off))=true→vdB fuel σ=true→xs.length=fs.length →
    (∀ (i:Nat) f,fs[i]?=some f→DataW.trod enc P w 0 (fun _=>true) true fuel f.type ((cs.drop f.offset).take (P.cellsOf f.type))=xs[i]?) →
    fit σ (.inr (xs.map (·.1)))∧CellsRep w F0 (cl σ (.inr (xs.map (·.1)))) ((cs.drop off).take σ.size)∧((cs.drop off).take σ.size).length=σ.size)
 | .int k=>by
  refine ⟨fun t fuel cs d ps hc hv h=>?_,fun fs off fuel cs xs hc hv=>by simp [chk] at hc⟩
  simp only [chk] at hc
  split at hc<;>try cases hc
  rename_i q hu
  have hq:=kindEq_eq hc
  subst hq
  obtain ⟨n,h1,h2,h3⟩:=DataW.trod_int hu h
  cases h2
  subst h1
  exact ⟨⟨n,rfl,h3⟩,.one (.int _ _) rfl,rfl⟩
 | .bool=>by
  refine ⟨fun t fuel cs d ps hc hv h=>?_,fun fs off fuel cs xs hc hv=>by simp [chk] at hc⟩
  simp only [chk] at hc
  split at hc<;>try cases hc
  rename_i hu
  obtain ⟨n,h1,h2⟩:=DataW.trod_bool hu h
  cases h2
  subst h1
  exact ⟨⟨n,rfl⟩,.one (.bool _) rfl,rfl⟩
 | .str=>by
  refine ⟨fun t fuel cs d ps hc hv h=>?_,fun fs off fuel cs xs hc hv=>by simp [chk] at hc⟩
  simp only [chk] at hc
  split at hc<;>try cases hc
  rename_i hu
  obtain ⟨n,h1,h2,_⟩:=DataW.trod_string hu h
  cases h2
  subst h1
  refine ⟨⟨_,rfl⟩,.one ?_ rfl,rfl⟩
  have:n=⟨n.data.toList.toArray⟩:=by cases n;simp
  rw [this]
  simpa using RepP.str (w:=w) (F:=F0) n.data.toList
 | .sl n σ=>by
  refine ⟨fun t fuel cs d ps hc hv h=>?_,fun fs off fuel cs xs hc hv=>by simp [chk] at hc⟩
  obtain ⟨e,hu,hn,hn0,hσ,hce⟩:=chk_slice hc
  rcases DataW.trod_slice hu h with ⟨h1,h2⟩ | ⟨a,len,cap,elems,rest,m,rfl,h1,h2,_,h4,_,h6,h7,h8,_⟩
  ·cases h2
   subst h1
   exact ⟨.inl rfl,.one (.slnil _ _) rfl,rfl⟩
  ·cases h2
   subst h1
   rw [hn] at h7 h8
   have key:∀ (i:Nat) (x:DataW H×List MemPlace),elems[i]?=some x→fit σ (.inl x.1)∧∃ vs:List Value,vs.length=n∧CellsRep w F0 (cl σ (.inl x.1)) vs∧∀ j,j < n→∃ v,vs[j]?=some v∧w.cell? ((a.add (i * n)).add j)=some v:=by
    intro i x hx
    have hlt:i < len:=by rw [← h6];exact (List.getElem?_eq_some_iff.1 hx).1
    have h9:=h7 i hlt
    rw [hx,Option.bind_eq_some_iff] at h9
    obtain ⟨vs,g1,g2⟩:=h9
    obtain ⟨g3,g4⟩:=cells_get g1
    obtain ⟨k1,k2,k3⟩:=(trod_rep σ).1 e m vs x.1 x.2 hce (by simpa only [vdB] using hv) g2
    exact ⟨k1,vs,g3,k2,g4⟩
   have hone:∀ (i:Nat) (x:DataW H×List MemPlace),elems[i]?=some x→(rd σ x.1).cells=cl σ (.inl x.1):=fun i x hx=>by
    obtain ⟨_,vs,g1,g2,_⟩:=key i x hx
    exact elD_cells g2 fun ha=>by
     rw [g2.1,g1]
     cases σ<;>first | (simp [Sh.agg] at ha;done) | (simp [Sh.size] at hσ;omega)
   refine ⟨.inr ⟨_,_,rfl,fun y hy=>?_⟩,.one ?_ rfl,rfl⟩
   ·obtain ⟨x,hx,rfl⟩:=List.mem_map.1 hy
    obtain ⟨i,hi⟩:=List.getElem?_of_mem hx
    exact (key i x hi).1
   ·have hcl:(elems.map (·.1)).map (fun x=>elD σ (cl σ (.inl x)))=elems.map fun x=>rd σ x.1:=by simp [rd]
    change RepP w F0 (.sl n ((elems.map (·.1)).map (fun x=>elD σ (cl σ (.inl x)))) none) _
    rw [hcl]
    rcases Nat.eq_zero_or_pos cap with hz | hp
    ·subst hz
     have:elems=[]:=List.eq_nil_of_length_eq_zero (by omega)
     subst this
     have:len=0:=by simp at h6;omega
     subst this
     exact .slnil _ _
    ·have hspot:a.spot=none:=by
      rcases Nat.eq_zero_or_pos len with hl | hl
      ·obtain ⟨h9,h10⟩:=h8 rfl
       have h11:=h10 0 (by omega)
       have hr:0 < rest.length:=by omega
       rw [List.getElem?_eq_getElem hr,Option.bind_eq_some_iff] at h11
       obtain ⟨vs,g1,_⟩:=h11
       obtain ⟨v,_,g3⟩:=(cells_get g1).2 0 (by omega)
       have:=spot_of g3
       simpa [Addr.add,hl] using this
      ·have hel:0 < elems.length:=by omega
       obtain ⟨_,vs,g1,_,g2⟩:=key 0 _ (List.getElem?_eq_getElem hel)
       obtain ⟨v,_,g3⟩:=g2 0 (by omega)
       have:=spot_of g3
       simpa [Addr.add] using this
     have hcell:∀ i d' j c,(elems.map fun x=>rd σ x.1)[i]?=some d'→d'.cells[j]?=some c→∃ v,w.cell? ⟨a.block,a.off+(i * n+j),none⟩=some v∧RepP w F0 c v∧v.oneCell'=true:=by
      intro i d' j c hi hj
      simp only [List.getElem?_map,Option.map_eq_some_iff] at hi
      obtain ⟨x,hx,rfl⟩:=hi
      rw [hone i x hx] at hj
      obtain ⟨_,vs,g1,g2,g3⟩:=key i x hx
      have hjl:j < n:=by rw [← g1,← g2.1];exact (List.getElem?_eq_some_iff.1 hj).1
      obtain ⟨v,g4,g5⟩:=g3 j hjl
      rw [add_add a _ _ hspot] at g5
      obtain ⟨k1,k2,_⟩:=g2.2 j c v hj g4
      exact ⟨v,g5,k1,k2⟩
     have ha:a=⟨a.block,a.off,none⟩:=by cases a;simp at hspot;subst hspot;rfl
     have hlen:(elems.map fun x=>rd σ x.1).length=len:=by simpa using h6
     rw [ha,← hlen]
     refine .sl n _ a.block a.off cap (fun i j=>(w.cell? ⟨a.block,a.off+(i * n+j),none⟩).getD undef) (by omega) (fun i d' hi=>?_) (fun i d' j c hi hj=>?_) (fun i d' j c hi hj=>?_) (fun i d' j c hi hj=>?_)
     ·simp only [List.getElem?_map,Option.map_eq_some_iff] at hi
      obtain ⟨x,hx,rfl⟩:=hi
      rw [hone i x hx]
      obtain ⟨_,vs,g1,g2,_⟩:=key i x hx
      rw [g2.1,g1]
     all_goals obtain ⟨v,g1,g2,g3⟩:=hcell i d' j c hi hj
     ·exact ⟨by rw [g1];rfl,id⟩
     ·rw [g1];exact g3
     ·rw [g1];exact g2
 | .fin=>by
  refine ⟨fun t fuel cs d ps hc hv h=>by simp [chk] at hc,fun fs off fuel cs xs hc hv hl h=>?_⟩
  cases fs with
  | cons f fs=>simp [chk] at hc
  | nil=>
   have:xs=[]:=List.eq_nil_of_length_eq_zero (by simpa using hl)
   subst this
   exact ⟨trivial,by simp [Sh.size,cl,CellsRep],by simp [Sh.size]⟩
 | .fld a b=>by
  have two:∀ (fs:List Field) (off fuel:Nat) (cs:List Value) (xs:List (DataW H×List MemPlace)),chk P (.fld a b) (.inr (fs,off))=true→vdB fuel (.fld a b)=true→xs.length=fs.length →
    (∀ (i:Nat) f,fs[i]?=some f→DataW.trod enc P w 0 (fun _=>true) true fuel f.type ((cs.drop f.offset).take (P.cellsOf f.type))=xs[i]?) →
    (∃ x r,xs=x::r∧fit a (.inl x.1)∧fit b (.inr (r.map (·.1)))∧CellsRep w F0 (cl a (.inl x.1)++cl b (.inr (r.map (·.1)))) ((cs.drop off).take (a.size+b.size))∧((cs.drop off).take (a.size+b.size)).length=a.size+b.size):=by
   intro fs off fuel cs xs hc hv hl h
   simp only [vdB,Bool.and_eq_true] at hv
   obtain ⟨f,r,rfl,h1,h2,h3,h4⟩:=chk_more hc
   cases xs with
   | nil=>simp at hl
   | cons x xs=>
    have h0:=h 0 f rfl
    rw [h1,h2] at h0
    obtain ⟨k1,k2,k3⟩:=(trod_rep a).1 f.type fuel _ x.1 x.2 h3 hv.1 h0
    obtain ⟨g1,g2,g3⟩:=(trod_rep b).2 r (off+a.size) fuel cs xs h4 hv.2 (by simpa using hl) fun i f' hf=>by simpa using h (i+1) f' (by simpa using hf)
    have hsplit:(cs.drop off).take (a.size+b.size)=(cs.drop off).take a.size++(cs.drop (off+a.size)).take b.size:=by
     rw [List.take_add,List.drop_drop]
    exact ⟨x,xs,rfl,k1,g1,by rw [hsplit];exact k2.append g2,by rw [hsplit,List.length_append,k3,g3]⟩
  refine ⟨fun t fuel cs d ps hc hv h=>?_,fun fs off fuel cs xs hc hv hl h=>?_⟩
  ·obtain ⟨fs,hu,hsz,hck⟩:=chk_fld hc
   obtain ⟨xs,m,rfl,hx,hlen,hxl,hget⟩:=DataW.trod_struct hu h
   cases hx
   obtain ⟨x,r,rfl,k1,k2,k3,k4⟩:=two fs.toList 0 m cs xs hck (vdB_mono _ m hv) (by simpa using hxl) (fun i f hf=>hget i f (by simpa using hf))
   have hcs:(cs.drop 0).take (a.size+b.size)=cs:=by rw [List.drop_zero,← hsz,← hlen,List.take_length]
   rw [hcs] at k3 k4
   exact ⟨⟨x.1,r.map (·.1),rfl,k1,k2⟩,k3,k4⟩
  ·obtain ⟨x,r,rfl,k1,k2,k3,k4⟩:=two fs off fuel cs xs hc hv hl h
   exact ⟨⟨k1,k2⟩,k3,k4⟩
 | .arr n σ=>by
  refine ⟨fun t fuel cs d ps hc hv h=>?_,fun fs off fuel cs xs hc hv=>by simp [chk] at hc⟩
  obtain ⟨e,hu,h1,h2,h3⟩:=chk_arr hc
  obtain ⟨xs,m,rfl,hx,hlen,hxl,hget⟩:=DataW.trod_array hu h
  cases hx
  rw [h1] at hlen
  rw [h2] at hget
  have key:∀ (k:Nat) (ys:List (DataW H×List MemPlace)) (j:Nat),ys.length=k→(∀ i,i < k→DataW.trod enc P w 0 (fun _=>true) true m e ((cs.drop ((j+i) * σ.size)).take σ.size)=ys[i]?) →
    (∀ y∈ys,fit σ (.inl y.1))∧CellsRep w F0 ((ys.map (·.1)).flatMap fun x=>cl σ (.inl x)) ((cs.drop (j * σ.size)).take (k * σ.size))∧((cs.drop (j * σ.size)).take (k * σ.size)).length=k * σ.size:=by
   intro k
   induction k with
   | zero=>intro ys j hl _;have:ys=[]:=List.eq_nil_of_length_eq_zero hl;subst this;simp [CellsRep]
   | succ k ih=>
    intro ys j hl hg
    cases ys with
    | nil=>simp at hl
    | cons y ys=>
     have h0:=hg 0 (by omega)
     rw [Nat.add_zero] at h0
     obtain ⟨k1,k2,k3⟩:=(trod_rep σ).1 e m _ y.1 y.2 h3 (vdB_mono σ m (by simpa only [vdB] using hv)) h0
     obtain ⟨g1,g2,g3⟩:=ih ys (j+1) (by simpa using hl) fun i hi=>by
      have:=hg (i+1) (by omega)
      rw [show j+(i+1)=j+1+i by omega] at this
      simpa using this
     have hsplit:(cs.drop (j * σ.size)).take ((k+1) * σ.size)=(cs.drop (j * σ.size)).take σ.size++(cs.drop ((j+1) * σ.size)).take (k * σ.size):=by
      rw [Nat.succ_mul,Nat.add_comm,List.take_add,List.drop_drop,Nat.succ_mul]
     refine ⟨fun z hz=>?_,by rw [hsplit];exact k2.append g2,by rw [hsplit,List.length_append,k3,g3,Nat.succ_mul,Nat.add_comm]⟩
     rcases List.mem_cons.1 hz with rfl | hz
     ·exact k1
     ·exact g1 z hz
  obtain ⟨k1,k2,k3⟩:=key n xs 0 hxl fun i hi=>by rw [Nat.zero_add];exact hget i hi
  have hcs:(cs.drop (0 * σ.size)).take (n * σ.size)=cs:=by rw [Nat.zero_mul,List.drop_zero,← hlen,List.take_length]
  rw [hcs] at k2 k3
  exact ⟨⟨_,rfl,by simpa using hxl,fun y hy=>by obtain ⟨x,hx,rfl⟩:=List.mem_map.1 hy;exact k1 x hx⟩,k2,k3⟩
 | .void n=>⟨fun t fuel cs d ps hc hv h=>by simp [vdB] at hv,fun fs off fuel cs xs hc hv=>by simp [vdB] at hv⟩
theorem toNat_ofInt (n:Int):((BitVec.ofInt 64 n).toNat:Int)=n % 18446744073709551616:=by
 rw [BitVec.toNat_ofInt]
 have:(0:Int)≤n % ((2 ^ 64:Nat):Int):=Int.emod_nonneg _ (by decide)
 rw [Int.toNat_of_nonneg this]
 rfl
theorem wrap_small {n:Nat} (h:n≤9223372036854775807):IntKind.i64.wrap (n:Int)=n:=by
 exact wrap_i64 (by omega) (by omega)
theorem and_mask {n m:Int} {k:Nat} (hk:k≤62) (hm:m=(2:Int) ^ k - 1):bitI .and .i64 n m=n % (2:Int) ^ k:=by
 have h2:((2:Int) ^ k)=((2 ^ k:Nat):Int):=by simp
 have hp:1≤2 ^ k:=Nat.one_le_two_pow
 have hlt:2 ^ k≤2 ^ 62:=Nat.pow_le_pow_right (by decide) hk
 have hlt':2 ^ k≤4611686018427387904:=hlt
 have hm':m=((2 ^ k - 1:Nat):Int):=by rw [hm,h2];omega
 unfold bitI
 have e1:(BitVec.ofInt IntKind.i64.bits m).toNat=2 ^ k - 1:=by
  have:=toNat_ofInt m
  have e:(BitVec.ofInt IntKind.i64.bits m).toNat=(BitVec.ofInt 64 m).toNat:=rfl
  rw [e]
  rw [hm'] at this ⊢
  omega
 simp only [BitVec.toNat_and,e1,Nat.and_two_pow_sub_one_eq_mod]
 have h3:(BitVec.ofInt IntKind.i64.bits n).toNat % 2 ^ k < 2 ^ k:=Nat.mod_lt _ (by omega)
 rw [wrap_small (by omega)]
 have h4:=toNat_ofInt n
 have e:(BitVec.ofInt IntKind.i64.bits n).toNat=(BitVec.ofInt 64 n).toNat:=rfl
 rw [Int.natCast_emod,e,h4,← h2]
 have hd:((2:Int) ^ k) ∣ 18446744073709551616:=by
  refine ⟨(2:Int) ^ (64 - k),?_⟩
  rw [← Int.pow_add,show k+(64 - k)=64 by omega]
  rfl
 exact Int.emod_emod_of_dvd n hd
theorem and_1 {n:Int}:bitI .and .i64 n 1=n % 2:=and_mask (k:=1) (by decide) (by decide)
theorem and_15 {n:Int}:bitI .and .i64 n 15=n % 16:=and_mask (k:=4) (by decide) (by decide)
theorem and_255 {n:Int}:bitI .and .i64 n 255=n % 256:=and_mask (k:=8) (by decide) (by decide)
theorem and_4095 {n:Int}:bitI .and .i64 n 4095=n % 4096:=and_mask (k:=12) (by decide) (by decide)
theorem and_65535 {n:Int}:bitI .and .i64 n 65535=n % 65536:=and_mask (k:=16) (by decide) (by decide)
theorem ofInt_nat {a:Nat} (h:a≤9223372036854775807):(BitVec.ofInt IntKind.i64.bits (a:Int)).toNat=a:=by
 have h4:=toNat_ofInt a
 have e:(BitVec.ofInt IntKind.i64.bits (a:Int)).toNat=(BitVec.ofInt 64 (a:Int)).toNat:=rfl
 omega
theorem and_nat {a b:Nat} (ha:a≤9223372036854775807) (hb:b≤9223372036854775807):bitI .and .i64 (a:Int) (b:Int)=((a &&& b:Nat):Int):=by
 unfold bitI
 simp only [BitVec.toNat_and,ofInt_nat ha,ofInt_nat hb]
 exact wrap_small (Nat.le_trans Nat.and_le_left ha)
theorem or_nat {a b:Nat} (ha:a < 9223372036854775808) (hb:b < 9223372036854775808):bitI .or .i64 (a:Int) (b:Int)=((a ||| b:Nat):Int):=by
 unfold bitI
 simp only [BitVec.toNat_or,ofInt_nat (Nat.le_of_lt_succ ha),ofInt_nat (Nat.le_of_lt_succ hb)]
 have:a ||| b < 2 ^ 63:=Nat.or_lt_two_pow ha hb
 exact wrap_small (by omega)
theorem or_eq {x y:Int} {a b:Nat} (hx:x=a) (hy:y=b) (ha:a < 9223372036854775808) (hb:b < 9223372036854775808):bitI .or .i64 x y=((a ||| b:Nat):Int):=by subst hx;subst hy;exact or_nat ha hb
theorem and_eq {x y:Int} {a b:Nat} (hx:x=a) (hy:y=b) (ha:a < 9223372036854775808) (hb:b < 9223372036854775808):bitI .and .i64 x y=((a &&& b:Nat):Int):=by subst hx;subst hy;exact and_nat (Nat.le_of_lt_succ ha) (Nat.le_of_lt_succ hb)
theorem find_at {α:Type} {p:α→Bool}:∀ {l:List α} {k:Nat} {x:α},l[k]?=some x→p x=true→(∀ i y,i < k→l[i]?=some y→p y=false)→l.find? p=some x
 | [],k,x,h,_,_=>by simp at h
 | a::l,0,x,h,hp,_=>by simp at h;subst h;simp [hp]
 | a::l,k+1,x,h,hp,hn=>by
  have h0:=hn 0 a (by omega) rfl
  rw [List.find?_cons_of_neg (by simp [h0])]
  exact find_at (by simpa using h) hp fun i y hi hy=>hn (i+1) y (by omega) (by simpa using hy)
theorem find_no {α:Type} {p:α→Bool} {l:List α} (h:∀ (i:Nat) y,l[i]?=some y→p y=false):l.find? p=none:=by
 rw [List.find?_eq_none]
 intro x hx
 obtain ⟨i,hi⟩:=List.getElem?_of_mem hx
 simp [h i x hi]
theorem no_step {α:Type} {p:α→Bool} {l:List α} {k:Nat} {x:α} (h:∀ (i:Nat) y,i < k→l[i]?=some y→p y=false) (hx:l[k]?=some x) (hp:p x=false):∀ (i:Nat) y,i < k+1→l[i]?=some y→p y=false:=fun i y hi hy=>by
 rcases Nat.lt_or_ge i k with h1 | h1
 ·exact h i y h1 hy
 ·obtain rfl:i=k:=by omega
  rw [hx] at hy
  cases hy
  exact hp
theorem no_end {α:Type} {p:α→Bool} {l:List α} {k:Nat} (h:∀ (i:Nat) y,i < k→l[i]?=some y→p y=false) (hk:l.length≤k):l.find? p=none:=
 find_no fun i y hy=>h i y (by have:=(List.getElem?_eq_some_iff.1 hy).1;omega) hy
theorem at_of_lt {α:Type} {l:List α} {k:Nat} (h:k < l.length):∃ x,l[k]?=some x:=⟨_,List.getElem?_eq_getElem h⟩
end Go.Plat
namespace Go.Plat
open Go
set_option linter.unusedVariables false
structure Lf (G:Prop):Prop where
 h:G
structure Rd (R G:Prop):Prop where
 f:R→G
theorem Rd.of {R G G':Prop} (f:G'→G) (h:Rd R G'):Rd R G:=⟨fun r=>f (h.f r)⟩
theorem Rd.lf {G:Prop}:Rd (Lf G) G:=⟨fun r=>r.h⟩
theorem Rd.ab {A:Prop} (h:False):Rd True A:=h.elim
theorem Rd.sp {p q p' q' R1 R2 A B G:Prop} (f:(p→A)→(q→B)→G) (hp:p→p') (hq:q→q') (h1:p'→Rd R1 A) (h2:q'→Rd R2 B):Rd ((p'→R1)∧(q'→R2)) G:=
 ⟨fun r=>f (fun h=>(h1 (hp h)).f (r.1 (hp h))) fun h=>(h2 (hq h)).f (r.2 (hq h))⟩
theorem bit_mkY {op:BinOp} {k:IntKind} {x y y' r:Int} {K:D→Prop} (h:bitI op k x y'=r) (hy:y=y') (hK:K (.int k r)):BitS op k x y K:=by subst hy;exact bit_mk h hK
theorem qga {R G:Prop} (k:R) (h:Rd R G:=by (repeat' (first | (apply Rd.of (VS.mk)) | (apply Rd.of (dr_mk)) | (apply Rd.of (md_r)) | ((first | apply Rd.sp sp_not_dec | apply Rd.sp sp_dec | apply Rd.sp sp_beq | apply Rd.sp sp_bne | apply Rd.sp sp_seq | apply Rd.sp sp_sne | apply Rd.sp sp_not | apply Rd.sp sp_any);(iterate 2 (next=>intro hc;first | (refine id (α:=False) ?_;simp only [List.length_map,List.length_append,List.length_cons,List.length_nil,Bool.and_true,Bool.and_eq_true,beq_iff_eq,Bool.and_eq_false_iff,beq_eq_false_iff_ne,Bool.true_and,ne_eq] at hc;done) | ((try simp only [List.length_map,List.length_append,List.length_cons,List.length_nil,Bool.and_true,Bool.and_eq_true,beq_iff_eq,Bool.and_eq_false_iff,beq_eq_false_iff_ne,Bool.true_and,ne_eq] at hc);exact hc)));(all_goals (try (first | exact Rd.ab | intro hc)))) | (with_reducible first | apply Rd.of (norm_one) | apply Rd.of (norm_app) | apply Rd.of (norm_cutEnd) | apply Rd.of (norm_cut) | apply Rd.of (norm_bytes1) | apply Rd.of (norm_bytes2) | apply Rd.of (norm_setByte) | apply Rd.of (norm_int1) | apply Rd.of (norm_mk)) | (with_reducible apply Rd.of (bytes_mk)) | (apply Rd.of (ar_byte)) | (apply Rd.of (ar_i64 (by omega) (by omega))) | (apply Rd.of (ar_low)) | (apply Rd.of (ix_byteN (by omega))) | (apply Rd.of (ix_byteK (by simp only [Int.reduceToNat];exact rfl) (by decide) (by omega))) | (apply Rd.of (ix_byte (by omega) (by omega))) | (apply Rd.of (ix_rfl (by decide) rfl)) | (apply Rd.of (sd_mk rfl)) | (apply Rd.of (sd_mk (by decide +kernel))) | (apply Rd.of (sd_mk (by first | (simp only [List.length_map,List.length_append,List.length_cons,List.length_nil];done) | ((try simp only [List.length_map,List.length_append,List.length_cons,List.length_nil,List.length_set,List.length_replicate,List.length_drop,List.length_take,true_and,and_true]);omega) | (dsimp only;omega)))) | (first | apply Rd.of (shl8 (by omega) (by omega)) | apply Rd.of (shl4 (by omega) (by omega)) | apply Rd.of (shl1 (by omega) (by omega)) | apply Rd.of (shl16 (by omega) (by omega)) | apply Rd.of (shl24 (by omega) (by omega)) | apply Rd.of (shr8 (by decide)) | apply Rd.of (shr4 (by decide)) | apply Rd.of (shr1 (by decide)) | apply Rd.of (shr16 (by decide)) | apply Rd.of (shr24 (by decide))) | (with_reducible first | apply Rd.of (bit_mkY and_1 (by decide)) | apply Rd.of (bit_mkY and_15 (by decide)) | apply Rd.of (bit_mkY and_255 (by decide)) | apply Rd.of (bit_mkY and_4095 (by decide)) | apply Rd.of (bit_mkY and_65535 (by decide))) | (apply Rd.of (quo_pos (by omega) (by omega) (by omega))) | (apply Rd.of (rem_pos (by omega) (by omega))) | exact Rd.lf))):G:=h.f k
theorem qgo {R G:Prop} (k:R) (h:Rd R G:=by (repeat' (first | (apply Rd.of (VS.mk)) | (apply Rd.of (dr_mk)) | (apply Rd.of (md_l)) | ((first | apply Rd.sp sp_not_dec | apply Rd.sp sp_dec | apply Rd.sp sp_beq | apply Rd.sp sp_bne | apply Rd.sp sp_seq | apply Rd.sp sp_sne | apply Rd.sp sp_not | apply Rd.sp sp_any);(iterate 2 (next=>intro hc;first | (refine id (α:=False) ?_;simp only [List.length_map,List.length_append,List.length_cons,List.length_nil,Bool.and_true,Bool.and_eq_true,beq_iff_eq,Bool.and_eq_false_iff,beq_eq_false_iff_ne,Bool.true_and,ne_eq] at hc;done) | ((try simp only [List.length_map,List.length_append,List.length_cons,List.length_nil,Bool.and_true,Bool.and_eq_true,beq_iff_eq,Bool.and_eq_false_iff,beq_eq_false_iff_ne,Bool.true_and,ne_eq] at hc);exact hc)));(all_goals (try (first | exact Rd.ab | intro hc)))) | (with_reducible first | apply Rd.of (norm_one) | apply Rd.of (norm_app) | apply Rd.of (norm_cutEnd) | apply Rd.of (norm_cut) | apply Rd.of (norm_bytes1) | apply Rd.of (norm_bytes2) | apply Rd.of (norm_setByte) | apply Rd.of (norm_int1) | apply Rd.of (norm_mk)) | (with_reducible apply Rd.of (bytes_mk)) | (apply Rd.of (ar_byte)) | (apply Rd.of (ar_i64 (by omega) (by omega))) | (apply Rd.of (ar_low)) | (apply Rd.of (ix_byteN (by omega))) | (apply Rd.of (ix_byteK (by simp only [Int.reduceToNat];exact rfl) (by decide) (by omega))) | (apply Rd.of (ix_byte (by omega) (by omega))) | (apply Rd.of (ix_rfl (by decide) rfl)) | (apply Rd.of (sd_mk rfl)) | (apply Rd.of (sd_mk (by decide +kernel))) | (apply Rd.of (sd_mk (by first | (simp only [List.length_map,List.length_append,List.length_cons,List.length_nil];done) | ((try simp only [List.length_map,List.length_append,List.length_cons,List.length_nil,List.length_set,List.length_replicate,List.length_drop,List.length_take,true_and,and_true]);omega) | (dsimp only;omega)))) | (first | apply Rd.of (shl8 (by omega) (by omega)) | apply Rd.of (shl4 (by omega) (by omega)) | apply Rd.of (shl1 (by omega) (by omega)) | apply Rd.of (shl16 (by omega) (by omega)) | apply Rd.of (shl24 (by omega) (by omega)) | apply Rd.of (shr8 (by decide)) | apply Rd.of (shr4 (by decide)) | apply Rd.of (shr1 (by decide)) | apply Rd.of (shr16 (by decide)) | apply Rd.of (shr24 (by decide))) | (with_reducible first | apply Rd.of (bit_mkY and_1 (by decide)) | apply Rd.of (bit_mkY and_15 (by decide)) | apply Rd.of (bit_mkY and_255 (by decide)) | apply Rd.of (bit_mkY and_4095 (by decide)) | apply Rd.of (bit_mkY and_65535 (by decide))) | (apply Rd.of (quo_pos (by omega) (by omega) (by omega))) | (apply Rd.of (rem_pos (by omega) (by omega))) | exact Rd.lf))):G:=h.f k
theorem qgr {R G:Prop} (k:R) (h:Rd R G:=by (repeat' (first | (apply Rd.of (VS.mk)) | (apply Rd.of (dr_mk)) | (apply Rd.of (md_r)) | ((first | apply Rd.sp sp_not_dec | apply Rd.sp sp_dec | apply Rd.sp sp_beq | apply Rd.sp sp_bne | apply Rd.sp sp_seq | apply Rd.sp sp_sne | apply Rd.sp sp_not | apply Rd.sp sp_any);(iterate 2 (next=>intro hc;first | (refine id (α:=False) ?_;simp only [List.length_map,List.length_append,List.length_cons,List.length_nil,Bool.and_true,Bool.and_eq_true,beq_iff_eq,Bool.and_eq_false_iff,beq_eq_false_iff_ne,Bool.true_and,ne_eq] at hc;done) | ((try simp only [List.length_map,List.length_append,List.length_cons,List.length_nil,Bool.and_true,Bool.and_eq_true,beq_iff_eq,Bool.and_eq_false_iff,beq_eq_false_iff_ne,Bool.true_and,ne_eq] at hc);exact hc)));(all_goals (try (first | exact Rd.ab | intro hc)))) | (with_reducible first | apply Rd.of (norm_one) | apply Rd.of (norm_app) | apply Rd.of (norm_cutEnd) | apply Rd.of (norm_cut) | apply Rd.of (norm_bytes1) | apply Rd.of (norm_bytes2) | apply Rd.of (norm_setByte) | apply Rd.of (norm_int1) | apply Rd.of (norm_mk)) | (with_reducible apply Rd.of (bytes_mk)) | (apply Rd.of (ar_byte)) | (apply Rd.of (ar_i64 (by omega) (by omega))) | (apply Rd.of (ar_low)) | (apply Rd.of (ix_byteN (by omega))) | (apply Rd.of (ix_byteK (by simp only [Int.reduceToNat];exact rfl) (by decide) (by omega))) | (apply Rd.of (ix_byte (by omega) (by omega))) | (apply Rd.of (ix_rfl (by decide) rfl)) | (apply Rd.of (sd_mk rfl)) | (apply Rd.of (sd_mk (by decide +kernel))) | (apply Rd.of (sd_mk (by first | (simp only [List.length_map,List.length_append,List.length_cons,List.length_nil];done) | ((try simp only [List.length_map,List.length_append,List.length_cons,List.length_nil,List.length_set,List.length_replicate,List.length_drop,List.length_take,true_and,and_true]);omega) | (dsimp only;omega)))) | (first | apply Rd.of (shl8 (by omega) (by omega)) | apply Rd.of (shl4 (by omega) (by omega)) | apply Rd.of (shl1 (by omega) (by omega)) | apply Rd.of (shl16 (by omega) (by omega)) | apply Rd.of (shl24 (by omega) (by omega)) | apply Rd.of (shr8 (by decide)) | apply Rd.of (shr4 (by decide)) | apply Rd.of (shr1 (by decide)) | apply Rd.of (shr16 (by decide)) | apply Rd.of (shr24 (by decide))) | (with_reducible first | apply Rd.of (bit_mkY and_1 (by decide)) | apply Rd.of (bit_mkY and_15 (by decide)) | apply Rd.of (bit_mkY and_255 (by decide)) | apply Rd.of (bit_mkY and_4095 (by decide)) | apply Rd.of (bit_mkY and_65535 (by decide))) | (apply Rd.of (quo_pos (by omega) (by omega) (by omega))) | (apply Rd.of (rem_pos (by omega) (by omega))) | exact Rd.lf))):G:=h.f k
theorem qgs {R G:Prop} (k:R) (h:Rd R G:=by (repeat' (first | (apply Rd.of (VS.mk)) | (apply Rd.of (dr_mk)) | ((first | apply Rd.sp sp_not_dec | apply Rd.sp sp_dec | apply Rd.sp sp_beq | apply Rd.sp sp_bne | apply Rd.sp sp_seq | apply Rd.sp sp_sne | apply Rd.sp sp_not | apply Rd.sp sp_any);(iterate 2 (next=>intro hc;first | (refine id (α:=False) ?_;simp only [List.length_map,List.length_append,List.length_cons,List.length_nil,Bool.and_true,Bool.and_eq_true,beq_iff_eq,Bool.and_eq_false_iff,beq_eq_false_iff_ne,Bool.true_and,ne_eq] at hc;done) | ((try simp only [List.length_map,List.length_append,List.length_cons,List.length_nil,Bool.and_true,Bool.and_eq_true,beq_iff_eq,Bool.and_eq_false_iff,beq_eq_false_iff_ne,Bool.true_and,ne_eq] at hc);exact hc)));(all_goals (try (first | exact Rd.ab | intro hc)))) | (with_reducible first | apply Rd.of (norm_one) | apply Rd.of (norm_app) | apply Rd.of (norm_cutEnd) | apply Rd.of (norm_cut) | apply Rd.of (norm_bytes1) | apply Rd.of (norm_bytes2) | apply Rd.of (norm_setByte) | apply Rd.of (norm_int1) | apply Rd.of (norm_mk)) | (with_reducible apply Rd.of (bytes_mk)) | (apply Rd.of (ar_byte)) | (apply Rd.of (ar_i64 (by omega) (by omega))) | (apply Rd.of (ar_low)) | (apply Rd.of (ix_byteN (by omega))) | (apply Rd.of (ix_byteK (by simp only [Int.reduceToNat];exact rfl) (by decide) (by omega))) | (apply Rd.of (ix_byte (by omega) (by omega))) | (apply Rd.of (ix_rfl (by decide) rfl)) | (apply Rd.of (sd_mk rfl)) | (apply Rd.of (sd_mk (by decide +kernel))) | (apply Rd.of (sd_mk (by first | (simp only [List.length_map,List.length_append,List.length_cons,List.length_nil];done) | ((try simp only [List.length_map,List.length_append,List.length_cons,List.length_nil,List.length_set,List.length_replicate,List.length_drop,List.length_take,true_and,and_true]);omega) | (dsimp only;omega)))) | (first | apply Rd.of (shl8 (by omega) (by omega)) | apply Rd.of (shl4 (by omega) (by omega)) | apply Rd.of (shl1 (by omega) (by omega)) | apply Rd.of (shl16 (by omega) (by omega)) | apply Rd.of (shl24 (by omega) (by omega)) | apply Rd.of (shr8 (by decide)) | apply Rd.of (shr4 (by decide)) | apply Rd.of (shr1 (by decide)) | apply Rd.of (shr16 (by decide)) | apply Rd.of (shr24 (by decide))) | (with_reducible first | apply Rd.of (bit_mkY and_1 (by decide)) | apply Rd.of (bit_mkY and_15 (by decide)) | apply Rd.of (bit_mkY and_255 (by decide)) | apply Rd.of (bit_mkY and_4095 (by decide)) | apply Rd.of (bit_mkY and_65535 (by decide))) | (apply Rd.of (quo_pos (by omega) (by omega) (by omega))) | (apply Rd.of (rem_pos (by omega) (by omega))) | exact Rd.lf))):G:=h.f k
theorem qgk {R G:Prop} (k:R) (h:Rd R G:=by (repeat' (first | (apply Rd.of (VS.mk)) | (apply Rd.of (dr_mk)) | (apply Rd.of (md_l)) | ((first | apply Rd.sp sp_not_dec | apply Rd.sp sp_dec | apply Rd.sp sp_beq | apply Rd.sp sp_bne | apply Rd.sp sp_seq | apply Rd.sp sp_sne | apply Rd.sp sp_not | apply Rd.sp sp_any);(iterate 2 (next=>intro hc;first | (refine id (α:=False) ?_;simp only [List.length_map,List.length_append,List.length_cons,List.length_nil,Bool.and_true,Bool.and_eq_true,beq_iff_eq,Bool.and_eq_false_iff,beq_eq_false_iff_ne,Bool.true_and,ne_eq] at hc;done) | ((try simp only [List.length_map,List.length_append,List.length_cons,List.length_nil,Bool.and_true,Bool.and_eq_true,beq_iff_eq,Bool.and_eq_false_iff,beq_eq_false_iff_ne,Bool.true_and,ne_eq] at hc);exact hc)));(all_goals (try (first | exact Rd.ab | intro hc)))) | (with_reducible first | apply Rd.of (norm_one) | apply Rd.of (norm_app) | apply Rd.of (norm_cutEnd) | apply Rd.of (norm_cut) | apply Rd.of (norm_bytes1) | apply Rd.of (norm_bytes2) | apply Rd.of (norm_setByte) | apply Rd.of (norm_int1)) | (with_reducible apply Rd.of (bytes_mk)) | (apply Rd.of (ar_byte)) | (apply Rd.of (ar_i64 (by omega) (by omega))) | (apply Rd.of (ar_low)) | (apply Rd.of (ix_byteN (by omega))) | (apply Rd.of (ix_byteK (by simp only [Int.reduceToNat];exact rfl) (by decide) (by omega))) | (apply Rd.of (ix_byte (by omega) (by omega))) | (apply Rd.of (ix_rfl (by decide) rfl)) | (apply Rd.of (sd_mk rfl)) | (apply Rd.of (sd_mk (by decide +kernel))) | (apply Rd.of (sd_mk (by first | (simp only [List.length_map,List.length_append,List.length_cons,List.length_nil];done) | ((try simp only [List.length_map,List.length_append,List.length_cons,List.length_nil,List.length_set,List.length_replicate,List.length_drop,List.length_take,true_and,and_true]);omega) | (dsimp only;omega)))) | (first | apply Rd.of (shl8 (by omega) (by omega)) | apply Rd.of (shl4 (by omega) (by omega)) | apply Rd.of (shl1 (by omega) (by omega)) | apply Rd.of (shl16 (by omega) (by omega)) | apply Rd.of (shl24 (by omega) (by omega)) | apply Rd.of (shr8 (by decide)) | apply Rd.of (shr4 (by decide)) | apply Rd.of (shr1 (by decide)) | apply Rd.of (shr16 (by decide)) | apply Rd.of (shr24 (by decide))) | (with_reducible first | apply Rd.of (bit_mkY and_1 (by decide)) | apply Rd.of (bit_mkY and_15 (by decide)) | apply Rd.of (bit_mkY and_255 (by decide)) | apply Rd.of (bit_mkY and_4095 (by decide)) | apply Rd.of (bit_mkY and_65535 (by decide))) | (apply Rd.of (quo_pos (by omega) (by omega) (by omega))) | (apply Rd.of (rem_pos (by omega) (by omega))) | exact Rd.lf))):G:=h.f k
theorem qgp {R G:Prop} (k:R) (h:Rd R G:=by (repeat' (first | (apply Rd.of (VS.mk)) | (apply Rd.of (dr_mk)) | (apply Rd.of (md_l)) | ((first | apply Rd.sp sp_not_dec | apply Rd.sp sp_dec | apply Rd.sp sp_beq | apply Rd.sp sp_bne | apply Rd.sp sp_seq | apply Rd.sp sp_sne | apply Rd.sp sp_not | apply Rd.sp sp_any);(iterate 2 (next=>intro hc;first | (refine id (α:=False) ?_;(try simp only [List.length_map,List.length_append,List.length_cons,List.length_nil,Bool.and_true,Bool.and_eq_true,beq_iff_eq,Bool.and_eq_false_iff,beq_eq_false_iff_ne,Bool.true_and,ne_eq] at hc);first | done | omega) | ((try simp only [List.length_map,List.length_append,List.length_cons,List.length_nil,Bool.and_true,Bool.and_eq_true,beq_iff_eq,Bool.and_eq_false_iff,beq_eq_false_iff_ne,Bool.true_and,ne_eq] at hc);exact hc)));(all_goals (try (first | exact Rd.ab | intro hc)))) | (with_reducible first | apply Rd.of (norm_one) | apply Rd.of (norm_app) | apply Rd.of (norm_cutEnd) | apply Rd.of (norm_cut) | apply Rd.of (norm_bytes1) | apply Rd.of (norm_bytes2) | apply Rd.of (norm_setByte) | apply Rd.of (norm_int1) | apply Rd.of (norm_mk)) | (with_reducible apply Rd.of (bytes_mk)) | (apply Rd.of (ar_byte)) | (apply Rd.of (ar_i64 (by omega) (by omega))) | (apply Rd.of (ar_low)) | (apply Rd.of (ix_byteN (by omega))) | (apply Rd.of (ix_byteK (by simp only [Int.reduceToNat];exact rfl) (by decide) (by omega))) | (apply Rd.of (ix_byte (by omega) (by omega))) | (apply Rd.of (ix_rfl (by decide) rfl)) | (apply Rd.of (sd_mk rfl)) | (apply Rd.of (sd_mk (by decide +kernel))) | (apply Rd.of (sd_mk (by first | (simp only [List.length_map,List.length_append,List.length_cons,List.length_nil];done) | ((try simp only [List.length_map,List.length_append,List.length_cons,List.length_nil,List.length_set,List.length_replicate,List.length_drop,List.length_take,true_and,and_true]);omega) | (dsimp only;omega)))) | (first | apply Rd.of (shl8 (by omega) (by omega)) | apply Rd.of (shl4 (by omega) (by omega)) | apply Rd.of (shl1 (by omega) (by omega)) | apply Rd.of (shl16 (by omega) (by omega)) | apply Rd.of (shl24 (by omega) (by omega)) | apply Rd.of (shr8 (by decide)) | apply Rd.of (shr4 (by decide)) | apply Rd.of (shr1 (by decide)) | apply Rd.of (shr16 (by decide)) | apply Rd.of (shr24 (by decide))) | (with_reducible first | apply Rd.of (bit_mkY and_1 (by decide)) | apply Rd.of (bit_mkY and_15 (by decide)) | apply Rd.of (bit_mkY and_255 (by decide)) | apply Rd.of (bit_mkY and_4095 (by decide)) | apply Rd.of (bit_mkY and_65535 (by decide))) | (apply Rd.of (quo_pos (by omega) (by omega) (by omega))) | (apply Rd.of (rem_pos (by omega) (by omega))) | exact Rd.lf))):G:=h.f k
theorem qgpn {R G:Prop} (k:R) (h:Rd R G:=by (repeat' (first | (apply Rd.of (VS.mk)) | (apply Rd.of (md_l)) | ((first | apply Rd.sp sp_not_dec | apply Rd.sp sp_dec | apply Rd.sp sp_beq | apply Rd.sp sp_bne | apply Rd.sp sp_seq | apply Rd.sp sp_sne | apply Rd.sp sp_not | apply Rd.sp sp_any);(iterate 2 (next=>intro hc;first | (refine id (α:=False) ?_;(try simp only [List.length_map,List.length_append,List.length_cons,List.length_nil,Bool.and_true,Bool.and_eq_true,beq_iff_eq,Bool.and_eq_false_iff,beq_eq_false_iff_ne,Bool.true_and,ne_eq] at hc);first | done | omega) | ((try simp only [List.length_map,List.length_append,List.length_cons,List.length_nil,Bool.and_true,Bool.and_eq_true,beq_iff_eq,Bool.and_eq_false_iff,beq_eq_false_iff_ne,Bool.true_and,ne_eq] at hc);exact hc)));(all_goals (try (first | exact Rd.ab | intro hc)))) | (with_reducible first | apply Rd.of (norm_one) | apply Rd.of (norm_app) | apply Rd.of (norm_cutEnd) | apply Rd.of (norm_cut) | apply Rd.of (norm_bytes1) | apply Rd.of (norm_bytes2) | apply Rd.of (norm_setByte) | apply Rd.of (norm_int1) | apply Rd.of (norm_mk)) | (with_reducible apply Rd.of (bytes_mk)) | (apply Rd.of (ar_byte)) | (apply Rd.of (ar_i64 (by omega) (by omega))) | (apply Rd.of (ar_low)) | (apply Rd.of (ix_byteN (by omega))) | (apply Rd.of (ix_byteK (by simp only [Int.reduceToNat];exact rfl) (by decide) (by omega))) | (apply Rd.of (ix_byte (by omega) (by omega))) | (apply Rd.of (ix_rfl (by decide) rfl)) | (apply Rd.of (sd_mk rfl)) | (apply Rd.of (sd_mk (by decide +kernel))) | (apply Rd.of (sd_mk (by first | (simp only [List.length_map,List.length_append,List.length_cons,List.length_nil];done) | ((try simp only [List.length_map,List.length_append,List.length_cons,List.length_nil,List.length_set,List.length_replicate,List.length_drop,List.length_take,true_and,and_true]);omega) | (dsimp only;omega)))) | (first | apply Rd.of (shl8 (by omega) (by omega)) | apply Rd.of (shl4 (by omega) (by omega)) | apply Rd.of (shl1 (by omega) (by omega)) | apply Rd.of (shl16 (by omega) (by omega)) | apply Rd.of (shl24 (by omega) (by omega)) | apply Rd.of (shr8 (by decide)) | apply Rd.of (shr4 (by decide)) | apply Rd.of (shr1 (by decide)) | apply Rd.of (shr16 (by decide)) | apply Rd.of (shr24 (by decide))) | (with_reducible first | apply Rd.of (bit_mkY and_1 (by decide)) | apply Rd.of (bit_mkY and_15 (by decide)) | apply Rd.of (bit_mkY and_255 (by decide)) | apply Rd.of (bit_mkY and_4095 (by decide)) | apply Rd.of (bit_mkY and_65535 (by decide))) | (apply Rd.of (quo_pos (by omega) (by omega) (by omega))) | (apply Rd.of (rem_pos (by omega) (by omega))) | exact Rd.lf))):G:=h.f k
theorem qgv {R G:Prop} (k:R) (h:Rd R G:=by (repeat' (first | (apply Rd.of (VS.mk)) | (apply Rd.of (dr_mk)) | (apply Rd.of (fun h=>md_l (sd_mk (by decide) h))) | (apply Rd.of (fun h=>md_r (sd_mk ⟨by omega,by omega⟩ h))) | (apply Rd.of (md_l)) | ((first | apply Rd.sp sp_not_dec | apply Rd.sp sp_dec | apply Rd.sp sp_beq | apply Rd.sp sp_bne | apply Rd.sp sp_seq | apply Rd.sp sp_sne | apply Rd.sp sp_not | apply Rd.sp sp_any);(iterate 2 (next=>intro hc;first | (refine id (α:=False) ?_;(try simp only [List.length_map,List.length_append,List.length_cons,List.length_nil,Bool.and_true,Bool.and_eq_true,beq_iff_eq,Bool.and_eq_false_iff,beq_eq_false_iff_ne,Bool.true_and,ne_eq] at hc);first | done | omega) | ((try simp only [List.length_map,List.length_append,List.length_cons,List.length_nil,Bool.and_true,Bool.and_eq_true,beq_iff_eq,Bool.and_eq_false_iff,beq_eq_false_iff_ne,Bool.true_and,ne_eq] at hc);exact hc)));(all_goals (try (first | exact Rd.ab | intro hc)))) | (apply Rd.of (reg_ix (by omega) (by omega))) | (apply Rd.of (sd_reg (by omega) (by omega) rfl)) | (apply Rd.of (reg_set (by omega) (by omega))) | (with_reducible first | apply Rd.of (norm_one) | apply Rd.of (norm_app) | apply Rd.of (norm_cutEnd) | apply Rd.of (norm_cut) | apply Rd.of (norm_bytes1) | apply Rd.of (norm_bytes2) | apply Rd.of (norm_setByte) | apply Rd.of (norm_int1) | apply Rd.of (norm_mk)) | (with_reducible apply Rd.of (bytes_mk)) | (apply Rd.of (ar_byte)) | (apply Rd.of (ar_i64 (by omega) (by omega))) | (apply Rd.of (ar_low)) | (apply Rd.of (ix_byteN (by omega))) | (apply Rd.of (ix_byteK (by simp only [Int.reduceToNat];exact rfl) (by decide) (by omega))) | (apply Rd.of (ix_byte (by omega) (by omega))) | (apply Rd.of (ix_rfl (by decide) rfl)) | (apply Rd.of (sd_mk rfl)) | (apply Rd.of (sd_mk (by decide +kernel))) | (apply Rd.of (sd_mk (by first | (simp only [List.length_map,List.length_append,List.length_cons,List.length_nil];done) | ((try simp only [List.length_map,List.length_append,List.length_cons,List.length_nil,List.length_set,List.length_replicate,List.length_drop,List.length_take,true_and,and_true]);omega) | (dsimp only;omega)))) | (first | apply Rd.of (shl8 (by omega) (by omega)) | apply Rd.of (shl4 (by omega) (by omega)) | apply Rd.of (shl1 (by omega) (by omega)) | apply Rd.of (shl16 (by omega) (by omega)) | apply Rd.of (shl24 (by omega) (by omega)) | apply Rd.of (shr8 (by decide)) | apply Rd.of (shr4 (by decide)) | apply Rd.of (shr1 (by decide)) | apply Rd.of (shr16 (by decide)) | apply Rd.of (shr24 (by decide))) | (with_reducible first | apply Rd.of (bit_mkY and_1 (by decide)) | apply Rd.of (bit_mkY and_15 (by decide)) | apply Rd.of (bit_mkY and_255 (by decide)) | apply Rd.of (bit_mkY and_4095 (by decide)) | apply Rd.of (bit_mkY and_65535 (by decide))) | (apply Rd.of (quo_pos (by omega) (by omega) (by omega))) | (apply Rd.of (rem_pos (by omega) (by omega))) | exact Rd.lf))):G:=h.f k
end Go.Plat
namespace Go.Plat
open Go
set_option linter.unusedVariables false
set_option linter.unusedSimpArgs false
theorem shift_cellnil {n0 e k:Nat} {L:List Ob} {ds ds':List D} (hk:L[k]?=some (.cells ds)) (hl:ds.length=ds'.length)
  (h:∀ (i:Nat) d d',ds[i]?=some d→ds'[i]?=some d'→Nz e L.length d d'):Shift n0 (fun d d'=>d'=d) L (L.set k (.cells ds')++[.spare 0]):=fun w ρ hf=>by
 have hkl:k < L.length:=(List.getElem?_eq_some_iff.1 hk).1
 have hlen:(L.set k (.cells ds')).length=L.length:=by simp
 obtain ⟨o1,o2⟩:=hf.obj k _ hk
 have hget:∀ {j:Nat} {x:Ob},(L.set k (.cells ds')++[.spare 0])[j]?=some x→(j=k∧x= .cells ds')∨(j≠k∧L[j]?=some x∧j < L.length)∨(j=L.length∧x= .spare 0):=by
  intro j x h
  rcases snoc_get h with ⟨h1,h2⟩ | ⟨h1,h2⟩
  ·rcases set_get h2 with ⟨h3,h4⟩ | ⟨h3,h4⟩
   ·exact .inl ⟨h3,h4⟩
   ·exact .inr (.inl ⟨h3,h4,by rwa [hlen] at h1⟩)
  ·exact .inr (.inr ⟨by rw [h1,hlen],h2.symm⟩)
 have hc:Compat ρ L (upd ρ L.length ⟨0,0,0⟩) (L.set k (.cells ds')++[.spare 0]):=by
  refine ⟨rfl,by simp,fun j d hj h=>?_,fun j d hj h=>?_,fun j n hj h=>?_,fun j e' d hj h=>?_⟩
  all_goals
   rcases hget h with ⟨h1,h2⟩ | ⟨_,h2,_⟩ | ⟨h1,_⟩
   ·first
     | (cases h2;subst h1;exact ⟨_,hk,upd_ne (by omega)⟩)
     | cases h2
   ·first
     | exact ⟨_,h2,upd_ne (by omega)⟩
     | exact ⟨_,h2,Nat.le_refl _,fun _=>upd_ne (by omega)⟩
   ·omega
 have hnone:∀ b off,¬ Ob.owns (.spare 0) ⟨0,0,0⟩ b off:=fun b off ⟨_,_,h4⟩=>by
  have h4:off < 0+0:=h4
  omega
 have hown:∀ b off,own (upd ρ L.length ⟨0,0,0⟩) (L.set k (.cells ds')++[.spare 0]) b off→own ρ L b off:=by
  rintro b off ⟨j,o,h1,h2⟩
  rcases hget h1 with ⟨h3,h4⟩ | ⟨h3,h4,h5⟩ | ⟨h3,h4⟩
  ·subst h3;subst h4
   rw [upd_ne (by omega)] at h2
   exact ⟨j,_,hk,h2⟩
  ·rw [upd_ne (by omega)] at h2
   exact ⟨j,o,h4,h2⟩
  ·subst h3;subst h4
   rw [upd_same] at h2
   exact (hnone _ _ h2).elim
 have hfr:Fresh w (own ρ L) (own (upd ρ L.length ⟨0,0,0⟩) (L.set k (.cells ds')++[.spare 0])):=fun b off h=>.inl (hown b off h)
 have hff:=hfr.foot (ρ':=upd ρ L.length ⟨0,0,0⟩) rfl
 have hgo:∀ (j:Nat) x,(L.set k (.cells ds')++[.spare 0])[j]?=some x→∀ b off,x.owns (upd ρ L.length ⟨0,0,0⟩ j) b off→∃ y,L[j]?=some y∧y.owns (ρ j) b off:=by
  intro j x h1 b off h2
  rcases hget h1 with ⟨h3,h4⟩ | ⟨h3,h4,h5⟩ | ⟨h3,h4⟩
  ·subst h3;subst h4
   rw [upd_ne (by omega)] at h2
   exact ⟨_,hk,h2⟩
  ·rw [upd_ne (by omega)] at h2
   exact ⟨_,h4,h2⟩
  ·subst h3;subst h4
   rw [upd_same] at h2
   exact (hnone _ _ h2).elim
 refine ⟨_,hf.change F0 (fun _ _ h=>h.elim) (Ext.refl _ _) hc hfr (fun j j' x x' b off h1 h2 h3 h4=>?_) (fun j o hj=>?_),fun d d' v hd hr=>?_,hown,fun ρ0 L0 hl h0=>h0.trans hc⟩
 ·obtain ⟨y,g1,g2⟩:=hgo j x h1 b off h3
  obtain ⟨y',g3,g4⟩:=hgo j' x' h2 b off h4
  exact hf.disj _ _ _ _ _ _ g1 g3 g2 g4
 ·rcases hget hj with ⟨h2,h3⟩ | ⟨h2,h3,h4⟩ | ⟨h2,h3⟩
  ·subst h2;subst h3
   rw [upd_ne (by omega)]
   refine .inr ⟨by rw [o1,hl],fun i d' hi=>?_⟩
   have hil:i < ds.length:=by rw [hl];exact (List.getElem?_eq_some_iff.1 hi).1
   obtain ⟨⟨v,hv,hr⟩,hs⟩:=o2 i _ (List.getElem?_eq_getElem hil)
   refine ⟨⟨v,hv,?_⟩,hs⟩
   rcases h i _ d' (List.getElem?_eq_getElem hil) hi with he | ⟨he,rfl⟩
   ·rw [he];exact hr.keep (Ext.refl _ _) hff hc
   ·rw [he] at hr
    obtain ⟨a,rfl⟩:=hr.nilsl_inv
    refine .tok _ _ _ _ (by simp) nil_tok fun n hn=>?_
    rw [List.getElem?_append_right (by simp),hlen,Nat.sub_self] at hn
    simp at hn
    subst hn
    refine ⟨Nat.le_refl _,fun _=>?_⟩
    rw [upd_same]
    cases a with
    | none=>exact ⟨rfl,rfl⟩
    | some x=>exact .inr ⟨rfl,rfl⟩
  ·exact .inl ⟨h4,h3,upd_ne (by omega),fun _ _ _ h=>h⟩
  ·subst h2;subst h3
   rw [upd_same]
   exact .inr fun q hq=>by simp at hq
 ·subst hd
  exact hr.keep (Ext.refl _ _) hff hc
theorem weak_cellnil {n0:Nat} {σ:List (Nat×D)} {L:List Ob} (k e:Nat) {ds:List D} (ds':List D) (hk:L[k]?=some (.cells ds)) (hl:ds.length=ds'.length)
  (h:∀ (i:Nat) d d',ds[i]?=some d→ds'[i]?=some d'→Nz e L.length d d'):Weak n0 σ L σ (L.set k (.cells ds')++[.spare 0]):=weak_of (shift_cellnil hk hl h) fun _=>.inr rfl
theorem Nz.here {e tok:Nat}:Nz e tok .nilsl (.sl e [] (some tok)):=.inr ⟨rfl,rfl⟩
theorem Nz.same {e tok:Nat} {d:D}:Nz e tok d d:=.inl rfl
def NzL (e tok:Nat):List D→List D→Prop
 | [],[]=>True
 | d::ds,d'::ds'=>Nz e tok d d'∧NzL e tok ds ds'
 | _,_=>False
theorem NzL_eq {e tok:Nat}:∀ {ds ds':List D},NzL e tok ds ds'→ds.length=ds'.length∧∀ (i:Nat) d d',ds[i]?=some d→ds'[i]?=some d'→Nz e tok d d'
 | [],[],_=>⟨rfl,by simp⟩
 | d::ds,d'::ds',h=>by
  obtain ⟨h1,h2⟩:=NzL_eq h.2
  refine ⟨by simp [h1],fun i a b ha hb=>?_⟩
  cases i with
  | zero=>simp at ha hb;subst ha;subst hb;exact h.1
  | succ i=>exact h2 i a b (by simpa using ha) (by simpa using hb)
 | [],_::_,h=>h.elim
 | _::_,[],h=>h.elim
theorem weak_cellnil' {n0:Nat} {σ:List (Nat×D)} {L:List Ob} (k e:Nat) {ds:List D} (ds':List D) (hk:L[k]?=some (.cells ds)) (h:NzL e L.length ds ds') :
  Weak n0 σ L σ (L.set k (.cells ds')++[.spare 0]):=weak_cellnil k e ds' hk (NzL_eq h).1 (NzL_eq h).2
def AWPin (P:Program) (n:Nat) (E:Entry) (c:Code) (Q:Ex→List (Nat×D)→List Ob→Prop) (σ:List (Nat×D)) (L:List Ob):Prop:=
 ∀ a w,ARel n E σ L a w→∀ (b:Frame) (kk:List Item) (cs:List Frame),∃ e a' w',AQ n E Q e a' w'∧Arrives P (lone (b.at a (.code c:: .inLoop c::kk)) cs w) b kk cs e a' w'
theorem loop_of_in {P:Program} {n:Nat} {E:Entry} {c:Code} {Q:Ex→List (Nat×D)→List Ob→Prop} {σ:List (Nat×D)} {L:List Ob} (h:AWPin P n E c Q σ L):AWP P n E (.loop c) Q σ L:=by
 intro a w hr b kk cs
 obtain ⟨e,a',w',hq,harr⟩:=h a w hr b kk cs
 exact ⟨e,a',w',hq,.of_steps (.one step_loop) harr⟩
theorem in_round {P:Program} {n:Nat} {E:Entry} {c:Code} {Q:Ex→List (Nat×D)→List Ob→Prop} {σ:List (Nat×D)} {L:List Ob}
  (h:AWP P n E c (fun e σ L=>match e with | .normal=>VS (AWPin P n E c Q σ L) | e=>Q e σ L) σ L):AWPin P n E c Q σ L:=by
 intro a w hrel b kk cs
 obtain ⟨e,a₁,w₁,hq,harr⟩:=h a w hrel b (.inLoop c::kk) cs
 cases e with
 | normal=>
  obtain ⟨σ₁,L₁,hend,hrel₁⟩:=hq
  obtain ⟨e₂,a₂,w₂,hq₂,harr₂⟩:=hend.out a₁ w₁ hrel₁ b kk cs
  exact ⟨e₂,a₂,w₂,hq₂,.of_steps (Steps.trans harr (.one step_inLoop)) harr₂⟩
 | exit id=>exact ⟨.exit id,a₁,w₁,hq,.pass (x:=.inLoop c) rfl (fun _ _=>.inl (by simp)) harr⟩
 | ret=>exact ⟨.ret,a₁,w₁,hq,.pass (x:=.inLoop c) rfl (fun _ _=>.inl (by simp)) harr⟩
 | goto l=>exact hq.elim
 | panic ch=>exact hq.elim
 | outgrown=>exact hq.elim
theorem awp_unroll {P:Program} {n:Nat} {E:Entry} {c:Code} {Q:Ex→List (Nat×D)→List Ob→Prop} {σ:List (Nat×D)} {L:List Ob}
  (h:AWP P n E c (fun e σ L=>match e with | .normal=>VS (AWPin P n E c Q σ L) | e=>Q e σ L) σ L):AWP P n E (.loop c) Q σ L:=loop_of_in (in_round h)
theorem call_inline {P : Program} {T : Tab} (hT : TabOk P T) {f : FuncId} {fn : Func} {c : Code} (hf : P.funcs[f]? = some fn) (hb : fn.body = some c) (hn : (fn.name == "runtime.NumGoroutine") = false)
  {as:List D} {L:List Ob} {KP:D→Prop} {KW:D→List Ob→Prop} (d:D) (L':List Ob) (hlen:L.length≤L'.length) (has:as.length≤fn.ntmps)
  (h:∀ E:Entry,E.L=L→AWP P fn.ntmps E c (FinQ T fn.results.toList L.length d L') (argS 0 as) L) (hK:KW d L'):CallS P f as L KP KW:=by
 have hm:Meets P f (fun a M x M'=>a=as∧M=L∧x=d∧M'=L'):=meets_intro hT hf hb hn (by
  rintro a M x M' ⟨rfl,rfl,rfl,rfl⟩
  exact ⟨hlen,has,h⟩)
 exact .inr ⟨d,L',fun w ρ vs hfit hr=>hm.2 _ _ _ _ ⟨rfl,rfl,rfl,rfl⟩ w ρ vs hfit hr,hm.1,hK⟩
theorem end_all {n0:Nat} {r:D} {L:List Ob}:EndS n0 r r L L:=
 .inr ⟨fun a b=>a=b,fun w ρ hf=>⟨ρ,hf,fun d d' v hd hr=>by subst hd;exact hr,fun _ _ h=>h,fun _ _ _ h=>h⟩,rfl⟩
theorem end_ff {n0:Nat} {b:Bool} {L L':List Ob} (h:b=false) (hL:L=L') (hn:n0≤L'.length):EndS n0 .ff (.bool b) L L':=by subst hL;exact end_le (LeD.ff h) end_all hn
theorem end_tt {n0:Nat} {b:Bool} {L L':List Ob} (h:b=true) (hL:L=L') (hn:n0≤L'.length):EndS n0 .tt (.bool b) L L':=by subst hL;exact end_le (LeD.tt h) end_all hn
theorem end_eq {n0:Nat} {r d:D} {L L':List Ob} (hr:r=d) (hL:L=L'):EndS n0 r d L L':=by subst hr;subst hL;exact end_all
def ClD (n:Nat) (d:D):Prop:=∀ m:Nat→Option Nat,(∀ k,k < n→m k=some k)→RenOf m d d
def ClL (n:Nat) (ds:List D):Prop:=∀ d∈ds,ClD n d
def ClO (n:Nat) (o:Ob):Prop:=∀ m:Nat→Option Nat,(∀ k,k < n→m k=some k)→ObRen m o o
theorem ClL.ren {n:Nat} {ds:List D} (h:ClL n ds) {m:Nat→Option Nat} (hm:∀ k,k < n→m k=some k):RenLOf m ds ds:=
 ⟨rfl,fun i d d' h1 h2=>by rw [h1] at h2;cases h2;exact h d (List.mem_of_getElem? h1) m hm⟩
theorem ClL.nil {n:Nat}:ClL n []:=by intro d hd;cases hd
theorem ClL.cons {n:Nat} {d:D} {ds:List D} (h:ClD n d) (k:ClL n ds):ClL n (d::ds):=by
 intro x hx
 rcases List.mem_cons.1 hx with rfl | hx
 ·exact h
 ·exact k x hx
theorem ClD.of {n:Nat} {d:D} (h:∀ m:Nat→Option Nat,(∀ k,k < n→m k=some k)→renK m d (fun d'=>d'=d)):ClD n d:=fun m hm=>by
 obtain ⟨d',h1,rfl⟩:=renK_eq (h m hm)
 exact h1
theorem ClD.int {n:Nat} {k:IntKind} {x:Int}:ClD n (.int k x):=ClD.of fun m hm=>rfl
theorem ClD.str {n:Nat} {s:List UInt8}:ClD n (.str s):=ClD.of fun m hm=>rfl
theorem ClD.bool {n:Nat} {b:Bool}:ClD n (.bool b):=ClD.of fun m hm=>rfl
theorem ClD.nilsl {n:Nat}:ClD n .nilsl:=ClD.of fun m hm=>rfl
theorem ClD.ff {n:Nat}:ClD n .ff:=ClD.of fun m hm=>rfl
theorem ClD.tup0 {n:Nat}:ClD n (.tup []):=ClD.of fun m hm=>rfl
theorem ClD.sl {n e:Nat} {ds:List D}:ClD n (.sl e ds none):=ClD.of fun m hm=>rfl
theorem ClD.tok {n e k:Nat} {ds:List D} (h:k < n):ClD n (.sl e ds (some k)):=ClD.of fun m hm=>by
 show renSl m e ds (some k) (renLK m ds) (fun d'=>d'= .sl e ds (some k))
 unfold renSl
 simp [hm k h]
theorem ClD.osl {n e k v off len:Nat} (h:k < n):ClD n (.osl e k v off len):=ClD.of fun m hm=>by
 show renOsl m e k v off len (fun d'=>d'= .osl e k v off len)
 unfold renOsl
 simp [hm k h]
theorem ClD.loc {n k off:Nat} (h:k < n):ClD n (.loc k off):=ClD.of fun m hm=>by
 show renLoc m k off (fun d'=>d'= .loc k off)
 unfold renLoc
 simp [hm k h]
theorem ClD.aloc {n k v i off:Nat} (h:k < n):ClD n (.aloc k v i off):=ClD.of fun m hm=>by
 show renAloc m k v i off (fun d'=>d'= .aloc k v i off)
 unfold renAloc
 simp [hm k h]
theorem ClD.agg {n:Nat} {ds:List D} (h:ClL n ds):ClD n (.agg ds):=fun m hm w F F1 ρ L ρ1 L1 v hr hF hv=>by
 obtain ⟨vs,rfl,h1,h2⟩:=hv.agg_inv
 exact .agg _ _ h1 fun i d u hd hu=>h d (List.mem_of_getElem? hd) m hm _ _ _ _ _ _ _ _ hr hF (h2 i d u hd hu)
theorem ClD.tup {n:Nat} {ds:List D} (h:ClL n ds):ClD n (.tup ds):=fun m hm w F F1 ρ L ρ1 L1 v hr hF hv=>by
 obtain ⟨vs,rfl,h1,h2⟩:=hv.tup_inv
 exact .tup _ _ h1 fun i d u hd hu=>h d (List.mem_of_getElem? hd) m hm _ _ _ _ _ _ _ _ hr hF (h2 i d u hd hu)
theorem ClO.cells {n:Nat} {ds:List D} (h:ClL n ds):ClO n (.cells ds):=fun m hm=>⟨ds,rfl,h.ren hm⟩
theorem ClO.spare {n k:Nat}:ClO n (.spare k):=fun m hm=>rfl
theorem ClO.dead {n:Nat}:ClO n .dead:=fun m hm=>rfl
theorem ClO.arr {n e:Nat} {ds:List D} (h:∀ d∈ds,ClL n d.cells):ClO n (.arr e ds):=fun m hm=>⟨ds,rfl,rfl,fun i d d' h1 h2=>by
 rw [h1] at h2;cases h2;exact ⟨rfl,(h d (List.mem_of_getElem? h1)).ren hm⟩⟩
theorem keepAt_range (n:Nat):∀ (i k:Nat),i≤k→k < n→keepAt (List.range' i (n - i)) i k=some k:=by
 intro i k hi hk
 generalize hq:n - i=q
 induction q generalizing i with
 | zero=>omega
 | succ q ih=>
  rw [List.range'_succ,keepAt]
  rcases Nat.eq_or_lt_of_le hi with rfl | hlt
  ·simp
  ·have:Nat.beq i k=false:=by
    cases h:Nat.beq i k with
    | false=>rfl
    | true=>have:=Nat.eq_of_beq_eq_true h;omega
   rw [this]
   exact ih (i+1) (by omega) (by omega)
theorem below_lt {n k:Nat} (h:k < n):below n k=some k:=by
 unfold below
 have:Nat.blt k n=true:=by simpa [Nat.blt_eq] using h
 rw [this]
theorem shift_pre {n0:Nat} (M X:List Ob) (hn:n0≤M.length) (hc:∀ o∈M,ClO M.length o):Shift n0 (RenOf (below M.length)) (M++X) M:=by
 have h3:M.length≤(M++X).length:=by simp
 have hm:∀ k,k < M.length→below M.length k=some k:=fun k hk=>below_lt hk
 have h4:∀ (k:Nat) o o',(M++X)[k]?=some o→M[k]?=some o'→ObRen (below M.length) o o':=fun k o o' h1 h2=>by
  have hk:k < M.length:=(List.getElem?_eq_some_iff.1 h2).1
  rw [List.getElem?_append_left hk,h2] at h1
  cases h1
  exact hc _ (List.mem_of_getElem? h2) _ hm
 exact fun w ρ hf=>⟨ρ,hf.first h3 h4,fun d d' v hd hr=>hd _ _ _ _ _ _ _ _ (below_ok h3 h4) (fun b off=>foot_prefix h3 h4) hr,fun b off ho=>own_prefix h3 h4 ho,
  fun ρ0 L0 e hc=>hc.first (by omega) h3 h4⟩
theorem end_pre {n0:Nat} {d:D} {L:List Ob} (M X:List Ob) (hL:L=M++X) (hn:n0≤M.length) (hd:ClD M.length d) (hc:∀ o∈M,ClO M.length o):EndS n0 d d L M:=by
 subst hL
 exact .inr ⟨RenOf (below M.length),shift_pre M X hn hc,hd _ fun k hk=>below_lt hk⟩
theorem call_pre {P:Program} {f:Nat} {spec:Spec} (hm:Meets P f spec) (M X M':List Ob) {as:List D} {L:List Ob} {d:D} {KP:D→Prop} {KW:D→List Ob→Prop} (hL:L=M++X) (hs:spec as M d M')
  (hlen:M'.length=M.length) (has:ClL M.length as) (hd:ClD M.length d) (hc:∀ o∈M,ClO M.length o) (hc':∀ o∈M',ClO M.length o) (hK:KW d (M'++X)):CallS P f as L KP KW:=by
 subst hL
 refine .inr ⟨d,M'++X,fun w ρ vs hf hr=>?_,hm.1,hK⟩
 have hkeep:∀ k,k < M.length→keepAt (List.range M.length) 0 k=some k:=fun k hk=>by
  have:=keepAt_range M.length 0 k (Nat.zero_le _) hk
  rwa [Nat.sub_zero,← List.range_eq_range'] at this
 have hnth:∀ k,k < M.length→nthO (List.range M.length) k=some k:=fun k hk=>by rw [nthO_eq,List.getElem?_range hk]
 have hget:∀ k,k < M.length→(M++X)[k]?=M[k]?:=fun k hk=>List.getElem?_append_left hk
 refine frame_call hm (ks:=List.range M.length) (js:=List.range M.length) (as1:=as) (L1:=M) (d1:=d) (L1':=M') ?_ ?_ (fun _ _=>rfl) (fun i j hj=>?_) (has.ren hkeep) (by simp) (fun i o' ho=>?_) hs (hd _ hnth) (by simp [hlen]) (by simp [hlen]) (fun k hk hn=>?_) (fun i k hk=>?_) (fun i o ho=>?_) hf hr
 ·suffices h:∀ (n i:Nat),nodupB (List.range' i n)=true by rw [List.range_eq_range'];exact h _ _
  intro n
  induction n with
  | zero=>intro i;rfl
  | succ n ih=>
   intro i
   rw [List.range'_succ,nodupB]
   have:memB i (List.range' (i+1) n)=false:=by
    suffices h:∀ (n j:Nat),i < j→memB i (List.range' j n)=false from h _ _ (Nat.lt_succ_self i)
    intro n
    induction n with
    | zero=>intro j _;rfl
    | succ n ih2=>
     intro j hj
     rw [List.range'_succ,memB]
     have hb:Nat.beq j i=false:=by
      cases h:Nat.beq j i with
      | false=>rfl
      | true=>have:=Nat.eq_of_beq_eq_true h;omega
     have hb2:Nat.beq i j=false:=by
      cases h:Nat.beq i j with
      | false=>rfl
      | true=>have:=Nat.eq_of_beq_eq_true h;omega
     simp only [hb,hb2]
     exact ih2 _ (by omega)
   rw [this]
   exact ih _
 ·intro k hk;simp at hk ⊢;omega
 ·simp at hj
 ·have hi:i < M.length:=(List.getElem?_eq_some_iff.1 ho).1
  exact ⟨i,o',by rw [List.getElem?_range hi],by rw [hget i hi];exact ho,hc o' (List.mem_of_getElem? ho) _ hkeep⟩
 ·have:M.length≤k:=by simpa using hn
  rw [List.getElem?_append_right (by omega),List.getElem?_append_right this,hlen]
 ·have hi:i < M.length:=by have:=(List.getElem?_eq_some_iff.1 hk).1;simpa using this
  rw [List.getElem?_range hi] at hk
  cases hk
  have hi':i < M'.length:=by omega
  exact ⟨M'[i],M'[i],List.getElem?_eq_getElem hi',by rw [List.getElem?_append_left hi',List.getElem?_eq_getElem hi'],hc' _ (List.getElem_mem hi') _ hnth⟩
 ·have:=(List.getElem?_eq_some_iff.1 ho).1
  simp [hlen] at this
  omega
theorem call_b {P:Program} {f:Nat} {as:List D} {L:List Ob} {KP:D→Prop} {KW:D→List Ob→Prop} {α:Type} {I:α→Prop} {A:α→List D} {O:α→List Ob} {R:α→D} {O':α→List Ob}
  (h:Meets P f (SpecF I A O R O')) (X:List Ob) (p:α) (hI:I p) (hL:L=O p++X) (has:LeL as (A p)) (hlen:(O' p).length=(O p).length) (hcl:ClL (O p).length as) (hR:ClD (O p).length (R p))
  (hc:∀ o∈O p,ClO (O p).length o) (hc':∀ o∈O' p,ClO (O p).length o) (hK:KW (R p) (O' p++X)):CallS P f as L KP KW:=
 call_pre h (O p) X (O' p) hL ⟨p,hI,has,rfl,rfl,rfl⟩ hlen hcl hR hc hc' hK
def sameS (σ:List (Nat×D)):List (Nat×D)→Prop
 | []=>True
 | (t,d)::r=>look σ t=d∧sameS σ r
theorem sameS_look {σ:List (Nat×D)}:∀ {σ':List (Nat×D)},sameS σ σ'→∀ t,look σ' t= .any∨look σ t=look σ' t
 | [],_,t=>.inl rfl
 | (s,d)::r,h,t=>by
  simp only [look]
  split
  ·rename_i hb
   have:=Nat.eq_of_beq_eq_true hb
   subst this
   exact .inr h.1
  ·exact sameS_look h.2 t
theorem weak_same {n0:Nat} {σ σ':List (Nat×D)} {L L':List Ob} (hL:L=L') (h:sameS σ σ'):Weak n0 σ L σ' L':=by
 subst hL
 exact ⟨fun d d'=>d=d',.refl _ _,fun t=>sameS_look h t⟩
theorem loop_same {α:Type} {n0:Nat} {I:α→Prop} {S:α→List (Nat×D)} {O:α→List Ob} {μ:α→Nat} {p:α} {σ:List (Nat×D)} {L:List Ob} (p':α) (h1:I p') (h2:μ p' < μ p) (hL:L=O p') (h:sameS σ (S p')) :
  LoopEnd n0 I S O μ p σ L:=⟨p',h1,h2,.inr (weak_same hL h)⟩
theorem call_le {P:Program} {f:Nat} {as as1:List D} {L:List Ob} {KP:D→Prop} {KW:D→List Ob→Prop} (has:LeL as as1) (h:CallS P f as1 L (fun _=>False) KW):CallS P f as L KP KW:=
 call_shift (φ:=LeD) (fun w ρ hf=>⟨ρ,hf,fun d d' v hd hr=>hd _ _ _ _ _ hr,fun _ _ h=>h,fun _ _ _ h=>h⟩) has h
theorem look_mem:∀ (σ:List (Nat×D)) (t:Nat),look σ t= .any∨∃ p∈σ,p.2=look σ t
 | [],t=>.inl rfl
 | (s,d)::r,t=>by
  simp only [look]
  split
  ·exact .inr ⟨_,List.mem_cons_self,rfl⟩
  ·exact (look_mem r t).imp id fun ⟨p,h1,h2⟩=>⟨p,List.mem_cons_of_mem _ h1,h2⟩
theorem weak_pre {n0:Nat} {σ σ':List (Nat×D)} {L:List Ob} (M X:List Ob) (hL:L=M++X) (hn:n0≤M.length) (hc:∀ o∈M,ClO M.length o) (h:sameS σ σ') (hσ:ClL M.length (σ'.map (·.2))):Weak n0 σ L σ' M:=by
 subst hL
 refine ⟨_,shift_pre M X hn hc,fun t=>?_⟩
 rcases sameS_look h t with h1 | h1
 ·exact .inl h1
 rcases look_mem σ' t with h2 | ⟨p,h2,h3⟩
 ·exact .inl h2
 ·rw [h1,← h3]
  exact .inr (hσ p.2 (List.mem_map.2 ⟨p,h2,rfl⟩) _ fun k hk=>below_lt hk)
theorem loop_pre {α:Type} {n0:Nat} {I:α→Prop} {S:α→List (Nat×D)} {O:α→List Ob} {μ:α→Nat} {p:α} {σ:List (Nat×D)} {L:List Ob} (p':α) (X:List Ob) (h1:I p') (h2:μ p' < μ p) (hL:L=O p'++X)
  (hn:n0≤(O p').length) (hc:∀ o∈O p',ClO (O p').length o) (h:sameS σ (S p')) (hσ:ClL (O p').length ((S p').map (·.2))):LoopEnd n0 I S O μ p σ L:=⟨p',h1,h2,.inr (weak_pre (O p') X hL hn hc h hσ)⟩
theorem shift_dead {n0 k:Nat} {L:List Ob} (hkl:k < L.length):Shift n0 (fun d d'=>d'=d) L (L.set k .dead):=fun w ρ hf=>by
 have hc:Compat ρ L ρ (L.set k .dead):=by
  refine ⟨rfl,by simp,fun j d hj h=>?_,fun j d hj h=>?_,fun j n hj h=>?_,fun j e' d hj h=>?_⟩
  all_goals
   rcases set_get h with ⟨h1,h2⟩ | ⟨_,h2⟩
   ·cases h2
   ·first
     | exact ⟨_,h2,rfl⟩
     | exact ⟨_,h2,Nat.le_refl _,fun _=>rfl⟩
 have hgo:∀ (j:Nat) x,(L.set k .dead)[j]?=some x→∀ b off,x.owns (ρ j) b off→∃ y,L[j]?=some y∧y.owns (ρ j) b off:=by
  intro j x h1 b off h2
  rcases set_get h1 with ⟨h3,h4⟩ | ⟨h3,h4⟩
  ·subst h3;subst h4;exact h2.elim
  ·exact ⟨_,h4,h2⟩
 have hown:∀ b off,own ρ (L.set k .dead) b off→own ρ L b off:=by
  rintro b off ⟨j,o,h1,h2⟩
  obtain ⟨y,h3,h4⟩:=hgo j o h1 b off h2
  exact ⟨j,y,h3,h4⟩
 have hfr:Fresh w (own ρ L) (own ρ (L.set k .dead)):=fun b off h=>.inl (hown b off h)
 have hff:=hfr.foot (ρ':=ρ) rfl
 refine ⟨_,hf.change F0 (fun _ _ h=>h.elim) (Ext.refl _ _) hc hfr (fun j j' x x' b off h1 h2 h3 h4=>?_) (fun j o hj=>?_),fun d d' v hd hr=>?_,hown,fun ρ0 L0 hl h0=>h0.trans hc⟩
 ·obtain ⟨y,g1,g2⟩:=hgo j x h1 b off h3
  obtain ⟨y',g3,g4⟩:=hgo j' x' h2 b off h4
  exact hf.disj _ _ _ _ _ _ g1 g3 g2 g4
 ·rcases set_get hj with ⟨h2,h3⟩ | ⟨h2,h3⟩
  ·subst h2;subst h3;exact .inr trivial
  ·exact .inl ⟨(List.getElem?_eq_some_iff.1 h3).1,h3,rfl,fun _ _ _ h=>h⟩
 ·subst hd
  exact hr.keep (Ext.refl _ _) hff hc
theorem shift_els {n0 k e:Nat} {L:List Ob} {ds ds':List D} (hk:L[k]?=some (.arr e ds)) (hl:ds.length=ds'.length) (h:∀ (i:Nat) d d',ds[i]?=some d→ds'[i]?=some d'→LeL d.cells d'.cells):Shift n0 (fun d d'=>d'=d) L (L.set k (.arr e ds')):=fun w ρ hf=>by
 have hkl:k < L.length:=(List.getElem?_eq_some_iff.1 hk).1
 obtain ⟨o1,o2,o3,o4⟩:=hf.obj k _ hk
 have hc:Compat ρ L ρ (L.set k (.arr e ds')):=by
  refine ⟨rfl,by simp,fun j d hj h=>?_,fun j d hj h=>?_,fun j n hj h=>?_,fun j e' d hj h=>?_⟩
  all_goals
   rcases set_get h with ⟨h1,h2⟩ | ⟨_,h2⟩
   ·first
     | (cases h2;subst h1;exact ⟨_,hk,Nat.le_of_eq hl,fun _=>rfl⟩)
     | cases h2
   ·first
     | exact ⟨_,h2,rfl⟩
     | exact ⟨_,h2,Nat.le_refl _,fun _=>rfl⟩
 have hgo:∀ (j:Nat) x,(L.set k (.arr e ds'))[j]?=some x→∀ b off,x.owns (ρ j) b off→∃ y,L[j]?=some y∧y.owns (ρ j) b off:=by
  intro j x h1 b off h2
  rcases set_get h1 with ⟨h3,h4⟩ | ⟨h3,h4⟩
  ·subst h3;subst h4;exact ⟨_,hk,h2⟩
  ·exact ⟨_,h4,h2⟩
 have hown:∀ b off,own ρ (L.set k (.arr e ds')) b off→own ρ L b off:=by
  rintro b off ⟨j,o,h1,h2⟩
  obtain ⟨y,h3,h4⟩:=hgo j o h1 b off h2
  exact ⟨j,y,h3,h4⟩
 have hfr:Fresh w (own ρ L) (own ρ (L.set k (.arr e ds'))):=fun b off h=>.inl (hown b off h)
 have hff:=hfr.foot (ρ':=ρ) rfl
 refine ⟨_,hf.change F0 (fun _ _ h=>h.elim) (Ext.refl _ _) hc hfr (fun j j' x x' b off h1 h2 h3 h4=>?_) (fun j o hj=>?_),fun d d' v hd hr=>?_,hown,fun ρ0 L0 hl h0=>h0.trans hc⟩
 ·obtain ⟨y,g1,g2⟩:=hgo j x h1 b off h3
  obtain ⟨y',g3,g4⟩:=hgo j' x' h2 b off h4
  exact hf.disj _ _ _ _ _ _ g1 g3 g2 g4
 ·rcases set_get hj with ⟨h2,h3⟩ | ⟨h2,h3⟩
  ·subst h2;subst h3
   have hg:∀ (i:Nat) d',ds'[i]?=some d'→∃ d,ds[i]?=some d:=fun i d' hi=>⟨_,List.getElem?_eq_getElem (by rw [hl];exact (List.getElem?_eq_some_iff.1 hi).1)⟩
   refine .inr ⟨by rw [← hl];exact o1,fun i d' hi=>?_,fun i d' q c hi hq=>?_,o4⟩
   ·obtain ⟨d,hd⟩:=hg i d' hi
    rw [← (h i d d' hd hi).1]
    exact o2 i d hd
   ·obtain ⟨d,hd⟩:=hg i d' hi
    have hle:=h i d d' hd hi
    have hql:q < d.cells.length:=by rw [hle.1];exact (List.getElem?_eq_some_iff.1 hq).1
    obtain ⟨v,hv,hr⟩:=o3 i d q _ hd (List.getElem?_eq_getElem hql)
    exact ⟨v,hv,hle.2 q _ c (List.getElem?_eq_getElem hql) hq _ _ _ _ _ (hr.keep (Ext.refl _ _) hff hc)⟩
  ·exact .inl ⟨(List.getElem?_eq_some_iff.1 h3).1,h3,rfl,fun _ _ _ h=>h⟩
 ·subst hd
  exact hr.keep (Ext.refl _ _) hff hc
theorem end_dead {n0 k:Nat} {r d:D} {L L':List Ob} (hk:k < L.length) (he:EndS n0 r d (L.set k .dead) L') (hlen:n0≤L'.length):EndS n0 r d L L':=end_shift (shift_dead hk) rfl he hlen
theorem end_els {n0 k e:Nat} {r d:D} {L L':List Ob} {ds:List D} (ds':List D) (hk:L[k]?=some (.arr e ds)) (hl:ds.length=ds'.length) (h:∀ (i:Nat) d d',ds[i]?=some d→ds'[i]?=some d'→LeL d.cells d'.cells)
  (he:EndS n0 r d (L.set k (.arr e ds')) L') (hlen:n0≤L'.length):EndS n0 r d L L':=end_shift (shift_els hk hl h) rfl he hlen
theorem call_mk {P:Program} {f:Nat} {as:List D} {L:List Ob} {KP:D→Prop} {KW:D→List Ob→Prop} (d:D) (L':List Ob) (h:∀ (w:World) (ρ:Pl) (vs:List Value),Fits w ρ L→RepL w (foot ρ L) ρ L as vs →
  Calls P f vs.toArray w fun e w'=>∃ v ρ',e= .returned v∧Post w ρ L d L' v w' ρ') (hc:Callable P f) (hK:KW d L'):CallS P f as L KP KW:=.inr ⟨d,L',h,hc,hK⟩
def Gap (m:Nat) (L L':List Ob):Prop:=∀ k,m≤k→k < L.length→∃ n n',L[k]?=some (.spare n)∧L'[k]?=some (.spare n')∧n < n'
theorem Compat.take {ρ ρ':Pl} {L L':List Ob} (h:Compat ρ L ρ' L') (m:Nat):Compat ρ (L.take m) ρ' L':=by
 have hl:(L.take m).length≤L.length:=by simp;omega
 have get:∀ {k:Nat} {o:Ob},k < (L.take m).length→L[k]?=some o→(L.take m)[k]?=some o:=fun {k o} hk h=>by
  rw [List.getElem?_take,if_pos (by simp at hk;omega)];exact h
 refine ⟨h.hid,Nat.le_trans hl h.len,fun k ds' hk h1=>?_,fun k ds' hk h1=>?_,fun k ds' hk h1=>?_,fun k e ds' hk h1=>?_⟩
 ·obtain ⟨ds,h2,h3⟩:=h.cells k ds' (by omega) h1;exact ⟨ds,get hk h2,h3⟩
 ·obtain ⟨ds,h2,h3⟩:=h.map k ds' (by omega) h1;exact ⟨ds,get hk h2,h3⟩
 ·obtain ⟨ds,h2,h3⟩:=h.spare k ds' (by omega) h1;exact ⟨ds,get hk h2,h3⟩
 ·obtain ⟨ds,h2,h3⟩:=h.arr k e ds' (by omega) h1;exact ⟨ds,get hk h2,h3⟩
theorem Compat.untake {ρ ρ':Pl} {L L':List Ob} {m:Nat} (h:Compat ρ (L.take m) ρ' L') (hl:L.length≤L'.length) (hg:Gap m L L'):Compat ρ L ρ' L':=by
 have get:∀ {k:Nat} {o:Ob},(L.take m)[k]?=some o→L[k]?=some o:=fun {k o} h=>by
  rw [List.getElem?_take] at h
  split at h
  ·exact h
  ·cases h
 have gap:∀ {k:Nat} {o:Ob},¬ k < (L.take m).length→k < L.length→L'[k]?=some o→∃ n n',L[k]?=some (.spare n)∧o= .spare n'∧n < n':=fun {k o} h1 h2 h3=>by
  obtain ⟨n,n',h4,h5,h6⟩:=hg k (by simp at h1;omega) h2
  rw [h3] at h5
  cases h5
  exact ⟨n,n',h4,rfl,h6⟩
 refine ⟨h.hid,hl,fun k ds' hk h1=>?_,fun k ds' hk h1=>?_,fun k n' hk h1=>?_,fun k e ds' hk h1=>?_⟩
 all_goals by_cases hm:k < (L.take m).length
 ·obtain ⟨ds,h2,h3⟩:=h.cells k ds' hm h1;exact ⟨ds,get h2,h3⟩
 ·obtain ⟨n,n',_,h5,_⟩:=gap hm hk h1;cases h5
 ·obtain ⟨ds,h2,h3⟩:=h.map k ds' hm h1;exact ⟨ds,get h2,h3⟩
 ·obtain ⟨n,n',_,h5,_⟩:=gap hm hk h1;cases h5
 ·obtain ⟨ds,h2,h3⟩:=h.spare k n' hm h1;exact ⟨ds,get h2,h3⟩
 ·obtain ⟨n,n',h4,h5,h6⟩:=gap hm hk h1
  cases h5
  exact ⟨n,h4,by omega,fun e=>by omega⟩
 ·obtain ⟨ds,h2,h3⟩:=h.arr k e ds' hm h1;exact ⟨ds,get h2,h3⟩
 ·obtain ⟨n,n',_,h5,_⟩:=gap hm hk h1;cases h5
theorem meets_introG {P : Program} {T : Tab} (hT : TabOk P T) {f : FuncId} {fn : Func} {c : Code} {spec : Spec} (m : Nat) (hf : P.funcs[f]? = some fn) (hb : fn.body = some c) (hn : (fn.name == "runtime.NumGoroutine") = false)
  (h:∀ as L d L',spec as L d L'→m≤L.length∧Gap m L L'∧L.length≤L'.length∧as.length≤fn.ntmps∧∀ E:Entry,E.L=L→AWP P fn.ntmps E c (FinQ T fn.results.toList m d L') (argS 0 as) L):Meets P f spec:=by
 refine ⟨⟨fn,hf,hn,by rw [hb];rfl⟩,fun as L d L' hs w ρ vs hfit hrep=>?_⟩
 obtain ⟨hm,hgap,hlen,has,hc⟩:=h as L d L' hs
 refine calls_of_wp hf hb ?_
 have hrel:ARel fn.ntmps ⟨w,ρ,L⟩ (argS 0 as) L { tmps:=vs.toArray++Array.replicate (fn.ntmps - vs.toArray.size) undef,defers:=[] } w:=by
  refine ⟨ρ,by simp [hrep.1];omega,rfl,hfit,fun t=>?_,.refl _ _,.refl _ _,.refl _ _⟩
  rw [argS_look]
  simp only [Nat.zero_le,if_true,Nat.sub_zero]
  rcases Nat.lt_or_ge t as.length with hlt | hge
  ·have hlt':t < vs.length:=by rw [hrep.1];exact hlt
   rw [List.getElem?_eq_getElem hlt,Option.getD_some,Array.getD_eq_getD_getElem?,Array.getElem?_append_left (by simpa using hlt')]
   simp only [List.getElem?_toArray,List.getElem?_eq_getElem hlt',Option.getD_some]
   exact hrep.2 t _ _ (List.getElem?_eq_getElem hlt) (List.getElem?_eq_getElem hlt')
  ·rw [List.getElem?_eq_none hge]
   exact .pure _ _ (.any _)
 refine wp_mono (hc ⟨w,ρ,L⟩ rfl _ _ hrel) fun e a w' hq=>?_
 have fin:∀ σ' L'',(retK T σ' L'' fn.results.toList fun ds=>VS (EndS m (oneOf ds) d L'' L'))→ARel fn.ntmps ⟨w,ρ,L⟩ σ' L'' a w' →
   a.defers=[]∧∃ v,(results fn a.tmps).run P w'= .ok v w'∧(∃ u ρ',Ending.returned v= .returned u∧Post w ρ L d L' u w' ρ'):=by
  rintro σ' L'' hret ⟨ρ',h1,h2,h3,h4,h5,h6,h7⟩
  obtain ⟨ds,hend,hds⟩:=retK_sound hT hret
  obtain ⟨vs',h8,h9,h10⟩:=hds w' ρ' a h3 h4
  have hend:∃ φ,Shift m φ L'' L'∧φ (oneOf ds) d:=by
   rcases hend.out with h | h
   ·obtain ⟨r',hr1,hr2⟩:=renK_eq h
    obtain ⟨L3,⟨hr3,hr4⟩,_,hS⟩:=shift_below hr2 (Nat.le_trans hm hlen)
    have hr3:=hr3.out
    have hr4:=hr4.out
    subst hr3
    subst hr4
    exact ⟨_,hS,hr1⟩
   ·exact h
  obtain ⟨φ,hS,hφ⟩:=hend
  obtain ⟨ρ2,g1,g2,g3,g4⟩:=hS w' ρ' h3
  let v:Value:=if h:vs'.toArray.size=1 then vs'.toArray[0] else .tuple vs'.toArray
  have hrun:(results fn a.tmps).run P w'= .ok v w':=by
   rw [results_eq,Sem.run_bind,Array.mapM_eq_mapM_toList]
   simp only [Sem.run_map,h8,Result.andThen,Sem.run_pure]
   rfl
  have hrv:Rep w' (foot ρ' L'') ρ' L'' (oneOf ds) v:=one_rep ⟨h9,h10⟩
  have hcomp:Compat ρ L ρ2 L':=(g4 ρ (L.take m) (by simp;omega) (h7.take m)).untake hlen hgap
  exact ⟨h2,v,hrun,v,ρ2,rfl,g1,g2 _ _ _ hφ hrv,h5,fun b off ho=>h6 b off (g3 b off ho),hcomp⟩
 cases e with
 | normal=>obtain ⟨σ',L'',hq,hr⟩:=hq;exact fin σ' L'' hq hr
 | ret=>obtain ⟨σ',L'',hq,hr⟩:=hq;exact fin σ' L'' hq hr
 | exit id=>obtain ⟨σ',L'',hq,hr⟩:=hq;exact hq.elim
 | goto l=>exact hq.elim
 | panic ch=>exact hq.elim
 | outgrown=>exact hq.elim
theorem meets_g {P : Program} {f : Nat} {α : Type} {I : α → Prop} {A : α → List D} {O : α → List Ob} {R : α → D} {O' : α → List Ob} {T : Tab} (m : Nat) (hT : TabOk P T) {fn : Func} {c : Code} (hf : P.funcs[f]? = some fn) (hb : fn.body = some c) (hn : (fn.name == "runtime.NumGoroutine") = false)
  (h:∀ p,I p→m≤(O p).length∧Gap m (O p) (O' p)∧(O p).length≤(O' p).length∧(A p).length≤fn.ntmps∧∀ E:Entry,E.L=O p→AWP P fn.ntmps E c (FinQ T fn.results.toList m (R p) (O' p)) (argS 0 (A p)) (O p)) :
  Meets P f (SpecF I A O R O'):=by
 have base:Meets P f (fun as L d L'=>∃ p,I p∧as=A p∧L=O p∧d=R p∧L'=O' p):=by
  refine meets_introG hT m hf hb hn ?_
  rintro as L d L' ⟨p,hI,rfl,rfl,rfl,rfl⟩
  exact h p hI
 refine ⟨base.1,?_⟩
 rintro as L d L' ⟨p,hI,has,rfl,rfl,rfl⟩ w ρ vs hf hr
 refine base.2 (A p) _ _ _ ⟨p,hI,rfl,rfl,rfl,rfl⟩ w ρ vs hf ⟨hr.1.trans has.1,fun i d v h1 h2=>?_⟩
 have hlt:i < as.length:=by rw [has.1];exact (List.getElem?_eq_some_iff.1 h1).1
 exact has.2 i _ d (List.getElem?_eq_getElem hlt) h1 _ _ _ _ _ (hr.2 i _ v (List.getElem?_eq_getElem hlt) h2)
theorem call_pre1 {P:Program} {f:Nat} {spec:Spec} (hm:Meets P f spec) (M X N N':List Ob) (o:Ob) {as:List D} {L:List Ob} {d:D} {KP:D→Prop} {KW:D→List Ob→Prop} (hL:L=M++X) (hs:spec as M d (N++[o]))
  (hlen:N.length=M.length) (hlen':N'.length=M.length) (has:ClL M.length as) (hd:ClD M.length d) (hc:∀ o∈M,ClO M.length o)
  (hc':∀ m:Nat→Option Nat,(∀ k,k < M.length→m k=some k)→m M.length=some L.length→∀ (i:Nat) x y,N[i]?=some x→N'[i]?=some y→ObRen m x y) (ho:ClO M.length o)
  (hK:KW d (N'++X++[o])):CallS P f as L KP KW:=by
 subst hL
 refine .inr ⟨d,N'++X++[o],fun w ρ vs hf hr=>?_,hm.1,hK⟩
 have hkeep:∀ k,k < M.length→keepAt (List.range M.length) 0 k=some k:=fun k hk=>by
  have:=keepAt_range M.length 0 k (Nat.zero_le _) hk
  rwa [Nat.sub_zero,← List.range_eq_range'] at this
 have hnth:∀ k,k < M.length→nthO (List.range M.length++[(M++X).length]) k=some k:=fun k hk=>by
  rw [nthO_eq,List.getElem?_append_left (by simpa using hk),List.getElem?_range hk]
 have hnthN:nthO (List.range M.length++[(M++X).length]) M.length=some (M++X).length:=by rw [nthO_eq,List.getElem?_append_right (by simp)];simp
 have hget:∀ k,k < M.length→(M++X)[k]?=M[k]?:=fun k hk=>List.getElem?_append_left hk
 refine frame_call hm (ks:=List.range M.length) (js:=List.range M.length++[(M++X).length]) (as1:=as) (L1:=M) (d1:=d) (L1':=N++[o]) ?_ ?_ (fun i hi=>List.getElem?_append_left hi) (fun i j hj=>?_) (has.ren hkeep) (by simp) (fun i o' ho=>?_) hs (hd _ hnth) (by simp [hlen]) (by simp [hlen,hlen'];omega)
  (fun k hk hn=>?_) (fun i k hk=>?_) (fun i x hx=>?_) hf hr
 ·suffices h:∀ (n i:Nat),nodupB (List.range' i n)=true by rw [List.range_eq_range'];exact h _ _
  intro n
  induction n with
  | zero=>intro i;rfl
  | succ n ih=>
   intro i
   rw [List.range'_succ,nodupB]
   have:memB i (List.range' (i+1) n)=false:=by
    suffices h:∀ (n j:Nat),i < j→memB i (List.range' j n)=false from h _ _ (Nat.lt_succ_self i)
    intro n
    induction n with
    | zero=>intro j _;rfl
    | succ n ih2=>
     intro j hj
     rw [List.range'_succ,memB]
     have hb:Nat.beq j i=false:=by
      cases h:Nat.beq j i with
      | false=>rfl
      | true=>have:=Nat.eq_of_beq_eq_true h;omega
     have hb2:Nat.beq i j=false:=by
      cases h:Nat.beq i j with
      | false=>rfl
      | true=>have:=Nat.eq_of_beq_eq_true h;omega
     simp only [hb,hb2]
     exact ih2 _ (by omega)
   rw [this]
   exact ih _
 ·intro k hk;simp at hk ⊢;omega
 ·rw [List.getElem?_append_right (by simp)] at hj
  simp only [List.length_range,Nat.add_sub_cancel_left] at hj
  cases i with
  | zero=>simpa using hj.symm
  | succ i=>simp at hj
 ·have hi:i < M.length:=(List.getElem?_eq_some_iff.1 ho).1
  exact ⟨i,o',by rw [List.getElem?_range hi],by rw [hget i hi];exact ho,hc o' (List.mem_of_getElem? ho) _ hkeep⟩
 ·have:M.length≤k:=by simpa using hn
  rw [List.getElem?_append_left (by simp at hk ⊢;omega),List.getElem?_append_right (by omega),List.getElem?_append_right this,hlen']
 ·have hi:i < M.length:=by have:=(List.getElem?_eq_some_iff.1 hk).1;simpa using this
  rw [List.getElem?_range hi] at hk
  cases hk
  have hi1:i < N.length:=by omega
  have hi2:i < N'.length:=by omega
  refine ⟨N[i],N'[i],by rw [List.getElem?_append_left hi1,List.getElem?_eq_getElem hi1],by rw [List.append_assoc,List.getElem?_append_left hi2,List.getElem?_eq_getElem hi2],?_⟩
  exact hc' _ hnth hnthN i _ _ (List.getElem?_eq_getElem hi1) (List.getElem?_eq_getElem hi2)
 ·rw [List.length_range,List.getElem?_append_right (by omega)] at hx
  rw [hlen,Nat.add_sub_cancel_left] at hx
  cases i with
  | zero=>
   cases hx
   refine ⟨_,?_,ho _ hnth⟩
   rw [Nat.add_zero,List.getElem?_append_right (by simp [hlen'])]
   simp [hlen']
  | succ i=>cases hx
theorem Meets.can {P:Program} {f:Nat} {spec:Spec} (h:Meets P f spec):Callable P f:=h.1
inductive Kept (m:Nat→Option Nat) (L:List Ob):List Nat→List Ob→Prop
 | nil:Kept m L [] []
 | cons {j:Nat} {js:List Nat} {o o':Ob} {L':List Ob} (h1:L[j]?=some o) (h2:ObRen m o o') (h3:Kept m L js L'):Kept m L (j::js) (o'::L')
theorem Kept.eq {m:Nat→Option Nat} {L:List Ob} {js:List Nat} {L':List Ob} (h:Kept m L js L'):L'.length=js.length∧∀ (i:Nat) o',L'[i]?=some o'→∃ j o,js[i]?=some j∧L[j]?=some o∧ObRen m o o':=by
 induction h with
 | nil=>exact ⟨rfl,by simp⟩
 | cons h1 h2 _ ih=>
  refine ⟨by simp [ih.1],fun i x hx=>?_⟩
  cases i with
  | zero=>cases hx;exact ⟨_,_,rfl,h1,h2⟩
  | succ i=>obtain ⟨j',o2,h3,h4,h5⟩:=ih.2 i x hx;exact ⟨j',o2,h3,h4,h5⟩
theorem shift_keepO {n0:Nat} {js:List Nat} {L L':List Ob} (hnd:nodupB js=true) (hst:startB js 0 n0=true) (h:Kept (keepAt js 0) L js L') :
  Shift n0 (RenOf (keepAt js 0)) L L':=by
 obtain ⟨hlen,hL⟩:=h.eq
 have hnd:=nodupB_eq hnd
 obtain ⟨hs1,hs2⟩:=startB_eq hst
 refine fun w ρ hf=>?_
 let ρ':Pl:=⟨fun i=>ρ ((js[i]?).getD 0),ρ.hid⟩
 have hρ:∀ i j,js[i]?=some j→ρ' i=ρ j:=fun i j h=>by show ρ ((js[i]?).getD 0)=ρ j;rw [h];rfl
 have hm:∀ k k',keepAt js 0 k=some k'→js[k']?=some k:=fun k k' h=>by
  have:=(keepAt_get h).2
  simpa using this
 have kind:∀ k k' o',keepAt js 0 k=some k'→L'[k']?=some o'→∃ o,L[k]?=some o∧ObRen (keepAt js 0) o o':=fun k k' o' h1 h2=>by
  obtain ⟨j,o,h3,h4,h5⟩:=hL k' o' h2
  rw [hm k k' h1] at h3
  cases h3
  exact ⟨o,h4,h5⟩
 have hren:RenOk (keepAt js 0) ρ L ρ' L':=by
  refine ⟨fun k k' h _=>?_,fun k k' h _=>hρ _ _ (hm _ _ h),fun k k' ds h _ hL'=>?_,fun k k' ds h _ hL'=>?_,fun k k' n h _ hL'=>?_,fun k k' e ds h _ hL'=>?_⟩
  ·rw [hlen];exact (List.getElem?_eq_some_iff.1 (hm _ _ h)).1
  all_goals
   obtain ⟨o,h1,h2⟩:=kind _ _ _ h hL'
   rw [h1]
   cases o<;>simp only [ObRen] at h2
  all_goals first
   | (cases h2;done)
   | (obtain ⟨_,h3,_⟩:=h2;cases h3;done)
   | (obtain ⟨h3,_⟩:=h2;cases h3;done)
   | skip
  all_goals first
   | exact ⟨_,rfl⟩
   | (cases h2;rfl)
   | (obtain ⟨_,h3,h4,_⟩:=h2;cases h3;exact ⟨_,rfl,h4⟩)
 have hown:∀ b off,own ρ' L' b off→own ρ L b off:=by
  rintro b off ⟨i,o',h1,h2⟩
  obtain ⟨j,o,h3,h4,h5⟩:=hL i o' h1
  rw [hρ _ _ h3] at h2
  exact ⟨j,o,h4,(h5.owns _ _ _).1 h2⟩
 have hfoot:∀ b off,foot ρ' L' b off→foot ρ L b off:=fun b off h=>h.imp (hown b off) id
 refine ⟨ρ',⟨hf.glob.less hfoot,hf.hid,fun b off h=>hf.sep b off (hown b off h),fun i o' hi=>?_,fun i i' o o' b off h1 h2 h3 h4=>?_⟩,fun d d' v hd hr=>hd _ _ _ _ _ _ _ _ hren hfoot hr,hown,fun ρ0 L0 e hc=>?_⟩
 ·obtain ⟨j,o,h3,h4,h5⟩:=hL i o' hi
  rw [hρ _ _ h3]
  exact (hf.obj j o h4).ren hren hfoot h5
 ·obtain ⟨j,x,h5,h6,h7⟩:=hL i o h1
  obtain ⟨j',x',k5,k6,k7⟩:=hL i' o' h2
  rw [hρ _ _ h5] at h3
  rw [hρ _ _ k5] at h4
  have:=hf.disj j j' x x' b off h6 k6 ((h7.owns _ _ _).1 h3) ((k7.owns _ _ _).1 h4)
  subst this
  exact hnd _ _ _ h5 k5
 ·have get:∀ (k:Nat) o',k < L0.length→L'[k]?=some o'→∃ o,L[k]?=some o∧ObRen (keepAt js 0) o o'∧ρ' k=ρ k:=fun k o' hk h1=>by
   obtain ⟨j,o,h3,h4,h5⟩:=hL k o' h1
   have:=hs2 k (by omega)
   rw [Nat.zero_add] at this
   rw [this] at h3
   cases h3
   exact ⟨o,h4,h5,hρ _ _ this⟩
  refine ⟨hc.hid,by omega,fun k ds' hk hL'=>?_,fun k ds' hk hL'=>?_,fun k n hk hL'=>?_,fun k e ds' hk hL'=>?_⟩
  all_goals
   obtain ⟨o,h1,h2,h3⟩:=get k _ hk hL'
   rw [h3]
   cases o<;>simp only [ObRen] at h2
  all_goals first
   | (cases h2;done)
   | (obtain ⟨_,h3,_⟩:=h2;cases h3;done)
   | (obtain ⟨h3,_⟩:=h2;cases h3;done)
   | skip
  ·exact hc.cells k _ hk h1
  ·exact hc.map k _ hk h1
  ·cases h2;exact hc.spare k n hk h1
  ·obtain ⟨_,h5,h6,_⟩:=h2
   cases h5
   obtain ⟨ds0,h7,h8,h9⟩:=hc.arr k e _ hk h1
   exact ⟨ds0,h7,by omega,fun hh=>h9 (by omega)⟩
theorem end_keepO {n0:Nat} (js:List Nat) {r d:D} {L L':List Ob} (hnd:nodupB js=true) (hst:startB js 0 n0=true) (h:Kept (keepAt js 0) L js L') (hr:RenOf (keepAt js 0) r d):EndS n0 r d L L':=
 .inr ⟨_,shift_keepO hnd hst h,hr⟩
def keptS (m:Nat→Option Nat) (σ:List (Nat×D)):List (Nat×D)→Prop
 | []=>True
 | (t,d)::r=>RenOf m (look σ t) d∧keptS m σ r
theorem keptS_look {m:Nat→Option Nat} {σ:List (Nat×D)}:∀ {σ':List (Nat×D)},keptS m σ σ'→∀ t,look σ' t= .any∨RenOf m (look σ t) (look σ' t)
 | [],_,t=>.inl rfl
 | (s,d)::r,h,t=>by
  simp only [look]
  split
  ·rename_i hb
   have:=Nat.eq_of_beq_eq_true hb
   subst this
   exact .inr h.1
  ·exact keptS_look h.2 t
theorem weak_keepO {n0:Nat} (js:List Nat) {σ σ':List (Nat×D)} {L L':List Ob} (hnd:nodupB js=true) (hst:startB js 0 n0=true) (h:Kept (keepAt js 0) L js L') (hs:keptS (keepAt js 0) σ σ'):Weak n0 σ L σ' L':=
 ⟨_,shift_keepO hnd hst h,keptS_look hs⟩
theorem call_all {P:Program} {f:Nat} {as:List D} {L:List Ob} {KP:D→Prop} {KW:D→List Ob→Prop} {α:Type} {I:α→Prop} {A:α→List D} {O:α→List Ob} {R:α→D} {O':α→List Ob}
  (h:Meets P f (SpecF I A O R O')) (p:α) (hI:I p) (hL:L=O p) (has:LeL as (A p)) (hK:KW (R p) (O' p)):CallS P f as L KP KW:=by
 subst hL
 exact .inr ⟨R p,O' p,fun w ρ vs hf hr=>h.2 as _ _ _ ⟨p,hI,has,rfl,rfl,rfl⟩ w ρ vs hf hr,h.1,hK⟩
theorem meets_or {P:Program} {f:Nat} {s s1 s2:Spec} (h1:Meets P f s1) (h2:Meets P f s2) (h:∀ as L d L',s as L d L'→s1 as L d L'∨s2 as L d L'):Meets P f s:=
 ⟨h1.1,fun as L d L' hs=>(h as L d L' hs).elim (h1.2 as L d L') (h2.2 as L d L')⟩
theorem awp_cut {P:Program} {n:Nat} {E:Entry} {x y:Code} {Q:Ex→List (Nat×D)→List Ob→Prop} {σ:List (Nat×D)} {L:List Ob} {α:Type} (I:α→Prop) (S:α→List (Nat×D)) (O:α→List Ob)
  (hx:AWP P n E x (fun e σ' L'=>match e with | .normal=>VS (∃ p,I p∧Weak E.L.length σ' L' (S p) (O p)) | e=>Q e σ' L') σ L) (hy:∀ p,I p→AWP P n E y Q (S p) (O p)):AWP P n E (.seq x y) Q σ L:=fun a w hr=>by
 refine wp_seq (wp_mono (hx a w hr) fun e a w hq=>?_)
 cases e with
 | normal=>
  obtain ⟨σ',L',h1,h2⟩:=hq
  obtain ⟨p,hI,hw⟩:=h1.out
  exact hy p hI a w (hw.rel h2)
 | exit id=>exact hq
 | ret=>exact hq
 | goto l=>exact hq.elim
 | panic ch=>exact hq.elim
 | outgrown=>exact hq.elim
def leS (σ:List (Nat×D)):List (Nat×D)→Prop
 | []=>True
 | (t,d)::r=>LeD (look σ t) d∧leS σ r
theorem leS_look {σ:List (Nat×D)}:∀ {σ':List (Nat×D)},leS σ σ'→∀ t,look σ' t= .any∨LeD (look σ t) (look σ' t)
 | [],_,t=>.inl rfl
 | (s,d)::r,h,t=>by
  simp only [look]
  split
  ·rename_i hb
   have:=Nat.eq_of_beq_eq_true hb
   subst this
   exact .inr h.1
  ·exact leS_look h.2 t
theorem weak_leS {n0:Nat} {σ σ':List (Nat×D)} {L L':List Ob} (hL:L=L') (h:leS σ σ'):Weak n0 σ L σ' L':=by
 subst hL
 exact ⟨fun d d'=>LeD d d',fun w ρ hf=>⟨ρ,hf,fun d d' v hd hr=>hd _ _ _ _ _ hr,fun _ _ h=>h,fun _ _ _ h=>h⟩,leS_look h⟩
theorem call_sel {P:Program} {f:Nat} {spec:Spec} (hm:Meets P f spec) (ks:List Nat) {as as1:List D} {L L1 L1' L':List Ob} {d1 d:D} {KP:D→Prop} {KW:D→List Ob→Prop} (hnd:nodupB ks=true)
  (has:RenLOf (keepAt ks 0) as as1) (hL1:Kept (keepAt ks 0) L ks L1) (hs:spec as1 L1 d1 L1') (hd:RenOf (nthO ks) d1 d) (hlen:L1'.length=ks.length) (hlen':L'.length=L.length)
  (hsame:∀ k,k < L.length→k∉ks→L'[k]?=L[k]?) (hback:∀ (i k:Nat),ks[i]?=some k→∃ o o',L1'[i]?=some o∧L'[k]?=some o'∧ObRen (nthO ks) o o') (hK:KW d L'):CallS P f as L KP KW:=by
 obtain ⟨h1,h2⟩:=hL1.eq
 refine .inr ⟨d,L',fun w ρ vs hf hr=>?_,hm.1,hK⟩
 refine frame_call hm (ks:=ks) (js:=ks) (as1:=as1) (L1:=L1) (d1:=d1) (L1':=L1') hnd (fun k hk=>?_) (fun _ _=>rfl) (fun i j hj=>?_) has h1 h2 hs hd (by omega) (by omega) hsame hback (fun i o ho=>?_) hf hr
 ·obtain ⟨i,hi,rfl⟩:=List.getElem_of_mem hk
  obtain ⟨j,o,g1,g2,_⟩:=h2 i _ (List.getElem?_eq_getElem (by omega))
  rw [List.getElem?_eq_getElem hi] at g1
  cases g1
  exact (List.getElem?_eq_some_iff.1 g2).1
 ·rw [List.getElem?_eq_none (by omega)] at hj;cases hj
 ·rw [List.getElem?_eq_none (by omega)] at ho;cases ho
theorem awp_seqK {P:Program} {n:Nat} {E:Entry} {x y:Code} {Q:Ex→List (Nat×D)→List Ob→Prop} {σ:List (Nat×D)} {L:List Ob}
  (hx:AWP P n E x (fun e σ' L'=>match e with | .normal=>VS (AWP P n E y Q σ' L') | e=>Q e σ' L') σ L):AWP P n E (.seq x y) Q σ L:=fun a w hr=>by
 refine wp_seq (wp_mono (hx a w hr) fun e a w hq=>?_)
 cases e with
 | normal=>
  obtain ⟨σ',L',h1,h2⟩:=hq
  exact h1.out a w h2
 | exit id=>exact hq
 | ret=>exact hq
 | goto l=>exact hq.elim
 | panic ch=>exact hq.elim
 | outgrown=>exact hq.elim
theorem weak_els {n0 k e:Nat} {σ:List (Nat×D)} {L:List Ob} {ds:List D} (ds':List D) (hk:L[k]?=some (.arr e ds)) (hl:ds.length=ds'.length) (h:∀ (i:Nat) d d',ds[i]?=some d→ds'[i]?=some d'→LeL d.cells d'.cells):Weak n0 σ L σ (L.set k (.arr e ds')):=
 weak_of (shift_els hk hl h) fun _=>.inr rfl
theorem set_leL {ds:List D} {k:Nat} {c:D} {x:D} (hx:LeL x.cells c.cells):∀ (i:Nat) d d',(ds.set k x)[i]?=some d→(ds.set k c)[i]?=some d'→LeL d.cells d'.cells:=by
 intro i d d' h1 h2
 by_cases hi:i=k
 ·subst hi
  by_cases hlt:i < ds.length
  ·rw [List.getElem?_set_self hlt] at h1 h2
   cases h1;cases h2
   exact hx
  ·rw [List.getElem?_eq_none (by simp;omega)] at h1;cases h1
 ·rw [List.getElem?_set_ne (by omega)] at h1 h2
  rw [h1] at h2
  cases h2
  exact LeL.refl _
theorem loop_weak {α:Type} {n0:Nat} {I:α→Prop} {S:α→List (Nat×D)} {O:α→List Ob} {μ:α→Nat} {p:α} {σ:List (Nat×D)} {L:List Ob} (p':α) (h1:I p') (h2:μ p' < μ p) (h:Weak n0 σ L (S p') (O p')):LoopEnd n0 I S O μ p σ L:=⟨p',h1,h2,.inr h⟩
theorem RenLOf.nil {m:Nat→Option Nat}:RenLOf m [] []:=⟨rfl,by simp⟩
theorem RenLOf.cons {m:Nat→Option Nat} {d d':D} {ds ds':List D} (h:RenOf m d d') (k:RenLOf m ds ds'):RenLOf m (d::ds) (d'::ds'):=⟨by simp [k.1],fun i a b ha hb=>by
 cases i with
 | zero=>cases ha;cases hb;exact h
 | succ i=>exact k.2 i a b ha hb⟩
theorem RenOf.tok {m:Nat→Option Nat} {e k k':Nat} {ds:List D} (hm:m k=some k'):RenOf m (.sl e ds (some k)) (.sl e ds (some k')):=by
 have:renK m (.sl e ds (some k)) (fun d'=>d'= .sl e ds (some k')):=by
  show renSl m e ds (some k) (renLK m ds) (fun d'=>d'= .sl e ds (some k'))
  unfold renSl
  simp [hm]
 obtain ⟨d',h3,rfl⟩:=renK_eq this
 exact h3
theorem RenOf.loc {m:Nat→Option Nat} {k k' off:Nat} (hm:m k=some k'):RenOf m (.loc k off) (.loc k' off):=by
 have:renK m (.loc k off) (fun d'=>d'= .loc k' off):=by
  show renLoc m k off (fun d'=>d'= .loc k' off)
  unfold renLoc
  simp [hm]
 obtain ⟨d',h3,rfl⟩:=renK_eq this
 exact h3
theorem RenOf.osl {m:Nat→Option Nat} {e k k' v off len:Nat} (hm:m k=some k'):RenOf m (.osl e k v off len) (.osl e k' v off len):=by
 have:renK m (.osl e k v off len) (fun d'=>d'= .osl e k' v off len):=by
  show renOsl m e k v off len (fun d'=>d'= .osl e k' v off len)
  unfold renOsl
  simp [hm]
 obtain ⟨d',h3,rfl⟩:=renK_eq this
 exact h3
theorem RenOf.flat {m:Nat→Option Nat} {d:D} (h:ClD 0 d):RenOf m d d:=h m fun k hk=>absurd hk (Nat.not_lt_zero k)
theorem shift_snocdead {n0:Nat} {L:List Ob}:Shift n0 (fun d d'=>d'=d) L (L++[.dead]):=fun w ρ hf=>by
 obtain ⟨h1,h2⟩:=hf.snoc (Ext.refl F0 w) (o:=.dead) (l:=⟨0,0,0⟩) (fun b off h=>h.elim) trivial
 have hff:=h2.foot (ρ':=upd ρ L.length ⟨0,0,0⟩) rfl
 refine ⟨_,h1,fun d d' v hd hr=>?_,fun b off ho=>?_,fun ρ0 L0 hl hc=>hc.trans (.snoc _ _ _ _)⟩
 ·subst hd
  exact hr.keep (Ext.refl _ _) hff (.snoc _ _ _ _)
 ·rcases own_snoc ho with h | h
  ·exact h
  ·exact h.elim
theorem weak_snocdead {n0:Nat} {σ:List (Nat×D)} {L:List Ob}:Weak n0 σ L σ (L++[.dead]):=weak_of shift_snocdead fun _=>.inr rfl
end Go.Plat
namespace Go.Plat
open Go
end Go.Plat
namespace Go.Plat
open Go
set_option linter.unusedVariables false
set_option linter.unusedSimpArgs false
def Na (e tok:Nat) (d d':D):Prop:=d'=d∨(d= .nilsl∧d'= .osl e tok 0 0 0)
theorem shift_cellarr {n0 e k:Nat} {L:List Ob} {ds ds':List D} (hk:L[k]?=some (.cells ds)) (hl:ds.length=ds'.length)
  (h:∀ (i:Nat) d d',ds[i]?=some d→ds'[i]?=some d'→Na e L.length d d'):Shift n0 (fun d d'=>d'=d) L (L.set k (.cells ds')++[.arr e []]):=fun w ρ hf=>by
 have hkl:k < L.length:=(List.getElem?_eq_some_iff.1 hk).1
 have hlen:(L.set k (.cells ds')).length=L.length:=by simp
 obtain ⟨o1,o2⟩:=hf.obj k _ hk
 have hget:∀ {j:Nat} {x:Ob},(L.set k (.cells ds')++[.arr e []])[j]?=some x→(j=k∧x= .cells ds')∨(j≠k∧L[j]?=some x∧j < L.length)∨(j=L.length∧x= .arr e []):=by
  intro j x h
  rcases snoc_get h with ⟨h1,h2⟩ | ⟨h1,h2⟩
  ·rcases set_get h2 with ⟨h3,h4⟩ | ⟨h3,h4⟩
   ·exact .inl ⟨h3,h4⟩
   ·exact .inr (.inl ⟨h3,h4,by rwa [hlen] at h1⟩)
  ·exact .inr (.inr ⟨by rw [h1,hlen],h2.symm⟩)
 have hc:Compat ρ L (upd ρ L.length ⟨0,0,0⟩) (L.set k (.cells ds')++[.arr e []]):=by
  refine ⟨rfl,by simp,fun j d hj h=>?_,fun j d hj h=>?_,fun j n hj h=>?_,fun j e' d hj h=>?_⟩
  all_goals
   rcases hget h with ⟨h1,h2⟩ | ⟨_,h2,_⟩ | ⟨h1,_⟩
   ·first
     | (cases h2;subst h1;exact ⟨_,hk,upd_ne (by omega)⟩)
     | cases h2
   ·first
     | exact ⟨_,h2,upd_ne (by omega)⟩
     | exact ⟨_,h2,Nat.le_refl _,fun _=>upd_ne (by omega)⟩
   ·omega
 have hnone:∀ b off,¬ Ob.owns (.arr e []) ⟨0,0,0⟩ b off:=fun b off ⟨_,_,h4⟩=>by
  have h4:off < 0+0:=h4
  omega
 have hown:∀ b off,own (upd ρ L.length ⟨0,0,0⟩) (L.set k (.cells ds')++[.arr e []]) b off→own ρ L b off:=by
  rintro b off ⟨j,o,h1,h2⟩
  rcases hget h1 with ⟨h3,h4⟩ | ⟨h3,h4,h5⟩ | ⟨h3,h4⟩
  ·subst h3;subst h4
   rw [upd_ne (by omega)] at h2
   exact ⟨j,_,hk,h2⟩
  ·rw [upd_ne (by omega)] at h2
   exact ⟨j,o,h4,h2⟩
  ·subst h3;subst h4
   rw [upd_same] at h2
   exact (hnone _ _ h2).elim
 have hfr:Fresh w (own ρ L) (own (upd ρ L.length ⟨0,0,0⟩) (L.set k (.cells ds')++[.arr e []])):=fun b off h=>.inl (hown b off h)
 have hff:=hfr.foot (ρ':=upd ρ L.length ⟨0,0,0⟩) rfl
 have hgo:∀ (j:Nat) x,(L.set k (.cells ds')++[.arr e []])[j]?=some x→∀ b off,x.owns (upd ρ L.length ⟨0,0,0⟩ j) b off→∃ y,L[j]?=some y∧y.owns (ρ j) b off:=by
  intro j x h1 b off h2
  rcases hget h1 with ⟨h3,h4⟩ | ⟨h3,h4,h5⟩ | ⟨h3,h4⟩
  ·subst h3;subst h4
   rw [upd_ne (by omega)] at h2
   exact ⟨_,hk,h2⟩
  ·rw [upd_ne (by omega)] at h2
   exact ⟨_,h4,h2⟩
  ·subst h3;subst h4
   rw [upd_same] at h2
   exact (hnone _ _ h2).elim
 refine ⟨_,hf.change F0 (fun _ _ h=>h.elim) (Ext.refl _ _) hc hfr (fun j j' x x' b off h1 h2 h3 h4=>?_) (fun j o hj=>?_),fun d d' v hd hr=>?_,hown,fun ρ0 L0 hl h0=>h0.trans hc⟩
 ·obtain ⟨y,g1,g2⟩:=hgo j x h1 b off h3
  obtain ⟨y',g3,g4⟩:=hgo j' x' h2 b off h4
  exact hf.disj _ _ _ _ _ _ g1 g3 g2 g4
 ·rcases hget hj with ⟨h2,h3⟩ | ⟨h2,h3,h4⟩ | ⟨h2,h3⟩
  ·subst h2;subst h3
   rw [upd_ne (by omega)]
   refine .inr ⟨by rw [o1,hl],fun i d' hi=>?_⟩
   have hil:i < ds.length:=by rw [hl];exact (List.getElem?_eq_some_iff.1 hi).1
   obtain ⟨⟨v,hv,hr⟩,hs⟩:=o2 i _ (List.getElem?_eq_getElem hil)
   refine ⟨⟨v,hv,?_⟩,hs⟩
   rcases h i _ d' (List.getElem?_eq_getElem hil) hi with he | ⟨he,rfl⟩
   ·rw [he];exact hr.keep (Ext.refl _ _) hff hc
   ·rw [he] at hr
    obtain ⟨a,rfl⟩:=hr.nilsl_inv
    refine .osl _ _ _ _ _ _ _ (by simp) ⟨Nat.le_refl _,fun _=>rfl⟩ fun e' ds2 hn=>?_
    rw [List.getElem?_append_right (by simp),hlen,Nat.sub_self] at hn
    simp at hn
    obtain ⟨rfl,rfl⟩:=hn
    refine ⟨rfl,Nat.zero_le _,fun _=>⟨.inl rfl,?_,Nat.le_refl _⟩⟩
    rw [upd_same]
    simp
  ·exact .inl ⟨h4,h3,upd_ne (by omega),fun _ _ _ h=>h⟩
  ·subst h2;subst h3
   rw [upd_same]
   exact .inr ⟨by simp,by simp,by simp,fun q hq=>by simp at hq⟩
 ·subst hd
  exact hr.keep (Ext.refl _ _) hff hc
theorem Na.here {e tok:Nat}:Na e tok .nilsl (.osl e tok 0 0 0):=.inr ⟨rfl,rfl⟩
theorem Na.same {e tok:Nat} {d:D}:Na e tok d d:=.inl rfl
def NaL (e tok:Nat):List D→List D→Prop
 | [],[]=>True
 | d::ds,d'::ds'=>Na e tok d d'∧NaL e tok ds ds'
 | _,_=>False
theorem NaL_eq {e tok:Nat}:∀ {ds ds':List D},NaL e tok ds ds'→ds.length=ds'.length∧∀ (i:Nat) d d',ds[i]?=some d→ds'[i]?=some d'→Na e tok d d'
 | [],[],_=>⟨rfl,by simp⟩
 | d::ds,d'::ds',h=>by
  obtain ⟨h1,h2⟩:=NaL_eq h.2
  refine ⟨by simp [h1],fun i a b ha hb=>?_⟩
  cases i with
  | zero=>simp at ha hb;subst ha;subst hb;exact h.1
  | succ i=>exact h2 i a b (by simpa using ha) (by simpa using hb)
 | [],_::_,h=>h.elim
 | _::_,[],h=>h.elim
theorem weak_cellarr {n0:Nat} {σ:List (Nat×D)} {L:List Ob} (k e:Nat) {ds:List D} (ds':List D) (hk:L[k]?=some (.cells ds)) (h:NaL e L.length ds ds') :
  Weak n0 σ L σ (L.set k (.cells ds')++[.arr e []]):=weak_of (shift_cellarr hk (NaL_eq h).1 (NaL_eq h).2) fun _=>.inr rfl
end Go.Plat
namespace Go.Plat
open Go
open Go.ChangeShapes Go.WideShapes
set_option linter.unusedVariables false
set_option linter.unusedSimpArgs false
theorem okWide_agg {P:Program} {w:World} {r:Reach} {b:Nat} {t:TypeId} {v:Value} (h:Value.okWide P w r b t v) (hu:(∃ fs,P.underlying t=some (.struct fs))∨∃ n e,P.underlying t=some (.array n e)):∃ cs,v= .agg cs:=by
 unfold Value.okWide at h
 rcases hu with ⟨fs,hu⟩ | ⟨n,e,hu⟩<;>rw [hu] at h<;>obtain ⟨cs,h,_⟩:=h<;>exact ⟨cs,h⟩
theorem rep_agg {w:World} {cs:List D} {vs:Array Value} (h:CellsRep w F0 cs vs.toList):RepP w F0 (.agg cs) (.agg vs):=by
 have:RepP w F0 (.agg cs) (.agg vs.toList.toArray):=.agg cs vs.toList h.1.symm fun i d v hd hv=>(h.2 i d v hd hv).1
 simpa using this
theorem rep_cell {w:World} {σ:Sh} {cs:List D} {v:Value} (ha:σ.agg=false) (h:CellsRep w F0 cs [v]):RepP w F0 (elD σ cs) v:=by
 unfold elD
 rw [ha]
 match cs,h with
 | [c],h=>exact (h.2 0 c v rfl rfl).1
 | [],h=>exact absurd h.1 (by simp)
 | _::_::_,h=>exact absurd h.1 (by simp)
theorem arg_rep {H:Type} {enc:TypeId×Value→H} {P:Program} {w:World} {σ:Sh} {t:TypeId} {v:Value} {d:DataW H} {ps:List MemPlace} {r:Reach} {b:Nat} {fuel:Nat} (hc:chk P σ (.inl t)=true) (hvd:vdB fuel σ=true)
  (hok:Value.okWide P w r b t v) (h:DataW.trod enc P w 0 (fun _=>true) true fuel t v.cells.toList=some (d,ps)):fit σ (.inl d)∧RepP w F0 (rd σ d) v:=by
 obtain ⟨h1,h2,_⟩:=(trod_rep σ).1 t fuel _ d ps hc hvd h
 refine ⟨h1,?_⟩
 have one:σ.agg=false→(∀ cs,v≠ .agg cs)→RepP w F0 (rd σ d) v:=fun ha hv=>by
  have hcells:v.cells.toList=[v]:=by cases v<;>first | rfl | exact (hv _ rfl).elim
  rw [hcells] at h2
  exact rep_cell ha h2
 cases σ with
 | int k=>
  simp only [chk] at hc;split at hc<;>try cases hc
  rename_i q hu
  refine one rfl fun cs e=>?_
  subst e;simp [Value.okWide,hu,Cell.okWide,Cell.ok] at hok
 | bool=>
  simp only [chk] at hc;split at hc<;>try cases hc
  rename_i hu
  refine one rfl fun cs e=>?_
  subst e;simp [Value.okWide,hu,Cell.okWide,Cell.ok] at hok
 | str=>
  simp only [chk] at hc;split at hc<;>try cases hc
  rename_i hu
  refine one rfl fun cs e=>?_
  subst e;simp [Value.okWide,hu,Cell.okWide,Cell.ok] at hok
 | sl n σ=>
  obtain ⟨e,hu,_⟩:=chk_slice hc
  refine one rfl fun cs e=>?_
  subst e;simp [Value.okWide,hu,Cell.okWide,Cell.ok] at hok
 | fin=>simp [chk] at hc
 | fld a b=>
  obtain ⟨fs,hu,_⟩:=chk_fld hc
  obtain ⟨cs,rfl⟩:=okWide_agg hok (.inl ⟨_,hu⟩)
  exact rep_agg h2
 | arr n σ=>
  obtain ⟨e,hu,_⟩:=chk_arr hc
  obtain ⟨cs,rfl⟩:=okWide_agg hok (.inr ⟨_,_,hu⟩)
  exact rep_agg h2
 | void n=>simp [vdB] at hvd
def chkAll (P:Program):List Sh→List TypeId→Bool
 | [],[]=>true
 | σ::σs,t::ts=>chk P σ (.inl t) && chkAll P σs ts
 | _,_=>false
def fitAll {H:Type}:List Sh→List (DataW H)→Prop
 | [],[]=>True
 | σ::σs,d::ds=>fit σ (.inl d)∧fitAll σs ds
 | _,_=>False
def rdAll {H:Type}:List Sh→List (DataW H)→List D
 | σ::σs,d::ds=>rd σ d::rdAll σs ds
 | _,_=>[]
theorem vdB_le {σ:Sh} {k m:Nat} (h:vdB k σ=true) (hle:m≤k):vdB m σ=true:=by
 induction k with
 | zero => have : m = 0 := by omega
           subst this;exact h
 | succ k ih=>
  rcases Nat.eq_or_lt_of_le hle with rfl | hlt
  ·exact h
  ·exact ih (vdB_mono σ k h) (by omega)
theorem args_rep {H:Type} {enc:TypeId×Value→H} {P:Program} {w:World}:∀ {ts:List TypeId} {vs:List Value} {ds:List (DataW H)} {ps:List MemPlace},
  (∀ (j:Nat) t v,ts[j]?=some t→vs[j]?=some v→∃ r b,Value.okWide P w r b t v)→DataW.TrodAll enc P w 0 (fun _=>true) true ts vs ds ps →
  ∃ K,∀ σs:List Sh,chkAll P σs ts=true→(∀ σ∈σs,vdB K σ=true)→fitAll σs ds∧vs.length=(rdAll σs ds).length∧∀ (i:Nat) d v,(rdAll σs ds)[i]?=some d→vs[i]?=some v→RepP w F0 d v
 | [],vs,ds,ps,_,h=>by
  obtain ⟨rfl,rfl,rfl⟩:=trodAll_nil h
  refine ⟨0,fun σs hc _=>?_⟩
  cases σs with
  | nil=>exact ⟨trivial,rfl,fun i d v hd=>by simp [rdAll] at hd⟩
  | cons σ σs=>simp [chkAll] at hc
 | t::ts,vs,ds,ps,hok,h=>by
  obtain ⟨v,vs1,d,ds1,p,q,rfl,rfl,rfl,h1,h2⟩:=trodAll_cons h
  obtain ⟨r,b,hv⟩:=hok 0 t v rfl rfl
  obtain ⟨fuel,h1⟩:=h1
  obtain ⟨K,hK⟩:=args_rep (fun j t v ht hv=>hok (j+1) t v (by simpa using ht) (by simpa using hv)) h2
  refine ⟨max fuel K,fun σs hc hvd=>?_⟩
  cases σs with
  | nil=>simp [chkAll] at hc
  | cons σ σs=>
   simp only [chkAll,Bool.and_eq_true] at hc
   obtain ⟨f1,r1⟩:=arg_rep hc.1 (vdB_le (hvd σ (by simp)) (Nat.le_max_left _ _)) hv h1
   obtain ⟨f2,l2,r2⟩:=hK σs hc.2 fun x hx=>vdB_le (hvd x (by simp [hx])) (Nat.le_max_right _ _)
   refine ⟨⟨f1,f2⟩,by simp [rdAll,l2],fun i d' v' hd hv'=>?_⟩
   cases i with
   | zero=>simp [rdAll] at hd hv';subst hd;subst hv';exact r1
   | succ i=>exact r2 i d' v' (by simpa [rdAll] using hd) (by simpa using hv')
theorem chkAll_get {P:Program}:∀ {σs:List Sh} {ts:List TypeId} {i:Nat} {t:TypeId},chkAll P σs ts=true→ts[i]?=some t→∃ σ∈σs,chk P σ (.inl t)=true
 | [],[],i,t,_,ht=>by simp at ht
 | σ::σs,t::ts,i,u,hc,hu=>by
  simp only [chkAll,Bool.and_eq_true] at hc
  cases i with
  | zero=>simp at hu;subst hu;exact ⟨σ,by simp,hc.1⟩
  | succ i=>
   obtain ⟨x,h1,h2⟩:=chkAll_get hc.2 (by simpa using hu)
   exact ⟨x,by simp [h1],h2⟩
 | [],_::_,_,_,hc,_=>by simp [chkAll] at hc
 | _::_,[],_,_,hc,_=>by simp [chkAll] at hc
theorem chkAll_shaped {P:Program} {σs:Nat→List Sh} {ts:List TypeId} (hc:∀ K,chkAll P (σs K) ts=true) (hv:∀ K,∀ σ∈σs K,vdB K σ=true):∀ t∈ts,Shaped P t:=fun t ht K=>by
 obtain ⟨i,hi⟩:=List.getElem?_of_mem ht
 obtain ⟨σ,h1,h2⟩:=chkAll_get (hc K) hi
 exact ⟨σ,h2,hv K σ h1⟩
theorem law_contractK {H:Type} {enc:TypeId×Value→H} {P:Program} {f:FuncId} {fn:Func} {s:ChangeSpec} {σs:Nat→List Sh} {spec:Spec} {apart fresh handsOn:Bool} {W:World} {args:Array Value} {ds gs:List (DataW H)} {before:List MemPlace} {tb:TypeId}
  (hc:∀ K,chkAll P (σs K) fn.params.toList=true) (hvd:∀ K,∀ σ∈σs K,vdB K σ=true) (hvars:s.vars=[]) (hrt:fn.resultTypes= #[tb]) (htb:P.underlying tb=some .bool)
  (hfn:∀ K,fitAll (σs K) ds→s.fn H (ds++gs)={ results:=[.lit (.bool true)],args:=ds })
  (hval:∀ (j:Nat) t v,fn.params[j]?=some t→args[j]?=some v→∃ r b,Value.okWide P W r b t v)
  (hW:DataW.Whole enc P fn.params.toList s.vars apart W args.toList ds gs before) (hG:GOk W F0)
  (hm:Meets P f spec) (hs:∀ K,fitAll (σs K) ds→spec (rdAll (σs K) ds) [] (.bool true) []) :
  Calls P f args W fun e W'=>∃ v,e= .returned v∧s.post enc P fn apart fresh handsOn false W args v W':=by
 have hW':=hW
 obtain ⟨p,q,hA,hV,rfl,hfz,hnd⟩:=hW
 obtain ⟨K,hK⟩:=args_rep (fun j t v ht hv=>hval j t v (by simpa using ht) (by simpa using hv)) hA
 obtain ⟨h1,h2,h3⟩:=hK (σs K) (hc K) (hvd K)
 have hq:q=[]∧gs=[]:=by
  rw [hvars] at hV
  cases gs with
  | nil=>exact ⟨hV,rfl⟩
  | cons g gs=>exact hV.elim
 obtain ⟨rfl,rfl⟩:=hq
 have hcall:=hm.2 (rdAll (σs K) ds) [] (.bool true) [] (hs K h1) W ⟨fun _=>⟨0,0,0⟩,fun _ _=>False⟩ args.toList
  ⟨hG.less fun b off hF=>by
    rcases hF with ⟨k,o,h,_⟩ | hF
    ·simp at h
    ·exact hF.elim,fun _ _ h=>h.elim,fun _ _ _ h=>h,fun k o h=>by simp at h,fun k k' o o' b off h=>by simp at h⟩
  ⟨h2,fun i d v hd hv=>.pure _ _ ((h3 i d v hd hv).less (fun b off hF=>by
    rcases hF with ⟨k,o,h,_⟩ | hF
    ·simp at h
    ·exact hF.elim))⟩
 rw [show args.toList.toArray=args by simp] at hcall
 refine hcall.mono ?_
 rintro e W' ⟨v,ρ',he,hp⟩
 have hext:Ext F0 W W':=hp.ext.mono fun b off _ h=>by
  obtain ⟨k,o,h,_⟩:=h
  simp at h
 have hv:v= .bool true:=by
  have:=rep_nil hp.rep
  cases this
  rfl
 subst hv
 refine ⟨_,he,ds,[],p++[],[],p,[],hW',?_,?_,?_,kept_ext hext _,fun h=>by cases h⟩
 ·rw [hfn K h1,hrt]
  exact trodAll_mk1 (Go.RowKit.shut_bool htb true)
 ·rw [hfn K h1]
  refine all_behind hext (chkAll_shaped hc hvd) hA fun x hx=>?_
  have:=hW'.lt x (by simpa using hx)
  simpa using this
 ·rw [hvars,hfn K h1]
  rfl
theorem law_contract {H:Type} {enc:TypeId×Value→H} {P:Program} {f:FuncId} {fn:Func} {s:ChangeSpec} {σs:List Sh} {spec:Spec} {apart fresh handsOn:Bool} {W:World} {args:Array Value} {ds gs:List (DataW H)} {before:List MemPlace} {tb:TypeId}
  (hc:chkAll P σs fn.params.toList=true) (hfull:σs.all fullB=true) (hvars:s.vars=[]) (hrt:fn.resultTypes= #[tb]) (htb:P.underlying tb=some .bool)
  (hfn:fitAll σs ds→s.fn H (ds++gs)={ results:=[.lit (.bool true)],args:=ds })
  (hval:∀ (j:Nat) t v,fn.params[j]?=some t→args[j]?=some v→∃ r b,Value.okWide P W r b t v)
  (hW:DataW.Whole enc P fn.params.toList s.vars apart W args.toList ds gs before) (hG:GOk W F0)
  (hm:Meets P f spec) (hs:fitAll σs ds→spec (rdAll σs ds) [] (.bool true) []) :
  Calls P f args W fun e W'=>∃ v,e= .returned v∧s.post enc P fn apart fresh handsOn false W args v W':=
 law_contractK (σs:=fun _=>σs) (fun _=>hc) (fun K σ h=>fullB_vd σ K (List.all_eq_true.1 hfull σ h)) hvars hrt htb (fun _=>hfn) hval hW hG hm fun _=>hs
end Go.Plat
namespace Go.Plat
open Go
set_option linter.unusedVariables false
set_option linter.unusedSimpArgs false
def elems {H:Type}:DataW H→List (DataW H)
 | .slice el _=>el
 | _=>[]
theorem fit_int {H:Type} {k:IntKind} {d:DataW H} (h:fit (.int k) (.inl d)):∃ n,rd (.int k) d= .int k n∧k.min≤n∧n≤k.max:=by
 simp only [fit] at h
 obtain ⟨n,rfl,h⟩:=h
 refine ⟨n,rfl,?_⟩
 simpa [Lit.wf] using h
theorem fit_u8 {H:Type} {d:DataW H} (h:fit (.int .u8) (.inl d)):∃ n:UInt8,rd (.int .u8) d=byteD n:=by
 obtain ⟨n,h1,h2,h3⟩:=fit_int h
 have h2:0≤n:=h2
 have h3:n≤255:=h3
 refine ⟨UInt8.ofNat n.toNat,h1.trans ?_⟩
 have:(UInt8.ofNat n.toNat).toNat=n.toNat:=by
  rw [UInt8.toNat_ofNat'];omega
 show D.int .u8 n=D.int .u8 _
 rw [this];congr 1;omega
theorem fit_sl {H:Type} {α:Type} {n:Nat} {σ:Sh} {g:α→D} {Q:DataW H→α→Prop} {d:DataW H} (h:fit (.sl n σ) (.inl d)) (he:∀ x∈elems d,fit σ (.inl x)→∃ a,rd σ x=g a∧Q x a) :
  ∃ l:List α,rd (.sl n σ) d= .sl n (l.map g) none∧l.length=(elems d).length∧∀ (i:Nat) x a,(elems d)[i]?=some x→l[i]?=some a→Q x a:=by
 have key:∀ el:List (DataW H),(∀ x∈el,∃ a,rd σ x=g a∧Q x a)→∃ l:List α,el.map (rd σ)=l.map g∧l.length=el.length∧∀ (i:Nat) x a,el[i]?=some x→l[i]?=some a→Q x a:=by
  intro el
  induction el with
  | nil=>intro _;exact ⟨[],rfl,rfl,by simp⟩
  | cons x el ih=>
   intro hx
   obtain ⟨a,h1,h2⟩:=hx x (by simp)
   obtain ⟨l,h3,h4,h5⟩:=ih fun y hy=>hx y (by simp [hy])
   refine ⟨a::l,by simp [h1,h3],by simp [h4],fun i y b hy hb=>?_⟩
   cases i with
   | zero=>simp at hy hb;subst hy;subst hb;exact h2
   | succ i=>exact h5 i y b (by simpa using hy) (by simpa using hb)
 simp only [fit] at h
 rcases h with rfl | ⟨el,sp,rfl,h⟩
 ·exact ⟨[],rfl,rfl,by simp [elems]⟩
 ·obtain ⟨l,h1,h2,h3⟩:=key el fun x hx=>he x hx (h x hx)
  refine ⟨l,?_,h2,h3⟩
  show D.sl n (el.map (rd σ)) none=_
  rw [h1]
theorem fit_bytes {H:Type} {d:DataW H} (h:fit (.sl 1 (.int .u8)) (.inl d)):∃ b:List UInt8,rd (.sl 1 (.int .u8)) d=bytesD b∧b.length=(elems d).length:=by
 obtain ⟨l,h1,h2,_⟩:=fit_sl (g:=byteD) (Q:=fun _ _=>True) h fun x _ hx=>by
  obtain ⟨n,h⟩:=fit_u8 hx
  exact ⟨n,h,trivial⟩
 exact ⟨l,h1,h2⟩
theorem fitAll0 {H:Type} {ds:List (DataW H)} (h:fitAll [] ds):ds=[]:=by
 cases ds with
 | nil=>rfl
 | cons d ds=>simp [fitAll] at h
theorem fitAll_cons {H:Type} {σ:Sh} {σs:List Sh} {ds:List (DataW H)} (h:fitAll (σ::σs) ds):∃ d ds',ds=d::ds'∧fit σ (.inl d)∧fitAll σs ds':=by
 cases ds with
 | nil=>simp [fitAll] at h
 | cons d ds=>exact ⟨d,ds,rfl,h.1,h.2⟩
theorem fitAll1 {H:Type} {a:Sh} {ds:List (DataW H)} (h:fitAll [a] ds):∃ d1,ds=[d1]∧fit a (.inl d1):=by
 obtain ⟨d1,r,rfl,h1,h⟩:=fitAll_cons h
 obtain rfl:=fitAll0 h
 exact ⟨d1,rfl,h1⟩
end Go.Plat
