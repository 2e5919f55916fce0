/-
  A part of the proof: what the given program's functions answer, each once; conditions that are enough for it.
-/
import Derived.Test.YtfahnaccpncdpaaGreatDoorFw1
import Derived.Laws.StructEq
import Derived.MapKept
import Derived.Laws.IdiomCopy
import Derived.Laws.Cover3
import Derived.Orders
namespace Go.Plat
open Go
set_option linter.unusedVariables false
set_option linter.unusedSimpArgs false
theorem newArr_post {w w':World} {ρ:Pl} {L:List Ob} (hf:Fits w ρ L) (he:Ext F0 w w') {b e cap:Nat} (hb:w.heap.size≤b) {els:List D} (hlen:∀ (i:Nat) d,els[i]?=some d→d.cells.length=e)
  (hcap:els.length≤cap) (hc:∀ (i:Nat) d (j:Nat) c,els[i]?=some d→d.cells[j]?=some c→∃ u,w'.cell? ⟨b,i * e+j,none⟩=some u∧Rep w (foot ρ L) ρ L c u)
  (hall:∀ j,j < cap * e→(∃ v,w'.cell? ⟨b,j,none⟩=some v)∧Soft w' b j) :
  Post w ρ L (.osl e L.length els.length 0 els.length) (L++[.arr e els]) (.slice (some ⟨b,0,none⟩) els.length cap) w' (upd ρ L.length ⟨b,0,cap * e⟩):=by
 have hown:∀ b' off,Ob.owns (.arr e els) ⟨b,0,cap * e⟩ b' off→w.heap.size≤b':=fun b' off h=>by obtain ⟨rfl,_⟩:=h;exact hb
 have hfr:Fresh w (foot ρ L) (foot (upd ρ L.length ⟨b,0,cap * e⟩) (L++[.arr e els])):=fun b' off h=>(foot_snoc h).imp id (hown b' off)
 obtain ⟨h1,h2⟩:=hf.snoc he (o:=.arr e els) (l:=⟨b,0,cap * e⟩) hown
  ⟨Nat.mul_le_mul_right e hcap,hlen,fun i d j c hi hj=>by
    obtain ⟨u,h3,h4⟩:=hc i d j c hi hj
    exact ⟨u,by rw [Nat.zero_add];exact h3,h4.keep he.grow hfr (.snoc _ _ _ _)⟩,fun j hj=>by rw [Nat.zero_add];exact hall j hj⟩
 refine ⟨h1,.osl _ _ _ _ _ _ _ (by simp) ⟨hcap,by simp⟩ fun e' ds hds=>?_,he.grow,h2,.snoc _ _ _ _⟩
 simp at hds
 obtain ⟨rfl,rfl⟩:=hds
 refine ⟨rfl,Nat.le_refl _,fun _=>?_⟩
 rw [upd_same]
 exact ⟨.inr (.inr (by simp)),by simp,by simp⟩
theorem alloc_all (w:World) (row:Array Value) (t:TypeId) (j:Nat) (hj:j < row.size):(∃ v,(w.alloc (.cells row t)).cell? ⟨w.heap.size,j,none⟩=some v)∧Soft (w.alloc (.cells row t)) w.heap.size j:=
 ⟨⟨row[j],by rw [World.cell?_alloc_new];exact Array.getElem?_eq_getElem hj⟩,soft_alloc _ _ _ _⟩
def makeArrOp (T:Tab) (t:Nat) (x y:D) (L:List Ob) (K:D→List Ob→Prop):Prop:=
 match ty T t with
 | some i=>match i.d with
  | .slice e=>match ty T e with
   | some j=>match x with
    | .int .i64 n=>match y with
     | .int .i64 c=>match zeroD j.zero with
      | .any=>False
      | _=>VS (SideS (0≤n∧n=c∧n * j.bytes≤140737488355328∧n≤140737488355328)
        (VS (NormL (List.replicate n.toNat (zeroD j.zero)) fun r m=>K (.osl j.size L.length m 0 m) (L++[.arr j.size r]))))
     | _=>False
    | _=>False
   | none=>False
  | _=>False
 | none=>False
theorem makeArr_sound {P:Program} {T:Tab} (hT:TabOk P T) {t:Nat} {x y:Operand} {σ:List (Nat×D)} {L:List Ob} {K:D→List Ob→Prop} {o:Oper}
  (ho:o.op= .makeSlice t x y) (h:makeArrOp T t (evalD σ x) (evalD σ y) L K):∃ d L',OpOk P o σ L d L'∧K d L':=by
 unfold makeArrOp at h
 split at h<;>try exact h.elim
 rename_i i hi
 have hi:=hT _ _ hi
 split at h<;>try exact h.elim
 rename_i e hd
 have hu:=under_slice hi hd
 split at h<;>try exact h.elim
 rename_i j hj
 have hj:=hT _ _ hj
 split at h<;>try exact h.elim
 rename_i n hx
 split at h<;>try exact h.elim
 rename_i c hy
 have hany:zeroD j.zero≠ .any:=by
  intro he
  rw [he] at h
  exact h
 have h:VS (SideS (0≤n∧n=c∧n * j.bytes≤140737488355328∧n≤140737488355328)
   (K (.osl j.size L.length (List.replicate n.toNat (zeroD j.zero)).length 0 (List.replicate n.toNat (zeroD j.zero)).length) (L++[.arr j.size (List.replicate n.toNat (zeroD j.zero))]))):=by
  split at h
  ·exact h.elim
  ·obtain ⟨h1,h2⟩:=h.out
   exact ⟨h1,VS.out h2⟩
 obtain ⟨⟨h0,h1,h2,h63⟩,hK⟩:=h.out
 subst h1
 obtain ⟨xi,h3,h4,h5,h6⟩:=hj.info
 refine ⟨_,_,OpOk.of_val fun a w ρ hf he=>?_,hK⟩
 have hv:=he.eval x
 have hw:=he.eval y
 rw [hx] at hv
 rw [hy] at hw
 have hr:=run_make (P:=P) w t e xi j.zero hu h3 h6 .i64 .i64 n n h0 (Int.le_refl _) (by rw [h5,Int.mul_comm];omega) (by omega)
 rw [h4] at hr
 obtain ⟨h7,h8⟩:=zeroD_cells (w:=w) (F:=foot ρ L) hany
 rw [hj.szero] at h7
 have hsz:(madeCells j.zero.cells (n.toNat * j.size)).size=n.toNat * j.size:=size_madeCells _ _
 have key:=newArr_post hf (Ext.alloc w (.cells (madeCells j.zero.cells (n.toNat * j.size)) e)) (b:=w.heap.size) (e:=j.size) (cap:=n.toNat) (Nat.le_refl _) (els:=List.replicate n.toNat (zeroD j.zero)) (fun q d hq=>by
   obtain ⟨_,rfl⟩:=repl_get hq
   exact h7) (by simp) (fun q d k c hq hk=>by
   obtain ⟨hlt,rfl⟩:=repl_get hq
   obtain ⟨u,h9,h10⟩:=h8 k c hk
   refine ⟨u,?_,.pure _ _ h10⟩
   have hk':k < j.size:=by rw [← h7];exact (List.getElem?_eq_some_iff.1 hk).1
   have hb:=row_lt (e:=j.size) hlt hk'
   rw [World.cell?_alloc_new]
   unfold madeCells
   rw [made_get _ _ _ (by rw [hj.szero];exact hj.pos) hb,hj.szero,Nat.mul_comm,Nat.mul_add_mod,Nat.mod_eq_of_lt hk']
   exact h9) (fun q hq=>alloc_all _ _ _ _ (by rw [hsz];exact hq))
 refine ⟨.slice (some ⟨w.heap.size,0,none⟩) n.toNat n.toNat,w.alloc (.cells (madeCells j.zero.cells (n.toNat * j.size)) e),upd ρ L.length ⟨w.heap.size,0,n.toNat * j.size⟩,by simp [execOp,ho,hv.int_inv,hw.int_inv,hr],?_⟩
 have hlr:(List.replicate n.toNat (zeroD j.zero)).length=n.toNat:=by simp
 rw [show Value.slice (some ⟨w.heap.size,0,none⟩) n.toNat n.toNat=Value.slice (some ⟨w.heap.size,0,none⟩) (List.replicate n.toNat (zeroD j.zero)).length n.toNat by rw [hlr]]
 exact key
theorem flat_rep {w:World} {R:D→Value→Prop} {b off e:Nat} (he:0 < e) {ds:List D} (hlen:∀ (i:Nat) d,ds[i]?=some d→d.cells.length=e)
  (h:∀ (i:Nat) d (j:Nat) c,ds[i]?=some d→d.cells[j]?=some c→∃ u,w.cell? ⟨b,off+(i * e+j),none⟩=some u∧R c u) :
  ∃ vs:List Value,vs.length=ds.length * e∧(∀ (q:Nat) v,vs[q]?=some v→w.cell? ⟨b,off+q,none⟩=some v) ∧
   ∀ (i:Nat) d (j:Nat) c,ds[i]?=some d→d.cells[j]?=some c→∃ u,vs[i * e+j]?=some u∧R c u:=by
 have hq:∀ q,q < ds.length * e→∃ u,w.cell? ⟨b,off+q,none⟩=some u:=by
  intro q hq
  have h1:q / e < ds.length:=Nat.div_lt_of_lt_mul (by rwa [Nat.mul_comm])
  have h2:q % e < e:=Nat.mod_lt _ he
  have hl:=hlen _ _ (List.getElem?_eq_getElem h1)
  obtain ⟨u,h3,_⟩:=h (q / e) _ (q % e) _ (List.getElem?_eq_getElem h1) (List.getElem?_eq_getElem (by rw [hl];exact h2))
  rw [Nat.mul_comm,Nat.div_add_mod] at h3
  exact ⟨u,h3⟩
 refine ⟨(List.range (ds.length * e)).map fun q=>(w.cell? ⟨b,off+q,none⟩).getD undef,by simp,fun q v hv=>?_,fun i d j c hi hj=>?_⟩
 ·simp only [List.getElem?_map,Option.map_eq_some_iff] at hv
  obtain ⟨q',h1,rfl⟩:=hv
  obtain ⟨h2,h3⟩:=List.getElem?_eq_some_iff.1 h1
  simp at h2 h3
  subst h3
  obtain ⟨u,h4⟩:=hq q h2
  simp [h4]
 ·obtain ⟨u,h1,h3⟩:=h i d j c hi hj
  have hil:i < ds.length:=(List.getElem?_eq_some_iff.1 hi).1
  have hjl:j < e:=by rw [← hlen i d hi];exact (List.getElem?_eq_some_iff.1 hj).1
  refine ⟨u,?_,h3⟩
  rw [List.getElem?_map,List.getElem?_range (row_lt hil hjl)]
  simp [h1]
theorem arr_new {P:Program} {w:World} {ρ:Pl} {L:List Ob} (hf:Fits w ρ L) {t t2 e:Nat} {ty:TypeId} {j:TI} (hu:P.underlying t=some (.slice e)) (hj:TIOk P e j) (hb:j.bytes≤32768)
  {a:Option Addr} {x:Value} {ys:List D} {news:List Value} (hlen:∀ (i:Nat) d,ys[i]?=some d→d.cells.length=j.size)
  (hx:Appendix P w e j t2 x ys.length news) (hr:RowsOf w (foot ρ L) j.size ys news) (hn:ys.length≤4294967296) :
  ∃ v w' ρ',(Builtin.append_ #[t,t2] ty #[.slice a 0 0,x]).run P w= .ok v w'∧Post w ρ L (.osl j.size L.length ys.length 0 ys.length) (L++[.arr j.size ys]) v w' ρ':=by
 obtain ⟨hroom,hgrow⟩:=hx.run a 0 0 t ty hu
 rcases Nat.eq_zero_or_pos ys.length with h0 | h0
 ·have hy:ys=[]:=List.eq_nil_of_length_eq_zero h0
  subst hy
  have hnews:news=[]:=List.eq_nil_of_length_eq_zero (by simpa using hr.1)
  subst hnews
  have hrun:=hroom (by simp)
  obtain ⟨l,hlc⟩:∃ l:Loc,l.cap=0:=⟨⟨0,0,0⟩,rfl⟩
  obtain ⟨h1,h2⟩:=hf.snoc (Ext.refl F0 w) (o:=.arr j.size []) (l:=l) (fun b off h=>by obtain ⟨_,h3,h4⟩:=h;omega) ⟨by simp,by simp,by simp,fun j hj=>by omega⟩
  refine ⟨.slice a 0 0,w,_,by cases a<;>exact hrun,h1,.osl _ _ _ _ _ _ _ (by simp) ⟨Nat.le_refl _,fun _=>rfl⟩ (fun e' ds hds=>?_),.refl _ _,h2,.snoc _ _ _ _⟩
  simp at hds
  obtain ⟨rfl,rfl⟩:=hds
  exact ⟨rfl,Nat.le_refl _,fun _=>⟨.inl rfl,by rw [upd_same];simp [hlc],by simp⟩⟩
 ·have hrun:=hgrow (by simpa using h0) (by
   have:(0+ys.length) * j.bytes≤4294967296 * 32768:=Nat.mul_le_mul (by omega) hb
   omega) [] (fun w' _=>by cases a<;>simp [Builtin.firstCells,loadCells,loadCellsFrom])
  have hcap:0+ys.length≤grownCap w (0+ys.length) 0 e:=grownCap_ge _ _ _ _
  have harr:([]:List Value).toArray++news.toArray++Builtin.zeroCells j.zero.cells (grownCap w (0+ys.length) 0 e - (0+ys.length))=news.toArray++Builtin.zeroCells j.zero.cells (grownCap w (0+ys.length) 0 e - (0+ys.length)):=by simp
  rw [harr] at hrun
  simp only [Nat.zero_add] at hrun hcap
  generalize grownCap w ys.length 0 e=cap at *
  have hsz:(news.toArray++Builtin.zeroCells j.zero.cells (cap - ys.length)).size=cap * j.size:=by
   simp [size_zeroCells,hr.1,hj.szero,← Nat.add_mul];congr 1;omega
  have key:=newArr_post hf ((Ext.drew w).trans0 (Ext.alloc w.drew (.cells (news.toArray++Builtin.zeroCells j.zero.cells (cap - ys.length)) e))) (b:=w.heap.size) (e:=j.size) (cap:=cap) (Nat.le_refl _) hlen hcap (fun q d k c hq hk=>by
    obtain ⟨u,h1,h2⟩:=hr.2.2 q d k c hq hk
    refine ⟨u,?_,.pure _ _ h2⟩
    have hlt:q * j.size+k < news.length:=(List.getElem?_eq_some_iff.1 h1).1
    rw [show w.heap.size=w.drew.heap.size from rfl,World.cell?_alloc_new,Array.getElem?_append_left (by simpa using hlt)]
    simpa using h1) (fun q hq=>alloc_all w.drew _ _ _ (by rw [hsz];exact hq))
  exact ⟨_,_,_,hrun,key⟩
theorem set_same {L:List Ob} {k:Nat} {o:Ob} (hk:L[k]?=some o):L.set k o=L:=by
 apply List.ext_getElem?
 intro i
 by_cases hi:i=k
 ·subst hi;rw [List.getElem?_set_self (List.getElem?_eq_some_iff.1 hk).1,hk]
 ·rw [List.getElem?_set_ne (by omega)]
theorem shape_alloc (w:World) (row:Array Value) (t:TypeId):(w.alloc (.cells row t)).shape? w.heap.size=some (t,row.size):=by
 unfold World.shape?
 rw [show (w.alloc (.cells row t)).heap[w.heap.size]?=some (.cells row t) by show (w.heap.push _)[w.heap.size]?=_;simp]
def ArrAt (w':World) (ρ ρ':Pl) (k e size n:Nat) (v u:Value):Prop:=
 (u=v∧ρ'=ρ)∨∃ cap,u= .slice (some ⟨(ρ' k).block,(ρ' k).off,none⟩) n cap∧cap * size=(ρ' k).cap∧n≤cap ∧
   ((∃ a l c,v= .slice (some a) l c∧ρ' k=ρ k∧c=cap)∨((ρ' k).off=0∧w'.shape? (ρ' k).block=some (e,cap * size)))
theorem arr_more {P:Program} {w:World} {ρ:Pl} {L:List Ob} (hf:Fits w ρ L) {t t2 e k:Nat} {ty:TypeId} {j:TI} (hu:P.underlying t=some (.slice e)) (hj:TIOk P e j) (hb:j.bytes≤32768)
  {els:List D} {v x:Value} (hk:L[k]?=some (.arr j.size els)) (hv:Rep w (foot ρ L) ρ L (.osl j.size k els.length 0 els.length) v) {ys:List D} {news:List Value} (hlen:∀ (i:Nat) d,ys[i]?=some d→d.cells.length=j.size)
  (hx:Appendix P w e j t2 x ys.length news) (hr:RowsOf w (foot ρ L) j.size ys news) (hn:els.length+ys.length≤4294967296) :
  ∃ u w' ρ',(Builtin.append_ #[t,t2] ty #[v,x]).run P w= .ok u w'∧Post w ρ L (.osl j.size k (els++ys).length 0 (els++ys).length) (L.set k (.arr j.size (els++ys))) u w' ρ'∧ArrAt w' ρ ρ' k e j.size (els++ys).length v u:=by
 have hpos:0 < j.size:=Nat.pos_of_ne_zero hj.pos
 have hkl:k < L.length:=(List.getElem?_eq_some_iff.1 hk).1
 obtain ⟨a,cap,rfl,_,⟨hc1,hc2⟩,hm⟩:=hv.osl_inv
 obtain ⟨_,_,hm⟩:=hm _ _ hk
 obtain ⟨hm1,hm2,_⟩:=hm rfl
 simp only [Nat.zero_mul,Nat.add_zero,Nat.zero_add] at hm1 hm2
 obtain ⟨o1,o2,o3,o4⟩:=hf.obj k _ hk
 have hlen2:∀ (i:Nat) d,(els++ys)[i]?=some d→d.cells.length=j.size:=by
  intro i d hi
  rcases Nat.lt_or_ge i els.length with h | h
  ·rw [List.getElem?_append_left h] at hi;exact o2 i d hi
  ·rw [List.getElem?_append_right h] at hi;exact hlen _ d hi
 obtain ⟨hroom,hgrow⟩:=hx.run a els.length cap t ty hu
 rcases Nat.eq_zero_or_pos ys.length with h0 | h0
 ·have hy:ys=[]:=List.eq_nil_of_length_eq_zero h0
  subst hy
  have hnews:news=[]:=List.eq_nil_of_length_eq_zero (by simpa using hr.1)
  subst hnews
  have hrun:=hroom (by simpa using hc1)
  refine ⟨.slice a els.length cap,w,ρ,by cases a<;>exact hrun,?_,.inl ⟨rfl,rfl⟩⟩
  rw [List.append_nil,set_same hk]
  exact .same hf hv
 ·by_cases hfits:els.length+ys.length≤cap
  ·have hrun:=hroom hfits
   have ha:a=some ⟨(ρ k).block,(ρ k).off,none⟩:=(hm1.resolve_left (by omega)).resolve_left (by intro h;have:=hc2 h;omega)
   subst ha
   have hnl:news.length=ys.length * j.size:=hr.1
   have hle:(els.length+ys.length) * j.size≤(ρ k).cap:=by rw [← hm2];exact Nat.mul_le_mul_right _ hfits
   have hlsz:(els.length+ys.length) * j.size=els.length * j.size+ys.length * j.size:=Nat.add_mul _ _ _
   have hex:∀ q,q < news.length→∃ u,w.cell? ⟨(ρ k).block,(ρ k).off+els.length * j.size+q,none⟩=some u:=fun q hq=>by
    rw [Nat.add_assoc];exact (o4 _ (by omega)).1
   have hfz:∀ q,q < news.length→Soft w ((ρ k).block) ((ρ k).off+els.length * j.size+q):=fun q hq=>by
    rw [Nat.add_assoc];exact (o4 _ (by omega)).2
   have hst:(storeCells ((⟨(ρ k).block,(ρ k).off,none⟩:Addr).add (els.length * j.size)) news).run P w= .ok () (w.setCells (ρ k).block ((ρ k).off+els.length * j.size) news):=by
    rw [addr_add]
    have:=run_storeCells_cells (P:=P) (ρ k).block ((ρ k).off+els.length * j.size) news 0 w (fun q hq=>by obtain ⟨u,hu⟩:=hex q hq;simp [hu]) (fun q hq=>by simpa using (hfz q hq).1) hr.2.1
    simpa using this
   simp only [hst,Result.andThen] at hrun
   have hext:=Ext.setCells w (ρ k).block ((ρ k).off+els.length * j.size) news
   have hsame:=setCells_same (ρ k).block news ((ρ k).off+els.length * j.size) w
   have hc:=Compat.setArr (ρ:=ρ) (l':=ρ k) (ds':=els++ys) hk (by simp) (fun _=>rfl)
   have hat:=fun q (hq:q < news.length)=>setCells_at (ρ k).block news ((ρ k).off+els.length * j.size) w q hq hex
   obtain ⟨g1,g2,g3⟩:=hf.update (l':=ρ k) (o':=.arr j.size (els++ys)) hk hc _ (fun b' x ⟨e1,e2,e3⟩=>⟨e1,by omega,by omega⟩) hext (fun b' x h=>.inl h)
    (fun hfr he=>⟨by rw [List.length_append];exact hle,hlen2,fun i d q c hi hq=>by
      have hql:q < j.size:=by rw [← hlen2 i d hi];exact (List.getElem?_eq_some_iff.1 hq).1
      rcases Nat.lt_or_ge i els.length with hlt | hge
      ·rw [List.getElem?_append_left hlt] at hi
       obtain ⟨u,h5,h6⟩:=o3 i d q c hi hq
       refine ⟨u,?_,h6.keep he hfr hc⟩
       rw [setCells_other _ _ _ _ _ _ (fun _=>by have:=row_lt hlt hql;omega)]
       exact h5
      ·rw [List.getElem?_append_right hge] at hi
       obtain ⟨u,h5,h6⟩:=hr.2.2 _ d q c hi hq
       have hlt2:(i - els.length) * j.size+q < news.length:=(List.getElem?_eq_some_iff.1 h5).1
       have:=hat _ hlt2
       have e1:(ρ k).off+els.length * j.size+((i - els.length) * j.size+q)=(ρ k).off+(i * j.size+q):=by
        have:i * j.size=els.length * j.size+(i - els.length) * j.size:=by rw [← Nat.add_mul];congr 1;omega
        omega
       rw [e1] at this
       exact ⟨u,this.trans h5,.pure _ _ (h6.keep he hfr)⟩,fun q hq=>by
      obtain ⟨⟨u,h5⟩,h6⟩:=o4 q hq
      refine ⟨?_,by rw [hsame.2.2.2.2.1];exact h6⟩
      by_cases hin:els.length * j.size≤q∧q < els.length * j.size+news.length
      ·have:=hat (q - els.length * j.size) (by omega)
       rw [show (ρ k).off+els.length * j.size+(q - els.length * j.size)=(ρ k).off+q by omega] at this
       exact ⟨_,this.trans (List.getElem?_eq_getElem (by omega))⟩
      ·exact ⟨u,by rw [setCells_other _ _ _ _ _ _ (fun _=>by omega)];exact h5⟩⟩)
   refine ⟨_,_,upd ρ k (ρ k),hrun,⟨g1,?_,g2,g3,hc⟩,.inr ⟨cap,?_,by rw [upd_same];exact hm2,by rw [List.length_append];exact hfits,.inl ⟨_,_,_,rfl,upd_same _ _ _,rfl⟩⟩⟩
   rotate_left
   ·rw [upd_same,← List.length_append]
   rw [← List.length_append]
   refine .osl _ _ _ _ _ _ _ (by simpa using hkl) ⟨by simpa using hfits,by simp⟩ fun e' ds hds=>?_
   rw [List.getElem?_set_self hkl] at hds
   cases hds
   refine ⟨rfl,Nat.le_refl _,fun _=>?_⟩
   rw [upd_same]
   exact ⟨.inr (.inr (by simp)),by simpa using hm2,by simp⟩
  ·obtain ⟨vs,p1,p2,p3⟩:=flat_rep (w:=w) (R:=Rep w (foot ρ L) ρ L) (b:=(ρ k).block) (off:=(ρ k).off) hpos o2 o3
   have hrun:=hgrow (by omega) (by
    have:(els.length+ys.length) * j.bytes≤4294967296 * 32768:=Nat.mul_le_mul hn hb
    omega) vs (fun w' hw=>by
     rcases Nat.eq_zero_or_pos els.length with hz | hz
     ·have:vs=[]:=List.eq_nil_of_length_eq_zero (by rw [p1,hz,Nat.zero_mul])
      subst this
      rw [hz]
      cases a<;>simp [Builtin.firstCells,loadCells,loadCellsFrom]
     ·have ha:a=some ⟨(ρ k).block,(ρ k).off,none⟩:=(hm1.resolve_left (by omega)).resolve_left (by intro h;have:=hc2 h;omega)
      subst ha
      exact run_firstCells_some w' _ _ ⟨(ρ k).block,(ρ k).off,none⟩ _ _ vs p1 fun q u hq=>by rw [addr_add,hw];exact p2 q u hq)
   have hcap2:els.length+ys.length≤grownCap w (els.length+ys.length) cap e:=grownCap_ge _ _ _ _
   have harr:vs.toArray++news.toArray++Builtin.zeroCells j.zero.cells (grownCap w (els.length+ys.length) cap e - (els.length+ys.length))=(vs++news).toArray++Builtin.zeroCells j.zero.cells (grownCap w (els.length+ys.length) cap e - (els.length+ys.length)):=by simp
   rw [harr] at hrun
   have hg1:=(Ext.drew w).trans0 (Ext.alloc w.drew (.cells ((vs++news).toArray++Builtin.zeroCells j.zero.cells (grownCap w (els.length+ys.length) cap e - (els.length+ys.length))) e))
   have hcell:∀ q,(w.drew.alloc (.cells ((vs++news).toArray++Builtin.zeroCells j.zero.cells (grownCap w (els.length+ys.length) cap e - (els.length+ys.length))) e)).cell? ⟨w.heap.size,q,none⟩=((vs++news).toArray++Builtin.zeroCells j.zero.cells (grownCap w (els.length+ys.length) cap e - (els.length+ys.length)))[q]?:=fun q=>World.cell?_alloc_new w.drew _ _ _
   have hsz:((vs++news).toArray++Builtin.zeroCells j.zero.cells (grownCap w (els.length+ys.length) cap e - (els.length+ys.length))).size=grownCap w (els.length+ys.length) cap e * j.size:=by
    simp [size_zeroCells,p1,hr.1,hj.szero,← Nat.add_mul];congr 1;omega
   have hshp:(w.drew.alloc (.cells ((vs++news).toArray++Builtin.zeroCells j.zero.cells (grownCap w (els.length+ys.length) cap e - (els.length+ys.length))) e)).shape? w.heap.size=some (e,grownCap w (els.length+ys.length) cap e * j.size):=by
    rw [← hsz]
    exact shape_alloc w.drew _ e
   have hall:=fun q (hq:q < grownCap w (els.length+ys.length) cap e * j.size)=>alloc_all w.drew ((vs++news).toArray++Builtin.zeroCells j.zero.cells (grownCap w (els.length+ys.length) cap e - (els.length+ys.length))) e q (by rw [hsz];exact hq)
   generalize w.drew.alloc (.cells ((vs++news).toArray++Builtin.zeroCells j.zero.cells (grownCap w (els.length+ys.length) cap e - (els.length+ys.length))) e)=w' at *
   generalize hzc:Builtin.zeroCells j.zero.cells (grownCap w (els.length+ys.length) cap e - (els.length+ys.length))=zc at *
   generalize grownCap w (els.length+ys.length) cap e=cap' at *
   let l':Loc:=⟨w.heap.size,0,cap' * j.size⟩
   have hc:=Compat.setArr (ρ:=ρ) (l':=l') (ds':=els++ys) hk (by simp) (fun h=>by rw [List.length_append] at h;omega)
   have hnews:∀ (q:Nat) u,(vs++news)[q]?=some u→w'.cell? ⟨w.heap.size,0+q,none⟩=some u:=fun q u hq=>by
    rw [Nat.zero_add,hcell,Array.getElem?_append_left (by simpa using (List.getElem?_eq_some_iff.1 hq).1)]
    simpa using hq
   obtain ⟨g1,g2,g3⟩:=hf.update (l':=l') (o':=.arr j.size (els++ys)) hk hc F0 (fun _ _ f=>f.elim) hg1 (fun b off ⟨e1,_,_⟩=>.inr (by rw [e1];exact Nat.le_refl _))
    (fun hfr he=>⟨by rw [List.length_append];exact Nat.mul_le_mul_right _ hcap2,hlen2,fun i d q c hi hq=>by
      have hql:q < j.size:=by rw [← hlen2 i d hi];exact (List.getElem?_eq_some_iff.1 hq).1
      rcases Nat.lt_or_ge i els.length with hlt | hge
      ·rw [List.getElem?_append_left hlt] at hi
       obtain ⟨u,h5,h6⟩:=p3 i d q c hi hq
       exact ⟨u,hnews _ _ (by rw [List.getElem?_append_left (by rw [p1];exact row_lt hlt hql)];exact h5),h6.keep he hfr hc⟩
      ·rw [List.getElem?_append_right hge] at hi
       obtain ⟨u,h5,h6⟩:=hr.2.2 _ d q c hi hq
       have e1:i * j.size=els.length * j.size+(i - els.length) * j.size:=by rw [← Nat.add_mul];congr 1;omega
       have e2:vs.length≤i * j.size+q:=by omega
       have e3:i * j.size+q - vs.length=(i - els.length) * j.size+q:=by omega
       exact ⟨u,hnews (i * j.size+q) u (by rw [List.getElem?_append_right e2,e3];exact h5),.pure _ _ (h6.keep he hfr)⟩,fun q hq=>by
      have:=hall q hq
      rw [show w.drew.heap.size=w.heap.size from rfl] at this
      rw [show l'.off+q=q from Nat.zero_add q]
      exact this⟩)
   refine ⟨_,w',upd ρ k l',hrun,⟨g1,?_,g2,g3,hc⟩,.inr ⟨cap',?_,by rw [upd_same],by rw [List.length_append];exact hcap2,.inr (by rw [upd_same];exact ⟨rfl,hshp⟩)⟩⟩
   rotate_left
   ·rw [upd_same,← List.length_append]
   rw [← List.length_append]
   refine .osl _ _ _ _ _ _ _ (by simpa using hkl) ⟨by simpa using hcap2,by simp⟩ fun e' ds hds=>?_
   rw [List.getElem?_set_self hkl] at hds
   cases hds
   refine ⟨rfl,Nat.le_refl _,fun _=>?_⟩
   rw [upd_same]
   exact ⟨.inr (.inr (by simp [l'])),by simp [l'],by simp⟩
def appArrOp (T:Tab) (t t2:Nat) (x y:D) (L:List Ob) (K:D→List Ob→Prop):Prop:=
 match ty T t with
 | some i=>match i.d with
  | .slice e=>match ty T e with
   | some j=>match Nat.ble j.bytes 32768 with
    | true=>ysK T t2 j.size y fun ys=>match x with
     | .nilsl=>VS (SideS (ys.length≤4294967296) (VS (NormL ys fun r m=>K (.osl j.size L.length m 0 m) (L++[.arr j.size r]))))
     | .osl es k n off len=>match Nat.beq es j.size with
      | true=>match off with
       | 0=>nthK k L fun o=>match o with
        | .arr e' els=>match Nat.beq e' j.size with
         | true=>VS (SideS (n=els.length∧len=els.length∧els.length+ys.length≤4294967296) (VS (NormL (els++ys) fun r m=>setLK k (.arr j.size r) L fun L=>K (.osl j.size k m 0 m) L)))
         | false=>False
        | _=>False
       | _+1=>False
      | false=>False
     | _=>False
    | false=>False
   | none=>False
  | _=>False
 | none=>False
theorem appArr_sound {P:Program} {T:Tab} (hT:TabOk P T) {t t2:Nat} {x y:Operand} {σ:List (Nat×D)} {L:List Ob} {K:D→List Ob→Prop} {o:Oper}
  (ho:o.op= .call { callee:=.builtin .append,args:=#[x,y],argTypes:=#[t,t2] }) (h:appArrOp T t t2 (evalD σ x) (evalD σ y) L K):∃ d L',OpOk P o σ L d L'∧K d L':=by
 unfold appArrOp at h
 split at h<;>try exact h.elim
 rename_i i hi
 have hi:=hT _ _ hi
 split at h<;>try exact h.elim
 rename_i e hd
 have hu:=under_slice hi hd
 split at h<;>try exact h.elim
 rename_i j hj
 have hj:=hT _ _ hj
 split at h<;>try exact h.elim
 rename_i hb
 have hb:=Nat.le_of_ble_eq_true hb
 obtain ⟨ys,h,hys⟩:=ysK_sound hT hj h
 have fin:∀ {w w':World} {a:Act} {v:Value},(Builtin.append_ #[t,t2] o.type #[a.eval x,a.eval y]).run P w= .ok v w'→(execOp a.eval o).run P w= .ok (.value v) w':=fun hr=>
  exec_builtin' ho fun cs=>by simp [builtin,hr]
 split at h<;>try exact h.elim
 ·rename_i hx
  obtain ⟨hn,hK⟩:=h.out
  have hK:=VS.out hK
  unfold NormL at hK
  refine ⟨_,_,OpOk.of_val fun a w ρ hf he=>?_,hK⟩
  have hv:=he.eval x
  rw [hx] at hv
  obtain ⟨ad,hv⟩:=hv.nilsl_inv
  obtain ⟨hlen,news,h1,h2⟩:=hys w ρ L _ (he.eval y) (by omega)
  obtain ⟨v,w',ρ',h3,h4⟩:=arr_new (ty:=o.type) (a:=ad) hf hu hj hb hlen h1 h2 hn
  exact ⟨v,w',ρ',fin (by rw [hv];exact h3),h4⟩
 ·rename_i es k n off len hx
  split at h<;>try exact h.elim
  rename_i hes
  have hes:=Nat.eq_of_beq_eq_true hes
  subst hes
  split at h<;>try exact h.elim
  obtain ⟨ob,hk,h⟩:=nthK_eq h
  split at h<;>try exact h.elim
  rename_i e' els
  split at h<;>try exact h.elim
  rename_i hee
  have hee:=Nat.eq_of_beq_eq_true hee
  subst hee
  obtain ⟨⟨hn,hl,hle⟩,h⟩:=h.out
  have h:=VS.out h
  unfold NormL at h
  have hK:=setLK_eq h
  refine ⟨_,_,OpOk.of_val fun a w ρ hf he=>?_,hK⟩
  have hv:=he.eval x
  rw [hx,hn,hl] at hv
  obtain ⟨hlen,news,h1,h2⟩:=hys w ρ L _ (he.eval y) (by omega)
  obtain ⟨v,w',ρ',h3,h4,_⟩:=arr_more (ty:=o.type) hf hu hj hb hk hv hlen h1 h2 hle
  exact ⟨v,w',ρ',fin h3,h4⟩
theorem told_more {P:Program} {w:World} {ρ:Pl} {L:List Ob} (hf:Fits w ρ L) {t t2 e k:Nat} {ty:TypeId} {j:TI} (hu:P.underlying t=some (.slice e)) (hj:TIOk P e j) (hb:j.bytes≤32768) (h1:j.size=1)
  {els:List D} {v x:Value} (hk:L[k]?=some (.arr 1 els)) (hv:Rep w (foot ρ L) ρ L (.tosl e k els.length) v) {ys:List D} {news:List Value} (hlen:∀ (i:Nat) d,ys[i]?=some d→d.cells.length=1)
  (hx:Appendix P w e j t2 x ys.length news) (hr:RowsOf w (foot ρ L) 1 ys news) (hn:els.length+ys.length≤4294967296) :
  ∃ u w' ρ',(Builtin.append_ #[t,t2] ty #[v,x]).run P w= .ok u w'∧Post w ρ L (.tosl e k (els++ys).length) (L.set k (.arr 1 (els++ys))) u w' ρ':=by
 obtain ⟨a,cap,rfl,hkl,hc,hm⟩:=hv.tosl_inv
 obtain ⟨_,_,hm⟩:=hm _ _ hk
 obtain ⟨hcap,hat⟩:=hm rfl
 have hosl:Rep w (foot ρ L) ρ L (.osl j.size k els.length 0 els.length) (.slice a els.length cap):=by
  refine .osl _ _ _ _ _ _ _ hkl ⟨hc,fun ha=>?_⟩ fun e' ds hd=>?_
  ·rcases hat with h | h
   ·exact h.2
   ·rw [ha] at h;cases h.1
  ·rw [hk] at hd
   cases hd
   refine ⟨h1.symm,Nat.le_refl _,fun _=>⟨?_,by rw [h1];omega,by omega⟩⟩
   rcases hat with h | ⟨h3,h4,_⟩
   ·exact .inl h.2
   ·exact .inr (.inr (by rw [h3,h4];simp))
 obtain ⟨u,w',ρ',g1,g2,g3⟩:=arr_more (ty:=ty) hf hu hj hb (els:=els) (by rw [h1];exact hk) hosl (by rw [h1];exact hlen) hx (by rw [h1];exact hr) hn
 refine ⟨u,w',ρ',g1,?_⟩
 rw [h1] at g2 g3
 obtain ⟨p1,p2,p3,p4,p5⟩:=g2
 refine ⟨p1,?_,p3,p4,p5⟩
 have hkl':k < (L.set k (Ob.arr 1 (els++ys))).length:=by rw [List.length_set];exact hkl
 have hnew:∀ {e':Nat} {ds:List D},(L.set k (Ob.arr 1 (els++ys)))[k]?=some (.arr e' ds)→e'=1∧ds=els++ys:=fun h=>by
  rw [List.getElem?_set_self hkl] at h
  cases h
  exact ⟨rfl,rfl⟩
 rcases g3 with ⟨rfl,rfl⟩ | ⟨cap',rfl,h5,h6,h7⟩
 ·obtain ⟨a',cap',hs,_⟩:=p2.osl_inv
  have hl:els.length=(els++ys).length:=by
   have:=hs;injection this
  rw [← hl]
  refine .tosl _ _ _ _ _ hkl' hc fun e' ds hd=>?_
  obtain ⟨rfl,rfl⟩:=hnew hd
  exact ⟨rfl,by omega,fun _=>⟨hcap,hat.imp id fun ⟨h3,h4,h8⟩=>⟨h3,h4,p3.shape _ _ h8⟩⟩⟩
 ·refine .tosl _ _ _ _ _ hkl' h6 fun e' ds hd=>?_
  obtain ⟨rfl,rfl⟩:=hnew hd
  refine ⟨rfl,Nat.le_refl _,fun _=>⟨by omega,.inr ?_⟩⟩
  rcases h7 with ⟨a',l,c,h8,h9,hcc⟩ | ⟨h8,h9⟩
  ·cases h8
   rcases hat with h | ⟨h3,h4,h10⟩
   ·cases h.1
   ·rw [h9]
    exact ⟨by rw [h4],h4,by rw [← hcc];exact p3.shape _ _ h10⟩
  ·exact ⟨by rw [h8],h8,by rw [Nat.mul_one] at h9;exact h9⟩
def toldOp (T:Tab) (t t2 u k n:Nat) (y:D) (L:List Ob) (K:D→List Ob→Prop):Prop:=
 match ty T t with
 | some i=>match i.d with
  | .slice e=>match ty T e with
   | some j=>match Nat.ble j.bytes 32768,Nat.beq e u,Nat.beq j.size 1 with
    | true,true,true=>ysK T t2 1 y fun ys=>nthK k L fun o=>match o with
     | .arr e' els=>match Nat.beq e' 1 with
      | true=>VS (SideS (n=els.length∧els.length+ys.length≤4294967296) (VS (NormL (els++ys) fun r m=>setLK k (.arr 1 r) L fun L=>K (.tosl u k m) L)))
      | false=>False
     | _=>False
    | _,_,_=>False
   | none=>False
  | _=>False
 | none=>False
theorem told_sound {P:Program} {T:Tab} (hT:TabOk P T) {t t2 u k n:Nat} {x y:Operand} {σ:List (Nat×D)} {L:List Ob} {K:D→List Ob→Prop} {o:Oper}
  (ho:o.op= .call { callee:=.builtin .append,args:=#[x,y],argTypes:=#[t,t2] }) (hx:evalD σ x= .tosl u k n) (h:toldOp T t t2 u k n (evalD σ y) L K):∃ d L',OpOk P o σ L d L'∧K d L':=by
 unfold toldOp at h
 split at h<;>try exact h.elim
 rename_i i hi
 have hi:=hT _ _ hi
 split at h<;>try exact h.elim
 rename_i e hd
 have hu:=under_slice hi hd
 split at h<;>try exact h.elim
 rename_i j hj
 have hj:=hT _ _ hj
 split at h<;>try exact h.elim
 rename_i hb he1 hs1
 have hb:=Nat.le_of_ble_eq_true hb
 have he1:=Nat.eq_of_beq_eq_true he1
 have hs1:=Nat.eq_of_beq_eq_true hs1
 subst he1
 rw [← hs1] at h
 obtain ⟨ys,h,hys⟩:=ysK_sound hT hj h
 rw [hs1] at hys
 have fin:∀ {w w':World} {a:Act} {v:Value},(Builtin.append_ #[t,t2] o.type #[a.eval x,a.eval y]).run P w= .ok v w'→(execOp a.eval o).run P w= .ok (.value v) w':=fun hr=>
  exec_builtin' ho fun cs=>by simp [builtin,hr]
 obtain ⟨ob,hk,h⟩:=nthK_eq h
 split at h<;>try exact h.elim
 rename_i e' els
 split at h<;>try exact h.elim
 rename_i hee
 have hee:=Nat.eq_of_beq_eq_true hee
 rw [hs1] at h hee
 subst hee
 obtain ⟨⟨hn,hle⟩,h⟩:=h.out
 have h:=VS.out h
 unfold NormL at h
 have hK:=setLK_eq h
 refine ⟨_,_,OpOk.of_val fun a w ρ hf he=>?_,hK⟩
 have hv:=he.eval x
 rw [hx,hn] at hv
 obtain ⟨hlen,news,h1,h2⟩:=hys w ρ L _ (he.eval y) (by omega)
 obtain ⟨v,w',ρ',h3,h4⟩:=told_more (ty:=o.type) hf hu hj hb hs1 hk hv hlen h1 h2 hle
 exact ⟨v,w',ρ',fin h3,h4⟩
def appendK (T:Tab) (t t2:Nat) (x y:D) (L:List Ob) (K:D→List Ob→Prop):Prop:=
 match x with
 | .nilsl=>VS (ModeS (appendOp T t t2 .nilsl y L K) (appArrOp T t t2 .nilsl y L K))
 | .osl es k n off len=>appArrOp T t t2 (.osl es k n off len) y L K
 | .tosl u k n=>toldOp T t t2 u k n y L K
 | .sl e ds tok=>appendOp T t t2 (.sl e ds tok) y L K
 | _=>False
theorem appendK_sound {P:Program} {T:Tab} (hT:TabOk P T) {t t2:Nat} {x y:Operand} {σ:List (Nat×D)} {L:List Ob} {K:D→List Ob→Prop} {o:Oper}
  (ho:o.op= .call { callee:=.builtin .append,args:=#[x,y],argTypes:=#[t,t2] }) (h:appendK T t t2 (evalD σ x) (evalD σ y) L K):∃ d L',OpOk P o σ L d L'∧K d L':=by
 unfold appendK at h
 split at h<;>try exact h.elim
 ·rename_i hx
  rw [← hx] at h
  rcases h.out with h | h
  ·exact append_sound hT ho h
  ·exact appArr_sound hT ho h
 ·rename_i hx
  rw [← hx] at h
  exact appArr_sound hT ho h
 ·rename_i hx
  exact told_sound hT ho hx h
 ·rename_i hx
  rw [← hx] at h
  exact append_sound hT ho h
def litK (K:D→List Ob→Prop) (L:List Ob) (d:D):Prop:=
 match d with
 | .sl e ds _=>VS (NormL ds fun r n=>K (.sl e r (some L.length)) (L++[.spare n]))
 | _=>False
def buildTokOp (T:Tab) (t len:Nat) (ps:List (Nat×Operand)) (σ:List (Nat×D)) (L:List Ob) (K:D→List Ob→Prop):Prop:=buildSliceOp T t len ps σ (litK K L)
theorem buildTok_sound {P:Program} {T:Tab} (hT:TabOk P T) {t len:Nat} {ps:Array (Nat×Operand)} {σ:List (Nat×D)} {L:List Ob} {K:D→List Ob→Prop} {o:Oper}
  (ho:o.op= .buildSlice t len ps) (h:buildTokOp T t len ps.toList σ L K):∃ d L',OpOk P o σ L d L'∧K d L':=by
 obtain ⟨d,h1,h2,h3⟩:=buildSlice_run hT ho h
 rcases h3 with rfl | ⟨e,ds,rfl,hlen⟩
 ·exact h2.elim
 ·have h2:=VS.out h2
  unfold NormL at h2
  refine ⟨_,_,OpOk.of_val fun a w ρ hf he=>?_,h2⟩
  obtain ⟨v,w',h4,h5,h6,⟨ad,rfl⟩,_⟩:=h1 L a w ρ hf he
  obtain ⟨g1,g2⟩:=hf.snoc h5 (o:=.spare ds.length) (l:=⟨0,0,0⟩) (fun b off h=>by
   obtain ⟨_,h3,h4⟩:=h
   have h4:off < 0+0:=h4
   omega) (fun j hj=>by simp at hj)
  have hfr:=g2.foot (ρ':=upd ρ L.length ⟨0,0,0⟩) rfl
  refine ⟨_,w',upd ρ L.length ⟨0,0,0⟩,h4,g1,?_,h5.grow,g2,.snoc _ _ _ _⟩
  refine .tok _ _ _ _ (by simp) (h6.keep (Ext.refl (foot ρ L) _) fun b off hb=>?_) fun n hn=>?_
  ·rcases foot_snoc hb with h | ⟨_,h3,h4⟩
   ·exact .inl h
   ·have h4:off < 0+0:=h4
    omega
  ·simp at hn
   subst hn
   refine ⟨Nat.le_refl _,fun _=>?_⟩
   rw [upd_same]
   exact .inr ⟨rfl,rfl⟩
abbrev CM:Type:=(D→Prop)→Prop
abbrev CML:Type:=(List D→Prop)→Prop
def renSl (m:Nat→Option Nat) (e:Nat) (ds:List D) (t:Option Nat) (_:CML):CM:=fun K=>match t with
 | none=>K (.sl e ds none)
 | some k=>match m k with
  | none=>K (.sl e ds none)
  | some k=>K (.sl e ds (some k))
def renOsl (m:Nat→Option Nat) (e k n off len:Nat):CM:=fun K=>match m k with
 | some k=>K (.osl e k n off len)
 | none=>K .any
def renLoc (m:Nat→Option Nat) (k o:Nat):CM:=fun K=>match m k with
 | some k=>K (.loc k o)
 | none=>K .any
def renAloc (m:Nat→Option Nat) (k n i o:Nat):CM:=fun K=>match m k with
 | some k=>K (.aloc k n i o)
 | none=>K .any
def renCloc (m:Nat→Option Nat) (k o:Nat):CM:=fun K=>match m k with
 | some k=>K (.cloc k o)
 | none=>K .any
def renTnil (m:Nat→Option Nat) (k t n:Nat):CM:=fun K=>match m k with
 | some k=>K (.tnil k t n)
 | none=>K .any
def renTosl (m:Nat→Option Nat) (t k n:Nat):CM:=fun K=>match m k with
 | some k=>K (.tosl t k n)
 | none=>K .any
def renCsl (m:Nat→Option Nat) (k o n:Nat):CM:=fun K=>match m k with
 | some k=>K (.csl k o n)
 | none=>K .any
def renMp (m:Nat→Option Nat) (k:Nat):CM:=fun K=>match m k with
 | some k=>K (.mp k)
 | none=>K .any
def renK (m:Nat→Option Nat):D→(D→Prop)→Prop:=
 @D.rec (fun _=>CM) (fun _=>CML) (fun K=>K .any) (fun k n K=>K (.int k n)) (fun b K=>K (.bool b)) (fun K=>K .tt) (fun K=>K .ff) (fun s K=>K (.str s))
  (fun _ ih K=>ih fun ds=>K (.agg ds)) (fun _ ih K=>ih fun ds=>K (.tup ds)) (fun K=>K .nilsl) (renSl m) (renOsl m) (fun K=>K .nilp) (fun cs _ K=>K (.ptr cs)) (renLoc m) (renAloc m) (renCloc m) (renTnil m) (renTosl m) (renCsl m)
  (fun K=>K .nilmap) (renMp m) (fun f _ ih K=>ih fun cs=>K (.fn f cs)) (fun K=>K .nilfn) (fun K=>K .nilif) (fun t d _ K=>K (.iface t d)) (fun K=>K []) (fun _ _ ih1 ih2 K=>ih1 fun d=>ih2 fun ds=>K (d::ds))
def renLK (m:Nat→Option Nat):List D→(List D→Prop)→Prop:=
 @D.rec_1 (fun _=>CM) (fun _=>CML) (fun K=>K .any) (fun k n K=>K (.int k n)) (fun b K=>K (.bool b)) (fun K=>K .tt) (fun K=>K .ff) (fun s K=>K (.str s))
  (fun _ ih K=>ih fun ds=>K (.agg ds)) (fun _ ih K=>ih fun ds=>K (.tup ds)) (fun K=>K .nilsl) (renSl m) (renOsl m) (fun K=>K .nilp) (fun cs _ K=>K (.ptr cs)) (renLoc m) (renAloc m) (renCloc m) (renTnil m) (renTosl m) (renCsl m)
  (fun K=>K .nilmap) (renMp m) (fun f _ ih K=>ih fun cs=>K (.fn f cs)) (fun K=>K .nilfn) (fun K=>K .nilif) (fun t d _ K=>K (.iface t d)) (fun K=>K []) (fun _ _ ih1 ih2 K=>ih1 fun d=>ih2 fun ds=>K (d::ds))
structure RenOk (m:Nat→Option Nat) (ρ:Pl) (L:List Ob) (ρ1:Pl) (L1:List Ob):Prop where
 lt:∀ k k',m k=some k'→k < L.length→k' < L1.length
 place:∀ k k',m k=some k'→k < L.length→ρ1 k'=ρ k
 cells:∀ (k k':Nat) ds1,m k=some k'→k < L.length→L1[k']?=some (.cells ds1)→∃ ds,L[k]?=some (.cells ds)
 map:∀ (k k':Nat) ds1,m k=some k'→k < L.length→L1[k']?=some (.map ds1)→∃ ds,L[k]?=some (.map ds)
 spare:∀ (k k':Nat) n,m k=some k'→k < L.length→L1[k']?=some (.spare n)→L[k]?=some (.spare n)
 arr:∀ (k k':Nat) e ds1,m k=some k'→k < L.length→L1[k']?=some (.arr e ds1)→∃ ds,L[k]?=some (.arr e ds)∧ds.length=ds1.length
def RenOf (m:Nat→Option Nat) (d d':D):Prop:=
 ∀ (w:World) (F F1:Nat→Nat→Prop) (ρ:Pl) (L:List Ob) (ρ1:Pl) (L1:List Ob) (v:Value),RenOk m ρ L ρ1 L1→(∀ b off,F1 b off→F b off) →
  Rep w F ρ L d v→Rep w F1 ρ1 L1 d' v
def RenLOf (m:Nat→Option Nat) (ds ds':List D):Prop:=ds.length=ds'.length∧∀ (i:Nat) d d',ds[i]?=some d→ds'[i]?=some d'→RenOf m d d'
theorem RepP.less {w:World} {F F1:Nat→Nat→Prop} (h:∀ b off,F1 b off→F b off) {d:D} {v:Value} (hr:RepP w F d v):RepP w F1 d v:=
 hr.keep (Ext.refl _ _) fun b off hF=>.inl (h b off hF)
theorem GOk.less {w:World} {F F1:Nat→Nat→Prop} (hr:GOk w F) (h:∀ b off,F1 b off→F b off):GOk w F1:=fun g cs hg=>⟨(hr g cs hg).1.less h,fun off hF=>(hr g cs hg).2.1 off (h _ _ hF),(hr g cs hg).2.2⟩
theorem renOf_pure {m:Nat→Option Nat} {d:D} (hd:d.flat):RenOf m d d:=
 fun w F F1 ρ L ρ1 L1 v hm hF h=>.pure _ _ ((h.pure_inv hd).less hF)
theorem renOf_any {m:Nat→Option Nat} {d:D}:RenOf m d .any:=fun w F F1 ρ L ρ1 L1 v hm hF h=>.pure _ _ (.any _)
mutual
theorem renK_eq {m:Nat→Option Nat}:∀ {d:D} {K:D→Prop},renK m d K→∃ d',RenOf m d d'∧K d'
 | .any,K,h=>⟨_,renOf_pure trivial,h⟩
 | .int _ _,K,h=>⟨_,renOf_pure trivial,h⟩
 | .bool _,K,h=>⟨_,renOf_pure trivial,h⟩
 | .tt,K,h=>⟨_,renOf_pure trivial,h⟩
 | .ff,K,h=>⟨_,renOf_pure trivial,h⟩
 | .str _,K,h=>⟨_,renOf_pure trivial,h⟩
 | .nilsl,K,h=>⟨_,renOf_pure trivial,h⟩
 | .nilp,K,h=>⟨_,renOf_pure trivial,h⟩
 | .ptr _,K,h=>⟨_,renOf_pure trivial,h⟩
 | .nilmap,K,h=>⟨_,renOf_pure trivial,h⟩
 | .nilfn,K,h=>⟨_,renOf_pure trivial,h⟩
 | .nilif,K,h=>⟨_,renOf_pure trivial,h⟩
 | .iface _ _,K,h=>⟨_,renOf_pure trivial,h⟩
 | .sl e ds none,K,h=>⟨.sl e ds none,fun w F F1 ρ L ρ1 L1 v hm hF h=>.pure _ _ (h.sl_inv.less hF),h⟩
 | .sl e ds (some k),K,h=>by
  have h:K (.sl e ds (m k)):=by
   change (match m k with | none=>K (.sl e ds none) | some k=>K (.sl e ds (some k))) at h
   split at h
   ·rename_i hm;rw [hm];exact h
   ·rename_i hm;rw [hm];exact h
  refine ⟨_,fun w F F1 ρ L ρ1 L1 v hm hF h=>?_,h⟩
  cases h with
  | pure _ _ h=>cases h
  | tok _ _ _ _ hk h hmm=>
   cases hmk:m k with
   | none=>exact .pure _ _ (h.less hF)
   | some k'=>
    refine .tok _ _ _ _ (hm.lt _ _ hmk hk) (h.less hF) fun n hn=>?_
    rw [hm.place _ _ hmk hk]
    exact hmm n (hm.spare _ _ _ hmk hk hn)
 | .osl e k n off len,K,h=>by
  change renOsl m e k n off len K at h
  unfold renOsl at h
  split at h
  ·rename_i k' hmk
   refine ⟨_,fun w F F1 ρ L ρ1 L1 v hm hF h=>?_,h⟩
   obtain ⟨a,cap,rfl,hk,hlc,hmm⟩:=h.osl_inv
   refine .osl _ _ _ _ _ _ _ (hm.lt _ _ hmk hk) hlc fun e' ds' hd=>?_
   obtain ⟨ds,h1,h2⟩:=hm.arr _ _ _ _ hmk hk hd
   rw [hm.place _ _ hmk hk,← h2]
   exact hmm _ _ h1
  ·exact ⟨_,renOf_any,h⟩
 | .loc k o,K,h=>by
  change renLoc m k o K at h
  unfold renLoc at h
  split at h
  ·rename_i k' hmk
   refine ⟨_,fun w F F1 ρ L ρ1 L1 v hm hF h=>?_,h⟩
   obtain ⟨a,rfl,hk,hmm⟩:=h.loc_inv
   refine .loc _ _ _ (hm.lt _ _ hmk hk) fun ds' hd=>?_
   obtain ⟨ds,h1⟩:=hm.cells _ _ _ hmk hk hd
   rw [hm.place _ _ hmk hk]
   exact hmm _ h1
  ·exact ⟨_,renOf_any,h⟩
 | .tnil k t n,K,h=>by
  change renTnil m k t n K at h
  unfold renTnil at h
  split at h
  ·rename_i k' hmk
   refine ⟨_,fun w F F1 ρ L ρ1 L1 v hm hF h=>?_,h⟩
   obtain ⟨rfl,hk,hmm⟩:=h.tnil_inv
   refine .tnil _ _ _ (hm.lt _ _ hmk hk) fun ds' hd=>?_
   obtain ⟨ds,h1⟩:=hm.cells _ _ _ hmk hk hd
   rw [hm.place _ _ hmk hk]
   exact hmm _ h1
  ·exact ⟨_,renOf_any,h⟩
 | .tosl t k n,K,h=>by
  change renTosl m t k n K at h
  unfold renTosl at h
  split at h
  ·rename_i k' hmk
   refine ⟨_,fun w F F1 ρ L ρ1 L1 v hm hF h=>?_,h⟩
   obtain ⟨a,cap,rfl,hk,hlc,hmm⟩:=h.tosl_inv
   refine .tosl _ _ _ _ _ (hm.lt _ _ hmk hk) hlc fun e' ds' hd=>?_
   obtain ⟨ds,h1,h2⟩:=hm.arr _ _ _ _ hmk hk hd
   rw [hm.place _ _ hmk hk,← h2]
   exact hmm _ _ h1
  ·exact ⟨_,renOf_any,h⟩
 | .csl k o n,K,h=>by
  change renCsl m k o n K at h
  unfold renCsl at h
  split at h
  ·rename_i k' hmk
   refine ⟨_,fun w F F1 ρ L ρ1 L1 v hm hF h=>?_,h⟩
   obtain ⟨a,cap,rfl,hk,hlc,hmm⟩:=h.csl_inv
   refine .csl _ _ _ _ _ (hm.lt _ _ hmk hk) hlc fun ds' hd=>?_
   obtain ⟨ds,h1⟩:=hm.cells _ _ _ hmk hk hd
   rw [hm.place _ _ hmk hk]
   exact hmm _ h1
  ·exact ⟨_,renOf_any,h⟩
 | .cloc k o,K,h=>by
  change renCloc m k o K at h
  unfold renCloc at h
  split at h
  ·rename_i k' hmk
   refine ⟨_,fun w F F1 ρ L ρ1 L1 v hm hF h=>?_,h⟩
   obtain ⟨a,rfl,hk,hmm⟩:=h.cloc_inv
   refine .cloc _ _ _ (hm.lt _ _ hmk hk) fun ds' hd=>?_
   obtain ⟨ds,h1⟩:=hm.cells _ _ _ hmk hk hd
   rw [hm.place _ _ hmk hk]
   exact hmm _ h1
  ·exact ⟨_,renOf_any,h⟩
 | .aloc k n i o,K,h=>by
  change renAloc m k n i o K at h
  unfold renAloc at h
  split at h
  ·rename_i k' hmk
   refine ⟨_,fun w F F1 ρ L ρ1 L1 v hm hF h=>?_,h⟩
   obtain ⟨a,rfl,hk,hmm⟩:=h.aloc_inv
   refine .aloc _ _ _ _ _ (hm.lt _ _ hmk hk) fun e' ds' hd=>?_
   obtain ⟨ds,h1,h2⟩:=hm.arr _ _ _ _ hmk hk hd
   rw [hm.place _ _ hmk hk,← h2]
   exact hmm _ _ h1
  ·exact ⟨_,renOf_any,h⟩
 | .mp k,K,h=>by
  change renMp m k K at h
  unfold renMp at h
  split at h
  ·rename_i k' hmk
   refine ⟨_,fun w F F1 ρ L ρ1 L1 v hm hF h=>?_,h⟩
   obtain ⟨r,rfl,hk,hmm⟩:=h.mp_inv
   refine .mp _ _ (hm.lt _ _ hmk hk) fun ds' hd=>?_
   obtain ⟨ds,h1⟩:=hm.map _ _ _ hmk hk hd
   rw [hm.place _ _ hmk hk]
   exact hmm _ h1
  ·exact ⟨_,renOf_any,h⟩
 | .agg ds,K,h=>by
  change renLK m ds fun ds=>K (.agg ds) at h
  obtain ⟨ds',⟨h1,h2⟩,h3⟩:=renLK_eq h
  refine ⟨.agg ds',fun w F F1 ρ L ρ1 L1 v hm hF h=>?_,h3⟩
  obtain ⟨vs,rfl,h4,h5⟩:=h.agg_inv
  exact .agg _ _ (h4.trans h1) fun i d v h6 h7=>by
   have hlt:i < ds.length:=by rw [h1];exact (List.getElem?_eq_some_iff.1 h6).1
   exact h2 i ds[i] d (List.getElem?_eq_getElem hlt) h6 _ _ _ _ _ _ _ _ hm hF (h5 _ _ _ (List.getElem?_eq_getElem hlt) h7)
 | .tup ds,K,h=>by
  change renLK m ds fun ds=>K (.tup ds) at h
  obtain ⟨ds',⟨h1,h2⟩,h3⟩:=renLK_eq h
  refine ⟨.tup ds',fun w F F1 ρ L ρ1 L1 v hm hF h=>?_,h3⟩
  obtain ⟨vs,rfl,h4,h5⟩:=h.tup_inv
  exact .tup _ _ (h4.trans h1) fun i d v h6 h7=>by
   have hlt:i < ds.length:=by rw [h1];exact (List.getElem?_eq_some_iff.1 h6).1
   exact h2 i ds[i] d (List.getElem?_eq_getElem hlt) h6 _ _ _ _ _ _ _ _ hm hF (h5 _ _ _ (List.getElem?_eq_getElem hlt) h7)
 | .fn f ds,K,h=>by
  change renLK m ds fun ds=>K (.fn f ds) at h
  obtain ⟨ds',⟨h1,h2⟩,h3⟩:=renLK_eq h
  refine ⟨.fn f ds',fun w F F1 ρ L ρ1 L1 v hm hF h=>?_,h3⟩
  obtain ⟨vs,rfl,h4,h5⟩:=h.fn_inv
  exact .fn _ _ _ (h4.trans h1) fun i d v h6 h7=>by
   have hlt:i < ds.length:=by rw [h1];exact (List.getElem?_eq_some_iff.1 h6).1
   exact h2 i ds[i] d (List.getElem?_eq_getElem hlt) h6 _ _ _ _ _ _ _ _ hm hF (h5 _ _ _ (List.getElem?_eq_getElem hlt) h7)
theorem renLK_eq {m:Nat→Option Nat}:∀ {ds:List D} {K:List D→Prop},renLK m ds K→∃ ds',RenLOf m ds ds'∧K ds'
 | [],K,h=>⟨[],⟨rfl,by simp⟩,h⟩
 | d::ds,K,h=>by
  change (renK m d fun d=>renLK m ds fun ds=>K (d::ds)) at h
  obtain ⟨d',h1,h2⟩:=renK_eq h
  obtain ⟨ds',h3,h4⟩:=renLK_eq h2
  refine ⟨d'::ds',⟨by simp [h3.1],fun i a b ha hb=>?_⟩,h4⟩
  cases i with
  | zero=>simp at ha hb;subst ha;subst hb;exact h1
  | succ i=>exact h3.2 i a b (by simpa using ha) (by simpa using hb)
end
def RepL (w:World) (F:Nat→Nat→Prop) (ρ:Pl) (L:List Ob) (as:List D) (vs:List Value):Prop:=
 vs.length=as.length∧∀ (i:Nat) d v,as[i]?=some d→vs[i]?=some v→Rep w F ρ L d v
abbrev Spec:=List D→List Ob→D→List Ob→Prop
def Callable (P : Program) (f : FuncId) : Prop := ∃ fn, P.funcs[f]? = some fn ∧ (fn.name == "runtime.NumGoroutine") = false ∧ fn.body.isNone = false
def Meets (P:Program) (f:FuncId) (spec:Spec):Prop:=
 Callable P f∧∀ as L d L',spec as L d L'→∀ (w:World) (ρ:Pl) (vs:List Value),Fits w ρ L→RepL w (foot ρ L) ρ L as vs →
  Calls P f vs.toArray w fun e w'=>∃ v ρ',e= .returned v∧Post w ρ L d L' v w' ρ'
theorem rep_nil {w:World} {F:Nat→Nat→Prop} {ρ:Pl} {d:D} {v:Value} (h:Rep w F ρ [] d v):RepP w F d v:=by
 generalize hL:([]:List Ob)=L at h
 induction h with
 | pure _ _ h=>exact h
 | agg ds vs hl _ ih=>exact .agg _ _ hl ih
 | tup ds vs hl _ ih=>exact .tup _ _ hl ih
 | fn f ds vs hl _ ih=>exact .fn _ _ _ hl ih
 | tok _ _ _ _ hk=>subst hL;simp at hk
 | osl _ _ _ _ _ _ _ hk=>subst hL;simp at hk
 | loc _ _ _ hk=>subst hL;simp at hk
 | aloc _ _ _ _ _ hk=>subst hL;simp at hk
 | cloc _ _ _ hk=>subst hL;simp at hk
 | tnil _ _ _ hk=>subst hL;simp at hk
 | tosl _ _ _ _ _ hk=>subst hL;simp at hk
 | csl _ _ _ _ _ hk=>subst hL;simp at hk
 | mp _ _ hk=>subst hL;simp at hk
theorem pureCall {P:Program} {f:FuncId} {spec:Spec} (h:Meets P f spec) {as:List D} {d:D} (hs:spec as [] d []) {w:World} {ρ:Pl} {L:List Ob} {vs:List Value}
  (hf:Fits w ρ L) (hl:vs.length=as.length) (hr:∀ (i:Nat) d v,as[i]?=some d→vs[i]?=some v→RepP w (foot ρ L) d v) :
  Calls P f vs.toArray w fun e w'=>∃ v,e= .returned v∧Ext F0 w w'∧RepP w' (foot ρ L) d v:=by
 have hfoot:∀ (ρ1:Pl),ρ1.hid=foot ρ L→∀ b off,foot ρ1 [] b off↔foot ρ L b off:=by
  intro ρ1 h1 b off
  constructor
  ·rintro (⟨k,o,hk,_⟩ | h)
   ·simp at hk
   ·rwa [h1] at h
  ·intro h
   exact .inr (by rwa [h1])
 refine (h.2 as [] d [] hs w ⟨ρ.place,foot ρ L⟩ vs ⟨hf.glob.less fun b off h=>(hfoot ⟨ρ.place,foot ρ L⟩ rfl b off).1 h,fun b off h=>hf.foot_lt h,fun b off ⟨k,o,hk,_⟩=>by simp at hk,by simp,by simp⟩ ⟨hl,fun i d v h1 h2=>.pure _ _ ((hr i d v h1 h2).less fun b off h=>(hfoot ⟨ρ.place,foot ρ L⟩ rfl b off).1 h)⟩).mono ?_
 rintro e w' ⟨v,ρ',he,hp⟩
 refine ⟨v,he,hp.ext.mono fun b off _ h=>?_,(rep_nil hp.rep).less fun b off h=>(hfoot ρ' hp.compat.hid b off).2 h⟩
 obtain ⟨k,o,hk,_⟩:=h
 simp at hk
def EqS (P:Program) (t:Nat) (xs ys:List D) (K:Bool→Prop):Prop:=
 P.eqGuardType P.depth t=false∧∃ b,(∀ (w:World) (F:Nat→Nat→Prop) (ρ:Pl) (L:List Ob) (us vs:List Value),us.length=xs.length→vs.length=ys.length →
  (∀ (i:Nat) d v,xs[i]?=some d→us[i]?=some v→Rep w F ρ L d v)→(∀ (i:Nat) d v,ys[i]?=some d→vs[i]?=some v→Rep w F ρ L d v) →
  (Op.equalIn 10000 t (.agg us.toArray) (.agg vs.toArray)).run P w= .ok b w)∧K b
def boolB:D→Option Bool
 | .bool b=>some b
 | .tt=>some true
 | .ff=>some false
 | _=>none
def eqvK (op:BinOp) (b:Bool) (K:D→Prop):Prop:=
 match op with
 | .eql=>K (.bool b)
 | .neq=>K (.bool (!b))
 | _=>False
def cmpK (P:Program) (T:Tab) (op:BinOp) (t:Nat) (x y:D) (K:D→Prop):Prop:=
 match x with
 | .agg xs=>match y with
  | .agg ys=>match op with
   | .eql=>VS (EqS P t xs ys fun b=>K (.bool b))
   | .neq=>VS (EqS P t xs ys fun b=>K (.bool (!b)))
   | _=>False
  | _=>False
 | _=>match ty T t with
  | some i=>match i.d with
   | .bool=>match boolB x with
    | some a=>match boolB y with
     | some b=>eqvK op (a==b) K
     | none=>False
    | none=>False
   | _=>False
  | none=>False
def binTK (P:Program) (T:Tab) (op:BinOp) (t:Nat) (x y:D) (K:D→Prop):Prop:=
 match x with
 | .int k a=>binK op (.int k a) y K
 | .str s=>binK op (.str s) y K
 | x=>cmpK P T op t x y K
theorem boolB_inv {d:D} {b:Bool} (h:boolB d=some b) {w:World} {F:Nat→Nat→Prop} {ρ:Pl} {L:List Ob} {v:Value} (hr:Rep w F ρ L d v):v= .bool b:=by
 cases d<;>simp only [boolB] at h<;>cases h
 ·exact hr.bool_inv
 ·exact hr.tt_inv
 ·exact hr.ff_inv
theorem under_bool {P:Program} {t:Nat} {i:TI} (hi:TIOk P t i) (h:i.d= .bool):P.underlying t=some .bool:=by
 obtain ⟨d,h1,h2⟩:=hi.under
 rw [h] at h2
 cases d<;>simp [tdOf] at h2
 exact h1
theorem binTK_sound {P:Program} {T:Tab} (hT:TabOk P T) {op:BinOp} {t t':TypeId} {x y:Operand} {σ:List (Nat×D)} {K:D→Prop} {o:Oper} (ho:o.op= .binOp op t x y t')
  (h:binTK P T op t (evalD σ x) (evalD σ y) K):∃ d,(∀ L,OpOk P o σ L d L)∧K d:=by
 unfold binTK at h
 split at h
 ·rename_i k a hx
  rw [← hx] at h
  exact binK_sound ho h
 ·rename_i s hx
  rw [← hx] at h
  exact binK_sound ho h
 ·unfold cmpK at h
  split at h
  ·rename_i xs hx
   split at h<;>try exact h.elim
   rename_i ys hy
   have core:∀ (b:Bool),(∀ (w:World) (F:Nat→Nat→Prop) (ρ:Pl) (L:List Ob) (us vs:List Value),us.length=xs.length→vs.length=ys.length →
     (∀ (i:Nat) d v,xs[i]?=some d→us[i]?=some v→Rep w F ρ L d v)→(∀ (i:Nat) d v,ys[i]?=some d→vs[i]?=some v→Rep w F ρ L d v) →
     (Op.equalIn 10000 t (.agg us.toArray) (.agg vs.toArray)).run P w= .ok b w)→P.eqGuardType P.depth t=false →
     ∀ (a:Act) (w:World) (ρ:Pl) (L:List Ob),Env w ρ L σ a→∃ us vs:Array Value,a.eval x= .agg us∧a.eval y= .agg vs∧(eqGuard op t x y (.agg us) (.agg vs)).run P w= .ok () w ∧
      (Op.equalIn 10000 t (.agg us) (.agg vs)).run P w= .ok b w:=by
    intro b hb hg a w ρ L he
    have h1:=he.eval x
    have h2:=he.eval y
    rw [hx] at h1
    rw [hy] at h2
    obtain ⟨us,e1,l1,r1⟩:=h1.agg_inv
    obtain ⟨vs,e2,l2,r2⟩:=h2.agg_inv
    exact ⟨_,_,e1,e2,run_eqGuard_agg w op t x y _ _ hg,hb w _ ρ L us vs l1 l2 r1 r2⟩
   split at h<;>try exact h.elim
   ·obtain ⟨hg,b,hb,hK⟩:=h.out
    refine ⟨_,OpOk.of_pure fun a w ρ L hf he=>?_,hK⟩
    obtain ⟨us,vs,e1,e2,e3,e4⟩:=core b hb hg a w ρ L he
    refine ⟨.bool b,?_,.pure _ _ (.bool _)⟩
    simp only [execOp,ho,e1,e2,Sem.run_bind,e3,Result.andThen_ok,run_eql_struct,e4,Result.andThen,Sem.run_map,Sem.run_pure]
   ·obtain ⟨hg,b,hb,hK⟩:=h.out
    refine ⟨_,OpOk.of_pure fun a w ρ L hf he=>?_,hK⟩
    obtain ⟨us,vs,e1,e2,e3,e4⟩:=core b hb hg a w ρ L he
    refine ⟨.bool (!b),?_,.pure _ _ (.bool _)⟩
    simp only [execOp,ho,e1,e2,Sem.run_bind,e3,Result.andThen_ok,run_neq_struct,e4,Result.andThen,Sem.run_map,Sem.run_pure]
  ·split at h<;>try exact h.elim
   rename_i i hi
   have hi:=hT _ _ hi
   split at h<;>try exact h.elim
   rename_i hd
   have hu:=under_bool hi hd
   split at h<;>try exact h.elim
   rename_i a ha
   split at h<;>try exact h.elim
   rename_i b hb
   have ev:∀ {act:Act} {w ρ L},Env w ρ L σ act→act.eval x= .bool a∧act.eval y= .bool b:=fun he=>⟨boolB_inv ha (he.eval x),boolB_inv hb (he.eval y)⟩
   have hgd:∀ (op:BinOp) (w:World),(eqGuard op t x y (.bool a) (.bool b)).run P w= .ok () w:=fun op w=>by
    unfold eqGuard
    cases op<;>rfl
   unfold eqvK at h
   split at h<;>try exact h.elim
   ·refine ⟨_,OpOk.of_pure fun act w ρ L hf he=>?_,h⟩
    obtain ⟨e1,e2⟩:=ev he
    refine ⟨.bool (a==b),?_,.pure _ _ (.bool _)⟩
    simp [execOp,ho,e1,e2,hgd,binOp,Op.equal,Op.maxDepth,run_equalIn_bool w 9999 t a b hu]
   ·refine ⟨_,OpOk.of_pure fun act w ρ L hf he=>?_,h⟩
    obtain ⟨e1,e2⟩:=ev he
    refine ⟨.bool (!(a==b)),?_,.pure _ _ (.bool _)⟩
    simp [execOp,ho,e1,e2,hgd,binOp,Op.equal,Op.maxDepth,run_equalIn_bool w 9999 t a b hu]
inductive CK where
 | int (k:IntKind)
 | str
 | bool
def fldsB (P:Program):List Field→Nat→List CK→Bool
 | [],_,[]=>true
 | f :: fs, n, k :: ks => (f.name != "_") && (Nat.beq f.offset n) && (match P.underlying f.type, k with
  | some (.int q),.int k=>kindEq q k
  | some .string,.str=>true
  | some .bool,.bool=>true
  | _,_=>false) && fldsB P fs (n+1) ks
 | _,_,_=>false
def structB (P:Program) (t:Nat) (ks:List CK):Bool:=
 (P.eqGuardType P.depth t==false) && (P.stoodInHeld t==false) && (match P.underlying t with
   | some (.struct fs)=>fldsB P fs.toList 0 ks
   | _=>false)
def scalB:CK→D→D→Option Bool
 | .int k,.int k1 a,.int k2 b=>match kindEq k k1 with
  | true=>match kindEq k k2 with
   | true=>some (a==b)
   | false=>none
  | false=>none
 | .str,.str s,.str t=>some (s==t)
 | .bool,a,b=>match boolB a with
  | some a=>match boolB b with
   | some b=>some (a==b)
   | none=>none
  | none=>none
 | _,_,_=>none
def cellsB:List CK→List D→List D→Option Bool
 | [],[],[]=>some true
 | k::ks,x::xs,y::ys=>match scalB k x y with
  | some b=>match cellsB ks xs ys with
   | some r=>some (b && r)
   | none=>none
  | none=>none
 | _,_,_=>none
theorem eqFields_flat {P:Program} (d:Nat):∀ (fs:List Field) (n:Nat) (ks:List CK) (xs ys:List D) (b:Bool) (us vs:Array Value),fldsB P fs n ks=true→cellsB ks xs ys=some b →
  ∀ (w:World) (F:Nat→Nat→Prop) (ρ:Pl) (L:List Ob),(∀ (i:Nat) d,xs[i]?=some d→∃ v,us[n+i]?=some v∧Rep w F ρ L d v)→(∀ (i:Nat) d,ys[i]?=some d→∃ v,vs[n+i]?=some v∧Rep w F ρ L d v) →
  (Op.eqFields (d+1) us vs fs).run P w= .ok b w
 | [],n,[],[],[],b,us,vs,_,h,w,F,ρ,L,_,_=>by
  simp only [cellsB] at h
  cases h
  simp [Op.eqFields]
 | [],n,k::ks,xs,ys,b,us,vs,h,_,w,F,ρ,L,_,_=>by simp [fldsB] at h
 | f::fs,n,[],xs,ys,b,us,vs,h,_,w,F,ρ,L,_,_=>by simp [fldsB] at h
 | [],n,[],x::xs,ys,b,us,vs,_,h,w,F,ρ,L,_,_=>by simp [cellsB] at h
 | [],n,[],[],y::ys,b,us,vs,_,h,w,F,ρ,L,_,_=>by simp [cellsB] at h
 | f::fs,n,k::ks,[],ys,b,us,vs,_,h,w,F,ρ,L,_,_=>by simp [cellsB] at h
 | f::fs,n,k::ks,x::xs,[],b,us,vs,_,h,w,F,ρ,L,_,_=>by simp [cellsB] at h
 | f::fs,n,k::ks,x::xs,y::ys,b,us,vs,h,hb,w,F,ρ,L,hu,hv=>by
  simp only [fldsB,Bool.and_eq_true,bne_iff_ne] at h
  obtain ⟨⟨⟨h1,h2⟩,h3⟩,h4⟩:=h
  have h2:=Nat.eq_of_beq_eq_true h2
  simp only [cellsB] at hb
  split at hb<;>try cases hb
  rename_i b1 hs
  split at hb<;>try cases hb
  rename_i b2 hr
  obtain ⟨u,u1,u2⟩:=hu 0 x rfl
  obtain ⟨v,v1,v2⟩:=hv 0 y rfl
  have rest:=eqFields_flat d fs (n+1) ks xs ys b2 us vs h4 hr w F ρ L (fun i d hd=>by
   obtain ⟨v,g1,g2⟩:=hu (i+1) d (by simpa using hd)
   exact ⟨v,by rw [← g1];congr 1;omega,g2⟩) (fun i d hd=>by
   obtain ⟨v,g1,g2⟩:=hv (i+1) d (by simpa using hd)
   exact ⟨v,by rw [← g1];congr 1;omega,g2⟩)
  have p:∀ (q:TypeDesc) (cs:Array Value) (v:Value),P.underlying f.type=some q→(match q with | .int _ | .string | .bool=>True | _=>False)→cs[n]?=some v→(part f.type cs f.offset).run P w= .ok v w:=fun q cs v hk hq hv=>by
   have:(isAgg f.type).run P w= .ok false w:=by cases q<;>simp [isAgg,run_underlying hk] at hq ⊢
   rw [h2]
   simp [part,this,hv]
  have key:∃ q,P.underlying f.type=some q∧(match q with | .int _ | .string | .bool=>True | _=>False)∧(Op.equalIn (d+1) f.type u v).run P w= .ok b1 w:=by
   split at h3<;>try cases h3
   ·rename_i q k' hq
    have h3:=kindEq_eq h3
    subst h3
    refine ⟨_,hq,trivial,?_⟩
    cases x<;>simp only [scalB] at hs<;>try cases hs
    cases y<;>simp only [scalB] at hs<;>try cases hs
    split at hs<;>try cases hs
    rename_i e1
    split at hs<;>try cases hs
    rename_i e2
    rw [← kindEq_eq e1] at u2
    rw [← kindEq_eq e2] at v2
    rw [u2.int_inv,v2.int_inv]
    exact run_equalIn_int w d f.type _ _ _ _ hq
   ·rename_i hq
    refine ⟨_,hq,trivial,?_⟩
    cases x<;>simp only [scalB] at hs<;>try cases hs
    cases y<;>simp only [scalB] at hs<;>try cases hs
    rw [u2.str_inv,v2.str_inv,run_equalIn_string w d f.type _ _ hq,ByteArray.toList_mk,ByteArray.toList_mk]
   ·rename_i hq
    refine ⟨_,hq,trivial,?_⟩
    simp only [scalB] at hs
    split at hs<;>try cases hs
    rename_i a ha
    split at hs<;>try cases hs
    rename_i c hc
    rw [boolB_inv ha u2,boolB_inv hc v2]
    exact run_equalIn_bool w d f.type a c hq
  obtain ⟨q,hq,hq2,hkey⟩:=key
  simp only [Op.eqFields,h1,ne_eq,not_false_eq_true,if_true,Sem.run_bind]
  rw [p q us u hq hq2 (by simpa using u1)]
  simp only [Result.andThen_ok,Sem.run_bind]
  rw [p q vs v hq hq2 (by simpa using v1)]
  simp only [Result.andThen_ok,Sem.run_bind,hkey]
  cases b1
  ·simp
  ·simpa using rest
theorem eqS_flat {P:Program} {t:Nat} {xs ys:List D} {K:Bool→Prop} (ks:List CK) {b:Bool} (hst:structB P t ks=true) (hb:cellsB ks xs ys=some b) (h:K b):EqS P t xs ys K:=by
 simp only [structB,Bool.and_eq_true,beq_iff_eq] at hst
 obtain ⟨⟨h1,h2⟩,h3⟩:=hst
 split at h3<;>try cases h3
 rename_i fs hu
 refine ⟨h1,b,fun w F ρ L us vs l1 l2 r1 r2=>?_,h⟩
 have hf:P.fieldsOf t=fs:=by simp [Program.fieldsOf,hu]
 rw [show (10000:Nat)=9998+1+1 from rfl,run_equalIn_agg w (9998+1) t _ _ (by rw [hf];exact hu) h2,hf]
 refine eqFields_flat 9998 fs.toList 0 ks xs ys b _ _ h3 hb w F ρ L (fun i d hd=>?_) (fun i d hd=>?_)
 ·have hlt:i < us.length:=by rw [l1];exact (List.getElem?_eq_some_iff.1 hd).1
  exact ⟨us[i],by simp [hlt],r1 i d _ hd (List.getElem?_eq_getElem hlt)⟩
 ·have hlt:i < vs.length:=by rw [l2];exact (List.getElem?_eq_some_iff.1 hd).1
  exact ⟨vs[i],by simp [hlt],r2 i d _ hd (List.getElem?_eq_getElem hlt)⟩
def litArrK (K:D→List Ob→Prop) (L:List Ob) (d:D):Prop:=
 match d with
 | .sl e ds _=>VS (NormL ds fun r n=>K (.osl e L.length n 0 n) (L++[.arr e r]))
 | _=>False
def buildArrOp (T:Tab) (t len:Nat) (ps:List (Nat×Operand)) (σ:List (Nat×D)) (L:List Ob) (K:D→List Ob→Prop):Prop:=buildSliceOp T t len ps σ (litArrK K L)
theorem buildArr_sound {P:Program} {T:Tab} (hT:TabOk P T) {t len:Nat} {ps:Array (Nat×Operand)} {σ:List (Nat×D)} {L:List Ob} {K:D→List Ob→Prop} {o:Oper}
  (ho:o.op= .buildSlice t len ps) (h:buildArrOp T t len ps.toList σ L K):∃ d L',OpOk P o σ L d L'∧K d L':=by
 obtain ⟨d,h1,h2,h3⟩:=buildSlice_run hT ho h
 rcases h3 with rfl | ⟨e,ds,rfl,hlen⟩
 ·exact h2.elim
 ·have h2:=VS.out h2
  unfold NormL at h2
  refine ⟨_,_,OpOk.of_val fun a w ρ hf he=>?_,h2⟩
  obtain ⟨v,w',h4,h5,h6,_,h7⟩:=h1 L a w ρ hf he
  obtain ⟨row,t',rfl,rfl,h8,h9,h10⟩:=h7 e ds rfl
  exact ⟨_,_,_,h4,newArr_post hf (Ext.alloc _ _) (Nat.le_refl _) h9 (Nat.le_refl _)
   (fun i d j c hi hj=>by
     obtain ⟨u,h11,h12⟩:=h10 i d j c hi hj
     exact ⟨u,by rw [World.cell?_alloc_new];exact h11,.pure _ _ h12⟩)
   (fun j hj=>alloc_all w row t' j (by rw [h8];exact hj))⟩
theorem shape_freeze {w:World} {b:Nat} {s:TypeId×Nat} (h:w.shape? b=some s) (a:Addr) (n:Nat):(w.freeze a n).shape? b=some s:=by
 unfold World.freeze
 split
 ·exact h
 unfold World.shape? at h ⊢
 dsimp only
 rw [Array.getElem?_modify]
 by_cases hb:a.block=b
 ·rw [if_pos hb]
  split at h
  ·rename_i c e z hc
   rw [hc]
   dsimp only [Option.map]
   cases h
   rfl
  ·cases h
 ·rw [if_neg hb]
  exact h
theorem freeze_facts {w:World} {b:Nat} {row:Array Value} {t:TypeId} {lo hi:Nat} (hb:w.heap[b]?=some (.cells row t (lo,hi))) (hc:lo=hi∨row.size≤lo) :
  (w.freeze ⟨b,row.size,none⟩ 1).heap.size=w.heap.size∧(∀ b',b'≠b→(w.freeze ⟨b,row.size,none⟩ 1).heap[b']?=w.heap[b']?) ∧
  (∀ b' x,(w.freeze ⟨b,row.size,none⟩ 1).cell? ⟨b',x,none⟩=w.cell? ⟨b',x,none⟩) ∧
  ∀ b' x v,w.cell? ⟨b',x,none⟩=some v→Soft w b' x→Soft (w.freeze ⟨b,row.size,none⟩ 1) b' x:=by
 obtain ⟨lo',hi',h0,h1⟩:∃ lo' hi',row.size≤lo'∧(w.freeze ⟨b,row.size,none⟩ 1).heap[b]?=some (.cells row t (lo',hi')):=by
  unfold World.freeze
  rw [if_neg (by decide)]
  simp only [Array.getElem?_modify,if_true,hb,Option.map_some]
  split
  ·exact ⟨_,_,Nat.le_refl _,rfl⟩
  ·rename_i hne
   refine ⟨_,_,?_,rfl⟩
   rcases hc with h | h
   ·simp [h] at hne
   ·omega
 have hne:∀ b',b'≠b→(w.freeze ⟨b,row.size,none⟩ 1).heap[b']?=w.heap[b']?:=fun b' h=>by
  unfold World.freeze
  rw [if_neg (by decide)]
  simp only [Array.getElem?_modify]
  rw [if_neg (fun e=>h e.symm)]
 refine ⟨by unfold World.freeze;rw [if_neg (by decide)];simp,hne,fun b' x=>?_,fun b' x v hv hs=>?_⟩
 ·unfold World.cell?
  by_cases h:b'=b
  ·subst h;simp only [h1,hb]
  ·simp only [hne b' h]
 ·by_cases h:b'=b
  ·subst h
   refine ⟨?_,fun r t2 l2 h2 hr=>?_⟩
   ·unfold World.frozen?
    simp only [h1]
    unfold World.cell? at hv
    simp only [hb] at hv
    have hx:x < row.size:=by
     rcases Nat.lt_or_ge x row.size with h | h
     ·exact h
     ·simp [Array.getElem?_eq_none h] at hv
    simp
    omega
   ·rw [h1] at hr
    cases hr
    exact .inr h0
  ·refine ⟨?_,fun r t2 l2 h2 hr=>?_⟩
   ·have:=hs.1
    unfold World.frozen? at this ⊢
    simp only [hne b' h]
    exact this
   ·rw [hne b' h] at hr
    exact hs.2 _ _ _ _ hr
def allInt:List D→Bool
 | []=>true
 | .int _ _::ds=>allInt ds
 | _=>false
theorem allInt_mem:∀ {ds:List D},allInt ds=true→∀ (i:Nat) d,ds[i]?=some d→∃ k n,d= .int k n
 | [],_,i,d,h=>by simp at h
 | a::ds,h,i,d,hd=>by
  cases a<;>simp only [allInt] at h<;>try cases h
  rename_i k n
  cases i with
  | zero=>simp at hd;exact ⟨k,n,hd.symm⟩
  | succ i=>exact allInt_mem h i d (by simpa using hd)
theorem give_up {w:World} {ρ:Pl} {L:List Ob} (hf:Fits w ρ L) {k e:Nat} {els:List D} (hk:L[k]?=some (.arr e els)) (hall:allInt els=true) (he:0 < e) {cap:Nat} (hcap:els.length≤cap) :
  Fits w ρ (L.set k .dead)∧RepP w (foot ρ (L.set k .dead)) (.sl e els none) (.slice (some ⟨(ρ k).block,(ρ k).off,none⟩) els.length cap)∧Fresh w (own ρ L) (own ρ (L.set k .dead))∧Compat ρ L ρ (L.set k .dead):=by
 have hkl:k < L.length:=(List.getElem?_eq_some_iff.1 hk).1
 obtain ⟨o1,o2,o3,o4⟩:=hf.obj k _ hk
 have hc:Compat ρ L ρ (L.set k .dead):=by
  refine ⟨rfl,by simp,fun j ds hj h=>?_,fun j ds hj h=>?_,fun j n hj h=>?_,fun j e' ds hj h=>?_⟩
  all_goals
   rcases set_get h with ⟨_,h2⟩ | ⟨_,h2⟩
   ·cases h2
   ·first
     | exact ⟨_,h2,rfl⟩
     | exact ⟨_,h2,Nat.le_refl _,fun _=>rfl⟩
 have hown:∀ b off,own ρ (L.set k .dead) b off→own ρ L b off∧¬ Ob.owns (.arr e els) (ρ k) b off:=by
  rintro b off ⟨j,o,h1,h2⟩
  rcases set_get h1 with ⟨_,h4⟩ | ⟨h3,h4⟩
  ·subst h4;exact h2.elim
  ·exact ⟨⟨j,o,h4,h2⟩,fun h=>h3 (hf.disj _ _ _ _ _ _ h4 hk h2 h)⟩
 have hfr:Fresh w (own ρ L) (own ρ (L.set k .dead)):=fun b off h=>.inl (hown b off h).1
 have hff:=hfr.foot (ρ':=ρ) rfl
 have hfits:Fits w ρ (L.set k .dead):=by
  refine hf.change F0 (fun _ _ h=>h.elim) (Ext.refl _ _) hc hfr (fun j j' x x' b off h1 h2 h3 h4=>?_) (fun j o hj=>?_)
  ·rcases set_get h1 with ⟨_,g⟩ | ⟨_,g⟩
   ·subst g;exact h3.elim
   ·rcases set_get h2 with ⟨_,g'⟩ | ⟨_,g'⟩
    ·subst g';exact h4.elim
    ·exact hf.disj _ _ _ _ _ _ g g' h3 h4
  ·rcases set_get hj with ⟨_,h2⟩ | ⟨h2,h3⟩
   ·subst h2;exact .inr trivial
   ·exact .inl ⟨(List.getElem?_eq_some_iff.1 h3).1,h3,rfl,fun _ _ _ h=>h⟩
 refine ⟨hfits,?_,hfr,hc⟩
 obtain ⟨vs,p1,p2,p3⟩:=flat_rep (w:=w) (R:=Rep w (foot ρ L) ρ L) (b:=(ρ k).block) (off:=(ρ k).off) he o2 o3
 have hint:∀ (i:Nat) d (j:Nat) c,els[i]?=some d→d.cells[j]?=some c→∃ q n,c= .int q n:=fun i d j c hi hj=>by
  obtain ⟨q,n,rfl⟩:=allInt_mem hall i d hi
  cases j with
  | zero=>simp [D.cells] at hj;exact ⟨q,n,hj.symm⟩
  | succ j=>simp [D.cells] at hj
 refine rows_sl (vs:=vs) hcap o2 ⟨p1,fun v hv=>?_,fun i d j c hi hj=>?_⟩ fun q v hq=>⟨p2 q v hq,fun hF=>?_⟩
 ·obtain ⟨q,hq⟩:=List.getElem?_of_mem hv
  have hql:q < els.length * e:=by rw [← p1];exact (List.getElem?_eq_some_iff.1 hq).1
  have h1:q / e < els.length:=Nat.div_lt_of_lt_mul (by rwa [Nat.mul_comm])
  have h2:q % e < e:=Nat.mod_lt _ he
  have hl:=o2 _ _ (List.getElem?_eq_getElem h1)
  obtain ⟨u,h3,h4⟩:=p3 (q / e) _ (q % e) _ (List.getElem?_eq_getElem h1) (List.getElem?_eq_getElem (by rw [hl];exact h2))
  rw [Nat.mul_comm,Nat.div_add_mod,hq] at h3
  cases h3
  obtain ⟨q',n',hc'⟩:=hint _ _ _ _ (List.getElem?_eq_getElem h1) (List.getElem?_eq_getElem (by rw [hl];exact h2))
  rw [hc'] at h4
  rw [h4.int_inv]
  rfl
 ·obtain ⟨u,h3,h4⟩:=p3 i d j c hi hj
  obtain ⟨q',n',rfl⟩:=hint i d j c hi hj
  exact ⟨u,h3,by rw [h4.int_inv];exact .int _ _⟩
 ·have hql:q < els.length * e:=by rw [← p1];exact (List.getElem?_eq_some_iff.1 hq).1
  have ho:Ob.owns (.arr e els) (ρ k) (ρ k).block ((ρ k).off+q):=⟨rfl,by omega,by omega⟩
  rcases hF with h | h
  ·exact (hown _ _ h).2 ho
  ·exact hf.sep _ _ ⟨k,_,hk,ho⟩ h
theorem give_tok {w:World} {ρ:Pl} {L:List Ob} (hf:Fits w ρ L) {k e:Nat} {els:List D} (hk:L[k]?=some (.arr e els)) (hall:allInt els=true) (he:0 < e) {cap:Nat} (hcap:els.length≤cap) (hroom:cap * e=(ρ k).cap) :
  Fits w (upd ρ L.length ⟨(ρ k).block,(ρ k).off+els.length * e,(cap - els.length) * e⟩) (L.set k .dead++[.spare els.length]) ∧
  Rep w (foot (upd ρ L.length ⟨(ρ k).block,(ρ k).off+els.length * e,(cap - els.length) * e⟩) (L.set k .dead++[.spare els.length])) (upd ρ L.length ⟨(ρ k).block,(ρ k).off+els.length * e,(cap - els.length) * e⟩) (L.set k .dead++[.spare els.length])
   (.sl e els (some L.length)) (.slice (some ⟨(ρ k).block,(ρ k).off,none⟩) els.length cap) ∧
  Fresh w (own ρ L) (own (upd ρ L.length ⟨(ρ k).block,(ρ k).off+els.length * e,(cap - els.length) * e⟩) (L.set k .dead++[.spare els.length])) ∧
  Compat ρ L (upd ρ L.length ⟨(ρ k).block,(ρ k).off+els.length * e,(cap - els.length) * e⟩) (L.set k .dead++[.spare els.length]):=by
 have hkl:k < L.length:=(List.getElem?_eq_some_iff.1 hk).1
 obtain ⟨o1,o2,o3,o4⟩:=hf.obj k _ hk
 have hroom':els.length * e+(cap - els.length) * e=(ρ k).cap:=by rw [← Nat.add_mul,← hroom];congr 1;omega
 generalize hl:(⟨(ρ k).block,(ρ k).off+els.length * e,(cap - els.length) * e⟩:Loc)=l'
 have hlen:(L.set k .dead).length=L.length:=by simp
 have hget:∀ {j:Nat} {x:Ob},(L.set k .dead++[.spare els.length])[j]?=some x→(j=k∧x= .dead)∨(j≠k∧L[j]?=some x∧j < L.length)∨(j=L.length∧x= .spare els.length):=by
  intro j x h
  rcases snoc_get h with ⟨h1,h2⟩ | ⟨h1,h2⟩
  ·rcases set_get h2 with ⟨h3,h4⟩ | ⟨h3,h4⟩
   ·exact .inl ⟨h3,h4⟩
   ·exact .inr (.inl ⟨h3,h4,by rwa [hlen] at h1⟩)
  ·exact .inr (.inr ⟨by rw [h1,hlen],h2.symm⟩)
 have hc:Compat ρ L (upd ρ L.length l') (L.set k .dead++[.spare els.length]):=by
  refine ⟨rfl,by simp,fun j ds hj h=>?_,fun j ds hj h=>?_,fun j n hj h=>?_,fun j e' ds hj h=>?_⟩
  all_goals
   rcases hget h with ⟨_,h2⟩ | ⟨_,h2,_⟩ | ⟨h1,_⟩
   ·cases h2
   ·first
     | exact ⟨_,h2,upd_ne (by omega)⟩
     | exact ⟨_,h2,Nat.le_refl _,fun _=>upd_ne (by omega)⟩
   ·omega
 have hspare:∀ b off,Ob.owns (.spare els.length) l' b off→Ob.owns (.arr e els) (ρ k) b off∧(ρ k).off+els.length * e≤off:=by
  rintro b off ⟨h1,h2,h3⟩
  subst hl
  exact ⟨⟨h1,by dsimp only at h2;omega,by dsimp only at h3;omega⟩,h2⟩
 have hown:∀ b off,own (upd ρ L.length l') (L.set k .dead++[.spare els.length]) b off→own ρ L b off∧(Ob.owns (.arr e els) (ρ k) b off→(ρ k).off+els.length * e≤off):=by
  rintro b off ⟨j,o,h1,h2⟩
  rcases hget h1 with ⟨_,h4⟩ | ⟨h3,h4,h5⟩ | ⟨h3,h4⟩
  ·subst h4;exact h2.elim
  ·rw [upd_ne (by omega)] at h2
   exact ⟨⟨j,o,h4,h2⟩,fun h=>(h3 (hf.disj _ _ _ _ _ _ h4 hk h2 h)).elim⟩
  ·subst h3;subst h4
   rw [upd_same] at h2
   exact ⟨⟨k,_,hk,(hspare b off h2).1⟩,fun _=>(hspare b off h2).2⟩
 have hfr:Fresh w (own ρ L) (own (upd ρ L.length l') (L.set k .dead++[.spare els.length])):=fun b off h=>.inl (hown b off h).1
 have hfits:Fits w (upd ρ L.length l') (L.set k .dead++[.spare els.length]):=by
  refine hf.change F0 (fun _ _ h=>h.elim) (Ext.refl _ _) hc hfr (fun j j' x x' b off h1 h2 h3 h4=>?_) (fun j o hj=>?_)
  ·rcases hget h1 with ⟨_,g⟩ | ⟨g0,g,gl⟩ | ⟨g,g1⟩
   ·subst g;exact h3.elim
   ·rcases hget h2 with ⟨_,g'⟩ | ⟨_,g',gl'⟩ | ⟨g',g1'⟩
    ·subst g';exact h4.elim
    ·rw [upd_ne (by omega)] at h3 h4
     exact hf.disj _ _ _ _ _ _ g g' h3 h4
    ·subst g';subst g1'
     rw [upd_same] at h4
     rw [upd_ne (by omega)] at h3
     exact (g0 (hf.disj _ _ _ _ _ _ g hk h3 (hspare _ _ h4).1)).elim
   ·subst g;subst g1
    rw [upd_same] at h3
    rcases hget h2 with ⟨_,g'⟩ | ⟨g0',g',gl'⟩ | ⟨g',g1'⟩
    ·subst g';exact h4.elim
    ·rw [upd_ne (by omega)] at h4
     exact (g0' (hf.disj _ _ _ _ _ _ g' hk h4 (hspare _ _ h3).1)).elim
    ·exact g'.symm
  ·rcases hget hj with ⟨_,h2⟩ | ⟨h2,h3,h4⟩ | ⟨h2,h3⟩
   ·subst h2;exact .inr trivial
   ·exact .inl ⟨h4,h3,upd_ne (by omega),fun _ _ _ h=>h⟩
   ·subst h2;subst h3
    rw [upd_same]
    refine .inr fun q hq=>?_
    subst hl
    dsimp only at hq ⊢
    have:=o4 (els.length * e+q) (by omega)
    rw [Nat.add_assoc]
    exact this
 refine ⟨hfits,?_,hfr,hc⟩
 refine .tok _ _ _ _ (by simp) ?_ fun n hn=>?_
 ·obtain ⟨vs,p1,p2,p3⟩:=flat_rep (w:=w) (R:=Rep w (foot ρ L) ρ L) (b:=(ρ k).block) (off:=(ρ k).off) he o2 o3
  have hint:∀ (i:Nat) d (j:Nat) c,els[i]?=some d→d.cells[j]?=some c→∃ q n,c= .int q n:=fun i d j c hi hj=>by
   obtain ⟨q,n,rfl⟩:=allInt_mem hall i d hi
   cases j with
   | zero=>simp [D.cells] at hj;exact ⟨q,n,hj.symm⟩
   | succ j=>simp [D.cells] at hj
  refine rows_sl (vs:=vs) hcap o2 ⟨p1,fun v hv=>?_,fun i d j c hi hj=>?_⟩ fun q v hq=>⟨p2 q v hq,fun hF=>?_⟩
  ·obtain ⟨q,hq⟩:=List.getElem?_of_mem hv
   have hql:q < els.length * e:=by rw [← p1];exact (List.getElem?_eq_some_iff.1 hq).1
   have h1:q / e < els.length:=Nat.div_lt_of_lt_mul (by rwa [Nat.mul_comm])
   have h2:q % e < e:=Nat.mod_lt _ he
   have hl:=o2 _ _ (List.getElem?_eq_getElem h1)
   obtain ⟨u,h3,h4⟩:=p3 (q / e) _ (q % e) _ (List.getElem?_eq_getElem h1) (List.getElem?_eq_getElem (by rw [hl];exact h2))
   rw [Nat.mul_comm,Nat.div_add_mod,hq] at h3
   cases h3
   obtain ⟨q',n',hc'⟩:=hint _ _ _ _ (List.getElem?_eq_getElem h1) (List.getElem?_eq_getElem (by rw [hl];exact h2))
   rw [hc'] at h4
   rw [h4.int_inv]
   rfl
  ·obtain ⟨u,h3,h4⟩:=p3 i d j c hi hj
   obtain ⟨q',n',rfl⟩:=hint i d j c hi hj
   exact ⟨u,h3,by rw [h4.int_inv];exact .int _ _⟩
  ·have hql:q < els.length * e:=by rw [← p1];exact (List.getElem?_eq_some_iff.1 hq).1
   have ho:Ob.owns (.arr e els) (ρ k) (ρ k).block ((ρ k).off+q):=⟨rfl,by omega,by omega⟩
   rcases hF with h | h
   ·have:=(hown _ _ h).2 ho;omega
   ·exact hf.sep _ _ ⟨k,_,hk,ho⟩ h
 ·refine ⟨?_,fun _=>?_⟩
  ·rw [List.getElem?_append_right (by simp),hlen,Nat.sub_self] at hn
   simp at hn
   omega
  ·rw [upd_same]
   subst hl
   exact .inl ⟨rfl,rfl,rfl⟩
def convBytesK (x:D) (L:List Ob) (K:D→List Ob→Prop):Prop:=
 match x with
 | .osl e k n off len=>nthK k L fun o=>match o with
  | .arr e' els=>VS (SideS (e'=e∧off=0∧n=els.length∧len=els.length∧0 < els.length∧0 < e) (VS (ModeS (match allInt els with
   | true=>VS (ModeS (setLK k .dead L fun L'=>K (.sl e els none) L') (setLK k .dead L fun L'=>VS (NormL els fun r m=>K (.sl e r (some L.length)) (L'++[.spare m]))))
   | false=>False) (K (.osl e k n off len) L))))
  | _=>False
 | _=>False
theorem convBytes_sound {P:Program} {t e:TypeId} {x:Operand} {σ:List (Nat×D)} {L:List Ob} {K:D→List Ob→Prop} {o:Oper} (hu:P.underlying t=some (.slice e)) (he:P.underlying e=some (.int .u8))
  (ho:o.op= .convert t t x) (h:convBytesK (evalD σ x) L K):∃ d L',OpOk P o σ L d L'∧K d L':=by
 unfold convBytesK at h
 split at h<;>try exact h.elim
 rename_i es k n off len hx
 obtain ⟨ob,hk,h⟩:=nthK_eq h
 split at h<;>try exact h.elim
 rename_i e' els
 have h:=VS.out h
 unfold SideS at h
 obtain ⟨⟨rfl,rfl,rfl,rfl,hpos,hepos⟩,h⟩:=h
 have core:∀ (a:Act) (w:World) (ρ:Pl),Fits w ρ L→Env w ρ L σ a→∃ cap w',(execOp a.eval o).run P w= .ok (.value (.slice (some ⟨(ρ k).block,(ρ k).off,none⟩) els.length cap)) w' ∧
   els.length≤cap∧cap * e'=(ρ k).cap∧Post w ρ L (.osl e' k els.length 0 els.length) L (.slice (some ⟨(ρ k).block,(ρ k).off,none⟩) els.length cap) w' ρ:=by
  intro a w ρ hf hen
  have hv:=hen.eval x
  rw [hx] at hv
  obtain ⟨ad,cap,h1,hkl,⟨hlc,hnn⟩,hm⟩:=hv.osl_inv
  obtain ⟨_,_,hm⟩:=hm _ _ hk
  obtain ⟨hm1,hm2,_⟩:=hm rfl
  have had:ad=some ⟨(ρ k).block,(ρ k).off,none⟩:=by
   rcases hm1 with h | h | h
   ·omega
   ·have:=hnn h;omega
   ·simpa using h
  subst had
  obtain ⟨o1,o2,o3,o4⟩:=hf.obj k _ hk
  have hcap0:0 < (ρ k).cap:=by rw [← hm2];exact Nat.mul_pos (by omega) hepos
  obtain ⟨⟨v0,hv0⟩,hs0⟩:=o4 0 hcap0
  have hblk:∃ row t' lo hi,w.heap[(ρ k).block]?=some (.cells row t' (lo,hi)):=by
   unfold World.cell? at hv0
   split at hv0
   ·rename_i c t' fr hc
    exact ⟨c,t',fr.1,fr.2,hc⟩
   ·cases hv0
  obtain ⟨row,t',lo,hi,hb⟩:=hblk
  have hcl:=hs0.2 row t' lo hi hb
  obtain ⟨f1,f2,f3,f4⟩:=freeze_facts hb hcl
  have hsh:w.shape? (ρ k).block=some (t',row.size):=by unfold World.shape?;rw [hb]
  have hrun:(execOp a.eval o).run P w= .ok (.value (.slice (some ⟨(ρ k).block,(ρ k).off,none⟩) els.length cap)) (w.freeze ⟨(ρ k).block,row.size,none⟩ 1):=by
   simp only [execOp,ho,h1,convert,Sem.run_bind,run_underlying hu,run_underlying he,Result.andThen,beq_self_eq_true,markStringish,Sem.run_pure]
   simp [hsh,Result.andThen]
  have hown0:Ob.owns (.arr e' els) (ρ k) (ρ k).block (ρ k).off:=⟨rfl,Nat.le_refl _,by omega⟩
  have hext:Ext (fun b off=>Ob.owns (.arr e' els) (ρ k) b off) w (w.freeze ⟨(ρ k).block,row.size,none⟩ 1):=by
   refine ⟨?_,?_,?_,by omega,fun b _ hn=>?_,fun b x _ _=>f3 b x,fun b x v _ hv hs=>f4 b x v hv hs,fun b s hs=>shape_freeze hs _ _⟩
   ·unfold World.freeze;rw [if_neg (by decide)]
   ·unfold World.freeze;rw [if_neg (by decide)]
   ·unfold World.freeze;rw [if_neg (by decide)]
   ·refine f2 b fun e=>?_
    subst e
    exact hn _ hown0
  obtain ⟨g1,g2,g3,g4⟩:=hf.setObj (o':=.arr e' els) hk (fun b x=>Iff.rfl) (.inr (.inl ⟨e',els,els,rfl,rfl,rfl⟩)) hext fun hcm hfr hex=>by
   refine ⟨o1,o2,fun i d j c hi hj=>?_,fun j hj=>?_⟩
   ·obtain ⟨u,h5,h6⟩:=o3 i d j c hi hj
    exact ⟨u,(f3 _ _).trans h5,h6.keep hex hfr hcm⟩
   ·obtain ⟨⟨u,h5⟩,h6⟩:=o4 j hj
    exact ⟨⟨u,(f3 _ _).trans h5⟩,f4 _ _ _ h5 h6⟩
  rw [set_same hk] at g1 g3 g4
  refine ⟨cap,_,hrun,hlc,by simpa using hm2,g1,?_,g2,g3,g4⟩
  rw [h1] at hv
  exact hv.keep g2.foot (g3.foot rfl) g4
 rcases h.out with h | h
 ·split at h<;>try exact h.elim
  rename_i hall
  rcases h.out with h | h
  ·have h:=setLK_eq h
   refine ⟨_,_,OpOk.of_val fun a w ρ hf hen=>?_,h⟩
   obtain ⟨cap,w',hrun,hcap,_,hp⟩:=core a w ρ hf hen
   obtain ⟨q1,q2,q3,q4⟩:=give_up hp.fits hk hall hepos hcap
   exact ⟨_,w',ρ,hrun,q1,.pure _ _ q2,hp.ext,fun b off h=>by
    rcases q3 b off h with h | h
    ·exact hp.fresh b off h
    ·exact .inr (Nat.le_trans hp.ext.size h),hp.compat.trans q4⟩
  ·have h:=setLK_eq h
   have h:=h.out
   unfold NormL at h
   refine ⟨_,_,OpOk.of_val fun a w ρ hf hen=>?_,h⟩
   obtain ⟨cap,w',hrun,hcap,hroom,hp⟩:=core a w ρ hf hen
   obtain ⟨q1,q2,q3,q4⟩:=give_tok hp.fits hk hall hepos hcap hroom
   exact ⟨_,w',_,hrun,q1,q2,hp.ext,fun b off h=>by
    rcases q3 b off h with h | h
    ·exact hp.fresh b off h
    ·exact .inr (Nat.le_trans hp.ext.size h),hp.compat.trans q4⟩
 ·refine ⟨_,_,OpOk.of_val fun a w ρ hf hen=>?_,h⟩
  obtain ⟨cap,w',hrun,hcap,_,hp⟩:=core a w ρ hf hen
  exact ⟨_,w',ρ,hrun,hp⟩
def keyOk (d:TD) (x:D):Bool:=
 match d with
 | .int q=>match x with
  | .int q' _=>kindEq q q'
  | _=>false
 | .str=>match x with
  | .str _=>true
  | _=>false
 | _=>false
def keyB (x y:D):Bool:=
 match x with
 | .int _ a=>match y with
  | .int _ b=>a==b
  | _=>false
 | .str s=>match y with
  | .str t=>s==t
  | _=>false
 | _=>false
def idxM (k:D):List (D×D)→Option Nat
 | []=>none
 | p::es=>match keyB k p.1 with
  | true=>some 0
  | false=>(idxM k es).map (·+1)
def getM (k:D) (es:List (D×D)):Option D:=(idxM k es).bind fun i=>(es[i]?).map (·.2)
def setM (k v:D):List (D×D)→List (D×D)
 | []=>[(k,v)]
 | p::es=>match keyB k p.1 with
  | true=>(k,v)::es
  | false=>p::setM k v es
def LookS (o:Option D) (z:D) (K:D→Bool→Prop):Prop:=match o with
 | some v=>K v true
 | none=>K z false
theorem lk_some {o:Option D} {z v:D} {K:D→Bool→Prop} (h:o=some v) (hK:K v true):LookS o z K:=by subst h;exact hK
def NormM (es:List (D×D)) (K:List (D×D)→Prop):Prop:=K es
theorem norm_m {es es':List (D×D)} {K:List (D×D)→Prop} (h:es=es') (hK:K es'):NormM es K:=by subst h;exact hK
def tdKey:TD→Option TypeDesc
 | .int q=>some (.int q)
 | .str=>some .string
 | _=>none
theorem bytes_beq (s t:List UInt8):((⟨s.toArray⟩:ByteArray)==⟨t.toArray⟩)=(s==t):=by
 show ((s.toArray:Array UInt8)==t.toArray)=_
 simp
theorem same_now {w:World} {F:Nat→Nat→Prop} {d:TD} {td:TypeDesc} {x y:D} {u v:Value} (htd:tdKey d=some td) (hx:keyOk d x=true) (hy:keyOk d y=true) (hu:RepP w F x u) (hv:RepP w F y v) :
  Instr.sameNow td u v=some (keyB x y)∧MapKept.IsKey td u∧(keyB x y=true→u=v∧Instr.sameBits 10000 v u=true):=by
 cases d<;>simp only [keyOk] at hx hy<;>try cases hx
 ·cases x<;>simp only at hx<;>try cases hx
  cases y<;>simp only at hy<;>try cases hy
  cases hu;cases hv
  simp only [tdKey,Option.some.injEq] at htd
  subst htd
  refine ⟨by simp only [Instr.sameNow,keyB,bytes_beq],trivial,fun h=>?_⟩
  simp only [keyB,beq_iff_eq] at h
  subst h
  exact ⟨rfl,by simp [Instr.sameBits,bytes_beq]⟩
 ·cases x<;>simp only at hx<;>try cases hx
  cases y<;>simp only at hy<;>try cases hy
  have e1:=kindEq_eq hx
  have e2:=kindEq_eq hy
  cases hu;cases hv
  simp only [tdKey,Option.some.injEq] at htd
  subst htd
  subst e1
  subst e2
  refine ⟨by simp [Instr.sameNow,keyB],rfl,fun h=>?_⟩
  simp only [keyB,beq_iff_eq] at h
  subst h
  exact ⟨rfl,by simp [Instr.sameBits]⟩
theorem find_now {w:World} {F:Nat→Nat→Prop} {d:TD} {td:TypeDesc} {x:D} {u:Value} (htd:tdKey d=some td) (hx:keyOk d x=true) (hu:RepP w F x u) :
  ∀ (es:List (D×D)) (ms:List MapEntry) (i:Nat),ms.length=es.length→(∀ p∈es,keyOk d p.1=true)→(∀ (j:Nat) p m,es[j]?=some p→ms[j]?=some m→RepP w F p.1 m.key) →
   Instr.findNow td u ms i=some ((idxM x es).bind fun j=>(ms[j]?).map fun m=>(i+j,m.val))∧(∀ j,idxM x es=some j→j < es.length∧∀ m,ms[j]?=some m→Instr.sameBits 10000 m.key u=true)
 | [],[],i,_,_,_=>by simp [Instr.findNow,idxM]
 | [],_::_,i,h,_,_=>by simp at h
 | _::_,[],i,h,_,_=>by simp at h
 | p::es,m::ms,i,hl,hk,hr=>by
  have h0:=hr 0 p m rfl rfl
  obtain ⟨s1,s2,s3⟩:=same_now htd hx (hk p (by simp)) hu h0
  obtain ⟨g1,g2⟩:=find_now htd hx hu es ms (i+1) (by simpa using hl) (fun q hq=>hk q (by simp [hq])) fun j q n hq hn=>hr (j+1) q n (by simpa using hq) (by simpa using hn)
  cases hb:keyB x p.1 with
  | true=>
   refine ⟨by simp [Instr.findNow,s1,hb,idxM],fun j hj=>?_⟩
   simp [idxM,hb] at hj
   subst hj
   refine ⟨by simp,fun n hn=>?_⟩
   simp at hn
   subst hn
   exact (s3 hb).2
  | false=>
   refine ⟨?_,fun j hj=>?_⟩
   ·simp only [Instr.findNow,s1,hb,g1,idxM]
    cases idxM x es with
    | none=>rfl
    | some j=>simp only [Option.map_some,Option.bind_some,List.getElem?_cons_succ];rw [show i+1+j=i+(j+1) by omega]
   ·simp only [idxM,hb,Option.map_eq_some_iff] at hj
    obtain ⟨j',hj',rfl⟩:=hj
    obtain ⟨g3,g4⟩:=g2 j' hj'
    exact ⟨by simp;omega,fun n hn=>g4 n (by simpa using hn)⟩
theorem setM_some {k v:D}:∀ {es:List (D×D)} {j:Nat},idxM k es=some j→setM k v es=es.set j (k,v)
 | [],j,h=>by simp [idxM] at h
 | p::es,j,h=>by
  simp only [idxM] at h
  simp only [setM]
  split at h
  ·rename_i hb
   simp at h
   subst h
   rfl
  ·rename_i hb
   simp only [Option.map_eq_some_iff] at h
   obtain ⟨j',h',rfl⟩:=h
   rw [setM_some h']
   rfl
theorem setM_none {k v:D}:∀ {es:List (D×D)},idxM k es=none→setM k v es=es++[(k,v)]
 | [],h=>rfl
 | p::es,h=>by
  simp only [idxM] at h
  split at h
  ·cases h
  ·rename_i hb
   simp only [Option.map_eq_none_iff] at h
   simp only [setM,hb,setM_none h]
   rfl
def makeMapOp (T:Tab) (t:Nat) (r:Option Operand) (L:List Ob) (K:D→List Ob→Prop):Prop:=
 match r with
 | none=>K (.mp L.length) (L++[.map []])
 | _=>False
theorem makeMap_sound {P:Program} {T:Tab} {t:Nat} {r:Option Operand} {σ:List (Nat×D)} {L:List Ob} {K:D→List Ob→Prop} {o:Oper} (ho:o.op= .makeMap t r) (h:makeMapOp T t r L K):∃ d L',OpOk P o σ L d L'∧K d L':=by
 unfold makeMapOp at h
 split at h<;>try exact h.elim
 refine ⟨_,_,OpOk.of_val fun a w ρ hf he=>?_,h⟩
 have hrun:(execOp a.eval o).run P w= .ok (.value (.map (some w.heap.size))) (w.alloc (.map #[] 0)):=by
  simp [execOp,ho,Instr.makeMap,Result.andThen]
 have hb:(w.alloc (.map #[] 0)).heap[w.heap.size]?=some (.map #[] 0):=by
  show (w.heap.push _)[w.heap.size]?=_
  simp
 obtain ⟨g1,g2⟩:=hf.snoc (Ext.alloc w (.map #[] 0)) (o:=.map []) (l:=⟨w.heap.size,0,0⟩) (fun b off h=>by
  have h:b=w.heap.size:=h
  omega) ⟨#[],0,hb,rfl,fun i p m hi=>by simp at hi⟩
 exact ⟨_,_,_,hrun,g1,.mp _ _ (by simp) fun es _=>by rw [upd_same],(Ext.alloc _ _).grow,g2,.snoc _ _ _ _⟩
theorem Ext.putMap {w:World} {r:Nat} {es es':Array MapEntry} {c c':Nat} (hb:w.heap[r]?=some (.map es c)):Ext (fun b _=>b=r) w { w with heap:=w.heap.setIfInBounds r (.map es' c') }:=by
 obtain ⟨h1,h2⟩:=MapKept.heap_set (o':=.map es' c') hb
 refine ⟨rfl,rfl,rfl,by simp,fun b _ hn=>h2 b fun e=>hn 0 e,fun b x _ hn=>?_,fun b x v hn hv hs=>?_,fun b s hs=>?_⟩
 ·unfold World.cell?
  rw [show ({ w with heap:=w.heap.setIfInBounds r (.map es' c') }:World).heap[b]?=w.heap[b]? from h2 b hn]
 ·have hh:({ w with heap:=w.heap.setIfInBounds r (.map es' c') }:World).heap[b]?=w.heap[b]?:=h2 b hn
  refine ⟨?_,fun row t lo hi hrow=>hs.2 row t lo hi (by rw [← hh];exact hrow)⟩
  have:=hs.1
  unfold World.frozen? at this ⊢
  rw [hh]
  exact this
 ·refine shape_of (h2 b fun e=>?_) hs
  subst e
  unfold World.shape? at hs
  rw [hb] at hs
  cases hs
def mapKeyK (T:Tab) (t:Nat) (K:TD→Nat→Prop):Prop:=
 match ty T t with
 | some i=>match i.d with
  | .map k e=>match ty T k with
   | some ik=>match ik.d with
    | .int q=>K (.int q) e
    | .str=>K .str e
    | _=>False
   | none=>False
  | _=>False
 | none=>False
theorem under_map {P:Program} {t k e:Nat} {i:TI} (hi:TIOk P t i) (h:i.d= .map k e):P.underlying t=some (.map k e):=by
 obtain ⟨d,h1,h2⟩:=hi.under
 rw [h] at h2
 cases d<;>simp [tdOf] at h2
 obtain ⟨rfl,rfl⟩:=h2
 exact h1
theorem mapKeyK_eq {P:Program} {T:Tab} (hT:TabOk P T) {t:Nat} {K:TD→Nat→Prop} (h:mapKeyK T t K):∃ d td k e,P.underlying t=some (.map k e)∧P.underlying k=some td∧tdKey d=some td∧K d e:=by
 unfold mapKeyK at h
 split at h<;>try exact h.elim
 rename_i i hi
 split at h<;>try exact h.elim
 rename_i k e hd
 split at h<;>try exact h.elim
 rename_i ik hik
 split at h<;>try exact h.elim
 ·rename_i q hq
  exact ⟨_,_,k,e,under_map (hT _ _ hi) hd,under_int (hT _ _ hik) hq,rfl,h⟩
 ·rename_i hq
  exact ⟨_,_,k,e,under_map (hT _ _ hi) hd,under_str (hT _ _ hik) hq,rfl,h⟩
def mapSetK (T:Tab) (t:Nat) (m k v:D) (L:List Ob) (K:D→List Ob→Prop):Prop:=
 mapKeyK T t fun d _=>match m with
  | .mp j=>nthK j L fun o=>match o with
   | .map es=>match keyOk d k with
    | true=>stripK v fun v=>VS (SideS (∀ p∈es,keyOk d p.1=true) (VS (NormM (setM k v es) fun es'=>setLK j (.map es') L fun L'=>K .any L')))
    | false=>False
   | _=>False
  | _=>False
theorem mapSet_sound {P:Program} {T:Tab} (hT:TabOk P T) {t:Nat} {m k v:Operand} {σ:List (Nat×D)} {L:List Ob} {K:D→List Ob→Prop} {o:Oper} (ho:o.op= .mapUpdate t m k v∨o.op= .insert t m k v)
  (h:mapSetK T t (evalD σ m) (evalD σ k) (evalD σ v) L K):∃ d L',OpOk P o σ L d L'∧K d L':=by
 obtain ⟨d,td,kt,e,hu,huk,htd,h⟩:=mapKeyK_eq hT h
 split at h<;>try exact h.elim
 rename_i j hm
 obtain ⟨ob,hj,h⟩:=nthK_eq h
 split at h<;>try exact h.elim
 rename_i es
 split at h<;>try exact h.elim
 rename_i hkok
 obtain ⟨dv,hdv,h⟩:=stripK_eq h
 obtain ⟨hkeys,h⟩:=h.out
 have h:=h.out
 unfold NormM at h
 have h:=setLK_eq h
 refine ⟨_,_,OpOk.of_skip fun a w ρ hf he=>?_,h⟩
 have hvm:=he.eval m
 rw [hm] at hvm
 obtain ⟨r,h1,hjl,h2⟩:=hvm.mp_inv
 have h2:=h2 _ hj
 subst h2
 obtain ⟨ents,clock,hb,hsz,hrep⟩:=hf.obj j _ hj
 have hk:RepP w (foot ρ L) (evalD σ k) (a.eval k):=by
  have:=he.eval k
  generalize evalD σ k=dk at this hkok
  cases d<;>simp only [keyOk] at hkok<;>try cases hkok
  all_goals
   cases dk<;>simp only at hkok<;>try cases hkok
   cases this with
   | pure _ _ h=>exact h
 have hval:=hdv.2 _ _ _ _ _ (he.eval v)
 obtain ⟨f1,f2⟩:=find_now htd hkok hk es ents.toList 0 (by simpa using hsz) hkeys (fun i p q hi hq=>(hrep i p q hi (by simpa using hq)).1)
 have hkey:=(same_now htd hkok hkok hk hk).2.1
 have hck:=MapKept.run_checkKey (w:=w) huk hkey false 9999
 have hfk:=MapKept.run_findKey (w:=w) huk f1
 have hlast:∀ (ents':Array MapEntry) (c':Nat),(execOp a.eval o).run P w= .ok .skip { w with heap:=w.heap.setIfInBounds (ρ j).block (.map ents' c') }→ents'.size=(setM (evalD σ k) dv es).length →
   (∀ (i:Nat) p q,(setM (evalD σ k) dv es)[i]?=some p→ents'[i]?=some q→(RepP w (foot ρ L) p.1 q.key∧Rep w (foot ρ L) ρ L p.2 q.val)) →
   ∃ w' ρ',(execOp a.eval o).run P w= .ok .skip w'∧Post w ρ L .any (L.set j (.map (setM (evalD σ k) dv es))) undef w' ρ':=by
  intro ents' c' hrun hs hr
  have hext:=Ext.putMap (es':=ents') (c':=c') hb
  obtain ⟨g1,g2,g3,g4⟩:=hf.setObj (o':=.map (setM (evalD σ k) dv es)) hj (fun b x=>Iff.rfl) (.inr (.inr ⟨es,_,rfl,rfl⟩)) hext fun hcm hfr hex=>
   ⟨ents',c',(MapKept.heap_set hb).1,hs,fun i p q hi hq=>⟨(hr i p q hi hq).1.keep hex hfr,(hr i p q hi hq).2.keep hex hfr hcm⟩⟩
  exact ⟨_,ρ,hrun,g1,.pure _ _ (.any _),g2,g3,g4⟩
 have hrun0:∀ w',(Instr.mapUpdate t (.map (some (ρ j).block)) (a.eval k) (a.eval v)).run P w= .ok () w'→(execOp a.eval o).run P w= .ok .skip w':=by
  intro w' hr
  rcases ho with ho | ho<;>simp [execOp,ho,h1,hr,Result.andThen]
 cases hix:idxM (evalD σ k) es with
 | none=>
  rw [hix] at hfk
  simp only [Option.bind_none] at hfk
  refine hlast (ents.push { key:=a.eval k,val:=a.eval v,born:=clock }) (clock+1) (hrun0 _ ?_) ?_ ?_
  ·simp [Instr.mapUpdate,run_underlying hu,MapKept.run_getObj_map hb,hck,hfk,MapKept.run_setObj_map _ hb,Result.andThen]
  ·rw [setM_none hix];simp [hsz]
  ·rw [setM_none hix]
   intro i p q hi hq
   rcases Nat.lt_or_ge i es.length with hlt | hge
   ·rw [List.getElem?_append_left hlt] at hi
    rw [Array.getElem?_push,if_neg (by omega)] at hq
    exact hrep i p q hi hq
   ·have hii:i=es.length:=by
     have:=(List.getElem?_eq_some_iff.1 hi).1
     simp at this
     omega
    subst hii
    rw [List.getElem?_append_right (Nat.le_refl _)] at hi
    simp at hi
    subst hi
    rw [Array.getElem?_push,if_pos (by omega)] at hq
    simp at hq
    subst hq
    exact ⟨hk,.pure _ _ hval⟩
 | some i0=>
  obtain ⟨f3,f4⟩:=f2 i0 hix
  have hlt:i0 < ents.size:=by omega
  have hent:ents.toList[i0]?=some ents[i0]:=by simp [hlt]
  have hbits:=f4 _ hent
  rw [hix] at hfk
  simp only [Option.bind_some,hent,Option.map_some,Nat.zero_add] at hfk
  refine hlast (ents.modify i0 fun e=>{ e with key:=a.eval k,val:=a.eval v }) clock (hrun0 _ ?_) ?_ ?_
  ·have hks:(Instr.keyThatStays (((ents[i0]?).map (·.key)).getD (a.eval k)) (a.eval k)).run P w= .ok (a.eval k) w:=by
    have:((ents[i0]?).map (·.key)).getD (a.eval k)=ents[i0].key:=by simp [hlt]
    rw [this]
    simp [Instr.keyThatStays,hbits]
   simp [Instr.mapUpdate,run_underlying hu,MapKept.run_getObj_map hb,hck,hfk,hks,MapKept.run_setObj_map _ hb,Result.andThen]
  ·rw [setM_some hix];simp [hsz]
  ·rw [setM_some hix]
   intro i p q hi hq
   rw [Array.getElem?_modify] at hq
   rcases set_get hi with ⟨e1,e2⟩ | ⟨e1,e2⟩
   ·subst e1;subst e2
    rw [if_pos rfl] at hq
    simp only [Option.map_eq_some_iff] at hq
    obtain ⟨q',_,rfl⟩:=hq
    exact ⟨hk,.pure _ _ hval⟩
   ·rw [if_neg (fun e=>e1 e.symm)] at hq
    exact hrep i p q e2 hq
def lookupK (T:Tab) (t:Nat) (m k:D) (ok:Bool) (L:List Ob) (K:D→Prop):Prop:=
 mapKeyK T t fun d e=>match ty T e with
  | some ie=>match keyOk d k with
   | true=>match m with
    | .mp j=>nthK j L fun o=>match o with
     | .map es=>VS (SideS (∀ p∈es,keyOk d p.1=true) (VS (LookS (getM k es) (zeroD ie.zero) fun v b=>match ok with
      | true=>K (.tup [v,.bool b])
      | false=>K v)))
     | _=>False
    | .nilmap=>match ok with
     | true=>K (.tup [zeroD ie.zero,.bool false])
     | false=>K (zeroD ie.zero)
    | _=>False
   | false=>False
  | none=>False
theorem lookup_sound {P:Program} {T:Tab} (hT:TabOk P T) {t:Nat} {m k:Operand} {ok:Bool} {σ:List (Nat×D)} {L:List Ob} {K:D→Prop} {o:Oper} (ho:o.op= .lookup t m k ok)
  (h:lookupK T t (evalD σ m) (evalD σ k) ok L K):∃ d,OpOk P o σ L d L∧K d:=by
 obtain ⟨d,td,kt,e,hu,huk,htd,h⟩:=mapKeyK_eq hT h
 split at h<;>try exact h.elim
 rename_i ie hie
 have hie:=hT _ _ hie
 split at h<;>try exact h.elim
 rename_i hkok
 have hkrep:∀ (a:Act) (w:World) (ρ:Pl),Env w ρ L σ a→RepP w (foot ρ L) (evalD σ k) (a.eval k):=by
  intro a w ρ he
  have:=he.eval k
  generalize evalD σ k=dk at this hkok
  cases d<;>simp only [keyOk] at hkok<;>try cases hkok
  all_goals
   cases dk<;>simp only at hkok<;>try cases hkok
   cases this with
   | pure _ _ h=>exact h
 have two:∀ {w:World} {F:Nat→Nat→Prop} {ρ:Pl} {x:D} {v:Value} (b:Bool),Rep w F ρ L x v→Rep w F ρ L (.tup [x,.bool b]) (.tuple #[v,.bool b]):=by
  intro w F ρ x v b hr
  refine .tup [x,.bool b] [v,.bool b] rfl fun i d v' h1 h2=>?_
  match i with
  | 0=>simp at h1 h2;subst h1;subst h2;exact hr
  | 1=>simp at h1 h2;subst h1;subst h2;exact .pure _ _ (.bool _)
  | i+2=>simp at h1
 split at h<;>try exact h.elim
 ·rename_i j hm
  obtain ⟨ob,hj,h⟩:=nthK_eq h
  split at h<;>try exact h.elim
  rename_i es
  obtain ⟨hkeys,h⟩:=h.out
  have h:=h.out
  have core:∀ (a:Act) (w:World) (ρ:Pl),Fits w ρ L→Env w ρ L σ a→∃ v,(execOp a.eval o).run P w= .ok (.value (if ok then .tuple #[v,.bool (getM (evalD σ k) es).isSome] else v)) w ∧
    Rep w (foot ρ L) ρ L ((getM (evalD σ k) es).getD (zeroD ie.zero)) v:=by
   intro a w ρ hf he
   have hvm:=he.eval m
   rw [hm] at hvm
   obtain ⟨r,h1,hjl,h2⟩:=hvm.mp_inv
   have h2:=h2 _ hj
   subst h2
   obtain ⟨ents,clock,hb,hsz,hrep⟩:=hf.obj j _ hj
   have hk:=hkrep a w ρ he
   obtain ⟨f1,f2⟩:=find_now htd hkok hk es ents.toList 0 (by simpa using hsz) hkeys (fun i p q hi hq=>(hrep i p q hi (by simpa using hq)).1)
   have hkey:=(same_now htd hkok hkok hk hk).2.1
   have hck:=MapKept.run_checkKey (w:=w) huk hkey ents.isEmpty 9999
   have hfk:=MapKept.run_findKey (w:=w) huk f1
   cases hix:idxM (evalD σ k) es with
   | none=>
    rw [hix] at hfk
    simp only [Option.bind_none] at hfk
    refine ⟨ie.zero,?_,?_⟩
    ·cases ok<;>simp [execOp,ho,h1,Instr.lookup,run_underlying hu,MapKept.run_getObj_map hb,hck,hfk,hie.zeroRun,getM,hix,Result.andThen]
    ·simp only [getM,hix,Option.bind_none,Option.getD_none]
     exact .pure _ _ (zeroD_rep _ _ _)
   | some i0=>
    obtain ⟨f3,f4⟩:=f2 i0 hix
    have hlt:i0 < ents.size:=by omega
    have hent:ents.toList[i0]?=some ents[i0]:=by simp [hlt]
    rw [hix] at hfk
    simp only [Option.bind_some,hent,Option.map_some,Nat.zero_add] at hfk
    have hg:getM (evalD σ k) es=some (es[i0]).2:=by simp [getM,hix,f3]
    refine ⟨ents[i0].val,?_,?_⟩
    ·rw [hg]
     cases ok<;>simp [execOp,ho,h1,Instr.lookup,run_underlying hu,MapKept.run_getObj_map hb,hck,hfk,Result.andThen]
    ·rw [hg]
     exact (hrep i0 es[i0] ents[i0] (List.getElem?_eq_getElem f3) (by simp [hlt])).2
  cases hg:getM (evalD σ k) es with
  | none=>
   rw [hg] at core h
   cases ok with
   | true=>exact ⟨_,OpOk.of_val fun a w ρ hf he=>by obtain ⟨v,h1,h2⟩:=core a w ρ hf he;exact ⟨_,w,ρ,h1,.same hf (two _ h2)⟩,h⟩
   | false=>exact ⟨_,OpOk.of_val fun a w ρ hf he=>by obtain ⟨v,h1,h2⟩:=core a w ρ hf he;exact ⟨_,w,ρ,h1,.same hf h2⟩,h⟩
  | some x=>
   rw [hg] at core h
   cases ok with
   | true=>exact ⟨_,OpOk.of_val fun a w ρ hf he=>by obtain ⟨v,h1,h2⟩:=core a w ρ hf he;exact ⟨_,w,ρ,h1,.same hf (two _ h2)⟩,h⟩
   | false=>exact ⟨_,OpOk.of_val fun a w ρ hf he=>by obtain ⟨v,h1,h2⟩:=core a w ρ hf he;exact ⟨_,w,ρ,h1,.same hf h2⟩,h⟩
 ·rename_i hm
  have core:∀ (a:Act) (w:World) (ρ:Pl),Fits w ρ L→Env w ρ L σ a→(execOp a.eval o).run P w= .ok (.value (if ok then .tuple #[ie.zero,.bool false] else ie.zero)) w:=by
   intro a w ρ hf he
   have hvm:=he.eval m
   rw [hm] at hvm
   have h1:a.eval m= .map none:=by
    generalize a.eval m=vm at hvm
    cases hvm with
    | pure _ _ h=>cases h;rfl
   have hk:=hkrep a w ρ he
   have hkey:=(same_now htd hkok hkok hk hk).2.1
   have hck:=MapKept.run_checkKey (w:=w) huk hkey true 9999
   have hfk:=MapKept.run_findKey (w:=w) (l:=[]) huk (show Instr.findNow td (a.eval k) [] 0=some none from rfl)
   cases ok<;>simp [execOp,ho,h1,Instr.lookup,run_underlying hu,hck,hfk,hie.zeroRun,Result.andThen]
  cases ok with
  | true=>exact ⟨_,OpOk.of_val fun a w ρ hf he=>⟨_,w,ρ,core a w ρ hf he,.same hf (two _ (.pure _ _ (zeroD_rep _ _ _)))⟩,h⟩
  | false=>exact ⟨_,OpOk.of_val fun a w ρ hf he=>⟨_,w,ρ,core a w ρ hf he,.same hf (.pure _ _ (zeroD_rep _ _ _))⟩,h⟩
def loadGK (T:Tab) (t g:Nat) (K:D→Prop):Prop:=
 match findG globs g with
 | some cs=>match ty T t with
  | some i=>match i.d.isAgg with
   | true=>False
   | false=>nthK 0 cs fun c=>forceD c K
  | none=>False
 | none=>False
theorem loadG_sound {P:Program} {T:Tab} (hT:TabOk P T) {t g:Nat} {σ:List (Nat×D)} {K:D→Prop} {o:Oper}
  (ho:o.op= .load t (.global g)) (h:loadGK T t g K):∃ d,(∀ L,OpOk P o σ L d L)∧K d:=by
 unfold loadGK at h
 split at h<;>try exact h.elim
 rename_i cs hg
 split at h<;>try exact h.elim
 rename_i i hi
 have hi:=hT _ _ hi
 split at h<;>try exact h.elim
 rename_i hA
 obtain ⟨c,h1,h2⟩:=nthK_eq h
 refine ⟨c,OpOk.of_pure fun a w ρ L hf he=>?_,forceD_eq h2⟩
 have hv:Rep w (foot ρ L) ρ L (.ptr cs) (.pointer (some ⟨g,0,none⟩)):=.pure _ _ (hf.glob g cs hg).1
 obtain ⟨b,off,h3,h4⟩:=hv.ptr_inv
 cases h3
 obtain ⟨u,h5,_,h6⟩:=h4 0 c h1
 have h0:=hi.pos
 refine ⟨u,?_,.pure _ _ h6⟩
 have hr:(loadVar t ⟨g,0,none⟩).run P w= .ok u w:=by
  unfold loadVar
  simp only [Nat.add_zero] at h5
  simp only [Sem.run_bind,hi.aggRun,Result.andThen,hA]
  simp [run_load,h5]
 have hev:a.eval (.global g)= .pointer (some ⟨g,0,none⟩):=rfl
 simp [execOp,ho,Instr.loadAt,hev,Instr.sureAddr,hr]
def indexGK (T:Tab) (t g:Nat) (ix:D) (K:D→Prop):Prop:=
 match findG globs g with
 | some cs=>match ty T t with
  | some i=>match i.d with
   | .arr len e=>match ty T e with
    | some j=>match Nat.beq j.size 1 with
     | true=>match ix with
      | .int _ n=>VS (SideS (n < len) (VS (IdxS cs n fun d=>K (.ptr [d]))))
      | _=>False
     | false=>False
    | none=>False
   | _=>False
  | none=>False
 | none=>False
theorem indexG_sound {P:Program} {T:Tab} (hT:TabOk P T) {t g:Nat} {ix:Operand} {σ:List (Nat×D)} {K:D→Prop} {o:Oper}
  (ho:o.op= .indexAddr t (.global g) ix) (h:indexGK T t g (evalD σ ix) K):∃ d,(∀ L,OpOk P o σ L d L)∧K d:=by
 unfold indexGK at h
 split at h<;>try exact h.elim
 rename_i cs hg
 split at h<;>try exact h.elim
 rename_i i hi
 have hi:=hT _ _ hi
 split at h<;>try exact h.elim
 rename_i len e hd
 have hu:=under_arr hi hd
 split at h<;>try exact h.elim
 rename_i j hj
 have hj:=hT _ _ hj
 split at h<;>try exact h.elim
 rename_i hsz
 have hsz:=Nat.eq_of_beq_eq_true hsz
 split at h<;>try exact h.elim
 rename_i k n hix
 obtain ⟨hb,h⟩:=h.out
 obtain ⟨h0,d,h1,h2⟩:=h.out
 refine ⟨_,OpOk.of_pure fun a w ρ L hf he=>?_,h2⟩
 have hv:Rep w (foot ρ L) ρ L (.ptr cs) (.pointer (some ⟨g,0,none⟩)):=.pure _ _ (hf.glob g cs hg).1
 have hw:=he.eval ix
 rw [hix] at hw
 obtain ⟨b,off,h3,h4⟩:=hv.ptr_inv
 cases h3
 obtain ⟨u,h5,h6,h7⟩:=h4 n.toNat d h1
 have hev:a.eval (.global g)= .pointer (some ⟨g,0,none⟩):=rfl
 refine ⟨.pointer (some ⟨g,0+n.toNat * 1,none⟩),?_,?_⟩
 ·have hb:0≤n∧n < (len:Int):=by omega
  have hz:=hj.sizeRun
  rw [hsz] at hz
  simp [execOp,ho,Instr.indexAt,hw.int_inv,asIntOf,hev,run_underlying hu,hb,hz,Instr.sureAddr,addr_add]
 ·refine .pure _ _ (.ptr _ _ _ (fun _=>u) (fun q c hq=>?_) fun q c hq=>?_)
  all_goals
   cases q with
   | zero=>
    simp at hq
    subst hq
    first
     | exact ⟨by rw [Nat.mul_one,Nat.add_zero];exact h5,by rw [Nat.mul_one,Nat.add_zero];exact h6⟩
     | exact h7
   | succ q=>simp at hq
def mkIfaceK (T:Tab) (t:Nat) (x:D) (K:D→Prop):Prop:=
 match ty T t with
 | some i=>match i.d with
  | .int _=>match x with
   | .int k n=>K (.iface t (.int k n))
   | _=>False
  | .ptr _=>K (.iface t .any)
  | _=>False
 | none=>False
theorem mkIface_sound {P:Program} {T:Tab} (hT:TabOk P T) {t:Nat} {x:Operand} {σ:List (Nat×D)} {K:D→Prop} {o:Oper}
  (ho:o.op= .makeInterface t x) (h:mkIfaceK T t (evalD σ x) K):∃ d,(∀ L,OpOk P o σ L d L)∧K d:=by
 unfold mkIfaceK at h
 split at h<;>try exact h.elim
 rename_i i hi
 have hi:=hT _ _ hi
 obtain ⟨d,hu,hd⟩:=hi.under
 split at h<;>try exact h.elim
 ·rename_i k0 hk
  rw [hk] at hd
  split at h<;>try exact h.elim
  rename_i k n hx
  refine ⟨_,OpOk.of_pure fun a w ρ L hf he=>?_,h⟩
  have hv:=he.eval x
  rw [hx] at hv
  refine ⟨.iface t (.int k n),?_,.pure _ _ (.iface _ _ _ (.int _ _))⟩
  cases d<;>simp [tdOf] at hd
  simp [execOp,ho,Instr.makeInterface,run_underlying hu,hv.int_inv]
 ·rename_i e hk
  rw [hk] at hd
  refine ⟨_,OpOk.of_pure fun a w ρ L hf he=>?_,h⟩
  refine ⟨.iface t (a.eval x),?_,.pure _ _ (.iface _ _ _ (.any _))⟩
  cases d<;>simp [tdOf] at hd
  simp [execOp,ho,Instr.makeInterface,run_underlying hu]
def IfEqS (P:Program) (t:Nat) (K:Prop):Prop:=(∃ x,P.info? t=some x∧x.comparable=true)∧K
theorem ifeq_mk {P:Program} {t:Nat} {K:Prop} (h:((P.info? t).map (·.comparable))=some true) (hK:K):IfEqS P t K:=by
 refine ⟨?_,hK⟩
 cases hi:P.info? t with
 | none=>rw [hi] at h;cases h
 | some x=>rw [hi] at h;exact ⟨x,rfl,Option.some.inj h⟩
def ifCmpK (P:Program) (T:Tab) (t:Nat) (x:D) (y:Operand) (yd:D) (K:Bool→Prop):Prop:=
 match ty T t with
 | some i=>match i.d with
  | .iface=>match x with
   | .nilif=>match y with
    | .const .nilIface=>K true
    | _=>match yd with
     | .iface _ _=>K false
     | _=>False
   | .iface a (.int k m)=>match yd with
    | .nilif=>K false
    | .iface b (.int k' n)=>match Nat.beq a b with
     | false=>K false
     | true=>match kindEq k k' with
      | true=>match ty T a with
       | some j=>match j.d with
        | .int q=>match kindEq q k with
         | true=>VS (IfEqS P a (K (m==n)))
         | false=>False
        | _=>False
       | none=>False
      | false=>False
    | _=>False
   | .iface _ _=>match yd with
    | .nilif=>K false
    | _=>False
   | _=>False
  | _=>False
 | none=>False
theorem Rep.nilif_inv {w:World} {F:Nat→Nat→Prop} {ρ:Pl} {L:List Ob} {v:Value} (h:Rep w F ρ L .nilif v):v= .nilIface:=by
 cases h with | pure _ _ h=>cases h;rfl
theorem Rep.iface_inv {w:World} {F:Nat→Nat→Prop} {ρ:Pl} {L:List Ob} {t:Nat} {d:D} {v:Value} (h:Rep w F ρ L (.iface t d) v):∃ u,v= .iface t u∧RepP w F d u:=by
 cases h with | pure _ _ h=>cases h with | iface _ _ u h=>exact ⟨u,rfl,h⟩
theorem under_iface {P:Program} {t:Nat} {i:TI} (hi:TIOk P t i) (h:i.d= .iface):∃ ms,P.underlying t=some (.interface ms):=by
 obtain ⟨d,h1,h2⟩:=hi.under
 rw [h] at h2
 cases d<;>simp [tdOf] at h2
 exact ⟨_,h1⟩
section
variable {P : Program} {w : World} (d : Nat) {t : Nat} {ms : Array (String × TypeId)} (hu : P.underlying t = some (.interface ms))
include hu
theorem eqIn_nn:(Op.equalIn (d+1) t .nilIface .nilIface).run P w= .ok true w:=by simp [Op.equalIn,run_underlying hu]
theorem eqIn_ni (a:Nat) (v:Value):(Op.equalIn (d+1) t .nilIface (.iface a v)).run P w= .ok false w:=by simp [Op.equalIn,run_underlying hu]
theorem eqIn_in (a:Nat) (v:Value):(Op.equalIn (d+1) t (.iface a v) .nilIface).run P w= .ok false w:=by simp [Op.equalIn,run_underlying hu]
theorem eqIn_ne {a b:Nat} (u v:Value) (h:a≠b):(Op.equalIn (d+1) t (.iface a u) (.iface b v)).run P w= .ok false w:=by simp [Op.equalIn,run_underlying hu,h]
theorem eqIn_same {a:Nat} {k:IntKind} {m n:Int} {x:TypeInfo} (hx:P.info? a=some x) (hc:x.comparable=true) (hi:P.underlying a=some (.int k)) :
  (Op.equalIn (d+2) t (.iface a (.int k m)) (.iface a (.int k n))).run P w= .ok (m==n) w:=by
 have:=run_equalIn_int w d a k k m n hi
 simp [Op.equalIn,run_underlying hu,typeInfo,hx,hc] at this ⊢
 exact this
end
theorem ifCmp_sound {P:Program} {T:Tab} (hT:TabOk P T) {t:Nat} {x y:Operand} {σ:List (Nat×D)} {K:Bool→Prop} (h:ifCmpK P T t (evalD σ x) y (evalD σ y) K) (op:BinOp) (hop:op= .eql∨op= .neq) :
  ∃ b,(∀ (a:Act) (w:World) (ρ:Pl) (L:List Ob),Env w ρ L σ a→(a.eval x= .nilIface∨∃ s u,a.eval x= .iface s u)∧(eqGuard op t x y (a.eval x) (a.eval y)).run P w= .ok () w∧(Op.equal t (a.eval x) (a.eval y)).run P w= .ok b w)∧K b:=by
 unfold ifCmpK at h
 split at h<;>try exact h.elim
 rename_i i hi
 have hi:=hT _ _ hi
 split at h<;>try exact h.elim
 rename_i hd
 obtain ⟨ms,hu⟩:=under_iface hi hd
 split at h<;>try exact h.elim
 ·rename_i hx
  split at h
  ·refine ⟨true,fun a w ρ L he=>?_,h⟩
   have hv:=he.eval x
   rw [hx] at hv
   rw [hv.nilif_inv]
   have hev:a.eval (.const .nilIface)= .nilIface:=rfl
   rw [hev]
   refine ⟨by first | exact .inl rfl | exact .inr ⟨_,_,rfl⟩,?_,?_⟩
   ·rcases hop with rfl | rfl<;>simp [eqGuard]
   ·exact eqIn_nn 9999 hu
  ·split at h<;>try exact h.elim
   rename_i hy
   refine ⟨false,fun a w ρ L he=>?_,h⟩
   have hv:=he.eval x
   have hw:=he.eval y
   rw [hx] at hv
   rw [hy] at hw
   obtain ⟨u,hu2,_⟩:=hw.iface_inv
   rw [hv.nilif_inv,hu2]
   refine ⟨by first | exact .inl rfl | exact .inr ⟨_,_,rfl⟩,?_,?_⟩
   ·rcases hop with rfl | rfl<;>simp [eqGuard]
   ·exact eqIn_ni 9999 hu _ _
 ·rename_i ta k m hx
  split at h<;>try exact h.elim
  ·rename_i hy
   refine ⟨false,fun a w ρ L he=>?_,h⟩
   have hv:=he.eval x
   have hw:=he.eval y
   rw [hx] at hv
   rw [hy] at hw
   obtain ⟨u,hu2,_⟩:=hv.iface_inv
   rw [hw.nilif_inv,hu2]
   refine ⟨by first | exact .inl rfl | exact .inr ⟨_,_,rfl⟩,?_,?_⟩
   ·rcases hop with rfl | rfl<;>simp [eqGuard]
   ·exact eqIn_in 9999 hu _ _
  ·rename_i tb k' n hy
   have val:∀ (a:Act) (w:World) (ρ:Pl) (L:List Ob),Env w ρ L σ a→a.eval x= .iface ta (.int k m)∧a.eval y= .iface tb (.int k' n):=fun a w ρ L he=>by
    have hv:=he.eval x
    have hw:=he.eval y
    rw [hx] at hv
    rw [hy] at hw
    obtain ⟨u,hu2,hu3⟩:=hv.iface_inv
    obtain ⟨v,hv2,hv3⟩:=hw.iface_inv
    cases hu3
    cases hv3
    exact ⟨hu2,hv2⟩
   split at h
   ·rename_i hab
    have hab:ta≠tb:=fun e=>by subst e;simp at hab
    refine ⟨false,fun a w ρ L he=>?_,h⟩
    obtain ⟨e1,e2⟩:=val a w ρ L he
    rw [e1,e2]
    refine ⟨by first | exact .inl rfl | exact .inr ⟨_,_,rfl⟩,?_,?_⟩
    ·rcases hop with rfl | rfl<;>simp [eqGuard]
    ·exact eqIn_ne 9999 hu _ _ hab
   ·rename_i hab
    have hab:=Nat.eq_of_beq_eq_true hab
    subst hab
    split at h<;>try exact h.elim
    rename_i hkk
    have hkk:=kindEq_eq hkk
    subst hkk
    split at h<;>try exact h.elim
    rename_i j hj
    have hj:=hT _ _ hj
    split at h<;>try exact h.elim
    rename_i q hq
    split at h<;>try exact h.elim
    rename_i hqk
    have hqk:=kindEq_eq hqk
    subst hqk
    obtain ⟨⟨info,hinfo,hcomp⟩,h⟩:=VS.out h
    have huj:=under_int hj hq
    refine ⟨m==n,fun a w ρ L he=>?_,h⟩
    obtain ⟨e1,e2⟩:=val a w ρ L he
    rw [e1,e2]
    refine ⟨by first | exact .inl rfl | exact .inr ⟨_,_,rfl⟩,?_,?_⟩
    ·rcases hop with rfl | rfl<;>simp [eqGuard]
    ·exact eqIn_same 9998 hu hinfo hcomp huj
 ·rename_i hx
  split at h<;>try exact h.elim
  rename_i hy
  refine ⟨false,fun a w ρ L he=>?_,h⟩
  have hv:=he.eval x
  have hw:=he.eval y
  rw [hx] at hv
  rw [hy] at hw
  obtain ⟨u,hu2,_⟩:=hv.iface_inv
  rw [hw.nilif_inv,hu2]
  refine ⟨by first | exact .inl rfl | exact .inr ⟨_,_,rfl⟩,?_,?_⟩
  ·rcases hop with rfl | rfl<;>simp [eqGuard]
  ·exact eqIn_in 9999 hu _ _
theorem strBytesPure_sound {P:Program} {s t e:Nat} {x:Operand} {σ:List (Nat×D)} {K:D→Prop} {o:Oper} {i j ie:TI} (hi:TIOk P s i) (hj:TIOk P t j) (hie:TIOk P e ie)
  (hdi:i.d= .str) (hd:j.d= .slice e) (hde:ie.d= .int .u8) {l:List UInt8} (hx:evalD σ x= .str l)
  (ho:o.op= .convert s t x) (h:K (.sl 1 (l.map fun c=>.int .u8 c.toNat) none)):∃ d,(∀ L,OpOk P o σ L d L)∧K d:=by
 have h1:=under_slice hj hd
 have h2:=under_int hie hde
 have h3:=under_str hi hdi
 refine ⟨_,fun L=>OpOk.of_val fun a w ρ hf he=>?_,h⟩
 have hv:=he.eval x
 rw [hx] at hv
 have hrun:=run_bytes_of_string (P:=P) w s t e ⟨l.toArray⟩ h3 h1 h2
 have hsz:(⟨l.toArray⟩:ByteArray).size=l.length:=size_mk l
 have hcap:l.length≤grownCap w l.length 0 e:=grownCap_ge _ _ _ _
 have hrow:bytesRow ⟨l.toArray⟩ (grownCap w l.length 0 e)=((l.map fun c=>Value.int .u8 c.toNat)++List.replicate (grownCap w l.length 0 e - l.length) (Value.int .u8 0)).toArray:=by
  unfold bytesRow
  rw [hsz]
  apply Array.ext'
  simp
 rw [hsz,hrow] at hrun
 generalize grownCap w l.length 0 e=cap at *
 generalize hrl:((l.map fun c=>Value.int .u8 c.toNat)++List.replicate (cap - l.length) (Value.int .u8 0)).toArray=row at *
 have hrs:row.size=cap:=by rw [← hrl];simp;omega
 let w':=w.drew.alloc (.cells row e (row.size,row.size+1))
 have hcell:∀ q,w'.cell? ⟨w.heap.size,q,none⟩=row[q]?:=fun q=>World.cell?_alloc_mark w.drew row e _ q
 have hext:Ext F0 w w':=(Ext.drew w).trans0 (Ext.alloc w.drew _)
 refine ⟨.slice (some ⟨w.heap.size,0,none⟩) l.length cap,w',ρ,?_,.grow hf hext (.pure _ _ ?_)⟩
 ·simp only [execOp,ho,hv.str_inv,Sem.run_bind,hrun,Result.andThen,Sem.run_pure]
  rfl
 ·have hgoal:=rows_sl (w:=w') (F:=foot ρ L) (e:=1) (b:=w.heap.size) (off:=0) (cap:=cap) (els:=l.map fun c=>D.int .u8 c.toNat) (vs:=l.map fun c=>Value.int .u8 c.toNat) (by simpa using hcap)
   (fun i d hi=>by simp only [List.getElem?_map,Option.map_eq_some_iff] at hi;obtain ⟨c,_,rfl⟩:=hi;rfl)
   ⟨by simp,by simp;intro a _;rfl,fun i d q c hi hq=>by
     simp only [List.getElem?_map,Option.map_eq_some_iff] at hi
     obtain ⟨c',h2,rfl⟩:=hi
     cases q with
     | zero=>simp [D.cells] at hq;subst hq;exact ⟨_,by simp [h2],.int _ _⟩
     | succ q=>simp [D.cells] at hq⟩
   (fun q u hq=>by
     have hq':q < l.length:=by simpa using (List.getElem?_eq_some_iff.1 hq).1
     refine ⟨?_,fun hF=>?_⟩
     ·rw [Nat.zero_add,hcell,← hrl]
      rw [List.getElem?_toArray,List.getElem?_append_left (by simpa using hq')]
      exact hq
     ·have:=hf.foot_lt hF;omega)
  simpa using hgoal
def spliceD (els:List D) (off:Nat) (ds:List D):List D:=els.take off++ds++els.drop (off+ds.length)
theorem spliceD_len {els ds:List D} {off:Nat} (h:off+ds.length≤els.length):(spliceD els off ds).length=els.length:=by
 unfold spliceD;simp;omega
theorem spliceD_get {els ds:List D} {off:Nat} (h:off+ds.length≤els.length) (i:Nat):(spliceD els off ds)[i]?=if off≤i∧i < off+ds.length then ds[i - off]? else els[i]?:=by
 unfold spliceD
 split
 ·rename_i hb
  rw [List.getElem?_append_left (by simp;omega),List.getElem?_append_right (by simp;omega)]
  congr 1
  simp;omega
 ·rename_i hb
  rcases Nat.lt_or_ge i off with h1 | h1
  ·rw [List.append_assoc,List.getElem?_append_left (by simp;omega),List.getElem?_take_of_lt h1]
  ·rw [List.getElem?_append_right (by simp;omega),List.getElem?_drop]
   congr 1
   simp;omega
theorem spliceArr {w:World} {ρ:Pl} {L:List Ob} (hf:Fits w ρ L) {k off:Nat} {els ds:List D} {news:List Value} (hk:L[k]?=some (.arr 1 els)) (hle:off+ds.length≤els.length)
  (hlen:∀ (i:Nat) d,ds[i]?=some d→d.cells.length=1) (hr:RowsOf w (foot ρ L) 1 ds news) (v:Value) (d0:D) (hd0:∀ w F,RepP w F d0 v) :
  (∀ j,j < news.length→(∃ u,w.cell? ⟨(ρ k).block,(ρ k).off+off+j,none⟩=some u)∧Soft w ((ρ k).block) ((ρ k).off+off+j)) ∧
  Post w ρ L d0 (L.set k (.arr 1 (spliceD els off ds))) v (w.setCells (ρ k).block ((ρ k).off+off) news) ρ:=by
 obtain ⟨h1,h2,h3,h4⟩:=hf.obj k _ hk
 obtain ⟨n1,n2,n3⟩:=hr
 have hin:∀ j,j < news.length→(∃ u,w.cell? ⟨(ρ k).block,(ρ k).off+off+j,none⟩=some u)∧Soft w ((ρ k).block) ((ρ k).off+off+j):=fun j hj=>by
  rw [Nat.add_assoc];exact h4 _ (by omega)
 refine ⟨hin,?_⟩
 have hsame:=setCells_same (ρ k).block news ((ρ k).off+off) w
 have hext:=(Ext.setCells w (ρ k).block ((ρ k).off+off) news).mono (F':=fun b x=>Ob.owns (.arr 1 els) (ρ k) b x) fun b x _ ⟨e1,e2,e3⟩=>⟨e1,by omega,by omega⟩
 obtain ⟨g1,g2,g3,g4⟩:=hf.setObj (o':=.arr 1 (spliceD els off ds)) hk (fun b x=>by simp only [Ob.owns]) (.inr (.inl ⟨1,els,_,rfl,rfl,spliceD_len hle⟩)) hext fun hcm hfr hex=>by
  refine ⟨by rw [spliceD_len hle];exact h1,fun i d hi=>?_,fun i d j c hi hj=>?_,fun j hj=>?_⟩
  ·rw [spliceD_get hle] at hi
   split at hi
   ·exact hlen _ _ hi
   ·exact h2 i d hi
  ·rw [spliceD_get hle] at hi
   split at hi
   ·rename_i hb
    have hj0:j=0:=by
     have:=hlen _ _ hi
     have:=(List.getElem?_eq_some_iff.1 hj).1
     omega
    subst hj0
    obtain ⟨u,h5,h6⟩:=n3 (i - off) d 0 c hi hj
    simp only [Nat.mul_one,Nat.add_zero] at h5 ⊢
    have hjl:i - off < news.length:=(List.getElem?_eq_some_iff.1 h5).1
    have hat:=setCells_at (ρ k).block news ((ρ k).off+off) w (i - off) hjl fun x hx=>(hin x hx).1
    rw [show (ρ k).off+off+(i - off)=(ρ k).off+i by omega] at hat
    exact ⟨u,hat.trans h5,.pure _ _ (h6.keep hex hfr)⟩
   ·rename_i hb
    obtain ⟨u,h5,h6⟩:=h3 i d j c hi hj
    have hj0:j=0:=by
     have:=h2 _ _ hi
     have:=(List.getElem?_eq_some_iff.1 hj).1
     omega
    subst hj0
    refine ⟨u,?_,h6.keep hex hfr hcm⟩
    rw [setCells_other _ _ _ _ _ _ (fun _=>by omega)]
    exact h5
  ·obtain ⟨⟨u,h5⟩,h6⟩:=h4 j hj
   refine ⟨?_,by rw [hsame.2.2.2.2.1];exact h6⟩
   by_cases hb:off≤j∧j < off+news.length
   ·have hat:=setCells_at (ρ k).block news ((ρ k).off+off) w (j - off) (by omega) fun x hx=>(hin x hx).1
    rw [show (ρ k).off+off+(j - off)=(ρ k).off+j by omega] at hat
    exact ⟨_,by rw [hat];exact List.getElem?_eq_getElem (by omega)⟩
   ·exact ⟨u,by rw [setCells_other _ _ _ _ _ _ (fun _=>by omega)];exact h5⟩
 exact ⟨g1,.pure _ _ (hd0 _ _),g2,g3,g4⟩
def copyK (T:Tab) (t:Nat) (x y:D) (L:List Ob) (K:D→List Ob→Prop):Prop:=
 match ty T t with
 | some i=>match i.d with
  | .slice e=>match ty T e with
   | some j=>match j.size with
    | 1=>match x with
     | .osl es k n off len=>match y with
      | .sl e2 ds _=>nthK k L fun o=>match o with
       | .arr e' els=>VS (SideS (es=1∧e2=1∧e'=1∧n=els.length∧ds.length≤len) (VS (NormL (spliceD els off ds) fun r _=>setLK k (.arr 1 r) L fun L=>K (.int .i64 ds.length) L)))
       | _=>False
      | _=>False
     | _=>False
    | _=>False
   | none=>False
  | _=>False
 | none=>False
theorem copy_sound {P:Program} {T:Tab} (hT:TabOk P T) {t t2:Nat} {x y:Operand} {σ:List (Nat×D)} {L:List Ob} {K:D→List Ob→Prop} {o:Oper}
  (ho:o.op= .call { callee:=.builtin .copy,args:=#[x,y],argTypes:=#[t,t2] }) (h:copyK T t (evalD σ x) (evalD σ y) L K):∃ d L',OpOk P o σ L d L'∧K d L':=by
 unfold copyK at h
 split at h<;>try exact h.elim
 rename_i i hi
 have hi:=hT _ _ hi
 split at h<;>try exact h.elim
 rename_i e hd
 have hu:=under_slice hi hd
 split at h<;>try exact h.elim
 rename_i j hj
 have hj:=hT _ _ hj
 split at h<;>try exact h.elim
 rename_i hjs
 split at h<;>try exact h.elim
 rename_i es k n off len hx
 split at h<;>try exact h.elim
 rename_i e2 ds tok hy
 obtain ⟨ob,hk,h⟩:=nthK_eq h
 split at h<;>try exact h.elim
 rename_i e' els
 obtain ⟨⟨q1,q2,q3,q4,hlen⟩,h⟩:=h.out
 have hz1:=VS.out h
 unfold NormL at hz1
 have hz2:=setLK_eq hz1
 subst q1 q2 q3 q4
 have hinfo:(P.info? e).map (·.size)=some 1:=by
  obtain ⟨x,h1,h2,_⟩:=hj.info
  rw [h1,Option.map_some,h2,hjs]
 refine ⟨_,_,OpOk.of_val fun a w ρ hf he=>?_,hz2⟩
 have hvx:=he.eval x
 rw [hx] at hvx
 have hvy:=he.eval y
 rw [hy] at hvy
 obtain ⟨ad,cap,hxa,hkl,⟨hlc,hnn⟩,hm⟩:=hvx.osl_inv
 obtain ⟨_,_,hm⟩:=hm _ _ hk
 obtain ⟨hm1,hm2,hm3⟩:=hm rfl
 have fin:∀ {w':World} {v:Value},(Builtin.copy_ #[t,t2] o.type #[a.eval x,a.eval y]).run P w= .ok v w'→(execOp a.eval o).run P w= .ok (.value v) w':=fun hr=>
  exec_builtin' ho fun cs=>by simp [builtin,hr]
 have h0:ds=[]→∃ v w' ρ',(execOp a.eval o).run P w= .ok (.value v) w'∧Post w ρ L (.int .i64 ds.length) (L.set k (.arr 1 (spliceD els off ds))) v w' ρ':=fun h0=>by
  subst h0
  have hy0:∃ ad' sc,a.eval y= .slice ad' 0 sc:=by
   rcases hvy.sl_inv.sl_shape with ⟨_,ad',h⟩ | ⟨b,off',cap',h,_⟩
   ·exact ⟨ad',0,h⟩
   ·exact ⟨_,cap',h⟩
  obtain ⟨ad',sc,hya⟩:=hy0
  refine ⟨.int .i64 0,w,ρ,fin ?_,?_⟩
  ·rw [hxa,hya]
   exact run_copy_none (P:=P) w t t2 o.type e ad ad' len cap 0 sc hu hinfo (by simp)
  ·have:spliceD els off []=els:=by unfold spliceD;simp
   rw [this,set_same hk]
   exact .same hf (.pure _ _ (.int _ _))
 rcases hvy.sl_inv.sl_shape with ⟨hnil,_⟩ | ⟨b,off',cap',hya,hcap',hcl,hcells⟩
 ·exact h0 hnil
 ·by_cases hz:ds=[]
  ·exact h0 hz
  have hpos:0 < ds.length:=List.length_pos_iff.2 hz
  have had:ad=some ⟨(ρ k).block,(ρ k).off+off * 1,none⟩:=by
   rcases hm1 with h | h | h
   ·omega
   ·have:=hnn h;omega
   ·exact h
  subst had
  simp only [Nat.mul_one] at hm2
  have hvy2:=hvy.sl_inv
  rw [hya] at hvy2
  obtain ⟨vs,h5,h6,h7,h8⟩:=flat_cells (by decide) hcl hcells hvy2.sl_one
  simp only [Nat.mul_one] at h5
  have hle:off+ds.length≤els.length:=by omega
  obtain ⟨g1,g2⟩:=spliceArr hf hk hle hcl ⟨by simpa using h5,h6,h8⟩ (.int .i64 ds.length) (.int .i64 ds.length) fun _ _=>.int _ _
  refine ⟨_,_,ρ,fin ?_,g2⟩
  rw [hxa,hya,Nat.mul_one]
  have:=run_copy_cells (P:=P) w t t2 o.type e (ρ k).block ((ρ k).off+off) len cap ⟨b,off',none⟩ ds.length cap' vs hu hinfo (by rw [h5];exact (Nat.min_eq_left hlen).symm)
   (fun q u hq=>by rw [addr_add];exact (h7 q u hq).1) (fun q hq=>by obtain ⟨u,hu⟩:=(g1 q hq).1;simp [hu]) (fun q hq=>(g1 q hq).2.1) h6
  rw [h5] at this
  exact this
def CallS (P:Program) (f:Nat) (as:List D) (L:List Ob) (KP:D→Prop) (KW:D→List Ob→Prop):Prop:=
 (∃ spec,Meets P f spec∧stripLK as fun as=>∃ d,spec as [] d []∧KP d) ∨
 (∃ d L', (∀ (w : World) (ρ : Pl) (vs : List Value), Fits w ρ L → RepL w (foot ρ L) ρ L as vs →
     Calls P f vs.toArray w fun e w'=>∃ v ρ',e= .returned v∧Post w ρ L d L' v w' ρ')∧Callable P f∧KW d L')
def callK (P:Program) (σ:List (Nat×D)) (L:List Ob) (f:D) (args:List Operand) (KP:D→Prop) (KW:D→List Ob→Prop):Prop:=
 match f with
 | .fn fid caps=>evalLK σ args fun as=>VS (CallS P fid (as++caps) L KP KW)
 | _=>False
def builtinK (T:Tab) (b:Builtin) (σ:List (Nat×D)) (L:List Ob) (args:List Operand) (ts:List TypeId) (KP:D→Prop) (KR:D→Prop) (KW:D→List Ob→Prop):Prop:=
 match b with
 | .len=>match args with
  | [x]=>match ts with
   | [t]=>lenOp T t (evalD σ x) KP
   | _=>False
  | _=>False
 | .append=>match args with
  | [x,y]=>match ts with
   | [t,t2]=>appendK T t t2 (evalD σ x) (evalD σ y) L KW
   | _=>False
  | _=>False
 | .copy=>match args with
  | [x,y]=>match ts with
   | [t,_]=>copyK T t (evalD σ x) (evalD σ y) L KW
   | _=>False
  | _=>False
 | .max=>match args with
  | [x,y]=>minMaxK true (evalD σ x) (evalD σ y) KP
  | _=>False
 | .min=>match args with
  | [x,y]=>minMaxK false (evalD σ x) (evalD σ y) KP
  | _=>False
 | _=>False
def loadK (T:Tab) (t:Nat) (x:D) (L:List Ob) (KP KR:D→Prop):Prop:=
 match x with
 | .ptr cs=>match ty T t with
  | some i=>loadPtrK i cs KP
  | none=>False
 | .loc k o=>loadOp T t (.loc k o) L KR
 | .aloc k n i o=>loadOp T t (.aloc k n i o) L KR
 | .cloc k o=>loadOp T t (.cloc k o) L KR
 | _=>False
def convOp (T:Tab) (i j:TI) (same:Bool) (x:D) (L:List Ob) (KP:D→Prop) (KW:D→List Ob→Prop):Prop:=
 match i.d with
 | .slice e=>match ty T e with
  | some ie=>match ie.d with
   | .int .u8=>match j.d with
    | .str=>bytesStrK x KP
    | .slice _=>match same with
     | true=>convBytesK x L KW
     | false=>False
    | _=>False
   | _=>False
  | none=>False
 | .str=>match j.d with
  | .slice e=>match ty T e with
   | some ie=>match ie.d with
    | .int .u8=>match x with
     | .str l=>VS (ModeS (KP (.sl 1 (l.map fun c=>.int .u8 c.toNat) none)) (KW (.sl 1 (l.map fun c=>.int .u8 c.toNat) (some L.length)) (L++[.spare l.length])))
     | _=>False
    | _=>False
   | none=>False
  | _=>convK i.d j.d x KP
 | _=>convK i.d j.d x KP
def isIfB:D→Bool
 | .nilif=>true
 | .iface _ _=>true
 | _=>false
def ifBinK (P:Program) (T:Tab) (op:BinOp) (t:Nat) (x:D) (y:Operand) (yd:D) (KP:D→Prop):Prop:=
 match op with
 | .eql=>ifCmpK P T t x y yd fun b=>KP (.bool b)
 | .neq=>ifCmpK P T t x y yd fun b=>KP (.bool (!b))
 | _=>False
theorem ifBin_sound {P:Program} {T:Tab} (hT:TabOk P T) {op:BinOp} {t t':TypeId} {x y:Operand} {σ:List (Nat×D)} {K:D→Prop} {o:Oper} (ho:o.op= .binOp op t x y t')
  (h:ifBinK P T op t (evalD σ x) y (evalD σ y) K):∃ d,(∀ L,OpOk P o σ L d L)∧K d:=by
 unfold ifBinK at h
 split at h<;>try exact h.elim
 ·obtain ⟨b,h1,h2⟩:=ifCmp_sound hT h .eql (.inl rfl)
  refine ⟨_,OpOk.of_pure fun a w ρ L hf he=>?_,h2⟩
  obtain ⟨e0,e1,e2⟩:=h1 a w ρ L he
  refine ⟨.bool b,?_,.pure _ _ (.bool _)⟩
  have hb:(binOp .eql t (a.eval x) (a.eval y)).run P w= .ok (.bool b) w:=by
   have:(do pure (.bool (← Op.equal t (a.eval x) (a.eval y))):Sem Value).run P w= .ok (.bool b) w:=by simp only [Sem.run_bind,e2,Result.andThen,Sem.run_pure]
   rcases e0 with e0 | ⟨s,u,e0⟩<;>rw [e0] at this ⊢<;>exact this
  simp only [execOp,ho,Sem.run_bind,e1,hb,Result.andThen,Sem.run_pure]
 ·obtain ⟨b,h1,h2⟩:=ifCmp_sound hT h .neq (.inr rfl)
  refine ⟨_,OpOk.of_pure fun a w ρ L hf he=>?_,h2⟩
  obtain ⟨e0,e1,e2⟩:=h1 a w ρ L he
  refine ⟨.bool (!b),?_,.pure _ _ (.bool _)⟩
  have hb:(binOp .neq t (a.eval x) (a.eval y)).run P w= .ok (.bool (!b)) w:=by
   have:(do pure (.bool (!(← Op.equal t (a.eval x) (a.eval y)))):Sem Value).run P w= .ok (.bool (!b)) w:=by simp only [Sem.run_bind,e2,Result.andThen,Sem.run_pure]
   rcases e0 with e0 | ⟨s,u,e0⟩<;>rw [e0] at this ⊢<;>exact this
  simp only [execOp,ho,Sem.run_bind,e1,hb,Result.andThen,Sem.run_pure]
def opK (P:Program) (T:Tab) (σ:List (Nat×D)) (L:List Ob) (op:Op) (KP:D→Prop) (KR:D→Prop) (KW:D→List Ob→Prop):Prop:=
 match op with
 | .move x=>forceD (evalD σ x) KP
 | .assign x=>forceD (evalD σ x) KP
 | .pick c x y=>pickK (evalD σ c) (evalD σ x) (evalD σ y) KP
 | .alloc t=>allocOp T t L KW
 | .box _ x=>boxOp (evalD σ x) L KW
 | .build t ps=>buildK T t ps.toList σ KP
 | .buildSlice t len ps=>VS (ModeS (VS (ModeS (buildSliceOp T t len ps.toList σ KP) (buildArrOp T t len ps.toList σ L KW))) (buildTokOp T t len ps.toList σ L KW))
 | .load t x=>match x with
  | .global g=>loadGK T t g KP
  | x=>loadK T t (evalD σ x) L KP KR
 | .store t x v=>storeOp T t (evalD σ x) (evalD σ v) L KW
 | .nilCheck x=>nilK (evalD σ x) KP
 | .binOp op t x y _=>match isIfB (evalD σ x) with
  | true=>ifBinK P T op t (evalD σ x) y (evalD σ y) KP
  | false=>binTK P T op t (evalD σ x) (evalD σ y) KP
 | .makeInterface t x=>mkIfaceK T t (evalD σ x) KP
 | .unOp op _ x=>unK op (evalD σ x) KP
 | .convert s t x=>match ty T s with
  | some i=>match ty T t with
   | some j=>match cslB (evalD σ x) with
    | some (k,off,len)=>cslStrK T i j k off len L KR
    | none=>convOp T i j (Nat.beq s t) (evalD σ x) L KP KW
   | none=>False
  | none=>False
 | .makeFunc fn first captured=>makeFuncK fn first.toList captured.toList σ KP
 | .makeMap t r=>makeMapOp T t r L KW
 | .mapUpdate t m k v=>mapSetK T t (evalD σ m) (evalD σ k) (evalD σ v) L KW
 | .insert t m k v=>mapSetK T t (evalD σ m) (evalD σ k) (evalD σ v) L KW
 | .lookup t m k ok=>lookupK T t (evalD σ m) (evalD σ k) ok L KR
 | .makeSlice t x y=>VS (ModeS (makeSliceOp T t (evalD σ x) (evalD σ y) KP) (makeArrOp T t (evalD σ x) (evalD σ y) L KW))
 | .slice t x lo hi mx=>sliceOp T σ t (evalD σ x) lo hi mx KP
 | .fieldAddr s x f=>fieldAddrK T s f (evalD σ x) KP
 | .field s x f=>fieldK T s f (evalD σ x) KP
 | .indexAddr t x i=>match x with
  | .global g=>indexGK T t g (evalD σ i) KP
  | x=>indexAddrOp T t (evalD σ x) (evalD σ i) KP
 | .index t x i=>indexOp T t (evalD σ x) (evalD σ i) KP
 | .extract x n=>match evalD σ x with
  | .tup ds=>nthK n ds fun d=>forceD d KP
  | _=>False
 | .call c=>match c.callee with
  | .builtin b=>builtinK T b σ L c.args.toList c.argTypes.toList KP KR KW
  | .value f=>callK P σ L (evalD σ f) c.args.toList KP KW
  | _=>False
 | _=>False
theorem call_sound {P:Program} {f:Operand} {args:Array Operand} {ts:Array TypeId} {σ:List (Nat×D)} {L:List Ob} {KP:D→Prop} {KW:D→List Ob→Prop} {o:Oper}
  (ho:o.op= .call { callee:=.value f,args:=args,argTypes:=ts }) (h:callK P σ L (evalD σ f) args.toList KP KW) :
  (∃ d,(∀ L,OpOk P o σ L d L)∧KP d)∨(∃ d L',OpOk P o σ L d L'∧KW d L'):=by
 unfold callK at h
 split at h<;>try exact h.elim
 rename_i fid caps hfn
 have h:=(evalLK_eq h).out
 have key:∀ (a:Act) (w:World) (ρ:Pl) (L:List Ob),Env w ρ L σ a→Callable P fid→∃ vs:List Value,(execOp a.eval o).run P w= .ok (.enter fid vs.toArray) w ∧
   RepL w (foot ρ L) ρ L (args.toList.map (evalD σ)++caps) vs:=by
  intro a w ρ L he ⟨fn,h1,h2,h3⟩
  have hv:=he.eval f
  rw [hfn] at hv
  obtain ⟨cs,h4,h5,h6⟩:=hv.fn_inv
  refine ⟨args.toList.map a.eval++cs,?_,by simp [h5],fun i d v hd hv=>?_⟩
  ·simp only [execOp,ho,resolve,h4,Deferred.ofValue,Sem.run_bind,Sem.run_pure,Result.andThen,invoke,callFunc]
   have:(program:Sem Program).run P w= .ok P w:=rfl
   simp only [Sem.run_bind,this,Result.andThen,h1,h2,h3]
   simp
  ·rcases Nat.lt_or_ge i args.toList.length with hlt | hge
   ·rw [List.getElem?_append_left (by simpa using hlt)] at hd hv
    exact he.evalL _ i d v hd hv
   ·rw [List.getElem?_append_right (by simpa using hge)] at hd hv
    simp only [List.length_map] at hd hv
    exact h6 _ d v hd hv
 rcases h with ⟨spec,hm,h⟩ | ⟨d,L',hcall,hcb,hK⟩
 ·obtain ⟨as',hpure,d,hs,hK⟩:=stripLK_eq h
  refine .inl ⟨d,fun L=>?_,hK⟩
  intro a w ρ next Q hf he hn
  obtain ⟨vs,h1,h2,h3⟩:=key a w ρ L he hm.1
  unfold Oper.wp
  rw [h1,Oper.upon_enter]
  refine (pureCall hm hs hf (by rw [h2];exact hpure.1) fun i d v hd hv=>?_).mono ?_
  ·have hlt:i < (args.toList.map (evalD σ)++caps).length:=by rw [hpure.1];exact (List.getElem?_eq_some_iff.1 hd).1
   exact (hpure.2 i _ d (List.getElem?_eq_getElem hlt) hd).2 _ _ _ _ _ (h3 i _ v (List.getElem?_eq_getElem hlt) hv)
  ·rintro e w' ⟨v,rfl,hext,hrep⟩
   exact hn _ _ _ (.grow hf hext (.pure _ _ hrep))
 ·refine .inr ⟨d,L',?_,hK⟩
  intro a w ρ next Q hf he hn
  obtain ⟨vs,h1,h2⟩:=key a w ρ L he hcb
  unfold Oper.wp
  rw [h1,Oper.upon_enter]
  refine (hcall w ρ vs hf h2).mono ?_
  rintro e w' ⟨v,ρ',rfl,hp⟩
  exact hn _ _ _ hp
theorem builtin_sound {P:Program} {T:Tab} (hT:TabOk P T) {b:Builtin} {args:Array Operand} {ts:Array TypeId} {σ:List (Nat×D)} {L:List Ob} {KP:D→Prop} {KR:D→Prop} {KW:D→List Ob→Prop} {o:Oper}
  (ho:o.op= .call { callee:=.builtin b,args:=args,argTypes:=ts }) (h:builtinK T b σ L args.toList ts.toList KP KR KW) :
  (∃ d,(∀ L,OpOk P o σ L d L)∧KP d)∨(∃ d,OpOk P o σ L d L∧KR d)∨(∃ d L',OpOk P o σ L d L'∧KW d L'):=by
 have harr:∀ {α:Type} {a:Array α} {l:List α},a.toList=l→a=l.toArray:=fun h=>by rw [← h]
 unfold builtinK at h
 split at h<;>try exact h.elim
 ·split at h<;>try exact h.elim
  rename_i x hx
  split at h<;>try exact h.elim
  rename_i t ht
  rw [harr hx,harr ht] at ho
  exact .inl (len_sound hT ho h)
 ·split at h<;>try exact h.elim
  rename_i x y hx
  split at h<;>try exact h.elim
  rename_i t t2 ht
  rw [harr hx,harr ht] at ho
  exact .inr (.inr (appendK_sound hT ho h))
 ·split at h<;>try exact h.elim
  rename_i x y hx
  split at h<;>try exact h.elim
  rename_i t t2 ht
  rw [harr hx,harr ht] at ho
  exact .inr (.inr (copy_sound hT ho h))
 ·split at h<;>try exact h.elim
  rename_i x y hx
  rw [harr hx] at ho
  exact .inl (minMax_sound (isMax:=true) ho h)
 ·split at h<;>try exact h.elim
  rename_i x y hx
  rw [harr hx] at ho
  exact .inl (minMax_sound (isMax:=false) ho h)
theorem opK_sound {P:Program} {T:Tab} (hT:TabOk P T) {σ:List (Nat×D)} {L:List Ob} {o:Oper} {KP:D→Prop} {KR:D→Prop} {KW:D→List Ob→Prop}
  (h:opK P T σ L o.op KP KR KW):(∃ d,(∀ L,OpOk P o σ L d L)∧KP d)∨(∃ d,OpOk P o σ L d L∧KR d)∨(∃ d L',OpOk P o σ L d L'∧KW d L'):=by
 generalize hop:o.op=op at h
 cases op<;>simp only [opK] at h<;>try exact h.elim
 case move x=>exact .inl (move_sound (.inl hop) h)
 case assign x=>exact .inl (move_sound (.inr hop) h)
 case pick=>exact .inl (pick_sound hop h)
 case alloc=>exact .inr (.inr (alloc_sound hT hop h))
 case box=>exact .inr (.inr (box_sound hop h))
 case build=>exact .inl (build_sound hT hop h)
 case buildSlice=>
  rcases h.out with h | h
  ·rcases h.out with h | h
   ·exact .inl (buildSlice_sound hT hop h)
   ·exact .inr (.inr (buildArr_sound hT hop h))
  ·exact .inr (.inr (buildTok_sound hT hop h))
 case load t x=>
  split at h
  ·exact .inl (loadG_sound hT hop h)
  rename_i hnx
  unfold loadK at h
  split at h<;>try exact h.elim
  ·rename_i cs hx
   split at h<;>try exact h.elim
   rename_i i hi
   exact .inl (loadPtr_sound hT hop hi hx h)
  ·rename_i hx
   rw [← hx] at h
   exact .inr (.inl (load_sound hT hop h))
  ·rename_i hx
   rw [← hx] at h
   exact .inr (.inl (load_sound hT hop h))
  ·rename_i hx
   rw [← hx] at h
   exact .inr (.inl (load_sound hT hop h))
 case store=>exact .inr (.inr (store_sound hT hop h))
 case nilCheck=>exact .inl (nilK_sound hop h)
 case binOp=>
  split at h
  ·exact .inl (ifBin_sound hT hop h)
  ·exact .inl (binTK_sound hT hop h)
 case makeInterface=>exact .inl (mkIface_sound hT hop h)
 case unOp=>exact .inl (unK_sound hop h)
 case convert s t x=>
  split at h<;>try exact h.elim
  rename_i i hi
  split at h<;>try exact h.elim
  rename_i j hj
  split at h
  ·rename_i k off len hx
   exact .inr (.inl (cslStr_sound hT (hT _ _ hi) (hT _ _ hj) hop (cslB_eq hx) h))
  unfold convOp at h
  split at h
  ·rename_i e hd
   split at h<;>try exact h.elim
   rename_i ie hie
   split at h<;>try exact h.elim
   rename_i hde
   split at h<;>try exact h.elim
   ·rename_i hdj
    exact .inl (bytesStr_sound (hT _ _ hi) (hT _ _ hj) (hT _ _ hie) hd hde hdj hop h)
   ·split at h<;>try exact h.elim
    rename_i hst
    have hst:=Nat.eq_of_beq_eq_true hst
    subst hst
    exact .inr (.inr (convBytes_sound (under_slice (hT _ _ hi) hd) (under_int (hT _ _ hie) hde) hop h))
  ·rename_i hdi
   split at h
   ·rename_i e hd
    split at h<;>try exact h.elim
    rename_i ie hie
    split at h<;>try exact h.elim
    rename_i hde
    split at h<;>try exact h.elim
    rename_i l hx
    rcases VS.out h with h | h
    ·exact .inl (strBytesPure_sound (hT _ _ hi) (hT _ _ hj) (hT _ _ hie) hdi hd hde hx hop h)
    ·exact .inr (.inr (strBytes_sound (hT _ _ hi) (hT _ _ hj) (hT _ _ hie) hdi hd hde hx hop h))
   ·exact .inl (convK_sound (hT _ _ hi) (hT _ _ hj) hop h)
  ·exact .inl (convK_sound (hT _ _ hi) (hT _ _ hj) hop h)
 case makeFunc=>exact .inl (makeFunc_sound hop h)
 case makeMap=>exact .inr (.inr (makeMap_sound (T:=T) hop h))
 case mapUpdate=>exact .inr (.inr (mapSet_sound hT (.inl hop) h))
 case insert=>exact .inr (.inr (mapSet_sound hT (.inr hop) h))
 case lookup=>exact .inr (.inl (lookup_sound hT hop h))
 case makeSlice=>
  rcases h.out with h | h
  ·exact .inl (makeSlice_sound hT hop h)
  ·exact .inr (.inr (makeArr_sound hT hop h))
 case slice=>exact .inl (slice_sound hT hop h)
 case fieldAddr=>exact .inl (fieldAddr_sound hT hop h)
 case field=>exact .inl (field_sound hT hop h)
 case indexAddr=>
  split at h
  ·exact .inl (indexG_sound hT hop h)
  ·exact .inl (indexAddr_sound hT hop h)
 case index=>exact .inl (index_sound hT hop h)
 case extract=>exact .inl (extract_sound hop h)
 case call c=>
  obtain ⟨callee,args,ts⟩:=c
  dsimp only at h
  split at h<;>try exact h.elim
  ·exact builtin_sound hT hop h
  ·rcases call_sound hop h with h | h
   ·exact .inl h
   ·exact .inr (.inr h)
theorem opK_one {P:Program} {T:Tab} (hT:TabOk P T) {σ:List (Nat×D)} {L:List Ob} {o:Oper} {K:D→List Ob→Prop}
  (h:opK P T σ L o.op (fun d=>K d L) (fun d=>K d L) K):∃ d L',OpOk P o σ L d L'∧K d L':=by
 rcases opK_sound hT h with ⟨d,h1,h2⟩ | ⟨d,h1,h2⟩ | h
 ·exact ⟨d,L,h1 L,h2⟩
 ·exact ⟨d,L,h1,h2⟩
 ·exact h
def putS (n:Nat) (dst:Option Nat) (d:D) (σ:List (Nat×D)) (K:List (Nat×D)→Prop):Prop:=
 match dst with
 | none=>K σ
 | some t=>match Nat.blt t n with
  | true=>K ((t,d)::σ)
  | false=>False
def dstOf (all:List Oper) (j:Nat):Option Nat:=
 match all,j with
 | [],_=>none
 | o::_,0=>o.dst
 | _::os,j+1=>dstOf os j
def guardK (all:List Oper) (g:Option (Nat×Bool)) (σ:List (Nat×D)) (run skip:List (Nat×D)→Prop):Prop:=
 match g with
 | none=>run σ
 | some (j,want)=>match dstOf all j with
  | none=>False
  | some t=>match look σ t with
   | .tt=>match want with
    | true=>run σ
    | false=>skip σ
   | .ff=>match want with
    | true=>skip σ
    | false=>run σ
   | .bool b=>match want with
    | true=>VS (SplitS b (run ((t,.tt)::σ)) (skip ((t,.ff)::σ)))
    | false=>VS (SplitS b (skip ((t,.tt)::σ)) (run ((t,.ff)::σ)))
   | .tup ds=>match ds with
    | []=>skip σ
    | _=>False
   | _=>False
def eqNil (T:Tab) (σ:List (Nat×D)) (op:Op):Option (List D):=
 match op with
 | .binOp .eql t x (.const (.slice none 0 0)) _=>match ty T t with
  | some i=>match i.d with
   | .slice _=>match evalD σ x with
    | .sl _ ds none=>some ds
    | _=>none
   | _=>none
  | none=>none
 | _=>none
def NilS (ds:List D) (K:D→Prop):Prop:=(ds=[]→K .tt∧K .ff)∧(ds≠[]→K .ff)
abbrev OpsM:Type:=List (Nat×D)→List Ob→(List (Nat×D)→List Ob→Prop)→Prop
def opsNil:OpsM:=fun σ L K=>K σ L
def opsCons (P:Program) (T:Tab) (n:Nat) (all:List Oper) (o:Oper) (_:List Oper) (ih:OpsM):OpsM:=fun σ L K=>guardK all o.guard σ
 (fun σ=>match eqNil T σ o.op with
   | some ds=>VS (NilS ds fun d=>putS n o.dst d σ fun σ=>ih σ L K)
   | none=>opK P T σ L o.op (fun d=>putS n o.dst d σ fun σ=>ih σ L K) (fun d=>putS n o.dst d σ fun σ=>ih σ L K) (fun d L=>putS n o.dst d σ fun σ=>ih σ L K))
 (fun σ=>putS n o.dst (.tup []) σ fun σ=>ih σ L K)
def opsK (P:Program) (T:Tab) (n:Nat) (all:List Oper):List Oper→List (Nat×D)→List Ob→(List (Nat×D)→List Ob→Prop)→Prop:=
 @List.rec Oper (fun _=>OpsM) opsNil (opsCons P T n all)
theorem opsK_cons {P : Program} {T : Tab} {n : Nat} {all : List Oper} {o : Oper} {os : List Oper} {σ : List (Nat × D)} {L : List Ob} {K : List (Nat × D) → List Ob → Prop} : opsK P T n all (o :: os) σ L K = guardK all o.guard σ
      (fun σ=>match eqNil T σ o.op with
        | some ds=>VS (NilS ds fun d=>putS n o.dst d σ fun σ=>opsK P T n all os σ L K)
        | none=>opK P T σ L o.op (fun d=>putS n o.dst d σ fun σ=>opsK P T n all os σ L K) (fun d=>putS n o.dst d σ fun σ=>opsK P T n all os σ L K) (fun d L=>putS n o.dst d σ fun σ=>opsK P T n all os σ L K))
      (fun σ=>putS n o.dst (.tup []) σ fun σ=>opsK P T n all os σ L K):=rfl
theorem eqNil_eq {P:Program} {T:Tab} (hT:TabOk P T) {σ:List (Nat×D)} {op:Op} {ds:List D} (h:eqNil T σ op=some ds) :
  ∃ t x m e e',op= .binOp .eql t x (.const (.slice none 0 0)) m∧P.underlying t=some (.slice e)∧evalD σ x= .sl e' ds none:=by
 unfold eqNil at h
 split at h<;>try cases h
 rename_i t x m
 split at h<;>try cases h
 rename_i i hi
 split at h<;>try cases h
 rename_i e hd
 split at h<;>try cases h
 rename_i e' hx
 exact ⟨t,x,m,e,e',rfl,under_slice (hT _ _ hi) hd,hx⟩
structure Entry where
 w:World
 ρ:Pl
 L:List Ob
def ARel (n:Nat) (E:Entry) (σ:List (Nat×D)) (L:List Ob) (a:Act) (w:World):Prop:=
 ∃ ρ,a.tmps.size=n∧a.defers=[]∧Fits w ρ L∧Env w ρ L σ a∧Ext (own E.ρ E.L) E.w w∧Fresh E.w (own E.ρ E.L) (own ρ L)∧Compat E.ρ E.L ρ L
theorem Post.env {w w':World} {ρ ρ':Pl} {L L':List Ob} {d:D} {v:Value} {σ:List (Nat×D)} {a:Act} (hp:Post w ρ L d L' v w' ρ') (he:Env w ρ L σ a):Env w' ρ' L' σ a:=
 he.keep hp.ext.foot (hp.fresh.foot hp.compat.hid) hp.compat
theorem ARel.step {n:Nat} {E:Entry} {σ:List (Nat×D)} {L L':List Ob} {a:Act} {w w':World} {ρ ρ':Pl} {d:D} {v:Value} {dst:Option Nat}
  (hs:a.tmps.size=n) (hd:a.defers=[]) (hf:Fits w ρ L) (he:Env w ρ L σ a) (hx:Ext (own E.ρ E.L) E.w w) (hfr:Fresh E.w (own E.ρ E.L) (own ρ L)) (hc:Compat E.ρ E.L ρ L)
  (hp:Post w ρ L d L' v w' ρ') {K:List (Nat×D)→Prop} (h:putS n dst d σ K):∃ σ',K σ'∧ARel n E σ' L' (a.put dst v) w':=by
 have hx':Ext (own E.ρ E.L) E.w w':=hx.trans hp.ext fun x y hxl ho=>(hfr x y ho).resolve_right (by omega)
 have hfr':Fresh E.w (own E.ρ E.L) (own ρ' L'):=fun b off ho=>by
  rcases hp.fresh b off ho with h | h
  ·exact hfr b off h
  ·exact .inr (Nat.le_trans hx.size h)
 unfold putS at h
 split at h
 ·exact ⟨σ,h,ρ',hs,hd,hp.fits,hp.env he,hx',hfr',hc.trans hp.compat⟩
 ·rename_i t
  split at h<;>try exact h.elim
  rename_i hlt
  have hlt:t < n:=by simpa [Nat.blt_eq] using hlt
  exact ⟨_,h,ρ',by simp [Act.put,hs],hd,hp.fits,(hp.env he).put (by omega) hp.rep,hx',hfr',hc.trans hp.compat⟩
theorem env_refine {w:World} {ρ:Pl} {L:List Ob} {σ:List (Nat×D)} {a:Act} {t:Nat} {d:D} (he:Env w ρ L σ a) (hd:Rep w (foot ρ L) ρ L d (a.tmps.getD t undef)):Env w ρ L ((t,d)::σ) a:=by
 intro s
 simp only [look]
 split
 ·rename_i h
  have:=Nat.eq_of_beq_eq_true h
  subst this
  exact hd
 ·exact he s
theorem dstOf_eq:∀ (all:List Oper) (j:Nat),(all[j]?).bind (·.dst)=dstOf all j
 | [],j=>by simp [dstOf]
 | o::os,0=>by simp [dstOf]
 | o::os,j+1=>by simpa [dstOf] using dstOf_eq os j
theorem yielded_eq {all:List Oper} {a:Act} {j t:Nat} {b:Bool} (h:dstOf all j=some t) (hb:a.tmps.getD t undef= .bool b):yielded all.toArray a.tmps j=some b:=by
 unfold yielded
 have h1:(all.toArray[j]?).bind (·.dst)=some t:=by rw [List.getElem?_toArray,dstOf_eq,h]
 rw [h1]
 simp only [Option.bind_some]
 have:a.tmps[t]?=some (.bool b):=by
  rw [Array.getD_eq_getD_getElem?] at hb
  cases hg:a.tmps[t]? with
  | none=>rw [hg] at hb;simp [undef] at hb
  | some v=>rw [hg] at hb;simp at hb;rw [hb]
 rw [this]
theorem undef_rep (w:World) (F:Nat→Nat→Prop):RepP w F (.tup []) undef:=.tup [] [] rfl (by simp)
theorem yielded_none {all:List Oper} {a:Act} {j t:Nat} (h:dstOf all j=some t) (hb:a.tmps.getD t undef=undef):yielded all.toArray a.tmps j=none:=by
 unfold yielded
 have h1:(all.toArray[j]?).bind (·.dst)=some t:=by rw [List.getElem?_toArray,dstOf_eq,h]
 rw [h1]
 simp only [Option.bind_some]
 rw [Array.getD_eq_getD_getElem?] at hb
 cases hg:a.tmps[t]? with
 | none=>rfl
 | some v=>
  rw [hg] at hb
  simp at hb
  subst hb
  rfl
theorem Rep.undef_inv {w:World} {F:Nat→Nat→Prop} {ρ:Pl} {L:List Ob} {v:Value} (h:Rep w F ρ L (.tup []) v):v=undef:=by
 obtain ⟨vs,rfl,h1,_⟩:=h.tup_inv
 have:=List.eq_nil_of_length_eq_zero h1
 subst this
 rfl
def Sched (ops:Array Oper):List Nat→List Nat→Prop
 | dn,[]=>∀ i,i < ops.size→i∈dn
 | dn,i::π=>i < ops.size∧i∉dn∧(∀ o,ops[i]?=some o→∀ e∈o.after.toList,Region.binds .any e=true→e.on∈dn)∧Sched ops (i::dn) π
theorem filter_lt {p q:Nat→Bool} (h:∀ x,q x=true→p x=true) {i:Nat} (hp:p i=true) (hq:q i=false):∀ {l:List Nat},i∈l→(l.filter q).length < (l.filter p).length
 | [],hi=>by simp at hi
 | x::l,hi=>by
  have hle:∀ l:List Nat,(l.filter q).length≤(l.filter p).length:=by
   intro l
   induction l with
   | nil=>simp
   | cons x l ih=>
    simp only [List.filter_cons]
    cases hqx:q x with
    | true=>simp [h x hqx];exact ih
    | false=>cases p x<;>simp<;>omega
  simp only [List.filter_cons]
  rcases List.mem_cons.1 hi with rfl | hi
  ·simp [hp,hq];exact Nat.lt_succ_of_le (hle l)
  ·have ih:=filter_lt h hp hq hi
   cases hqx:q x with
   | true=>simp [h x hqx];exact ih
   | false=>cases p x<;>simp<;>omega
theorem sched_go {ops:Array Oper} (hback:∀ (i:Nat) o,ops[i]?=some o→∀ e∈o.after.toList,Region.binds .any e=true→e.on < i) :
  ∀ (fuel t:Nat) (listed:Array Bool) (dn:List Nat),listed.size=ops.size→(∀ i,i < ops.size→(listed.getD i true=true↔i∈dn)) →
   ((List.range ops.size).filter fun i=>!dn.contains i).length≤fuel→Sched ops dn (Region.linearise.go .any ops fuel t listed [])
 | 0,t,listed,dn,hs,hl,hf=>by
  simp only [Region.linearise.go,List.reverse_nil,Sched]
  intro i hi
  have:(List.range ops.size).filter (fun i=>!dn.contains i)=[]:=List.eq_nil_of_length_eq_zero (by omega)
  rw [List.filter_eq_nil_iff] at this
  have:=this i (List.mem_range.2 hi)
  simpa using this
 | fuel+1,t,listed,dn,hs,hl,hf=>by
  simp only [Region.linearise.go]
  generalize hrs:((List.range ops.size).filter fun i=>!listed.getD i true && ((ops[i]?).map (·.after.all fun e=>!Region.binds .any e || listed.getD e.on false)).getD false)=rs
  have mem:∀ i,i∈rs↔i < ops.size∧listed.getD i true=false∧∃ o,ops[i]?=some o∧∀ e∈o.after.toList,Region.binds .any e=true→listed.getD e.on false=true:=by
   intro i
   rw [← hrs]
   simp only [List.mem_filter,List.mem_range,Bool.and_eq_true,Bool.not_eq_true']
   constructor
   ·rintro ⟨h1,h2,h3⟩
    refine ⟨h1,h2,ops[i],Array.getElem?_eq_getElem h1,fun e he hb=>?_⟩
    rw [Array.getElem?_eq_getElem h1] at h3
    simp only [Option.map_some,Option.getD_some,Array.all_eq_true_iff_forall_mem] at h3
    have:=h3 e (by simpa using he)
    simpa [hb] using this
   ·rintro ⟨h1,h2,o,h3,h4⟩
    refine ⟨h1,h2,?_⟩
    rw [h3]
    simp only [Option.map_some,Option.getD_some,Array.all_eq_true_iff_forall_mem]
    intro e he
    cases hb:Region.binds .any e with
    | false=>simp
    | true=>simp [h4 e (by simpa using he) hb]
  have hdn:∀ j,listed.getD j false=true→j∈dn:=fun j hj=>by
   have hlt:j < listed.size:=by
    rcases Nat.lt_or_ge j listed.size with h | h
    ·exact h
    ·rw [Array.getD_eq_getD_getElem?,Array.getElem?_eq_none h] at hj;simp at hj
   refine (hl j (by omega)).1 ?_
   rw [Array.getD_eq_getD_getElem?,Array.getElem?_eq_getElem hlt] at hj ⊢
   simpa using hj
  have hnd:∀ j,j∈dn→j < ops.size→listed.getD j false=true:=fun j hj hlt=>by
   have:=(hl j hlt).2 hj
   rw [Array.getD_eq_getD_getElem?,Array.getElem?_eq_getElem (by omega)] at this ⊢
   simpa using this
  cases hi:rs[t % rs.length]? with
  | none=>
   have hnil:rs=[]:=by
    cases rs with
    | nil=>rfl
    | cons x xs=>
     have hlt:t % (x::xs).length < (x::xs).length:=Nat.mod_lt _ (by simp)
     rw [List.getElem?_eq_getElem hlt] at hi
     cases hi
   simp only [List.reverse_nil,Sched]
   intro i hi
   induction i using Nat.strongRecOn with
   | _ i ih=>
    rcases Classical.em (i∈dn) with h | h
    ·exact h
    ·exfalso
     have:i∈rs:=(mem i).2 ⟨hi,by
      cases hb:listed.getD i true with
      | false=>rfl
      | true=>exact (h ((hl i hi).1 hb)).elim,ops[i],Array.getElem?_eq_getElem hi,fun e he hb=>by
      have hlt:=hback i _ (Array.getElem?_eq_getElem hi) e he hb
      exact hnd _ (ih e.on hlt (by omega)) (by omega)⟩
     rw [hnil] at this
     simp at this
  | some i=>
   simp only []
   rw [linearise_go_acc,List.reverse_singleton,List.singleton_append]
   obtain ⟨h1,h2,o,h3,h4⟩:=(mem i).1 (List.mem_of_getElem? hi)
   have hni:i∉dn:=fun h=>by
    have:=(hl i h1).2 h
    rw [h2] at this
    cases this
   refine ⟨h1,hni,fun o' ho' e he hb=>?_,sched_go hback fuel _ _ (i::dn) (by simpa using hs) (fun j hj=>?_) ?_⟩
   ·rw [h3] at ho'
    cases ho'
    exact hdn _ (h4 e he hb)
   ·rw [Array.getD_eq_getD_getElem?,Array.getElem?_setIfInBounds]
    split
    ·rename_i hij
     subst hij
     simp [hs,hj]
    ·rename_i hij
     rw [← Array.getD_eq_getD_getElem?,hl j hj]
     simp [Ne.symm hij]
   ·have:=filter_lt (p:=fun i=>!dn.contains i) (q:=fun j=>!(i::dn).contains j) (fun x hx=>by simp at hx ⊢;exact hx.2) (i:=i) (by simpa using hni) (by simp) (List.mem_range.2 h1)
    omega
theorem sched_any {ops:Array Oper} (hback:∀ (i:Nat) o,ops[i]?=some o→∀ e∈o.after.toList,Region.binds .any e=true→e.on < i) (t:Nat):Sched ops [] (Region.schedule true ops t):=by
 simp only [Region.schedule,Bool.true_or,if_true,Region.linearise]
 refine sched_go hback _ _ _ _ (by simp) (fun i hi=>?_) ?_
 ·rw [Array.getD_eq_getD_getElem?,Array.getElem?_replicate,if_pos hi]
  simp
 ·refine Nat.le_trans (List.length_filter_le _ _) ?_
  simp
def bit:List Bool→Nat→Bool
 | [],_=>false
 | b::_,0=>b
 | _::l,j+1=>bit l j
def orK:List Bool→List Bool→(List Bool→Prop)→Prop
 | [],l,K=>K l
 | a::l,[],K=>K (a::l)
 | a::l,b::m,K=>match a with
  | true=>orK l m fun r=>K (true::r)
  | false=>match b with
   | true=>orK l m fun r=>K (true::r)
   | false=>orK l m fun r=>K (false::r)
theorem orK_eq:∀ {l m:List Bool} {K:List Bool→Prop},orK l m K→∃ r,K r∧∀ j,bit r j=(bit l j || bit m j)
 | [],m,K,h=>⟨m,h,fun j=>by simp [bit]⟩
 | a::l,[],K,h=>⟨a::l,h,fun j=>by simp [bit]⟩
 | a::l,b::m,K,h=>by
  simp only [orK] at h
  cases a<;>simp only at h
  ·cases b<;>simp only at h
   all_goals
    obtain ⟨r,h1,h2⟩:=orK_eq h
    exact ⟨_,h1,fun j=>by cases j<;>simp [bit,h2]⟩
  ·obtain ⟨r,h1,h2⟩:=orK_eq h
   exact ⟨_,h1,fun j=>by cases j<;>simp [bit,h2]⟩
def setK:Nat→List Bool→(List Bool→Prop)→Prop
 | 0,[],K=>K [true]
 | 0,_::l,K=>K (true::l)
 | j+1,[],K=>setK j [] fun r=>K (false::r)
 | j+1,b::l,K=>setK j l fun r=>K (b::r)
theorem setK_eq:∀ {i:Nat} {l:List Bool} {K:List Bool→Prop},setK i l K→∃ r,K r∧∀ j,bit r j=true→bit l j=true∨j=i
 | 0,[],K,h=>⟨_,h,fun j=>by cases j<;>simp [bit]⟩
 | 0,a::l,K,h=>⟨_,h,fun j=>by
  cases j with
  | zero=>simp
  | succ j=>simp [bit]⟩
 | i+1,[],K,h=>by
  simp only [setK] at h
  obtain ⟨r,h1,h2⟩:=setK_eq h
  refine ⟨_,h1,fun j=>?_⟩
  cases j with
  | zero=>simp [bit]
  | succ j=>simpa [bit] using h2 j
 | i+1,b::l,K,h=>by
  simp only [setK] at h
  obtain ⟨r,h1,h2⟩:=setK_eq h
  refine ⟨_,h1,fun j=>?_⟩
  cases j with
  | zero=>simp only [bit];exact Or.inl
  | succ j=>simpa [bit] using h2 j
structure DI where
 i:Nat
 o:Oper
 m:List Bool
def maskAt:List DI→Nat→List Bool
 | [],_=>[]
 | x::xs,j=>match Nat.beq x.i j with
  | true=>x.m
  | false=>maskAt xs j
def edgesK (done:List DI) (i:Nat):List Edge→List Bool→(List Bool→Prop)→Prop
 | [],m,K=>K m
 | e::es,m,K=>match Region.binds .any e with
  | false=>edgesK done i es m K
  | true=>match Nat.blt e.on i with
   | false=>False
   | true=>orK (maskAt done e.on) m fun m=>setK e.on m fun m=>edgesK done i es m K
def itemsL (is:List Nat):List Oper→List DI→(List DI→Prop)→Prop:=
 @List.rec Nat (fun _=>List Oper→List DI→(List DI→Prop)→Prop) (fun os acc K=>match os with | []=>K acc | _::_=>False)
  (fun i _ ih os acc K=>match os with
    | []=>K acc
    | o::os=>edgesK acc i o.after.toList [] fun m=>ih os (⟨i,o,m⟩::acc) K) is
theorem itemsL_cons {i:Nat} {is:List Nat} {o:Oper} {os:List Oper} {acc:List DI} {K:List DI→Prop}:itemsL (i::is) (o::os) acc K=edgesK acc i o.after.toList [] fun m=>itemsL is os (⟨i,o,m⟩::acc) K:=rfl
def nats:List Nat:=[0,1,2,3,4,5,6,7,8,9,10,11,12,13,14,15,16,17,18,19,20,21,22,23,24,25,26,27,28,29,30,31,32,33,34,35,36,37,38,39,40,41,42,43,44,45,46,47,48,49,50,51,52,53,54,55,56,57,58,59,60,61,62,63,64,65,66,67,68,69,70,71,72,73,74,75,76,77,78,79,80,81,82,83,84,85,86,87,88,89,90,91,92,93,94,95,96,97,98,99,100,101,102,103,104,105,106,107,108,109,110,111,112,113,114,115,116,117,118,119,120,121,122,123,124,125,126,127,128,129,130,131,132,133,134,135,136,137,138,139,140,141,142,143,144,145,146,147,148,149,150,151,152,153,154,155,156,157,158,159,160,161,162,163,164,165,166,167,168,169,170,171,172,173,174,175,176,177,178,179,180,181,182,183,184,185,186,187,188,189,190,191,192,193,194,195,196,197,198,199,200,201,202,203,204,205,206,207,208,209,210,211,212,213,214,215,216,217,218,219,220,221,222,223,224,225,226,227,228,229,230,231,232,233,234,235,236,237,238,239,240,241,242,243,244,245,246,247,248,249,250,251,252,253,254,255,256,257,258,259,260,261,262,263,264,265,266,267,268,269,270,271,272,273,274,275,276,277,278,279,280,281,282,283,284,285,286,287,288,289,290,291,292,293,294,295,296,297,298,299]
set_option maxRecDepth 100000 in
theorem nats_get:∀ (j k:Nat),nats[j]?=some k→k=j:=by
 have h:nats=List.range 300:=by rfl
 intro j k hk
 rw [h] at hk
 obtain ⟨h,h2⟩:=List.getElem?_eq_some_iff.1 hk
 simp at h2
 exact h2.symm
def Ground (done:List DI) (o:Oper) (m:List Bool):Prop:=
 ∀ j,bit m j=true→∃ e∈o.after.toList,Region.binds .any e=true∧(e.on=j∨∃ y∈done,y.i=e.on∧bit y.m j=true)
theorem maskAt_mem:∀ {xs:List DI} {i j:Nat},bit (maskAt xs i) j=true→∃ y∈xs,y.i=i∧bit y.m j=true
 | [],i,j,h=>by simp [maskAt,bit] at h
 | x::xs,i,j,h=>by
  simp only [maskAt] at h
  split at h
  ·rename_i hb
   exact ⟨x,by simp,Nat.eq_of_beq_eq_true hb,h⟩
  ·obtain ⟨y,h1,h2⟩:=maskAt_mem h
   exact ⟨y,by simp [h1],h2⟩
theorem edgesK_eq {done:List DI} {i:Nat} {o:Oper}:∀ {es:List Edge} {m:List Bool} {K:List Bool→Prop},(∀ e∈es,e∈o.after.toList)→Ground done o m→edgesK done i es m K →
  ∃ m',K m'∧Ground done o m'∧∀ e∈es,Region.binds .any e=true→e.on < i
 | [],m,K,_,hg,h=>⟨m,h,hg,by simp⟩
 | e::es,m,K,hes,hg,h=>by
  simp only [edgesK] at h
  split at h
  ·rename_i hb
   obtain ⟨m',h1,h2,h3⟩:=edgesK_eq (fun x hx=>hes x (by simp [hx])) hg h
   exact ⟨m',h1,h2,fun x hx hbx=>by
    rcases List.mem_cons.1 hx with rfl | hx
    ·rw [hb] at hbx;cases hbx
    ·exact h3 x hx hbx⟩
  ·rename_i hb
   split at h
   ·exact h.elim
   ·rename_i hlt
    have hlt:e.on < i:=by simpa [Nat.blt_eq] using hlt
    obtain ⟨r,h1,h2⟩:=orK_eq h
    obtain ⟨r',h3,h4⟩:=setK_eq h1
    obtain ⟨m',h5,h6,h7⟩:=edgesK_eq (fun x hx=>hes x (by simp [hx])) (m:=r') (fun j hj=>by
     rcases h4 j hj with h | h
     ·rw [h2] at h
      rcases Bool.or_eq_true _ _ ▸ h with h | h
      ·obtain ⟨y,h8,h9,h10⟩:=maskAt_mem h
       exact ⟨e,hes e (by simp),hb,.inr ⟨y,h8,h9,h10⟩⟩
      ·exact hg j h
     ·exact ⟨e,hes e (by simp),hb,.inl h.symm⟩) h3
    exact ⟨m',h5,h6,fun x hx hbx=>by
     rcases List.mem_cons.1 hx with rfl | hx
     ·exact hlt
     ·exact h7 x hx hbx⟩
structure Items (all:List Oper) (its:List DI):Prop where
 nodup:(its.map (·.i)).Nodup
 at_:∀ x∈its,all[x.i]?=some x.o
 uniq:∀ x∈its,∀ y∈its,x.i=y.i→x=y
 full:∀ i,i < all.length→∃ x∈its,x.i=i
 ground:∀ x∈its,Ground its x.o x.m
 back:∀ x∈its,∀ e∈x.o.after.toList,Region.binds .any e=true→e.on < x.i
theorem Ground.mono {done done':List DI} {o:Oper} {m:List Bool} (h:∀ x∈done,x∈done') (hg:Ground done o m):Ground done' o m:=fun j hj=>by
 obtain ⟨e,h1,h2,h3⟩:=hg j hj
 exact ⟨e,h1,h2,h3.imp id fun ⟨y,h4,h5⟩=>⟨y,h _ h4,h5⟩⟩
theorem itemsL_eq {all:List Oper}:∀ {os:List Oper} {i:Nat} {is:List Nat} {acc:List DI} {K:List DI→Prop},(∀ j k,is[j]?=some k→k=i+j)→(∀ j,os[j]?=all[i+j]?)→i≤all.length →
  (∀ x∈acc,all[x.i]?=some x.o∧x.i < i)→(∀ x∈acc,∀ y∈acc,x.i=y.i→x=y)→(∀ j,j < i→∃ x∈acc,x.i=j)→(∀ x∈acc,Ground acc x.o x.m) →
  (∀ x∈acc,∀ e∈x.o.after.toList,Region.binds .any e=true→e.on < x.i)→(acc.map (·.i)).Nodup→itemsL is os acc K→∃ its,K its∧Items all its
 | o::os,i,[],acc,K,his,hos,hi,h1,h2,h3,h4,h5,hnd,h=>h.elim
 | [],i,is,acc,K,his,hos,hi,h1,h2,h3,h4,h5,hnd,h=>by
  have h:K acc:=by cases is<;>exact h
  refine ⟨acc,h,hnd,fun x hx=>(h1 x hx).1,h2,fun j hj=>h3 j ?_,h4,h5⟩
  rcases Nat.lt_or_ge j i with h | h
  ·exact h
  ·have:=hos (j - i)
   rw [show i+(j - i)=j by omega,List.getElem?_eq_getElem hj] at this
   simp at this
 | o::os,i,i'::is,acc,K,his,hos,hi,h1,h2,h3,h4,h5,hnd,h=>by
  have hii:i=i':=by simpa using (his 0 i' rfl).symm
  subst hii
  rw [itemsL_cons] at h
  obtain ⟨m,h6,h7,h8⟩:=edgesK_eq (o:=o) (fun e he=>he) (m:=[]) (fun j hj=>by simp [bit] at hj) h
  have hoi:all[i]?=some o:=by have:=hos 0;simpa using this.symm
  have hil:i < all.length:=(List.getElem?_eq_some_iff.1 hoi).1
  refine itemsL_eq (i:=i+1) (is:=is) (fun j k hk=>by have:=his (j+1) k (by simpa using hk);omega) (fun j=>?_) hil (fun x hx=>?_) (fun x hx y hy hxy=>?_) (fun j hj=>?_) (fun x hx=>?_) (fun x hx=>?_) (by
   simp only [List.map_cons,List.nodup_cons]
   refine ⟨fun hm=>?_,hnd⟩
   obtain ⟨x,hx,hxi⟩:=List.mem_map.1 hm
   have:=(h1 x hx).2
   omega) h6
  ·have:=hos (j+1)
   rw [List.getElem?_cons_succ] at this
   rw [this,Nat.add_assoc,Nat.add_comm 1 j]
  ·rcases List.mem_cons.1 hx with rfl | hx
   ·exact ⟨hoi,Nat.lt_succ_self _⟩
   ·exact ⟨(h1 x hx).1,Nat.lt_succ_of_lt (h1 x hx).2⟩
  ·rcases List.mem_cons.1 hx with rfl | hx<;>rcases List.mem_cons.1 hy with rfl | hy
   ·rfl
   ·have:=(h1 y hy).2;simp at hxy;omega
   ·have:=(h1 x hx).2;simp at hxy;omega
   ·exact h2 x hx y hy hxy
  ·rcases Nat.lt_or_ge j i with h | h
   ·obtain ⟨x,hx,hxj⟩:=h3 j h
    exact ⟨x,by simp [hx],hxj⟩
   ·exact ⟨_,List.mem_cons_self,by simp;omega⟩
  ·rcases List.mem_cons.1 hx with rfl | hx
   ·exact h7.mono fun y hy=>by simp [hy]
   ·exact (h4 x hx).mono fun y hy=>by simp [hy]
  ·rcases List.mem_cons.1 hx with rfl | hx
   ·exact fun e he hb=>h8 e he hb
   ·exact h5 x hx
def Clo (its:List DI) (dn:List Nat):Prop:=∀ x∈its,x.i∈dn→∀ j,bit x.m j=true→j∈dn
theorem Items.before {all:List Oper} {its:List DI} (h:Items all its) {dn:List Nat} (hc:Clo its dn) {x:DI} (hx:x∈its) (hr:∀ e∈x.o.after.toList,Region.binds .any e=true→e.on∈dn) :
  ∀ j,bit x.m j=true→j∈dn:=fun j hj=>by
 obtain ⟨e,h1,h2,h3⟩:=h.ground x hx j hj
 rcases h3 with h3 | ⟨y,h4,h5,h6⟩
 ·rw [← h3];exact hr e h1 h2
 ·exact hc y h4 (by rw [h5];exact hr e h1 h2) j h6
theorem Items.clo {all:List Oper} {its:List DI} (h:Items all its) {dn:List Nat} (hc:Clo its dn) {x:DI} (hx:x∈its) (hr:∀ e∈x.o.after.toList,Region.binds .any e=true→e.on∈dn) :
  Clo its (x.i::dn):=fun y hy hyi j hj=>by
 rcases List.mem_cons.1 hyi with hyi | hyi
 ·rw [h.uniq y hy x hx hyi] at hj
  exact List.mem_cons_of_mem _ (h.before hc hx hr j hj)
 ·exact List.mem_cons_of_mem _ (hc y hy hyi j hj)
structure DE where
 x:DI
 d:D
 s:List (Nat×D)
 r:Bool
def viewAK (m:List Bool):List DE→List (Nat×D)→(List (Nat×D)→Prop)→Prop:=
 @List.rec DE (fun _=>List (Nat×D)→(List (Nat×D)→Prop)→Prop) (fun s K=>K s) (fun e _ ih s K=>match e with
  | ⟨⟨i,o,_⟩,d,_,_⟩=>match o.dst with
   | none=>ih s K
   | some t=>match bit m i with
    | true=>ih s fun s=>K ((t,d)::s)
    | false=>ih s fun s=>K ((t,.any)::s))
theorem viewAK_cons {m:List Bool} {e:DE} {es:List DE} {s:List (Nat×D)} {K:List (Nat×D)→Prop}:viewAK m (e::es) s K=match e.x.o.dst with
  | none=>viewAK m es s K
  | some t=>match bit m e.x.i with
   | true=>viewAK m es s fun s=>K ((t,e.d)::s)
   | false=>viewAK m es s fun s=>K ((t,.any)::s):=rfl
def viewTK (k:Nat):List DI→List (Nat×D)→(List (Nat×D)→Prop)→Prop:=
 @List.rec DI (fun _=>List (Nat×D)→(List (Nat×D)→Prop)→Prop) (fun s K=>K s) (fun y _ ih s K=>match y with
  | ⟨_,o,m⟩=>match o.dst with
   | none=>ih s K
   | some t=>match bit m k with
    | true=>ih s K
    | false=>ih s fun s=>K ((t,.any)::s))
theorem viewTK_cons {k:Nat} {y:DI} {ys:List DI} {s:List (Nat×D)} {K:List (Nat×D)→Prop}:viewTK k (y::ys) s K=match y.o.dst with
  | none=>viewTK k ys s K
  | some t=>match bit y.m k with
   | true=>viewTK k ys s K
   | false=>viewTK k ys s fun s=>K ((t,.any)::s):=rfl
theorem look_cons (t:Nat) (d:D) (s:List (Nat×D)) (u:Nat):look ((t,d)::s) u=if t=u then d else look s u:=by
 simp only [look]
 by_cases h:t=u
 ·subst h;simp
 ·have:Nat.beq t u=false:=by rw [Bool.eq_false_iff];intro h';exact h (Nat.eq_of_beq_eq_true h')
  rw [this,if_neg h]
theorem viewTK_eq {k:Nat}:∀ {ys:List DI} {s:List (Nat×D)} {K:List (Nat×D)→Prop},viewTK k ys s K →
  ∃ s',K s'∧∀ t,look s' t= .any∨(look s' t=look s t∧∀ y∈ys,y.o.dst=some t→bit y.m k=true)
 | [],s,K,h=>⟨s,h,fun t=>.inr ⟨rfl,by simp⟩⟩
 | y::ys,s,K,h=>by
  rw [viewTK_cons] at h
  split at h
  ·rename_i hd
   obtain ⟨s',h1,h2⟩:=viewTK_eq h
   exact ⟨s',h1,fun t=>(h2 t).imp id fun ⟨h3,h4⟩=>⟨h3,fun z hz hzd=>by
    rcases List.mem_cons.1 hz with rfl | hz
    ·rw [hd] at hzd;cases hzd
    ·exact h4 z hz hzd⟩⟩
  ·rename_i u hd
   split at h
   ·rename_i hb
    obtain ⟨s',h1,h2⟩:=viewTK_eq h
    exact ⟨s',h1,fun t=>(h2 t).imp id fun ⟨h3,h4⟩=>⟨h3,fun z hz hzd=>by
     rcases List.mem_cons.1 hz with rfl | hz
     ·exact hb
     ·exact h4 z hz hzd⟩⟩
   ·obtain ⟨s',h1,h2⟩:=viewTK_eq h
    refine ⟨_,h1,fun t=>?_⟩
    rw [look_cons]
    by_cases hut:u=t
    ·exact .inl (by rw [if_pos hut])
    ·rw [if_neg hut]
     exact (h2 t).imp id fun ⟨h3,h4⟩=>⟨h3,fun z hz hzd=>by
      rcases List.mem_cons.1 hz with rfl | hz
      ·rw [hd] at hzd;cases hzd;exact (hut rfl).elim
      ·exact h4 z hz hzd⟩
theorem viewAK_eq {m:List Bool}:∀ {es:List DE} {s:List (Nat×D)} {K:List (Nat×D)→Prop},viewAK m es s K →
  ∃ s',K s'∧∀ t,(∃ e∈es,e.x.o.dst=some t∧bit m e.x.i=true∧look s' t=e.d)∨look s' t= .any∨(look s' t=look s t∧∀ e∈es,e.x.o.dst≠some t)
 | [],s,K,h=>⟨s,h,fun t=>.inr (.inr ⟨rfl,by simp⟩)⟩
 | e::es,s,K,h=>by
  rw [viewAK_cons] at h
  split at h
  ·rename_i hd
   obtain ⟨s',h1,h2⟩:=viewAK_eq h
   refine ⟨s',h1,fun t=>?_⟩
   rcases h2 t with ⟨e',h3,h4⟩ | h3 | ⟨h3,h4⟩
   ·exact .inl ⟨e',by simp [h3],h4⟩
   ·exact .inr (.inl h3)
   ·refine .inr (.inr ⟨h3,fun z hz hzd=>?_⟩)
    rcases List.mem_cons.1 hz with rfl | hz
    ·rw [hd] at hzd;cases hzd
    ·exact h4 z hz hzd
  ·rename_i u hd
   split at h
   all_goals
    rename_i hb
    obtain ⟨s',h1,h2⟩:=viewAK_eq h
    refine ⟨_,h1,fun t=>?_⟩
    rw [look_cons]
    by_cases hut:u=t
    ·first
      | exact .inl ⟨e,by simp,by rw [hd,hut],hb,by rw [if_pos hut]⟩
      | exact .inr (.inl (by rw [if_pos hut]))
    ·rw [if_neg hut]
     rcases h2 t with ⟨e',h3,h4⟩ | h3 | ⟨h3,h4⟩
     ·exact .inl ⟨e',by simp [h3],h4⟩
     ·exact .inr (.inl h3)
     ·refine .inr (.inr ⟨h3,fun z hz hzd=>?_⟩)
      rcases List.mem_cons.1 hz with rfl | hz
      ·rw [hd] at hzd;cases hzd;exact hut rfl
      ·exact h4 z hz hzd
def refineAK (t:Nat) (d:D):List DE→(List DE→Prop)→Prop:=
 @List.rec DE (fun _=>(List DE→Prop)→Prop) (fun K=>K []) (fun e _ ih K=>match e with
  | ⟨⟨i,o,m⟩,d',s,q⟩=>match o.dst with
   | none=>ih fun r=>K (⟨⟨i,o,m⟩,d',s,q⟩::r)
   | some t'=>match Nat.beq t' t with
    | true=>ih fun r=>K (⟨⟨i,o,m⟩,d,s,q⟩::r)
    | false=>ih fun r=>K (⟨⟨i,o,m⟩,d',s,q⟩::r))
theorem refineAK_cons {t:Nat} {d:D} {e:DE} {es:List DE} {K:List DE→Prop}:refineAK t d (e::es) K=match e.x.o.dst with
  | none=>refineAK t d es fun r=>K (e::r)
  | some t'=>match Nat.beq t' t with
   | true=>refineAK t d es fun r=>K (⟨e.x,d,e.s,e.r⟩::r)
   | false=>refineAK t d es fun r=>K (e::r):=rfl
def DEq (d d':D):Prop:=∀ (w:World) (F:Nat→Nat→Prop) (ρ:Pl) (L:List Ob) (v:Value),Rep w F ρ L d v↔Rep w F ρ L d' v
theorem DEq.refl (d:D):DEq d d:=fun _ _ _ _ _=>Iff.rfl
theorem DEq.trans {a b c:D} (h:DEq a b) (k:DEq b c):DEq a c:=fun w F ρ L v=>(h w F ρ L v).trans (k w F ρ L v)
theorem DEq.symm {a b:D} (h:DEq a b):DEq b a:=fun w F ρ L v=>(h w F ρ L v).symm
theorem DEq.tt {b:Bool} (h:b=true):DEq (.bool b) .tt:=fun w F ρ L v=>by
 subst h
 exact ⟨fun h=>by rw [h.bool_inv];exact .pure _ _ .tt,fun h=>by rw [h.tt_inv];exact .pure _ _ (.bool _)⟩
theorem DEq.ff {b:Bool} (h:b=false):DEq (.bool b) .ff:=fun w F ρ L v=>by
 subst h
 exact ⟨fun h=>by rw [h.bool_inv];exact .pure _ _ .ff,fun h=>by rw [h.ff_inv];exact .pure _ _ (.bool _)⟩
theorem OpOk.eqv {P:Program} {o:Oper} {σ:List (Nat×D)} {L L':List Ob} {d d':D} (h:OpOk P o σ L d L') (he:DEq d d'):OpOk P o σ L d' L':=
 fun a w ρ next Q hf hv hn=>h a w ρ next Q hf hv fun v w' ρ' hp=>hn v w' ρ' ⟨hp.fits,(he _ _ _ _ _).1 hp.rep,hp.ext,hp.fresh,hp.compat⟩
def Same (A A':List DE):Prop:=
 A'.map (·.x)=A.map (·.x)∧(∀ e∈A,∃ e'∈A',e'.x=e.x∧e'.s=e.s∧e'.r=e.r∧DEq e.d e'.d)∧(∀ e'∈A',∃ e∈A,e'.x=e.x∧e'.s=e.s∧e'.r=e.r∧DEq e.d e'.d)
theorem refineAK_eq {t:Nat} {d:D}:∀ {A:List DE} {K:List DE→Prop},(∀ e∈A,e.x.o.dst=some t→DEq e.d d)→refineAK t d A K→∃ A',K A'∧Same A A'
 | [],K,_,h=>⟨[],h,rfl,by simp,by simp⟩
 | e::es,K,hd,h=>by
  have hd':∀ e∈es,e.x.o.dst=some t→DEq e.d d:=fun x hx=>hd x (by simp [hx])
  rw [refineAK_cons] at h
  have keep:∀ {e1:DE},e1.x=e.x∧e1.s=e.s∧e1.r=e.r∧DEq e.d e1.d→(∃ A',K (e1::A')∧Same es A')→∃ A',K A'∧Same (e::es) A':=by
   rintro e1 he1 ⟨A',h1,h0,h2,h3⟩
   refine ⟨_,h1,by simp [h0,he1.1],fun x hx=>?_,fun x hx=>?_⟩
   ·rcases List.mem_cons.1 hx with rfl | hx
    ·exact ⟨e1,by simp,he1⟩
    ·obtain ⟨y,hy,h4⟩:=h2 x hx
     exact ⟨y,by simp [hy],h4⟩
   ·rcases List.mem_cons.1 hx with rfl | hx
    ·exact ⟨e,by simp,he1⟩
    ·obtain ⟨y,hy,h4⟩:=h3 x hx
     exact ⟨y,by simp [hy],h4⟩
  split at h
  ·obtain ⟨A',h1,h2⟩:=refineAK_eq hd' h
   exact keep ⟨rfl,rfl,rfl,.refl _⟩ ⟨A',h1,h2⟩
  ·rename_i t' ht
   split at h
   ·rename_i hb
    have:=Nat.eq_of_beq_eq_true hb
    subst this
    obtain ⟨A',h1,h2⟩:=refineAK_eq hd' h
    exact keep (e1:=⟨e.x,d,e.s,e.r⟩) ⟨rfl,rfl,rfl,hd e (by simp) ht⟩ ⟨A',h1,h2⟩
   ·obtain ⟨A',h1,h2⟩:=refineAK_eq hd' h
    exact keep ⟨rfl,rfl,rfl,.refl _⟩ ⟨A',h1,h2⟩
def guardDK (all:List Oper) (g:Option (Nat×Bool)) (s:List (Nat×D)) (A:List DE) (run skip:List (Nat×D)→List DE→Prop):Prop:=
 match g with
 | none=>run s A
 | some (j,want)=>match dstOf all j with
  | none=>False
  | some t=>match look s t with
   | .tt=>match want with
    | true=>run s A
    | false=>skip s A
   | .ff=>match want with
    | true=>skip s A
    | false=>run s A
   | .bool b=>match want with
    | true=>VS (SplitS b (refineAK t .tt A fun A=>run ((t,.tt)::s) A) (refineAK t .ff A fun A=>skip ((t,.ff)::s) A))
    | false=>VS (SplitS b (refineAK t .tt A fun A=>skip ((t,.tt)::s) A) (refineAK t .ff A fun A=>run ((t,.ff)::s) A))
   | .tup ds=>match ds with
    | []=>skip s A
    | _=>False
   | _=>False
def reK (P:Program) (T:Tab) (s:List (Nat×D)) (L:List Ob) (op:Op) (d:D) (K:Prop):Prop:=
 opK P T s L op (fun d'=>VS (SideS (d'=d) K)) (fun d'=>VS (SideS (d'=d) K)) fun _ _=>False
def backK (P:Program) (T:Tab) (x:DI) (s:List (Nat×D)) (d:D):List (Nat×List Ob)→Prop→Prop:=
 @List.rec (Nat×List Ob) (fun _=>Prop→Prop) (fun K=>K) (fun p _ ih K=>match bit x.m p.1 with
  | true=>K
  | false=>reK P T s p.2 x.o.op d (ih K))
theorem backK_cons {P:Program} {T:Tab} {x:DI} {s:List (Nat×D)} {d:D} {i:Nat} {L:List Ob} {ws:List (Nat×List Ob)} {K:Prop}:backK P T x s d ((i,L)::ws) K=match bit x.m i with
  | true=>K
  | false=>reK P T s L x.o.op d (backK P T x s d ws K):=rfl
def forthK (P:Program) (T:Tab) (x:DI) (L:List Ob):List DE→Prop→Prop:=
 @List.rec DE (fun _=>Prop→Prop) (fun K=>K) (fun e _ ih K=>match e with
  | ⟨⟨i,o,_⟩,d,s,r⟩=>match r with
   | false=>ih K
   | true=>match bit x.m i with
    | true=>ih K
    | false=>reK P T s L o.op d (ih K))
theorem forthK_cons {P:Program} {T:Tab} {x:DI} {L:List Ob} {e:DE} {es:List DE} {K:Prop}:forthK P T x L (e::es) K=match e.r with
  | false=>forthK P T x L es K
  | true=>match bit x.m e.x.i with
   | true=>forthK P T x L es K
   | false=>reK P T e.s L e.x.o.op e.d (forthK P T x L es K):=rfl
def behindK (x:DI):List (Nat×List Ob)→Prop→Prop
 | [],K=>K
 | (i,_)::ws,K=>match bit x.m i with
  | true=>behindK x ws K
  | false=>False
def dstK (n:Nat) (dst:Option Nat) (K:Prop):Prop:=
 match dst with
 | none=>K
 | some t=>match Nat.blt t n with
  | true=>K
  | false=>False
abbrev DvM:Type:=List DE→List (Nat×List Ob)→List Ob→(List DE→List Ob→Prop)→Prop
def dvNil:DvM:=fun A _ L K=>K A L
def dvCons (P:Program) (T:Tab) (n:Nat) (all:List Oper) (σ:List (Nat×D)) (x:DI) (xs:List DI) (ih:DvM):DvM:=fun A ws L K=>match x with
 | ⟨i, o, m⟩ => dstK n o.dst (viewTK i xs σ fun s => viewAK m A s fun s => guardDK all o.guard s A
     (fun s A=>opK P T s L o.op
       (fun d=>ih (⟨⟨i,o,m⟩,d,s,false⟩::A) ws L K)
       (fun d=>backK P T ⟨i,o,m⟩ s d ws (ih (⟨⟨i,o,m⟩,d,s,true⟩::A) ws L K))
       (fun d L'=>behindK ⟨i,o,m⟩ ws (forthK P T ⟨i,o,m⟩ L' A (ih (⟨⟨i,o,m⟩,d,s,false⟩::A) ((i,L)::ws) L' K))))
     (fun s A=>ih (⟨⟨i,o,m⟩,.tup [],s,false⟩::A) ws L K))
def dvK (P:Program) (T:Tab) (n:Nat) (all:List Oper) (σ:List (Nat×D)):List DI→List DE→List (Nat×List Ob)→List Ob→(List DE→List Ob→Prop)→Prop:=
 @List.rec DI (fun _=>DvM) dvNil (dvCons P T n all σ)
theorem dvK_cons {P:Program} {T:Tab} {n:Nat} {all:List Oper} {σ:List (Nat×D)} {x:DI} {xs:List DI} {A:List DE} {ws:List (Nat×List Ob)} {L:List Ob} {K:List DE→List Ob→Prop} :
  dvK P T n all σ (x::xs) A ws L K=dstK n x.o.dst (viewTK x.i xs σ fun s=>viewAK x.m A s fun s=>guardDK all x.o.guard s A
   (fun s A=>opK P T s L x.o.op
     (fun d=>dvK P T n all σ xs (⟨x,d,s,false⟩::A) ws L K)
     (fun d=>backK P T x s d ws (dvK P T n all σ xs (⟨x,d,s,true⟩::A) ws L K))
     (fun d L'=>behindK x ws (forthK P T x L' A (dvK P T n all σ xs (⟨x,d,s,false⟩::A) ((x.i,L)::ws) L' K))))
   (fun s A=>dvK P T n all σ xs (⟨x,.tup [],s,false⟩::A) ws L K)):=rfl
def memB (t:Nat):List Nat→Bool
 | []=>false
 | u::us=>match Nat.beq t u with
  | true=>true
  | false=>memB t us
def dstsB:List Oper→List Nat→Bool
 | [],_=>true
 | o::os,seen=>match o.dst with
  | none=>dstsB os seen
  | some t=>match memB t seen with
   | true=>false
   | false=>dstsB os (t::seen)
def revDK:List DI→List DI→(List DI→Prop)→Prop
 | [],acc,K=>K acc
 | x::xs,acc,K=>revDK xs (x::acc) K
def finK:List DE→List (Nat×D)→(List (Nat×D)→Prop)→Prop:=
 @List.rec DE (fun _=>List (Nat×D)→(List (Nat×D)→Prop)→Prop) (fun s K=>K s) (fun e _ ih s K=>match e with
  | ⟨⟨_,o,_⟩,d,_,_⟩=>match o.dst with
   | none=>ih s K
   | some t=>ih s fun s=>K ((t,d)::s))
theorem finK_cons {e:DE} {es:List DE} {s:List (Nat×D)} {K:List (Nat×D)→Prop}:finK (e::es) s K=match e.x.o.dst with
  | none=>finK es s K
  | some t=>finK es s fun s=>K ((t,e.d)::s):=rfl
def drawK (P:Program) (T:Tab) (n:Nat) (all:List Oper) (σ:List (Nat×D)) (L:List Ob) (Q:List (Nat×D)→List Ob→Prop):Prop:=
 match dstsB all [] with
 | false=>False
 | true=>itemsL nats all [] fun its=>revDK its [] fun its=>dvK P T n all σ its [] [] L fun A L=>finK A σ fun σ=>Q σ L
theorem memB_mem:∀ {us:List Nat} {t:Nat},memB t us=false→t∉us
 | [],t,_=>by simp
 | u::us,t,h=>by
  simp only [memB] at h
  split at h
  ·cases h
  ·rename_i hb
   have:=memB_mem h
   intro hm
   rcases List.mem_cons.1 hm with rfl | hm
   ·simp at hb
   ·exact this hm
theorem dstsB_eq:∀ {os:List Oper} {seen:List Nat},dstsB os seen=true→(∀ (i:Nat) o t,os[i]?=some o→o.dst=some t→t∉seen) ∧
  ∀ (i j:Nat) o p t,os[i]?=some o→os[j]?=some p→o.dst=some t→p.dst=some t→i=j
 | [],seen,_=>⟨by simp,by simp⟩
 | o::os,seen,h=>by
  simp only [dstsB] at h
  split at h
  ·rename_i hd
   obtain ⟨h1,h2⟩:=dstsB_eq h
   refine ⟨fun i p t hi ht=>?_,fun i j p q t hi hj hp hq=>?_⟩
   ·cases i with
    | zero=>simp at hi;subst hi;rw [hd] at ht;cases ht
    | succ i=>exact h1 i p t (by simpa using hi) ht
   ·cases i with
    | zero=>simp at hi;subst hi;rw [hd] at hp;cases hp
    | succ i=>
     cases j with
     | zero=>simp at hj;subst hj;rw [hd] at hq;cases hq
     | succ j=>rw [h2 i j p q t (by simpa using hi) (by simpa using hj) hp hq]
  ·rename_i u hd
   split at h
   ·cases h
   ·rename_i hm
    have hm:=memB_mem hm
    obtain ⟨h1,h2⟩:=dstsB_eq h
    refine ⟨fun i p t hi ht=>?_,fun i j p q t hi hj hp hq=>?_⟩
    ·cases i with
     | zero=>simp at hi;subst hi;rw [hd] at ht;cases ht;exact hm
     | succ i=>exact fun hs=>h1 i p t (by simpa using hi) ht (by simp [hs])
    ·cases i with
     | zero=>
      simp at hi;subst hi
      cases j with
      | zero=>rfl
      | succ j=>rw [hd] at hp;cases hp;exact (h1 j q u (by simpa using hj) hq (by simp)).elim
     | succ i=>
      cases j with
      | zero=>simp at hj;subst hj;rw [hd] at hq;cases hq;exact (h1 i p u (by simpa using hi) hp (by simp)).elim
      | succ j=>rw [h2 i j p q t (by simpa using hi) (by simpa using hj) hp hq]
theorem revDK_eq:∀ {xs acc:List DI} {K:List DI→Prop},revDK xs acc K→K (xs.reverse++acc)
 | [],acc,K,h=>by simpa [revDK] using h
 | x::xs,acc,K,h=>by
  simp only [revDK] at h
  have:=revDK_eq h
  simpa using this
theorem finK_eq:∀ {A:List DE} {s:List (Nat×D)} {K:List (Nat×D)→Prop},finK A s K →
  ∃ s',K s'∧∀ t,(∃ e∈A,e.x.o.dst=some t∧look s' t=e.d)∨(look s' t=look s t∧∀ e∈A,e.x.o.dst≠some t)
 | [],s,K,h=>⟨s,h,fun t=>.inr ⟨rfl,by simp⟩⟩
 | e::es,s,K,h=>by
  rw [finK_cons] at h
  split at h
  ·rename_i hd
   obtain ⟨s',h1,h2⟩:=finK_eq h
   refine ⟨s',h1,fun t=>?_⟩
   rcases h2 t with ⟨e',h3,h4⟩ | ⟨h3,h4⟩
   ·exact .inl ⟨e',by simp [h3],h4⟩
   ·refine .inr ⟨h3,fun z hz hzd=>?_⟩
    rcases List.mem_cons.1 hz with rfl | hz
    ·rw [hd] at hzd;cases hzd
    ·exact h4 z hz hzd
  ·rename_i u hd
   obtain ⟨s',h1,h2⟩:=finK_eq h
   refine ⟨_,h1,fun t=>?_⟩
   rw [look_cons]
   by_cases hut:u=t
   ·exact .inl ⟨e,by simp,by rw [hd,hut],by rw [if_pos hut]⟩
   ·rw [if_neg hut]
    rcases h2 t with ⟨e',h3,h4⟩ | ⟨h3,h4⟩
    ·exact .inl ⟨e',by simp [h3],h4⟩
    ·refine .inr ⟨h3,fun z hz hzd=>?_⟩
     rcases List.mem_cons.1 hz with rfl | hz
     ·rw [hd] at hzd;cases hzd;exact hut rfl
     ·exact h4 z hz hzd
def Lat:List (Nat×List Ob)→List Ob→Nat→List Ob
 | [],L,_=>L
 | (_,Lb)::ws,L,c=>if c≤ws.length then Lat ws Lb c else L
def Wat:List (Nat×List Ob)→Nat→Option Nat
 | [],_=>none
 | (i,_)::ws,r=>if r=ws.length then some i else Wat ws r
theorem Lat_len:∀ {ws:List (Nat×List Ob)} {L:List Ob},Lat ws L ws.length=L
 | [],L=>rfl
 | (i,Lb)::ws,L=>by simp [Lat];omega
theorem Wat_lt:∀ {ws:List (Nat×List Ob)} {r i:Nat},Wat ws r=some i→r < ws.length
 | [],r,i,h=>by simp [Wat] at h
 | (j,Lb)::ws,r,i,h=>by
  simp only [Wat] at h
  split at h
  ·rename_i hr;simp [hr]
  ·have:=Wat_lt h;simp;omega
theorem Lat_cons {i:Nat} {Lb:List Ob} {ws:List (Nat×List Ob)} {L:List Ob} {c:Nat} (h:c≤ws.length):Lat ((i,Lb)::ws) L c=Lat ws Lb c:=by simp [Lat,h]
theorem Wat_cons {i:Nat} {Lb:List Ob} {ws:List (Nat×List Ob)} {r:Nat} (h:r < ws.length):Wat ((i,Lb)::ws) r=Wat ws r:=by
 simp only [Wat];rw [if_neg (by omega)]
theorem Wat_new {i:Nat} {Lb:List Ob} {ws:List (Nat×List Ob)}:Wat ((i,Lb)::ws) ws.length=some i:=by simp [Wat]
theorem Wat_some:∀ {ws:List (Nat×List Ob)} {r:Nat},r < ws.length→∃ i,Wat ws r=some i
 | [],r,h=>by simp at h
 | (j,Lb)::ws,r,h=>by
  simp only [Wat]
  split
  ·exact ⟨_,rfl⟩
  ·exact Wat_some (by simp at h;omega)
theorem Wat_mem:∀ {ws:List (Nat×List Ob)} {r i:Nat},Wat ws r=some i→∃ L,(i,L)∈ws
 | [],r,i,h=>by simp [Wat] at h
 | (j,Lb)::ws,r,i,h=>by
  simp only [Wat] at h
  split at h
  ·cases h;exact ⟨Lb,by simp⟩
  ·obtain ⟨L,h⟩:=Wat_mem h;exact ⟨L,by simp [h]⟩
def View (A:List DE) (its:List DI) (σ0:List (Nat×D)) (x:DI) (s:List (Nat×D)):Prop:=
 ∀ t,(∃ e∈A,e.x.o.dst=some t∧bit x.m e.x.i=true∧DEq (look s t) e.d)∨look s t= .any ∨
  (DEq (look s t) (look σ0 t)∧∀ y∈its,y.o.dst=some t→y.i=x.i∨bit y.m x.i=true)
def Runs (all:List Oper) (o:Oper) (s:List (Nat×D)) (b:Bool):Prop:=
 ∀ (a:Act) (w:World) (ρ:Pl) (L:List Ob),Env w ρ L s a→Region.wanted o (yielded all.toArray a.tmps)=b
def RFact (P:Program) (its:List DI) (ws:List (Nat×List Ob)) (L:List Ob) (e:DE):Prop:=
 ∀ c,c≤ws.length→(∀ (r i:Nat) (y:DI),Wat ws r=some i→y∈its→y.i=i→(r < c→bit y.m e.x.i=false)∧(c≤r→bit e.x.m i=false)) →
  OpOk P e.x.o e.s (Lat ws L c) e.d (Lat ws L c)
def AnyD (d:D):Prop:=∀ (w:World) (F:Nat→Nat→Prop) (ρ:Pl) (L:List Ob),Rep w F ρ L d undef
def NotW (ws:List (Nat×List Ob)) (i:Nat):Prop:=∀ r,Wat ws r≠some i
def Kind (P:Program) (all:List Oper) (its:List DI) (ws:List (Nat×List Ob)) (L:List Ob) (e:DE):Prop:=
 (Runs all e.x.o e.s false∧AnyD e.d∧NotW ws e.x.i∧e.r=false) ∨
 (Runs all e.x.o e.s true∧(
   ((∀ L,OpOk P e.x.o e.s L e.d L)∧NotW ws e.x.i∧e.r=false) ∨
   (RFact P its ws L e∧NotW ws e.x.i∧e.r=true) ∨
   (e.r=false∧∃ r,Wat ws r=some e.x.i∧OpOk P e.x.o e.s (Lat ws L r) e.d (Lat ws L (r+1)))))
structure Facts (P:Program) (n:Nat) (all:List Oper) (its:List DI) (σ0:List (Nat×D)) (A:List DE) (ws:List (Nat×List Ob)) (L:List Ob):Prop where
 nodup:(A.map fun e=>e.x.i).Nodup
 item:∀ e∈A,e.x∈its
 dst:∀ e∈A,∀ t,e.x.o.dst=some t→t < n
 view:∀ e∈A,View A its σ0 e.x e.s
 kind:∀ e∈A,Kind P all its ws L e
 wsA:∀ r i,Wat ws r=some i→∃ e∈A,e.x.i=i
 tot:∀ (r r' i i':Nat) (y:DI),r' < r→Wat ws r=some i→Wat ws r'=some i'→y∈its→y.i=i→bit y.m i'=true
theorem View.same {A A':List DE} {its:List DI} {σ0:List (Nat×D)} {x:DI} {s:List (Nat×D)} (h:View A its σ0 x s) (hs:Same A A'):View A' its σ0 x s:=fun t=>by
 rcases h t with ⟨e,h1,h2,h3,h4⟩ | h | h
 ·obtain ⟨e',h5,h6,_,_,h7⟩:=hs.2.1 e h1
  exact .inl ⟨e',h5,by rw [h6];exact h2,by rw [h6];exact h3,h4.trans h7⟩
 ·exact .inr (.inl h)
 ·exact .inr (.inr h)
theorem View.more {A A':List DE} {its:List DI} {σ0:List (Nat×D)} {x:DI} {s:List (Nat×D)} (h:View A its σ0 x s) (hs:∀ e∈A,e∈A'):View A' its σ0 x s:=fun t=>by
 rcases h t with ⟨e,h1,h2⟩ | h | h
 ·exact .inl ⟨e,hs e h1,h2⟩
 ·exact .inr (.inl h)
 ·exact .inr (.inr h)
theorem Kind.same {P:Program} {all:List Oper} {its:List DI} {ws:List (Nat×List Ob)} {L:List Ob} {e e':DE} (h:Kind P all its ws L e) (hx:e'.x=e.x) (hs:e'.s=e.s) (hr:e'.r=e.r) (hd:DEq e.d e'.d):Kind P all its ws L e':=by
 obtain ⟨x,d,s,r⟩:=e
 obtain ⟨x',d',s',r'⟩:=e'
 simp only at hx hs hr hd
 subst hx;subst hs;subst hr
 rcases h with ⟨h1,h2,h3⟩ | ⟨h1,⟨h2,h3⟩ | ⟨h2,h3⟩ | ⟨h2,r,h3,h4⟩⟩
 ·exact .inl ⟨h1,fun w F ρ L=>(hd w F ρ L undef).1 (h2 w F ρ L),h3⟩
 ·exact .inr ⟨h1,.inl ⟨fun L=>(h2 L).eqv hd,h3⟩⟩
 ·exact .inr ⟨h1,.inr (.inl ⟨fun c hc hw=>(h2 c hc hw).eqv hd,h3⟩)⟩
 ·exact .inr ⟨h1,.inr (.inr ⟨h2,r,h3,h4.eqv hd⟩)⟩
theorem nodup_inj {α:Type} {f:α→Nat}:∀ {l:List α},(l.map f).Nodup→∀ x∈l,∀ y∈l,f x=f y→x=y
 | [],_,x,hx,_,_,_=>by simp at hx
 | a::l,h,x,hx,y,hy,hxy=>by
  simp only [List.map_cons,List.nodup_cons] at h
  have no:∀ z∈l,f a≠f z:=fun z hz e=>h.1 (by rw [e];exact List.mem_map_of_mem hz)
  rcases List.mem_cons.1 hx with e | hx<;>rcases List.mem_cons.1 hy with e' | hy
  ·rw [e,e']
  ·rw [e] at hxy;exact (no y hy hxy).elim
  ·rw [e'] at hxy;exact (no x hx hxy.symm).elim
  ·exact nodup_inj h.2 x hx y hy hxy
theorem Facts.same {P:Program} {n:Nat} {all:List Oper} {its:List DI} {σ0:List (Nat×D)} {A A':List DE} {ws:List (Nat×List Ob)} {L:List Ob}
  (h:Facts P n all its σ0 A ws L) (hs:Same A A'):Facts P n all its σ0 A' ws L where
 nodup:=by
  have e:(A'.map fun e=>e.x.i)=A.map fun e=>e.x.i:=by
   have:=congrArg (List.map fun x:DI=>x.i) hs.1
   simp only [List.map_map] at this
   exact this
  rw [e];exact h.nodup
 item e' he':=by obtain ⟨e,h1,h2,_⟩:=hs.2.2 e' he';rw [h2];exact h.item e h1
 dst e' he':=by obtain ⟨e,h1,h2,_⟩:=hs.2.2 e' he';rw [h2];exact h.dst e h1
 view e' he':=by
  obtain ⟨e,h1,h2,h3,_⟩:=hs.2.2 e' he'
  rw [h2,h3];exact (h.view e h1).same hs
 kind e' he':=by
  obtain ⟨e,h1,h2,h3,h4,h5⟩:=hs.2.2 e' he'
  exact (h.kind e h1).same h2 h3 h4 h5
 wsA r i hi:=by
  obtain ⟨e,h1,h2⟩:=h.wsA r i hi
  obtain ⟨e',h3,h4,_⟩:=hs.2.1 e h1
  exact ⟨e',h3,by rw [h4];exact h2⟩
 tot:=h.tot
theorem guardDK_eq {P:Program} {all:List Oper} {o:Oper} {s:List (Nat×D)} {A:List DE} {run skip:List (Nat×D)→List DE→Prop} {its:List DI} {σ0:List (Nat×D)} {x:DI}
  (h:guardDK all o.guard s A run skip) (hv:View A its σ0 x s) (huq:∀ (e:DE) t,e∈A→e.x.o.dst=some t→∀ e'∈A,e'.x.o.dst=some t→e=e')
  (hno:∀ (e:DE) t,e∈A→e.x.o.dst=some t→(∃ e'∈A,e'.x.o.dst=some t∧bit x.m e'.x.i=true∧DEq (look s t) e'.d)∨look s t= .any) :
  ∃ s' A',Same A A'∧View A' its σ0 x s'∧((Runs all o s' true∧run s' A')∨(Runs all o s' false∧skip s' A')):=by
 unfold guardDK at h
 split at h
 ·rename_i hg
  exact ⟨s,A,⟨rfl,fun e he=>⟨e,he,rfl,rfl,rfl,.refl _⟩,fun e he=>⟨e,he,rfl,rfl,rfl,.refl _⟩⟩,hv,.inl ⟨fun a w ρ L he=>by simp [Region.wanted,hg],h⟩⟩
 ·rename_i j want hg
  split at h<;>try exact h.elim
  rename_i t ht
  have hw:∀ (a:Act) b,a.tmps.getD t undef= .bool b→Region.wanted o (yielded all.toArray a.tmps)=(b==want):=fun a b hb=>by
   simp only [Region.wanted,hg,yielded_eq ht hb]
   cases b<;>cases want<;>rfl
  have hself:Same A A:=⟨rfl,fun e he=>⟨e,he,rfl,rfl,rfl,.refl _⟩,fun e he=>⟨e,he,rfl,rfl,rfl,.refl _⟩⟩
  have htt:∀ {s':List (Nat×D)} {want':Bool},look s' t= .tt→(true==want)=want'→Runs all o s' want':=fun hl hb a w ρ L he=>by
   have:=he t
   rw [hl] at this
   rw [hw a true this.tt_inv];exact hb
  have hff:∀ {s':List (Nat×D)} {want':Bool},look s' t= .ff→(false==want)=want'→Runs all o s' want':=fun hl hb a w ρ L he=>by
   have:=he t
   rw [hl] at this
   rw [hw a false this.ff_inv];exact hb
  have hdq:∀ {b:Bool} {d:D},look s t= .bool b→DEq (.bool b) d→∀ e∈A,e.x.o.dst=some t→DEq e.d d:=fun hl hd e he hed=>by
   rcases hno e t he hed with ⟨e',h1,h2,_,h3⟩ | h1
   ·rw [huq e t he hed e' h1 h2]
    rw [hl] at h3
    exact h3.symm.trans hd
   ·rw [hl] at h1;cases h1
  have hvw:∀ {b:Bool} {d:D} {A':List DE},look s t= .bool b→DEq (.bool b) d→Same A A'→View A' its σ0 x ((t,d)::s):=fun {b d A'} hl hd hs u=>by
   rw [look_cons]
   by_cases hut:t=u
   ·rw [if_pos hut]
    subst hut
    rcases (hv.same hs) t with ⟨e,h1,h2,h3,h4⟩ | h1 | ⟨h1,h2⟩
    ·rw [hl] at h4
     exact .inl ⟨e,h1,h2,h3,hd.symm.trans h4⟩
    ·rw [hl] at h1;cases h1
    ·rw [hl] at h1
     exact .inr (.inr ⟨hd.symm.trans h1,h2⟩)
   ·rw [if_neg hut]
    exact (hv.same hs) u
  have lk:∀ d,look ((t,d)::s) t=d:=fun d=>by rw [look_cons,if_pos rfl]
  split at h<;>try exact h.elim
  ·rename_i hl
   split at h
   ·exact ⟨s,A,hself,hv,.inl ⟨htt hl rfl,h⟩⟩
   ·exact ⟨s,A,hself,hv,.inr ⟨htt hl rfl,h⟩⟩
  ·rename_i hl
   split at h
   ·exact ⟨s,A,hself,hv,.inr ⟨hff hl rfl,h⟩⟩
   ·exact ⟨s,A,hself,hv,.inl ⟨hff hl rfl,h⟩⟩
  ·rename_i b hl
   split at h
   ·cases b
    ·obtain ⟨A',h1,h2⟩:=refineAK_eq (hdq hl (DEq.ff rfl)) (h.out.2 rfl)
     exact ⟨_,A',h2,hvw hl (DEq.ff rfl) h2,.inr ⟨hff (lk _) rfl,h1⟩⟩
    ·obtain ⟨A',h1,h2⟩:=refineAK_eq (hdq hl (DEq.tt rfl)) (h.out.1 rfl)
     exact ⟨_,A',h2,hvw hl (DEq.tt rfl) h2,.inl ⟨htt (lk _) rfl,h1⟩⟩
   ·cases b
    ·obtain ⟨A',h1,h2⟩:=refineAK_eq (hdq hl (DEq.ff rfl)) (h.out.2 rfl)
     exact ⟨_,A',h2,hvw hl (DEq.ff rfl) h2,.inl ⟨hff (lk _) rfl,h1⟩⟩
    ·obtain ⟨A',h1,h2⟩:=refineAK_eq (hdq hl (DEq.tt rfl)) (h.out.1 rfl)
     exact ⟨_,A',h2,hvw hl (DEq.tt rfl) h2,.inr ⟨htt (lk _) rfl,h1⟩⟩
  ·rename_i ds hl
   split at h<;>try exact h.elim
   refine ⟨s,A,hself,hv,.inr ⟨fun a w ρ L he=>?_,h⟩⟩
   have hv:=he t
   rw [hl] at hv
   simp only [Region.wanted,hg,yielded_none ht hv.undef_inv]
   rfl
theorem reK_eq {P:Program} {T:Tab} (hT:TabOk P T) {s:List (Nat×D)} {L:List Ob} {o:Oper} {d:D} {K:Prop} (h:reK P T s L o.op d K):OpOk P o s L d L∧K:=by
 rcases opK_sound hT h with ⟨d',h1,h2⟩ | ⟨d',h1,h2⟩ | ⟨d',L',h1,h2⟩
 ·obtain ⟨rfl,h3⟩:=h2.out;exact ⟨h1 L,h3⟩
 ·obtain ⟨rfl,h3⟩:=h2.out;exact ⟨h1,h3⟩
 ·exact h2.elim
theorem backK_eq {P:Program} {T:Tab} (hT:TabOk P T) {x:DI} {s:List (Nat×D)} {d:D}:∀ {ws:List (Nat×List Ob)} {K:Prop},backK P T x s d ws K →
  K∧∀ L c,c < ws.length→(∀ r i,Wat ws r=some i→c≤r→bit x.m i=false)→OpOk P x.o s (Lat ws L c) d (Lat ws L c)
 | [],K,h=>⟨h,by simp⟩
 | (i,Lb)::ws,K,h=>by
  rw [backK_cons] at h
  split at h
  ·rename_i hb
   refine ⟨h,fun L c hc hw=>?_⟩
   have:=hw ws.length i Wat_new (by simp at hc;omega)
   rw [hb] at this;cases this
  ·obtain ⟨h1,h2⟩:=reK_eq hT h
   obtain ⟨h3,h4⟩:=backK_eq hT h2
   refine ⟨h3,fun L c hc hw=>?_⟩
   have hc:c≤ws.length:=by simp at hc;omega
   rw [Lat_cons hc]
   rcases Nat.lt_or_ge c ws.length with hlt | hge
   ·exact h4 Lb c hlt fun r j hj hr=>hw r j (by rw [Wat_cons (Wat_lt hj)];exact hj) hr
   ·have:c=ws.length:=by omega
    subst this
    rw [Lat_len];exact h1
theorem forthK_eq {P:Program} {T:Tab} (hT:TabOk P T) {x:DI} {L:List Ob}:∀ {A:List DE} {K:Prop},forthK P T x L A K →
  K∧∀ e∈A,e.r=true→bit x.m e.x.i=false→OpOk P e.x.o e.s L e.d L
 | [],K,h=>⟨h,by simp⟩
 | e::es,K,h=>by
  rw [forthK_cons] at h
  have fin:∀ {K':Prop},(forthK P T x L es K)→((e.r=true→bit x.m e.x.i=false→OpOk P e.x.o e.s L e.d L))→K∧∀ e'∈e::es,e'.r=true→bit x.m e'.x.i=false→OpOk P e'.x.o e'.s L e'.d L:=by
   intro K' h1 h2
   obtain ⟨h3,h4⟩:=forthK_eq hT h1
   refine ⟨h3,fun e' he'=>?_⟩
   rcases List.mem_cons.1 he' with rfl | he'
   ·exact h2
   ·exact h4 e' he'
  split at h
  ·rename_i hr
   exact fin (K':=True) h fun h1=>by rw [hr] at h1;cases h1
  ·split at h
   ·rename_i hb
    exact fin (K':=True) h fun _ h1=>by rw [hb] at h1;cases h1
   ·obtain ⟨h1,h2⟩:=reK_eq hT h
    exact fin (K':=True) h2 fun _ _=>h1
theorem behindK_eq {x:DI}:∀ {ws:List (Nat×List Ob)} {K:Prop},behindK x ws K→K∧∀ p∈ws,bit x.m p.1=true
 | [],K,h=>⟨h,by simp⟩
 | (i,Lb)::ws,K,h=>by
  simp only [behindK] at h
  split at h
  ·rename_i hb
   obtain ⟨h1,h2⟩:=behindK_eq h
   refine ⟨h1,fun p hp=>?_⟩
   rcases List.mem_cons.1 hp with rfl | hp
   ·exact hb
   ·exact h2 p hp
  ·exact h.elim
theorem dstK_eq {n:Nat} {dst:Option Nat} {K:Prop} (h:dstK n dst K):K∧∀ t,dst=some t→t < n:=by
 unfold dstK at h
 split at h
 ·exact ⟨h,by simp⟩
 ·split at h
  ·rename_i hb
   exact ⟨h,fun t ht=>by cases ht;simpa [Nat.blt_eq] using hb⟩
  ·exact h.elim
theorem Kind.push {P:Program} {all:List Oper} {its:List DI} {ws:List (Nat×List Ob)} {L L':List Ob} {e:DE} {x:DI} (h:Kind P all its ws L e) (hx:x∈its) (hne:e.x.i≠x.i)
  (hr:e.r=true→bit x.m e.x.i=false→OpOk P e.x.o e.s L' e.d L'):Kind P all its ((x.i,L)::ws) L' e:=by
 have hnw:NotW ws e.x.i→NotW ((x.i,L)::ws) e.x.i:=fun h r hr=>by
  simp only [Wat] at hr
  split at hr
  ·exact hne (Option.some.inj hr).symm
  ·exact h r hr
 rcases h with ⟨h1,h2,h3,h4⟩ | ⟨h1,⟨h2,h3,h4⟩ | ⟨h2,h3,h4⟩ | ⟨h2,r,h3,h4⟩⟩
 ·exact .inl ⟨h1,h2,hnw h3,h4⟩
 ·exact .inr ⟨h1,.inl ⟨h2,hnw h3,h4⟩⟩
 ·refine .inr ⟨h1,.inr (.inl ⟨fun c hc hw=>?_,hnw h3,h4⟩)⟩
  rcases Nat.lt_or_ge ws.length c with hlt | hge
  ·have hc:c=ws.length+1:=by simp at hc;omega
   subst hc
   have:Lat ((x.i,L)::ws) L' (ws.length+1)=L':=by simp only [Lat];rw [if_neg (by omega)]
   rw [this]
   exact hr h4 ((hw ws.length x.i x Wat_new hx rfl).1 (by omega))
  ·rw [Lat_cons hge]
   exact h2 c hge fun r i y hi hy hyi=>hw r i y (by rw [Wat_cons (Wat_lt hi)];exact hi) hy hyi
 ·have hlt:=Wat_lt h3
  refine .inr ⟨h1,.inr (.inr ⟨h2,r,by rw [Wat_cons hlt];exact h3,?_⟩)⟩
  rw [Lat_cons (by omega),Lat_cons (by omega)]
  exact h4
theorem View.cons {A:List DE} {its:List DI} {σ0:List (Nat×D)} {x:DI} {s:List (Nat×D)} {e:DE} (h:View A its σ0 x s):View (e::A) its σ0 x s:=h.more fun _ h=>List.mem_cons_of_mem _ h
theorem Facts.cons {P:Program} {n:Nat} {all:List Oper} {its:List DI} {σ0:List (Nat×D)} {A:List DE} {ws:List (Nat×List Ob)} {L:List Ob} (h:Facts P n all its σ0 A ws L) {e:DE}
  (hx:e.x∈its) (hnew:∀ e'∈A,e'.x.i≠e.x.i) (hd:∀ t,e.x.o.dst=some t→t < n) (hv:View A its σ0 e.x e.s) (hk:Kind P all its ws L e):Facts P n all its σ0 (e::A) ws L where
 nodup:=by
  simp only [List.map_cons,List.nodup_cons]
  refine ⟨fun hm=>?_,h.nodup⟩
  obtain ⟨e',h1,h2⟩:=List.mem_map.1 hm
  exact hnew e' h1 h2
 item e' he':=by rcases List.mem_cons.1 he' with rfl | he';exact hx;exact h.item e' he'
 dst e' he':=by rcases List.mem_cons.1 he' with rfl | he';exact hd;exact h.dst e' he'
 view e' he':=by rcases List.mem_cons.1 he' with rfl | he';exact hv.cons;exact (h.view e' he').cons
 kind e' he':=by rcases List.mem_cons.1 he' with rfl | he';exact hk;exact h.kind e' he'
 wsA r i hi:=by obtain ⟨e',h1,h2⟩:=h.wsA r i hi;exact ⟨e',by simp [h1],h2⟩
 tot:=h.tot
theorem dvK_eq {P:Program} {T:Tab} (hT:TabOk P T) {n:Nat} {all:List Oper} {σ0:List (Nat×D)} {its:List DI} (hI:Items all its)
  (hdst:∀ x∈its,∀ y∈its,∀ t,x.o.dst=some t→y.o.dst=some t→x.i=y.i) {L0:List Ob} :
  ∀ {xs:List DI} {A:List DE} {ws:List (Nat×List Ob)} {L:List Ob} {K:List DE→List Ob→Prop},dvK P T n all σ0 xs A ws L K→Facts P n all its σ0 A ws L →
   (∀ x∈xs,x∈its)→(∀ y∈its,(∃ e∈A,e.x=y)∨y∈xs)→(∀ e∈A,∀ y∈xs,e.x.i≠y.i)→(xs.map (·.i)).Nodup→Lat ws L 0=L0 →
   ∃ A' ws' L',K A' L'∧Facts P n all its σ0 A' ws' L'∧(∀ y∈its,∃ e∈A',e.x=y)∧Lat ws' L' 0=L0
 | [],A,ws,L,K,h,hF,_,hall,_,_,h0=>⟨A,ws,L,h,hF,fun y hy=>(hall y hy).resolve_right (by simp),h0⟩
 | x::xs,A,ws,L,K,h,hF,hxs,hall,hne,hnd,h0=>by
  rw [dvK_cons] at h
  obtain ⟨h,hdlt⟩:=dstK_eq h
  obtain ⟨s1,h,hs1⟩:=viewTK_eq h
  obtain ⟨s2,h,hs2⟩:=viewAK_eq h
  have hx:x∈its:=hxs x (by simp)
  have hv:View A its σ0 x s2:=fun t=>by
   rcases hs2 t with ⟨e,h1,h2,h3,h4⟩ | h1 | ⟨h1,h2⟩
   ·exact .inl ⟨e,h1,h2,h3,by rw [h4];exact .refl _⟩
   ·exact .inr (.inl h1)
   ·rcases hs1 t with h3 | ⟨h3,h4⟩
    ·exact .inr (.inl (h1.trans h3))
    ·refine .inr (.inr ⟨by rw [h1,h3];exact .refl _,fun y hy hyd=>?_⟩)
     rcases hall y hy with ⟨e,h5,h6⟩ | h5
     ·exact (h2 e h5 (by rw [h6];exact hyd)).elim
     ·rcases List.mem_cons.1 h5 with rfl | h5
      ·exact .inl rfl
      ·exact .inr (h4 y h5 hyd)
  obtain ⟨s,A1,hsame,hv1,hrun⟩:=guardDK_eq (P:=P) h hv (fun e t he hed e' he' hed'=>by
   refine nodup_inj hF.nodup e he e' he' ?_
   exact hdst _ (hF.item e he) _ (hF.item e' he') t hed hed') (fun e t he hed=>by
   rcases hs2 t with ⟨e',h1,h2,h3,h4⟩ | h1 | ⟨h1,h2⟩
   ·exact .inl ⟨e',h1,h2,h3,by rw [h4];exact .refl _⟩
   ·exact .inr h1
   ·exact (h2 e he hed).elim)
  have hF1:=hF.same hsame
  have hne1:∀ e∈A1,∀ y∈x::xs,e.x.i≠y.i:=fun e he y hy=>by
   obtain ⟨e',h1,h2,_⟩:=hsame.2.2 e he
   rw [h2];exact hne e' h1 y hy
  have hall1:∀ (e:DE),e.x=x→∀ y∈its,(∃ e'∈e::A1,e'.x=y)∨y∈xs:=fun e hex y hy=>by
   rcases hall y hy with ⟨e',h1,h2⟩ | h1
   ·obtain ⟨e2,h3,h4,_⟩:=hsame.2.1 e' h1
    exact .inl ⟨e2,by simp [h3],h4.trans h2⟩
   ·rcases List.mem_cons.1 h1 with rfl | h1
    ·exact .inl ⟨e,by simp,hex⟩
    ·exact .inr h1
  simp only [List.map_cons,List.nodup_cons] at hnd
  have hnx:∀ y∈xs,x.i≠y.i:=fun y hy e=>hnd.1 (List.mem_map.2 ⟨y,hy,e.symm⟩)
  have hne2:∀ (e:DE),e.x=x→∀ e'∈e::A1,∀ y∈xs,e'.x.i≠y.i:=fun e hex e' he' y hy=>by
   rcases List.mem_cons.1 he' with rfl | he'
   ·rw [hex];exact hnx y hy
   ·exact hne1 e' he' y (by simp [hy])
  have hnew:∀ e'∈A1,e'.x.i≠x.i:=fun e' he'=>hne1 e' he' x (by simp)
  have hxs':∀ y∈xs,y∈its:=fun y hy=>hxs y (by simp [hy])
  have hnotw:NotW ws x.i:=fun r hr=>by
   obtain ⟨e,h1,h2⟩:=hF1.wsA r _ hr
   exact hnew e h1 h2
  rcases hrun with ⟨hr1,hop⟩ | ⟨hr1,hsk⟩
  ·rcases opK_sound hT hop with ⟨d,h1,h2⟩ | ⟨d,h1,h2⟩ | ⟨d,L',h1,h2⟩
   ·exact dvK_eq hT hI hdst h2 (hF1.cons (e:=⟨x,d,s,false⟩) hx hnew hdlt hv1 (.inr ⟨hr1,.inl ⟨h1,hnotw,rfl⟩⟩)) hxs' (hall1 _ rfl) (hne2 _ rfl) hnd.2 h0
   ·obtain ⟨h3,h4⟩:=backK_eq hT h2
    refine dvK_eq hT hI hdst h3 (hF1.cons (e:=⟨x,d,s,true⟩) hx hnew hdlt hv1 (.inr ⟨hr1,.inr (.inl ⟨fun c hc hw=>?_,hnotw,rfl⟩)⟩)) hxs' (hall1 _ rfl) (hne2 _ rfl) hnd.2 h0
    rcases Nat.lt_or_ge c ws.length with hlt | hge
    ·refine h4 L c hlt fun r i hi hr=>?_
     obtain ⟨e,h5,h6⟩:=hF1.wsA r i hi
     exact (hw r i e.x hi (hF1.item e h5) h6).2 hr
    ·have:c=ws.length:=by omega
     subst this
     rw [Lat_len];exact h1
   ·obtain ⟨h3,h4⟩:=behindK_eq h2
    obtain ⟨h5,h6⟩:=forthK_eq hT h3
    have hF2:Facts P n all its σ0 (⟨x,d,s,false⟩::A1) ((x.i,L)::ws) L':=by
     refine ⟨?_,?_,?_,?_,?_,?_,?_⟩
     ·simp only [List.map_cons,List.nodup_cons]
      refine ⟨fun hm=>?_,hF1.nodup⟩
      obtain ⟨e',h1,h2⟩:=List.mem_map.1 hm
      exact hnew e' h1 h2
     ·intro e he
      rcases List.mem_cons.1 he with rfl | he;exact hx;exact hF1.item e he
     ·intro e he
      rcases List.mem_cons.1 he with rfl | he;exact hdlt;exact hF1.dst e he
     ·intro e he
      rcases List.mem_cons.1 he with rfl | he;exact hv1.cons;exact (hF1.view e he).cons
     ·intro e he
      rcases List.mem_cons.1 he with rfl | he
      ·refine .inr ⟨hr1,.inr (.inr ⟨rfl,ws.length,Wat_new,?_⟩)⟩
       have e1:Lat ((x.i,L)::ws) L' ws.length=L:=by rw [Lat_cons (Nat.le_refl _),Lat_len]
       have e2:Lat ((x.i,L)::ws) L' (ws.length+1)=L':=by simp only [Lat];rw [if_neg (by omega)]
       rw [e1,e2];exact h1
      ·exact (hF1.kind e he).push hx (hnew e he) (h6 e he)
     ·intro r i hi
      simp only [Wat] at hi
      split at hi
      ·cases hi;exact ⟨_,List.mem_cons_self,rfl⟩
      ·obtain ⟨e,h7,h8⟩:=hF1.wsA r i hi
       exact ⟨e,by simp [h7],h8⟩
     ·intro r r' i i' y hlt hi hi' hy hyi
      have hr':=Wat_lt hi
      simp at hr'
      rw [Wat_cons (by omega)] at hi'
      simp only [Wat] at hi
      split at hi
      ·cases hi
       rw [hI.uniq y hy x hx hyi]
       obtain ⟨Lb,hm⟩:=Wat_mem hi'
       exact h4 _ hm
      ·exact hF1.tot r r' i i' y hlt hi hi' hy hyi
    exact dvK_eq hT hI hdst h5 hF2 hxs' (hall1 _ rfl) (hne2 _ rfl) hnd.2 (by rw [Lat_cons (Nat.zero_le _)];exact h0)
  ·exact dvK_eq hT hI hdst hsk (hF1.cons (e:=⟨x,.tup [],s,false⟩) hx hnew hdlt hv1 (.inl ⟨hr1,fun w F ρ L=>.pure _ _ (undef_rep _ _),hnotw,rfl⟩)) hxs' (hall1 _ rfl) (hne2 _ rfl) hnd.2 h0
inductive Ex where
 | normal
 | exit (id:Nat)
 | ret
def AQ (n:Nat) (E:Entry) (Q:Ex→List (Nat×D)→List Ob→Prop):Exit→Act→World→Prop
 | .normal,a,w=>∃ σ L,Q .normal σ L∧ARel n E σ L a w
 | .exit id,a,w=>∃ σ L,Q (.exit id) σ L∧ARel n E σ L a w
 | .ret,a,w=>∃ σ L,Q .ret σ L∧ARel n E σ L a w
 | _,_,_=>False
def AWP (P:Program) (n:Nat) (E:Entry) (c:Code) (Q:Ex→List (Nat×D)→List Ob→Prop) (σ:List (Nat×D)) (L:List Ob):Prop:=
 ∀ a w,ARel n E σ L a w→c.wp P (AQ n E Q) a w
structure Mid (n:Nat) (E:Entry) (σ0:List (Nat×D)) (A:List DE) (ws:List (Nat×List Ob)) (L:List Ob) (dn:List Nat) (c:Nat) (ρ:Pl) (a:Act) (w:World):Prop where
 le:c≤ws.length
 size:a.tmps.size=n
 defers:a.defers=[]
 fits:Fits w ρ (Lat ws L c)
 wsd:∀ r i,Wat ws r=some i→(i∈dn↔r < c)
 done:∀ e∈A,e.x.i∈dn→∀ t,e.x.o.dst=some t→Rep w (foot ρ (Lat ws L c)) ρ (Lat ws L c) e.d (a.tmps.getD t undef)
 rest:∀ t,(∀ e∈A,e.x.o.dst=some t→e.x.i∉dn)→Rep w (foot ρ (Lat ws L c)) ρ (Lat ws L c) (look σ0 t) (a.tmps.getD t undef)
 ext:Ext (own E.ρ E.L) E.w w
 fresh:Fresh E.w (own E.ρ E.L) (own ρ (Lat ws L c))
 compat:Compat E.ρ E.L ρ (Lat ws L c)
theorem Mid.env {P:Program} {n:Nat} {all:List Oper} {its:List DI} {E:Entry} {σ0:List (Nat×D)} {A:List DE} {ws:List (Nat×List Ob)} {L:List Ob} {dn:List Nat} {c:Nat} {ρ:Pl} {a:Act} {w:World}
  (h:Mid n E σ0 A ws L dn c ρ a w) (hF:Facts P n all its σ0 A ws L) (hc:Clo its dn) {e:DE} (he:e∈A) (hni:e.x.i∉dn) (hb:∀ j,bit e.x.m j=true→j∈dn):Env w ρ (Lat ws L c) e.s a:=fun t=>by
 rcases hF.view e he t with ⟨e',h1,h2,h3,h4⟩ | h1 | ⟨h1,h2⟩
 ·exact (h4 _ _ _ _ _).2 (h.done e' h1 (hb _ h3) t h2)
 ·rw [h1];exact .pure _ _ (.any _)
 ·refine (h1 _ _ _ _ _).2 (h.rest t fun e' he' hd hdn=>?_)
  rcases h2 e'.x (hF.item e' he') hd with h3 | h3
  ·rw [h3] at hdn;exact hni hdn
  ·exact hni (hc e'.x (hF.item e' he') hdn _ h3)
theorem Mid.step {P:Program} {n:Nat} {all:List Oper} {its:List DI} {E:Entry} {σ0:List (Nat×D)} {A:List DE} {ws:List (Nat×List Ob)} {L:List Ob} {dn:List Nat} {c c':Nat} {ρ ρ':Pl} {a:Act} {w w':World} {v:Value}
  (h:Mid n E σ0 A ws L dn c ρ a w) (hF:Facts P n all its σ0 A ws L) (hdst:∀ x∈its,∀ y∈its,∀ t,x.o.dst=some t→y.o.dst=some t→x.i=y.i)
  {e:DE} (he:e∈A) (hni:e.x.i∉dn) (hp:Post w ρ (Lat ws L c) e.d (Lat ws L c') v w' ρ') (hle:c'≤ws.length)
  (hws:∀ r i,Wat ws r=some i→(i∈e.x.i::dn↔r < c')):Mid n E σ0 A ws L (e.x.i::dn) c' ρ' (a.put e.x.o.dst v) w':=by
 have hfoot:=hp.fresh.foot hp.compat.hid
 have keep:∀ {d:D} {u:Value},Rep w (foot ρ (Lat ws L c)) ρ (Lat ws L c) d u→Rep w' (foot ρ' (Lat ws L c')) ρ' (Lat ws L c') d u:=fun h=>h.keep hp.ext.foot hfoot hp.compat
 have hput:∀ t,e.x.o.dst≠some t→(a.put e.x.o.dst v).tmps.getD t undef=a.tmps.getD t undef:=fun t ht=>by
  cases hd:e.x.o.dst with
  | none=>rfl
  | some u=>
   rw [hd] at ht
   have hne:u≠t:=fun e=>ht (by rw [e])
   simp only [Act.put,Array.getD_eq_getD_getElem?]
   rw [Array.getElem?_setIfInBounds_ne hne]
 have hput2:∀ t,e.x.o.dst=some t→(a.put e.x.o.dst v).tmps.getD t undef=v:=fun t ht=>by
  have hlt:=hF.dst e he t ht
  rw [ht]
  simp only [Act.put,Array.getD_eq_getD_getElem?]
  rw [Array.getElem?_setIfInBounds_self_of_lt (by rw [h.size];exact hlt)]
  rfl
 refine ⟨hle,?_,?_,hp.fits,hws,fun e' he' hdn t ht=>?_,fun t ht=>?_,?_,?_,h.compat.trans hp.compat⟩
 ·have:=h.size
  cases e.x.o.dst<;>simp [Act.put,this]
 ·have:=h.defers
  cases e.x.o.dst<;>simp [Act.put,this]
 ·by_cases hi:e'.x.i=e.x.i
  ·have:=nodup_inj hF.nodup e' he' e he hi
   subst this
   rw [hput2 t ht]
   exact hp.rep
  ·rw [hput t fun hd=>hi (hdst _ (hF.item e' he') _ (hF.item e he) t ht hd)]
   exact keep (h.done e' he' ((List.mem_cons.1 hdn).resolve_left hi) t ht)
 ·rw [hput t fun hd=>ht e he hd (by simp)]
  exact keep (h.rest t fun e' he' hd hdn=>ht e' he' hd (by simp [hdn]))
 ·exact h.ext.trans hp.ext fun x y hxl ho=>(h.fresh x y ho).resolve_right (by omega)
 ·intro b off ho
  rcases hp.fresh b off ho with h1 | h1
  ·exact h.fresh b off h1
  ·exact .inr (Nat.le_trans h.ext.size h1)
theorem mid_sound {P:Program} {n:Nat} {all:List Oper} {its:List DI} {E:Entry} {σ0:List (Nat×D)} {A:List DE} {ws:List (Nat×List Ob)} {L:List Ob} {Q:Exit→Act→World→Prop}
  (hI:Items all its) (hF:Facts P n all its σ0 A ws L) (hdst:∀ x∈its,∀ y∈its,∀ t,x.o.dst=some t→y.o.dst=some t→x.i=y.i) (hfull:∀ y∈its,∃ e∈A,e.x=y)
  (hQ:∀ a w,(∃ ρ,a.tmps.size=n∧a.defers=[]∧Fits w ρ L∧(∀ e∈A,∀ t,e.x.o.dst=some t→Rep w (foot ρ L) ρ L e.d (a.tmps.getD t undef)) ∧
    (∀ t,(∀ e∈A,e.x.o.dst≠some t)→Rep w (foot ρ L) ρ L (look σ0 t) (a.tmps.getD t undef))∧Ext (own E.ρ E.L) E.w w∧Fresh E.w (own E.ρ E.L) (own ρ L)∧Compat E.ρ E.L ρ L)→Q .normal a w) :
  ∀ (π dn:List Nat) (c:Nat) (ρ:Pl) (a:Act) (w:World),Sched all.toArray dn π→Clo its dn→Mid n E σ0 A ws L dn c ρ a w→wpOps P all.toArray Q π a w
 | [],dn,c,ρ,a,w,hS,hC,hM=>by
  have hmem:∀ e∈A,e.x.i∈dn:=fun e he=>hS _ (by
   have:=hI.at_ _ (hF.item e he)
   simpa using (List.getElem?_eq_some_iff.1 this).1)
  have hc:c=ws.length:=by
   rcases Nat.lt_or_ge c ws.length with hlt | hge
   ·obtain ⟨i,hi⟩:=Wat_some hlt
    obtain ⟨e,h1,h2⟩:=hF.wsA c i hi
    have:=(hM.wsd c i hi).1 (by rw [← h2];exact hmem e h1)
    omega
   ·have:=hM.le;omega
  subst hc
  have hL:Lat ws L ws.length=L:=Lat_len
  have hM':=hM
  obtain ⟨_,h1,h2,h3,h4,h5,h6,h7,h8,h9⟩:=hM
  rw [hL] at h3 h5 h6 h8 h9
  exact hQ a w ⟨ρ,h1,h2,h3,fun e he t ht=>h5 e he (hmem e he) t ht,fun t ht=>h6 t fun e he hd=>(ht e he hd).elim,h7,h8,h9⟩
 | i::π,dn,c,ρ,a,w,hS,hC,hM=>by
  obtain ⟨hi,hni,haft,hS'⟩:=hS
  obtain ⟨x,hx,hxi⟩:=hI.full i (by simpa using hi)
  subst hxi
  obtain ⟨e,he,hex⟩:=hfull x hx
  subst hex
  have hoi:all.toArray[e.x.i]?=some e.x.o:=by rw [List.getElem?_toArray];exact hI.at_ _ hx
  have hr:=haft _ hoi
  have hb:=hI.before hC hx hr
  have hC':=hI.clo hC hx hr
  have henv:=hM.env hF hC he hni hb
  simp only [wpOps,hoi]
  have hnw:NotW ws e.x.i→∀ r i,Wat ws r=some i→(i∈e.x.i::dn↔r < c):=fun hn r i hri=>by
   rw [← hM.wsd r i hri]
   constructor
   ·intro hm
    rcases List.mem_cons.1 hm with rfl | hm
    ·exact (hn r hri).elim
    ·exact hm
   ·intro hm;simp [hm]
  rcases hF.kind e he with ⟨h1,h2,h3,_⟩ | ⟨h1,hk⟩
  ·rw [h1 a w ρ _ henv]
   simp only [Bool.false_eq_true,if_false]
   exact mid_sound hI hF hdst hfull hQ π _ c ρ _ w hS' hC' (hM.step hF hdst he hni (.same hM.fits (h2 _ _ _ _)) hM.le (hnw h3))
  ·rw [h1 a w ρ _ henv]
   simp only [if_true]
   rcases hk with ⟨h2,h3,_⟩ | ⟨h2,h3,_⟩ | ⟨_,r,h2,h3⟩
   ·refine .inl (h2 _ a w ρ _ _ hM.fits henv fun v w' ρ' hp=>?_)
    exact mid_sound hI hF hdst hfull hQ π _ c ρ' _ w' hS' hC' (hM.step hF hdst he hni hp hM.le (hnw h3))
   ·refine .inl (h2 c hM.le (fun r i y hri hy hyi=>⟨fun hlt=>?_,fun hge=>?_⟩) a w ρ _ _ hM.fits henv fun v w' ρ' hp=>?_)
    ·cases hbb:bit y.m e.x.i with
     | false=>rfl
     | true=>exact (hni (hC y hy (by rw [hyi];exact (hM.wsd r i hri).2 hlt) _ hbb)).elim
    ·cases hbb:bit e.x.m i with
     | false=>rfl
     | true=>
      have:=(hM.wsd r i hri).1 (hb i hbb)
      omega
    ·exact mid_sound hI hF hdst hfull hQ π _ c ρ' _ w' hS' hC' (hM.step hF hdst he hni hp hM.le (hnw h3))
   ·have hrl:=Wat_lt h2
    have hrc:r=c:=by
     have hge:¬ r < c:=fun hlt=>hni ((hM.wsd r _ h2).2 hlt)
     rcases Nat.lt_or_ge c r with hlt | hge'
     ·obtain ⟨i',hi'⟩:=Wat_some (ws:=ws) (r:=c) (by omega)
      have:=hF.tot r c _ i' e.x hlt h2 hi' hx rfl
      have:=(hM.wsd c i' hi').1 (hb _ this)
      omega
     ·omega
    subst hrc
    refine .inl (h3 a w ρ _ _ hM.fits henv fun v w' ρ' hp=>?_)
    refine mid_sound hI hF hdst hfull hQ π _ (r+1) ρ' _ w' hS' hC' (hM.step hF hdst he hni hp (by omega) fun r' i' hri'=>?_)
    constructor
    ·intro hm
     rcases List.mem_cons.1 hm with rfl | hm
     ·rcases Nat.lt_trichotomy r' r with h | h | h
      ·omega
      ·omega
      ·exfalso
       have:=hF.tot r' r _ _ e.x h hri' h2 hx rfl
       exact hni (hb _ this)
     ·have:=(hM.wsd r' i' hri').1 hm;omega
    ·intro hlt
     rcases Nat.lt_or_ge r' r with h | h
     ·have:=(hM.wsd r' i' hri').2 h;simp [this]
     ·have:r'=r:=by omega
      subst this
      rw [h2] at hri'
      cases hri'
      simp
theorem draw_core {P:Program} {T:Tab} (hT:TabOk P T) {n:Nat} {E:Entry} {ops:Array Oper} {Q:Ex→List (Nat×D)→List Ob→Prop} {σ:List (Nat×D)} {L:List Ob}
  (h:drawK P T n ops.toList σ L (Q .normal)) {a:Act} {w:World} (hr:ARel n E σ L a w) :
  (∀ (i:Nat) o,ops[i]?=some o→∀ e∈o.after.toList,Region.binds .any e=true→e.on < i)∧∀ π,Sched ops [] π→wpOps P ops (AQ n E Q) π a { w with drawn:=w.drawn+1 }:=by
 unfold drawK at h
 split at h
 ·exact h.elim
 rename_i hd
 obtain ⟨_,hd⟩:=dstsB_eq hd
 obtain ⟨its,h,hI⟩:=itemsL_eq (all:=ops.toList) (fun j k hk=>by have:=nats_get j k hk;omega) (by simp) (Nat.zero_le _) (by simp) (by simp) (by simp) (by simp) (by simp) (by simp) h
 have h:=revDK_eq h
 have hdst:∀ x∈its,∀ y∈its,∀ t,x.o.dst=some t→y.o.dst=some t→x.i=y.i:=fun x hx y hy t h1 h2=>hd _ _ _ _ t (hI.at_ x hx) (hI.at_ y hy) h1 h2
 obtain ⟨A,ws,L',hQ,hF,hfull,h0⟩:=dvK_eq hT hI hdst (L0:=L) h ⟨by simp,by simp,by simp,by simp,by simp,by simp [Wat],by simp [Wat]⟩ (by simp) (fun y hy=>.inr (by simpa using hy)) (by simp) (by
  simp only [List.append_nil,List.map_reverse]
  unfold List.Nodup
  rw [List.pairwise_reverse]
  exact List.Pairwise.imp Ne.symm hI.nodup) rfl
 obtain ⟨σ',hQ,hσ⟩:=finK_eq hQ
 obtain ⟨ρ,h1,h2,h3,h4,h5,h6,h7⟩:=hr
 have hex:Ext F0 w { w with drawn:=w.drawn+1 }:=Ext.drew w
 have hp:Post w ρ L .any L undef { w with drawn:=w.drawn+1 } ρ:=.grow h3 hex (.pure _ _ (.any _))
 have hback:∀ (i:Nat) o,ops[i]?=some o→∀ e∈o.after.toList,Region.binds .any e=true→e.on < i:=fun i o hi e he hb=>by
  have hil:i < ops.toList.length:=by simpa using (Array.getElem?_eq_some_iff.1 hi).1
  obtain ⟨x,hx,hxi⟩:=hI.full i hil
  have:=hI.at_ x hx
  rw [hxi,Array.getElem?_toList,hi] at this
  cases this
  rw [← hxi]
  exact hI.back x hx e he hb
 refine ⟨hback,fun π hπ=>?_⟩
 have key:=mid_sound (P:=P) (E:=E) (Q:=AQ n E Q) hI hF hdst hfull (fun a w ⟨ρ,g1,g2,g3,g4,g5,g6⟩=>⟨σ',L',hQ,ρ,g1,g2,g3,fun t=>by
   rcases hσ t with ⟨e,k1,k2,k3⟩ | ⟨k1,k2⟩
   ·rw [k3];exact g4 e k1 t k2
   ·rw [k1];exact g5 t k2,g6⟩) π [] 0 ρ a { w with drawn:=w.drawn+1 } (by simpa using hπ) (fun x hx hxi=>by simp at hxi)
  ⟨Nat.zero_le _,h1,h2,by rw [h0];exact hp.fits,fun r i hi=>by simp,fun e he hi=>by simp at hi,fun t _=>by rw [h0];exact (hp.env h4) t,by
    exact h5.trans hp.ext fun x y hxl ho=>(h6 x y ho).resolve_right (by omega),by rw [h0];exact h6,by rw [h0];exact h7⟩
 simpa using key
theorem draw_sound {P:Program} {T:Tab} (hT:TabOk P T) (hm:P.follows .mixedOrders=true) {n:Nat} {E:Entry} {id:Nat} {ops:Array Oper} {Q:Ex→List (Nat×D)→List Ob→Prop} {σ:List (Nat×D)} {L:List Ob}
  (h:drawK P T n ops.toList σ L (Q .normal)):AWP P n E (.region id ops true) Q σ L:=by
 intro a w hr
 obtain ⟨h1,h2⟩:=draw_core hT h hr
 refine wp_region_draw fun t=>?_
 rw [hm]
 exact h2 _ (sched_any h1 t)
theorem guardK_sound {all:List Oper} {o:Oper} {σ:List (Nat×D)} {run skip:List (Nat×D)→Prop} (h:guardK all o.guard σ run skip) {w:World} {ρ:Pl} {L:List Ob} {a:Act} (he:Env w ρ L σ a) :
  ∃ σ',Env w ρ L σ' a∧((Region.wanted o (yielded all.toArray a.tmps)=true∧run σ')∨(Region.wanted o (yielded all.toArray a.tmps)=false∧skip σ')):=by
 unfold guardK at h
 split at h
 ·rename_i hg
  exact ⟨σ,he,.inl ⟨by simp [Region.wanted,hg],h⟩⟩
 ·rename_i j want hg
  split at h<;>try exact h.elim
  rename_i t ht
  have hw:∀ b,a.tmps.getD t undef= .bool b→Region.wanted o (yielded all.toArray a.tmps)=(b==want):=fun b hb=>by
   simp only [Region.wanted,hg,yielded_eq ht hb]
   cases b<;>cases want<;>rfl
  have hv:=he t
  split at h<;>try exact h.elim
  ·rename_i hl
   rw [hl] at hv
   have hw:=hw true hv.tt_inv
   split at h
   ·exact ⟨σ,he,.inl ⟨hw,h⟩⟩
   ·exact ⟨σ,he,.inr ⟨hw,h⟩⟩
  ·rename_i hl
   rw [hl] at hv
   have hw:=hw false hv.ff_inv
   split at h
   ·exact ⟨σ,he,.inr ⟨hw,h⟩⟩
   ·exact ⟨σ,he,.inl ⟨hw,h⟩⟩
  ·rename_i b hl
   rw [hl] at hv
   have hw:=hw b hv.bool_inv
   have htt:b=true→Env w ρ L ((t,.tt)::σ) a:=fun e=>env_refine he (by rw [hv.bool_inv,e];exact .pure _ _ .tt)
   have hff:b=false→Env w ρ L ((t,.ff)::σ) a:=fun e=>env_refine he (by rw [hv.bool_inv,e];exact .pure _ _ .ff)
   split at h
   ·cases b
    ·exact ⟨_,hff rfl,.inr ⟨hw,h.out.2 rfl⟩⟩
    ·exact ⟨_,htt rfl,.inl ⟨hw,h.out.1 rfl⟩⟩
   ·cases b
    ·exact ⟨_,hff rfl,.inl ⟨hw,h.out.2 rfl⟩⟩
    ·exact ⟨_,htt rfl,.inr ⟨hw,h.out.1 rfl⟩⟩
  ·rename_i ds hl
   split at h<;>try exact h.elim
   rw [hl] at hv
   refine ⟨σ,he,.inr ⟨?_,h⟩⟩
   simp only [Region.wanted,hg,yielded_none ht hv.undef_inv]
   rfl
theorem ops_sound {P:Program} {T:Tab} (hT:TabOk P T) {n:Nat} {E:Entry} {all:List Oper} {K:List (Nat×D)→List Ob→Prop} {Q:Exit→Act→World→Prop}
  (hQ:∀ σ L a w,K σ L→ARel n E σ L a w→Q .normal a w):∀ (os:List Oper) (k:Nat) (σ:List (Nat×D)) (L:List Ob) (a:Act) (w:World),(∀ j,os[j]?=all[k+j]?) →
    opsK P T n all os σ L K→ARel n E σ L a w→wpOps P all.toArray Q (List.range' k os.length) a w
 | [],k,σ,L,a,w,_,h,hr=>hQ _ _ _ _ h hr
 | o::os,k,σ,L,a,w,hall,h,hr=>by
  rw [opsK_cons] at h
  have hk:all.toArray[k]?=some o:=by
   have:=hall 0
   simp only [List.getElem?_cons_zero,Nat.add_zero] at this
   rw [List.getElem?_toArray,← this]
  obtain ⟨ρ,h1,h2,h3,h4,h5,h6,h7⟩:=hr
  have hnext:∀ j,os[j]?=all[k+1+j]?:=fun j=>by
   have:=hall (j+1)
   rw [List.getElem?_cons_succ] at this
   rw [this,Nat.add_assoc,Nat.add_comm 1 j]
  rw [List.length_cons,List.range'_succ]
  simp only [wpOps,hk]
  obtain ⟨σ',he',⟨hw,hrun⟩ | ⟨hw,hskip⟩⟩:=guardK_sound h h4
  ·rw [hw]
   simp only [if_true]
   cases hnil:eqNil T σ' o.op with
   | some ds=>
    rw [hnil] at hrun
    obtain ⟨n1,n2⟩:=hrun.out
    obtain ⟨t,x,m,e,e',ho,hu,hx⟩:=eqNil_eq hT hnil
    have hv:=he'.eval x
    rw [hx] at hv
    have hval:∃ ad l c,a.eval x= .slice ad l c∧(ad=none→ds=[]):=by
     generalize a.eval x=vx at hv
     cases hv with
     | pure _ _ h=>
      cases h with
      | slnil e ad=>exact ⟨ad,0,0,rfl,fun _=>rfl⟩
      | sl=>exact ⟨_,_,_,rfl,fun h=>by cases h⟩
    obtain ⟨ad,l,c,hav,hadn⟩:=hval
    have hrun':(execOp a.eval o).run P w= .ok (.value (.bool ad.isNone)) w:=by
     have hc0:a.eval (.const (.slice none 0 0))= .slice none 0 0:=rfl
     have hb:(binOp .eql t (.slice ad l c) (.slice none 0 0)).run P w= .ok (.bool ad.isNone) w:=by
      show (do pure (.bool (← Op.equal t (.slice ad l c) (.slice none 0 0))):Sem Value).run P w=_
      simp only [Sem.run_bind,run_equal_slice_nil w t e ad l c hu,Result.andThen,Sem.run_pure]
     have hg:(eqGuard .eql t x (.const (.slice none 0 0)) (.slice ad l c) (.slice none 0 0)).run P w= .ok () w:=rfl
     simp only [execOp,ho,hav,hc0,Sem.run_bind,hg,hb,Result.andThen,Sem.run_pure]
    have hd:∃ d,putS n o.dst d σ' (fun σ=>opsK P T n all os σ L K)∧Post w ρ L d L (.bool ad.isNone) w ρ:=by
     cases ad with
     | none=>exact ⟨.tt,(n1 (hadn rfl)).1,.same h3 (.pure _ _ .tt)⟩
     | some b=>
      by_cases hds:ds=[]
      ·exact ⟨.ff,(n1 hds).2,.same h3 (.pure _ _ .ff)⟩
      ·exact ⟨.ff,n2 hds,.same h3 (.pure _ _ .ff)⟩
    obtain ⟨d,hK,hp⟩:=hd
    refine .inl ?_
    unfold Oper.wp
    rw [hrun']
    obtain ⟨σ'',hK',hr'⟩:=ARel.step h1 h2 h3 he' h5 h6 h7 hp hK
    exact ops_sound hT hQ os (k+1) σ'' L _ w hnext hK' hr'
   | none=>
   rw [hnil] at hrun
   obtain ⟨d,L',hok,hK⟩:=opK_one hT (K:=fun d L=>putS n o.dst d σ' fun σ=>opsK P T n all os σ L K) hrun
   refine .inl (hok a w ρ _ _ h3 he' fun v w' ρ' hp=>?_)
   obtain ⟨σ'',hK',hr'⟩:=ARel.step h1 h2 h3 he' h5 h6 h7 hp hK
   exact ops_sound hT hQ os (k+1) σ'' L' _ w' hnext hK' hr'
  ·rw [hw]
   simp only [Bool.false_eq_true,if_false]
   obtain ⟨σ'',hK',hr'⟩:=ARel.step (dst:=o.dst) (v:=undef) h1 h2 h3 he' h5 h6 h7 (.same h3 (.pure _ _ (undef_rep _ _))) hskip
   exact ops_sound hT hQ os (k+1) σ'' L _ w hnext hK' hr'
def thenQ (K:List (Nat×D)→List Ob→Prop) (Q:Ex→List (Nat×D)→List Ob→Prop):Ex→List (Nat×D)→List Ob→Prop
 | .normal,σ,L=>K σ L
 | .exit id,σ,L=>Q (.exit id) σ L
 | .ret,σ,L=>Q .ret σ L
def blockQ (id:Nat) (Q:Ex→List (Nat×D)→List Ob→Prop):Ex→List (Nat×D)→List Ob→Prop
 | .normal,σ,L=>Q .normal σ L
 | .exit i,σ,L=>match Nat.beq i id with
  | true=>Q .normal σ L
  | false=>Q (.exit i) σ L
 | .ret,σ,L=>Q .ret σ L
def DrawS (A B:Prop):Prop:=A∨B
theorem dr_mk {A B:Prop} (h:A):DrawS A B:=.inl h
theorem dr_awp {A B:Prop} (h:B):DrawS A B:=.inr h
abbrev VcM:Type:=(Ex→List (Nat×D)→List Ob→Prop)→List (Nat×D)→List Ob→Prop
def vcSkip:VcM:=fun Q σ L=>Q .normal σ L
def vcRegion (P:Program) (T:Tab) (n:Nat) (E:Entry) (id:Nat) (ops:Array Oper) (draw:Bool):VcM:=fun Q σ L=>match draw with
 | false=>opsK P T n ops.toList ops.toList σ L (Q .normal)
 | true=>VS (DrawS (drawK P T n ops.toList σ L (Q .normal)) (AWP P n E (.region id ops true) Q σ L))
def vcSeq (_ _:Code) (ihx ihy:VcM):VcM:=fun Q σ L=>ihx (thenQ (ihy Q) Q) σ L
def vcCond (c:Operand) (_ _:Code) (ihx ihy:VcM):VcM:=fun Q σ L=>match evalD σ c with
 | .tt=>ihx Q σ L
 | .ff=>ihy Q σ L
 | .bool b=>VS (SplitS b (ihx Q σ L) (ihy Q σ L))
 | _=>False
def vcBlock (id:Nat) (_:Code) (ih:VcM):VcM:=fun Q σ L=>ih (blockQ id Q) σ L
def vcLoop (P:Program) (n:Nat) (E:Entry) (c:Code) (_:VcM):VcM:=fun Q σ L=>VS (AWP P n E (.loop c) Q σ L)
def vcExit (id:Nat):VcM:=fun Q σ L=>Q (.exit id) σ L
def vcRet:VcM:=fun Q σ L=>Q .ret σ L
def vcNo:VcM:=fun _ _ _=>False
def vcK (P:Program) (T:Tab) (n:Nat) (E:Entry):Code→VcM:=
 @Code.rec (fun _=>VcM) vcSkip (vcRegion P T n E) vcSeq vcCond vcBlock (vcLoop P n E) (fun _ _ _ _ _ _=>vcNo) vcExit (fun _ _=>vcNo) (fun _=>vcNo) (fun _=>vcNo) vcRet (fun _=>vcNo)
theorem awp_vc {P:Program} {T:Tab} (hT:TabOk P T) (hm:P.follows .mixedOrders=true) {n:Nat} {E:Entry}:∀ (c:Code) {Q:Ex→List (Nat×D)→List Ob→Prop} {σ:List (Nat×D)} {L:List Ob},vcK P T n E c Q σ L→AWP P n E c Q σ L
 | .skip,Q,σ,L,h=>fun a w hr=>wp_skip ⟨σ,L,h,hr⟩
 | .seq x y,Q,σ,L,h=>fun a w hr=>by
  refine wp_seq (wp_mono (awp_vc hT hm x h a w hr) fun e a w hq=>?_)
  cases e with
  | normal=>
   obtain ⟨σ',L',h1,h2⟩:=hq
   exact awp_vc hT hm y h1 a w h2
  | exit id=>exact hq
  | ret=>exact hq
  | goto l=>exact hq.elim
  | panic ch=>exact hq.elim
  | outgrown=>exact hq.elim
 | .region id ops draw,Q,σ,L,h=>by
  cases draw
  ·intro a w hr
   change opsK P T n ops.toList ops.toList σ L (Q .normal) at h
   refine wp_region ?_
   have:=ops_sound hT (E:=E) (Q:=AQ n E Q) (K:=Q .normal) (fun σ L a w h1 h2=>⟨σ,L,h1,h2⟩) ops.toList 0 σ L a w (by simp) h hr
   simpa [List.range_eq_range'] using this
  ·rcases VS.out h with h | h
   ·exact draw_sound hT hm h
   ·exact h
 | .cond c x y,Q,σ,L,h=>fun a w hr=>by
  change (match evalD σ c with
   | .tt=>vcK P T n E x Q σ L
   | .ff=>vcK P T n E y Q σ L
   | .bool b=>VS (SplitS b (vcK P T n E x Q σ L) (vcK P T n E y Q σ L))
   | _=>False) at h
  have hv:∃ ρ,Rep w (foot ρ L) ρ L (evalD σ c) (a.eval c):=by
   obtain ⟨ρ,_,_,_,he,_⟩:=hr
   exact ⟨ρ,he.eval c⟩
  obtain ⟨ρ,hv⟩:=hv
  split at h<;>try exact h.elim
  ·rename_i hc;rw [hc] at hv;exact wp_cond_true hv.tt_inv (awp_vc hT hm x h a w hr)
  ·rename_i hc;rw [hc] at hv;exact wp_cond_false hv.ff_inv (awp_vc hT hm y h a w hr)
  ·rename_i b hc
   rw [hc] at hv
   exact wp_cond_split hv.bool_inv (fun hb=>awp_vc hT hm x (h.out.1 hb) a w hr) (fun hb=>awp_vc hT hm y (h.out.2 hb) a w hr)
 | .block id c,Q,σ,L,h=>fun a w hr=>by
  refine wp_block (wp_mono (awp_vc hT hm c h a w hr) fun e a w hq=>?_)
  cases e with
  | normal=>exact hq
  | exit i=>
   obtain ⟨σ',L',h1,h2⟩:=hq
   simp only [blockQ] at h1
   simp only [Exit.inBlock]
   split at h1
   ·rename_i hb
    rw [if_pos (Nat.eq_of_beq_eq_true hb)]
    exact ⟨σ',L',h1,h2⟩
   ·rename_i hb
    rw [if_neg (fun e=>by subst e;simp at hb)]
    exact ⟨σ',L',h1,h2⟩
  | ret=>exact hq
  | goto l=>exact hq.elim
  | panic ch=>exact hq.elim
  | outgrown=>exact hq.elim
 | .exit id,Q,σ,L,h=>fun a w hr=>wp_exit ⟨σ,L,h,hr⟩
 | .ret,Q,σ,L,h=>fun a w hr=>wp_ret ⟨σ,L,h,hr⟩
 | .loop c,Q,σ,L,h=>VS.out h
def Shift (n0:Nat) (φ:D→D→Prop) (L L':List Ob):Prop:=
 ∀ (w:World) (ρ:Pl),Fits w ρ L→∃ ρ':Pl,Fits w ρ' L'∧(∀ d d' v,φ d d'→Rep w (foot ρ L) ρ L d v→Rep w (foot ρ' L') ρ' L' d' v)∧(∀ b off,own ρ' L' b off→own ρ L b off) ∧
  ∀ (ρ0:Pl) (L0:List Ob),L0.length=n0→Compat ρ0 L0 ρ L→Compat ρ0 L0 ρ' L'
theorem Shift.refl (n0:Nat) (L:List Ob):Shift n0 (fun d d'=>d=d') L L:=fun w ρ hf=>⟨ρ,hf,fun d d' v h hr=>by subst h;exact hr,fun _ _ h=>h,fun _ _ _ h=>h⟩
theorem Shift.trans {n0:Nat} {φ ψ:D→D→Prop} {L L' L'':List Ob} (h:Shift n0 φ L L') (k:Shift n0 ψ L' L''):Shift n0 (fun d d''=>∃ d',φ d d'∧ψ d' d'') L L'':=fun w ρ hf=>by
 obtain ⟨ρ1,h1,h2,h3,h4⟩:=h w ρ hf
 obtain ⟨ρ2,k1,k2,k3,k4⟩:=k w ρ1 h1
 exact ⟨ρ2,k1,fun d d'' v ⟨d',h5,h6⟩ hr=>k2 d' d'' v h6 (h2 d d' v h5 hr),fun b off ho=>h3 b off (k3 b off ho),fun ρ0 L0 e hc=>k4 ρ0 L0 e (h4 ρ0 L0 e hc)⟩
def StripOf (d d':D):Prop:=∀ (w:World) (F:Nat→Nat→Prop) (ρ:Pl) (L:List Ob) (v:Value),Rep w F ρ L d v→RepP w F d' v
structure StripEls (els els':List D):Prop where
 len:els.length=els'.length
 cells:∀ (i:Nat) d d',els[i]?=some d→els'[i]?=some d'→d.cells.length=d'.cells.length∧allOne d'.cells=true∧∀ (j:Nat) c c',d.cells[j]?=some c→d'.cells[j]?=some c'→StripOf c c'
inductive Fz (k e:Nat) (els els':List D) (tok:Nat):D→D→Prop
 | keep (d:D):Fz k e els els' tok d d
 | here (n len:Nat) (hn:n=els.length) (hl:len=els.length):Fz k e els els' tok (.osl e k n 0 len) (.sl e els' (some tok))
 | agg (ds ds':List D) (hl:ds.length=ds'.length) (h:∀ (i:Nat) d d',ds[i]?=some d→ds'[i]?=some d'→Fz k e els els' tok d d'):Fz k e els els' tok (.agg ds) (.agg ds')
 | tup (ds ds':List D) (hl:ds.length=ds'.length) (h:∀ (i:Nat) d d',ds[i]?=some d→ds'[i]?=some d'→Fz k e els els' tok d d'):Fz k e els els' tok (.tup ds) (.tup ds')
theorem app_get {α:Type} {L:List α} {o x:α} {k j:Nat} {d:α} (h:((L.set k d)++[o])[j]?=some x):(j < L.length∧(L.set k d)[j]?=some x)∨(j=L.length∧o=x):=by
 rcases snoc_get h with h | h
 ·exact .inl ⟨by simpa using h.1,h.2⟩
 ·exact .inr ⟨by simpa using h.1,h.2⟩
theorem shift_freeze {n0 k e:Nat} {els els':List D} {L:List Ob} (hk:L[k]?=some (.arr e els)) (hs:StripEls els els') :
  Shift n0 (Fz k e els els' L.length) L (L.set k .dead++[.spare els.length]):=fun w ρ hf=>by
 have hkl:k < L.length:=(List.getElem?_eq_some_iff.1 hk).1
 obtain ⟨o1,o2,o3,o4⟩:=hf.obj k _ hk
 let l':Loc:=⟨(ρ k).block,(ρ k).off+els.length * e,(ρ k).cap - els.length * e⟩
 let ρ':Pl:=upd ρ L.length l'
 have hnew:ρ' L.length=l':=upd_same _ _ _
 have hold:∀ j,j < L.length→ρ' j=ρ j:=fun j hj=>upd_ne (by omega)
 have hc:Compat ρ L ρ' (L.set k .dead++[.spare els.length]):=by
  refine ⟨rfl,by simp,fun j ds hj h=>?_,fun j ds hj h=>?_,fun j n hj h=>?_,fun j e' ds hj h=>?_⟩
  all_goals
   rcases app_get h with ⟨_,h1⟩ | ⟨h1,_⟩
   ·rcases set_get h1 with ⟨_,h2⟩ | ⟨_,h2⟩
    ·cases h2
    ·first
      | exact ⟨_,h2,hold j hj⟩
      | exact ⟨_,h2,Nat.le_refl _,fun _=>hold j hj⟩
   ·omega
 have hown:∀ b off,own ρ' (L.set k .dead++[.spare els.length]) b off→own ρ L b off:=by
  rintro b off ⟨j,o,h1,h2⟩
  rcases app_get h1 with ⟨hj,h3⟩ | ⟨rfl,rfl⟩
  ·rw [hold j hj] at h2
   rcases set_get h3 with ⟨_,h4⟩ | ⟨_,h4⟩
   ·subst h4;exact h2.elim
   ·exact ⟨j,o,h4,h2⟩
  ·rw [hnew] at h2
   obtain ⟨h3,h4,h5⟩:=h2
   have h4:(ρ k).off+els.length * e≤off:=h4
   have h5:off < (ρ k).off+els.length * e+((ρ k).cap - els.length * e):=h5
   exact ⟨k,_,hk,h3,by omega,by omega⟩
 have hfr:Fresh w (own ρ L) (own ρ' (L.set k .dead++[.spare els.length])):=fun b off h=>.inl (hown b off h)
 have hff:=hfr.foot (ρ':=ρ') rfl
 have keepP:∀ {d v},RepP w (foot ρ L) d v→RepP w (foot ρ' (L.set k .dead++[.spare els.length])) d v:=fun h=>h.keep (Ext.refl _ _) hff
 have hfits:Fits w ρ' (L.set k .dead++[.spare els.length]):=by
  refine hf.change F0 (fun _ _ h=>h.elim) (Ext.refl _ _) hc hfr (fun j j' x x' b off h1 h2 h3 h4=>?_) (fun j o hj=>?_)
  ·have g:∀ (j:Nat) x,(L.set k .dead++[.spare els.length])[j]?=some x→x.owns (ρ' j) b off→(j < L.length∧j≠k∧L[j]?=some x∧x.owns (ρ j) b off)∨(j=L.length∧Ob.owns (.arr e els) (ρ k) b off):=by
    intro j x h1 h2
    rcases app_get h1 with ⟨hj,h3⟩ | ⟨rfl,rfl⟩
    ·rw [hold j hj] at h2
     rcases set_get h3 with ⟨_,h4⟩ | ⟨h5,h4⟩
     ·subst h4;exact h2.elim
     ·exact .inl ⟨hj,h5,h4,h2⟩
    ·rw [hnew] at h2
     obtain ⟨h3,h4,h5⟩:=h2
     have h4:(ρ k).off+els.length * e≤off:=h4
     have h5:off < (ρ k).off+els.length * e+((ρ k).cap - els.length * e):=h5
     exact .inr ⟨rfl,h3,by omega,by omega⟩
   rcases g j x h1 h3 with ⟨_,g1,g2,g3⟩ | ⟨g1,g3⟩<;>rcases g j' x' h2 h4 with ⟨_,k1,k2,k3⟩ | ⟨k1,k3⟩
   ·exact hf.disj _ _ _ _ _ _ g2 k2 g3 k3
   ·exact (g1 (hf.disj _ _ _ _ _ _ g2 hk g3 k3)).elim
   ·exact (k1 (hf.disj _ _ _ _ _ _ k2 hk k3 g3)).elim
   ·omega
  ·rcases app_get hj with ⟨hjl,h1⟩ | ⟨rfl,rfl⟩
   ·rcases set_get h1 with ⟨_,h2⟩ | ⟨h2,h3⟩
    ·subst h2;exact .inr trivial
    ·exact .inl ⟨hjl,h3,hold j hjl,fun _ _ _ h=>h⟩
   ·refine .inr fun q hq=>?_
    rw [hnew] at hq ⊢
    have hq:q < (ρ k).cap - els.length * e:=hq
    have:=o4 (els.length * e+q) (by omega)
    rw [← Nat.add_assoc] at this
    exact this
 refine ⟨ρ',hfits,fun d d' v hφ hr=>?_,hown,fun ρ0 L0 hL0 hc0=>?_⟩
 ·induction hφ generalizing v with
  | keep d=>exact hr.keep (Ext.refl _ _) hff hc
  | here n len hn hl=>
   obtain ⟨a,cap,rfl,_,⟨c1,c2⟩,hm⟩:=hr.osl_inv
   obtain ⟨_,_,hm⟩:=hm _ _ hk
   obtain ⟨m1,m2,m3⟩:=hm hn.symm
   simp only [Nat.zero_mul,Nat.add_zero,Nat.zero_add] at m1 m2 m3
   subst hl
   refine .tok _ _ _ _ (by simp) ?_ fun q hq=>?_
   ·rcases (show cap=0∨a=some ⟨(ρ k).block,(ρ k).off,none⟩ from m1.elim .inl fun h=>h.imp c2 id) with hz | rfl
    ·have:=hz
     have h0:els'.length=0:=by rw [← hs.len];omega
     have h1:els.length=0:=by omega
     have h2:els'=[]:=List.eq_nil_of_length_eq_zero h0
     subst h2
     rw [h1]
     subst this
     exact .slnil _ _
    ·have back:∀ (i:Nat) d' (j:Nat) c',els'[i]?=some d'→d'.cells[j]?=some c'→∃ u,w.cell? ⟨(ρ k).block,(ρ k).off+(i * e+j),none⟩=some u∧RepP w (foot ρ L) c' u:=by
      intro i d' j c' hi hj
      have hil:i < els.length:=by rw [hs.len];exact (List.getElem?_eq_some_iff.1 hi).1
      have hi0:=List.getElem?_eq_getElem hil
      obtain ⟨h1,_,h2⟩:=hs.cells i _ d' hi0 hi
      have hjl:j < (els[i]).cells.length:=by rw [h1];exact (List.getElem?_eq_some_iff.1 hj).1
      obtain ⟨u,h3,h4⟩:=o3 i _ j _ hi0 (List.getElem?_eq_getElem hjl)
      exact ⟨u,h3,h2 j _ c' (List.getElem?_eq_getElem hjl) hj _ _ _ _ _ h4⟩
     rw [hs.len]
     refine .sl e els' (ρ k).block (ρ k).off cap (fun i j=>(w.cell? ⟨(ρ k).block,(ρ k).off+(i * e+j),none⟩).getD undef) (by rw [← hs.len];exact c1) (fun i d' hi=>?_) (fun i d' j c' hi hj=>?_) (fun i d' j c' hi hj=>?_) fun i d' j c' hi hj=>?_
     ·have hil:i < els.length:=by rw [hs.len];exact (List.getElem?_eq_some_iff.1 hi).1
      have hi0:=List.getElem?_eq_getElem hil
      rw [← (hs.cells i _ d' hi0 hi).1]
      exact o2 i _ hi0
     ·obtain ⟨u,h3,_⟩:=back i d' j c' hi hj
      have hil:i < els.length:=by rw [hs.len];exact (List.getElem?_eq_some_iff.1 hi).1
      have hi0:=List.getElem?_eq_getElem hil
      have hjl:j < e:=by
       rw [← o2 i _ hi0,(hs.cells i _ d' hi0 hi).1];exact (List.getElem?_eq_some_iff.1 hj).1
      have hin:=row_lt hil hjl
      refine ⟨by rw [h3];rfl,fun hF=>?_⟩
      rcases hF with ⟨q,o,h5,h6⟩ | h5
      ·rcases app_get h5 with ⟨hq,h7⟩ | ⟨rfl,rfl⟩
       ·rw [hold q hq] at h6
        rcases set_get h7 with ⟨_,h8⟩ | ⟨h9,h8⟩
        ·subst h8;exact h6
        ·exact h9 (hf.disj _ _ _ _ _ _ h8 hk h6 ⟨rfl,by omega,by omega⟩)
       ·rw [hnew] at h6
        obtain ⟨_,h7,_⟩:=h6
        have h7:(ρ k).off+els.length * e≤(ρ k).off+(i * e+j):=h7
        omega
      ·exact hf.sep _ _ ⟨k,_,hk,rfl,by omega,by omega⟩ h5
     ·obtain ⟨u,h3,h4⟩:=back i d' j c' hi hj
      have hil:i < els.length:=by rw [hs.len];exact (List.getElem?_eq_some_iff.1 hi).1
      have hi0:=List.getElem?_eq_getElem hil
      rw [h3]
      exact oneD_cell (.pure (L:=L) (ρ:=ρ) _ _ h4) (allOne_mem (hs.cells i _ d' hi0 hi).2.1 j _ hj)
     ·obtain ⟨u,h3,h4⟩:=back i d' j c' hi hj
      rw [h3,← hs.len]
      exact keepP h4
   ·have hq:q=els.length:=by
     rw [List.getElem?_append_right (by simp)] at hq
     simp at hq
     exact hq.symm
    refine ⟨by rw [hq,hs.len];exact Nat.le_refl _,fun _=>?_⟩
    rw [hnew]
    rcases (show cap=0∨a=some ⟨(ρ k).block,(ρ k).off,none⟩ from m1.elim .inl fun h=>h.imp c2 id) with hz | rfl
    ·subst hz
     have h1:els.length=0:=by omega
     have hz:(ρ k).cap - els.length * e=0:=by rw [← m2];simp
     cases a with
     | none=>exact ⟨rfl,hz⟩
     | some x=>exact .inr ⟨h1.symm,hz⟩
    ·refine .inl ⟨rfl,rfl,?_⟩
     show (ρ k).cap - els.length * e=(cap - els.length) * e
     rw [← m2,Nat.sub_mul]
  | agg ds ds' hl _ ih=>
   obtain ⟨vs,rfl,h1,h2⟩:=hr.agg_inv
   refine .agg _ _ (h1.trans hl) fun i d' v hd hv=>?_
   have hil:i < ds.length:=by rw [hl];exact (List.getElem?_eq_some_iff.1 hd).1
   exact ih i _ d' (List.getElem?_eq_getElem hil) hd v (h2 i _ v (List.getElem?_eq_getElem hil) hv)
  | tup ds ds' hl _ ih=>
   obtain ⟨vs,rfl,h1,h2⟩:=hr.tup_inv
   refine .tup _ _ (h1.trans hl) fun i d' v hd hv=>?_
   have hil:i < ds.length:=by rw [hl];exact (List.getElem?_eq_some_iff.1 hd).1
   exact ih i _ d' (List.getElem?_eq_getElem hil) hd v (h2 i _ v (List.getElem?_eq_getElem hil) hv)
 ·exact hc0.trans hc
end Go.Plat
