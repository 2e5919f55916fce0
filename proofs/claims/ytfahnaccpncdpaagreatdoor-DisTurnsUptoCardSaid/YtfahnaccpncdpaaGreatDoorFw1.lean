/-
  A part of the proof: what the given program's functions answer, each once; conditions that are enough for it.
-/
import Derived.RowKit3
import Derived.Calls
import Derived.Laws.Sem
import Derived.Orders
import Derived.Laws.World
import Derived.Laws.Cells
import Derived.ChangeKeysEq
import Derived.Laws.Strings
import Derived.Lib.SmallJoins
import Derived.Laws.NewBlocks
import Derived.Laws.MakeOwn
import Derived.Laws.IdiomCopy
import Derived.Laws.Append
import Derived.Laws.AppendOwn
import Derived.Laws.IdiomStrings
namespace Go.Plat
def globs:List (Nat×Nat×List Nat):=[(0,1,[0,0,0,0,0,0,0,0,0,1,1,1,1,1,0,0,0,0,0,0,0,0,0,0,0,0,0,0,0,0,0,0,1,0,0,0,0,0,0,0,0,0,0,0,0,0,0,0,0,0,0,0,0,0,0,0,0,0,0,0,0,0,0,0,0,0,0,0,0,0,0,0,0,0,0,0,0,0,0,0,0,0,0,0,0,0,0,0,0,0,0,0,0,0,0,0,0,0,0,0,0,0,0,0,0,0,0,0,0,0,0,0,0,0,0,0,0,0,0,0,0,0,0,0,0,0,0,0,0,0,0,0,0,0,0,0,0,0,0,0,0,0,0,0,0,0,0,0,0,0,0,0,0,0,0,0,0,0,0,0,0,0,0,0,0,0,0,0,0,0,0,0,0,0,0,0,0,0,0,0,0,0,0,0,0,0,0,0,0,0,0,0,0,0,0,0,0,0,0,0,0,0,0,0,0,0,0,0,0,0,0,0,0,0,0,0,0,0,0,0,0,0,0,0,0,0,0,0,0,0,0,0,0,0,0,0,0,0,0,0,0,0,0,0,0,0,0,0,0,0,0,0,0,0,0,0]),
 (2,2,[1,10,100,1000,10000,100000,1000000,10000000,100000000,1000000000,10000000000,100000000000,1000000000000,10000000000000,100000000000000,1000000000000000,10000000000000000,100000000000000000,1000000000000000000,10000000000000000000]),
 (6,1,[0,1,28,2,29,14,24,3,30,22,20,15,25,17,4,8,31,27,13,23,21,19,16,7,26,12,18,6,11,5,10,9]),
 (7,1,[0,1,56,2,57,49,28,3,61,58,42,50,38,29,17,4,62,47,59,36,45,43,51,22,53,39,33,30,24,18,12,5,63,55,48,27,60,41,37,16,46,35,44,21,52,32,23,11,54,26,40,15,34,20,31,10,25,14,19,9,13,8,7,6]),
 (8,0,[]),
 (9,0,[])]
end Go.Plat
namespace Go.Plat
open Go
set_option linter.unusedVariables false
set_option linter.unusedSimpArgs false
inductive D where
 | any
 | int (k:IntKind) (n:Int)
 | bool (b:Bool)
 | tt
 | ff
 | str (s:List UInt8)
 | agg (ds:List D)
 | tup (ds:List D)
 | nilsl
 | sl (e:Nat) (ds:List D) (tok:Option Nat)
 | osl (e k n off len:Nat)
 | nilp
 | ptr (cs:List D)
 | loc (k off:Nat)
 | aloc (k n i off:Nat)
 | cloc (k off:Nat)
 | tnil (k t n:Nat)
 | tosl (t k n:Nat)
 | csl (k off len:Nat)
 | nilmap
 | mp (k:Nat)
 | fn (f:Nat) (caps:List D)
 | nilfn
 | nilif
 | iface (t:Nat) (d:D)
 deriving Inhabited
def D.cells:D→List D
 | .agg ds=>ds
 | d=>[d]
structure Loc where
 block:Nat
 off:Nat
 cap:Nat
inductive Ob where
 | cells (ds:List D)
 | arr (e:Nat) (ds:List D)
 | spare (n:Nat)
 | map (es:List (D×D))
 | dead
 deriving Inhabited
def Ob.owns (o:Ob) (l:Loc) (b off:Nat):Prop:=
 match o with
 | .dead=>False
 | .map _=>b=l.block
 | _=>b=l.block∧l.off≤off∧off < l.off+l.cap
structure Pl where
 place:Nat→Loc
 hid:Nat→Nat→Prop
instance:CoeFun Pl fun _=>Nat→Loc:=⟨Pl.place⟩
def own (ρ:Pl) (L:List Ob) (b off:Nat):Prop:=
 ∃ (k:Nat) (o:Ob),L[k]?=some o∧o.owns (ρ k) b off
def foot (ρ:Pl) (L:List Ob) (b off:Nat):Prop:=own ρ L b off∨ρ.hid b off
inductive RepP (w:World) (F:Nat→Nat→Prop):D→Value→Prop
 | any (v:Value):RepP w F .any v
 | int (k:IntKind) (n:Int):RepP w F (.int k n) (.int k n)
 | bool (b:Bool):RepP w F (.bool b) (.bool b)
 | tt:RepP w F .tt (.bool true)
 | ff:RepP w F .ff (.bool false)
 | str (s:List UInt8):RepP w F (.str s) (.string ⟨s.toArray⟩)
 | agg (ds:List D) (vs:List Value) (hl:vs.length=ds.length)
   (h:∀ (i:Nat) d v,ds[i]?=some d→vs[i]?=some v→RepP w F d v):RepP w F (.agg ds) (.agg vs.toArray)
 | tup (ds:List D) (vs:List Value) (hl:vs.length=ds.length)
   (h:∀ (i:Nat) d v,ds[i]?=some d→vs[i]?=some v→RepP w F d v):RepP w F (.tup ds) (.tuple vs.toArray)
 | nilsl (a:Option Addr):RepP w F .nilsl (.slice a 0 0)
 | slnil (e:Nat) (a:Option Addr):RepP w F (.sl e [] none) (.slice a 0 0)
 | sl (e:Nat) (ds:List D) (b off cap:Nat) (val:Nat→Nat→Value) (hcap:ds.length≤cap)
   (hlen:∀ (i:Nat) d,ds[i]?=some d→d.cells.length=e)
   (hcell:∀ (i:Nat) d (j:Nat) c,ds[i]?=some d→d.cells[j]?=some c →
     w.cell? ⟨b,off+(i * e+j),none⟩=some (val i j)∧¬ F b (off+(i * e+j)))
   (hone:∀ (i:Nat) d (j:Nat) c,ds[i]?=some d→d.cells[j]?=some c→(val i j).oneCell'=true)
   (h:∀ (i:Nat) d (j:Nat) c,ds[i]?=some d→d.cells[j]?=some c→RepP w F c (val i j)) :
   RepP w F (.sl e ds none) (.slice (some ⟨b,off,none⟩) ds.length cap)
 | nilp:RepP w F .nilp (.pointer none)
 | ptr (cs:List D) (b off:Nat) (val:Nat→Value)
   (hcell:∀ (j:Nat) c,cs[j]?=some c→w.cell? ⟨b,off+j,none⟩=some (val j)∧¬ F b (off+j))
   (h:∀ (j:Nat) c,cs[j]?=some c→RepP w F c (val j)):RepP w F (.ptr cs) (.pointer (some ⟨b,off,none⟩))
 | nilmap:RepP w F .nilmap (.map none)
 | fn (f:Nat) (ds:List D) (vs:List Value) (hl:vs.length=ds.length)
   (h:∀ (i:Nat) d v,ds[i]?=some d→vs[i]?=some v→RepP w F d v):RepP w F (.fn f ds) (.func (.func f) #[] vs.toArray)
 | nilfn:RepP w F .nilfn .nilFunc
 | nilif:RepP w F .nilif .nilIface
 | iface (t:Nat) (d:D) (v:Value) (h:RepP w F d v):RepP w F (.iface t d) (.iface t v)
def TokMatch (v:Value) (e:Nat) (l:Loc):Prop:=
 match v with
 | .slice none _ cap=>cap=0∧l.cap=0
 | .slice (some a) len cap=>(l.block=a.block∧l.off=a.off+len * e∧l.cap=(cap - len) * e)∨(cap=len∧l.cap=0)
 | _=>False
inductive Rep (w:World) (F:Nat→Nat→Prop) (ρ:Pl) (L:List Ob):D→Value→Prop
 | pure (d:D) (v:Value) (h:RepP w F d v):Rep w F ρ L d v
 | agg (ds:List D) (vs:List Value) (hl:vs.length=ds.length)
   (h:∀ (i:Nat) d v,ds[i]?=some d→vs[i]?=some v→Rep w F ρ L d v):Rep w F ρ L (.agg ds) (.agg vs.toArray)
 | tup (ds:List D) (vs:List Value) (hl:vs.length=ds.length)
   (h:∀ (i:Nat) d v,ds[i]?=some d→vs[i]?=some v→Rep w F ρ L d v):Rep w F ρ L (.tup ds) (.tuple vs.toArray)
 | fn (f:Nat) (ds:List D) (vs:List Value) (hl:vs.length=ds.length)
   (h:∀ (i:Nat) d v,ds[i]?=some d→vs[i]?=some v→Rep w F ρ L d v):Rep w F ρ L (.fn f ds) (.func (.func f) #[] vs.toArray)
 | tok (e:Nat) (ds:List D) (k:Nat) (v:Value) (hk:k < L.length) (h:RepP w F (.sl e ds none) v)
   (hm:∀ n,L[k]?=some (.spare n)→ds.length≤n∧(ds.length=n→TokMatch v e (ρ k))):Rep w F ρ L (.sl e ds (some k)) v
 | osl (e k n off len:Nat) (a:Option Addr) (cap:Nat) (hk:k < L.length) (hc:len≤cap∧(a=none→cap=0))
   (hm:∀ e' ds,L[k]?=some (.arr e' ds)→e'=e∧n≤ds.length∧(ds.length=n→(cap=0∨a=none∨a=some ⟨(ρ k).block,(ρ k).off+off * e,none⟩)∧(off+cap) * e=(ρ k).cap∧off+len≤n)) :
   Rep w F ρ L (.osl e k n off len) (.slice a len cap)
 | loc (k off:Nat) (a:Addr) (hk:k < L.length) (hm:∀ ds,L[k]?=some (.cells ds)→a=⟨(ρ k).block,(ρ k).off+off,none⟩) :
   Rep w F ρ L (.loc k off) (.pointer (some a))
 | aloc (k n i off:Nat) (a:Addr) (hk:k < L.length)
   (hm:∀ e ds,L[k]?=some (.arr e ds)→n≤ds.length∧(ds.length=n→a=⟨(ρ k).block,(ρ k).off+(i * e+off),none⟩)) :
   Rep w F ρ L (.aloc k n i off) (.pointer (some a))
 | cloc (k off:Nat) (a:Addr) (hk:k < L.length) (hm:∀ ds,L[k]?=some (.cells ds)→a=⟨(ρ k).block,(ρ k).off+off,none⟩) :
   Rep w F ρ L (.cloc k off) (.pointer (some a))
 | tnil (k t n:Nat) (hk:k < L.length) (hm:∀ ds,L[k]?=some (.cells ds)→(ρ k).off=0∧w.shape? (ρ k).block=some (t,n)):Rep w F ρ L (.tnil k t n) (.pointer none)
 | tosl (t k n:Nat) (a:Option Addr) (cap:Nat) (hk:k < L.length) (hc:n≤cap)
   (hm:∀ e ds,L[k]?=some (.arr e ds)→e=1∧n≤ds.length∧(ds.length=n→cap=(ρ k).cap∧((a=none∧cap=0)∨(a=some ⟨(ρ k).block,0,none⟩∧(ρ k).off=0∧w.shape? (ρ k).block=some (t,cap))))) :
   Rep w F ρ L (.tosl t k n) (.slice a n cap)
 | csl (k off len:Nat) (a:Addr) (cap:Nat) (hk:k < L.length) (hc:len≤cap) (hm:∀ ds,L[k]?=some (.cells ds)→len≠0→a=⟨(ρ k).block,(ρ k).off+off,none⟩):Rep w F ρ L (.csl k off len) (.slice (some a) len cap)
 | mp (k r:Nat) (hk:k < L.length) (hm:∀ es,L[k]?=some (.map es)→r=(ρ k).block):Rep w F ρ L (.mp k) (.map (some r))
def Clean (w:World) (b:Nat):Prop:=∀ row t lo hi,w.heap[b]?=some (.cells row t (lo,hi))→lo=hi∨row.size≤lo
def Soft (w:World) (b off:Nat):Prop:=w.frozen? ⟨b,off,none⟩=false∧Clean w b
def ObFits (w:World) (F:Nat→Nat→Prop) (ρ:Pl) (L:List Ob) (l:Loc):Ob→Prop
 | .cells ds=>l.cap=ds.length∧∀ (j:Nat) d,ds[j]?=some d →
   (∃ v,w.cell? ⟨l.block,l.off+j,none⟩=some v∧Rep w F ρ L d v)∧Soft w l.block (l.off+j)
 | .arr e ds=>ds.length * e≤l.cap∧(∀ (i:Nat) d,ds[i]?=some d→d.cells.length=e) ∧
   (∀ (i:Nat) d (j:Nat) c,ds[i]?=some d→d.cells[j]?=some c→∃ v,w.cell? ⟨l.block,l.off+(i * e+j),none⟩=some v∧Rep w F ρ L c v) ∧
   (∀ j,j < l.cap→(∃ v,w.cell? ⟨l.block,l.off+j,none⟩=some v)∧Soft w l.block (l.off+j))
 | .spare _=>∀ j,j < l.cap→(∃ v,w.cell? ⟨l.block,l.off+j,none⟩=some v)∧Soft w l.block (l.off+j)
 | .map es=>∃ (ents:Array MapEntry) (clock:Nat),w.heap[l.block]?=some (.map ents clock)∧ents.size=es.length ∧
   ∀ (i:Nat) p m,es[i]?=some p→ents[i]?=some m→RepP w F p.1 m.key∧Rep w F ρ L p.2 m.val
 | .dead=>True
def globD (k:Nat) (ns:List Nat):List D:=
 match k with
 | 0=>[.any]
 | 1=>ns.map fun n=>.int .u8 (n:Nat)
 | _=>ns.map fun n=>.int .u64 (n:Nat)
def findG:List (Nat×Nat×List Nat)→Nat→Option (List D)
 | [],_=>none
 | (h,k,ns)::r,g=>match Nat.beq h g with
  | true=>some (globD k ns)
  | false=>findG r g
def GOk (w:World) (F:Nat→Nat→Prop):Prop:=∀ g cs,findG globs g=some cs→RepP w F (.ptr cs) (.pointer (some ⟨g,0,none⟩)) ∧
 (∀ off,¬ F g off)∧(∃ row t z,w.heap[g]?=some (.cells row t z)∧(row.size=cs.length∨cs=[.any])) ∧
 (cs=[.any]→∃ u v,w.cell? ⟨g,0,none⟩=some (.iface u v))
structure Fits (w:World) (ρ:Pl) (L:List Ob):Prop where
 glob:GOk w (foot ρ L)
 hid:∀ b off,ρ.hid b off→b < w.heap.size
 sep:∀ b off,own ρ L b off→¬ ρ.hid b off
 obj:∀ (k:Nat) o,L[k]?=some o→ObFits w (foot ρ L) ρ L (ρ k) o
 disj:∀ (k k':Nat) (o o':Ob) (b off:Nat),L[k]?=some o→L[k']?=some o'→o.owns (ρ k) b off→o'.owns (ρ k') b off→k=k'
structure Ext (F:Nat→Nat→Prop) (w w':World):Prop where
 os:w'.os=w.os
 tape:w'.tape=w.tape
 output:w'.output=w.output
 size:w.heap.size≤w'.heap.size
 block:∀ b,b < w.heap.size→(∀ off,¬ F b off)→w'.heap[b]?=w.heap[b]?
 cell:∀ b off,b < w.heap.size→¬ F b off→w'.cell? ⟨b,off,none⟩=w.cell? ⟨b,off,none⟩
 frozen:∀ b off v,¬ F b off→w.cell? ⟨b,off,none⟩=some v→Soft w b off→Soft w' b off
 shape:∀ b s,w.shape? b=some s→w'.shape? b=some s
theorem block_lt {w:World} {b off:Nat} {v:Value} (h:w.cell? ⟨b,off,none⟩=some v):b < w.heap.size:=
 World.block_lt_of_cell? w ⟨b,off,none⟩ h
theorem Ext.refl (F:Nat→Nat→Prop) (w:World):Ext F w w:=
 ⟨rfl,rfl,rfl,Nat.le_refl _,fun _ _ _=>rfl,fun _ _ _ _=>rfl,fun _ _ _ _ _ h=>h,fun _ _ h=>h⟩
theorem Ext.trans {F F':Nat→Nat→Prop} {a b c:World} (h:Ext F a b) (k:Ext F' b c)
  (hF:∀ x y,x < a.heap.size→F' x y→F x y):Ext F a c where
 os:=k.os.trans h.os
 tape:=k.tape.trans h.tape
 output:=k.output.trans h.output
 size:=Nat.le_trans h.size k.size
 block x hx hn:=(k.block x (Nat.lt_of_lt_of_le hx h.size) fun off hf=>hn off (hF _ _ hx hf)).trans (h.block x hx hn)
 cell x y hx hn:=(k.cell x y (Nat.lt_of_lt_of_le hx h.size) fun hf=>hn (hF _ _ hx hf)).trans (h.cell x y hx hn)
 frozen x y v hn hv hs:=k.frozen x y v (fun hf=>hn (hF _ _ (block_lt hv) hf)) ((h.cell x y (block_lt hv) hn).trans hv) (h.frozen x y v hn hv hs)
 shape b s hs:=k.shape b s (h.shape b s hs)
theorem Ext.mono {F F':Nat→Nat→Prop} {a b:World} (h:Ext F a b) (hF:∀ x y,x < a.heap.size→F x y→F' x y):Ext F' a b where
 os:=h.os
 tape:=h.tape
 output:=h.output
 size:=h.size
 block x hx hn:=h.block x hx fun off hf=>hn off (hF _ _ hx hf)
 cell x y hx hn:=h.cell x y hx fun hf=>hn (hF _ _ hx hf)
 frozen x y v hn hv hs:=h.frozen x y v (fun hf=>hn (hF _ _ (block_lt hv) hf)) hv hs
 shape b s hs:=h.shape b s hs
def Fresh (w:World) (F F':Nat→Nat→Prop):Prop:=∀ b off,F' b off→F b off∨w.heap.size≤b
theorem cell_lt {w:World} {b off:Nat} {v:Value} (h:w.cell? ⟨b,off,none⟩=some v):b < w.heap.size:=
 World.block_lt_of_cell? w ⟨b,off,none⟩ h
theorem RepP.keep {w w':World} {F F':Nat→Nat→Prop} (he:Ext F w w') (hf:Fresh w F F') {d:D} {v:Value}
  (h:RepP w F d v):RepP w' F' d v:=by
 have key:∀ b off v,w.cell? ⟨b,off,none⟩=some v∧¬ F b off→w'.cell? ⟨b,off,none⟩=some v∧¬ F' b off:=by
  intro b off v ⟨hc,hn⟩
  have hlt:=cell_lt hc
  refine ⟨(he.cell b off hlt hn).trans hc,fun hF=>?_⟩
  rcases hf b off hF with h | h
  ·exact hn h
  ·omega
 induction h with
 | any v=>exact .any v
 | int k n=>exact .int k n
 | bool b=>exact .bool b
 | tt=>exact .tt
 | ff=>exact .ff
 | str s=>exact .str s
 | agg ds vs hl _ ih=>exact .agg ds vs hl ih
 | tup ds vs hl _ ih=>exact .tup ds vs hl ih
 | nilsl a=>exact .nilsl a
 | slnil e a=>exact .slnil e a
 | sl e ds b off cap val hcap hlen hcell hone _ ih=>
  exact .sl e ds b off cap val hcap hlen (fun i d j c h1 h2=>key _ _ _ (hcell i d j c h1 h2)) hone ih
 | nilp=>exact .nilp
 | ptr cs b off val hcell _ ih=>exact .ptr cs b off val (fun j c h=>key _ _ _ (hcell j c h)) ih
 | nilmap=>exact .nilmap
 | fn f ds vs hl _ ih=>exact .fn f ds vs hl ih
 | nilfn=>exact .nilfn
 | nilif=>exact .nilif
 | iface t d v _ ih=>exact .iface t d v ih
theorem GOk.keep {w w':World} {F F':Nat→Nat→Prop} (h:GOk w F) (he:Ext F w w') (hf:Fresh w F F'):GOk w' F':=fun g cs hg=>by
 obtain ⟨h1,h2,⟨row,t,z,h3,h4⟩,h5⟩:=h g cs hg
 have hlt:g < w.heap.size:=(Array.getElem?_eq_some_iff.1 h3).1
 refine ⟨h1.keep he hf,fun off hF=>?_,⟨row,t,z,(he.block g hlt h2).trans h3,h4⟩,fun e=>by
  obtain ⟨u,v,h6⟩:=h5 e
  exact ⟨u,v,(he.cell g 0 hlt (h2 0)).trans h6⟩⟩
 rcases hf g off hF with h | h
 ·exact h2 off h
 ·omega
structure Compat (ρ:Pl) (L:List Ob) (ρ':Pl) (L':List Ob):Prop where
 hid:ρ'.hid=ρ.hid
 len:L.length≤L'.length
 cells:∀ (k:Nat) ds',k < L.length→L'[k]?=some (.cells ds')→∃ ds,L[k]?=some (.cells ds)∧ρ' k=ρ k
 map:∀ (k:Nat) es',k < L.length→L'[k]?=some (.map es')→∃ es,L[k]?=some (.map es)∧ρ' k=ρ k
 spare:∀ (k:Nat) n',k < L.length→L'[k]?=some (.spare n')→∃ n,L[k]?=some (.spare n)∧n≤n'∧(n=n'→ρ' k=ρ k)
 arr:∀ (k:Nat) e' ds',k < L.length→L'[k]?=some (.arr e' ds') →
  ∃ ds,L[k]?=some (.arr e' ds)∧ds.length≤ds'.length∧(ds.length=ds'.length→ρ' k=ρ k)
theorem Compat.refl (ρ:Pl) (L:List Ob):Compat ρ L ρ L:=
 ⟨rfl,Nat.le_refl _,fun k ds' _ h=>⟨ds',h,rfl⟩,fun k ds' _ h=>⟨ds',h,rfl⟩,fun k n' _ h=>⟨n',h,Nat.le_refl _,fun _=>rfl⟩,
   fun k e' ds' _ h=>⟨ds',h,Nat.le_refl _,fun _=>rfl⟩⟩
theorem Compat.trans {ρ ρ' ρ'':Pl} {L L' L'':List Ob} (h:Compat ρ L ρ' L') (k:Compat ρ' L' ρ'' L''):Compat ρ L ρ'' L'' where
 hid:=k.hid.trans h.hid
 len:=Nat.le_trans h.len k.len
 cells i ds'' hi h2:=by
  obtain ⟨ds',h3,h4⟩:=k.cells i ds'' (Nat.lt_of_lt_of_le hi h.len) h2
  obtain ⟨ds,h5,h6⟩:=h.cells i ds' hi h3
  exact ⟨ds,h5,h4.trans h6⟩
 map i ds'' hi h2:=by
  obtain ⟨ds',h3,h4⟩:=k.map i ds'' (Nat.lt_of_lt_of_le hi h.len) h2
  obtain ⟨ds,h5,h6⟩:=h.map i ds' hi h3
  exact ⟨ds,h5,h4.trans h6⟩
 spare i n'' hi h2:=by
  obtain ⟨n',h3,h4,h5⟩:=k.spare i n'' (Nat.lt_of_lt_of_le hi h.len) h2
  obtain ⟨n,h6,h7,h8⟩:=h.spare i n' hi h3
  exact ⟨n,h6,by omega,fun e=>(h5 (by omega)).trans (h8 (by omega))⟩
 arr i e'' ds'' hi h2:=by
  obtain ⟨ds',h3,h4,h5⟩:=k.arr i e'' ds'' (Nat.lt_of_lt_of_le hi h.len) h2
  obtain ⟨ds,h6,h7,h8⟩:=h.arr i e'' ds' hi h3
  exact ⟨ds,h6,by omega,fun e=>(h5 (by omega)).trans (h8 (by omega))⟩
theorem Rep.keep {w w':World} {F F':Nat→Nat→Prop} {ρ ρ':Pl} {L L':List Ob} (he:Ext F w w') (hf:Fresh w F F')
  (hc:Compat ρ L ρ' L') {d:D} {v:Value} (h:Rep w F ρ L d v):Rep w' F' ρ' L' d v:=by
 have hl:∀ {k},k < L.length→k < L'.length:=fun h=>Nat.lt_of_lt_of_le h hc.len
 induction h with
 | pure d v h=>exact .pure d v (h.keep he hf)
 | agg ds vs hl _ ih=>exact .agg ds vs hl ih
 | tup ds vs hl _ ih=>exact .tup ds vs hl ih
 | fn f ds vs hl _ ih=>exact .fn f ds vs hl ih
 | tok e ds k v hk h hm=>
  refine .tok e ds k v (hl hk) (h.keep he hf) fun n' hn'=>?_
  obtain ⟨n,h1,h2,h3⟩:=hc.spare k n' hk hn'
  obtain ⟨h4,h5⟩:=hm n h1
  refine ⟨by omega,fun e=>?_⟩
  rw [h3 (by omega)]
  exact h5 (by omega)
 | osl e k n off len a cap hk hcap hm=>
  refine .osl e k n off len a cap (hl hk) hcap fun e' ds' hn'=>?_
  obtain ⟨ds,h1,h2,h3⟩:=hc.arr k e' ds' hk hn'
  obtain ⟨h0,h4,h5⟩:=hm e' ds h1
  refine ⟨h0,by omega,fun e=>?_⟩
  rw [h3 (by omega)]
  exact h5 (by omega)
 | loc k off a hk hm=>
  refine .loc k off a (hl hk) fun ds' hn'=>?_
  obtain ⟨ds,h1,h2⟩:=hc.cells k ds' hk hn'
  rw [h2];exact hm ds h1
 | cloc k off a hk hm=>
  refine .cloc k off a (hl hk) fun ds' hn'=>?_
  obtain ⟨ds,h1,h2⟩:=hc.cells k ds' hk hn'
  rw [h2];exact hm ds h1
 | aloc k n i off a hk hm=>
  refine .aloc k n i off a (hl hk) fun e' ds' hn'=>?_
  obtain ⟨ds,h1,h2,h3⟩:=hc.arr k e' ds' hk hn'
  obtain ⟨h4,h5⟩:=hm e' ds h1
  refine ⟨by omega,fun e=>?_⟩
  rw [h3 (by omega)]
  exact h5 (by omega)
 | tnil k t n hk hm=>
  refine .tnil k t n (hl hk) fun ds' hn'=>?_
  obtain ⟨ds,h1,h2⟩:=hc.cells k ds' hk hn'
  rw [h2];exact ⟨(hm ds h1).1,he.shape _ _ (hm ds h1).2⟩
 | tosl t k n a cap hk hcap hm=>
  refine .tosl t k n a cap (hl hk) hcap fun e' ds' hn'=>?_
  obtain ⟨ds,h1,h2,h3⟩:=hc.arr k e' ds' hk hn'
  obtain ⟨h0,h4,h5⟩:=hm e' ds h1
  refine ⟨h0,by omega,fun e=>?_⟩
  rw [h3 (by omega)]
  obtain ⟨h6,h7⟩:=h5 (by omega)
  exact ⟨h6,h7.imp id fun ⟨h8,h9,h10⟩=>⟨h8,h9,he.shape _ _ h10⟩⟩
 | csl k off len a cap hk hcap hm=>
  refine .csl k off len a cap (hl hk) hcap fun ds' hn'=>?_
  obtain ⟨ds,h1,h2⟩:=hc.cells k ds' hk hn'
  rw [h2];exact hm ds h1
 | mp k r hk hm=>
  refine .mp k r (hl hk) fun ds' hn'=>?_
  obtain ⟨ds,h1,h2⟩:=hc.map k ds' hk hn'
  rw [h2];exact hm ds h1
theorem Fresh.foot {w:World} {ρ ρ':Pl} {L L':List Ob} (h:Fresh w (own ρ L) (own ρ' L')) (hh:ρ'.hid=ρ.hid):Fresh w (foot ρ L) (foot ρ' L'):=by
 rintro b off (ho | ho)
 ·exact (h b off ho).imp .inl id
 ·exact .inl (.inr (by rwa [hh] at ho))
structure VS (p:Prop):Prop where
 out:p
structure Post (w:World) (ρ:Pl) (L:List Ob) (d:D) (L':List Ob) (v:Value) (w':World) (ρ':Pl):Prop where
 fits:Fits w' ρ' L'
 rep:Rep w' (foot ρ' L') ρ' L' d v
 ext:Ext (own ρ L) w w'
 fresh:Fresh w (own ρ L) (own ρ' L')
 compat:Compat ρ L ρ' L'
theorem Ext.foot {ρ:Pl} {L:List Ob} {w w':World} (h:Ext (own ρ L) w w'):Ext (Plat.foot ρ L) w w':=h.mono fun _ _ _ h=>.inl h
theorem Fresh.refl (w:World) (F:Nat→Nat→Prop):Fresh w F F:=fun _ _ h=>.inl h
theorem Post.same {w:World} {ρ:Pl} {L:List Ob} {d:D} {v:Value} (hf:Fits w ρ L) (h:Rep w (foot ρ L) ρ L d v):Post w ρ L d L v w ρ:=
 ⟨hf,h,.refl _ _,.refl _ _,.refl _ _⟩
def look:List (Nat×D)→Nat→D
 | [],_=>.any
 | (s,d)::r,t=>match Nat.beq s t with
  | true=>d
  | false=>look r t
def Env (w:World) (ρ:Pl) (L:List Ob) (σ:List (Nat×D)) (a:Act):Prop:=
 ∀ t,Rep w (foot ρ L) ρ L (look σ t) (a.tmps.getD t undef)
theorem Env.keep {w w':World} {ρ ρ':Pl} {L L':List Ob} {σ:List (Nat×D)} {a:Act} (h:Env w ρ L σ a)
  (he:Ext (foot ρ L) w w') (hf:Fresh w (foot ρ L) (foot ρ' L')) (hc:Compat ρ L ρ' L'):Env w' ρ' L' σ a:=
 fun t=>(h t).keep he hf hc
theorem Env.put {w:World} {ρ:Pl} {L:List Ob} {σ:List (Nat×D)} {a:Act} {t:Nat} {d:D} {v:Value} (h:Env w ρ L σ a)
  (ht:t < a.tmps.size) (hd:Rep w (foot ρ L) ρ L d v):Env w ρ L ((t,d)::σ) (a.put (some t) v):=by
 intro s
 simp only [look]
 by_cases hs:t=s
 ·subst hs
  simp only [Nat.beq_eq_true_eq,Nat.beq_refl,Act.put]
  rw [Array.getD_eq_getD_getElem?,Array.getElem?_setIfInBounds_self_of_lt ht]
  exact hd
 ·have:Nat.beq t s=false:=by
   rw [Bool.eq_false_iff];intro h;exact hs (Nat.eq_of_beq_eq_true h)
  rw [this]
  simp only [Act.put,Array.getD_eq_getD_getElem?]
  rw [Array.getElem?_setIfInBounds_ne hs]
  simpa [Array.getD_eq_getD_getElem?] using h s
def constD:Value→D
 | .int k n=>.int k n
 | .bool b=>match b with | true=>.tt | false=>.ff
 | .string s=>.str s.data.toList
 | .slice a l c=>match a with
  | none=>match l with | 0=>(match c with | 0=>.nilsl | _+1=>.any) | _+1=>.any
  | some _=>.any
 | .pointer a=>match a with | none=>.nilp | some _=>.any
 | .map a=>match a with | none=>.nilmap | some _=>.any
 | .nilFunc=>.nilfn
 | .nilIface=>.nilif
 | _=>.any
theorem constD_rep (w:World) (F:Nat→Nat→Prop) (v:Value):RepP w F (constD v) v:=by
 cases v with
 | int k n=>exact .int _ _
 | bool b=>cases b;exact .ff;exact .tt
 | string s=>exact .str _
 | slice a l c=>
  cases a with
  | none=>
   cases l with
   | zero=>cases c with
    | zero=>exact .nilsl _
    | succ _=>exact .any _
   | succ _=>exact .any _
  | some _=>exact .any _
 | pointer a=>cases a;exact .nilp;exact .any _
 | map a=>cases a;exact .nilmap;exact .any _
 | nilFunc=>exact .nilfn
 | nilIface=>exact .nilif
 | _=>exact .any _
def zeroD:Value→D
 | .agg cs=>.agg (cs.toList.map constD)
 | v=>constD v
theorem zeroD_rep (w:World) (F:Nat→Nat→Prop) (v:Value):RepP w F (zeroD v) v:=by
 unfold zeroD
 split
 ·rename_i cs
  obtain ⟨l⟩:=cs
  refine .agg _ l (by simp) fun i d v h1 h2=>?_
  simp only [List.getElem?_map,Option.map_eq_some_iff] at h1
  obtain ⟨x,h3,rfl⟩:=h1
  rw [h2] at h3
  cases h3
  exact constD_rep _ _ _
 ·exact constD_rep _ _ _
def evalD (σ:List (Nat×D)):Operand→D
 | .tmp t=>look σ t
 | .const v=>zeroD v
 | .global _=>.any
 | .func f=>.fn f []
theorem Env.eval {w:World} {ρ:Pl} {L:List Ob} {σ:List (Nat×D)} {a:Act} (h:Env w ρ L σ a) (x:Operand) :
  Rep w (foot ρ L) ρ L (evalD σ x) (a.eval x):=by
 cases x with
 | tmp t=>exact h t
 | const v=>exact .pure _ _ (zeroD_rep _ _ _)
 | global g=>exact .pure _ _ (.any _)
 | func f=>exact .pure _ _ (.fn f [] [] rfl (by simp))
inductive TD where
 | bool | str | iface | fn | other
 | int (k:IntKind)
 | ptr (e:Nat)
 | slice (e:Nat)
 | arr (n e:Nat)
 | map (k e:Nat)
 | struct (fs:List (Nat×Nat))
structure TI where
 d:TD
 size:Nat
 bytes:Nat
 zero:Value
def tdOf:TypeDesc→TD
 | .bool=>.bool
 | .string=>.str
 | .interface _=>.iface
 | .func .. =>.fn
 | .int k=>.int k
 | .pointer e=>.ptr e
 | .slice e=>.slice e
 | .array n e=>.arr n e
 | .map k e=>.map k e
 | .struct fs=>.struct (fs.toList.map fun f=>(f.offset,f.type))
 | _=>.other
structure TIOk (P:Program) (t:Nat) (i:TI):Prop where
 under:∃ d,P.underlying t=some d∧tdOf d=i.d
 info:∃ x,P.info? t=some x∧x.size=i.size∧x.bytes=i.bytes∧x.zero=some i.zero
 pos:i.size≠0
 bpos:i.bytes≠0
 szero:i.zero.cells.size=i.size
 fin:(match P.underlying t with | some (.struct fs)=>fs.toList.all fun f=>(P.info? f.type).isSome | _=>true)=true
abbrev Tab:=List (Nat×TI)
def ty:Tab→Nat→Option TI
 | [],_=>none
 | (s,d)::r,t=>match Nat.beq s t with
  | true=>some d
  | false=>ty r t
def TabOk (P:Program) (T:Tab):Prop:=∀ t i,ty T t=some i→TIOk P t i
theorem TabOk.nil (P:Program):TabOk P []:=fun t i h=>by simp [ty] at h
theorem TabOk.cons {P:Program} {T:Tab} {s:Nat} {i:TI} (h:TIOk P s i) (hT:TabOk P T):TabOk P ((s,i)::T):=by
 intro t j hj
 simp only [ty] at hj
 split at hj
 ·rename_i hb
  have:=Nat.eq_of_beq_eq_true hb
  subst this
  cases hj
  exact h
 ·exact hT t j hj
def OpOk (P:Program) (o:Oper) (σ:List (Nat×D)) (L:List Ob) (d:D) (L':List Ob):Prop:=
 ∀ (a:Act) (w:World) (ρ:Pl) (next:Act→World→Prop) (Q:Exit→Act→World→Prop),
  Fits w ρ L→Env w ρ L σ a →
  (∀ v w' ρ',Post w ρ L d L' v w' ρ'→next (a.put o.dst v) w')→o.wp P a w next Q
theorem OpOk.of_val {P:Program} {o:Oper} {σ:List (Nat×D)} {L:List Ob} {d:D} {L':List Ob}
  (h:∀ (a:Act) (w:World) (ρ:Pl),Fits w ρ L→Env w ρ L σ a →
    ∃ v w' ρ',(execOp a.eval o).run P w= .ok (.value v) w'∧Post w ρ L d L' v w' ρ'):OpOk P o σ L d L':=by
 intro a w ρ next Q hf he hn
 obtain ⟨v,w',ρ',hr,hp⟩:=h a w ρ hf he
 unfold Oper.wp
 rw [hr]
 exact hn _ _ _ hp
theorem OpOk.of_skip {P:Program} {o:Oper} {σ:List (Nat×D)} {L:List Ob} {L':List Ob}
  (h:∀ (a:Act) (w:World) (ρ:Pl),Fits w ρ L→Env w ρ L σ a →
    ∃ w' ρ',(execOp a.eval o).run P w= .ok .skip w'∧Post w ρ L .any L' undef w' ρ'):OpOk P o σ L .any L':=by
 intro a w ρ next Q hf he hn
 obtain ⟨w',ρ',hr,hp⟩:=h a w ρ hf he
 unfold Oper.wp
 rw [hr]
 exact hn _ _ _ hp
theorem OpOk.of_pure {P:Program} {o:Oper} {σ:List (Nat×D)} {d:D}
  (h:∀ (a:Act) (w:World) (ρ:Pl) (L:List Ob),Fits w ρ L→Env w ρ L σ a →
    ∃ v,(execOp a.eval o).run P w= .ok (.value v) w∧Rep w (foot ρ L) ρ L d v):∀ L,OpOk P o σ L d L:=fun L=>
 .of_val fun a w ρ hf he=>
  let ⟨v,hr,hd⟩:=h a w ρ L hf he
  ⟨v,w,ρ,hr,.same hf hd⟩
section
variable {w : World} {F : Nat → Nat → Prop} {ρ : Pl} {L : List Ob} {v : Value}
theorem Rep.int_inv {k:IntKind} {n:Int} (h:Rep w F ρ L (.int k n) v):v= .int k n:=by
 cases h with | pure _ _ h=>cases h;rfl
theorem Rep.bool_inv {b:Bool} (h:Rep w F ρ L (.bool b) v):v= .bool b:=by
 cases h with | pure _ _ h=>cases h;rfl
theorem Rep.tt_inv (h:Rep w F ρ L .tt v):v= .bool true:=by
 cases h with | pure _ _ h=>cases h;rfl
theorem Rep.ff_inv (h:Rep w F ρ L .ff v):v= .bool false:=by
 cases h with | pure _ _ h=>cases h;rfl
theorem Rep.str_inv {s:List UInt8} (h:Rep w F ρ L (.str s) v):v= .string ⟨s.toArray⟩:=by
 cases h with | pure _ _ h=>cases h;rfl
theorem Rep.agg_inv {ds:List D} (h:Rep w F ρ L (.agg ds) v):∃ vs:List Value,v= .agg vs.toArray∧vs.length=ds.length ∧
  ∀ (i:Nat) d u,ds[i]?=some d→vs[i]?=some u→Rep w F ρ L d u:=by
 cases h with
 | pure _ _ h=>cases h with | agg _ vs hl h=>exact ⟨vs,rfl,hl,fun i d u h1 h2=>.pure _ _ (h i d u h1 h2)⟩
 | agg _ vs hl h=>exact ⟨vs,rfl,hl,h⟩
theorem Rep.tup_inv {ds:List D} (h:Rep w F ρ L (.tup ds) v):∃ vs:List Value,v= .tuple vs.toArray∧vs.length=ds.length ∧
  ∀ (i:Nat) d u,ds[i]?=some d→vs[i]?=some u→Rep w F ρ L d u:=by
 cases h with
 | pure _ _ h=>cases h with | tup _ vs hl h=>exact ⟨vs,rfl,hl,fun i d u h1 h2=>.pure _ _ (h i d u h1 h2)⟩
 | tup _ vs hl h=>exact ⟨vs,rfl,hl,h⟩
theorem Rep.nilsl_inv (h:Rep w F ρ L .nilsl v):∃ a,v= .slice a 0 0:=by
 cases h with | pure _ _ h=>cases h with | nilsl a=>exact ⟨_,rfl⟩
theorem Rep.sl_inv {e:Nat} {ds:List D} {tok:Option Nat} (h:Rep w F ρ L (.sl e ds tok) v):RepP w F (.sl e ds none) v:=by
 cases h with
 | pure _ _ h=>cases h<;>first | exact .slnil _ _ | exact .sl _ _ _ _ _ _ ‹_› ‹_› ‹_› ‹_› ‹_›
 | tok _ _ _ _ _ h _=>exact h
theorem Rep.osl_inv {e k n off len:Nat} (h:Rep w F ρ L (.osl e k n off len) v):∃ a cap,v= .slice a len cap∧k < L.length∧(len≤cap∧(a=none→cap=0)) ∧
  ∀ e' ds,L[k]?=some (.arr e' ds)→e'=e∧n≤ds.length∧(ds.length=n→(cap=0∨a=none∨a=some ⟨(ρ k).block,(ρ k).off+off * e,none⟩)∧(off+cap) * e=(ρ k).cap∧off+len≤n):=by
 cases h with
 | pure _ _ h=>cases h
 | osl _ _ _ _ _ a cap hk hc hm=>exact ⟨a,cap,rfl,hk,hc,hm⟩
theorem Rep.loc_inv {k off:Nat} (h:Rep w F ρ L (.loc k off) v):∃ a,v= .pointer (some a)∧k < L.length ∧
  ∀ ds,L[k]?=some (.cells ds)→a=⟨(ρ k).block,(ρ k).off+off,none⟩:=by
 cases h with
 | pure _ _ h=>cases h
 | loc _ _ a hk hm=>exact ⟨a,rfl,hk,hm⟩
theorem Rep.aloc_inv {k n i off:Nat} (h:Rep w F ρ L (.aloc k n i off) v):∃ a,v= .pointer (some a)∧k < L.length ∧
  ∀ e ds,L[k]?=some (.arr e ds)→n≤ds.length∧(ds.length=n→a=⟨(ρ k).block,(ρ k).off+(i * e+off),none⟩):=by
 cases h with
 | pure _ _ h=>cases h
 | aloc _ _ _ _ a hk hm=>exact ⟨a,rfl,hk,hm⟩
theorem Rep.cloc_inv {k off:Nat} (h:Rep w F ρ L (.cloc k off) v):∃ a,v= .pointer (some a)∧k < L.length ∧
  ∀ ds,L[k]?=some (.cells ds)→a=⟨(ρ k).block,(ρ k).off+off,none⟩:=by
 cases h with
 | pure _ _ h=>cases h
 | cloc _ _ a hk hm=>exact ⟨a,rfl,hk,hm⟩
theorem Rep.tnil_inv {k t n:Nat} (h:Rep w F ρ L (.tnil k t n) v):v= .pointer none∧k < L.length∧∀ ds,L[k]?=some (.cells ds)→(ρ k).off=0∧w.shape? (ρ k).block=some (t,n):=by
 cases h with
 | pure _ _ h=>cases h
 | tnil _ _ _ hk hm=>exact ⟨rfl,hk,hm⟩
theorem Rep.tosl_inv {t k n:Nat} (h:Rep w F ρ L (.tosl t k n) v):∃ a cap,v= .slice a n cap∧k < L.length∧n≤cap ∧
  ∀ e ds,L[k]?=some (.arr e ds)→e=1∧n≤ds.length∧(ds.length=n→cap=(ρ k).cap∧((a=none∧cap=0)∨(a=some ⟨(ρ k).block,0,none⟩∧(ρ k).off=0∧w.shape? (ρ k).block=some (t,cap)))):=by
 cases h with
 | pure _ _ h=>cases h
 | tosl _ _ _ a cap hk hc hm=>exact ⟨a,cap,rfl,hk,hc,hm⟩
theorem Rep.csl_inv {k off len:Nat} (h:Rep w F ρ L (.csl k off len) v):∃ a cap,v= .slice (some a) len cap∧k < L.length∧len≤cap∧∀ ds,L[k]?=some (.cells ds)→len≠0→a=⟨(ρ k).block,(ρ k).off+off,none⟩:=by
 cases h with
 | pure _ _ h=>cases h
 | csl _ _ _ a cap hk hc hm=>exact ⟨a,cap,rfl,hk,hc,hm⟩
theorem Rep.mp_inv {k:Nat} (h:Rep w F ρ L (.mp k) v):∃ r,v= .map (some r)∧k < L.length∧∀ es,L[k]?=some (.map es)→r=(ρ k).block:=by
 cases h with
 | pure _ _ h=>cases h
 | mp _ r hk hm=>exact ⟨r,rfl,hk,hm⟩
theorem Rep.ptr_inv {cs:List D} (h:Rep w F ρ L (.ptr cs) v):∃ b off,v= .pointer (some ⟨b,off,none⟩) ∧
  ∀ (j:Nat) c,cs[j]?=some c→∃ u,w.cell? ⟨b,off+j,none⟩=some u∧¬ F b (off+j)∧RepP w F c u:=by
 cases h with
 | pure _ _ h=>cases h with
  | ptr _ b off val hc h=>exact ⟨b,off,rfl,fun j c hj=>⟨_,(hc j c hj).1,(hc j c hj).2,h j c hj⟩⟩
theorem Rep.fn_inv {f:Nat} {ds:List D} (h:Rep w F ρ L (.fn f ds) v):∃ vs:List Value,v= .func (.func f) #[] vs.toArray∧vs.length=ds.length ∧
  ∀ (i:Nat) d u,ds[i]?=some d→vs[i]?=some u→Rep w F ρ L d u:=by
 cases h with
 | pure _ _ h=>cases h with | fn _ _ vs hl h=>exact ⟨vs,rfl,hl,fun i d u h1 h2=>.pure _ _ (h i d u h1 h2)⟩
 | fn _ _ vs hl h=>exact ⟨vs,rfl,hl,h⟩
theorem RepP.sl_shape {e:Nat} {ds:List D} (h:RepP w F (.sl e ds none) v):(ds=[]∧∃ a,v= .slice a 0 0) ∨
  ∃ b off cap,v= .slice (some ⟨b,off,none⟩) ds.length cap∧ds.length≤cap∧(∀ (i:Nat) d,ds[i]?=some d→d.cells.length=e) ∧
   ∀ (i:Nat) d (j:Nat) c,ds[i]?=some d→d.cells[j]?=some c→∃ u,w.cell? ⟨b,off+(i * e+j),none⟩=some u∧¬ F b (off+(i * e+j))∧RepP w F c u:=by
 cases h with
 | slnil _ a=>exact .inl ⟨rfl,a,rfl⟩
 | sl _ _ b off cap val hcap hlen hcell _ h=>exact .inr ⟨b,off,cap,rfl,hcap,hlen,fun i d j c h1 h2=>⟨_,(hcell i d j c h1 h2).1,(hcell i d j c h1 h2).2,h i d j c h1 h2⟩⟩
theorem RepP.sl_one {e:Nat} {ds:List D} {a:Addr} {len cap:Nat} (h:RepP w F (.sl e ds none) (.slice (some a) len cap)):∀ (i:Nat) d (j:Nat) c u,ds[i]?=some d→d.cells[j]?=some c →
  w.cell? ⟨a.block,a.off+(i * e+j),none⟩=some u→u.oneCell'=true:=by
 cases h with
 | slnil=>intro i d j c u h1;simp at h1
 | sl _ _ b off cap val hcap hlen hcell hone h=>
  intro i d j c u h1 h2 h3
  rw [(hcell i d j c h1 h2).1] at h3
  cases h3
  exact hone i d j c h1 h2
end
def Arith (k:IntKind) (n:Int) (K:D→Prop):Prop:=K (.int k (k.wrap n))
def QuoS (k:IntKind) (x y:Int) (K:D→Prop):Prop:=y≠0∧K (.int k (k.wrap (x.tdiv y)))
def RemS (k:IntKind) (x y:Int) (K:D→Prop):Prop:=y≠0∧K (.int k (x.tmod y))
def ShlS (k:IntKind) (x y:Int) (K:D→Prop):Prop:=0≤y∧K (.int k (k.wrap (x * 2 ^ (min y.toNat k.bits))))
def ShrS (k:IntKind) (x y:Int) (K:D→Prop):Prop:=0≤y∧K (.int k (x.fdiv (2 ^ (min y.toNat k.bits))))
def bitI (op:BinOp) (k:IntKind) (x y:Int):Int:=
 let a:=BitVec.ofInt k.bits x
 let b:=BitVec.ofInt k.bits y
 k.wrap (match op with | .and=>(a &&& b).toNat | .or=>(a ||| b).toNat | .xor=>(a ^^^ b).toNat | _=>(a &&& ~~~b).toNat)
def BitS (op:BinOp) (k:IntKind) (x y:Int) (K:D→Prop):Prop:=K (.int k (bitI op k x y))
def CatS (s t:List UInt8) (K:D→Prop):Prop:=((s.length+t.length:Nat):Int)≤IntKind.i64.max∧K (.str (s++t))
def SplitS (b:Bool) (Kt Kf:Prop):Prop:=(b=true→Kt)∧(b=false→Kf)
def SideS (p:Prop) (K:Prop):Prop:=p∧K
def NormL (ds:List D) (K:List D→Nat→Prop):Prop:=K ds ds.length
def ModeS (A B:Prop):Prop:=A∨B
theorem md_l {A B:Prop} (h:A):ModeS A B:=.inl h
theorem md_r {A B:Prop} (h:B):ModeS A B:=.inr h
def IdxS (ds:List D) (n:Int) (K:D→Prop):Prop:=0≤n∧∃ d,ds[n.toNat]?=some d∧K d
def kindEq:IntKind→IntKind→Bool
 | .i8,.i8 | .i16,.i16 | .i32,.i32 | .i64,.i64 | .u8,.u8 | .u16,.u16 | .u32,.u32 | .u64,.u64=>true
 | _,_=>false
theorem kindEq_eq {a b:IntKind} (h:kindEq a b=true):a=b:=by cases a<;>cases b<;>first | rfl | simp [kindEq] at h
def forceD (d:D) (K:D→Prop):Prop:=
 match d with
 | .any=>K .any
 | .int k n=>K (.int k n)
 | .bool b=>K (.bool b)
 | .tt=>K .tt
 | .ff=>K .ff
 | .str s=>K (.str s)
 | .agg ds=>K (.agg ds)
 | .tup ds=>K (.tup ds)
 | .nilsl=>K .nilsl
 | .sl e ds t=>K (.sl e ds t)
 | .osl e k n off len=>K (.osl e k n off len)
 | .nilp=>K .nilp
 | .ptr cs=>K (.ptr cs)
 | .loc k o=>K (.loc k o)
 | .aloc k n i o=>K (.aloc k n i o)
 | .cloc k o=>K (.cloc k o)
 | .tnil k t n=>K (.tnil k t n)
 | .tosl t k n=>K (.tosl t k n)
 | .csl k o n=>K (.csl k o n)
 | .nilmap=>K .nilmap
 | .mp k=>K (.mp k)
 | .fn f c=>K (.fn f c)
 | .nilfn=>K .nilfn
 | .nilif=>K .nilif
 | .iface t d=>K (.iface t d)
theorem forceD_eq {d:D} {K:D→Prop} (h:forceD d K):K d:=by cases d<;>exact h
def cellsK (d:D) (K:List D→Prop):Prop:=
 match d with
 | .agg ds=>K ds
 | .any=>False
 | d=>forceD d fun d=>K [d]
theorem cellsK_eq {d:D} {K:List D→Prop} (h:cellsK d K):K d.cells:=by cases d<;>first | exact h.elim | exact h
def takeK:Nat→List D→(List D→Prop)→Prop
 | 0,_,K=>K []
 | _+1,[],_=>False
 | n+1,c::cs,K=>takeK n cs fun r=>K (c::r)
theorem takeK_eq:∀ {n:Nat} {cs:List D} {K:List D→Prop},takeK n cs K→K (cs.take n)∧n≤cs.length
 | 0,cs,K,h=>⟨by simpa [takeK] using h,Nat.zero_le _⟩
 | n+1,[],K,h=>by simp [takeK] at h
 | n+1,c::cs,K,h=>by
  obtain ⟨h1,h2⟩:=takeK_eq (n:=n) (cs:=cs) h
  exact ⟨by simpa using h1,by simp;omega⟩
def dropK:Nat→List D→(List D→Prop)→Prop
 | 0,cs,K=>K cs
 | _+1,[],_=>False
 | n+1,_::cs,K=>dropK n cs K
theorem dropK_eq:∀ {n:Nat} {cs:List D} {K:List D→Prop},dropK n cs K→K (cs.drop n)
 | 0,cs,K,h=>by simpa [dropK] using h
 | n+1,[],K,h=>by simp [dropK] at h
 | n+1,c::cs,K,h=>by simpa using dropK_eq (n:=n) (cs:=cs) h
def nthK {α:Type}:Nat→List α→(α→Prop)→Prop
 | _,[],_=>False
 | 0,c::_,K=>K c
 | n+1,_::cs,K=>nthK n cs K
theorem nthK_eq {α:Type}:∀ {n:Nat} {cs:List α} {K:α→Prop},nthK n cs K→∃ c,cs[n]?=some c∧K c
 | n,[],K,h=>by cases n<;>simp [nthK] at h
 | 0,c::cs,K,h=>⟨c,rfl,h⟩
 | n+1,c::cs,K,h=>by simpa using nthK_eq (n:=n) (cs:=cs) h
def intK (op:BinOp) (k k':IntKind) (x y:Int) (K:D→Prop):Prop:=
 match op with
 | .shl=>VS (ShlS k x y K)
 | .shr=>VS (ShrS k x y K)
 | _=>match kindEq k k' with
  | false=>False
  | true=>match op with
   | .add=>VS (Arith k (x+y) K)
   | .sub=>VS (Arith k (x - y) K)
   | .mul=>VS (Arith k (x * y) K)
   | .quo=>VS (QuoS k x y K)
   | .rem=>VS (RemS k x y K)
   | .eql=>K (.bool (x==y))
   | .neq=>K (.bool (x != y))
   | .lss=>K (.bool (decide (x < y)))
   | .leq=>K (.bool (decide (x≤y)))
   | .gtr=>K (.bool (decide (y < x)))
   | .geq=>K (.bool (decide (y≤x)))
   | op=>VS (BitS op k x y K)
def strK (op:BinOp) (s t:List UInt8) (K:D→Prop):Prop:=
 match op with
 | .add=>VS (CatS s t K)
 | .eql=>K (.bool (s==t))
 | .neq=>K (.bool (!(s==t)))
 | _=>False
def binK (op:BinOp) (x y:D) (K:D→Prop):Prop:=
 match x with
 | .int k a=>match y with
  | .int k' b=>intK op k k' a b K
  | _=>False
 | .str s=>match y with
  | .str t=>strK op s t K
  | _=>False
 | _=>False
theorem binK_sound {P:Program} {op:BinOp} {t t':TypeId} {x y:Operand} {σ:List (Nat×D)} {K:D→Prop} {o:Oper} (ho:o.op= .binOp op t x y t')
  (h:binK op (evalD σ x) (evalD σ y) K):∃ d,(∀ L,OpOk P o σ L d L)∧K d:=by
 have base:∀ d,(∀ (a:Act) (w:World) (ρ:Pl) (L:List Ob),Env w ρ L σ a→∃ v,(binOp op t (a.eval x) (a.eval y)).run P w= .ok v w∧Rep w (foot ρ L) ρ L d v∧(∃ k n,a.eval x= .int k n∨∃ s,a.eval x= .string s)) →
   ∀ L,OpOk P o σ L d L:=fun d hd=>OpOk.of_pure fun a w ρ L hf he=>by
  obtain ⟨v,h1,h2,k,n,h3⟩:=hd a w ρ L he
  refine ⟨v,?_,h2⟩
  have:(eqGuard op t x y (a.eval x) (a.eval y)).run P w= .ok () w:=by
   unfold eqGuard
   rcases h3 with h3 | ⟨s,h3⟩<;>rw [h3]<;>cases op<;>rfl
  simp [execOp,ho,this,h1]
 unfold binK at h
 split at h<;>try exact h.elim
 ·rename_i k a hx
  split at h<;>try exact h.elim
  rename_i k' b hy
  have ev:∀ {w ρ L} {act:Act},Env w ρ L σ act→act.eval x= .int k a∧act.eval y= .int k' b:=fun he=>by
   have h1:=he.eval x
   have h2:=he.eval y
   rw [hx] at h1
   rw [hy] at h2
   exact ⟨h1.int_inv,h2.int_inv⟩
  have mk:∀ d,(∀ w,∃ v,(binOp op t (.int k a) (.int k' b)).run P w= .ok v w∧∀ F,RepP w F d v)→∀ L,OpOk P o σ L d L:=fun d hd=>
   base d fun act w ρ L he=>by
    obtain ⟨h1,h2⟩:=ev he
    obtain ⟨v,h3,h4⟩:=hd w
    rw [h1,h2]
    exact ⟨v,h3,.pure _ _ (h4 _),k,a,.inl rfl⟩
  have shr:∀ op,op= .shl∨op= .shr→∀ w,(binOp op t (.int k a) (.int k' b)).run P w=(Op.shift op k a k' b).run P w:=fun op h w=>by
   rcases h with rfl | rfl<;>rfl
  unfold intK at h
  split at h
  ·obtain ⟨h0,h⟩:=h.out
   refine ⟨_,mk _ fun w=>⟨_,?_,fun F=>.int _ _⟩,h⟩
   rw [shr _ (.inl rfl)]
   simp [Op.shift,show ¬ b < 0 by omega]
  ·obtain ⟨h0,h⟩:=h.out
   refine ⟨_,mk _ fun w=>⟨_,?_,fun F=>.int _ _⟩,h⟩
   rw [shr _ (.inr rfl)]
   simp [Op.shift,show ¬ b < 0 by omega]
  ·split at h
   ·exact h.elim
   ·rename_i hk
    have hk:=kindEq_eq hk
    subst hk
    split at h
    ·exact ⟨_,mk _ fun w=>⟨_,by simp [binOp,Op.intArith],fun F=>.int _ _⟩,h.out⟩
    ·exact ⟨_,mk _ fun w=>⟨_,by simp [binOp,Op.intArith],fun F=>.int _ _⟩,h.out⟩
    ·exact ⟨_,mk _ fun w=>⟨_,by simp [binOp,Op.intArith],fun F=>.int _ _⟩,h.out⟩
    ·obtain ⟨h0,h⟩:=h.out
     exact ⟨_,mk _ fun w=>⟨_,by simp [binOp,Op.intDiv,h0],fun F=>.int _ _⟩,h⟩
    ·obtain ⟨h0,h⟩:=h.out
     exact ⟨_,mk _ fun w=>⟨_,by simp [binOp,Op.intDiv,h0],fun F=>.int _ _⟩,h⟩
    ·exact ⟨_,mk _ fun w=>⟨_,by simp [binOp,Op.intCmp],fun F=>.bool _⟩,h⟩
    ·exact ⟨_,mk _ fun w=>⟨_,by simp [binOp,Op.intCmp],fun F=>.bool _⟩,h⟩
    ·exact ⟨_,mk _ fun w=>⟨_,by simp [binOp,Op.intCmp],fun F=>.bool _⟩,h⟩
    ·exact ⟨_,mk _ fun w=>⟨_,by simp [binOp,Op.intCmp],fun F=>.bool _⟩,h⟩
    ·exact ⟨_,mk _ fun w=>⟨_,by simp [binOp,Op.intCmp],fun F=>.bool _⟩,h⟩
    ·exact ⟨_,mk _ fun w=>⟨_,by simp [binOp,Op.intCmp],fun F=>.bool _⟩,h⟩
    ·rename_i h1 h2 h3 h4 h5 h6 h7 h8 h9 h10 h11
     refine ⟨_,mk _ fun w=>⟨_,?_,fun F=>.int _ _⟩,h.out⟩
     unfold bitI
     cases op<;>first | (simp [binOp,Op.intBits];done) | (exfalso;first | exact h1 rfl | exact h2 rfl | exact h3 rfl | exact h4 rfl | exact h5 rfl | exact h6 rfl | exact h7 rfl | exact h8 rfl | exact h9 rfl | exact h10 rfl | exact h11 rfl | (rename_i g1 g2;first | exact g1 rfl | exact g2 rfl))
 ·rename_i s hx
  split at h<;>try exact h.elim
  rename_i s' hy
  have ev:∀ {w ρ L} {act:Act},Env w ρ L σ act→act.eval x= .string ⟨s.toArray⟩∧act.eval y= .string ⟨s'.toArray⟩:=fun he=>by
   have h1:=he.eval x
   have h2:=he.eval y
   rw [hx] at h1
   rw [hy] at h2
   exact ⟨h1.str_inv,h2.str_inv⟩
  have mk:∀ d,(∀ w,∃ v,(binOp op t (.string ⟨s.toArray⟩) (.string ⟨s'.toArray⟩)).run P w= .ok v w∧∀ F,RepP w F d v)→∀ L,OpOk P o σ L d L:=fun d hd=>
   base d fun act w ρ L he=>by
    obtain ⟨h1,h2⟩:=ev he
    obtain ⟨v,h3,h4⟩:=hd w
    rw [h1,h2]
    exact ⟨v,h3,.pure _ _ (h4 _),.i64,0,.inr ⟨_,rfl⟩⟩
  have tl:∀ l:List UInt8,(⟨l.toArray⟩:ByteArray).toList=l:=ByteArray.toList_mk
  unfold strK at h
  split at h<;>try exact h.elim
  ·obtain ⟨h0,h⟩:=h.out
   refine ⟨_,mk _ fun w=>⟨.string ⟨(s++s').toArray⟩,?_,fun F=>.str _⟩,h⟩
   have e1:(⟨s.toArray⟩:ByteArray).size=s.length:=by simp [ByteArray.size]
   have e2:(⟨s'.toArray⟩:ByteArray).size=s'.length:=by simp [ByteArray.size]
   have e3:(⟨s.toArray⟩:ByteArray)++⟨s'.toArray⟩=⟨(s++s').toArray⟩:=by
    rw [← Joins.bytes_eta ((⟨s.toArray⟩:ByteArray)++⟨s'.toArray⟩),Joins.data_append]
   simp only [binOp,Op.stringOp,e1,e2,e3]
   rw [if_neg (by omega)]
   rfl
  ·refine ⟨_,mk _ fun w=>⟨_,?_,fun F=>.bool _⟩,h⟩
   simp [binOp,Op.stringOp,tl]
  ·refine ⟨_,mk _ fun w=>⟨_,?_,fun F=>.bool _⟩,h⟩
   simp [binOp,Op.stringOp,tl]
def unK (op:UnOp) (x:D) (K:D→Prop):Prop:=
 match op with
 | .neg=>match x with
  | .int k n=>VS (Arith k (0 - n) K)
  | _=>False
 | .xor=>match x with
  | .int k n=>VS (BitS .xor k (if k.signed then -1 else k.max) n K)
  | _=>False
 | .not=>match x with
  | .bool b=>K (.bool (!b))
  | .tt=>K .ff
  | .ff=>K .tt
  | _=>False
 | .plus=>False
theorem unK_sound {P:Program} {op:UnOp} {t:TypeId} {x:Operand} {σ:List (Nat×D)} {K:D→Prop} {o:Oper} (ho:o.op= .unOp op t x)
  (h:unK op (evalD σ x) K):∃ d,(∀ L,OpOk P o σ L d L)∧K d:=by
 have mk:∀ (d d':D),evalD σ x=d'→(∀ w F ρ L v,Rep w F ρ L d' v→∃ u,(Op.unary op v).run P w= .ok u w∧RepP w F d u)→∀ L,OpOk P o σ L d L:=fun d d' hx hd=>
  OpOk.of_pure fun a w ρ L hf he=>by
   have h1:=he.eval x
   rw [hx] at h1
   obtain ⟨u,h2,h3⟩:=hd _ _ _ _ _ h1
   exact ⟨u,by simp [execOp,ho,h2],.pure _ _ h3⟩
 unfold unK at h
 split at h
 ·split at h<;>try exact h.elim
  rename_i k n hx
  exact ⟨_,mk _ _ hx fun w F ρ L v hv=>by rw [hv.int_inv];exact ⟨_,by simp [Op.unary,Op.intArith],.int _ _⟩,h.out⟩
 ·split at h<;>try exact h.elim
  rename_i k n hx
  exact ⟨_,mk _ _ hx fun w F ρ L v hv=>by rw [hv.int_inv];exact ⟨_,by simp [Op.unary,Op.intBits,bitI],.int _ _⟩,h.out⟩
 ·split at h<;>try exact h.elim
  ·rename_i b hx
   exact ⟨_,mk _ _ hx fun w F ρ L v hv=>by rw [hv.bool_inv];exact ⟨_,by simp [Op.unary],.bool _⟩,h⟩
  ·rename_i hx
   exact ⟨_,mk _ _ hx fun w F ρ L v hv=>by rw [hv.tt_inv];exact ⟨_,by simp [Op.unary],.ff⟩,h⟩
  ·rename_i hx
   exact ⟨_,mk _ _ hx fun w F ρ L v hv=>by rw [hv.ff_inv];exact ⟨_,by simp [Op.unary],.tt⟩,h⟩
 ·exact h.elim
theorem move_sound {P:Program} {x:Operand} {σ:List (Nat×D)} {K:D→Prop} {o:Oper} (ho:o.op= .move x∨o.op= .assign x)
  (h:forceD (evalD σ x) K):∃ d,(∀ L,OpOk P o σ L d L)∧K d:=
 ⟨evalD σ x,OpOk.of_pure fun a w ρ L hf he=>⟨a.eval x,by rcases ho with ho | ho<;>simp [execOp,ho],he.eval x⟩,forceD_eq h⟩
def pickK (c:D) (x y:D) (K:D→Prop):Prop:=
 match c with
 | .tt=>forceD x K
 | .ff=>forceD y K
 | .bool b=>VS (SplitS b (forceD x K) (forceD y K))
 | _=>False
theorem pick_sound {P:Program} {c x y:Operand} {σ:List (Nat×D)} {K:D→Prop} {o:Oper} (ho:o.op= .pick c x y)
  (h:pickK (evalD σ c) (evalD σ x) (evalD σ y) K):∃ d,(∀ L,OpOk P o σ L d L)∧K d:=by
 have mk:∀ (b:Bool),(∀ w F ρ L v,Rep w F ρ L (evalD σ c) v→v= .bool b)→∀ L,OpOk P o σ L (if b then evalD σ x else evalD σ y) L:=fun b hb=>
  OpOk.of_pure fun a w ρ L hf he=>by
   have h1:=hb _ _ _ _ _ (he.eval c)
   refine ⟨if b then a.eval x else a.eval y,by simp [execOp,ho,h1,asBool],?_⟩
   cases b
   ·exact he.eval y
   ·exact he.eval x
 unfold pickK at h
 split at h<;>try exact h.elim
 ·rename_i hx
  exact ⟨_,mk true fun w F ρ L v hv=>by rw [hx] at hv;exact hv.tt_inv,forceD_eq h⟩
 ·rename_i hx
  exact ⟨_,mk false fun w F ρ L v hv=>by rw [hx] at hv;exact hv.ff_inv,forceD_eq h⟩
 ·rename_i b hx
  refine ⟨_,mk b fun w F ρ L v hv=>by rw [hx] at hv;exact hv.bool_inv,?_⟩
  cases b
  ·exact forceD_eq (h.out.2 rfl)
  ·exact forceD_eq (h.out.1 rfl)
def nilK (x:D) (K:D→Prop):Prop:=
 match x with
 | .loc k o=>K (.loc k o)
 | .aloc k n i o=>K (.aloc k n i o)
 | .cloc k o=>K (.cloc k o)
 | .ptr cs=>K (.ptr cs)
 | .fn f c=>K (.fn f c)
 | _=>False
theorem nilK_sound {P:Program} {x:Operand} {σ:List (Nat×D)} {K:D→Prop} {o:Oper} (ho:o.op= .nilCheck x)
  (h:nilK (evalD σ x) K):∃ d,(∀ L,OpOk P o σ L d L)∧K d:=by
 refine ⟨evalD σ x,OpOk.of_pure fun a w ρ L hf he=>⟨a.eval x,?_,he.eval x⟩,?_⟩
 ·have h1:=he.eval x
  unfold nilK at h
  split at h<;>try exact h.elim
  ·rename_i hx;rw [hx] at h1;obtain ⟨_,h2,_⟩:=h1.loc_inv;simp [execOp,ho,h2]
  ·rename_i hx;rw [hx] at h1;obtain ⟨_,h2,_⟩:=h1.aloc_inv;simp [execOp,ho,h2]
  ·rename_i hx;rw [hx] at h1;obtain ⟨_,h2,_⟩:=h1.cloc_inv;simp [execOp,ho,h2]
  ·rename_i hx;rw [hx] at h1;obtain ⟨_,_,h2,_⟩:=h1.ptr_inv;simp [execOp,ho,h2]
  ·rename_i hx;rw [hx] at h1;obtain ⟨_,h2,_⟩:=h1.fn_inv;simp [execOp,ho,h2]
 ·unfold nilK at h
  split at h<;>first | exact h.elim | (rename_i hx;rw [hx];exact h)
def convK (s t:TD) (x:D) (K:D→Prop):Prop:=
 match t with
 | .int k=>match x with
  | .int _ n=>VS (Arith k n K)
  | _=>False
 | .str=>match s with
  | .str=>match x with
   | .str s=>K (.str s)
   | _=>False
  | _=>False
 | _=>False
theorem convK_sound {P:Program} {s t:TypeId} {x:Operand} {σ:List (Nat×D)} {K:D→Prop} {o:Oper} {i j:TI} (hi:TIOk P s i) (hj:TIOk P t j)
  (ho:o.op= .convert s t x) (h:convK i.d j.d (evalD σ x) K):∃ d,(∀ L,OpOk P o σ L d L)∧K d:=by
 obtain ⟨di,hi1,hi2⟩:=hi.under
 obtain ⟨dj,hj1,hj2⟩:=hj.under
 unfold convK at h
 split at h<;>try exact h.elim
 ·rename_i k hk
  split at h<;>try exact h.elim
  rename_i k' n hx
  refine ⟨_,OpOk.of_pure fun a w ρ L hf he=>?_,h.out⟩
  have h1:=he.eval x
  rw [hx] at h1
  have hd:dj= .int k:=by
   rw [hk] at hj2
   cases dj<;>simp [tdOf] at hj2
   rw [hj2]
  subst hd
  refine ⟨.int k (k.wrap n),?_,.pure _ _ (.int _ _)⟩
  simp only [execOp,ho,h1.int_inv,convert,Sem.run_bind,run_underlying hi1,run_underlying hj1,Result.andThen]
  cases di<;>simp [Conv.intToInt]
 ·rename_i hk
  split at h<;>try exact h.elim
  rename_i hs
  split at h<;>try exact h.elim
  rename_i s hx
  refine ⟨_,OpOk.of_pure fun a w ρ L hf he=>?_,h⟩
  have h1:=he.eval x
  rw [hx] at h1
  have hd:dj= .string:=by
   rw [hk] at hj2
   cases dj<;>simp [tdOf] at hj2
   rfl
  have hd':di= .string:=by
   rw [hs] at hi2
   cases di<;>simp [tdOf] at hi2
   rfl
  subst hd
  subst hd'
  refine ⟨.string ⟨s.toArray⟩,?_,.pure _ _ (.str _)⟩
  simp only [execOp,ho,h1.str_inv,convert,Sem.run_bind,run_underlying hi1,run_underlying hj1,Result.andThen]
  rfl
theorem extract_sound {P:Program} {x:Operand} {n:Nat} {σ:List (Nat×D)} {K:D→Prop} {o:Oper} (ho:o.op= .extract x n)
  (h:match evalD σ x with | .tup ds=>nthK n ds fun d=>forceD d K | _=>False):∃ d,(∀ L,OpOk P o σ L d L)∧K d:=by
 split at h<;>try exact h.elim
 rename_i ds hx
 obtain ⟨c,h1,h2⟩:=nthK_eq h
 refine ⟨c,OpOk.of_pure fun a w ρ L hf he=>?_,forceD_eq h2⟩
 have h3:=he.eval x
 rw [hx] at h3
 obtain ⟨vs,h4,h5,h6⟩:=h3.tup_inv
 have hlt:n < vs.length:=by rw [h5];exact (List.getElem?_eq_some_iff.1 h1).1
 refine ⟨vs[n],?_,h6 n c _ h1 (List.getElem?_eq_getElem hlt)⟩
 simp [execOp,ho,h4,Instr.extract,hlt]
def fieldOff (i:TI) (f:Nat) (K:Nat→Nat→Prop):Prop:=
 match i.d with
 | .struct fs=>nthK f fs fun p=>K p.1 p.2
 | _=>False
theorem fieldOff_eq {P:Program} {t:TypeId} {i:TI} (hi:TIOk P t i) {f:Nat} {K:Nat→Nat→Prop} (h:fieldOff i f K) :
  ∃ fs x,P.underlying t=some (.struct fs)∧fs[f]?=some x∧K x.offset x.type:=by
 unfold fieldOff at h
 split at h<;>try exact h.elim
 rename_i fs hd
 obtain ⟨p,h1,h2⟩:=nthK_eq h
 obtain ⟨d,h3,h4⟩:=hi.under
 rw [hd] at h4
 cases d<;>simp [tdOf] at h4
 rename_i gs
 subst h4
 simp only [List.getElem?_map,Option.map_eq_some_iff] at h1
 obtain ⟨x,h5,rfl⟩:=h1
 exact ⟨gs,x,h3,by simpa using h5,h2⟩
theorem TIOk.sizeRun {P:Program} {t:TypeId} {i:TI} (hi:TIOk P t i) (w:World):(sizeOf t).run P w= .ok i.size w:=by
 obtain ⟨x,h1,h2,_,_⟩:=hi.info
 simp [sizeOf,run_typeInfo w h1,h2]
theorem TIOk.zeroRun {P:Program} {t:TypeId} {i:TI} (hi:TIOk P t i) (w:World):(zeroValue t).run P w= .ok i.zero w:=by
 obtain ⟨x,h1,_,_,h2⟩:=hi.info
 simp [zeroValue,run_typeInfo w h1,h2]
def TD.isAgg:TD→Bool
 | .struct _=>true
 | .arr _ _=>true
 | _=>false
theorem TIOk.aggRun {P:Program} {t:TypeId} {i:TI} (hi:TIOk P t i) (w:World):(isAgg t).run P w= .ok i.d.isAgg w:=by
 obtain ⟨d,h1,h2⟩:=hi.under
 simp only [isAgg,Sem.run_bind,run_underlying h1,Result.andThen,← h2]
 cases d<;>rfl
def offK (x:D) (n:Nat) (K:D→Prop):Prop:=
 match x with
 | .loc k o=>K (.loc k (o+n))
 | .aloc k m i o=>K (.aloc k m i (o+n))
 | .ptr cs=>dropK n cs fun cs=>K (.ptr cs)
 | _=>False
theorem addr_add (b off n:Nat):(⟨b,off,none⟩:Addr).add n=⟨b,off+n,none⟩:=by
 unfold Addr.add
 split
 ·rename_i h;subst h;rfl
 ·rfl
theorem offK_sound {x:D} {n:Nat} {K:D→Prop} (h:offK x n K) :
  ∃ d,K d∧∀ (w:World) (F:Nat→Nat→Prop) (ρ:Pl) (L:List Ob) (v:Value),Rep w F ρ L x v →
   ∃ a,v= .pointer (some a)∧Rep w F ρ L d (.pointer (some (a.add n))):=by
 unfold offK at h
 split at h<;>try exact h.elim
 ·refine ⟨_,h,fun w F ρ L v hv=>?_⟩
  obtain ⟨a,h1,h2,h3⟩:=hv.loc_inv
  refine ⟨a,h1,.loc _ _ _ h2 fun ds hds=>?_⟩
  rw [h3 ds hds,addr_add,Nat.add_assoc]
 ·refine ⟨_,h,fun w F ρ L v hv=>?_⟩
  obtain ⟨a,h1,h2,h3⟩:=hv.aloc_inv
  refine ⟨a,h1,.aloc _ _ _ _ _ h2 fun e ds hds=>?_⟩
  obtain ⟨h4,h5⟩:=h3 e ds hds
  refine ⟨h4,fun hl=>?_⟩
  rw [h5 hl,addr_add,Nat.add_assoc,Nat.add_assoc]
 ·refine ⟨_,dropK_eq h,fun w F ρ L v hv=>?_⟩
  cases hv with
  | pure _ _ hv=>cases hv with
   | ptr cs b off val hc hr=>
    refine ⟨_,rfl,?_⟩
    rw [addr_add]
    refine .pure _ _ (.ptr _ _ _ (fun j=>val (n+j)) (fun j c hj=>?_) fun j c hj=>?_)
    ·have:=hc (n+j) c (by simpa using hj)
     rwa [← Nat.add_assoc] at this
    ·exact hr (n+j) c (by simpa using hj)
def fieldAddrK (T:Tab) (s f:Nat) (x:D) (K:D→Prop):Prop:=
 match ty T s with
 | some i=>fieldOff i f fun off t=>match ty T t with
  | some _=>offK x off K
  | none=>False
 | none=>False
theorem fieldAddr_sound {P:Program} {T:Tab} (hT:TabOk P T) {s f:Nat} {x:Operand} {σ:List (Nat×D)} {K:D→Prop} {o:Oper}
  (ho:o.op= .fieldAddr s x f) (h:fieldAddrK T s f (evalD σ x) K):∃ d,(∀ L,OpOk P o σ L d L)∧K d:=by
 unfold fieldAddrK at h
 split at h<;>try exact h.elim
 rename_i i hi
 obtain ⟨fs,fd,h1,h2,h3⟩:=fieldOff_eq (hT _ _ hi) h
 split at h3<;>try exact h3.elim
 rename_i j hj
 obtain ⟨d,h4,h5⟩:=offK_sound h3
 refine ⟨d,OpOk.of_pure fun a w ρ L hf he=>?_,h4⟩
 obtain ⟨ad,h6,h7⟩:=h5 _ _ _ _ _ (he.eval x)
 refine ⟨_,?_,h7⟩
 have hsz:=(hT _ _ hj).sizeRun w
 have hpos:=(hT _ _ hj).pos
 simp [execOp,ho,Instr.fieldAt,run_underlying h1,h2,h6,Instr.sureAddr,fieldPlace,hsz,hpos]
def loadPtrK (i:TI) (cs:List D) (K:D→Prop):Prop:=
 match i.d.isAgg with
 | true=>takeK i.size cs fun r=>K (.agg r)
 | false=>nthK 0 cs fun c=>forceD c K
theorem run_loadVar_cells {P:Program} {t:TypeId} {i:TI} (hi:TIOk P t i) {w:World} {b off:Nat} (f:Nat→Value) (hc:∀ j,j < i.size→w.cell? ⟨b,off+j,none⟩=some (f j)) :
  (loadVar t ⟨b,off,none⟩).run P w= .ok (match i.d.isAgg with | true=>.agg ((List.range i.size).map f).toArray | false=>f 0) w:=by
 have h0:=hi.pos
 unfold loadVar
 simp only [Sem.run_bind,hi.aggRun,Result.andThen]
 cases hA:i.d.isAgg
 ·have:=hc 0 (by omega)
  simp only [Nat.add_zero] at this
  simp [run_load,this]
 ·simp only [if_true,Sem.run_bind,hi.sizeRun,Result.andThen]
  rw [run_loadCells w ⟨b,off,none⟩ i.size f (fun j hj=>by rw [addr_add];exact hc j hj)]
  rfl
theorem loadPtr_sound {P:Program} {T:Tab} (hT:TabOk P T) {t:Nat} {x:Operand} {σ:List (Nat×D)} {K:D→Prop} {o:Oper} {i:TI} {cs:List D}
  (ho:o.op= .load t x) (hi:ty T t=some i) (hx:evalD σ x= .ptr cs) (h:loadPtrK i cs K):∃ d,(∀ L,OpOk P o σ L d L)∧K d:=by
 have hi:=hT _ _ hi
 have h0:=hi.pos
 unfold loadPtrK at h
 split at h
 ·rename_i hA
  obtain ⟨h1,h2⟩:=takeK_eq h
  refine ⟨_,OpOk.of_pure fun a w ρ L hf he=>?_,h1⟩
  have hv:=he.eval x
  rw [hx] at hv
  obtain ⟨b,off,h3,h4⟩:=hv.ptr_inv
  refine ⟨.agg ((List.range i.size).map fun j=>(w.cell? ⟨b,off+j,none⟩).getD undef).toArray,?_,?_⟩
  ·have:=run_loadVar_cells hi (w:=w) (b:=b) (off:=off) (fun j=>(w.cell? ⟨b,off+j,none⟩).getD undef) (fun j hj=>by
    obtain ⟨u,h5,_⟩:=h4 j cs[j] (List.getElem?_eq_getElem (by omega))
    simp [h5])
   rw [hA] at this
   simp [execOp,ho,Instr.loadAt,h3,Instr.sureAddr,this]
  ·refine .pure _ _ (.agg _ _ (by simp;omega) fun j d u h5 h6=>?_)
   simp only [List.getElem?_map,Option.map_eq_some_iff] at h6
   obtain ⟨k,h7,h8⟩:=h6
   obtain ⟨h9,h10⟩:=List.getElem?_eq_some_iff.1 h7
   simp at h9 h10
   subst h10
   rw [List.getElem?_take,if_pos h9] at h5
   obtain ⟨u',h11,_,h12⟩:=h4 j d h5
   rw [h11] at h8
   simp at h8
   rw [← h8]
   exact h12
 ·rename_i hA
  obtain ⟨c,h1,h2⟩:=nthK_eq h
  refine ⟨c,OpOk.of_pure fun a w ρ L hf he=>?_,forceD_eq h2⟩
  have hv:=he.eval x
  rw [hx] at hv
  obtain ⟨b,off,h3,h4⟩:=hv.ptr_inv
  obtain ⟨u,h5,_,h6⟩:=h4 0 c h1
  refine ⟨u,?_,.pure _ _ h6⟩
  simp only [Nat.add_zero] at h5
  simp [execOp,ho,Instr.loadAt,h3,Instr.sureAddr,loadVar,hi.aggRun,hA,run_load,h5]
def partK (i:TI) (off:Nat) (ds:List D) (K:D→Prop):Prop:=
 match i.d.isAgg with
 | true=>dropK off ds fun r=>takeK i.size r fun r=>K (.agg r)
 | false=>nthK off ds fun c=>forceD c K
theorem part_rep {P:Program} {t:Nat} {i:TI} (hi:TIOk P t i) {off:Nat} {ds:List D} {K:D→Prop} (h:partK i off ds K) :
  ∃ d,K d∧∀ (w:World) (F:Nat→Nat→Prop) (ρ:Pl) (L:List Ob) (vs:List Value),vs.length=ds.length →
   (∀ (j:Nat) d v,ds[j]?=some d→vs[j]?=some v→Rep w F ρ L d v) →
   ∃ u,(part t vs.toArray off).run P w= .ok u w∧Rep w F ρ L d u:=by
 unfold partK at h
 split at h
 ·rename_i hA
  obtain ⟨h1,h2⟩:=takeK_eq (dropK_eq h)
  refine ⟨_,h1,fun w F ρ L vs hl hr=>⟨.agg ((vs.drop off).take i.size).toArray,?_,?_⟩⟩
  ·simp only [part,Sem.run_bind,hi.aggRun,hA,if_true,Result.andThen,hi.sizeRun]
   congr 2
   simp [List.extract_eq_take_drop,Nat.add_sub_cancel_left]
  ·simp at h2
   refine .agg _ _ (by simp;omega) fun j d u h3 h4=>?_
   have h5:j < i.size:=by
    have:=(List.getElem?_eq_some_iff.1 h3).1
    simp at this;omega
   rw [List.getElem?_take,if_pos h5,List.getElem?_drop] at h3 h4
   exact hr _ _ _ h3 h4
 ·rename_i hA
  obtain ⟨c,h1,h2⟩:=nthK_eq h
  refine ⟨c,forceD_eq h2,fun w F ρ L vs hl hr=>?_⟩
  have hlt:off < vs.length:=by rw [hl];exact (List.getElem?_eq_some_iff.1 h1).1
  refine ⟨vs[off],?_,hr off c _ h1 (List.getElem?_eq_getElem hlt)⟩
  simp [part,hi.aggRun,hA,hlt]
def fieldK (T:Tab) (s f:Nat) (x:D) (K:D→Prop):Prop:=
 match ty T s with
 | some i=>fieldOff i f fun off t=>match ty T t with
  | some j=>match x with
   | .agg ds=>partK j off ds K
   | _=>False
  | none=>False
 | none=>False
theorem field_sound {P:Program} {T:Tab} (hT:TabOk P T) {s f:Nat} {x:Operand} {σ:List (Nat×D)} {K:D→Prop} {o:Oper}
  (ho:o.op= .field s x f) (h:fieldK T s f (evalD σ x) K):∃ d,(∀ L,OpOk P o σ L d L)∧K d:=by
 unfold fieldK at h
 split at h<;>try exact h.elim
 rename_i i hi
 obtain ⟨fs,fd,h1,h2,h3⟩:=fieldOff_eq (hT _ _ hi) h
 split at h3<;>try exact h3.elim
 rename_i j hj
 split at h3<;>try exact h3.elim
 rename_i ds hx
 obtain ⟨d,h4,h5⟩:=part_rep (hT _ _ hj) h3
 refine ⟨d,OpOk.of_pure fun a w ρ L hf he=>?_,h4⟩
 have hv:=he.eval x
 rw [hx] at hv
 obtain ⟨vs,h6,h7,h8⟩:=hv.agg_inv
 obtain ⟨u,h9,h10⟩:=h5 _ _ _ _ vs h7 h8
 refine ⟨u,?_,h10⟩
 simp [execOp,ho,Instr.field,run_underlying h1,h2,h6,asAgg,h9]
def indexAddrK (i:TI) (es:Nat) (x:D) (n:Int) (K:D→Prop):Prop:=
 match i.d with
 | .slice _=>match x with
  | .sl e ds _=>match Nat.beq e es with
   | true=>VS (IdxS ds n fun d=>cellsK d fun cs=>K (.ptr cs))
   | false=>False
  | .osl e k m off len=>match Nat.beq e es with
   | true=>VS (SideS (0≤n∧n < len) (K (.aloc k m (off+n.toNat) 0)))
   | false=>False
  | _=>False
 | .arr len _=>match x with
  | .loc k o=>VS (ModeS (SideS (0≤n∧n < len) (K (.loc k (o+n.toNat * es)))) (SideS (0≤n∧n < len) (K (.cloc k (o+n.toNat * es)))))
  | _=>False
 | _=>False
def indexAddrOp (T:Tab) (t:Nat) (x ix:D) (K:D→Prop):Prop:=
 match ty T t with
 | some i=>match (match i.d with | .slice e=>ty T e | .arr _ e=>ty T e | _=>none) with
  | some j=>match ix with
   | .int _ n=>indexAddrK i j.size x n K
   | _=>False
  | none=>False
 | none=>False
theorem under_slice {P:Program} {t e:Nat} {i:TI} (hi:TIOk P t i) (h:i.d= .slice e):P.underlying t=some (.slice e):=by
 obtain ⟨d,h1,h2⟩:=hi.under
 rw [h] at h2
 cases d<;>simp [tdOf] at h2
 rw [h1,h2]
theorem under_arr {P:Program} {t n e:Nat} {i:TI} (hi:TIOk P t i) (h:i.d= .arr n e):P.underlying t=some (.array n e):=by
 obtain ⟨d,h1,h2⟩:=hi.under
 rw [h] at h2
 cases d<;>simp [tdOf] at h2
 rw [h1,h2.1,h2.2]
theorem under_str {P:Program} {t:Nat} {i:TI} (hi:TIOk P t i) (h:i.d= .str):P.underlying t=some .string:=by
 obtain ⟨d,h1,h2⟩:=hi.under
 rw [h] at h2
 cases d<;>simp [tdOf] at h2
 exact h1
theorem under_int {P:Program} {t:Nat} {k:IntKind} {i:TI} (hi:TIOk P t i) (h:i.d= .int k):P.underlying t=some (.int k):=by
 obtain ⟨d,h1,h2⟩:=hi.under
 rw [h] at h2
 cases d<;>simp [tdOf] at h2
 rw [h1,h2]
theorem indexAddr_sound {P:Program} {T:Tab} (hT:TabOk P T) {t:Nat} {x ix:Operand} {σ:List (Nat×D)} {K:D→Prop} {o:Oper}
  (ho:o.op= .indexAddr t x ix) (h:indexAddrOp T t (evalD σ x) (evalD σ ix) K):∃ d,(∀ L,OpOk P o σ L d L)∧K d:=by
 unfold indexAddrOp at h
 split at h<;>try exact h.elim
 rename_i i hi
 have hi:=hT _ _ hi
 split at h<;>try exact h.elim
 rename_i j hj
 split at h<;>try exact h.elim
 rename_i k n hix
 unfold indexAddrK at h
 split at h<;>try exact h.elim
 ·rename_i e hd
  have hu:=under_slice hi hd
  simp only [hd] at hj
  have hj:=hT _ _ hj
  split at h<;>try exact h.elim
  ·rename_i e' ds tok hx
   split at h<;>try exact h.elim
   rename_i heq
   have heq:=Nat.eq_of_beq_eq_true heq
   obtain ⟨h0,d,h1,h2⟩:=h.out
   refine ⟨.ptr d.cells,OpOk.of_pure fun a w ρ L hf he=>?_,cellsK_eq h2⟩
   have hv:=he.eval x
   have hw:=he.eval ix
   rw [hx] at hv
   rw [hix] at hw
   have hlt:n.toNat < ds.length:=(List.getElem?_eq_some_iff.1 h1).1
   rcases hv.sl_inv.sl_shape with ⟨h3,_,_⟩ | ⟨b,off,cap,h3,h4,h5,h6⟩
   ·subst h3;simp at hlt
   ·refine ⟨.pointer (some ⟨b,off+n.toNat * j.size,none⟩),?_,?_⟩
    ·have hb:0≤n∧n < (ds.length:Int):=by omega
     simp [execOp,ho,Instr.indexAt,hw.int_inv,asIntOf,h3,run_underlying hu,hb,hj.sizeRun,addr_add]
    ·rw [← heq]
     refine .pure _ _ (.ptr _ b (off+n.toNat * e') (fun q=>(w.cell? ⟨b,off+n.toNat * e'+q,none⟩).getD undef) (fun q c hq=>?_) fun q c hq=>?_)
     ·obtain ⟨u,h7,h8,h9⟩:=h6 _ d q c h1 hq
      rw [← Nat.add_assoc] at h7 h8
      exact ⟨by rw [h7];rfl,h8⟩
     ·obtain ⟨u,h7,h8,h9⟩:=h6 _ d q c h1 hq
      rw [← Nat.add_assoc] at h7
      rw [h7];exact h9
  ·rename_i e' k' m off len hx
   split at h<;>try exact h.elim
   rename_i heq
   have heq:=Nat.eq_of_beq_eq_true heq
   obtain ⟨hb,h⟩:=h.out
   refine ⟨_,OpOk.of_pure fun a w ρ L hf he=>?_,h⟩
   have hv:=he.eval x
   have hw:=he.eval ix
   rw [hx] at hv
   rw [hix] at hw
   obtain ⟨ad,cap,h1,h2,⟨hlc,hnn⟩,h3⟩:=hv.osl_inv
   cases ad with
   | none=>have:=hnn rfl;omega
   | some ad=>
   refine ⟨.pointer (some (ad.add (n.toNat * j.size))),?_,?_⟩
   ·simp [execOp,ho,Instr.indexAt,hw.int_inv,asIntOf,h1,run_underlying hu,hb,hj.sizeRun]
   ·refine .aloc _ _ _ _ _ h2 fun e'' ds hds=>?_
    obtain ⟨h7,h4,h5⟩:=h3 _ _ hds
    refine ⟨h4,fun hl=>?_⟩
    obtain ⟨h6,_⟩:=h5 hl
    have h6:=(h6.resolve_left (by omega)).resolve_left (by simp)
    cases h6
    rw [ addr_add,h7,heq,Nat.add_mul,Nat.add_zero,Nat.add_assoc]
 ·rename_i len e hd
  have hu:=under_arr hi hd
  simp only [hd] at hj
  have hj:=hT _ _ hj
  split at h<;>try exact h.elim
  rename_i k' off hx
  rcases h.out with ⟨hb,h⟩ | ⟨hb,h⟩
  all_goals
   refine ⟨_,OpOk.of_pure fun a w ρ L hf he=>?_,h⟩
   have hv:=he.eval x
   have hw:=he.eval ix
   rw [hx] at hv
   rw [hix] at hw
   obtain ⟨ad,h1,h2,h3⟩:=hv.loc_inv
   refine ⟨.pointer (some (ad.add (n.toNat * j.size))),?_,?_⟩
   ·simp [execOp,ho,Instr.indexAt,hw.int_inv,asIntOf,h1,run_underlying hu,hb,hj.sizeRun,Instr.sureAddr]
   ·first
    | (refine .loc _ _ _ h2 fun ds hds => ?_
       rw [h3 _ hds,addr_add,Nat.add_assoc])
    | (refine .cloc _ _ _ h2 fun ds hds => ?_
       rw [h3 _ hds,addr_add,Nat.add_assoc])
abbrev F0:Nat→Nat→Prop:=fun _ _=>False
theorem shape_lt {w:World} {b:Nat} {s:TypeId×Nat} (h:w.shape? b=some s):b < w.heap.size:=by
 unfold World.shape? at h
 split at h
 ·rename_i hc
  exact (Array.getElem?_eq_some_iff.1 hc).1
 ·cases h
theorem shape_of {w w':World} {b:Nat} {s:TypeId×Nat} (hh:w'.heap[b]?=w.heap[b]?) (h:w.shape? b=some s):w'.shape? b=some s:=by
 unfold World.shape? at h ⊢
 rw [hh]
 exact h
theorem Ext.alloc (w:World) (o:Obj):Ext F0 w (w.alloc o) where
 os:=rfl
 tape:=rfl
 output:=rfl
 size:=by simp
 block b hb _:=by
  show (w.heap.push o)[b]?=_
  rw [Array.getElem?_push,if_neg (by omega)]
 cell b off hb _:=World.cell?_alloc_old w (a:=⟨b,off,none⟩) (o:=o) (by simp;omega)
 frozen b off v _ hv hs:=by
  have hb:=block_lt hv
  refine ⟨(World.frozen?_alloc_old w (a:=⟨b,off,none⟩) (o:=o) (by simp;omega)).trans hs.1,fun row t lo hi h=>hs.2 row t lo hi ?_⟩
  rw [← h]
  show _=(w.heap.push o)[b]?
  rw [Array.getElem?_push,if_neg (by omega)]
 shape b s hs:=by
  have hb:b < w.heap.size:=shape_lt hs
  unfold World.shape? at hs ⊢
  rw [show (w.alloc o).heap[b]?=w.heap[b]? by show (w.heap.push o)[b]?=_;rw [Array.getElem?_push,if_neg (by omega)]]
  exact hs
theorem soft_alloc_mark (w:World) (row:Array Value) (t:TypeId) (lo hi j:Nat) (h:lo=hi∨row.size≤lo) (hj:j < row.size):Soft (w.alloc (.cells row t (lo,hi))) w.heap.size j:=by
 have hb:(w.alloc (.cells row t (lo,hi))).heap[w.heap.size]?=some (.cells row t (lo,hi)):=by
  show (w.heap.push _)[w.heap.size]?=_
  simp
 refine ⟨?_,fun r t' lo' hi' h'=>?_⟩
 ·unfold World.frozen?
  rw [hb]
  simp
  omega
 ·rw [hb] at h'
  simp at h'
  obtain ⟨rfl,_,rfl,rfl⟩:=h'
  exact h
theorem soft_alloc (w:World) (row:Array Value) (t:TypeId) (j:Nat):Soft (w.alloc (.cells row t)) w.heap.size j:=by
 have hb:(w.alloc (.cells row t)).heap[w.heap.size]?=some (.cells row t):=by
  show (w.heap.push _)[w.heap.size]?=_
  simp
 refine ⟨World.frozen?_alloc_new _ _ _ _,fun r t' lo' hi' h'=>?_⟩
 rw [hb] at h'
 simp at h'
 obtain ⟨_,_,h1,h2⟩:=h'
 exact .inl (by omega)
theorem Ext.drew (w:World):Ext F0 w { w with drawn:=w.drawn+1 }:=
 ⟨rfl,rfl,rfl,Nat.le_refl _,fun _ _ _=>rfl,fun _ _ _ _=>rfl,fun _ _ _ _ _ h=>h,fun _ _ h=>h⟩
theorem Ext.grow {F:Nat→Nat→Prop} {w w':World} (h:Ext F0 w w'):Ext F w w':=h.mono fun _ _ _ f=>f.elim
theorem Ext.trans0 {a b c:World} (h:Ext F0 a b) (k:Ext F0 b c):Ext F0 a c:=h.trans k fun _ _ _ f=>f
theorem Fits.grow {w w':World} {ρ:Pl} {L:List Ob} (hf:Fits w ρ L) (he:Ext F0 w w'):Fits w' ρ L where
 glob:=hf.glob.keep (he.mono fun _ _ _ f=>f.elim) (.refl _ _)
 hid b off h:=Nat.lt_of_lt_of_le (hf.hid b off h) he.size
 sep:=hf.sep
 disj:=hf.disj
 obj k o hk:=by
  have h:=hf.obj k o hk
  have kr:∀ {d v},Rep w (foot ρ L) ρ L d v→Rep w' (foot ρ L) ρ L d v:=fun h=>h.keep he.grow (.refl _ _) (.refl _ _)
  have kp:∀ {d v},RepP w (foot ρ L) d v→RepP w' (foot ρ L) d v:=fun h=>h.keep he.grow (.refl _ _)
  have kc:∀ {b off v},w.cell? ⟨b,off,none⟩=some v→w'.cell? ⟨b,off,none⟩=some v:=fun h=>(he.cell _ _ (cell_lt h) fun f=>f).trans h
  have kz:∀ {b off v},w.cell? ⟨b,off,none⟩=some v→Soft w b off→Soft w' b off:=fun hb h=>he.frozen _ _ _ (fun f=>f) hb h
  cases o with
  | cells ds=>exact ⟨h.1,fun j d hj=>by
    obtain ⟨⟨v,h1,h2⟩,h3⟩:=h.2 j d hj
    exact ⟨⟨v,kc h1,kr h2⟩,kz h1 h3⟩⟩
  | arr e ds=>
   obtain ⟨h1,h2,h3,h4⟩:=h
   refine ⟨h1,h2,fun i d j c hi hj=>?_,fun j hj=>?_⟩
   ·obtain ⟨v,h5,h6⟩:=h3 i d j c hi hj
    exact ⟨v,kc h5,kr h6⟩
   ·obtain ⟨⟨v,h5⟩,h6⟩:=h4 j hj
    exact ⟨⟨v,kc h5⟩,kz h5 h6⟩
  | spare n=>
    intro j hj
    obtain ⟨⟨v,h5⟩,h6⟩:=h j hj
    exact ⟨⟨v,kc h5⟩,kz h5 h6⟩
  | map es=>
   obtain ⟨ents,clock,h1,h2,h3⟩:=h
   refine ⟨ents,clock,?_,h2,fun i p m hi hm=>⟨kp (h3 i p m hi hm).1,kr (h3 i p m hi hm).2⟩⟩
   have hb:(ρ k).block < w.heap.size:=by
    rcases Nat.lt_or_ge (ρ k).block w.heap.size with h | h
    ·exact h
    ·rw [Array.getElem?_eq_none h] at h1;cases h1
   exact (he.block _ hb fun _ f=>f).trans h1
  | dead=>trivial
theorem Fits.foot_lt {w:World} {ρ:Pl} {L:List Ob} (hf:Fits w ρ L) {b off:Nat} (hft:foot ρ L b off):b < w.heap.size:=by
 refine hft.elim ?_ (hf.hid _ _)
 clear hft
 rintro ⟨k,o,hk,ho⟩
 have h:=hf.obj k o hk
 cases o with
 | cells ds=>
  obtain ⟨rfl,h1,h2⟩:=ho
  obtain ⟨h3,h4⟩:=h
  obtain ⟨⟨v,h5,_⟩,_⟩:=h4 (off - (ρ k).off) ds[off - (ρ k).off] (List.getElem?_eq_getElem (by omega))
  exact cell_lt h5
 | arr e ds=>
  obtain ⟨rfl,h1,h2⟩:=ho
  obtain ⟨_,_,_,h4⟩:=h
  obtain ⟨⟨v,h5⟩,_⟩:=h4 (off - (ρ k).off) (by omega)
  exact cell_lt h5
 | spare n=>
  obtain ⟨rfl,h1,h2⟩:=ho
  obtain ⟨⟨v,h5⟩,_⟩:=h (off - (ρ k).off) (by omega)
  exact cell_lt h5
 | map es=>
  obtain ⟨ents,clock,h1,_⟩:=h
  have ho:b=(ρ k).block:=ho
  subst ho
  rcases Nat.lt_or_ge (ρ k).block w.heap.size with h | h
  ·exact h
  ·rw [Array.getElem?_eq_none h] at h1;cases h1
 | dead=>exact ho.elim
theorem Post.grow {w w':World} {ρ:Pl} {L:List Ob} {d:D} {v:Value} (hf:Fits w ρ L) (he:Ext F0 w w') (h:Rep w' (foot ρ L) ρ L d v):Post w ρ L d L v w' ρ:=
 ⟨hf.grow he,h,he.grow,.refl _ _,.refl _ _⟩
def stripK:D→(D→Prop)→Prop:=
 @D.rec (fun _=>(D→Prop)→Prop) (fun _=>(List D→Prop)→Prop) (fun K=>K .any) (fun k n K=>K (.int k n)) (fun b K=>K (.bool b)) (fun K=>K .tt) (fun K=>K .ff) (fun s K=>K (.str s))
  (fun _ ih K=>ih fun ds=>K (.agg ds)) (fun _ ih K=>ih fun ds=>K (.tup ds)) (fun K=>K .nilsl) (fun e ds _ _ K=>K (.sl e ds none)) (fun _ _ _ _ _ _=>False) (fun K=>K .nilp) (fun cs _ K=>K (.ptr cs)) (fun _ _ _=>False) (fun _ _ _ _ _=>False) (fun _ _ _=>False) (fun _ _ _ _=>False) (fun _ _ _ _=>False) (fun _ _ _ _=>False)
  (fun K=>K .nilmap) (fun _ _=>False) (fun f _ ih K=>ih fun cs=>K (.fn f cs)) (fun K=>K .nilfn) (fun K=>K .nilif) (fun t d _ K=>K (.iface t d)) (fun K=>K []) (fun _ _ ih1 ih2 K=>ih1 fun d=>ih2 fun ds=>K (d::ds))
def stripLK:List D→(List D→Prop)→Prop:=
 @D.rec_1 (fun _=>(D→Prop)→Prop) (fun _=>(List D→Prop)→Prop) (fun K=>K .any) (fun k n K=>K (.int k n)) (fun b K=>K (.bool b)) (fun K=>K .tt) (fun K=>K .ff) (fun s K=>K (.str s))
  (fun _ ih K=>ih fun ds=>K (.agg ds)) (fun _ ih K=>ih fun ds=>K (.tup ds)) (fun K=>K .nilsl) (fun e ds _ _ K=>K (.sl e ds none)) (fun _ _ _ _ _ _=>False) (fun K=>K .nilp) (fun cs _ K=>K (.ptr cs)) (fun _ _ _=>False) (fun _ _ _ _ _=>False) (fun _ _ _=>False) (fun _ _ _ _=>False) (fun _ _ _ _=>False) (fun _ _ _ _=>False)
  (fun K=>K .nilmap) (fun _ _=>False) (fun f _ ih K=>ih fun cs=>K (.fn f cs)) (fun K=>K .nilfn) (fun K=>K .nilif) (fun t d _ K=>K (.iface t d)) (fun K=>K []) (fun _ _ ih1 ih2 K=>ih1 fun d=>ih2 fun ds=>K (d::ds))
def PureOf (d d':D):Prop:=d.cells.length=d'.cells.length∧∀ (w:World) (F:Nat→Nat→Prop) (ρ:Pl) (L:List Ob) (v:Value),Rep w F ρ L d v→RepP w F d' v
def PureLOf (ds ds':List D):Prop:=ds.length=ds'.length∧∀ (i:Nat) d d',ds[i]?=some d→ds'[i]?=some d'→PureOf d d'
def D.flat:D→Prop
 | .agg _ | .tup _ | .fn _ _ | .sl _ _ _ | .osl _ _ _ _ _ | .loc _ _ | .aloc _ _ _ _ | .cloc _ _ | .tnil _ _ _ | .tosl _ _ _ | .csl _ _ _ | .mp _=>False
 | _=>True
theorem Rep.pure_inv {w:World} {F:Nat→Nat→Prop} {ρ:Pl} {L:List Ob} {d:D} {v:Value} (h:Rep w F ρ L d v)
  (hd:d.flat):RepP w F d v:=by
 cases h with
 | pure _ _ h=>exact h
 | _=>exact hd.elim
mutual
theorem stripK_eq:∀ {d:D} {K:D→Prop},stripK d K→∃ d',PureOf d d'∧K d'
 | .any,K,h=>⟨_,⟨rfl,fun _ _ _ _ _ h=>h.pure_inv trivial⟩,h⟩
 | .int _ _,K,h=>⟨_,⟨rfl,fun _ _ _ _ _ h=>h.pure_inv trivial⟩,h⟩
 | .bool _,K,h=>⟨_,⟨rfl,fun _ _ _ _ _ h=>h.pure_inv trivial⟩,h⟩
 | .tt,K,h=>⟨_,⟨rfl,fun _ _ _ _ _ h=>h.pure_inv trivial⟩,h⟩
 | .ff,K,h=>⟨_,⟨rfl,fun _ _ _ _ _ h=>h.pure_inv trivial⟩,h⟩
 | .str _,K,h=>⟨_,⟨rfl,fun _ _ _ _ _ h=>h.pure_inv trivial⟩,h⟩
 | .nilsl,K,h=>⟨_,⟨rfl,fun _ _ _ _ _ h=>h.pure_inv trivial⟩,h⟩
 | .nilp,K,h=>⟨_,⟨rfl,fun _ _ _ _ _ h=>h.pure_inv trivial⟩,h⟩
 | .ptr _,K,h=>⟨_,⟨rfl,fun _ _ _ _ _ h=>h.pure_inv trivial⟩,h⟩
 | .nilmap,K,h=>⟨_,⟨rfl,fun _ _ _ _ _ h=>h.pure_inv trivial⟩,h⟩
 | .nilfn,K,h=>⟨_,⟨rfl,fun _ _ _ _ _ h=>h.pure_inv trivial⟩,h⟩
 | .nilif,K,h=>⟨_,⟨rfl,fun _ _ _ _ _ h=>h.pure_inv trivial⟩,h⟩
 | .iface _ _,K,h=>⟨_,⟨rfl,fun _ _ _ _ _ h=>h.pure_inv trivial⟩,h⟩
 | .sl e ds t,K,h=>⟨.sl e ds none,⟨rfl,fun _ _ _ _ _ h=>h.sl_inv⟩,h⟩
 | .agg ds,K,h=>by
  change stripLK ds fun ds=>K (.agg ds) at h
  obtain ⟨ds',⟨h1,h2⟩,h3⟩:=stripLK_eq h
  refine ⟨.agg ds',⟨h1,fun w F ρ L v h=>?_⟩,h3⟩
  obtain ⟨vs,rfl,h4,h5⟩:=h.agg_inv
  exact .agg _ _ (h4.trans h1) fun i d v h6 h7=>by
   have hlt:i < ds.length:=by rw [h1];exact (List.getElem?_eq_some_iff.1 h6).1
   exact (h2 i ds[i] d (List.getElem?_eq_getElem hlt) h6).2 _ _ _ _ _ (h5 _ _ _ (List.getElem?_eq_getElem hlt) h7)
 | .tup ds,K,h=>by
  change stripLK ds fun ds=>K (.tup ds) at h
  obtain ⟨ds',⟨h1,h2⟩,h3⟩:=stripLK_eq h
  refine ⟨.tup ds',⟨rfl,fun w F ρ L v h=>?_⟩,h3⟩
  obtain ⟨vs,rfl,h4,h5⟩:=h.tup_inv
  exact .tup _ _ (h4.trans h1) fun i d v h6 h7=>by
   have hlt:i < ds.length:=by rw [h1];exact (List.getElem?_eq_some_iff.1 h6).1
   exact (h2 i ds[i] d (List.getElem?_eq_getElem hlt) h6).2 _ _ _ _ _ (h5 _ _ _ (List.getElem?_eq_getElem hlt) h7)
 | .fn f ds,K,h=>by
  change stripLK ds fun ds=>K (.fn f ds) at h
  obtain ⟨ds',⟨h1,h2⟩,h3⟩:=stripLK_eq h
  refine ⟨.fn f ds',⟨rfl,fun w F ρ L v h=>?_⟩,h3⟩
  obtain ⟨vs,rfl,h4,h5⟩:=h.fn_inv
  exact .fn _ _ _ (h4.trans h1) fun i d v h6 h7=>by
   have hlt:i < ds.length:=by rw [h1];exact (List.getElem?_eq_some_iff.1 h6).1
   exact (h2 i ds[i] d (List.getElem?_eq_getElem hlt) h6).2 _ _ _ _ _ (h5 _ _ _ (List.getElem?_eq_getElem hlt) h7)
 | .osl _ _ _ _ _,K,h=>False.elim h
 | .loc _ _,K,h=>False.elim h
 | .aloc _ _ _ _,K,h=>False.elim h
 | .cloc _ _,K,h=>False.elim h
 | .mp _,K,h=>False.elim h
theorem stripLK_eq:∀ {ds:List D} {K:List D→Prop},stripLK ds K→∃ ds',PureLOf ds ds'∧K ds'
 | [],K,h=>⟨[],⟨rfl,by simp⟩,h⟩
 | d::ds,K,h=>by
  change (stripK d fun d=>stripLK ds fun ds=>K (d::ds)) at h
  obtain ⟨d',h1,h2⟩:=stripK_eq h
  obtain ⟨ds',h3,h4⟩:=stripLK_eq h2
  refine ⟨d'::ds',⟨by simp [h3.1],fun i a b ha hb=>?_⟩,h4⟩
  cases i with
  | zero=>simp at ha hb;subst ha;subst hb;exact h1
  | succ i=>exact h3.2 i a b (by simpa using ha) (by simpa using hb)
end
def setAt {α:Type} (off:Nat):List α→List α→List α
 | [],cs=>cs
 | v::vs,cs=>setAt (off+1) vs (cs.set off v)
theorem setAt_length {α:Type}:∀ (vs:List α) (off:Nat) (cs:List α),(setAt off vs cs).length=cs.length
 | [],_,_=>rfl
 | v::vs,off,cs=>by simp [setAt,setAt_length vs]
theorem setAt_get {α:Type}:∀ (vs:List α) (off:Nat) (cs:List α) (k:Nat),off+vs.length≤cs.length →
  (setAt off vs cs)[k]?=if off≤k∧k < off+vs.length then vs[k - off]? else cs[k]?
 | [],off,cs,k,_=>by simp only [setAt,List.length_nil,Nat.add_zero];rw [if_neg (by omega)]
 | v::vs,off,cs,k,h=>by
  simp only [setAt,List.length_cons] at h ⊢
  rw [setAt_get vs (off+1) _ k (by simp;omega)]
  by_cases h1:off+1≤k∧k < off+1+vs.length
  ·rw [if_pos h1,if_pos (by omega),show k - off=(k - (off+1))+1 by omega,List.getElem?_cons_succ]
  ·rw [if_neg h1]
   by_cases h2:k=off
   ·subst h2
    rw [if_pos (by omega),List.getElem?_set_self (by omega)]
    simp
   ·rw [if_neg (by omega),List.getElem?_set_ne (by omega)]
theorem fold_setAt (off:Nat):∀ (vs:List Value) (s:Nat) (cells:Array Value),
  ((vs.zipIdx s).foldl (fun cs (p:Value×Nat)=>cs.setIfInBounds (off+p.2) p.1) cells)=(setAt (off+s) vs cells.toList).toArray
 | [],s,cells=>by simp [setAt]
 | v::vs,s,cells=>by
  simp only [List.zipIdx_cons,List.foldl_cons,setAt]
  rw [fold_setAt off vs (s+1)]
  simp [Nat.add_assoc]
theorem fill_cons (place:Nat→Option (Nat×Nat)) (cells:Array Value) (i:Nat) (v:Value) (rest:List (Nat×Value)) (off size:Nat) (hp:place i=some (off,size))
  (h1:v.cells.size=size) (h2:off+size≤cells.size) :
  Instr.fill place cells ((i,v)::rest)=Instr.fill place (setAt off v.cells.toList cells.toList).toArray rest:=by
 simp only [Instr.fill,hp]
 rw [if_neg (by simp;omega)]
 congr 1
 rw [← Array.foldl_toList,Array.toList_zipIdx]
 simpa using fold_setAt off v.cells.toList 0 cells
theorem Rep.cells_len {w:World} {F:Nat→Nat→Prop} {ρ:Pl} {L:List Ob} {d:D} {v:Value} (h:Rep w F ρ L d v) (hd:d≠ .any) :
  v.cells.toList.length=d.cells.length∧∀ (j:Nat) c u,d.cells[j]?=some c→v.cells.toList[j]?=some u→Rep w F ρ L c u:=by
 cases d with
 | any=>exact (hd rfl).elim
 | agg ds=>
  obtain ⟨vs,rfl,h1,h2⟩:=h.agg_inv
  exact ⟨by simpa [Value.cells,D.cells] using h1,fun j c u h3 h4=>h2 j c u h3 (by simpa [Value.cells] using h4)⟩
 | tup ds=>
  have h':=h
  obtain ⟨vs,rfl,h1,h2⟩:=h.tup_inv
  exact ⟨rfl,fun j c u h3 h4=>by
   cases j with
   | zero=>simp [D.cells] at h3;simp [Value.cells] at h4;subst h3;subst h4;exact h'
   | succ j=>simp [D.cells] at h3⟩
 | _=>
  have key:v.cells= #[v]:=by
   cases h with
   | pure _ _ h=>cases h<;>rfl
   | _=>first | rfl | (rename_i h _;cases h<;>rfl)
  rw [key]
  refine ⟨rfl,fun j c u h3 h4=>?_⟩
  cases j with
  | zero=>simp [D.cells] at h3;simp at h4;subst h3;subst h4;exact h
  | succ j=>simp [D.cells] at h3
def fillK:List (Nat×Nat×D)→List D→(List D→Prop)→Prop
 | [],cs,K=>K cs
 | (off,size,d)::rest,cs,K=>cellsK d fun ds=>match Nat.beq ds.length size with
  | true=>match Nat.ble (off+size) cs.length with
   | true=>fillK rest (setAt off ds cs) K
   | false=>False
  | false=>False
def fillR:List (Nat×Nat×D)→List D→List D
 | [],cs=>cs
 | (off,_,d)::rest,cs=>fillR rest (setAt off d.cells cs)
theorem cellsK_any {d:D} {K:List D→Prop} (h:cellsK d K):d≠ .any:=by
 rintro rfl
 exact h
theorem fillK_sound (place:Nat→Option (Nat×Nat)) {w:World} {F:Nat→Nat→Prop} {ρ:Pl} {L:List Ob}:∀ (ps:List (Nat×Nat×D)) (qs:List (Nat×Value)) (cs:List D) (vs:List Value) (K:List D→Prop),
  fillK ps cs K→ps.length=qs.length→(∀ (n:Nat) p q,ps[n]?=some p→qs[n]?=some q→place q.1=some (p.1,p.2.1)∧Rep w F ρ L p.2.2 q.2) →
  vs.length=cs.length→(∀ (j:Nat) c u,cs[j]?=some c→vs[j]?=some u→Rep w F ρ L c u) →
  ∃ (vs':List Value),Instr.fill place vs.toArray qs=some vs'.toArray∧vs'.length=(fillR ps cs).length∧(fillR ps cs).length=cs.length∧∀ (j:Nat) c u,(fillR ps cs)[j]?=some c→vs'[j]?=some u→Rep w F ρ L c u
 | [],qs,cs,vs,K,h,hl,hp,hv,hr=>by
  cases qs with
  | nil=>exact ⟨vs,by simp [Instr.fill],hv,rfl,hr⟩
  | cons q qs=>simp at hl
 | (off,size,d)::ps,qs,cs,vs,K,h,hl,hp,hv,hr=>by
  cases qs with
  | nil=>simp at hl
  | cons q qs=>
   obtain ⟨i,v⟩:=q
   simp only [fillK] at h
   have hany:=cellsK_any h
   have h:=cellsK_eq h
   split at h<;>try exact h.elim
   rename_i h1
   have h1:=Nat.eq_of_beq_eq_true h1
   split at h<;>try exact h.elim
   rename_i h2
   have h2:=Nat.le_of_ble_eq_true h2
   obtain ⟨h3,h4⟩:=hp 0 _ _ rfl rfl
   obtain ⟨h5,h6⟩:=h4.cells_len hany
   obtain ⟨vs',h8,h9,h10,h11⟩:=fillK_sound place ps qs (setAt off d.cells cs) (setAt off v.cells.toList vs) K h (by simpa using hl) (fun n p q h1 h2=>hp (n+1) p q (by simpa using h1) (by simpa using h2))
    (by simp [setAt_length,hv]) (fun j c u hc hu=>by
      have h1':d.cells.length=size:=h1
      have h5':v.cells.toList.length=size:=h5.trans h1
      rw [setAt_get _ _ _ _ (by omega)] at hc
      rw [setAt_get _ _ _ _ (by omega),h5] at hu
      split at hc
      ·rename_i hb
       rw [if_pos hb] at hu
       exact h6 _ _ _ hc hu
      ·rename_i hb
       rw [if_neg hb] at hu
       exact hr _ _ _ hc hu)
   refine ⟨vs',?_,h9,by rw [fillR,h10,setAt_length],h11⟩
   rw [fill_cons place _ i v qs off size h3 (by simpa using h5.trans h1) (by simp;omega)]
   exact h8
theorem fillK_eq:∀ {ps:List (Nat×Nat×D)} {cs:List D} {K:List D→Prop},fillK ps cs K→K (fillR ps cs)
 | [],cs,K,h=>by simpa [fillK,fillR] using h
 | (off,size,d)::ps,cs,K,h=>by
  simp only [fillK] at h
  have h:=cellsK_eq h
  split at h<;>try exact h.elim
  split at h<;>try exact h.elim
  exact fillK_eq (ps:=ps) h
def partsK (T:Tab) (i:TI) (σ:List (Nat×D)):List (Nat×Operand)→(List (Nat×Nat×D)→Prop)→Prop
 | [],K=>K []
 | (f,x)::rest,K=>match i.d with
  | .struct _=>fieldOff i f fun off t=>match ty T t with
   | some j=>partsK T i σ rest fun r=>K ((off,j.size,evalD σ x)::r)
   | none=>False
  | _=>False
theorem partsK_eq {P:Program} {T:Tab} {i:TI} {σ:List (Nat×D)}:∀ {ps:List (Nat×Operand)} {K:List (Nat×Nat×D)→Prop},partsK T i σ ps K →
  ∃ r,K r∧r.length=ps.length∧∀ (n:Nat) p q,r[n]?=some p→ps[n]?=some q→p.2.2=evalD σ q.2 ∧
   (∃ fs,i.d= .struct fs∧∃ off t j,fs[q.1]?=some (off,t)∧ty T t=some j∧p.1=off∧p.2.1=j.size)
 | [],K,h=>⟨[],by simpa [partsK] using h,rfl,by simp⟩
 | (f,x)::ps,K,h=>by
  simp only [partsK] at h
  split at h<;>try exact h.elim
  ·rename_i fs hd
   unfold fieldOff at h
   rw [hd] at h
   obtain ⟨p,h1,h2⟩:=nthK_eq h
   split at h2<;>try exact h2.elim
   rename_i j hj
   obtain ⟨r,h3,h4,h5⟩:=partsK_eq (P:=P) h2
   refine ⟨_,h3,by simp [h4],fun n p' q' h6 h7=>?_⟩
   cases n with
   | zero=>
    simp at h6 h7
    subst h6;subst h7
    exact ⟨rfl,fs,hd,p.1,p.2,j,h1,hj,rfl,rfl⟩
   | succ n=>exact h5 n p' q' (by simpa using h6) (by simpa using h7)
def buildK (T:Tab) (t:Nat) (ps:List (Nat×Operand)) (σ:List (Nat×D)) (K:D→Prop):Prop:=
 match ty T t with
 | some i=>match i.d with
  | .struct _=>match zeroD i.zero with
   | .agg zs=>partsK T i σ ps fun r=>fillK r zs fun cs=>K (.agg cs)
   | _=>False
  | _=>False
 | none=>False
theorem mapM_places {P:Program} {T:Tab} (hT:TabOk P T) (w:World):∀ (fs:List Field),(∀ f∈fs,∃ x,P.info? f.type=some x) →
  ((fs.mapM fun f=>do pure (f.offset,← sizeOf f.type):Sem (List (Nat×Nat)))).run P w= .ok (fs.map fun f=>(f.offset,((P.info? f.type).map (·.size)).getD 0)) w
 | [],_=>rfl
 | f::fs,h=>by
  obtain ⟨x,hx⟩:=h f (by simp)
  have ih:=mapM_places hT w fs fun g hg=>h g (by simp [hg])
  have hz:(sizeOf f.type).run P w= .ok x.size w:=by simp [sizeOf,run_typeInfo w hx]
  simp only [List.mapM_cons,Sem.run_bind,hz,Result.andThen,List.map_cons,hx]
  rw [show (pure (f.offset,x.size):Sem (Nat×Nat)).run P w= .ok (f.offset,x.size) w from rfl]
  dsimp only
  rw [ih]
  rfl
theorem place_struct (fs:Array Field) (P:Program) (i:Nat) (x:Field) (h:fs[i]?=some x) :
  ((fs.toList.map fun f=>(f.offset,((P.info? f.type).map (·.size)).getD 0)).toArray)[i]?=some (x.offset,((P.info? x.type).map (·.size)).getD 0):=by
 simp [h]
theorem under_struct {P:Program} {t:Nat} {fs:List (Nat×Nat)} {i:TI} (hi:TIOk P t i) (h:i.d= .struct fs) :
  ∃ gs:Array Field,P.underlying t=some (.struct gs)∧fs=gs.toList.map (fun f=>(f.offset,f.type))∧∀ f∈gs.toList,∃ x,P.info? f.type=some x:=by
 obtain ⟨d,h1,h2⟩:=hi.under
 rw [h] at h2
 cases d<;>simp [tdOf] at h2
 rename_i gs
 refine ⟨gs,h1,h2.symm,fun f hf=>?_⟩
 have h3:=hi.fin
 rw [h1] at h3
 simp only [List.all_eq_true] at h3
 exact Option.isSome_iff_exists.1 (h3 f hf)
theorem size_info {P:Program} {t:Nat} {j:TI} (hj:TIOk P t j):((P.info? t).map (·.size)).getD 0=j.size:=by
 obtain ⟨x,h1,h2,_⟩:=hj.info
 rw [h1];exact h2
theorem build_sound {P:Program} {T:Tab} (hT:TabOk P T) {t:Nat} {ps:Array (Nat×Operand)} {σ:List (Nat×D)} {K:D→Prop} {o:Oper}
  (ho:o.op= .build t ps) (h:buildK T t ps.toList σ K):∃ d,(∀ L,OpOk P o σ L d L)∧K d:=by
 unfold buildK at h
 split at h<;>try exact h.elim
 rename_i i hi
 have hi:=hT _ _ hi
 split at h<;>try exact h.elim
 rename_i fs hd
 split at h<;>try exact h.elim
 rename_i zs hz
 obtain ⟨r,h1,h2,h3⟩:=partsK_eq (P:=P) h
 obtain ⟨gs,hd1,hd2,hall⟩:=under_struct hi hd
 refine ⟨.agg (fillR r zs),OpOk.of_pure fun a w ρ L hf he=>?_,fillK_eq h1⟩
 have hzr:=zeroD_rep w (foot ρ L) i.zero
 rw [hz] at hzr
 obtain ⟨zv,hzv,hzl,hzr⟩:=(Rep.pure (ρ:=ρ) (L:=L) _ _ hzr).agg_inv
 obtain ⟨vs,h5,h6,h7,h8⟩:=fillK_sound (fun i=>((gs.toList.map fun f=>(f.offset,((P.info? f.type).map (·.size)).getD 0)).toArray)[i]?) r (ps.toList.map fun (i,x)=>(i,a.eval x)) zs zv _ h1 (by simp [h2])
  (fun n p q hp hq'=>by
    simp only [List.getElem?_map,Option.map_eq_some_iff] at hq'
    obtain ⟨⟨m,x⟩,h4,rfl⟩:=hq'
    obtain ⟨h10,fs',h5,off,t',j,h6,h7,h8,h9⟩:=h3 n p _ hp h4
    rw [hd] at h5
    cases h5
    subst hd2
    refine ⟨?_,by rw [h10];exact he.eval x⟩
    simp only [List.getElem?_map,Option.map_eq_some_iff] at h6
    obtain ⟨f,h11,h12⟩:=h6
    cases h12
    have:=place_struct gs P m f (by simpa using h11)
    rw [size_info (hT _ _ h7)] at this
    rw [h8,h9]
    exact this)
  hzl hzr
 refine ⟨.agg vs.toArray,?_,.agg _ _ h6 h8⟩
 have hm:((gs.mapM fun f=>do pure (f.offset,← sizeOf f.type):Sem (Array (Nat×Nat)))).run P w= .ok (gs.toList.map fun f=>(f.offset,((P.info? f.type).map (·.size)).getD 0)).toArray w:=by
  rw [Array.mapM_eq_mapM_toList]
  simp only [Sem.run_map,mapM_places hT w gs.toList hall,Result.andThen]
 have hb:(Instr.build t (ps.map fun (i,x)=>(i,a.eval x))).run P w= .ok (.agg vs.toArray) w:=by
  simp only [Instr.build,Sem.run_bind,hi.zeroRun,Result.andThen,run_underlying hd1,hm,hzv,Value.cells]
  rw [Array.toList_map]
  simp only [h5]
  rfl
 simp [execOp,ho,hb]
def indexOp (T:Tab) (t:Nat) (x ix:D) (K:D→Prop):Prop:=
 match ty T t with
 | some i=>match i.d with
  | .str=>match x with
   | .str s=>match ix with
    | .int _ n=>VS (SideS (0≤n∧n < s.length) (K (.int .u8 (s.getD n.toNat 0).toNat)))
    | _=>False
   | _=>False
  | .arr len e=>match ty T e with
   | some j=>match j.d with
    | .int _=>match Nat.beq j.size 1 with
     | true=>match x with
      | .agg ds=>match ix with
       | .int _ n=>VS (SideS (n < len) (VS (IdxS ds n K)))
       | _=>False
      | _=>False
     | false=>False
    | _=>False
   | none=>False
  | _=>False
 | none=>False
theorem size_mk (s:List UInt8):(⟨s.toArray⟩:ByteArray).size=s.length:=by simp [ByteArray.size]
theorem index_sound {P:Program} {T:Tab} (hT:TabOk P T) {t:Nat} {x ix:Operand} {σ:List (Nat×D)} {K:D→Prop} {o:Oper}
  (ho:o.op= .index t x ix) (h:indexOp T t (evalD σ x) (evalD σ ix) K):∃ d,(∀ L,OpOk P o σ L d L)∧K d:=by
 unfold indexOp at h
 split at h<;>try exact h.elim
 rename_i i hi
 have hi:=hT _ _ hi
 split at h<;>try exact h.elim
 ·rename_i hd
  have hu:=under_str hi hd
  split at h<;>try exact h.elim
  rename_i s hx
  split at h<;>try exact h.elim
  rename_i k n hix
  obtain ⟨hb,h⟩:=h.out
  refine ⟨_,OpOk.of_pure fun a w ρ L hf he=>?_,h⟩
  have hv:=he.eval x
  have hw:=he.eval ix
  rw [hx] at hv
  rw [hix] at hw
  have hlt:n.toNat < s.length:=by omega
  refine ⟨_,?_,.pure _ _ (.int _ _)⟩
  have e:(⟨s.toArray⟩:ByteArray)[n.toNat]?=some (s.getD n.toNat 0):=by
   rw [getElem?_pos _ _ (by rw [size_mk];exact hlt)]
   simp only [List.getD_eq_getElem?_getD,List.getElem?_eq_getElem hlt,Option.getD_some]
   rfl
  simp [execOp,ho,Instr.index,hw.int_inv,asIntOf,hv.str_inv,run_underlying hu,hb.1,e]
 ·rename_i len e hd
  have hu:=under_arr hi hd
  split at h<;>try exact h.elim
  rename_i j hj
  have hj:=hT _ _ hj
  split at h<;>try exact h.elim
  rename_i k hk
  have hue:=under_int hj hk
  split at h<;>try exact h.elim
  rename_i hsz
  have hsz:=Nat.eq_of_beq_eq_true hsz
  split at h<;>try exact h.elim
  rename_i ds hx
  split at h<;>try exact h.elim
  rename_i k2 n hix
  obtain ⟨hb,h⟩:=h.out
  obtain ⟨h0,d,hd2,h⟩:=h.out
  refine ⟨d,OpOk.of_pure fun a w ρ L hf he=>?_,h⟩
  have hv:=he.eval x
  have hw:=he.eval ix
  rw [hx] at hv
  rw [hix] at hw
  obtain ⟨vs,hvs,hl,hr⟩:=hv.agg_inv
  have hlt:n.toNat < vs.length:=by rw [hl];exact (List.getElem?_eq_some_iff.1 hd2).1
  refine ⟨vs[n.toNat],?_,hr _ d _ hd2 (List.getElem?_eq_getElem hlt)⟩
  obtain ⟨info,hinfo,hs1,_⟩:=hj.info
  have hq:(isAgg e).run P w= .ok false w:=by simp [isAgg,run_underlying hue]
  have hz:(sizeOf e).run P w= .ok 1 w:=by rw [run_sizeOf w hinfo];simp [Program.cellsOf,hinfo,hs1,hsz]
  simp [execOp,ho,Instr.index,hw.int_inv,asIntOf,hvs,run_underlying hu,h0,hb,hz,part,hq,List.getElem?_eq_getElem hlt]
def lowK (σ:List (Nat×D)) (lo:Option Operand) (K:Int→Prop):Prop:=
 match lo with
 | none=>K 0
 | some x=>match evalD σ x with
  | .int _ n=>K n
  | _=>False
def highK (σ:List (Nat×D)) (hi:Option Operand) (len:Nat) (K:Int→Prop):Prop:=
 match hi with
 | none=>K len
 | some x=>match evalD σ x with
  | .int _ n=>K n
  | _=>False
def sliceOp (T:Tab) (σ:List (Nat×D)) (t:Nat) (x:D) (lo hi mx:Option Operand) (K:D→Prop):Prop:=
 match ty T t with
 | some i=>match i.d with
  | .str=>match mx with
   | none=>match x with
    | .str s=>lowK σ lo fun l=>highK σ hi s.length fun h=>VS (SideS (0≤l∧l≤h∧h≤s.length) (K (.str ((s.take h.toNat).drop l.toNat))))
    | _=>False
   | some _=>False
  | .slice e=>match ty T e with
   | some j=>match x with
    | .sl es ds _=>match Nat.beq es j.size with
     | true=>match mx with
      | none=>lowK σ lo fun l=>highK σ hi ds.length fun h=>VS (SideS (0≤l∧l≤h∧h≤ds.length) (VS (NormL ((ds.take h.toNat).drop l.toNat) fun r _=>K (.sl es r none))))
      | some m=>match hi with
       | some hi=>lowK σ lo fun l=>lowK σ (some hi) fun h=>lowK σ (some m) fun m=>VS (SideS (l=0∧h=0∧m=0) (K .nilsl))
       | none=>False
     | false=>False
    | .nilsl=>match mx with
     | none=>lowK σ lo fun l=>highK σ hi 0 fun h=>VS (SideS (l=0∧h=0) (K .nilsl))
     | some m=>match hi with
      | some hi=>lowK σ lo fun l=>lowK σ (some hi) fun h=>lowK σ (some m) fun m=>VS (SideS (l=0∧h=0∧m=0) (K .nilsl))
      | none=>False
    | .osl es k n off len=>match Nat.beq es j.size with
     | true=>match mx with
      | none=>lowK σ lo fun l=>highK σ hi len fun h=>VS (SideS (0≤l∧l≤h∧h≤len) (K (.osl es k n (off+l.toNat) (h.toNat - l.toNat))))
      | some _=>False
     | false=>False
    | _=>False
   | none=>False
  | .arr n e=>match ty T e with
   | some j=>match Nat.beq j.size 1 with
    | true=>match x with
     | .loc k o=>match mx with
      | none=>lowK σ lo fun l=>highK σ hi n fun h=>VS (SideS (0≤l∧l≤h∧h≤n) (K (.csl k (o+l.toNat) (h.toNat - l.toNat))))
      | some _=>False
     | _=>False
    | false=>False
   | none=>False
  | _=>False
 | none=>False
theorem lowK_eq {σ:List (Nat×D)} {lo:Option Operand} {K:Int→Prop} (h:lowK σ lo K):∃ l,K l ∧
  ∀ (w:World) (ρ:Pl) (L:List Ob) (a:Act),Env w ρ L σ a→(lo=none∧l=0)∨∃ x k,lo=some x∧a.eval x= .int k l:=by
 unfold lowK at h
 split at h
 ·exact ⟨0,h,fun _ _ _ _ _=>.inl ⟨rfl,rfl⟩⟩
 ·rename_i x
  split at h<;>try exact h.elim
  rename_i k n hx
  exact ⟨n,h,fun w ρ L a he=>.inr ⟨x,k,rfl,by have:=he.eval x;rw [hx] at this;exact this.int_inv⟩⟩
theorem highK_eq {σ:List (Nat×D)} {hi:Option Operand} {len:Nat} {K:Int→Prop} (h:highK σ hi len K):∃ l,K l ∧
  ∀ (w:World) (ρ:Pl) (L:List Ob) (a:Act),Env w ρ L σ a→(hi=none∧l=len)∨∃ x k,hi=some x∧a.eval x= .int k l:=by
 unfold highK at h
 split at h
 ·exact ⟨len,h,fun _ _ _ _ _=>.inl ⟨rfl,rfl⟩⟩
 ·rename_i x
  split at h<;>try exact h.elim
  rename_i k n hx
  exact ⟨n,h,fun w ρ L a he=>.inr ⟨x,k,rfl,by have:=he.eval x;rw [hx] at this;exact this.int_inv⟩⟩
theorem run_bounds {P:Program} {w:World} (isSlice:Bool) (len cap:Nat) {lo hi:Option Operand} {a:Act} {l h:Int}
  (hl:(lo=none∧l=0)∨∃ x k,lo=some x∧a.eval x= .int k l) (hh:(hi=none∧h=len)∨∃ x k,hi=some x∧a.eval x= .int k h)
  (h0:0≤l) (h1:l≤h) (h2:h≤len) (h3:len≤cap) :
  (Instr.sliceBounds isSlice len cap (lo.map a.eval) (hi.map a.eval) none).run P w= .ok (l.toNat,h.toNat,cap) w:=by
 have hb:∀ (v:Value) (k:IntKind) (n:Int) (y:Nat) c,v= .int k n→0≤n→n≤y→(Instr.sliceBound v y c).run P w= .ok n.toNat w:=by
  intro v k n y c hv h4 h5
  subst hv
  simp [Instr.sliceBound,asIntOf,h4,h5]
 rcases hl with ⟨rfl,rfl⟩ | ⟨x,k,rfl,hx⟩<;>rcases hh with ⟨rfl,rfl⟩ | ⟨y,k',rfl,hy⟩
 ·simp [Instr.sliceBounds]
 ·simp only [Instr.sliceBounds,Option.map_some,Option.map_none,Sem.run_bind]
  simp [hb _ k' h cap _ hy (by omega) (by omega)]
 ·simp only [Instr.sliceBounds,Option.map_some,Option.map_none,Sem.run_bind]
  simp [hb _ k l len _ hx (by omega) (by omega)]
 ·simp only [Instr.sliceBounds,Option.map_some,Option.map_none,Sem.run_bind]
  simp [hb _ k' h cap _ hy (by omega) (by omega),hb _ k l h.toNat _ hx (by omega) (by omega)]
theorem run_bounds0 {P:Program} {w:World} (len cap:Nat) {lo:Option Operand} {hi mx:Operand} {a:Act}
  (hl:(lo=none∧(0:Int)=0)∨∃ x k,lo=some x∧a.eval x= .int k 0) (hh:∃ k,a.eval hi= .int k 0) (hm:∃ k,a.eval mx= .int k 0) :
  (Instr.sliceBounds true len cap (lo.map a.eval) (some (a.eval hi)) (some (a.eval mx))).run P w= .ok (0,0,0) w:=by
 have hb:∀ (v:Value) (k:IntKind) (y:Nat) c,v= .int k 0→(Instr.sliceBound v y c).run P w= .ok 0 w:=by
  intro v k y c hv
  subst hv
  simp [Instr.sliceBound,asIntOf]
 obtain ⟨k,hh⟩:=hh
 obtain ⟨k',hm⟩:=hm
 rcases hl with ⟨rfl,_⟩ | ⟨x,k'',rfl,hx⟩
 ·simp only [Instr.sliceBounds,Option.map_none,Sem.run_bind]
  simp [hb _ k _ _ hh,hb _ k' _ _ hm]
 ·simp only [Instr.sliceBounds,Option.map_some,Sem.run_bind]
  simp [hb _ k _ _ hh,hb _ k' _ _ hm,hb _ k'' _ _ hx]
theorem sliceAt_slice {P:Program} {T:Tab} {t e:Nat} {w:World} {v:Value} {lo hi mx:Option Value} (hu:P.underlying t=some (.slice e)) :
  (Instr.sliceAt t v lo hi mx).run P w=(Instr.slice t v lo hi mx).run P w:=by
 simp [Instr.sliceAt,run_underlying hu]
theorem extract_mk (s:List UInt8) (l h:Nat):(⟨s.toArray⟩:ByteArray).extract l h=⟨((s.take h).drop l).toArray⟩:=by
 rw [← Joins.bytes_eta ((⟨s.toArray⟩:ByteArray).extract l h)]
 congr 1
 simp [List.extract_eq_take_drop,List.drop_take]
theorem sliceArr_run {P:Program} {w:World} {t n e:Nat} {lo hi:Option Operand} {a:Act} {ad:Addr} {l h:Int} (hu:P.underlying t=some (.array n e))
  (hl:(lo=none∧l=0)∨∃ x k,lo=some x∧a.eval x= .int k l) (hh:(hi=none∧h=n)∨∃ x k,hi=some x∧a.eval x= .int k h) (h0:0≤l) (h1:l≤h) (h2:h≤n) (hz:(sizeOf e).run P w= .ok 1 w) :
  (Instr.sliceAt t (.pointer (some ad)) (lo.map a.eval) (hi.map a.eval) none).run P w= .ok (slicedAt ad l.toNat h.toNat n 1) w:=by
 have hb:=run_bounds (P:=P) (w:=w) false n n hl hh h0 h1 h2 (Nat.le_refl _)
 simp [Instr.sliceAt,run_underlying hu,Instr.sureAddr,hb,hz,slicedAt]
theorem slice_sound {P:Program} {T:Tab} (hT:TabOk P T) {t:Nat} {x:Operand} {lo hi mx:Option Operand} {σ:List (Nat×D)} {K:D→Prop} {o:Oper}
  (ho:o.op= .slice t x lo hi mx) (h:sliceOp T σ t (evalD σ x) lo hi mx K):∃ d,(∀ L,OpOk P o σ L d L)∧K d:=by
 unfold sliceOp at h
 split at h<;>try exact h.elim
 rename_i i hi'
 have hi':=hT _ _ hi'
 split at h<;>try exact h.elim
 ·rename_i hd
  have hu:=under_str hi' hd
  split at h<;>try exact h.elim
  split at h<;>try exact h.elim
  rename_i s hx
  obtain ⟨l,h,hl⟩:=lowK_eq h
  obtain ⟨hh,h,hh'⟩:=highK_eq h
  obtain ⟨⟨h1,h2,h3⟩,h⟩:=h.out
  refine ⟨_,OpOk.of_pure fun a w ρ L hf he=>?_,h⟩
  have hv:=he.eval x
  rw [hx] at hv
  refine ⟨_,?_,.pure _ _ (.str _)⟩
  have hb:=run_bounds (P:=P) (w:=w) false s.length s.length (hl _ _ _ _ he) (hh' _ _ _ _ he) h1 h2 h3 (Nat.le_refl _)
  simp [execOp,ho,Instr.sliceAt,run_underlying hu,Instr.slice,hv.str_inv,size_mk,hb,extract_mk]
 ·rename_i e hd
  have hu:=under_slice hi' hd
  split at h<;>try exact h.elim
  rename_i j hj
  have hj:=hT _ _ hj
  split at h<;>try exact h.elim
  ·rename_i es ds tok hx
   split at h<;>try exact h.elim
   rename_i hes
   have hes:=Nat.eq_of_beq_eq_true hes
   subst hes
   split at h
   ·obtain ⟨l,h,hl⟩:=lowK_eq h
    obtain ⟨hh,h,hh'⟩:=highK_eq h
    obtain ⟨⟨h1,h2,h3⟩,h⟩:=h.out
    have h:=VS.out h
    unfold NormL at h
    refine ⟨_,OpOk.of_pure fun a w ρ L hf he=>?_,h⟩
    have hv:=he.eval x
    rw [hx] at hv
    rcases hv.sl_inv.sl_shape with ⟨h4,ad,h5⟩ | ⟨b,off,cap,h5,h4,h6,h7⟩
    ·subst h4
     have hb:=run_bounds (P:=P) (w:=w) true 0 0 (hl _ _ _ _ he) (hh' _ _ _ _ he) h1 h2 h3 (Nat.le_refl _)
     have:l.toNat=0:=by simp at h3;omega
     have:hh.toNat=0:=by simp at h3;omega
     refine ⟨.slice ad 0 0,?_,?_⟩
     ·have hl0:l=0:=by omega
      have hh0:hh=0:=by omega
      subst hl0 hh0
      simp [execOp,ho,sliceAt_slice (T:=T) hu,Instr.slice,run_underlying hu,h5,hb,hj.sizeRun]
     ·simp only [List.take_nil,List.drop_nil]
      exact .pure _ _ (.slnil _ _)
    ·have hb:=run_bounds (P:=P) (w:=w) true ds.length cap (hl _ _ _ _ he) (hh' _ _ _ _ he) h1 h2 h3 h4
     refine ⟨.slice (some (if cap=l.toNat then ⟨b,off,none⟩ else ⟨b,off+l.toNat * j.size,none⟩)) (hh.toNat - l.toNat) (cap - l.toNat),?_,?_⟩
     ·simp [execOp,ho,sliceAt_slice (T:=T) hu,Instr.slice,run_underlying hu,h5,hb,hj.sizeRun,addr_add]
      split<;>rfl
     ·have hlen:((ds.take hh.toNat).drop l.toNat).length=hh.toNat - l.toNat:=by simp;omega
      have hget:∀ (i:Nat) d,((ds.take hh.toNat).drop l.toNat)[i]?=some d→ds[l.toNat+i]?=some d:=by
       intro i d hd
       rw [List.getElem?_drop,List.getElem?_take] at hd
       split at hd
       ·exact hd
       ·cases hd
      have mk:∀ (b' off':Nat),(b'=b∧off'=off+l.toNat * j.size)∨((ds.take hh.toNat).drop l.toNat).length=0 →
        RepP w (foot ρ L) (.sl j.size ((ds.take hh.toNat).drop l.toNat) none) (.slice (some ⟨b',off',none⟩) (hh.toNat - l.toNat) (cap - l.toNat)):=by
       intro b' off' hor
       rw [← hlen]
       have hone:=hv.sl_inv
       rw [h5] at hone
       have hone:=hone.sl_one
       refine .sl _ _ _ _ _ (fun i q=>(w.cell? ⟨b',off'+(i * j.size+q),none⟩).getD undef) (by omega) (fun i d hi=>h6 _ _ (hget _ _ hi)) (fun i d q c hi hq=>?_) (fun i d q c hi hq=>?_) (fun i d q c hi hq=>?_)
       all_goals
        rcases hor with ⟨rfl,rfl⟩ | h0
        ·obtain ⟨u,h8,h9,h10⟩:=h7 _ _ _ _ (hget _ _ hi) hq
         rw [show off+l.toNat * j.size+(i * j.size+q)=off+((l.toNat+i) * j.size+q) by rw [Nat.add_mul];omega]
         rw [h8]
         first | exact ⟨rfl,h9⟩ | exact h10 | exact hone _ _ _ _ _ (hget _ _ hi) hq h8
        ·have:=(List.getElem?_eq_some_iff.1 hi).1
         omega
      split
      ·rename_i hc
       exact .pure _ _ (mk _ _ (.inr (by omega)))
      ·exact .pure _ _ (mk _ _ (.inl ⟨rfl,rfl⟩))
   ·rename_i m
    split at h<;>try exact h.elim
    rename_i hi
    obtain ⟨l,h,hl⟩:=lowK_eq h
    obtain ⟨hh,h,hh'⟩:=lowK_eq h
    obtain ⟨mm,h,hm'⟩:=lowK_eq h
    obtain ⟨⟨e1,e2,e3⟩,hK⟩:=h.out
    subst e1;subst e2;subst e3
    refine ⟨_,OpOk.of_pure fun a w ρ L hf he=>?_,hK⟩
    have hv:=he.eval x
    rw [hx] at hv
    have h1:∃ k,a.eval hi= .int k 0:=by
     rcases hh' _ _ _ _ he with ⟨h,_⟩ | ⟨_,k,h1,h2⟩
     ·cases h
     ·cases h1;exact ⟨k,h2⟩
    have h2:∃ k,a.eval m= .int k 0:=by
     rcases hm' _ _ _ _ he with ⟨h,_⟩ | ⟨_,k,h1,h2⟩
     ·cases h
     ·cases h1;exact ⟨k,h2⟩
    rcases hv.sl_inv.sl_shape with ⟨h4,ad,h5⟩ | ⟨b,off,cap,h5,h4,h6,h7⟩
    ·have hb:=run_bounds0 (P:=P) (w:=w) 0 0 (hl _ _ _ _ he) h1 h2
     exact ⟨.slice ad 0 0,by simp [execOp,ho,sliceAt_slice (T:=T) hu,Instr.slice,run_underlying hu,h5,hb,hj.sizeRun],.pure _ _ (.nilsl _)⟩
    ·have hb:=run_bounds0 (P:=P) (w:=w) ds.length cap (hl _ _ _ _ he) h1 h2
     exact ⟨.slice (some ⟨b,off,none⟩) 0 0,by simp [execOp,ho,sliceAt_slice (T:=T) hu,Instr.slice,run_underlying hu,h5,hb,hj.sizeRun],.pure _ _ (.nilsl _)⟩
  ·rename_i hx
   split at h
   ·obtain ⟨l,h,hl⟩:=lowK_eq h
    obtain ⟨hh,h,hh'⟩:=highK_eq h
    obtain ⟨⟨e1,e2⟩,hK⟩:=h.out
    subst e1;subst e2
    refine ⟨_,OpOk.of_pure fun a w ρ L hf he=>?_,hK⟩
    have hv:=he.eval x
    rw [hx] at hv
    obtain ⟨ad,hv⟩:=hv.nilsl_inv
    have hb:=run_bounds (P:=P) (w:=w) true 0 0 (hl _ _ _ _ he) (hh' _ _ _ _ he) (Int.le_refl _) (Int.le_refl _) (by simp) (Nat.le_refl _)
    exact ⟨.slice ad 0 0,by simp [execOp,ho,sliceAt_slice (T:=T) hu,Instr.slice,run_underlying hu,hv,hb,hj.sizeRun],.pure _ _ (.nilsl _)⟩
   ·rename_i m
    split at h<;>try exact h.elim
    rename_i hi
    obtain ⟨l,h,hl⟩:=lowK_eq h
    obtain ⟨hh,h,hh'⟩:=lowK_eq h
    obtain ⟨mm,h,hm'⟩:=lowK_eq h
    obtain ⟨⟨e1,e2,e3⟩,hK⟩:=h.out
    subst e1;subst e2;subst e3
    refine ⟨_,OpOk.of_pure fun a w ρ L hf he=>?_,hK⟩
    have hv:=he.eval x
    rw [hx] at hv
    obtain ⟨ad,hv⟩:=hv.nilsl_inv
    have h1:∃ k,a.eval hi= .int k 0:=by
     rcases hh' _ _ _ _ he with ⟨h,_⟩ | ⟨_,k,h1,h2⟩
     ·cases h
     ·cases h1;exact ⟨k,h2⟩
    have h2:∃ k,a.eval m= .int k 0:=by
     rcases hm' _ _ _ _ he with ⟨h,_⟩ | ⟨_,k,h1,h2⟩
     ·cases h
     ·cases h1;exact ⟨k,h2⟩
    have hb:=run_bounds0 (P:=P) (w:=w) 0 0 (hl _ _ _ _ he) h1 h2
    exact ⟨.slice ad 0 0,by simp [execOp,ho,sliceAt_slice (T:=T) hu,Instr.slice,run_underlying hu,hv,hb,hj.sizeRun],.pure _ _ (.nilsl _)⟩
  ·rename_i es k n off len hx
   split at h<;>try exact h.elim
   rename_i hes
   have hes:=Nat.eq_of_beq_eq_true hes
   subst hes
   split at h<;>try exact h.elim
   obtain ⟨l,h,hl⟩:=lowK_eq h
   obtain ⟨hh,h,hh'⟩:=highK_eq h
   obtain ⟨⟨h1,h2,h3⟩,hK⟩:=h.out
   refine ⟨_,OpOk.of_pure fun a w ρ L hf he=>?_,hK⟩
   have hv:=he.eval x
   rw [hx] at hv
   obtain ⟨ad,cap,h5,h4,⟨hlc,hnn⟩,h6⟩:=hv.osl_inv
   have hb:=run_bounds (P:=P) (w:=w) true len cap (hl _ _ _ _ he) (hh' _ _ _ _ he) h1 h2 h3 hlc
   refine ⟨.slice (if cap=l.toNat then ad else ad.map (·.add (l.toNat * j.size))) (hh.toNat - l.toNat) (cap - l.toNat),?_,?_⟩
   ·simp [execOp,ho,sliceAt_slice (T:=T) hu,Instr.slice,run_underlying hu,h5,hb,hj.sizeRun]
   ·refine .osl _ _ _ _ _ _ _ h4 ⟨by omega,fun h=>by
     split at h
     ·omega
     ·cases ad with
      | none=>have:=hnn rfl;omega
      | some x=>simp at h⟩ fun e' ds hds=>?_
    obtain ⟨h7,h8,h9⟩:=h6 _ _ hds
    refine ⟨h7,h8,fun hn=>?_⟩
    obtain ⟨h10,h11,h12⟩:=h9 hn
    refine ⟨?_,by rw [← h11];congr 1;omega,by omega⟩
    by_cases hc:cap=l.toNat
    ·exact .inl (by omega)
    ·rw [if_neg hc]
     rcases h10 with h | rfl | h
     ·omega
     ·exact .inr (.inl rfl)
     ·refine .inr (.inr ?_)
      rw [h,Option.map_some,addr_add,Nat.add_mul,Nat.add_assoc]
 ·rename_i n e hd
  have hu:=under_arr hi' hd
  split at h<;>try exact h.elim
  rename_i j hj
  have hj:=hT _ _ hj
  split at h<;>try exact h.elim
  rename_i hs1
  have hs1:=Nat.eq_of_beq_eq_true hs1
  split at h<;>try exact h.elim
  rename_i k o' hx
  split at h<;>try exact h.elim
  obtain ⟨l,h,hl⟩:=lowK_eq h
  obtain ⟨hh,h,hh'⟩:=highK_eq h
  obtain ⟨⟨h1,h2,h3⟩,h⟩:=h.out
  refine ⟨_,OpOk.of_pure fun a w ρ L hf he=>?_,h⟩
  have hv:=he.eval x
  rw [hx] at hv
  obtain ⟨ad,h4,hk,hm⟩:=hv.loc_inv
  have hz:(sizeOf e).run P w= .ok 1 w:=by rw [hj.sizeRun,hs1]
  have hr:=sliceArr_run (w:=w) (ad:=ad) hu (hl _ _ _ _ he) (hh' _ _ _ _ he) h1 h2 h3 hz
  refine ⟨slicedAt ad l.toNat hh.toNat n 1,by simp [execOp,ho,h4,hr],?_⟩
  unfold slicedAt
  refine .csl _ _ _ _ _ hk (by omega) fun ds hds hne=>?_
  rw [if_neg (by omega),hm ds hds,addr_add,Nat.mul_one,Nat.add_assoc]
def lenOp (T:Tab) (t:Nat) (x:D) (K:D→Prop):Prop:=
 match ty T t with
 | some i=>match i.d with
  | .str=>match x with
   | .str s=>K (.int .i64 s.length)
   | _=>False
  | .slice _=>match x with
   | .sl _ ds _=>VS (NormL ds fun _ n=>K (.int .i64 n))
   | .nilsl=>K (.int .i64 0)
   | .osl _ _ _ _ len=>K (.int .i64 len)
   | _=>False
  | .arr n _=>K (.int .i64 n)
  | _=>False
 | none=>False
theorem resolve_builtin {P:Program} {w:World} {ρ:Operand→Value} {b:Builtin} {args:Array Operand} {ts:Array TypeId} {type:TypeId} :
  (resolve ρ { callee:=.builtin b,args:=args,argTypes:=ts } type).run P w =
    .ok { target:=.builtin b ts type (args.map fun | .const _=>true | _=>false),args:=args.map ρ } w:=rfl
theorem exec_builtin {P:Program} {w w':World} {a:Act} {o:Oper} {b:Builtin} {args:Array Operand} {ts:Array TypeId} {n:Next}
  (ho:o.op= .call { callee:=.builtin b,args:=args,argTypes:=ts })
  (h:(builtin b ts o.type (args.map fun | .const _=>true | _=>false) (args.map a.eval)).run P w= .ok n w'):(execOp a.eval o).run P w= .ok n w':=by
 simp only [execOp,ho,Sem.run_bind,resolve_builtin,Result.andThen,invoke]
 exact h
theorem len_sound {P:Program} {T:Tab} (hT:TabOk P T) {t:Nat} {x:Operand} {σ:List (Nat×D)} {K:D→Prop} {o:Oper}
  (ho:o.op= .call { callee:=.builtin .len,args:=#[x],argTypes:=#[t] }) (h:lenOp T t (evalD σ x) K):∃ d,(∀ L,OpOk P o σ L d L)∧K d:=by
 unfold lenOp at h
 split at h<;>try exact h.elim
 rename_i i hi
 have hi:=hT _ _ hi
 split at h<;>try exact h.elim
 ·rename_i hd
  have hu:=under_str hi hd
  split at h<;>try exact h.elim
  rename_i s hx
  refine ⟨_,OpOk.of_pure fun a w ρ L hf he=>?_,h⟩
  have hv:=he.eval x
  rw [hx] at hv
  refine ⟨.int .i64 s.length,exec_builtin ho ?_,.pure _ _ (.int _ _)⟩
  simp [builtin,Builtin.len_,run_underlying hu,hv.str_inv,goInt,size_mk]
 ·rename_i e hd
  have hu:=under_slice hi hd
  split at h<;>try exact h.elim
  ·rename_i e' ds tok hx
   have h:=VS.out h
   unfold NormL at h
   refine ⟨_,OpOk.of_pure fun a w ρ L hf he=>?_,h⟩
   have hv:=he.eval x
   rw [hx] at hv
   refine ⟨.int .i64 ds.length,exec_builtin ho ?_,.pure _ _ (.int _ _)⟩
   rcases hv.sl_inv.sl_shape with ⟨h4,ad,h5⟩ | ⟨b,off,cap,h5,h4,h6,h7⟩
   ·simp [builtin,Builtin.len_,run_underlying hu,h4,h5,goInt]
   ·simp [builtin,Builtin.len_,run_underlying hu,h5,goInt]
  ·rename_i hx
   refine ⟨_,OpOk.of_pure fun a w ρ L hf he=>?_,h⟩
   have hv:=he.eval x
   rw [hx] at hv
   obtain ⟨ad,hv⟩:=hv.nilsl_inv
   refine ⟨.int .i64 0,exec_builtin ho ?_,.pure _ _ (.int _ _)⟩
   simp [builtin,Builtin.len_,run_underlying hu,hv,goInt]
  ·rename_i e' k n off len hx
   refine ⟨_,OpOk.of_pure fun a w ρ L hf he=>?_,h⟩
   have hv:=he.eval x
   rw [hx] at hv
   obtain ⟨ad,cap,hv,_⟩:=hv.osl_inv
   refine ⟨.int .i64 len,exec_builtin ho ?_,.pure _ _ (.int _ _)⟩
   simp [builtin,Builtin.len_,run_underlying hu,hv,goInt]
 ·rename_i n e hd
  have hu:=under_arr hi hd
  refine ⟨_,OpOk.of_pure fun a w ρ L hf he=>?_,h⟩
  refine ⟨.int .i64 n,exec_builtin ho ?_,.pure _ _ (.int _ _)⟩
  simp [builtin,Builtin.len_,run_underlying hu,goInt]
def minMaxK (isMax:Bool) (x y:D) (K:D→Prop):Prop:=
 match x with
 | .int k a=>match y with
  | .int _ b=>K (.int k (match isMax with | true=>max a b | false=>min a b))
  | _=>False
 | _=>False
theorem minMax_sound {P:Program} {isMax:Bool} {ts:Array TypeId} {x y:Operand} {σ:List (Nat×D)} {K:D→Prop} {o:Oper}
  (ho:o.op= .call { callee:=.builtin (match isMax with | true=>.max | false=>.min),args:=#[x,y],argTypes:=ts }) (h:minMaxK isMax (evalD σ x) (evalD σ y) K):∃ d,(∀ L,OpOk P o σ L d L)∧K d:=by
 unfold minMaxK at h
 split at h<;>try exact h.elim
 rename_i k a hx
 split at h<;>try exact h.elim
 rename_i k' b hy
 refine ⟨_,OpOk.of_pure fun act w ρ L hf he=>?_,h⟩
 have h1:=he.eval x
 have h2:=he.eval y
 rw [hx] at h1
 rw [hy] at h2
 refine ⟨_,exec_builtin ho ?_,.pure _ _ (.int _ _)⟩
 cases isMax
 ·simp only [builtin,Builtin.min_,h1.int_inv,h2.int_inv,List.map_toArray,List.map_cons,List.map_nil,List.foldlM_cons,List.foldlM_nil,Builtin.min2,Sem.run_bind]
  simp
  omega
 ·simp only [builtin,Builtin.max_,h1.int_inv,h2.int_inv,List.map_toArray,List.map_cons,List.map_nil,List.foldlM_cons,List.foldlM_nil,Builtin.max2,Sem.run_bind]
  simp
  omega
def evalLK (σ:List (Nat×D)):List Operand→(List D→Prop)→Prop
 | [],K=>K []
 | x::xs,K=>forceD (evalD σ x) fun d=>evalLK σ xs fun ds=>K (d::ds)
theorem evalLK_eq {σ:List (Nat×D)}:∀ {xs:List Operand} {K:List D→Prop},evalLK σ xs K→K (xs.map (evalD σ))
 | [],K,h=>by simpa [evalLK] using h
 | x::xs,K,h=>by
  simp only [evalLK] at h
  simpa using evalLK_eq (forceD_eq h)
def makeFuncK (fn:Fn) (first captured:List Operand) (σ:List (Nat×D)) (K:D→Prop):Prop:=
 match fn with
 | .func f=>match first with
  | []=>evalLK σ captured fun ds=>K (.fn f ds)
  | _=>False
 | _=>False
theorem Env.evalL {w:World} {ρ:Pl} {L:List Ob} {σ:List (Nat×D)} {a:Act} (h:Env w ρ L σ a) (xs:List Operand) :
  ∀ (i:Nat) d v,(xs.map (evalD σ))[i]?=some d→(xs.map a.eval)[i]?=some v→Rep w (foot ρ L) ρ L d v:=by
 intro i d v h1 h2
 simp only [List.getElem?_map,Option.map_eq_some_iff] at h1 h2
 obtain ⟨x,h3,rfl⟩:=h1
 obtain ⟨y,h4,rfl⟩:=h2
 rw [h3] at h4
 cases h4
 exact h.eval x
theorem makeFunc_sound {P:Program} {fn:Fn} {first captured:Array Operand} {σ:List (Nat×D)} {K:D→Prop} {o:Oper}
  (ho:o.op= .makeFunc fn first captured) (h:makeFuncK fn first.toList captured.toList σ K):∃ d,(∀ L,OpOk P o σ L d L)∧K d:=by
 unfold makeFuncK at h
 split at h<;>try exact h.elim
 rename_i f
 split at h<;>try exact h.elim
 rename_i hfirst
 refine ⟨_,OpOk.of_pure fun a w ρ L hf he=>?_,evalLK_eq h⟩
 have hfe:first= #[]:=by cases first;simp at hfirst;rw [hfirst]
 subst hfe
 refine ⟨.func (.func f) #[] (captured.toList.map a.eval).toArray,?_,.fn _ _ _ (by simp) (he.evalL _)⟩
 simp [execOp,ho,Instr.makeFunc]
 apply Array.ext'
 simp
theorem newRow_run {P:Program} {w:World} {e:TypeId} {cells:Array Value}:(newRow e cells).run P w= .ok ⟨w.heap.size,0,none⟩ (w.alloc (.cells cells e)):=by
 rfl
theorem newSl_rep {w:World} {ρ:Pl} {L:List Ob} (hf:Fits w ρ L) (arr:Array Value) (t:TypeId) (e:Nat) (els:List D) (cap:Nat) (hcap:els.length≤cap)
  (hlen:∀ (i:Nat) d,els[i]?=some d→d.cells.length=e)
  (hv:∀ (i:Nat) d (j:Nat) c,els[i]?=some d→d.cells[j]?=some c→∃ v,arr[i * e+j]?=some v∧RepP w (foot ρ L) c v∧v.oneCell'=true) :
  RepP (w.alloc (.cells arr t)) (foot ρ L) (.sl e els none) (.slice (some ⟨w.heap.size,0,none⟩) els.length cap):=by
 refine .sl _ _ _ _ _ (fun i j=>(arr[i * e+j]?).getD undef) hcap hlen (fun i d j c hi hj=>?_) (fun i d j c hi hj=>?_) fun i d j c hi hj=>?_
 ·obtain ⟨v,h1,h2,_⟩:=hv i d j c hi hj
  refine ⟨?_,fun hF=>by have:=hf.foot_lt hF;omega⟩
  rw [Nat.zero_add,World.cell?_alloc_new,h1]
  rfl
 ·obtain ⟨v,h1,_,h3⟩:=hv i d j c hi hj
  rw [h1]
  exact h3
 ·obtain ⟨v,h1,h2,_⟩:=hv i d j c hi hj
  rw [h1]
  exact h2.keep (Ext.alloc w _).grow (.refl _ _)
def oneD:D→Bool
 | .agg _=>false
 | .tup _=>false
 | .any=>false
 | _=>true
def allOne:List D→Bool
 | []=>true
 | d::ds=>match oneD d with
  | true=>allOne ds
  | false=>false
theorem oneD_cell {w:World} {F:Nat→Nat→Prop} {ρ:Pl} {L:List Ob} {d:D} {v:Value} (h:Rep w F ρ L d v) (hd:oneD d=true):v.oneCell'=true:=by
 cases h with
 | pure _ _ h=>cases h<;>first | rfl | simp [oneD] at hd
 | agg=>simp [oneD] at hd
 | tup=>simp [oneD] at hd
 | tok _ _ _ _ _ h _=>cases h<;>rfl
 | _=>rfl
theorem allOne_mem:∀ {ds:List D},allOne ds=true→∀ (j:Nat) d,ds[j]?=some d→oneD d=true
 | [],_,j,d,h=>by simp at h
 | c::ds,h,j,d,hj=>by
  simp only [allOne] at h
  split at h<;>try cases h
  cases j with
  | zero=>simp at hj;subst hj;assumption
  | succ j=>exact allOne_mem h j d (by simpa using hj)
def elemsK (es:Nat) (σ:List (Nat×D)):Nat→List (Nat×Operand)→(List D→Prop)→Prop
 | _,[],K=>K []
 | n,(i,x)::rest,K=>match Nat.beq i n with
  | true=>stripK (evalD σ x) fun d=>cellsK d fun cs=>match Nat.beq cs.length es with
   | true=>match allOne cs with
    | true=>elemsK es σ (n+1) rest fun ds=>K (d::ds)
    | false=>False
   | false=>False
  | false=>False
theorem elemsK_eq {es:Nat} {σ:List (Nat×D)}:∀ {ps:List (Nat×Operand)} {n:Nat} {K:List D→Prop},elemsK es σ n ps K →
  ∃ ds,K ds∧ds.length=ps.length∧∀ (i:Nat) p d,ps[i]?=some p→ds[i]?=some d→p.1=n+i∧d.cells.length=es∧d≠ .any∧PureOf (evalD σ p.2) d∧allOne d.cells=true
 | [],n,K,h=>⟨[],by simpa [elemsK] using h,rfl,by simp⟩
 | (i,x)::ps,n,K,h=>by
  simp only [elemsK] at h
  split at h<;>try exact h.elim
  rename_i hin
  have hin:=Nat.eq_of_beq_eq_true hin
  obtain ⟨d,h1,h2⟩:=stripK_eq h
  have hany:=cellsK_any h2
  have h2:=cellsK_eq h2
  split at h2<;>try exact h2.elim
  rename_i hl
  have hl:=Nat.eq_of_beq_eq_true hl
  split at h2<;>try exact h2.elim
  rename_i hone
  obtain ⟨ds,h3,h4,h5⟩:=elemsK_eq h2
  refine ⟨d::ds,h3,by simp [h4],fun q p d' hp hd=>?_⟩
  cases q with
  | zero=>
   simp at hp hd
   subst hp;subst hd
   exact ⟨hin,hl,hany,h1,hone⟩
  | succ q=>
   obtain ⟨h6,h7⟩:=h5 q p d' (by simpa using hp) (by simpa using hd)
   exact ⟨by omega,h7⟩
def buildSliceOp (T:Tab) (t len:Nat) (ps:List (Nat×Operand)) (σ:List (Nat×D)) (K:D→Prop):Prop:=
 match ty T t with
 | some i=>match i.d with
  | .slice e=>match ty T e with
   | some j=>match len with
    | 0=>match ps with
     | []=>K .nilsl
     | _=>False
    | len+1=>match Nat.beq ps.length (len+1) with
     | true=>match Nat.ble ((len+1) * j.size) 16777216 with
      | true=>elemsK j.size σ 0 ps fun ds=>K (.sl j.size ds none)
      | false=>False
     | false=>False
   | none=>False
  | _=>False
 | none=>False
theorem fill_rows (e:Nat) (he:0 < e):∀ (vs:List Value) (n:Nat) (cells:List Value),(∀ v∈vs,v.cells.size=e)→(n+vs.length) * e≤cells.length →
  ∃ cs:List Value,Instr.fill (fun i=>some (i * e,e)) cells.toArray ((vs.zipIdx n).map fun p=>(p.2,p.1))=some cs.toArray∧cs.length=cells.length ∧
   (∀ (k:Nat),k < n * e→cs[k]?=cells[k]?)∧∀ (i:Nat) v (j:Nat),vs[i]?=some v→j < e→cs[(n+i) * e+j]?=v.cells[j]?
 | [],n,cells,h1,h2=>⟨cells,by simp [Instr.fill],rfl,fun _ _=>rfl,by simp⟩
 | v::vs,n,cells,h1,h2=>by
  have hv:v.cells.size=e:=h1 v (by simp)
  have hle:n * e+e≤cells.length:=by
   have:(n+(vs.length+1)) * e=n * e+vs.length * e+e:=by rw [← Nat.add_assoc,Nat.add_mul,Nat.add_mul,Nat.one_mul]
   simp only [List.length_cons] at h2
   omega
  obtain ⟨cs,h3,h4,h5,h6⟩:=fill_rows e he vs (n+1) (setAt (n * e) v.cells.toList cells) (fun u hu=>h1 u (by simp [hu])) (by
   rw [setAt_length];simp only [List.length_cons] at h2;rwa [show n+1+vs.length=n+(vs.length+1) by omega])
  refine ⟨cs,?_,by rw [h4,setAt_length],fun k hk=>?_,fun i u j hi hj=>?_⟩
  ·rw [List.zipIdx_cons,List.map_cons,fill_cons _ _ n v _ (n * e) e rfl hv (by simpa using hle)]
   exact h3
  ·rw [h5 k (by rw [Nat.add_mul];omega),setAt_get _ _ _ _ (by simp [hv];omega),if_neg (by omega)]
  ·cases i with
   | zero=>
    simp at hi
    subst hi
    rw [Nat.add_zero,h5 _ (by rw [Nat.add_mul];omega),setAt_get _ _ _ _ (by simp [hv];omega),if_pos (by simp [hv];omega),Nat.add_sub_cancel_left]
    simp
   | succ i=>
    rw [show n+(i+1)=n+1+i by omega]
    exact h6 i u j (by simpa using hi) hj
theorem pureOf_cells {w:World} {F:Nat→Nat→Prop} {ρ:Pl} {L:List Ob} {d d':D} {v:Value} (h:PureOf d d') (hr:Rep w F ρ L d v) (hany:d'≠ .any) :
  v.cells.size=d'.cells.length∧∀ (j:Nat) c u,d'.cells[j]?=some c→v.cells[j]?=some u→RepP w F c u:=by
 have hp:=h.2 _ _ _ _ _ hr
 cases d' with
 | any=>exact (hany rfl).elim
 | agg ds=>
  cases hp with
  | agg _ vs hl hh=>exact ⟨by simpa [Value.cells,D.cells] using hl,fun j c u h3 h4=>hh j c u h3 (by simpa [Value.cells] using h4)⟩
 | _=>
  have key:v.cells= #[v]:=by cases hp<;>rfl
  rw [key]
  refine ⟨rfl,fun j c u h3 h4=>?_⟩
  cases j with
  | zero=>simp [D.cells] at h3;simp at h4;subst h3;subst h4;exact hp
  | succ j=>simp [D.cells] at h3
theorem buildSlice_run {P:Program} {T:Tab} (hT:TabOk P T) {t len:Nat} {ps:Array (Nat×Operand)} {σ:List (Nat×D)} {K:D→Prop} {o:Oper}
  (ho:o.op= .buildSlice t len ps) (h:buildSliceOp T t len ps.toList σ K):∃ d,(∀ (L:List Ob) (a:Act) (w:World) (ρ:Pl),Fits w ρ L→Env w ρ L σ a →
    ∃ v w',(execOp a.eval o).run P w= .ok (.value v) w'∧Ext F0 w w'∧RepP w' (foot ρ L) d v∧(∃ ad,v= .slice (some ad) len len)∧∀ e ds,d= .sl e ds none→∃ row t',v= .slice (some ⟨w.heap.size,0,none⟩) ds.length ds.length∧w'=w.alloc (.cells row t') ∧
     row.size=ds.length * e∧(∀ (i:Nat) x,ds[i]?=some x→x.cells.length=e)∧∀ (i:Nat) x (j:Nat) c,ds[i]?=some x→x.cells[j]?=some c→∃ u,row[i * e+j]?=some u∧RepP w (foot ρ L) c u)∧K d∧(d= .nilsl∨∃ e ds,d= .sl e ds none∧ds.length=len):=by
 unfold buildSliceOp at h
 split at h<;>try exact h.elim
 rename_i i hi
 have hi:=hT _ _ hi
 split at h<;>try exact h.elim
 rename_i e hd
 have hu:=under_slice hi hd
 split at h<;>try exact h.elim
 rename_i j hj
 have hj:=hT _ _ hj
 split at h
 ·split at h<;>try exact h.elim
  rename_i hps
  refine ⟨_,fun L a w ρ hf he=>?_,h,.inl rfl⟩
  have hps:ps= #[]:=by cases ps;simp at hps;rw [hps]
  subst hps
  refine ⟨.slice (some ⟨w.heap.size,0,none⟩) 0 0,w.alloc (.cells #[] e),?_,Ext.alloc _ _,.nilsl _,⟨_,rfl⟩,fun e ds h=>by cases h⟩
  have hb:(Instr.buildSlice t 0 #[]).run P w= .ok (.slice (some ⟨w.heap.size,0,none⟩) 0 0) (w.alloc (.cells #[] e)):=by
   simp [Instr.buildSlice,run_underlying hu,hj.sizeRun,Instr.fill,newRow_run]
   congr 2
   apply Array.ext'
   simp
  simp [execOp,ho,hb]
 ·rename_i len
  split at h<;>try exact h.elim
  rename_i hl
  have hl:=Nat.eq_of_beq_eq_true hl
  split at h<;>try exact h.elim
  rename_i hb
  have hb:=Nat.le_of_ble_eq_true hb
  obtain ⟨ds,h1,h2,h3⟩:=elemsK_eq h
  refine ⟨_,fun L a w ρ hf he=>?_,h1,.inr ⟨_,_,rfl,h2.trans hl⟩⟩
  have hp:(ps.map fun (i,x)=>(i,a.eval x)).toList=((ps.toList.map fun p=>a.eval p.2).zipIdx 0).map fun p=>(p.2,p.1):=by
   apply List.ext_getElem?
   intro n
   simp only [Array.toList_map,List.getElem?_map,List.getElem?_zipIdx]
   cases hn:ps.toList[n]? with
   | none=>simp
   | some p=>
    have hlt:n < ds.length:=by rw [h2];exact (List.getElem?_eq_some_iff.1 hn).1
    obtain ⟨h4,_⟩:=h3 n p ds[n] hn (List.getElem?_eq_getElem hlt)
    simp [h4]
  have hz:i.zero=i.zero:=rfl
  obtain ⟨cs,h4,h5,h6,h7⟩:=fill_rows j.size (Nat.pos_of_ne_zero hj.pos) (ps.toList.map fun p=>a.eval p.2) 0 ((Array.range ((len+1) * j.size)).map (j.zero.cells[· % j.zero.cells.size]!)).toList (fun v hv=>by
    obtain ⟨p,hp1,rfl⟩:=List.mem_map.1 hv
    obtain ⟨n,hn⟩:=List.getElem?_of_mem hp1
    have hlt:n < ds.length:=by rw [h2];exact (List.getElem?_eq_some_iff.1 hn).1
    obtain ⟨_,h8,h9,h10,_⟩:=h3 n p ds[n] hn (List.getElem?_eq_getElem hlt)
    rw [(pureOf_cells h10 (he.eval p.2) h9).1,h8]) (by simp [← hl])
  refine ⟨.slice (some ⟨w.heap.size,0,none⟩) (len+1) (len+1),w.alloc (.cells cs.toArray e),?_,Ext.alloc _ _,?_,⟨_,rfl⟩,fun e' ds' hd'=>?_⟩
  ·have:¬ ((len+1) * j.size > 2 ^ 24):=by omega
   have h0:¬ (len+1) * j.size=0:=by
    have:=hj.pos
    intro h
    rcases Nat.mul_eq_zero.1 h with h | h<;>omega
   have hb:(Instr.buildSlice t (len+1) (ps.map fun (i,x)=>(i,a.eval x))).run P w= .ok (.slice (some ⟨w.heap.size,0,none⟩) (len+1) (len+1)) (w.alloc (.cells cs.toArray e)):=by
    simp only [Instr.buildSlice,Sem.run_bind,run_underlying hu,hj.sizeRun,Result.andThen,if_neg this,if_neg h0,hj.zeroRun,hp]
    have h4':=h4
    simp only [Array.toArray_toList] at h4'
    simp only [Sem.run_bind,hj.zeroRun,Result.andThen,Sem.run_pure]
    rw [h4']
    simp only [Sem.run_bind,newRow_run,Result.andThen,Sem.run_pure]
   simp [execOp,ho,hb]
  ·have hlen:ds.length=len+1:=by rw [h2];exact hl
   rw [← hlen]
   refine newSl_rep hf _ _ _ _ _ (Nat.le_refl _) (fun q d hq=>?_) fun q d k c hq hk=>?_
   all_goals
    have hlt:q < ps.toList.length:=by rw [← h2];exact (List.getElem?_eq_some_iff.1 hq).1
    obtain ⟨_,h8,h9,h10,h13⟩:=h3 q _ d (List.getElem?_eq_getElem hlt) hq
   ·exact h8
   ·obtain ⟨h11,h12⟩:=pureOf_cells h10 (he.eval _) h9
    have hk':k < j.size:=by rw [← h8];exact (List.getElem?_eq_some_iff.1 hk).1
    have hk2:k < (a.eval ps.toList[q].2).cells.size:=by rw [h11];exact (List.getElem?_eq_some_iff.1 hk).1
    have:=h7 q (a.eval ps.toList[q].2) k (by simp [List.getElem?_eq_getElem hlt]) hk'
    refine ⟨(a.eval ps.toList[q].2).cells[k],?_,h12 k c _ hk (Array.getElem?_eq_getElem hk2),oneD_cell (.pure (ρ:=ρ) (L:=L) _ _ (h12 k c _ hk (Array.getElem?_eq_getElem hk2))) (allOne_mem h13 k c hk)⟩
    rw [Nat.zero_add] at this
    simp [this,hk2]
  ·cases hd'
   have hlen:ds.length=len+1:=by rw [h2];exact hl
   refine ⟨cs.toArray,e,by rw [hlen],rfl,by simp [h5,hlen],fun q d hq=>?_,fun q d k c hq hk=>?_⟩
   all_goals
    have hlt:q < ps.toList.length:=by rw [← h2];exact (List.getElem?_eq_some_iff.1 hq).1
    obtain ⟨_,h8,h9,h10,h13⟩:=h3 q _ d (List.getElem?_eq_getElem hlt) hq
   ·exact h8
   ·obtain ⟨h11,h12⟩:=pureOf_cells h10 (he.eval _) h9
    have hk':k < j.size:=by rw [← h8];exact (List.getElem?_eq_some_iff.1 hk).1
    have hk2:k < (a.eval ps.toList[q].2).cells.size:=by rw [h11];exact (List.getElem?_eq_some_iff.1 hk).1
    have:=h7 q (a.eval ps.toList[q].2) k (by simp [List.getElem?_eq_getElem hlt]) hk'
    refine ⟨(a.eval ps.toList[q].2).cells[k],?_,h12 k c _ hk (Array.getElem?_eq_getElem hk2)⟩
    rw [Nat.zero_add] at this
    simp [this,hk2]
theorem buildSlice_sound {P:Program} {T:Tab} (hT:TabOk P T) {t len:Nat} {ps:Array (Nat×Operand)} {σ:List (Nat×D)} {K:D→Prop} {o:Oper}
  (ho:o.op= .buildSlice t len ps) (h:buildSliceOp T t len ps.toList σ K):∃ d,(∀ L,OpOk P o σ L d L)∧K d:=by
 obtain ⟨d,h1,h2,_⟩:=buildSlice_run hT ho h
 refine ⟨d,fun L=>OpOk.of_val fun a w ρ hf he=>?_,h2⟩
 obtain ⟨v,w',h3,h4,h5,_⟩:=h1 L a w ρ hf he
 exact ⟨v,w',ρ,h3,.grow hf h4 (.pure _ _ h5)⟩
theorem made_get (zero:Array Value) (n k:Nat) (hz:zero.size≠0) (hk:k < n):((Array.range n).map (zero[· % zero.size]!))[k]?=zero[k % zero.size]?:=by
 have:k % zero.size < zero.size:=Nat.mod_lt _ (by omega)
 simp [hk,this]
def makeSliceOp (T:Tab) (t:Nat) (x y:D) (K:D→Prop):Prop:=
 match ty T t with
 | some i=>match i.d with
  | .slice e=>match ty T e with
   | some j=>match x with
    | .int .i64 n=>match y with
     | .int .i64 c=>match zeroD j.zero with
      | .any=>False
      | _=>match allOne (zeroD j.zero).cells with
       | false=>False
       | true=>VS (SideS (0≤n∧n=c∧n * j.bytes≤140737488355328∧n≤140737488355328) (VS (NormL (List.replicate n.toNat (zeroD j.zero)) fun r _=>K (.sl j.size r none))))
     | _=>False
    | _=>False
   | none=>False
  | _=>False
 | none=>False
theorem repl_get {α:Type} {n i:Nat} {a d:α} (h:(List.replicate n a)[i]?=some d):i < n∧a=d:=by
 rw [List.getElem?_replicate] at h
 split at h
 ·rename_i hlt;exact ⟨hlt,by cases h;rfl⟩
 ·cases h
theorem zeroD_cells {w:World} {F:Nat→Nat→Prop} {v:Value} (h:zeroD v≠ .any):(zeroD v).cells.length=v.cells.size ∧
  ∀ (j:Nat) c,(zeroD v).cells[j]?=some c→∃ u,v.cells[j]?=some u∧RepP w F c u:=by
 have hp:=zeroD_rep w F v
 generalize zeroD v=d at *
 cases hp with
 | any=>exact (h rfl).elim
 | agg ds vs hl hh=>
  refine ⟨by simpa [Value.cells,D.cells] using hl.symm,fun j c hj=>?_⟩
  have hlt:j < vs.length:=by rw [hl];exact (List.getElem?_eq_some_iff.1 hj).1
  exact ⟨vs[j],by simp [Value.cells,hlt],hh j c _ hj (List.getElem?_eq_getElem hlt)⟩
 | _=>
  refine ⟨rfl,fun j c hj=>?_⟩
  cases j with
  | zero=>
   simp [D.cells] at hj
   subst hj
   refine ⟨_,rfl,?_⟩
   constructor<;>assumption
  | succ j=>simp [D.cells] at hj
theorem makeSlice_sound {P:Program} {T:Tab} (hT:TabOk P T) {t:Nat} {x y:Operand} {σ:List (Nat×D)} {K:D→Prop} {o:Oper}
  (ho:o.op= .makeSlice t x y) (h:makeSliceOp T t (evalD σ x) (evalD σ y) K):∃ d,(∀ L,OpOk P o σ L d L)∧K d:=by
 unfold makeSliceOp at h
 split at h<;>try exact h.elim
 rename_i i hi
 have hi:=hT _ _ hi
 split at h<;>try exact h.elim
 rename_i e hd
 have hu:=under_slice hi hd
 split at h<;>try exact h.elim
 rename_i j hj
 have hj:=hT _ _ hj
 split at h<;>try exact h.elim
 rename_i n hx
 split at h<;>try exact h.elim
 rename_i c hy
 have hany:zeroD j.zero≠ .any:=by
  intro he
  rw [he] at h
  exact h
 have hone:allOne (zeroD j.zero).cells=true:=by
  split at h
  ·exact h.elim
  ·split at h
   ·exact h.elim
   ·assumption
 have h:VS (SideS (0≤n∧n=c∧n * j.bytes≤140737488355328∧n≤140737488355328) (K (.sl j.size (List.replicate n.toNat (zeroD j.zero)) none))):=by
  split at h
  ·exact h.elim
  ·split at h
   ·exact h.elim
   ·obtain ⟨h1,h2⟩:=h.out
    exact ⟨h1,VS.out h2⟩
 obtain ⟨⟨h0,h1,h2,h63⟩,hK⟩:=h.out
 subst h1
 obtain ⟨xi,h3,h4,h5,h6⟩:=hj.info
 ·refine ⟨_,fun L=>OpOk.of_val fun a w ρ hf he=>?_,hK⟩
  have hv:=he.eval x
  have hw:=he.eval y
  rw [hx] at hv
  rw [hy] at hw
  have hr:=run_make (P:=P) w t e xi j.zero hu h3 h6 .i64 .i64 n n h0 (Int.le_refl _) (by rw [h5,Int.mul_comm];omega) (by omega)
  rw [h4] at hr
  refine ⟨.slice (some ⟨w.heap.size,0,none⟩) n.toNat n.toNat,w.alloc (.cells (madeCells j.zero.cells (n.toNat * j.size)) e),ρ,by simp [execOp,ho,hv.int_inv,hw.int_inv,hr],?_⟩
  refine .grow hf (Ext.alloc _ _) (.pure _ _ ?_)
  obtain ⟨h7,h8⟩:=zeroD_cells (w:=w) (F:=foot ρ L) hany
  rw [hj.szero] at h7
  have hlen:(List.replicate n.toNat (zeroD j.zero)).length=n.toNat:=by simp
  have key:=newSl_rep hf (madeCells j.zero.cells (n.toNat * j.size)) e j.size (List.replicate n.toNat (zeroD j.zero)) n.toNat (by simp) (fun q d hq=>by
    obtain ⟨_,rfl⟩:=repl_get hq
    exact h7) (fun q d k c hq hk=>by
    obtain ⟨hlt,rfl⟩:=repl_get hq
    obtain ⟨u,h9,h10⟩:=h8 k c hk
    refine ⟨u,?_,h10,oneD_cell (.pure (ρ:=ρ) (L:=L) _ _ h10) (allOne_mem hone k c hk)⟩
    have hk':k < j.size:=by rw [← h7];exact (List.getElem?_eq_some_iff.1 hk).1
    have hb:q * j.size+k < n.toNat * j.size:=by
     have:(q+1) * j.size≤n.toNat * j.size:=Nat.mul_le_mul_right _ hlt
     rw [Nat.add_mul] at this
     omega
    unfold madeCells
    rw [made_get _ _ _ (by rw [hj.szero];exact hj.pos) hb,hj.szero,Nat.mul_comm,Nat.mul_add_mod,Nat.mod_eq_of_lt hk']
    exact h9)
  rwa [hlen] at key
theorem Fits.change {w w':World} {ρ ρ':Pl} {L L':List Ob} (hf:Fits w ρ L) (F:Nat→Nat→Prop) (hF:∀ b off,F b off→own ρ L b off)
  (he:Ext F w w') (hc:Compat ρ L ρ' L') (hfo:Fresh w (own ρ L) (own ρ' L'))
  (hdisj:∀ (k k':Nat) (o o':Ob) (b off:Nat),L'[k]?=some o→L'[k']?=some o'→o.owns (ρ' k) b off→o'.owns (ρ' k') b off→k=k')
  (h:∀ (k:Nat) o,L'[k]?=some o→(k < L.length∧L[k]?=some o∧ρ' k=ρ k∧∀ b off,o.owns (ρ k) b off→¬ F b off)∨ObFits w' (foot ρ' L') ρ' L' (ρ' k) o) :
  Fits w' ρ' L' where
 glob:=hf.glob.keep (he.mono fun b off _ h=>.inl (hF b off h)) (hfo.foot hc.hid)
 hid b off h:=by rw [hc.hid] at h;exact Nat.lt_of_lt_of_le (hf.hid b off h) he.size
 sep b off h hh:=by
  rw [hc.hid] at hh
  rcases hfo b off h with h | h
  ·exact hf.sep b off h hh
  ·have:=hf.hid b off hh
   omega
 disj:=hdisj
 obj k o hk:=by
  refine (h k o hk).elim ?_ id
  rintro ⟨hlt,h1,h2,h3⟩
  have hfr:=hfo.foot hc.hid
  have he':Ext (foot ρ L) w w':=he.mono fun b off _ h=>.inl (hF b off h)
  have hob:=hf.obj k o h1
  rw [h2]
  have kr:∀ {d v},Rep w (foot ρ L) ρ L d v→Rep w' (foot ρ' L') ρ' L' d v:=fun h=>h.keep he' hfr hc
  have kp:∀ {d v},RepP w (foot ρ L) d v→RepP w' (foot ρ' L') d v:=fun h=>h.keep he' hfr
  have kc:∀ {off v},o.owns (ρ k) (ρ k).block off→w.cell? ⟨(ρ k).block,off,none⟩=some v→w'.cell? ⟨(ρ k).block,off,none⟩=some v:=
   fun ho h=>(he.cell _ _ (cell_lt h) (h3 _ _ ho)).trans h
  have kz:∀ {off v},o.owns (ρ k) (ρ k).block off→w.cell? ⟨(ρ k).block,off,none⟩=some v→Soft w (ρ k).block off→Soft w' (ρ k).block off:=
   fun ho hb h=>he.frozen _ _ _ (h3 _ _ ho) hb h
  cases o with
  | cells ds=>
   refine ⟨hob.1,fun j d hj=>?_⟩
   obtain ⟨⟨v,h4,h5⟩,h6⟩:=hob.2 j d hj
   have hlt:j < ds.length:=(List.getElem?_eq_some_iff.1 hj).1
   have ho:Ob.owns (.cells ds) (ρ k) (ρ k).block ((ρ k).off+j):=⟨rfl,by omega,by rw [hob.1];omega⟩
   exact ⟨⟨v,kc ho h4,kr h5⟩,kz ho h4 h6⟩
  | arr e ds=>
   obtain ⟨h4,h5,h6,h7⟩:=hob
   have hown:∀ j,j < (ρ k).cap→Ob.owns (.arr e ds) (ρ k) (ρ k).block ((ρ k).off+j):=fun j hj=>⟨rfl,by omega,by omega⟩
   refine ⟨h4,h5,fun i d j c hi hj=>?_,fun j hj=>?_⟩
   ·obtain ⟨v,h8,h9⟩:=h6 i d j c hi hj
    have hil:i < ds.length:=(List.getElem?_eq_some_iff.1 hi).1
    have hjl:j < e:=by rw [← h5 i d hi];exact (List.getElem?_eq_some_iff.1 hj).1
    have:i * e+e≤ds.length * e:=by
     have:=Nat.mul_le_mul_right e hil
     rwa [Nat.succ_mul] at this
    exact ⟨v,kc (hown _ (by omega)) h8,kr h9⟩
   ·obtain ⟨⟨v,h8⟩,h9⟩:=h7 j hj
    exact ⟨⟨v,kc (hown j hj) h8⟩,kz (hown j hj) h8 h9⟩
  | spare n=>
   intro j hj
   obtain ⟨⟨v,h8⟩,h9⟩:=hob j hj
   have hown:Ob.owns (.spare n) (ρ k) (ρ k).block ((ρ k).off+j):=⟨rfl,by omega,by omega⟩
   exact ⟨⟨v,kc hown h8⟩,kz hown h8 h9⟩
  | map es=>
   obtain ⟨ents,clock,h4,h5,h6⟩:=hob
   refine ⟨ents,clock,?_,h5,fun i p m hi hm=>⟨kp (h6 i p m hi hm).1,kr (h6 i p m hi hm).2⟩⟩
   have hb:(ρ k).block < w.heap.size:=by
    rcases Nat.lt_or_ge (ρ k).block w.heap.size with h | h
    ·exact h
    ·rw [Array.getElem?_eq_none h] at h4;cases h4
   exact (he.block _ hb fun off hoff=>h3 _ off rfl hoff).trans h4
  | dead=>trivial
def upd (ρ:Pl) (k:Nat) (l:Loc):Pl:={ ρ with place:=fun j=>if j=k then l else ρ j }
theorem upd_same (ρ:Pl) (k:Nat) (l:Loc):upd ρ k l k=l:=by simp [upd]
theorem upd_ne {ρ:Pl} {k j:Nat} {l:Loc} (h:j≠k):upd ρ k l j=ρ j:=by simp [upd,h]
theorem snoc_get {α:Type} {L:List α} {o x:α} {k:Nat} (h:(L++[o])[k]?=some x):(k < L.length∧L[k]?=some x)∨(k=L.length∧o=x):=by
 rcases Nat.lt_trichotomy k L.length with h1 | h1 | h1
 ·rw [List.getElem?_append_left h1] at h;exact .inl ⟨h1,h⟩
 ·subst h1;simp at h;exact .inr ⟨rfl,h⟩
 ·rw [List.getElem?_eq_none (by simp;omega)] at h;cases h
theorem Compat.snoc (ρ:Pl) (L:List Ob) (o:Ob) (l:Loc):Compat ρ L (upd ρ L.length l) (L++[o]) where
 hid:=rfl
 len:=by simp
 cells k ds hk h:=⟨ds,by rwa [List.getElem?_append_left hk] at h,upd_ne (by omega)⟩
 map k ds hk h:=⟨ds,by rwa [List.getElem?_append_left hk] at h,upd_ne (by omega)⟩
 spare k n hk h:=⟨n,by rwa [List.getElem?_append_left hk] at h,Nat.le_refl _,fun _=>upd_ne (by omega)⟩
 arr k e ds hk h:=⟨ds,by rwa [List.getElem?_append_left hk] at h,Nat.le_refl _,fun _=>upd_ne (by omega)⟩
theorem own_snoc {ρ:Pl} {L:List Ob} {o:Ob} {l:Loc} {b off:Nat} (h:own (upd ρ L.length l) (L++[o]) b off):own ρ L b off∨o.owns l b off:=by
 obtain ⟨k,x,h1,h2⟩:=h
 rcases snoc_get h1 with ⟨h3,h4⟩ | ⟨h3,h4⟩
 ·rw [upd_ne (by omega)] at h2
  exact .inl ⟨k,x,h4,h2⟩
 ·subst h3;subst h4
  rw [upd_same] at h2
  exact .inr h2
theorem foot_snoc {ρ:Pl} {L:List Ob} {o:Ob} {l:Loc} {b off:Nat} (h:foot (upd ρ L.length l) (L++[o]) b off):foot ρ L b off∨o.owns l b off:=by
 rcases h with ⟨k,x,h1,h2⟩ | h
 ·rcases snoc_get h1 with ⟨h3,h4⟩ | ⟨h3,h4⟩
  ·rw [upd_ne (by omega)] at h2
   exact .inl (.inl ⟨k,x,h4,h2⟩)
  ·subst h3;subst h4
   rw [upd_same] at h2
   exact .inr h2
 ·exact .inl (.inr h)
theorem Fits.snoc {w w':World} {ρ:Pl} {L:List Ob} (hf:Fits w ρ L) (he:Ext F0 w w') {o:Ob} {l:Loc} (hown:∀ b off,o.owns l b off→w.heap.size≤b)
  (ho:ObFits w' (foot (upd ρ L.length l) (L++[o])) (upd ρ L.length l) (L++[o]) l o) :
  Fits w' (upd ρ L.length l) (L++[o])∧Fresh w (own ρ L) (own (upd ρ L.length l) (L++[o])):=by
 have hfr:Fresh w (own ρ L) (own (upd ρ L.length l) (L++[o])):=fun b off h=>(own_snoc h).imp id (hown b off)
 refine ⟨hf.change F0 (fun _ _ f=>f.elim) he (.snoc _ _ _ _) hfr (fun k k' x x' b off h1 h2 h3 h4=>?_) fun k x hk=>?_,hfr⟩
 ·rcases snoc_get h1 with ⟨h5,h6⟩ | ⟨h5,h6⟩<;>rcases snoc_get h2 with ⟨h7,h8⟩ | ⟨h7,h8⟩
  ·rw [upd_ne (by omega)] at h3 h4
   exact hf.disj _ _ _ _ _ _ h6 h8 h3 h4
  ·subst h7;subst h8
   rw [upd_ne (by omega)] at h3
   rw [upd_same] at h4
   have:=hf.foot_lt (.inl ⟨k,x,h6,h3⟩)
   have:=hown _ _ h4
   omega
  ·subst h5;subst h6
   rw [upd_ne (by omega)] at h4
   rw [upd_same] at h3
   have:=hf.foot_lt (.inl ⟨k',x',h8,h4⟩)
   have:=hown _ _ h3
   omega
  ·omega
 ·rcases snoc_get hk with ⟨h5,h6⟩ | ⟨h5,h6⟩
  ·exact .inl ⟨h5,h6,upd_ne (by omega),fun _ _ _ f=>f⟩
  ·subst h5;subst h6
   rw [upd_same]
   exact .inr ho
theorem newCells_post {w:World} {ρ:Pl} {L:List Ob} (hf:Fits w ρ L) (t:TypeId) (cs:List D) (vs:Array Value) (hl:vs.toList.length=cs.length)
  (hv:∀ (j:Nat) c u,cs[j]?=some c→vs.toList[j]?=some u→Rep w (foot ρ L) ρ L c u) :
  Post w ρ L (.loc L.length 0) (L++[.cells cs]) (.pointer (some ⟨w.heap.size,0,none⟩)) (w.alloc (.cells vs t)) (upd ρ L.length ⟨w.heap.size,0,cs.length⟩):=by
 have hown:∀ b off,Ob.owns (.cells cs) ⟨w.heap.size,0,cs.length⟩ b off→w.heap.size≤b:=fun b off h=>by
  obtain ⟨rfl,_⟩:=h;exact Nat.le_refl _
 have hfr:Fresh w (foot ρ L) (foot (upd ρ L.length ⟨w.heap.size,0,cs.length⟩) (L++[.cells cs])):=fun b off h=>(foot_snoc h).imp id (hown b off)
 obtain ⟨h1,h2⟩:=hf.snoc (Ext.alloc w (.cells vs t)) (o:=.cells cs) (l:=⟨w.heap.size,0,cs.length⟩) hown ⟨rfl,fun j d hj=>by
  have hlt:j < vs.toList.length:=by rw [hl];exact (List.getElem?_eq_some_iff.1 hj).1
  refine ⟨⟨vs.toList[j],?_,(hv j d _ hj (List.getElem?_eq_getElem hlt)).keep (Ext.alloc w _).grow hfr (.snoc _ _ _ _)⟩,?_⟩
  ·rw [Nat.zero_add,World.cell?_alloc_new]
   simp at hlt
   simp [hlt]
  ·exact soft_alloc _ _ _ _⟩
 exact ⟨h1,.loc _ _ _ (by simp) fun ds hds=>by simp [upd_same],(Ext.alloc w _).grow,h2,.snoc _ _ _ _⟩
theorem newTag_post {w:World} {ρ:Pl} {L:List Ob} (hf:Fits w ρ L) (t:TypeId) (e:Nat) :
  ∃ ρ',Post w ρ L (.loc (L.length+1) 0) (L++[.arr 1 [],.cells [.tnil (L.length+1) t 2,.tosl e L.length 0]]) (.pointer (some ⟨w.heap.size,0,none⟩)) (w.alloc (.cells #[.pointer none,.slice none 0 0] t)) ρ':=by
 obtain ⟨a1,a2⟩:=hf.snoc (Ext.refl F0 w) (o:=.arr 1 []) (l:=⟨0,0,0⟩) (fun b off h=>by obtain ⟨_,h3,h4⟩:=h;exact absurd h4 (by show ¬ off < 0+0;omega)) ⟨by simp,by simp,by simp,fun j hj=>absurd hj (by show ¬ j < 0;omega)⟩
 have hs1:Compat ρ L (upd ρ L.length ⟨0,0,0⟩) (L++[Ob.arr 1 []]):=.snoc _ _ _ _
 have hp0:(upd ρ L.length ⟨0,0,0⟩) L.length=⟨0,0,0⟩:=upd_same _ _ _
 have hl1:(L++[Ob.arr 1 []]).length=L.length+1:=by simp
 have hget:(L++[Ob.arr 1 []])[L.length]?=some (.arr 1 []):=by simp
 rw [show L++[Ob.arr 1 [],.cells [.tnil (L.length+1) t 2,.tosl e L.length 0]]=(L++[Ob.arr 1 []])++[.cells [.tnil (L.length+1) t 2,.tosl e L.length 0]] by simp,← hl1]
 have hlt:L.length < (L++[Ob.arr 1 []]).length:=by omega
 generalize upd ρ L.length ⟨0,0,0⟩=ρ1 at *
 generalize L++[Ob.arr 1 []]=L1 at *
 generalize L.length=q at *
 have hown:∀ b off,Ob.owns (.cells [.tnil L1.length t 2,.tosl e q 0]) ⟨w.heap.size,0,2⟩ b off→w.heap.size≤b:=fun b off h=>by
  obtain ⟨rfl,_⟩:=h;exact Nat.le_refl _
 have hfr:Fresh w (foot ρ1 L1) (foot (upd ρ1 L1.length ⟨w.heap.size,0,2⟩) (L1++[.cells [.tnil L1.length t 2,.tosl e q 0]])):=fun b off h=>(foot_snoc h).imp id (hown b off)
 have hex:(w.alloc (.cells #[.pointer none,.slice none 0 0] t)).heap[w.heap.size]?=some (.cells #[.pointer none,.slice none 0 0] t):=by show (w.heap.push _)[w.heap.size]?=_;simp
 obtain ⟨h1,h2⟩:=a1.snoc (Ext.alloc w (.cells #[.pointer none,.slice none 0 0] t)) (o:=.cells [.tnil L1.length t 2,.tosl e q 0]) (l:=⟨w.heap.size,0,2⟩) hown ⟨rfl,fun j d hj=>by
  refine ⟨?_,soft_alloc _ _ _ _⟩
  rw [Nat.zero_add,World.cell?_alloc_new]
  match j,hj with
  | 0,hj=>
   cases hj
   refine ⟨_,rfl,.tnil _ _ _ (by simp) fun ds _=>⟨by rw [upd_same],?_⟩⟩
   rw [upd_same]
   unfold World.shape?
   rw [hex]
   rfl
  | 1,hj=>
   cases hj
   refine ⟨_,rfl,.tosl _ _ _ _ _ (by simp;omega) (Nat.le_refl _) fun e' ds hd=>?_⟩
   rw [List.getElem?_append_left hlt,hget] at hd
   cases hd
   refine ⟨rfl,Nat.le_refl _,fun _=>⟨?_,.inl ⟨rfl,rfl⟩⟩⟩
   rw [upd_ne (by omega),hp0]⟩
 refine ⟨_,h1,.loc _ _ _ (by simp) fun ds hds=>by simp [upd_same],(Ext.alloc w _).grow,fun b off h=>?_,hs1.trans (.snoc _ _ _ _)⟩
 rcases h2 b off h with h | h
 ·rcases a2 b off h with h | h
  ·exact .inl h
  ·exact .inr h
 ·exact .inr h
def bufK (T:Tab) (i:TI) (K:Nat→Prop):Prop:=
 match i.d with
 | .struct [_,(_,s)]=>match ty T s with
  | some j=>match j.d with
   | .slice e=>K e
   | _=>K 0
  | none=>K 0
 | _=>K 0
theorem bufK_eq {T:Tab} {i:TI} {K:Nat→Prop} (h:bufK T i K):∃ e,K e:=by
 unfold bufK at h
 split at h
 ·split at h
  ·split at h<;>exact ⟨_,h⟩
  ·exact ⟨_,h⟩
 ·exact ⟨_,h⟩
def allocOp (T:Tab) (t:Nat) (L:List Ob) (K:D→List Ob→Prop):Prop:=
 match ty T t with
 | some i=>match i.zero with
  | .agg ⟨[.pointer none,.slice none 0 0]⟩=>bufK T i fun e=>K (.loc (L.length+1) 0) (L++[.arr 1 [],.cells [.tnil (L.length+1) t 2,.tosl e L.length 0]])
  | _=>cellsK (zeroD i.zero) fun cs=>K (.loc L.length 0) (L++[.cells cs])
 | none=>False
theorem alloc_sound {P:Program} {T:Tab} (hT:TabOk P T) {t:Nat} {σ:List (Nat×D)} {L:List Ob} {K:D→List Ob→Prop} {o:Oper}
  (ho:o.op= .alloc t) (h:allocOp T t L K):∃ d L',OpOk P o σ L d L'∧K d L':=by
 unfold allocOp at h
 split at h<;>try exact h.elim
 rename_i i hi
 have hi:=hT _ _ hi
 split at h
 ·rename_i hz
  obtain ⟨e,h⟩:=bufK_eq h
  refine ⟨_,_,OpOk.of_val fun a w ρ hf he=>?_,h⟩
  obtain ⟨ρ',hp⟩:=newTag_post hf t e
  refine ⟨_,_,ρ',?_,hp⟩
  simp [execOp,ho,Instr.alloc,hi.zeroRun,newVar,newRow_run,hz,Value.cells]
 ·have hany:=cellsK_any h
  have h:=cellsK_eq h
  refine ⟨_,_,OpOk.of_val fun a w ρ hf he=>?_,h⟩
  obtain ⟨h1,h2⟩:=zeroD_cells (w:=w) (F:=foot ρ L) hany
  refine ⟨_,_,_,?_,newCells_post hf t _ i.zero.cells (by simpa using h1.symm) fun j c u hc hu=>?_⟩
  ·simp [execOp,ho,Instr.alloc,hi.zeroRun,newVar,newRow_run]
  ·obtain ⟨u',h3,h4⟩:=h2 j c hc
   simp only [Array.getElem?_toList] at hu
   rw [h3] at hu
   cases hu
   exact .pure _ _ h4
def boxOp (d:D) (L:List Ob) (K:D→List Ob→Prop):Prop:=cellsK d fun cs=>K (.loc L.length 0) (L++[.cells cs])
theorem box_sound {P:Program} {t:Nat} {x:Operand} {σ:List (Nat×D)} {L:List Ob} {K:D→List Ob→Prop} {o:Oper}
  (ho:o.op= .box t x) (h:boxOp (evalD σ x) L K):∃ d L',OpOk P o σ L d L'∧K d L':=by
 have hany:=cellsK_any h
 have h:=cellsK_eq h
 refine ⟨_,_,OpOk.of_val fun a w ρ hf he=>?_,h⟩
 obtain ⟨h1,h2⟩:=(he.eval x).cells_len hany
 refine ⟨_,_,_,?_,newCells_post hf t _ (a.eval x).cells h1 h2⟩
 simp [execOp,ho,Instr.box,newVar,newRow_run]
def loadCellsK (i:TI) (off:Nat) (ds:List D) (K:D→Prop):Prop:=
 match i.d.isAgg with
 | true=>dropK off ds fun r=>takeK i.size r fun r=>K (.agg r)
 | false=>nthK off ds fun c=>forceD c K
def loadOp (T:Tab) (t:Nat) (x:D) (L:List Ob) (K:D→Prop):Prop:=
 match ty T t with
 | some i=>match x with
  | .loc k off=>nthK k L fun o=>match o with
   | .cells ds=>loadCellsK i off ds K
   | _=>False
  | .aloc k n q off=>nthK k L fun o=>match o with
   | .arr e els=>VS (SideS (n=els.length) (VS (IdxS els (q:Int) fun d=>cellsK d fun ds=>loadCellsK i off ds K)))
   | _=>False
  | .cloc k off=>nthK k L fun o=>match o with
   | .cells ds=>match i.d.isAgg with
    | true=>False
    | false=>VS (IdxS ds (off:Int) fun c=>forceD c K)
   | _=>False
  | _=>False
 | none=>False
theorem loadCells_rep {P:Program} {t:Nat} {i:TI} (hi:TIOk P t i) {off:Nat} {ds:List D} {K:D→Prop} (h:loadCellsK i off ds K) :
  ∃ d,K d∧∀ (w:World) (F:Nat→Nat→Prop) (ρ:Pl) (L:List Ob) (b o:Nat),
   (∀ (j:Nat) c,ds[j]?=some c→∃ v,w.cell? ⟨b,o+j,none⟩=some v∧Rep w F ρ L c v) →
   ∃ u,(loadVar t ⟨b,o+off,none⟩).run P w= .ok u w∧Rep w F ρ L d u:=by
 have h0:=hi.pos
 unfold loadCellsK at h
 split at h
 ·rename_i hA
  obtain ⟨h1,h2⟩:=takeK_eq (dropK_eq h)
  refine ⟨_,h1,fun w F ρ L b o hr=>?_⟩
  simp at h2
  have hc:∀ j,j < i.size→w.cell? ⟨b,o+off+j,none⟩=some ((w.cell? ⟨b,o+off+j,none⟩).getD undef):=fun j hj=>by
   obtain ⟨v,h3,_⟩:=hr (off+j) ds[off+j] (List.getElem?_eq_getElem (by omega))
   rw [← Nat.add_assoc] at h3
   simp [h3]
  have:=run_loadVar_cells (P:=P) hi (w:=w) (b:=b) (off:=o+off) (fun j=>(w.cell? ⟨b,o+off+j,none⟩).getD undef) hc
  rw [hA] at this
  refine ⟨_,this,.agg _ _ (by simp;omega) fun j d u h3 h4=>?_⟩
  simp only [List.getElem?_map,Option.map_eq_some_iff] at h4
  obtain ⟨k,h7,h8⟩:=h4
  obtain ⟨h9,h10⟩:=List.getElem?_eq_some_iff.1 h7
  simp at h9 h10
  subst h10
  rw [List.getElem?_take,if_pos h9,List.getElem?_drop] at h3
  obtain ⟨v,h11,h12⟩:=hr _ _ h3
  rw [← Nat.add_assoc] at h11
  rw [h11] at h8
  simp at h8
  rw [← h8]
  exact h12
 ·rename_i hA
  obtain ⟨c,h1,h2⟩:=nthK_eq h
  refine ⟨c,forceD_eq h2,fun w F ρ L b o hr=>?_⟩
  obtain ⟨v,h3,h4⟩:=hr off c h1
  refine ⟨v,?_,h4⟩
  simp [loadVar,hi.aggRun,hA,run_load,h3]
theorem load_sound {P:Program} {T:Tab} (hT:TabOk P T) {t:Nat} {x:Operand} {σ:List (Nat×D)} {L:List Ob} {K:D→Prop} {o:Oper}
  (ho:o.op= .load t x) (h:loadOp T t (evalD σ x) L K):∃ d,OpOk P o σ L d L∧K d:=by
 unfold loadOp at h
 split at h<;>try exact h.elim
 rename_i i hi
 have hi:=hT _ _ hi
 split at h<;>try exact h.elim
 ·rename_i k off hx
  obtain ⟨ob,h1,h2⟩:=nthK_eq h
  split at h2<;>try exact h2.elim
  rename_i ds
  obtain ⟨d,h3,h4⟩:=loadCells_rep hi h2
  refine ⟨d,OpOk.of_val fun a w ρ hf he=>?_,h3⟩
  have hv:=he.eval x
  rw [hx] at hv
  obtain ⟨ad,h5,h6,h7⟩:=hv.loc_inv
  obtain ⟨h8,h9⟩:=hf.obj k _ h1
  obtain ⟨u,h10,h11⟩:=h4 w (foot ρ L) ρ L (ρ k).block (ρ k).off fun j c hj=>(h9 j c hj).1
  refine ⟨u,w,ρ,?_,.same hf h11⟩
  simp [execOp,ho,Instr.loadAt,h5,Instr.sureAddr,h7 _ h1,h10]
 ·rename_i k n q off hx
  obtain ⟨ob,h1,h2⟩:=nthK_eq h
  split at h2<;>try exact h2.elim
  rename_i e els
  obtain ⟨hn,h2⟩:=h2.out
  obtain ⟨_,el,hel,h2⟩:=h2.out
  simp only [Int.toNat_natCast] at hel
  have h2:=cellsK_eq h2
  obtain ⟨d,h3,h4⟩:=loadCells_rep hi h2
  refine ⟨d,OpOk.of_val fun a w ρ hf he=>?_,h3⟩
  have hv:=he.eval x
  rw [hx] at hv
  obtain ⟨ad,h5,h6,h7⟩:=hv.aloc_inv
  obtain ⟨_,h7⟩:=h7 _ _ h1
  have h7:=h7 hn.symm
  obtain ⟨_,_,h9,_⟩:=hf.obj k _ h1
  obtain ⟨u,h10,h11⟩:=h4 w (foot ρ L) ρ L (ρ k).block ((ρ k).off+q * e) fun j c hj=>by
   obtain ⟨v,h12,h13⟩:=h9 q el j c hel hj
   exact ⟨v,by rwa [← Nat.add_assoc] at h12,h13⟩
  refine ⟨u,w,ρ,?_,.same hf h11⟩
  rw [Nat.add_assoc] at h10
  simp [execOp,ho,Instr.loadAt,h5,Instr.sureAddr,h7,h10]
 ·rename_i k off hx
  obtain ⟨ob,h1,h2⟩:=nthK_eq h
  split at h2<;>try exact h2.elim
  rename_i ds
  split at h2<;>try exact h2.elim
  rename_i hA
  obtain ⟨_,c,hc,h2⟩:=h2.out
  simp only [Int.toNat_natCast] at hc
  refine ⟨c,OpOk.of_val fun a w ρ hf he=>?_,forceD_eq h2⟩
  have hv:=he.eval x
  rw [hx] at hv
  obtain ⟨ad,h5,h6,h7⟩:=hv.cloc_inv
  obtain ⟨h8,h9⟩:=hf.obj k _ h1
  obtain ⟨⟨u,h10,h11⟩,_⟩:=h9 off c hc
  refine ⟨u,w,ρ,?_,.same hf h11⟩
  simp [execOp,ho,Instr.loadAt,h5,Instr.sureAddr,h7 _ h1,loadVar,hi.aggRun,hA,run_load,h10]
theorem setCells_other (b:Nat):∀ (vs:List Value) (o:Nat) (w:World) (b' x:Nat),(b'=b→x < o∨o+vs.length≤x)→(w.setCells b o vs).cell? ⟨b',x,none⟩=w.cell? ⟨b',x,none⟩
 | [],_,_,_,_,_=>rfl
 | v::r,o,w,b',x,h=>by
  simp only [World.setCells]
  rw [setCells_other b r (o+1) _ b' x (fun e=>by have:=h e;simp at this;omega)]
  exact World.cell?_setCell_other _ _ _ _ (fun e=>by
   simp only [Addr.mk.injEq] at e
   have:=h e.1.symm
   simp at this
   omega)
theorem setCells_at (b:Nat):∀ (vs:List Value) (o:Nat) (w:World) (j:Nat),j < vs.length→(∀ k,k < vs.length→∃ u,w.cell? ⟨b,o+k,none⟩=some u) →
  (w.setCells b o vs).cell? ⟨b,o+j,none⟩=vs[j]?
 | [],_,_,j,h,_=>by simp at h
 | v::r,o,w,j,h,hc=>by
  simp only [World.setCells]
  cases j with
  | zero=>
   rw [setCells_other b r (o+1) _ b (o+0) (fun _=>by omega)]
   obtain ⟨u,hu⟩:=hc 0 (by simp)
   simp only [Nat.add_zero] at hu ⊢
   rw [World.cell?_setCell_same _ _ _ hu]
   rfl
  | succ j=>
   rw [show o+(j+1)=o+1+j by omega,setCells_at b r (o+1) _ j (by simpa using h) (fun k hk=>?_)]
   ·rfl
   ·obtain ⟨u,hu⟩:=hc (k+1) (by simp;omega)
    refine ⟨u,?_⟩
    rw [World.cell?_setCell_other _ _ _ _ (by simp),show o+1+k=o+(k+1) by omega];exact hu
theorem soft_setCell (w:World) (a:Addr) (v:Value) (b x:Nat):Soft (w.setCell a v) b x=Soft w b x:=by
 have key:∀ row t lo hi,(w.setCell a v).heap[b]?=some (.cells row t (lo,hi))↔∃ row',w.heap[b]?=some (.cells row' t (lo,hi))∧row=(if b=a.block then (if a.spot.isSome then row' else row'.setIfInBounds a.off v) else row'):=by
  intro row t lo hi
  show (w.heap.modify a.block _)[b]?=_↔_
  rw [Array.getElem?_modify]
  by_cases h:a.block=b
  ·subst h
   simp only [if_true]
   cases hg:w.heap[a.block]? with
   | none=>simp
   | some o=>
    cases o with
    | cells c e fr=>
     simp only [Option.map_some,Option.some.injEq,Obj.cells.injEq]
     constructor
     ·rintro ⟨h1,h2,h3⟩;exact ⟨c,⟨rfl,h2,h3⟩,h1.symm⟩
     ·rintro ⟨row',⟨h1,h2,h3⟩,h4⟩;subst h1;exact ⟨h4.symm,h2,h3⟩
    | _=>simp
  ·rw [if_neg h]
   have h':¬ b=a.block:=fun e=>h e.symm
   simp [h']
 have hc:Clean (w.setCell a v) b=Clean w b:=by
  apply propext
  constructor
  ·intro hc row t lo hi h
   have:=hc _ t lo hi ((key _ t lo hi).2 ⟨row,h,rfl⟩)
   split at this
   ·split at this<;>simpa using this
   ·exact this
  ·intro hc row t lo hi h
   obtain ⟨row',h1,h2⟩:=(key row t lo hi).1 h
   have:=hc row' t lo hi h1
   subst h2
   split
   ·split<;>simpa using this
   ·exact this
 unfold Soft
 rw [hc,World.frozen?_setCell]
theorem setCells_same (b:Nat):∀ (vs:List Value) (o:Nat) (w:World),(w.setCells b o vs).heap.size=w.heap.size∧(w.setCells b o vs).os=w.os∧(w.setCells b o vs).tape=w.tape ∧
  (w.setCells b o vs).output=w.output∧(∀ b' x,Soft (w.setCells b o vs) b' x=Soft w b' x)∧∀ k,k≠b→(w.setCells b o vs).heap[k]?=w.heap[k]?
 | [],_,_=>⟨rfl,rfl,rfl,rfl,fun _ _=>rfl,fun _ _=>rfl⟩
 | v::r,o,w=>by
  obtain ⟨h1,h2,h3,h4,h5,h6⟩:=setCells_same b r (o+1) (w.setCell ⟨b,o,none⟩ v)
  exact ⟨by rw [World.setCells,h1];simp,h2,h3,h4,fun b' x=>by rw [World.setCells,h5,soft_setCell],
   fun k hk=>by
    rw [World.setCells,h6 k hk]
    exact RowKit.Below.heap_setCell _ _ _ _ hk⟩
theorem shape_setCell {w:World} {b:Nat} {s:TypeId×Nat} (h:w.shape? b=some s) (a:Addr) (v:Value):(w.setCell a v).shape? b=some s:=by
 unfold World.shape? at h ⊢
 unfold World.setCell
 dsimp only
 rw [Array.getElem?_modify]
 by_cases hb:a.block=b
 ·rw [if_pos hb]
  split at h
  ·rename_i c e z hc
   rw [hc]
   dsimp only [Option.map]
   cases h
   split
   ·rfl
   ·rw [Array.size_setIfInBounds]
  ·cases h
 ·rw [if_neg hb]
  exact h
theorem shape_setCells (b:Nat) {k:Nat} {s:TypeId×Nat}:∀ (vs:List Value) (o:Nat) (w:World),w.shape? k=some s→(w.setCells b o vs).shape? k=some s
 | [],_,_,h=>h
 | v::r,o,w,h=>by
  rw [World.setCells]
  exact shape_setCells b r (o+1) _ (shape_setCell h _ _)
theorem Ext.setCells (w:World) (b o:Nat) (vs:List Value):Ext (fun b' x=>b'=b∧o≤x∧x < o+vs.length) w (w.setCells b o vs):=by
 obtain ⟨h1,h2,h3,h4,h5,h6⟩:=setCells_same b vs o w
 refine ⟨h2,h3,h4,by omega,fun k _ hk=>?_,fun k x _ hk=>?_,fun k x v _ _ hs=>(h5 k x).symm ▸ hs,fun k s hs=>shape_setCells b vs o w hs⟩
 ·by_cases hkb:k=b
  ·cases vs with
   | nil=>rfl
   | cons v vs=>exact (hk o ⟨hkb,Nat.le_refl _,by simp⟩).elim
  ·exact h6 k hkb
 ·exact setCells_other _ _ _ _ _ _ fun e=>by
   rcases Nat.lt_or_ge x o with h | h
   ·exact .inl h
   ·rcases Nat.lt_or_ge x (o+vs.length) with h' | h'
    ·exact (hk ⟨e,h,h'⟩).elim
    ·exact .inr h'
def putK:Nat→List D→List D→(List D→Prop)→Prop
 | 0,[],ds,K=>K ds
 | 0,_::_,[],_=>False
 | 0,c::cs,_::ds,K=>putK 0 cs ds fun r=>K (c::r)
 | _+1,_,[],_=>False
 | n+1,cs,d::ds,K=>putK n cs ds fun r=>K (d::r)
theorem putK_eq:∀ {n:Nat} {cs ds:List D} {K:List D→Prop},putK n cs ds K→∃ r,K r∧r.length=ds.length∧n+cs.length≤ds.length ∧
  ∀ k,r[k]?=if n≤k∧k < n+cs.length then cs[k - n]? else ds[k]?
 | 0,[],ds,K,h=>⟨ds,by simpa [putK] using h,rfl,by simp,fun k=>by simp⟩
 | 0,c::cs,[],K,h=>by simp [putK] at h
 | 0,c::cs,d::ds,K,h=>by
  simp only [putK] at h
  obtain ⟨r,h1,h2,h3,h4⟩:=putK_eq h
  refine ⟨c::r,h1,by simp [h2],by simp;omega,fun k=>?_⟩
  cases k with
  | zero=>simp
  | succ k=>
   have:=h4 k
   simp only [Nat.zero_le,true_and,Nat.zero_add,Nat.sub_zero] at this ⊢
   simp only [List.getElem?_cons_succ,this,List.length_cons]
   by_cases hk:k < cs.length
   ·rw [if_pos hk,if_pos (by omega)]
   ·rw [if_neg hk,if_neg (by omega)]
 | n+1,cs,[],K,h=>by cases cs<;>simp [putK] at h
 | n+1,cs,d::ds,K,h=>by
  have h:putK n cs ds fun r=>K (d::r):=by cases cs<;>simpa [putK] using h
  obtain ⟨r,h1,h2,h3,h4⟩:=putK_eq h
  refine ⟨d::r,h1,by simp [h2],by simp;omega,fun k=>?_⟩
  cases k with
  | zero=>simp
  | succ k=>
   simp only [List.getElem?_cons_succ,h4 k]
   by_cases hk:n≤k∧k < n+cs.length
   ·rw [if_pos hk,if_pos (by omega),show k+1 - (n+1)=k - n by omega]
   ·rw [if_neg hk,if_neg (by omega)]
def setLK:Nat→Ob→List Ob→(List Ob→Prop)→Prop
 | _,_,[],_=>False
 | 0,o,_::L,K=>K (o::L)
 | n+1,o,x::L,K=>setLK n o L fun r=>K (x::r)
theorem setLK_eq:∀ {n:Nat} {o:Ob} {L:List Ob} {K:List Ob→Prop},setLK n o L K→K (L.set n o)
 | n,o,[],K,h=>by cases n<;>simp [setLK] at h
 | 0,o,x::L,K,h=>by simpa [setLK] using h
 | n+1,o,x::L,K,h=>by
  simp only [setLK] at h
  simpa using setLK_eq h
theorem set_get {α:Type} {L:List α} {k j:Nat} {o x:α} (h:(L.set k o)[j]?=some x):(j=k∧x=o)∨(j≠k∧L[j]?=some x):=by
 by_cases hjk:j=k
 ·subst hjk
  rw [List.getElem?_set_self'] at h
  cases hL:L[j]? with
  | none=>simp [hL] at h
  | some y=>simp [hL] at h;exact .inl ⟨rfl,h.symm⟩
 ·rw [List.getElem?_set_ne (by omega)] at h
  exact .inr ⟨hjk,h⟩
theorem Fits.setObj {w w':World} {ρ:Pl} {L:List Ob} (hf:Fits w ρ L) {k:Nat} {o o':Ob} (hk:L[k]?=some o)
  (hsame:∀ b off,o'.owns (ρ k) b off↔o.owns (ρ k) b off)
  (hkind:(∃ ds ds',o= .cells ds∧o'= .cells ds')∨(∃ e ds ds',o= .arr e ds∧o'= .arr e ds'∧ds'.length=ds.length)∨(∃ es es',o= .map es∧o'= .map es'))
  (he:Ext (fun b off=>o.owns (ρ k) b off) w w') (ho:Compat ρ L ρ (L.set k o')→Fresh w (foot ρ L) (foot ρ (L.set k o'))→Ext (foot ρ L) w w'→ObFits w' (foot ρ (L.set k o')) ρ (L.set k o') (ρ k) o') :
  Fits w' ρ (L.set k o')∧Ext (own ρ L) w w'∧Fresh w (own ρ L) (own ρ (L.set k o'))∧Compat ρ L ρ (L.set k o'):=by
 have hc:Compat ρ L ρ (L.set k o'):=by
  refine ⟨rfl,by simp,fun j ds' hj h=>?_,fun j ds' hj h=>?_,fun j n hj h=>?_,fun j e ds' hj h=>?_⟩
  ·rcases set_get h with ⟨rfl,h1⟩ | ⟨_,h1⟩
   ·rcases hkind with ⟨ds,ds'',rfl,rfl⟩ | ⟨_,_,_,_,h2,_⟩ | ⟨_,_,_,h2⟩
    ·exact ⟨ds,hk,rfl⟩
    ·rw [h2] at h1;cases h1
    ·rw [h2] at h1;cases h1
   ·exact ⟨ds',h1,rfl⟩
  ·rcases set_get h with ⟨rfl,h1⟩ | ⟨_,h1⟩
   ·rcases hkind with ⟨ds,ds'',h2,h3⟩ | ⟨_,_,_,_,h2,_⟩ | ⟨es,_,h2,h3⟩
    ·rw [h3] at h1;cases h1
    ·rw [h2] at h1;cases h1
    ·exact ⟨es,by rw [← h2];exact hk,rfl⟩
   ·exact ⟨ds',h1,rfl⟩
  ·rcases set_get h with ⟨rfl,h1⟩ | ⟨_,h1⟩
   ·rcases hkind with ⟨ds,ds'',h2,h3⟩ | ⟨_,_,_,_,h2,_⟩ | ⟨es,_,h2,h3⟩
    ·rw [h3] at h1;cases h1
    ·rw [h2] at h1;cases h1
    ·rw [h3] at h1;cases h1
   ·exact ⟨n,h1,Nat.le_refl _,fun _=>rfl⟩
  ·rcases set_get h with ⟨rfl,h1⟩ | ⟨_,h1⟩
   ·rcases hkind with ⟨ds,ds'',h2,h3⟩ | ⟨e',ds,ds'',h2,h3,h4⟩ | ⟨es,_,h2,h3⟩
    ·rw [h3] at h1;cases h1
    ·rw [h3] at h1
     cases h1
     exact ⟨ds,by rw [← h2];exact hk,by omega,fun _=>rfl⟩
    ·rw [h3] at h1;cases h1
   ·exact ⟨ds',h1,Nat.le_refl _,fun _=>rfl⟩
 have hfoot:∀ b off,own ρ (L.set k o') b off→own ρ L b off:=by
  rintro b off ⟨j,x,h1,h2⟩
  rcases set_get h1 with ⟨rfl,h3⟩ | ⟨_,h3⟩
  ·subst h3
   exact ⟨j,o,hk,(hsame _ _).1 h2⟩
  ·exact ⟨j,x,h3,h2⟩
 have hfr:Fresh w (own ρ L) (own ρ (L.set k o')):=fun b off h=>.inl (hfoot b off h)
 have hF:∀ b off,o.owns (ρ k) b off→own ρ L b off:=fun b off h=>⟨k,o,hk,h⟩
 have he':Ext (own ρ L) w w':=he.mono fun b off _ h=>hF b off h
 refine ⟨hf.change _ hF he hc hfr (fun j j' x x' b off h1 h2 h3 h4=>?_) (fun j x hj=>?_),he',hfr,hc⟩
 ·have g:∀ (j:Nat) x,(L.set k o')[j]?=some x→x.owns (ρ j) b off→∃ y,L[j]?=some y∧y.owns (ρ j) b off:=by
   intro q z hq hz
   rcases set_get hq with ⟨e1,e2⟩ | ⟨_,e2⟩
   ·rw [e1] at hz ⊢
    rw [e2] at hz
    exact ⟨o,hk,(hsame _ _).1 hz⟩
   ·exact ⟨z,e2,hz⟩
  obtain ⟨y,h5,h6⟩:=g _ _ h1 h3
  obtain ⟨y',h7,h8⟩:=g _ _ h2 h4
  exact hf.disj _ _ _ _ _ _ h5 h7 h6 h8
 ·rcases set_get hj with ⟨h1,h3⟩ | ⟨h0,h3⟩
  ·subst h1;subst h3
   exact .inr (ho hc (hfr.foot rfl) he'.foot)
  ·refine .inl ⟨(List.getElem?_eq_some_iff.1 h3).1,h3,rfl,fun b off h1 h2=>?_⟩
   exact h0 (hf.disj _ _ _ _ _ _ h3 hk h1 h2)
def storeOp (T:Tab) (t:Nat) (x v:D) (L:List Ob) (K:D→List Ob→Prop):Prop:=
 match ty T t with
 | some i=>cellsK v fun cs=>match Nat.beq cs.length i.size with
  | true=>match allOne cs with
   | true=>match x with
    | .loc k off=>nthK k L fun o=>match o with
     | .cells ds=>putK off cs ds fun ds=>setLK k (.cells ds) L fun L=>K .any L
     | _=>False
    | .cloc k off=>nthK k L fun o=>match o with
     | .cells ds=>match cs with
      | [c]=>VS (SideS (off < ds.length) (VS (NormL (ds.set off c) fun r _=>setLK k (.cells r) L fun L=>K .any L)))
      | _=>False
     | _=>False
    | .aloc k n q off=>nthK k L fun o=>match o with
     | .arr e els=>VS (SideS (n=els.length) (VS (IdxS els (q:Int) fun d=>match d with
      | .agg ds=>putK off cs ds fun ds=>VS (NormL (els.set q (.agg ds)) fun r _=>setLK k (.arr e r) L fun L=>K .any L)
      | _=>match off with
       | 0=>match cs with
        | [c]=>VS (NormL (els.set q c) fun r _=>setLK k (.arr e r) L fun L=>K .any L)
        | _=>False
       | _=>False)))
     | _=>False
    | _=>False
   | false=>False
  | false=>False
 | none=>False
theorem storeVar_run {P:Program} {t:Nat} {i:TI} (hi:TIOk P t i) {w:World} {b o:Nat} {v:Value} (hs:v.cells.toList.length=i.size)
  (hc:∀ j,j < v.cells.toList.length→∃ u,w.cell? ⟨b,o+j,none⟩=some u) (hz:∀ j,j < v.cells.toList.length→Soft w b (o+j)) (h1:∀ u∈v.cells.toList,u.oneCell'=true) :
  (storeVar t ⟨b,o,none⟩ v).run P w= .ok () (w.setCells b o v.cells.toList):=by
 have hs':v.cells.size=i.size:=by simpa using hs
 have:=run_storeCells_cells (P:=P) b o v.cells.toList 0 w (fun j hj=>by obtain ⟨u,hu⟩:=hc j hj;simp [hu]) (fun j hj=>by simpa using (hz j hj).1) h1
 simp only [storeVar,Sem.run_bind,hi.sizeRun,Result.andThen,hs',ne_eq,not_true_eq_false,if_false,Sem.run_pure]
 simpa using this
theorem Compat.setArr {ρ:Pl} {L:List Ob} {k e:Nat} {ds ds':List D} {l':Loc} (hk:L[k]?=some (.arr e ds)) (hnm:ds.length≤ds'.length) (hl:ds.length=ds'.length→l'=ρ k):Compat ρ L (upd ρ k l') (L.set k (.arr e ds')) where
 hid:=rfl
 len:=by simp
 cells j ds hj h:=by
  rcases set_get h with ⟨_,e2⟩ | ⟨e1,e2⟩
  ·cases e2
  ·exact ⟨ds,e2,upd_ne e1⟩
 map j ds hj h:=by
  rcases set_get h with ⟨_,e2⟩ | ⟨e1,e2⟩
  ·cases e2
  ·exact ⟨ds,e2,upd_ne e1⟩
 spare j m' hj h:=by
  rcases set_get h with ⟨e1,e2⟩ | ⟨e1,e2⟩
  ·cases e2
  ·exact ⟨m',e2,Nat.le_refl _,fun _=>upd_ne e1⟩
 arr j e' ds2 hj h:=by
  rcases set_get h with ⟨e1,e2⟩ | ⟨e1,e2⟩
  ·cases e2
   subst e1
   exact ⟨ds,hk,hnm,fun e=>by rw [upd_same,hl e]⟩
  ·exact ⟨ds2,e2,Nat.le_refl _,fun _=>upd_ne e1⟩
theorem storeArr {P:Program} {w:World} {ρ:Pl} {L:List Ob} (hf:Fits w ρ L) {k e q off:Nat} {els:List D} {el el':D} {cs:List D} {us:List Value} (hk:L[k]?=some (.arr e els)) (hq:els[q]?=some el)
  (hl':el'.cells.length=e) (hle:off+cs.length≤e) (hget:∀ j,el'.cells[j]?=if off≤j∧j < off+cs.length then cs[j - off]? else el.cells[j]?)
  (hus:us.length=cs.length) (hr:∀ (j:Nat) c u,cs[j]?=some c→us[j]?=some u→Rep w (foot ρ L) ρ L c u) :
  (∀ j,j < us.length→(∃ u,w.cell? ⟨(ρ k).block,(ρ k).off+(q * e+off)+j,none⟩=some u)∧Soft w ((ρ k).block) ((ρ k).off+(q * e+off)+j)) ∧
  Post w ρ L .any (L.set k (.arr e (els.set q el'))) undef (w.setCells (ρ k).block ((ρ k).off+(q * e+off)) us) ρ:=by
 obtain ⟨h1,h2,h3,h4⟩:=hf.obj k _ hk
 have hql:q < els.length:=(List.getElem?_eq_some_iff.1 hq).1
 have hqe:q * e+e≤els.length * e:=by
  have:=Nat.mul_le_mul_right e hql
  rwa [Nat.succ_mul] at this
 have hin:∀ j,j < us.length→(∃ u,w.cell? ⟨(ρ k).block,(ρ k).off+(q * e+off)+j,none⟩=some u)∧Soft w ((ρ k).block) ((ρ k).off+(q * e+off)+j):=fun j hj=>by
  rw [Nat.add_assoc];exact h4 _ (by omega)
 refine ⟨hin,?_⟩
 have hsame:=setCells_same (ρ k).block us ((ρ k).off+(q * e+off)) w
 have hext:=(Ext.setCells w (ρ k).block ((ρ k).off+(q * e+off)) us).mono (F':=fun b x=>Ob.owns (.arr e els) (ρ k) b x) fun b x _ ⟨e1,e2,e3⟩=>⟨e1,by omega,by omega⟩
 obtain ⟨g1,g2,g3,g4⟩:=hf.setObj (o':=.arr e (els.set q el')) hk (fun b x=>by simp only [Ob.owns]) (.inr (.inl ⟨e,els,_,rfl,rfl,by simp⟩)) hext fun hcm hfr hex=>by
  refine ⟨by simpa using h1,fun i d hi=>?_,fun i d j c hi hj=>?_,fun j hj=>?_⟩
  ·rcases set_get hi with ⟨_,e2⟩ | ⟨_,e2⟩
   ·rw [e2];exact hl'
   ·exact h2 i d e2
  ·rcases set_get hi with ⟨e1,e2⟩ | ⟨e1,e2⟩
   ·subst e1;subst e2
    have hje:j < e:=by rw [← hl'];exact (List.getElem?_eq_some_iff.1 hj).1
    rw [hget] at hj
    split at hj
    ·rename_i hb
     have hjl:j - off < us.length:=by omega
     have hat:=setCells_at (ρ k).block us ((ρ k).off+(i * e+off)) w (j - off) hjl fun x hx=>(hin x hx).1
     rw [show (ρ k).off+(i * e+off)+(j - off)=(ρ k).off+(i * e+j) by omega] at hat
     exact ⟨us[j - off],by rw [hat];exact List.getElem?_eq_getElem hjl,(hr (j - off) c _ hj (List.getElem?_eq_getElem hjl)).keep hex hfr hcm⟩
    ·rename_i hb
     obtain ⟨u,h5,h6⟩:=h3 i el j c hq hj
     refine ⟨u,?_,h6.keep hex hfr hcm⟩
     rw [setCells_other _ _ _ _ _ _ (fun _=>by omega)]
     exact h5
   ·obtain ⟨u,h5,h6⟩:=h3 i d j c e2 hj
    refine ⟨u,?_,h6.keep hex hfr hcm⟩
    have hje:j < e:=by rw [← h2 i d e2];exact (List.getElem?_eq_some_iff.1 hj).1
    rw [setCells_other _ _ _ _ _ _ (fun _=>by
     rcases Nat.lt_or_gt_of_ne e1 with h | h
     ·have:=Nat.mul_le_mul_right e h
      rw [Nat.succ_mul] at this
      omega
     ·have:=Nat.mul_le_mul_right e h
      rw [Nat.succ_mul] at this
      omega)]
    exact h5
  ·obtain ⟨⟨u,h5⟩,h6⟩:=h4 j hj
   refine ⟨?_,by rw [hsame.2.2.2.2.1];exact h6⟩
   by_cases hb:q * e+off≤j∧j < q * e+off+us.length
   ·have hat:=setCells_at (ρ k).block us ((ρ k).off+(q * e+off)) w (j - (q * e+off)) (by omega) fun x hx=>(hin x hx).1
    rw [show (ρ k).off+(q * e+off)+(j - (q * e+off))=(ρ k).off+j by omega] at hat
    exact ⟨_,by rw [hat];exact List.getElem?_eq_getElem (by omega)⟩
   ·exact ⟨u,by rw [setCells_other _ _ _ _ _ _ (fun _=>by omega)];exact h5⟩
 exact ⟨g1,.pure _ _ (.any _),g2,g3,g4⟩
theorem store_sound {P:Program} {T:Tab} (hT:TabOk P T) {t:Nat} {x v:Operand} {σ:List (Nat×D)} {L:List Ob} {K:D→List Ob→Prop} {o:Oper}
  (ho:o.op= .store t x v) (h:storeOp T t (evalD σ x) (evalD σ v) L K):∃ d L',OpOk P o σ L d L'∧K d L':=by
 unfold storeOp at h
 split at h<;>try exact h.elim
 rename_i i hi
 have hi:=hT _ _ hi
 have hany:=cellsK_any h
 have h:=cellsK_eq h
 split at h<;>try exact h.elim
 rename_i hsz
 have hsz:=Nat.eq_of_beq_eq_true hsz
 split at h<;>try exact h.elim
 rename_i hone
 split at h<;>try exact h.elim
 ·rename_i k off hx
  obtain ⟨ob,hk,h⟩:=nthK_eq h
  split at h<;>try exact h.elim
  rename_i ds
  obtain ⟨ds',h,hl,hle,hget⟩:=putK_eq h
  have h:=setLK_eq h
  refine ⟨_,_,OpOk.of_skip fun a w ρ hf he=>?_,h⟩
  have hv:=he.eval x
  rw [hx] at hv
  obtain ⟨ad,h1,h2,h3⟩:=hv.loc_inv
  have h3:=h3 _ hk
  obtain ⟨h4,h5⟩:=hf.obj k _ hk
  obtain ⟨h6,h7⟩:=(he.eval v).cells_len hany
  have hin:∀ j,j < (a.eval v).cells.toList.length→off+j < ds.length:=fun j hj=>by omega
  have hc:∀ j,j < (a.eval v).cells.toList.length→∃ u,w.cell? ⟨(ρ k).block,(ρ k).off+off+j,none⟩=some u:=fun j hj=>by
   obtain ⟨⟨u,h8,_⟩,_⟩:=h5 (off+j) _ (List.getElem?_eq_getElem (hin j hj))
   rw [Nat.add_assoc];exact ⟨u,h8⟩
  have hz:∀ j,j < (a.eval v).cells.toList.length→Soft w ((ρ k).block) ((ρ k).off+off+j):=fun j hj=>by
   rw [Nat.add_assoc];exact (h5 (off+j) _ (List.getElem?_eq_getElem (hin j hj))).2
  have hst:=storeVar_run hi (w:=w) (b:=(ρ k).block) (o:=(ρ k).off+off) (v:=a.eval v) (by omega) hc hz (fun u hu=>by
   obtain ⟨j,hj⟩:=List.getElem?_of_mem hu
   have hjl:j < (evalD σ v).cells.length:=by rw [← h6];exact (List.getElem?_eq_some_iff.1 hj).1
   exact oneD_cell (h7 j _ u (List.getElem?_eq_getElem hjl) hj) (allOne_mem hone j _ (List.getElem?_eq_getElem hjl)))
  have hext:=(Ext.setCells w (ρ k).block ((ρ k).off+off) (a.eval v).cells.toList).mono (F':=fun b x=>Ob.owns (.cells ds) (ρ k) b x) fun b x _ ⟨e1,e2,e3⟩=>⟨e1,by omega,by omega⟩
  obtain ⟨g1,g2,g3,g4⟩:=hf.setObj (o':=.cells ds') hk (fun b x=>by simp only [Ob.owns]) (.inl ⟨ds,ds',rfl,rfl⟩) hext fun hcm hfr hex=>by
   refine ⟨by rw [h4,hl],fun j d hj=>?_⟩
   rw [hget] at hj
   have hfz:=fun x=>(setCells_same (ρ k).block (a.eval v).cells.toList ((ρ k).off+off) w).2.2.2.2.1 x
   split at hj
   ·rename_i hb
    have hjl:j - off < (a.eval v).cells.toList.length:=by omega
    have hat:=setCells_at (ρ k).block (a.eval v).cells.toList ((ρ k).off+off) w (j - off) hjl hc
    rw [show (ρ k).off+off+(j - off)=(ρ k).off+j by omega] at hat
    refine ⟨⟨(a.eval v).cells.toList[j - off],by rw [hat];exact List.getElem?_eq_getElem hjl,?_⟩,?_⟩
    ·exact (h7 (j - off) d _ hj (List.getElem?_eq_getElem hjl)).keep hex hfr hcm
    ·rw [hfz];exact (h5 j _ (List.getElem?_eq_getElem (by omega))).2
   ·rename_i hb
    obtain ⟨⟨u,h8,h9⟩,h10⟩:=h5 j d hj
    refine ⟨⟨u,?_,h9.keep hex hfr hcm⟩,by rw [hfz];exact h10⟩
    rw [setCells_other _ _ _ _ _ _ (fun _=>by omega)]
    exact h8
  exact ⟨_,ρ,by simp [execOp,ho,Instr.storeAt,h1,Instr.sureAddr,h3,hst],g1,.pure _ _ (.any _),g2,g3,g4⟩
 ·rename_i k off hx
  obtain ⟨ob,hk,h⟩:=nthK_eq h
  split at h<;>try exact h.elim
  rename_i ds
  split at h<;>try exact h.elim
  rename_i c hcs
  obtain ⟨hlt,h⟩:=h.out
  have h:=setLK_eq (show setLK _ _ _ _ from VS.out h)
  have hl:(ds.set off c).length=ds.length:=by simp
  have hle:off+(evalD σ v).cells.length≤ds.length:=by rw [hcs];simp;omega
  have hget:∀ j,(ds.set off c)[j]?=if off≤j∧j < off+(evalD σ v).cells.length then (evalD σ v).cells[j - off]? else ds[j]?:=fun j=>by
   rw [hcs]
   by_cases hj:off=j
   ·subst hj
    rw [List.getElem?_set_self hlt]
    simp
   ·rw [List.getElem?_set_ne hj,if_neg (by simp;omega)]
  refine ⟨_,_,OpOk.of_skip fun a w ρ hf he=>?_,h⟩
  have hv:=he.eval x
  rw [hx] at hv
  obtain ⟨ad,h1,h2,h3⟩:=hv.cloc_inv
  have h3:=h3 _ hk
  obtain ⟨h4,h5⟩:=hf.obj k _ hk
  obtain ⟨h6,h7⟩:=(he.eval v).cells_len hany
  have hin:∀ j,j < (a.eval v).cells.toList.length→off+j < ds.length:=fun j hj=>by omega
  have hc:∀ j,j < (a.eval v).cells.toList.length→∃ u,w.cell? ⟨(ρ k).block,(ρ k).off+off+j,none⟩=some u:=fun j hj=>by
   obtain ⟨⟨u,h8,_⟩,_⟩:=h5 (off+j) _ (List.getElem?_eq_getElem (hin j hj))
   rw [Nat.add_assoc];exact ⟨u,h8⟩
  have hz:∀ j,j < (a.eval v).cells.toList.length→Soft w ((ρ k).block) ((ρ k).off+off+j):=fun j hj=>by
   rw [Nat.add_assoc];exact (h5 (off+j) _ (List.getElem?_eq_getElem (hin j hj))).2
  have hst:=storeVar_run hi (w:=w) (b:=(ρ k).block) (o:=(ρ k).off+off) (v:=a.eval v) (by omega) hc hz (fun u hu=>by
   obtain ⟨j,hj⟩:=List.getElem?_of_mem hu
   have hjl:j < (evalD σ v).cells.length:=by rw [← h6];exact (List.getElem?_eq_some_iff.1 hj).1
   exact oneD_cell (h7 j _ u (List.getElem?_eq_getElem hjl) hj) (allOne_mem hone j _ (List.getElem?_eq_getElem hjl)))
  have hext:=(Ext.setCells w (ρ k).block ((ρ k).off+off) (a.eval v).cells.toList).mono (F':=fun b x=>Ob.owns (.cells ds) (ρ k) b x) fun b x _ ⟨e1,e2,e3⟩=>⟨e1,by omega,by omega⟩
  obtain ⟨g1,g2,g3,g4⟩:=hf.setObj (o':=.cells (ds.set off c)) hk (fun b x=>by simp only [Ob.owns]) (.inl ⟨ds,_,rfl,rfl⟩) hext fun hcm hfr hex=>by
   refine ⟨by rw [h4,hl],fun j d hj=>?_⟩
   rw [hget] at hj
   have hfz:=fun x=>(setCells_same (ρ k).block (a.eval v).cells.toList ((ρ k).off+off) w).2.2.2.2.1 x
   split at hj
   ·rename_i hb
    have hjl:j - off < (a.eval v).cells.toList.length:=by omega
    have hat:=setCells_at (ρ k).block (a.eval v).cells.toList ((ρ k).off+off) w (j - off) hjl hc
    rw [show (ρ k).off+off+(j - off)=(ρ k).off+j by omega] at hat
    refine ⟨⟨(a.eval v).cells.toList[j - off],by rw [hat];exact List.getElem?_eq_getElem hjl,?_⟩,?_⟩
    ·exact (h7 (j - off) d _ hj (List.getElem?_eq_getElem hjl)).keep hex hfr hcm
    ·rw [hfz];exact (h5 j _ (List.getElem?_eq_getElem (by omega))).2
   ·rename_i hb
    obtain ⟨⟨u,h8,h9⟩,h10⟩:=h5 j d hj
    refine ⟨⟨u,?_,h9.keep hex hfr hcm⟩,by rw [hfz];exact h10⟩
    rw [setCells_other _ _ _ _ _ _ (fun _=>by omega)]
    exact h8
  exact ⟨_,ρ,by simp [execOp,ho,Instr.storeAt,h1,Instr.sureAddr,h3,hst],g1,.pure _ _ (.any _),g2,g3,g4⟩
 ·rename_i k n q off hx
  obtain ⟨ob,hk,h⟩:=nthK_eq h
  split at h<;>try exact h.elim
  rename_i e els
  obtain ⟨hn,h⟩:=h.out
  obtain ⟨_,el,hq,h⟩:=h.out
  simp only [Int.toNat_natCast] at hq
  have fin:∀ el',el'.cells.length=el.cells.length→off+(evalD σ v).cells.length≤el.cells.length→(∀ j,el'.cells[j]?=if off≤j∧j < off+(evalD σ v).cells.length then (evalD σ v).cells[j - off]? else el.cells[j]?) →
    OpOk P o σ L .any (L.set k (.arr e (els.set q el'))):=fun el' hl1 hl2 hget=>OpOk.of_skip fun a w ρ hf he=>by
   have hv:=he.eval x
   rw [hx] at hv
   obtain ⟨ad,h1,h2,h3⟩:=hv.aloc_inv
   obtain ⟨_,h3⟩:=h3 _ _ hk
   have h3:=h3 hn.symm
   obtain ⟨h4,h5,h6,h7⟩:=hf.obj k _ hk
   have hle:=h5 q el hq
   obtain ⟨h8,h9⟩:=(he.eval v).cells_len hany
   obtain ⟨g1,g2⟩:=storeArr (P:=P) hf hk hq (el':=el') (off:=off) (hl1.trans hle) (by omega) hget h8 h9
   have hst:=storeVar_run hi (w:=w) (b:=(ρ k).block) (o:=(ρ k).off+(q * e+off)) (v:=a.eval v) (by omega) (fun j hj=>(g1 j hj).1) (fun j hj=>(g1 j hj).2) (fun u hu=>by
    obtain ⟨j,hj⟩:=List.getElem?_of_mem hu
    have hjl:j < (evalD σ v).cells.length:=by rw [← h8];exact (List.getElem?_eq_some_iff.1 hj).1
    exact oneD_cell (h9 j _ u (List.getElem?_eq_getElem hjl) hj) (allOne_mem hone j _ (List.getElem?_eq_getElem hjl)))
   exact ⟨_,ρ,by simp [execOp,ho,Instr.storeAt,h1,Instr.sureAddr,h3,hst],g2⟩
  split at h
  ·rename_i ds
   obtain ⟨ds',h,hl,hle,hget⟩:=putK_eq h
   have h:=setLK_eq (show setLK _ _ _ _ from VS.out h)
   exact ⟨_,_,fin (.agg ds') hl hle hget,h⟩
  ·rename_i hna
   split at h<;>try exact h.elim
   split at h<;>try exact h.elim
   rename_i c hc
   have h:=setLK_eq (show setLK _ _ _ _ from VS.out h)
   have hel:el.cells.length=1:=by cases el<;>first | rfl | exact (hna _ rfl).elim
   have hcc:c.cells=[c]:=by
    have:=hone
    rw [hc] at this
    simp only [allOne] at this
    cases c<;>first | rfl | simp [oneD] at this
   refine ⟨_,_,fin c (by rw [hcc,hel];rfl) (by rw [hc,hel];simp) (fun j=>?_),h⟩
   rw [hcc,hc]
   cases j with
   | zero=>simp
   | succ j=>
    simp
    omega
structure Appendix (P:Program) (w:World) (e:TypeId) (i:TI) (t2:TypeId) (x:Value) (n:Nat) (news:List Value):Prop where
 len:news.length=n * i.size
 run:∀ (base:Option Addr) (sLen sCap:Nat) (t:TypeId) (ty:TypeId),P.underlying t=some (.slice e) →
  (sLen+n≤sCap→(Builtin.append_ #[t,t2] ty #[.slice base sLen sCap,x]).run P w =
    ((match base with | some a=>storeCells (a.add (sLen * i.size)) news | none=>pure ()).run P w).andThen fun _ w'=>.ok (.slice base (sLen+n) sCap) w') ∧
  (sCap < sLen+n→(sLen+n) * i.bytes≤140737488355328→∀ (olds:List Value),(∀ w':World,(∀ a,w'.cell? a=w.cell? a)→(Builtin.firstCells i.size sLen (.slice base sLen sCap)).run P w'= .ok olds.toArray w') →
    (Builtin.append_ #[t,t2] ty #[.slice base sLen sCap,x]).run P w =
      .ok (.slice (some ⟨w.heap.size,0,none⟩) (sLen+n) (grownCap w (sLen+n) sCap e))
       (w.drew.alloc (.cells (olds.toArray++news.toArray++Builtin.zeroCells i.zero.cells (grownCap w (sLen+n) sCap e - (sLen+n))) e)))
theorem Appendix.of_cells {P:Program} {w:World} {e:TypeId} {i:TI} (hi:TIOk P e i) {t2:TypeId} {x:Value} {n:Nat} {news:List Value} {d:TypeDesc} (h2:P.underlying t2=some d) (hd:∀ k,d≠ .int k)
  (hn:∀ w,(Builtin.lenOf x).run P w= .ok n w) (hl:news.length=n * i.size) (hb:n≤4611686018427387904)
  (hnews:∀ w':World,(∀ a,w'.cell? a=w.cell? a)→(Builtin.firstCells i.size n x).run P w'= .ok news.toArray w'):Appendix P w e i t2 x n news:=by
 refine ⟨hl,fun base sLen sCap t ty ht=>?_⟩
 obtain ⟨xi,h3,h4,h5,h6⟩:=hi.info
 have hm:(d matches .int _)=false:=by cases d<;>simp at hd ⊢
 have hz:(sizeOf e).run P w= .ok i.size w:=hi.sizeRun w
 constructor
 ·intro hroom
  have hf:=hnews w fun _=>rfl
  simp only [Builtin.append_,List.getElem?_toArray,List.getElem?_cons_zero,List.getElem?_cons_succ,Sem.run_bind,run_underlying ht,run_underlying h2,hi.sizeRun,Result.andThen,Sem.run_pure,hm,hn,Bool.false_eq_true,if_false,if_pos hroom,Bool.not_false,if_true,hf]
  cases base<;>simp only [Sem.run_pure,Sem.run_bind,Result.andThen]<;>rfl
 ·intro hg hfit olds holds
  have hro:¬ (sLen+n≤sCap):=by omega
  have hfit2:=growslice_fits hg hfit
  have hf:=hnews w.drew fun _=>rfl
  have hfo:=holds w.drew fun _=>rfl
  have hbp:=hi.bpos
  have h63:¬ (((sLen+n:Nat):Int) > IntKind.i64.max∧(False∨i.bytes=0)):=by
   rintro ⟨_,h | h⟩
   ·exact h
   ·exact hbp h
  have hfit2':¬ (Builtin.nextslicecap (sLen+n) sCap * i.bytes > 2 ^ 48):=by omega
  have hch:(choose (.appendCap (sLen+n) sCap e)).run P w= .ok (grownCap w (sLen+n) sCap e) w.drew:=by
   simp [choose,Sem.run,Question.forced,grownCap]
  have har:∀ m,(askRoom m).run P w.drew= .ok () w.drew:=fun m=>by
   unfold askRoom;split<;>rfl
  simp only [Builtin.append_,List.getElem?_toArray,List.getElem?_cons_zero,List.getElem?_cons_succ,Sem.run_bind,run_underlying ht,run_underlying h2,hi.sizeRun,Result.andThen,Sem.run_pure,hm,hn,Bool.false_eq_true,if_false,if_neg hro,if_neg h63,
   run_typeInfo _ h3,h5,if_neg hfit2',hch,har,hf,hfo,Bool.not_false,if_true,hi.zeroRun,newRow_run]
  rfl
theorem zero_one (v:Value) (n:Nat):Builtin.zeroCells #[v] n=(List.replicate n v).toArray:=by
 unfold Builtin.zeroCells
 apply Array.ext
 ·simp
 ·intro i h1 h2
  simp [Nat.mod_one]
theorem Appendix.of_int {P:Program} {w:World} {e:TypeId} {i:TI} (hi:TIOk P e i) {t2:TypeId} {k q:IntKind} {m:Int} {v:Value} {n:Nat} (h2:P.underlying t2=some (.int k)) (hm:m=n) (hb:n≤4294967296) (hby:i.bytes≤32768)
  (hs:i.size=1) (hz:i.zero.cells= #[v]):Appendix P w e i t2 (.int q m) n (List.replicate n v):=by
 subst hm
 refine ⟨by simp [hs],fun base sLen sCap t ty ht=>?_⟩
 obtain ⟨xi,h3,h4,h5,h6⟩:=hi.info
 have hw:IntKind.i64.wrap ((n:Nat):Int)=n:=by simp only [IntKind.wrap,IntKind.bits,IntKind.signed];simp;omega
 have hnb:n * i.bytes≤4294967296 * 32768:=Nat.mul_le_mul hb hby
 have hneg:¬ (((n:Nat):Int) < 0):=by omega
 have hbig:¬ (((n:Nat):Int) * ((i.bytes:Nat):Int) > 2 ^ 48):=by
  have:((n:Nat):Int) * ((i.bytes:Nat):Int)=((n * i.bytes:Nat):Int):=by simp
  rw [this]
  omega
 have hai:∀ w:World,(asInt (.int q ((n:Nat):Int))).run P w= .ok ((n:Nat):Int) w:=fun w=>rfl
 have happ:∀ w:World,(if n * i.size=0 then (pure #[]:Sem (Array Value)) else do pure (Builtin.zeroCells (← zeroValue e).cells n)).run P w= .ok (List.replicate n v).toArray w:=fun w=>by
  split
  ·rename_i h0
   have:n=0:=by rw [hs] at h0;omega
   subst this
   rfl
  ·simp only [Sem.run_bind,hi.zeroRun,Result.andThen,Sem.run_pure,hz,zero_one]
 constructor
 ·intro hroom
  simp only [Builtin.append_,List.getElem?_toArray,List.getElem?_cons_zero,List.getElem?_cons_succ,Sem.run_bind,run_underlying ht,run_underlying h2,hi.sizeRun,Result.andThen,Sem.run_pure,hai,hw,if_neg hneg,run_typeInfo _ h3,h5,if_neg hbig,Int.toNat_natCast,if_pos hroom,Bool.not_true,Bool.false_eq_true,if_false,if_true,happ]
  cases base<;>simp only [Sem.run_pure,Sem.run_bind,Result.andThen]<;>rfl
 ·intro hg hfit olds holds
  have hro:¬ (sLen+n≤sCap):=by omega
  have hfit2:=growslice_fits hg hfit
  have hfo:=holds w.drew fun _=>rfl
  have hbp:=hi.bpos
  have hsn:sLen+n≤140737488355328:=Nat.le_trans (Nat.le_mul_of_pos_right _ (Nat.pos_of_ne_zero hbp)) hfit
  have h63:¬ (((sLen+n:Nat):Int) > IntKind.i64.max∧(True∨i.bytes=0)):=by
   rintro ⟨h,_⟩
   have:IntKind.i64.max=9223372036854775807:=by decide
   omega
  have hfit2':¬ (Builtin.nextslicecap (sLen+n) sCap * i.bytes > 2 ^ 48):=by omega
  have hch:(choose (.appendCap (sLen+n) sCap e)).run P w= .ok (grownCap w (sLen+n) sCap e) w.drew:=by
   simp [choose,Sem.run,Question.forced,grownCap]
  have har:∀ m,(askRoom m).run P w.drew= .ok () w.drew:=fun m=>by
   unfold askRoom;split<;>rfl
  simp only [Builtin.append_,List.getElem?_toArray,List.getElem?_cons_zero,List.getElem?_cons_succ,Sem.run_bind,run_underlying ht,run_underlying h2,hi.sizeRun,Result.andThen,Sem.run_pure,hai,hw,if_neg hneg,run_typeInfo _ h3,h5,if_neg hbig,Int.toNat_natCast,if_neg hro,Bool.not_true,Bool.false_eq_true,if_false,
   if_true,if_neg h63,if_neg hfit2',hch,har,hfo,happ,hi.zeroRun,newRow_run]
  rfl
theorem Fits.update {w w':World} {ρ:Pl} {L:List Ob} (hf:Fits w ρ L) {k:Nat} {o o':Ob} {l':Loc} (hk:L[k]?=some o) (hc:Compat ρ L (upd ρ k l') (L.set k o'))
  (F:Nat→Nat→Prop) (hF:∀ b off,F b off→o.owns (ρ k) b off) (he:Ext F w w')
  (hin:∀ b off,o'.owns l' b off→o.owns (ρ k) b off∨w.heap.size≤b)
  (ho:Fresh w (foot ρ L) (foot (upd ρ k l') (L.set k o'))→Ext (foot ρ L) w w'→ObFits w' (foot (upd ρ k l') (L.set k o')) (upd ρ k l') (L.set k o') l' o') :
  Fits w' (upd ρ k l') (L.set k o')∧Ext (own ρ L) w w'∧Fresh w (own ρ L) (own (upd ρ k l') (L.set k o')):=by
 have hF':∀ b off,F b off→own ρ L b off:=fun b off h=>⟨k,o,hk,hF b off h⟩
 have he':Ext (own ρ L) w w':=he.mono fun b off _ h=>hF' b off h
 have hfr:Fresh w (own ρ L) (own (upd ρ k l') (L.set k o')):=by
  rintro b off ⟨j,x,h1,h2⟩
  rcases set_get h1 with ⟨e1,e2⟩ | ⟨e1,e2⟩
  ·rw [e1,upd_same] at h2
   rw [e2] at h2
   exact (hin b off h2).imp (fun h=>⟨k,o,hk,h⟩) id
  ·rw [upd_ne e1] at h2
   exact .inl ⟨j,x,e2,h2⟩
 refine ⟨hf.change F hF' he hc hfr (fun j j' x x' b off h1 h2 h3 h4=>?_) (fun j x hj=>?_),he',hfr⟩
 ·rcases set_get h1 with ⟨e1,e2⟩ | ⟨e1,e2⟩<;>rcases set_get h2 with ⟨e3,e4⟩ | ⟨e3,e4⟩
  ·omega
  ·rw [e1,upd_same] at h3
   rw [e2] at h3
   rw [upd_ne e3] at h4
   rcases hin b off h3 with h | h
   ·exact (e3 (hf.disj _ _ _ _ _ _ e4 hk h4 h)).elim
   ·have:=hf.foot_lt (.inl ⟨j',x',e4,h4⟩);omega
  ·rw [e3,upd_same] at h4
   rw [e4] at h4
   rw [upd_ne e1] at h3
   rcases hin b off h4 with h | h
   ·exact (e1 (hf.disj _ _ _ _ _ _ e2 hk h3 h)).elim
   ·have:=hf.foot_lt (.inl ⟨j,x,e2,h3⟩);omega
  ·rw [upd_ne e1] at h3
   rw [upd_ne e3] at h4
   exact hf.disj _ _ _ _ _ _ e2 e4 h3 h4
 ·rcases set_get hj with ⟨e1,e2⟩ | ⟨e1,e2⟩
  ·subst e1;subst e2
   rw [upd_same]
   exact .inr (ho (hfr.foot rfl) he'.foot)
  ·refine .inl ⟨(List.getElem?_eq_some_iff.1 e2).1,e2,upd_ne e1,fun b off h1 h2=>?_⟩
   exact e1 (hf.disj _ _ _ _ _ _ e2 hk h1 (hF b off h2))
theorem Compat.setSpare {ρ:Pl} {L:List Ob} {k n m:Nat} {l':Loc} (hk:L[k]?=some (.spare n)) (hnm:n≤m) (hl:n=m→l'=ρ k):Compat ρ L (upd ρ k l') (L.set k (.spare m)) where
 hid:=rfl
 len:=by simp
 cells j ds hj h:=by
  rcases set_get h with ⟨_,e2⟩ | ⟨e1,e2⟩
  ·cases e2
  ·exact ⟨ds,e2,upd_ne e1⟩
 map j ds hj h:=by
  rcases set_get h with ⟨_,e2⟩ | ⟨e1,e2⟩
  ·cases e2
  ·exact ⟨ds,e2,upd_ne e1⟩
 spare j m' hj h:=by
  rcases set_get h with ⟨e1,e2⟩ | ⟨e1,e2⟩
  ·cases e2
   subst e1
   exact ⟨n,hk,hnm,fun e=>by rw [upd_same,hl e]⟩
  ·exact ⟨m',e2,Nat.le_refl _,fun _=>upd_ne e1⟩
 arr j e ds hj h:=by
  rcases set_get h with ⟨_,e2⟩ | ⟨e1,e2⟩
  ·cases e2
  ·exact ⟨ds,e2,Nat.le_refl _,fun _=>upd_ne e1⟩
def ysK (T:Tab) (t2 es:Nat) (y:D) (K:List D→Prop):Prop:=
 match ty T t2 with
 | some i=>match i.d with
  | .slice _=>match y with
   | .sl e ys _=>match Nat.beq e es with
    | true=>K ys
    | false=>False
   | .nilsl=>K []
   | _=>False
  | .str=>match y with
   | .str s=>match Nat.beq es 1 with
    | true=>K (s.map fun c=>.int .u8 c.toNat)
    | false=>False
   | _=>False
  | _=>False
 | none=>False
def ysZ (T:Tab) (t2:Nat) (j:TI) (y:D) (K:List D→Prop):Prop:=
 match ty T t2 with
 | some i=>match i.d with
  | .int _=>match y with
   | .int _ n=>match Nat.beq j.size 1 with
    | true=>match j.zero with
     | .int k z=>VS (SideS (0≤n∧n≤4294967296) (K (List.replicate n.toNat (.int k z))))
     | _=>False
    | false=>False
   | _=>False
  | _=>ysK T t2 j.size y K
 | none=>False
def appendOp (T:Tab) (t t2:Nat) (x y:D) (L:List Ob) (K:D→List Ob→Prop):Prop:=
 match ty T t with
 | some i=>match i.d with
  | .slice e=>match ty T e with
   | some j=>match Nat.ble j.bytes 32768 with
    | true=>ysZ T t2 j y fun ys=>match x with
     | .nilsl=>VS (SideS (ys.length≤4294967296) (VS (NormL ys fun r n=>K (.sl j.size r (some L.length)) (L++[.spare n]))))
     | .sl es ds (some k)=>match Nat.beq es j.size with
      | true=>nthK k L fun o=>match o with
       | .spare n=>VS (SideS (n=ds.length∧ds.length+ys.length≤4294967296) (VS (NormL (ds++ys) fun r m=>setLK k (.spare m) L fun L=>K (.sl j.size r (some k)) L)))
       | _=>False
      | false=>False
     | _=>False
    | false=>False
   | none=>False
  | _=>False
 | none=>False
theorem flat_cells {w:World} {F:Nat→Nat→Prop} {b off e:Nat} (he:0 < e) {ds:List D} (hlen:∀ (i:Nat) d,ds[i]?=some d→d.cells.length=e)
  (h:∀ (i:Nat) d (j:Nat) c,ds[i]?=some d→d.cells[j]?=some c→∃ u,w.cell? ⟨b,off+(i * e+j),none⟩=some u∧¬ F b (off+(i * e+j))∧RepP w F c u)
  (hone:∀ (i:Nat) d (j:Nat) c u,ds[i]?=some d→d.cells[j]?=some c→w.cell? ⟨b,off+(i * e+j),none⟩=some u→u.oneCell'=true) :
  ∃ vs:List Value,vs.length=ds.length * e∧(∀ v∈vs,v.oneCell'=true)∧(∀ (q:Nat) v,vs[q]?=some v→w.cell? ⟨b,off+q,none⟩=some v∧¬ F b (off+q)) ∧
   ∀ (i:Nat) d (j:Nat) c,ds[i]?=some d→d.cells[j]?=some c→∃ u,vs[i * e+j]?=some u∧RepP w F c u:=by
 have hq:∀ q,q < ds.length * e→∃ u,w.cell? ⟨b,off+q,none⟩=some u∧¬ F b (off+q)∧u.oneCell'=true:=by
  intro q hq
  have h1:q / e < ds.length:=Nat.div_lt_of_lt_mul (by rwa [Nat.mul_comm])
  have h2:q % e < e:=Nat.mod_lt _ he
  have hl:=hlen _ _ (List.getElem?_eq_getElem h1)
  obtain ⟨u,h3,h4,_⟩:=h (q / e) _ (q % e) _ (List.getElem?_eq_getElem h1) (List.getElem?_eq_getElem (by rw [hl];exact h2))
  have h5:=hone _ _ _ _ u (List.getElem?_eq_getElem h1) (List.getElem?_eq_getElem (by rw [hl];exact h2)) h3
  rw [Nat.mul_comm,Nat.div_add_mod] at h3 h4
  exact ⟨u,h3,h4,h5⟩
 refine ⟨(List.range (ds.length * e)).map fun q=>(w.cell? ⟨b,off+q,none⟩).getD undef,by simp,fun v hv=>?_,fun q v hv=>?_,fun i d j c hi hj=>?_⟩
 ·obtain ⟨q,hq1,rfl⟩:=List.mem_map.1 hv
  obtain ⟨u,h1,_,h2⟩:=hq q (List.mem_range.1 hq1)
  rw [h1];exact h2
 ·simp only [List.getElem?_map,Option.map_eq_some_iff] at hv
  obtain ⟨q',h1,rfl⟩:=hv
  obtain ⟨h2,h3⟩:=List.getElem?_eq_some_iff.1 h1
  simp at h2 h3
  subst h3
  obtain ⟨u,h4,h5,_⟩:=hq q h2
  exact ⟨by simp [h4],h5⟩
 ·obtain ⟨u,h1,h2,h3⟩:=h i d j c hi hj
  have hil:i < ds.length:=(List.getElem?_eq_some_iff.1 hi).1
  have hjl:j < e:=by rw [← hlen i d hi];exact (List.getElem?_eq_some_iff.1 hj).1
  have:i * e+e≤ds.length * e:=by
   have:=Nat.mul_le_mul_right e hil
   rwa [Nat.succ_mul] at this
  refine ⟨u,?_,h3⟩
  rw [List.getElem?_map,List.getElem?_range (by omega)]
  simp [h1]
def RowsOf (w:World) (F:Nat→Nat→Prop) (e:Nat) (ys:List D) (news:List Value):Prop:=
 news.length=ys.length * e∧(∀ v∈news,v.oneCell'=true)∧∀ (i:Nat) d (j:Nat) c,ys[i]?=some d→d.cells[j]?=some c→∃ u,news[i * e+j]?=some u∧RepP w F c u
theorem ysK_sound {P:Program} {T:Tab} (hT:TabOk P T) {e:Nat} {j:TI} (hj:TIOk P e j) {t2:Nat} {y:D} {K:List D→Prop} (h:ysK T t2 j.size y K) :
  ∃ ys,K ys∧∀ (w:World) (ρ:Pl) (L:List Ob) (v:Value),Rep w (foot ρ L) ρ L y v→ys.length≤4611686018427387904 →
   (∀ (i:Nat) d,ys[i]?=some d→d.cells.length=j.size)∧∃ news,Appendix P w e j t2 v ys.length news∧RowsOf w (foot ρ L) j.size ys news:=by
 unfold ysK at h
 split at h<;>try exact h.elim
 rename_i i2 hi2
 have hi2:=hT _ _ hi2
 split at h<;>try exact h.elim
 ·rename_i e2 hd
  have hu:=under_slice hi2 hd
  split at h<;>try exact h.elim
  ·rename_i e' ys tok
   split at h<;>try exact h.elim
   rename_i hes
   have hes:=Nat.eq_of_beq_eq_true hes
   subst hes
   have hcl:∀ w F v,RepP w F (.sl j.size ys none) v→∀ (i:Nat) d,ys[i]?=some d→d.cells.length=j.size:=by
    intro w F v hv
    rcases hv.sl_shape with ⟨h1,_,_⟩ | ⟨b,off,cap,h1,h2,h3,h4⟩
    ·subst h1;simp
    ·exact h3
   ·refine ⟨ys,h,fun w ρ L v hv hb=>⟨hcl _ _ _ hv.sl_inv,?_⟩⟩
    rcases hv.sl_inv.sl_shape with ⟨h1,ad,h2⟩ | ⟨b,off,cap,h1,h2,h3,h4⟩
    ·subst h1;subst h2
     refine ⟨[],?_,⟨by simp,by simp,by simp⟩⟩
     refine .of_cells hj hu (by intro k;simp) (fun w=>rfl) (by simp) (by simp) fun w' hw=>?_
     cases ad<;>simp [Builtin.firstCells,loadCells,loadCellsFrom]
    ·subst h1
     obtain ⟨vs,h5,h6,h7,h8⟩:=flat_cells (Nat.pos_of_ne_zero hj.pos) h3 h4 hv.sl_inv.sl_one
     refine ⟨vs,?_,h5,h6,h8⟩
     refine .of_cells hj hu (by intro k;simp) (fun w=>rfl) h5 hb fun w' hw=>?_
     exact run_firstCells_some w' _ _ ⟨b,off,none⟩ _ _ vs h5 fun q u hq=>by
      rw [addr_add,hw];exact (h7 q u hq).1
  ·refine ⟨[],h,fun w ρ L v hv _=>⟨by simp,?_⟩⟩
   obtain ⟨a,hv⟩:=hv.nilsl_inv
   subst hv
   refine ⟨[],?_,⟨by simp,by simp,by simp⟩⟩
   refine .of_cells hj hu (by intro k;simp) (fun w=>rfl) (by simp) (by simp) fun w' hw=>?_
   cases a<;>simp [Builtin.firstCells,loadCells,loadCellsFrom]
 ·rename_i hd
  have hu:=under_str hi2 hd
  split at h<;>try exact h.elim
  rename_i s
  split at h<;>try exact h.elim
  rename_i h1
  have h1:=Nat.eq_of_beq_eq_true h1
  refine ⟨_,h,fun w ρ L v hv hb=>⟨fun i d hd=>?_,?_⟩⟩
  ·simp only [List.getElem?_map,Option.map_eq_some_iff] at hd
   obtain ⟨c,_,rfl⟩:=hd
   exact h1.symm
  ·have hv:=hv.str_inv
   subst hv
   refine ⟨s.map fun c=>.int .u8 c.toNat,?_,by simp [h1],by simp;intro a _;rfl,fun i d q c hi hq=>?_⟩
   ·refine .of_cells hj hu (by intro k;simp) (fun w=>?_) (by simp [h1]) hb fun w' hw=>?_
    ·simp [Builtin.lenOf,size_mk]
    ·simp [Builtin.firstCells]
   ·simp only [List.getElem?_map,Option.map_eq_some_iff] at hi
    obtain ⟨c',h2,rfl⟩:=hi
    cases q with
    | zero=>
     simp [D.cells] at hq
     subst hq
     exact ⟨.int .u8 c'.toNat,by simp [h1,h2],.int _ _⟩
    | succ q=>simp [D.cells] at hq
theorem ysZ_sound {P:Program} {T:Tab} (hT:TabOk P T) {e:Nat} {j:TI} (hj:TIOk P e j) (hby:j.bytes≤32768) {t2:Nat} {y:D} {K:List D→Prop} (h:ysZ T t2 j y K) :
  ∃ ys,K ys∧∀ (w:World) (ρ:Pl) (L:List Ob) (v:Value),Rep w (foot ρ L) ρ L y v→ys.length≤4611686018427387904 →
   (∀ (i:Nat) d,ys[i]?=some d→d.cells.length=j.size)∧∃ news,Appendix P w e j t2 v ys.length news∧RowsOf w (foot ρ L) j.size ys news:=by
 unfold ysZ at h
 split at h<;>try exact h.elim
 rename_i i2 hi2
 have hi2':=hT _ _ hi2
 split at h
 ·rename_i q hd
  have hu:=under_int hi2' hd
  split at h<;>try exact h.elim
  rename_i q' n
  split at h<;>try exact h.elim
  rename_i hs
  have hs:=Nat.eq_of_beq_eq_true hs
  split at h<;>try exact h.elim
  rename_i k z hz
  obtain ⟨⟨h0,h1⟩,hK⟩:=h.out
  refine ⟨_,hK,fun w ρ L v hv _=>?_⟩
  have hv:=hv.int_inv
  subst hv
  obtain ⟨m,rfl⟩:=Int.eq_ofNat_of_zero_le h0
  have hcl:∀ (i:Nat) d,(List.replicate ((m:Int).toNat) (D.int k z))[i]?=some d→d= .int k z:=fun i d hi=>(List.mem_replicate.1 (List.mem_of_getElem? hi)).2
  refine ⟨fun i d hi=>by rw [hcl i d hi,hs];rfl,List.replicate m (.int k z),?_,?_⟩
  ·rw [List.length_replicate,Int.toNat_natCast]
   exact .of_int hj hu rfl (by omega) hby hs (by rw [hz];rfl)
  ·refine ⟨by simp [hs],fun v hv=>by rw [(List.mem_replicate.1 hv).2];rfl,fun i d q c hi hq=>?_⟩
   have hd:=hcl i d hi
   subst hd
   cases q with
   | zero=>
    cases hq
    have hlt:=(List.getElem?_eq_some_iff.1 hi).1
    refine ⟨.int k z,?_,.int _ _⟩
    rw [List.length_replicate,Int.toNat_natCast] at hlt
    rw [hs,Nat.mul_one,Nat.add_zero,List.getElem?_replicate,if_pos hlt]
   | succ q=>cases hq
 ·exact ysK_sound hT hj h
theorem row_lt {e i j n:Nat} (hi:i < n) (hj:j < e):i * e+j < n * e:=by
 have:=Nat.mul_le_mul_right e hi
 rw [Nat.succ_mul] at this
 omega
theorem rows_sl {w:World} {F:Nat→Nat→Prop} {e b off cap:Nat} {els:List D} {vs:List Value} (hcap:els.length≤cap) (hlen:∀ (i:Nat) d,els[i]?=some d→d.cells.length=e)
  (hr:RowsOf w F e els vs) (hc:∀ (q:Nat) v,vs[q]?=some v→w.cell? ⟨b,off+q,none⟩=some v∧¬ F b (off+q)) :
  RepP w F (.sl e els none) (.slice (some ⟨b,off,none⟩) els.length cap):=by
 refine .sl _ _ _ _ _ (fun i j=>(vs[i * e+j]?).getD undef) hcap hlen (fun i d j c hi hj=>?_) (fun i d j c hi hj=>?_) fun i d j c hi hj=>?_
 all_goals obtain ⟨u,h1,h2⟩:=hr.2.2 i d j c hi hj
 ·rw [h1];exact hc _ _ h1
 ·rw [h1];exact hr.2.1 u (List.mem_of_getElem? h1)
 ·rw [h1];exact h2
theorem RowsOf.keep {w w':World} {F F':Nat→Nat→Prop} (he:Ext F w w') (hf:Fresh w F F') {e:Nat} {ys:List D} {news:List Value} (h:RowsOf w F e ys news):RowsOf w' F' e ys news:=
 ⟨h.1,h.2.1,fun i d j c hi hj=>by obtain ⟨u,h1,h2⟩:=h.2.2 i d j c hi hj;exact ⟨u,h1,h2.keep he hf⟩⟩
theorem RowsOf.append {w:World} {F:Nat→Nat→Prop} {e:Nat} {xs ys:List D} {vs us:List Value} (hlen:∀ (i:Nat) d,(xs++ys)[i]?=some d→d.cells.length=e) (h:RowsOf w F e xs vs) (k:RowsOf w F e ys us):RowsOf w F e (xs++ys) (vs++us):=by
 refine ⟨by simp [h.1,k.1,Nat.add_mul],fun v hv=>(List.mem_append.1 hv).elim (h.2.1 v) (k.2.1 v),fun i d j c hi hj=>?_⟩
 have hjl:j < e:=by rw [← hlen i d hi];exact (List.getElem?_eq_some_iff.1 hj).1
 rcases Nat.lt_or_ge i xs.length with hlt | hge
 ·rw [List.getElem?_append_left hlt] at hi
  obtain ⟨u,h1,h2⟩:=h.2.2 i d j c hi hj
  exact ⟨u,by rw [List.getElem?_append_left (by rw [h.1];exact row_lt hlt hjl)];exact h1,h2⟩
 ·rw [List.getElem?_append_right hge] at hi
  obtain ⟨u,h1,h2⟩:=k.2.2 _ d j c hi hj
  refine ⟨u,?_,h2⟩
  have hle:vs.length≤i * e+j:=by
   rw [h.1]
   have:=Nat.mul_le_mul_right e hge
   omega
  rw [List.getElem?_append_right hle,h.1]
  rw [show i * e+j - xs.length * e=(i - xs.length) * e+j by
   rw [Nat.sub_mul]
   have:=Nat.mul_le_mul_right e hge
   omega]
  exact h1
theorem sl_rows {w:World} {F:Nat→Nat→Prop} {e:Nat} (he:0 < e) {ds:List D} {v:Value} (h:RepP w F (.sl e ds none) v) :
  ∃ (base:Option Addr) (cap:Nat) (vs:List Value),v= .slice base ds.length cap∧ds.length≤cap∧RowsOf w F e ds vs∧(∀ (i:Nat) d,ds[i]?=some d→d.cells.length=e) ∧
   ((ds=[]∧cap=0)∨∃ b off,base=some ⟨b,off,none⟩∧∀ (q:Nat) u,vs[q]?=some u→w.cell? ⟨b,off+q,none⟩=some u∧¬ F b (off+q)):=by
 rcases h.sl_shape with ⟨h1,ad,h2⟩ | ⟨b,off,cap,h1,h2,h3,h4⟩
 ·subst h1;subst h2
  exact ⟨ad,0,[],rfl,Nat.le_refl _,⟨by simp,by simp,by simp⟩,by simp,.inl ⟨rfl,rfl⟩⟩
 ·subst h1
  obtain ⟨vs,h5,h6,h7,h8⟩:=flat_cells he h3 h4 h.sl_one
  exact ⟨some ⟨b,off,none⟩,cap,vs,rfl,h2,⟨h5,h6,h8⟩,h3,.inr ⟨b,off,rfl,h7⟩⟩
theorem grown_world {w:World} {e:TypeId} {zs:Array Value} {vs:List Value} {len cap es:Nat} (hz:zs.size=es) (hl:vs.length=len * es) (hc:len≤cap) :
  let w':=w.drew.alloc (.cells (vs.toArray++Builtin.zeroCells zs (cap - len)) e)
  Ext F0 w w'∧(∀ (q:Nat) v,vs[q]?=some v→w'.cell? ⟨w.heap.size,q,none⟩=some v) ∧
  ∀ j,j < (cap - len) * es→(∃ v,w'.cell? ⟨w.heap.size,len * es+j,none⟩=some v)∧Soft w' w.heap.size (len * es+j):=by
 intro w'
 have hcell:∀ q,w'.cell? ⟨w.heap.size,q,none⟩=(vs.toArray++Builtin.zeroCells zs (cap - len))[q]?:=fun q=>World.cell?_alloc_new w.drew _ _ _
 refine ⟨(Ext.drew w).trans0 (Ext.alloc w.drew _),fun q v hq=>?_,fun j hj=>⟨?_,soft_alloc w.drew _ _ _⟩⟩
 ·have hlt:q < vs.length:=(List.getElem?_eq_some_iff.1 hq).1
  rw [hcell,Array.getElem?_append_left (by simpa using hlt)]
  simpa using hq
 ·rw [hcell,Array.getElem?_append_right (by simp [hl]),show len * es+j - vs.toArray.size=j by simp [hl]]
  have hs:j < (Builtin.zeroCells zs (cap - len)).size:=by rw [size_zeroCells,hz];exact hj
  exact ⟨_,Array.getElem?_eq_getElem hs⟩
theorem nil_tok {w:World} {F:Nat→Nat→Prop} {e:Nat} {a:Option Addr}:RepP w F (.sl e [] none) (.slice a 0 0):=.slnil _ _
theorem append_new {P:Program} {w:World} {ρ:Pl} {L:List Ob} (hf:Fits w ρ L) {t t2 e:Nat} {ty:TypeId} {j:TI} (hu:P.underlying t=some (.slice e)) (hj:TIOk P e j) (hb:j.bytes≤32768)
  {a:Option Addr} {x:Value} {ys:List D} {news:List Value} (hlen:∀ (i:Nat) d,ys[i]?=some d→d.cells.length=j.size)
  (hx:Appendix P w e j t2 x ys.length news) (hr:RowsOf w (foot ρ L) j.size ys news) (hn:ys.length≤4294967296) :
  ∃ v w' ρ',(Builtin.append_ #[t,t2] ty #[.slice a 0 0,x]).run P w= .ok v w'∧Post w ρ L (.sl j.size ys (some L.length)) (L++[.spare ys.length]) v w' ρ':=by
 obtain ⟨hroom,hgrow⟩:=hx.run a 0 0 t ty hu
 rcases Nat.eq_zero_or_pos ys.length with h0 | h0
 ·have hy:ys=[]:=List.eq_nil_of_length_eq_zero h0
  subst hy
  have hnews:news=[]:=List.eq_nil_of_length_eq_zero (by simpa using hr.1)
  subst hnews
  have hrun:=hroom (by simp)
  obtain ⟨l,hl0,hl⟩:∃ l:Loc,l.cap=0∧TokMatch (.slice a 0 0) j.size l:=by
   cases a with
   | none=>exact ⟨⟨0,0,0⟩,rfl,rfl,rfl⟩
   | some x=>exact ⟨⟨x.block,x.off,0⟩,rfl,.inl ⟨rfl,by simp,by simp⟩⟩
  obtain ⟨h1,h2⟩:=hf.snoc (Ext.refl F0 w) (o:=.spare 0) (l:=l) (fun b off h=>by obtain ⟨_,h3,h4⟩:=h;omega) (fun j hj=>by omega)
  refine ⟨.slice a 0 0,w,_,by cases a<;>exact hrun,h1,.tok _ _ _ _ (by simp) nil_tok (fun n hn=>?_),.refl _ _,h2,.snoc _ _ _ _⟩
  simp at hn
  subst hn
  exact ⟨Nat.le_refl _,fun _=>by rw [upd_same];exact hl⟩
 ·have hrun:=hgrow (by simpa using h0) (by
   have:(0+ys.length) * j.bytes≤4294967296 * 32768:=Nat.mul_le_mul (by omega) hb
   omega) [] (fun w' _=>by cases a<;>simp [Builtin.firstCells,loadCells,loadCellsFrom])
  have hcap:0+ys.length≤grownCap w (0+ys.length) 0 e:=grownCap_ge _ _ _ _
  have hgw:=grown_world (w:=w) (e:=e) (zs:=j.zero.cells) (vs:=news) (len:=0+ys.length) (cap:=grownCap w (0+ys.length) 0 e) (es:=j.size) hj.szero (by simpa using hr.1) hcap
  have harr:([]:List Value).toArray++news.toArray++Builtin.zeroCells j.zero.cells (grownCap w (0+ys.length) 0 e - (0+ys.length))=news.toArray++Builtin.zeroCells j.zero.cells (grownCap w (0+ys.length) 0 e - (0+ys.length)):=by simp
  rw [harr] at hrun
  simp only [Nat.zero_add] at hrun hgw hcap
  obtain ⟨g1,g2,g3⟩:=hgw
  generalize w.drew.alloc (.cells (news.toArray++Builtin.zeroCells j.zero.cells (grownCap w ys.length 0 e - ys.length)) e)=w' at *
  generalize grownCap w ys.length 0 e=cap at *
  have hown:∀ b off,Ob.owns (.spare ys.length) ⟨w.heap.size,ys.length * j.size,(cap - ys.length) * j.size⟩ b off→w.heap.size≤b:=fun b off h=>by obtain ⟨rfl,_⟩:=h;exact Nat.le_refl _
  obtain ⟨h1,h2⟩:=hf.snoc g1 (o:=.spare ys.length) (l:=⟨w.heap.size,ys.length * j.size,(cap - ys.length) * j.size⟩) hown (fun q hq=>g3 q hq)
  have hfr:=h2.foot (ρ':=upd ρ L.length ⟨w.heap.size,ys.length * j.size,(cap - ys.length) * j.size⟩) rfl
  refine ⟨_,w',_,hrun,h1,.tok _ _ _ _ (by simp) ?_ (fun n hn=>?_),g1.grow,h2,.snoc _ _ _ _⟩
  ·refine rows_sl hcap hlen (hr.keep g1.grow hfr) fun q u hq=>⟨by rw [Nat.zero_add];exact g2 q u hq,fun hF=>?_⟩
   rw [Nat.zero_add] at hF
   have hq':q < ys.length * j.size:=by rw [← hr.1];exact (List.getElem?_eq_some_iff.1 hq).1
   rcases foot_snoc hF with h | ⟨_,h,_⟩
   ·have:=hf.foot_lt h;omega
   ·simp at h;omega
  ·simp at hn
   subst hn
   refine ⟨Nat.le_refl _,fun _=>?_⟩
   rw [upd_same]
   exact .inl ⟨rfl,by simp,rfl⟩
theorem append_more {P:Program} {w:World} {ρ:Pl} {L:List Ob} (hf:Fits w ρ L) {t t2 e k:Nat} {ty:TypeId} {j:TI} (hu:P.underlying t=some (.slice e)) (hj:TIOk P e j) (hb:j.bytes≤32768)
  {ds:List D} {v x:Value} (hk:L[k]?=some (.spare ds.length)) (hv:Rep w (foot ρ L) ρ L (.sl j.size ds (some k)) v) {ys:List D} {news:List Value} (hlen:∀ (i:Nat) d,ys[i]?=some d→d.cells.length=j.size)
  (hx:Appendix P w e j t2 x ys.length news) (hr:RowsOf w (foot ρ L) j.size ys news) (hn:ds.length+ys.length≤4294967296) :
  ∃ u w' ρ',(Builtin.append_ #[t,t2] ty #[v,x]).run P w= .ok u w'∧Post w ρ L (.sl j.size (ds++ys) (some k)) (L.set k (.spare (ds.length+ys.length))) u w' ρ':=by
 have hpos:0 < j.size:=Nat.pos_of_ne_zero hj.pos
 have hkl:k < L.length:=(List.getElem?_eq_some_iff.1 hk).1
 have hval:=hv.sl_inv
 have htok:TokMatch v j.size (ρ k):=by
  cases hv with
  | pure _ _ h=>cases h
  | tok _ _ _ _ _ _ hm=>exact (hm _ hk).2 rfl
 obtain ⟨base,cap,vs,rfl,hcap,hrows,hlenx,hbase⟩:=sl_rows hpos hval
 have hlen2:∀ (i:Nat) d,(ds++ys)[i]?=some d→d.cells.length=j.size:=by
  intro i d hi
  rcases Nat.lt_or_ge i ds.length with h | h
  ·rw [List.getElem?_append_left h] at hi;exact hlenx i d hi
  ·rw [List.getElem?_append_right h] at hi;exact hlen _ d hi
 obtain ⟨hroom,hgrow⟩:=hx.run base ds.length cap t ty hu
 have hspare:=hf.obj k _ hk
 by_cases hfits:ds.length+ys.length≤cap
 ·have hrun:=hroom hfits
  rcases hbase with ⟨rfl,rfl⟩ | ⟨b,off,rfl,hcells⟩
  ·
   have hy:ys=[]:=List.eq_nil_of_length_eq_zero (by simp at hfits;simpa using hfits)
   subst hy
   have hset:L.set k (.spare ([]:List D).length)=L:=by
    apply List.ext_getElem?
    intro i
    by_cases hi:i=k
    ·subst hi;rw [List.getElem?_set_self hkl,hk]
    ·rw [List.getElem?_set_ne (by omega)]
   have hnews:news=[]:=List.eq_nil_of_length_eq_zero (by simpa using hr.1)
   subst hnews
   refine ⟨.slice base 0 0,w,ρ,by cases base<;>exact hrun,?_⟩
   simp only [List.append_nil,List.length_nil,Nat.add_zero] at hset ⊢
   rw [hset]
   exact .same hf hv
  ·rcases htok with ⟨ht1,ht2,ht3⟩ | ⟨ht1,ht2⟩
   rotate_left
   ·have hy:ys=[]:=List.eq_nil_of_length_eq_zero (by omega)
    subst hy
    have hnews:news=[]:=List.eq_nil_of_length_eq_zero (by simpa using hr.1)
    subst hnews
    have hst:(storeCells ((⟨b,off,none⟩:Addr).add (ds.length * j.size)) []).run P w= .ok () w:=by
     rw [addr_add]
     have:=run_storeCells_cells (P:=P) b (off+ds.length * j.size) [] 0 w (by simp) (by simp) (by simp)
     simpa [World.setCells] using this
    simp only [hst,Result.andThen] at hrun
    have hset:L.set k (.spare ([]:List D).length)=L∨True:=.inr trivial
    have hset:L.set k (.spare ds.length)=L:=by
     apply List.ext_getElem?
     intro i
     by_cases hi:i=k
     ·subst hi;rw [List.getElem?_set_self hkl,hk]
     ·rw [List.getElem?_set_ne (by omega)]
    refine ⟨_,w,ρ,hrun,?_⟩
    simp only [List.append_nil,List.length_nil,Nat.add_zero] at hset ⊢
    rw [hset]
    exact .same hf hv
   dsimp only at ht1 ht2 ht3
   have hnl:news.length=ys.length * j.size:=hr.1
   have hle:ys.length * j.size≤(cap - ds.length) * j.size:=Nat.mul_le_mul_right _ (by omega)
   have hsplit:(cap - ds.length) * j.size=ys.length * j.size+(cap - (ds.length+ys.length)) * j.size:=by
    rw [← Nat.add_mul];congr 1;omega
   have hlsz:(ds.length+ys.length) * j.size=ds.length * j.size+ys.length * j.size:=Nat.add_mul _ _ _
   have hex:∀ q,q < news.length→∃ u,w.cell? ⟨b,off+ds.length * j.size+q,none⟩=some u:=fun q hq=>by
    have:=(hspare q (by omega)).1
    rw [ht1,ht2] at this
    exact this
   have hfz:∀ q,q < news.length→Soft w b (off+ds.length * j.size+q):=fun q hq=>by
    have:=(hspare q (by omega)).2
    rw [ht1,ht2] at this
    exact this
   have hst:(storeCells ((⟨b,off,none⟩:Addr).add (ds.length * j.size)) news).run P w= .ok () (w.setCells b (off+ds.length * j.size) news):=by
    rw [addr_add]
    have:=run_storeCells_cells (P:=P) b (off+ds.length * j.size) news 0 w (fun q hq=>by obtain ⟨u,hu⟩:=hex q hq;simp [hu]) (fun q hq=>by simpa using (hfz q hq).1) hr.2.1
    simpa using this
   simp only [hst,Result.andThen] at hrun
   have hext:=Ext.setCells w b (off+ds.length * j.size) news
   have hsame:=setCells_same b news (off+ds.length * j.size) w
   let l':Loc:=⟨b,off+(ds.length+ys.length) * j.size,(cap - (ds.length+ys.length)) * j.size⟩
   have hc:=Compat.setSpare (ρ:=ρ) (l':=l') (m:=ds.length+ys.length) hk (by omega) (fun h=>by
    have h0:ys.length=0:=by omega
    have:ρ.place k=⟨b,off+ds.length * j.size,(cap - ds.length) * j.size⟩:=by
     cases hρ:ρ.place k with
     | mk a1 a2 a3=>rw [hρ] at ht1 ht2 ht3;simp at ht1 ht2 ht3;rw [ht1,ht2,ht3]
    rw [this]
    show l'=_
    simp [l',h0])
   obtain ⟨g1,g2,g3⟩:=hf.update (l':=l') (o':=.spare (ds.length+ys.length)) hk hc _ (fun b' x ⟨e1,e2,e3⟩=>⟨by rw [ht1];exact e1,by rw [ht2];exact e2,by rw [ht2,ht3];omega⟩) hext
    (fun b' x ⟨e1,e2,e3⟩=>by
      have e2:off+(ds.length+ys.length) * j.size≤x:=e2
      have e3:x < off+(ds.length+ys.length) * j.size+(cap - (ds.length+ys.length)) * j.size:=e3
      exact .inl ⟨by rw [ht1];exact e1,by rw [ht2];omega,by rw [ht2,ht3];omega⟩)
    (fun _ _ q hq=>by
      have h1:=hspare (ys.length * j.size+q) (by
       have hq:q < (cap - (ds.length+ys.length)) * j.size:=hq
       rw [ht3];omega)
      rw [ht1,ht2] at h1
      have e1:off+(ds.length+ys.length) * j.size+q=off+ds.length * j.size+(ys.length * j.size+q):=by omega
      refine ⟨?_,?_⟩
      ·obtain ⟨u,hu⟩:=h1.1
       refine ⟨u,?_⟩
       show (w.setCells b _ news).cell? ⟨b,off+(ds.length+ys.length) * j.size+q,none⟩=_
       rw [setCells_other b news _ w b _ (fun _=>.inr (by omega)),e1]
       exact hu
      ·show Soft (w.setCells b _ news) b (off+(ds.length+ys.length) * j.size+q)
       rw [hsame.2.2.2.2.1,e1]
       exact h1.2)
   have hfr:=g3.foot (ρ':=upd ρ k l') rfl
   refine ⟨_,_,upd ρ k l',hrun,g1,.tok _ _ _ _ (by simpa using hkl) ?_ (fun n hn'=>?_),g2,g3,hc⟩
   ·have hkeep1:=hrows.keep g2.foot hfr
    have hkeep2:=hr.keep g2.foot hfr
    have hgoal:=rows_sl (b:=b) (off:=off) (cap:=cap) (by simpa using hfits) hlen2 (hkeep1.append hlen2 hkeep2) (fun q u hq=>?_)
    ·simpa using hgoal
    ·rcases Nat.lt_or_ge q vs.length with hq1 | hq1
     ·rw [List.getElem?_append_left hq1] at hq
      obtain ⟨h1,h2⟩:=hcells q u hq
      refine ⟨(g2.foot.cell _ _ (cell_lt h1) h2).trans h1,fun hF=>?_⟩
      rcases hfr b _ hF with h | h
      ·exact h2 h
      ·have:=cell_lt h1;omega
     ·rw [List.getElem?_append_right hq1] at hq
      have hq2:q - vs.length < news.length:=(List.getElem?_eq_some_iff.1 hq).1
      have hvl:=hrows.1
      have hat:=setCells_at b news (off+ds.length * j.size) w (q - vs.length) hq2 hex
      rw [show off+ds.length * j.size+(q - vs.length)=off+q by omega] at hat
      refine ⟨by rw [hat];exact hq,fun hF=>?_⟩
      have hown:Ob.owns (.spare ds.length) (ρ k) b (off+q):=⟨ht1.symm,by rw [ht2];omega,by rw [ht2,ht3];omega⟩
      rcases hF with ⟨i,o,h1,h2⟩ | h
      ·rcases set_get h1 with ⟨e1,e2⟩ | ⟨e1,e2⟩
       ·rw [e1,upd_same] at h2
        rw [e2] at h2
        obtain ⟨_,h3,_⟩:=h2
        have h3:off+(ds.length+ys.length) * j.size≤off+q:=h3
        omega
       ·rw [upd_ne e1] at h2
        exact e1 (hf.disj _ _ _ _ _ _ e2 hk h2 hown)
      ·exact hf.sep _ _ ⟨k,_,hk,hown⟩ h
   ·rw [List.getElem?_set_self hkl] at hn'
    cases hn'
    refine ⟨by simp,fun _=>?_⟩
    rw [upd_same]
    exact .inl ⟨rfl,rfl,rfl⟩
 ·
  have hrun:=hgrow (by omega) (by
   have:(ds.length+ys.length) * j.bytes≤4294967296 * 32768:=Nat.mul_le_mul hn hb
   omega) vs (fun w' hw=>by
    rcases hbase with ⟨rfl,rfl⟩ | ⟨b,off,rfl,hcells⟩
    ·have:vs=[]:=List.eq_nil_of_length_eq_zero (by simpa using hrows.1)
     subst this
     cases base<;>simp [Builtin.firstCells,loadCells,loadCellsFrom]
    ·exact run_firstCells_some w' _ _ ⟨b,off,none⟩ _ _ vs hrows.1 fun q u hq=>by rw [addr_add,hw];exact (hcells q u hq).1)
  have hcap2:ds.length+ys.length≤grownCap w (ds.length+ys.length) cap e:=grownCap_ge _ _ _ _
  have hgw:=grown_world (w:=w) (e:=e) (zs:=j.zero.cells) (vs:=vs++news) (len:=ds.length+ys.length) (cap:=grownCap w (ds.length+ys.length) cap e) (es:=j.size) hj.szero (by simp [hrows.1,hr.1,Nat.add_mul]) hcap2
  have harr:vs.toArray++news.toArray++Builtin.zeroCells j.zero.cells (grownCap w (ds.length+ys.length) cap e - (ds.length+ys.length))=(vs++news).toArray++Builtin.zeroCells j.zero.cells (grownCap w (ds.length+ys.length) cap e - (ds.length+ys.length)):=by simp
  rw [harr] at hrun
  obtain ⟨g1,g2,g3⟩:=hgw
  generalize w.drew.alloc (.cells ((vs++news).toArray++Builtin.zeroCells j.zero.cells (grownCap w (ds.length+ys.length) cap e - (ds.length+ys.length))) e)=w' at *
  generalize grownCap w (ds.length+ys.length) cap e=cap' at *
  let l':Loc:=⟨w.heap.size,(ds.length+ys.length) * j.size,(cap' - (ds.length+ys.length)) * j.size⟩
  have hyp:0 < ys.length:=by omega
  have hc:=Compat.setSpare (ρ:=ρ) (l':=l') (m:=ds.length+ys.length) hk (by omega) (fun h=>by omega)
  obtain ⟨h1,h2,h3⟩:=hf.update (l':=l') (o':=.spare (ds.length+ys.length)) hk hc F0 (fun _ _ f=>f.elim) g1 (fun b off ⟨e1,_,_⟩=>.inr (by rw [e1];exact Nat.le_refl _)) (fun _ _ q hq=>g3 q hq)
  have hfr:=h3.foot (ρ':=upd ρ k l') rfl
  refine ⟨_,w',upd ρ k l',hrun,h1,.tok _ _ _ _ (by simpa using hkl) ?_ (fun n hn'=>?_),h2,h3,hc⟩
  ·have hrw:=RowsOf.append hlen2 hrows hr
   have hgoal:=rows_sl (b:=w.heap.size) (off:=0) (cap:=cap') (by simpa using hcap2) hlen2 (hrw.keep h2.foot hfr) (fun q u hq=>⟨by rw [Nat.zero_add];exact g2 q u hq,fun hF=>?_⟩)
   ·simpa using hgoal
   ·rw [Nat.zero_add] at hF
    have hq':q < (ds++ys).length * j.size:=by rw [← hrw.1];exact (List.getElem?_eq_some_iff.1 hq).1
    rw [List.length_append] at hq'
    rcases hF with ⟨i,o,h4,h5⟩ | h
    ·rcases set_get h4 with ⟨e1,e2⟩ | ⟨e1,e2⟩
     ·rw [e1,upd_same] at h5
      rw [e2] at h5
      obtain ⟨_,h6,_⟩:=h5
      have h6:(ds.length+ys.length) * j.size≤q:=h6
      omega
     ·rw [upd_ne e1] at h5
      have:=hf.foot_lt (.inl ⟨i,o,e2,h5⟩)
      omega
    ·have:=hf.hid _ _ h
     omega
  ·rw [List.getElem?_set_self hkl] at hn'
   cases hn'
   refine ⟨by simp,fun _=>?_⟩
   rw [upd_same]
   exact .inl ⟨rfl,by simp [l'],rfl⟩
theorem exec_builtin' {P:Program} {w w':World} {a:Act} {o:Oper} {b:Builtin} {args:Array Operand} {ts:Array TypeId} {v:Value}
  (ho:o.op= .call { callee:=.builtin b,args:=args,argTypes:=ts })
  (h:∀ cs,(builtin b ts o.type cs (args.map a.eval)).run P w= .ok (.value v) w'):(execOp a.eval o).run P w= .ok (.value v) w':=exec_builtin ho (h _)
theorem append_sound {P:Program} {T:Tab} (hT:TabOk P T) {t t2:Nat} {x y:Operand} {σ:List (Nat×D)} {L:List Ob} {K:D→List Ob→Prop} {o:Oper}
  (ho:o.op= .call { callee:=.builtin .append,args:=#[x,y],argTypes:=#[t,t2] }) (h:appendOp T t t2 (evalD σ x) (evalD σ y) L K):∃ d L',OpOk P o σ L d L'∧K d L':=by
 unfold appendOp at h
 split at h<;>try exact h.elim
 rename_i i hi
 have hi:=hT _ _ hi
 split at h<;>try exact h.elim
 rename_i e hd
 have hu:=under_slice hi hd
 split at h<;>try exact h.elim
 rename_i j hj
 have hj:=hT _ _ hj
 split at h<;>try exact h.elim
 rename_i hb
 have hb:=Nat.le_of_ble_eq_true hb
 obtain ⟨ys,h,hys⟩:=ysZ_sound hT hj hb h
 have fin:∀ {w w':World} {a:Act} {v:Value},(Builtin.append_ #[t,t2] o.type #[a.eval x,a.eval y]).run P w= .ok v w'→(execOp a.eval o).run P w= .ok (.value v) w':=fun hr=>
  exec_builtin' ho fun cs=>by simp [builtin,hr]
 split at h<;>try exact h.elim
 ·rename_i hx
  obtain ⟨hn,hK⟩:=h.out
  have hK:=VS.out hK
  unfold NormL at hK
  refine ⟨_,_,OpOk.of_val fun a w ρ hf he=>?_,hK⟩
  have hv:=he.eval x
  rw [hx] at hv
  obtain ⟨ad,hv⟩:=hv.nilsl_inv
  obtain ⟨hlen,news,h1,h2⟩:=hys w ρ L _ (he.eval y) (by omega)
  obtain ⟨v,w',ρ',h3,h4⟩:=append_new (ty:=o.type) (a:=ad) hf hu hj hb hlen h1 h2 hn
  exact ⟨v,w',ρ',fin (by rw [hv];exact h3),h4⟩
 ·rename_i es ds k hx
  split at h<;>try exact h.elim
  rename_i hes
  have hes:=Nat.eq_of_beq_eq_true hes
  subst hes
  obtain ⟨ob,hk,h⟩:=nthK_eq h
  split at h<;>try exact h.elim
  rename_i n
  obtain ⟨⟨hn,hle⟩,h⟩:=h.out
  have h:=VS.out h
  unfold NormL at h
  have hK:=setLK_eq h
  rw [List.length_append] at hK
  refine ⟨_,_,OpOk.of_val fun a w ρ hf he=>?_,hK⟩
  have hv:=he.eval x
  rw [hx] at hv
  subst hn
  obtain ⟨hlen,news,h1,h2⟩:=hys w ρ L _ (he.eval y) (by omega)
  obtain ⟨v,w',ρ',h3,h4⟩:=append_more (ty:=o.type) hf hu hj hb hk hv hlen h1 h2 hle
  exact ⟨v,w',ρ',fin h3,h4⟩
def BytesS (ds:List D) (K:D→Prop):Prop:=∃ l:List UInt8,ds=l.map (fun c=>.int .u8 c.toNat)∧K (.str l)
def bytesStrK (x:D) (K:D→Prop):Prop:=
 match x with
 | .sl e ds _=>match Nat.beq e 1 with
  | true=>VS (BytesS ds K)
  | false=>False
 | .nilsl=>K (.str [])
 | _=>False
theorem bytesStr_sound {P:Program} {s t e:Nat} {x:Operand} {σ:List (Nat×D)} {K:D→Prop} {o:Oper} {i j ie:TI} (hi:TIOk P s i) (hj:TIOk P t j) (hie:TIOk P e ie)
  (hd:i.d= .slice e) (hde:ie.d= .int .u8) (hdj:j.d= .str)
  (ho:o.op= .convert s t x) (h:bytesStrK (evalD σ x) K):∃ d,(∀ L,OpOk P o σ L d L)∧K d:=by
 have h1:=under_slice hi hd
 have h2:=under_int hie hde
 have h3:=under_str hj hdj
 unfold bytesStrK at h
 split at h<;>try exact h.elim
 ·rename_i e' ds tok hx
  split at h<;>try exact h.elim
  rename_i he'
  have he':=Nat.eq_of_beq_eq_true he'
  subst he'
  obtain ⟨l,rfl,hK⟩:=h.out
  refine ⟨_,OpOk.of_pure fun a w ρ L hf he=>?_,hK⟩
  have hv:=he.eval x
  rw [hx] at hv
  refine ⟨.string ⟨l.toArray⟩,?_,.pure _ _ (.str _)⟩
  rcases hv.sl_inv.sl_shape with ⟨h4,ad,h5⟩ | ⟨b,off,cap,h5,h4,h6,h7⟩
  ·have hl:l=[]:=by simpa using h4
   subst hl
   cases ad with
   | none=>
    have:=run_convert_bytes_nil (P:=P) w s e h1 h2 0 0 t h3
    simp only [execOp,ho,h5,Sem.run_bind,this,Result.andThen,Sem.run_pure]
    rfl
   | some ad=>
    have:=run_convert_bytes_back (P:=P) w s t e ad 0 [] h1 h2 h3 (by simp)
    simp only [List.length_nil] at this
    simp only [execOp,ho,h5,Sem.run_bind,this,Result.andThen,Sem.run_pure]
  ·have:=run_convert_bytes_back (P:=P) w s t e ⟨b,off,none⟩ cap l h1 h2 h3 fun q hq=>by
    obtain ⟨u,h8,_,h9⟩:=h7 q (.int .u8 l[q].toNat) 0 (.int .u8 l[q].toNat) (by simp [hq]) rfl
    cases h9
    rw [addr_add]
    simpa using h8
   simp only [List.length_map] at h5
   simp only [execOp,ho,h5,Sem.run_bind,this,Result.andThen,Sem.run_pure]
 ·rename_i hx
  refine ⟨_,OpOk.of_pure fun a w ρ L hf he=>?_,h⟩
  have hv:=he.eval x
  rw [hx] at hv
  obtain ⟨ad,h5⟩:=hv.nilsl_inv
  refine ⟨.string ⟨#[]⟩,?_,.pure _ _ (.str [])⟩
  cases ad with
  | none=>
   have:=run_convert_bytes_nil (P:=P) w s e h1 h2 0 0 t h3
   simp only [execOp,ho,h5,Sem.run_bind,this,Result.andThen,Sem.run_pure]
   rfl
  | some ad=>
   have:=run_convert_bytes_back (P:=P) w s t e ad 0 [] h1 h2 h3 (by simp)
   simp only [List.length_nil] at this
   simp only [execOp,ho,h5,Sem.run_bind,this,Result.andThen,Sem.run_pure]
def cslB:D→Option (Nat×Nat×Nat)
 | .csl k off len=>some (k,off,len)
 | _=>none
theorem cslB_eq {d:D} {k off len:Nat} (h:cslB d=some (k,off,len)):d= .csl k off len:=by
 unfold cslB at h
 split at h
 ·cases h;rfl
 ·cases h
def cslStrK (T:Tab) (i j:TI) (k off len:Nat) (L:List Ob) (K:D→Prop):Prop:=
 match i.d with
 | .slice e=>match ty T e with
  | some ie=>match ie.d with
   | .int .u8=>match j.d with
    | .str=>nthK k L fun o=>match o with
     | .cells ds=>VS (SideS (off+len≤ds.length) (VS (BytesS ((ds.drop off).take len) K)))
     | _=>False
    | _=>False
   | _=>False
  | none=>False
 | _=>False
theorem cslStr_sound {P:Program} {T:Tab} (hT:TabOk P T) {s t k off len:Nat} {x:Operand} {σ:List (Nat×D)} {L:List Ob} {K:D→Prop} {o:Oper} {i j:TI} (hi:TIOk P s i) (hj:TIOk P t j)
  (ho:o.op= .convert s t x) (hx:evalD σ x= .csl k off len) (h:cslStrK T i j k off len L K):∃ d,OpOk P o σ L d L∧K d:=by
 unfold cslStrK at h
 split at h<;>try exact h.elim
 rename_i e hd
 split at h<;>try exact h.elim
 rename_i ie hie
 split at h<;>try exact h.elim
 rename_i hde
 split at h<;>try exact h.elim
 rename_i hdj
 have h1:=under_slice hi hd
 have h2:=under_int (hT _ _ hie) hde
 have h3:=under_str hj hdj
 obtain ⟨ob,hk,h⟩:=nthK_eq h
 split at h<;>try exact h.elim
 rename_i ds
 obtain ⟨hb,h⟩:=h.out
 obtain ⟨l,hl,hK⟩:=h.out
 have hll:l.length=len:=by
  have:=congrArg List.length hl
  rw [List.length_take,List.length_drop,List.length_map] at this
  omega
 refine ⟨_,OpOk.of_val fun a w ρ hf he=>?_,hK⟩
 have hv:=he.eval x
 rw [hx] at hv
 obtain ⟨ad,cap,h5,hkl,hcap,hm⟩:=hv.csl_inv
 obtain ⟨o1,o2⟩:=hf.obj k _ hk
 refine ⟨.string ⟨l.toArray⟩,w,ρ,?_,.same hf (.pure _ _ (.str _))⟩
 have:=run_convert_bytes_back (P:=P) w s t e ad cap l h1 h2 h3 fun q hq=>by
  have hq2:ds[off+q]?=some (.int .u8 (l[q].toNat:Int)):=by
   have:((ds.drop off).take len)[q]?=some (.int .u8 (l[q].toNat:Int)):=by rw [hl];simp [hq]
   rw [List.getElem?_take,if_pos (by omega),List.getElem?_drop] at this
   exact this
  obtain ⟨⟨u,h8,h9⟩,_⟩:=o2 _ _ hq2
  rw [hm ds hk (by omega),addr_add,Nat.add_assoc,h8,h9.int_inv]
 rw [hll] at this
 simp only [execOp,ho,h5,Sem.run_bind,this,Result.andThen,Sem.run_pure]
theorem strBytes_sound {P:Program} {s t e:Nat} {x:Operand} {σ:List (Nat×D)} {L:List Ob} {K:D→List Ob→Prop} {o:Oper} {i j ie:TI} (hi:TIOk P s i) (hj:TIOk P t j) (hie:TIOk P e ie)
  (hdi:i.d= .str) (hd:j.d= .slice e) (hde:ie.d= .int .u8) {l:List UInt8} (hx:evalD σ x= .str l)
  (ho:o.op= .convert s t x) (h:K (.sl 1 (l.map fun c=>.int .u8 c.toNat) (some L.length)) (L++[.spare l.length])):∃ d L',OpOk P o σ L d L'∧K d L':=by
 have h1:=under_slice hj hd
 have h2:=under_int hie hde
 have h3:=under_str hi hdi
 refine ⟨_,_,OpOk.of_val fun a w ρ hf he=>?_,h⟩
 have hv:=he.eval x
 rw [hx] at hv
 have hrun:=run_bytes_of_string (P:=P) w s t e ⟨l.toArray⟩ h3 h1 h2
 have hsz:(⟨l.toArray⟩:ByteArray).size=l.length:=size_mk l
 have hcap:l.length≤grownCap w l.length 0 e:=grownCap_ge _ _ _ _
 have hrow:bytesRow ⟨l.toArray⟩ (grownCap w l.length 0 e)=((l.map fun c=>Value.int .u8 c.toNat)++List.replicate (grownCap w l.length 0 e - l.length) (Value.int .u8 0)).toArray:=by
  unfold bytesRow
  rw [hsz]
  apply Array.ext'
  simp
 rw [hsz,hrow] at hrun
 generalize grownCap w l.length 0 e=cap at *
 generalize hrl:((l.map fun c=>Value.int .u8 c.toNat)++List.replicate (cap - l.length) (Value.int .u8 0)).toArray=row at *
 have hrs:row.size=cap:=by rw [← hrl];simp;omega
 let w':=w.drew.alloc (.cells row e (row.size,row.size+1))
 have hcell:∀ q,w'.cell? ⟨w.heap.size,q,none⟩=row[q]?:=fun q=>World.cell?_alloc_mark w.drew row e _ q
 have hfz:∀ q,q < cap→Soft w' w.heap.size q:=fun q hq=>by
  exact soft_alloc_mark w.drew row e _ _ q (.inr (Nat.le_refl _)) (by omega)
 have hext:Ext F0 w w':=(Ext.drew w).trans0 (Ext.alloc w.drew _)
 have hown:∀ b off,Ob.owns (.spare l.length) ⟨w.heap.size,l.length,cap - l.length⟩ b off→w.heap.size≤b:=fun b off h=>by obtain ⟨rfl,_⟩:=h;exact Nat.le_refl _
 obtain ⟨g1,g2⟩:=hf.snoc hext (o:=.spare l.length) (l:=⟨w.heap.size,l.length,cap - l.length⟩) hown (fun q hq=>by
  have hq:q < cap - l.length:=hq
  have hz2:=hfz (l.length+q) (by omega)
  refine ⟨?_,hz2⟩
  show ∃ v,w'.cell? ⟨w.heap.size,l.length+q,none⟩=some v
  rw [hcell]
  exact ⟨_,Array.getElem?_eq_getElem (by omega)⟩)
 refine ⟨.slice (some ⟨w.heap.size,0,none⟩) l.length cap,w',upd ρ L.length ⟨w.heap.size,l.length,cap - l.length⟩,?_,g1,.tok _ _ _ _ (by simp) ?_ (fun n hn=>?_),hext.grow,g2,.snoc _ _ _ _⟩
 ·simp only [execOp,ho,hv.str_inv,Sem.run_bind,hrun,Result.andThen,Sem.run_pure]
  rfl
 ·have hgoal:=rows_sl (w:=w') (F:=foot (upd ρ L.length ⟨w.heap.size,l.length,cap - l.length⟩) (L++[.spare l.length])) (e:=1) (b:=w.heap.size) (off:=0) (cap:=cap) (els:=l.map fun c=>D.int .u8 c.toNat) (vs:=l.map fun c=>Value.int .u8 c.toNat) (by simpa using hcap)
   (fun i d hi=>by simp only [List.getElem?_map,Option.map_eq_some_iff] at hi;obtain ⟨c,_,rfl⟩:=hi;rfl)
   ⟨by simp,by simp;intro a _;rfl,fun i d q c hi hq=>by
     simp only [List.getElem?_map,Option.map_eq_some_iff] at hi
     obtain ⟨c',h2,rfl⟩:=hi
     cases q with
     | zero=>simp [D.cells] at hq;subst hq;exact ⟨_,by simp [h2],.int _ _⟩
     | succ q=>simp [D.cells] at hq⟩
   (fun q u hq=>by
     have hq':q < l.length:=by simpa using (List.getElem?_eq_some_iff.1 hq).1
     refine ⟨?_,fun hF=>?_⟩
     ·rw [Nat.zero_add,hcell,← hrl]
      rw [List.getElem?_toArray,List.getElem?_append_left (by simpa using hq')]
      exact hq
     ·rw [Nat.zero_add] at hF
      rcases foot_snoc hF with h | ⟨_,h,_⟩
      ·have:=hf.foot_lt h;omega
      ·have h:l.length≤q:=h
       omega)
  simpa using hgoal
 ·simp at hn
  subst hn
  refine ⟨by simp,fun _=>?_⟩
  rw [upd_same]
  exact .inl ⟨rfl,by simp,by simp⟩
end Go.Plat
