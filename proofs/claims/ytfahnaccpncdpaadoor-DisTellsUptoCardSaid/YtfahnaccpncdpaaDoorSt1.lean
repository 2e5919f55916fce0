/-
  A part of the proof: what the given program's functions answer, each once; conditions that are enough for it.
-/
import Derived.Test.YtfahnaccpncdpaaDoorProg
import Derived.KernelRfl
import Derived.Test.YtfahnaccpncdpaaDoorFw3
import Derived.Lib.LaidTab
import Derived.Sort.Grow
import Derived.Deep.Draws
import Derived.Below
import Derived.Shelf.Strings.Builder1
import Derived.Shelf.Strings.TrimSpace
import Derived.Shelf.Small.Utf8
import Derived.Shelf.Strings.BuilderF
import Derived.Shelf.Strings.BuilderK
import Derived.Shelf.Strconv.Itoa0
import Derived.Shelf.Strconv.Itoa1
import Derived.Shelf.LaysM
import Derived.Shelf.Strconv.Itoa2
import Derived.Shelf.Strconv.Itoa3
import Derived.Shelf.Strconv.Itoa4
import Derived.Shelf.Unicode.Latin
import Derived.Shelf.Unicode.Decode
import Derived.Shelf.Unicode.DecodeSlow
import Derived.Shelf.Unicode.DecodeAny
import Derived.Shelf.Unicode.Is16White
import Derived.Shelf.Unicode.IsSpaceAny
import Derived.Shelf.Unicode.DecodeLast
import Derived.Shelf.Unicode.Is16WhiteD
import Derived.Shelf.Unicode.Is16Any
import Derived.Shelf.Unicode.Is32Any
import Derived.Shelf.Unicode.ExclAny
import Derived.Shelf.Slices.Turned
import Derived.Shelf.RegionOpenPlain
import Derived.Lib.Walk
import Derived.Lib.Builder
import Derived.Lib.UnsafeStr
import Derived.WalkKit
import Derived.Laws.Externs
import Derived.Lib.AppendStr
import Derived.Lib.ItoaLen
namespace Go.Proofs.YtfahnaccpncdpaaDoor
open Go Go.Plat
set_option maxRecDepth 100000
theorem TIOk.of {P:Program} {t:Nat} {i:TI} (h1:(P.underlying t).map tdOf=some i.d) (h2:(P.info? t).map (fun x=>(x.size,x.bytes,x.zero))=some (i.size,i.bytes,some i.zero)) (h3:Nat.beq i.size 0=false) (h3b:Nat.beq i.bytes 0=false) (h4:Nat.beq i.zero.cells.size i.size=true)
  (h5:(match P.underlying t with | some (.struct fs)=>fs.toList.all fun f=>(P.info? f.type).isSome | _=>true)=true):TIOk P t i where
 under:=by
  cases h:P.underlying t with
  | none=>rw [h] at h1;cases h1
  | some d=>rw [h] at h1;exact ⟨d,rfl,by simpa using h1⟩
 info:=by
  cases h:P.info? t with
  | none=>rw [h] at h2;cases h2
  | some x=>rw [h] at h2;simp at h2;exact ⟨x,rfl,h2.1,h2.2.1,h2.2.2⟩
 pos:=by intro h;rw [h] at h3;simp at h3
 bpos:=by intro h;rw [h] at h3b;simp at h3b
 szero:=Nat.eq_of_beq_eq_true h4
 fin:=h5
theorem TabOk.of {P:Program}:∀ {l:Tab},l.map (fun p=>((P.underlying p.1).map tdOf,(P.info? p.1).map fun x=>(x.size,x.bytes,x.zero)))=l.map (fun p=>(some p.2.d,some (p.2.size,p.2.bytes,some p.2.zero))) →
  l.all (fun p=>!Nat.beq p.2.size 0 && !Nat.beq p.2.bytes 0 && Nat.beq p.2.zero.cells.size p.2.size && (match P.underlying p.1 with | some (.struct fs)=>fs.toList.all fun f=>(P.info? f.type).isSome | _=>true))=true→TabOk P l
 | [],_,_=>.nil _
 | (t,i)::l,h,g=>by
  rw [List.map_cons,List.map_cons] at h
  injection h with h1 h2
  rw [Prod.mk.injEq] at h1
  rw [List.all_cons,Bool.and_eq_true] at g
  obtain ⟨g1,g2⟩:=g
  simp only [Bool.and_eq_true,Bool.not_eq_true'] at g1
  obtain ⟨⟨⟨a,b⟩,c⟩,d⟩:=g1
  exact .cons (TIOk.of h1.1 h1.2 a b c d) (TabOk.of h2 g2)
def tab:Tab:=[
(3,⟨(.int .i64),1,8,(.int .i64 0)⟩),
(4,⟨.bool,1,1,(.bool false)⟩),
(5,⟨(.int .u8),1,1,(.int .u8 0)⟩),
(9,⟨.str,1,16,(.string ⟨#[]⟩)⟩),
(22,⟨(.slice 5),1,24,(.slice none 0 0)⟩),
(2,⟨(.int .i64),1,8,(.int .i64 0)⟩),
(12,⟨(.int .u64),1,8,(.int .u64 0)⟩),
(20,⟨.iface,1,16,.nilIface⟩),
(21,⟨(.int .i32),1,4,(.int .i32 0)⟩),
(23,⟨(.struct [(0,3),(1,3),(2,3),(3,3)]),4,32,(.agg #[(.int .i64 0),(.int .i64 0),(.int .i64 0),(.int .i64 0)])⟩),
(24,⟨(.struct [(0,3),(1,3),(2,3),(3,3)]),4,32,(.agg #[(.int .i64 0),(.int .i64 0),(.int .i64 0),(.int .i64 0)])⟩),
(26,⟨(.int .i64),1,8,(.int .i64 0)⟩),
(32,⟨(.slice 3),1,24,(.slice none 0 0)⟩),
(41,⟨(.ptr 43),1,8,(.pointer none)⟩),
(42,⟨(.struct [(0,41),(1,22)]),2,32,(.agg #[(.pointer none),(.slice none 0 0)])⟩),
(43,⟨(.struct [(0,41),(1,22)]),2,32,(.agg #[(.pointer none),(.slice none 0 0)])⟩),
(45,⟨.iface,1,16,.nilIface⟩),
(46,⟨.iface,1,16,.nilIface⟩),
(51,⟨(.slice 9),1,24,(.slice none 0 0)⟩),
(52,⟨(.map 3 4),1,8,(.map none)⟩),
(53,⟨(.struct [(0,9),(1,3),(2,9)]),3,40,(.agg #[(.string ⟨#[]⟩),(.int .i64 0),(.string ⟨#[]⟩)])⟩),
(54,⟨(.struct [(0,9),(1,3),(2,9)]),3,40,(.agg #[(.string ⟨#[]⟩),(.int .i64 0),(.string ⟨#[]⟩)])⟩),
(56,⟨(.map 3 54),1,8,(.map none)⟩),
(64,⟨(.slice 67),1,24,(.slice none 0 0)⟩),
(66,⟨(.struct [(0,3),(1,9),(2,3),(3,3)]),4,40,(.agg #[(.int .i64 0),(.string ⟨#[]⟩),(.int .i64 0),(.int .i64 0)])⟩),
(67,⟨(.struct [(0,3),(1,9),(2,3),(3,3)]),4,40,(.agg #[(.int .i64 0),(.string ⟨#[]⟩),(.int .i64 0),(.int .i64 0)])⟩),
(71,⟨(.int .u64),1,8,(.int .u64 0)⟩),
(75,⟨(.ptr 5),1,8,(.pointer none)⟩),
(81,⟨(.int .u32),1,4,(.int .u32 0)⟩),
(83,⟨(.ptr 96),1,8,(.pointer none)⟩),
(87,⟨(.arr 24 5),24,24,(.agg #[(.int .u8 0),(.int .u8 0),(.int .u8 0),(.int .u8 0),(.int .u8 0),(.int .u8 0),(.int .u8 0),(.int .u8 0),(.int .u8 0),(.int .u8 0),(.int .u8 0),(.int .u8 0),(.int .u8 0),(.int .u8 0),(.int .u8 0),(.int .u8 0),(.int .u8 0),(.int .u8 0),(.int .u8 0),(.int .u8 0),(.int .u8 0),(.int .u8 0),(.int .u8 0),(.int .u8 0)])⟩),
(88,⟨(.int .u64),1,8,(.int .u64 0)⟩),
(93,⟨(.slice 99),1,24,(.slice none 0 0)⟩),
(94,⟨(.slice 102),1,24,(.slice none 0 0)⟩),
(95,⟨(.struct [(0,93),(1,94),(2,3)]),3,56,(.agg #[(.slice none 0 0),(.slice none 0 0),(.int .i64 0)])⟩),
(96,⟨(.struct [(0,93),(1,94),(2,3)]),3,56,(.agg #[(.slice none 0 0),(.slice none 0 0),(.int .i64 0)])⟩),
(97,⟨(.int .u16),1,2,(.int .u16 0)⟩),
(98,⟨(.struct [(0,97),(1,97),(2,97)]),3,6,(.agg #[(.int .u16 0),(.int .u16 0),(.int .u16 0)])⟩),
(99,⟨(.struct [(0,97),(1,97),(2,97)]),3,6,(.agg #[(.int .u16 0),(.int .u16 0),(.int .u16 0)])⟩),
(101,⟨(.struct [(0,81),(1,81),(2,81)]),3,12,(.agg #[(.int .u32 0),(.int .u32 0),(.int .u32 0)])⟩),
(102,⟨(.struct [(0,81),(1,81),(2,81)]),3,12,(.agg #[(.int .u32 0),(.int .u32 0),(.int .u32 0)])⟩),
(105,⟨(.arr 20 88),20,160,(.agg #[(.int .u64 0),(.int .u64 0),(.int .u64 0),(.int .u64 0),(.int .u64 0),(.int .u64 0),(.int .u64 0),(.int .u64 0),(.int .u64 0),(.int .u64 0),(.int .u64 0),(.int .u64 0),(.int .u64 0),(.int .u64 0),(.int .u64 0),(.int .u64 0),(.int .u64 0),(.int .u64 0),(.int .u64 0),(.int .u64 0)])⟩),
(106,⟨(.arr 65 5),65,65,(.agg #[(.int .u8 0),(.int .u8 0),(.int .u8 0),(.int .u8 0),(.int .u8 0),(.int .u8 0),(.int .u8 0),(.int .u8 0),(.int .u8 0),(.int .u8 0),(.int .u8 0),(.int .u8 0),(.int .u8 0),(.int .u8 0),(.int .u8 0),(.int .u8 0),(.int .u8 0),(.int .u8 0),(.int .u8 0),(.int .u8 0),(.int .u8 0),(.int .u8 0),(.int .u8 0),(.int .u8 0),(.int .u8 0),(.int .u8 0),(.int .u8 0),(.int .u8 0),(.int .u8 0),(.int .u8 0),(.int .u8 0),(.int .u8 0),(.int .u8 0),(.int .u8 0),(.int .u8 0),(.int .u8 0),(.int .u8 0),(.int .u8 0),(.int .u8 0),(.int .u8 0),(.int .u8 0),(.int .u8 0),(.int .u8 0),(.int .u8 0),(.int .u8 0),(.int .u8 0),(.int .u8 0),(.int .u8 0),(.int .u8 0),(.int .u8 0),(.int .u8 0),(.int .u8 0),(.int .u8 0),(.int .u8 0),(.int .u8 0),(.int .u8 0),(.int .u8 0),(.int .u8 0),(.int .u8 0),(.int .u8 0),(.int .u8 0),(.int .u8 0),(.int .u8 0),(.int .u8 0),(.int .u8 0)])⟩),
(109,⟨(.ptr 99),1,8,(.pointer none)⟩),
(110,⟨(.ptr 102),1,8,(.pointer none)⟩),
(112,⟨(.struct [(0,5),(1,5)]),2,2,(.agg #[(.int .u8 0),(.int .u8 0)])⟩),
(113,⟨(.struct [(0,5),(1,5)]),2,2,(.agg #[(.int .u8 0),(.int .u8 0)])⟩),
(114,⟨(.arr 16 113),32,32,(.agg #[(.int .u8 0),(.int .u8 0),(.int .u8 0),(.int .u8 0),(.int .u8 0),(.int .u8 0),(.int .u8 0),(.int .u8 0),(.int .u8 0),(.int .u8 0),(.int .u8 0),(.int .u8 0),(.int .u8 0),(.int .u8 0),(.int .u8 0),(.int .u8 0),(.int .u8 0),(.int .u8 0),(.int .u8 0),(.int .u8 0),(.int .u8 0),(.int .u8 0),(.int .u8 0),(.int .u8 0),(.int .u8 0),(.int .u8 0),(.int .u8 0),(.int .u8 0),(.int .u8 0),(.int .u8 0),(.int .u8 0),(.int .u8 0)])⟩),
(117,⟨(.arr 64 5),64,64,(.agg #[(.int .u8 0),(.int .u8 0),(.int .u8 0),(.int .u8 0),(.int .u8 0),(.int .u8 0),(.int .u8 0),(.int .u8 0),(.int .u8 0),(.int .u8 0),(.int .u8 0),(.int .u8 0),(.int .u8 0),(.int .u8 0),(.int .u8 0),(.int .u8 0),(.int .u8 0),(.int .u8 0),(.int .u8 0),(.int .u8 0),(.int .u8 0),(.int .u8 0),(.int .u8 0),(.int .u8 0),(.int .u8 0),(.int .u8 0),(.int .u8 0),(.int .u8 0),(.int .u8 0),(.int .u8 0),(.int .u8 0),(.int .u8 0),(.int .u8 0),(.int .u8 0),(.int .u8 0),(.int .u8 0),(.int .u8 0),(.int .u8 0),(.int .u8 0),(.int .u8 0),(.int .u8 0),(.int .u8 0),(.int .u8 0),(.int .u8 0),(.int .u8 0),(.int .u8 0),(.int .u8 0),(.int .u8 0),(.int .u8 0),(.int .u8 0),(.int .u8 0),(.int .u8 0),(.int .u8 0),(.int .u8 0),(.int .u8 0),(.int .u8 0),(.int .u8 0),(.int .u8 0),(.int .u8 0),(.int .u8 0),(.int .u8 0),(.int .u8 0),(.int .u8 0),(.int .u8 0)])⟩)]
theorem tabOk:TabOk Tryd.prog tab:=TabOk.of (by kernel_rfl) (by kernel_rfl)
theorem mixed:Tryd.prog.follows .mixedOrders=true:=by kernel_rfl
theorem vcOk {n:Nat} {E:Entry} (c:Code) {Q:Ex→List (Nat×D)→List Ob→Prop} {σ:List (Nat×D)} {L:List Ob} (h:vcK Tryd.prog tab n E c Q σ L):AWP Tryd.prog n E c Q σ L:=awp_vc tabOk mixed c h
abbrev n_pllaw8_DisTells:Nat:=3
abbrev n_dis_Text:Nat:=4
abbrev n_plref6_Text:Nat:=5
abbrev n_plref1_Wrong:Nat:=6
abbrev n_dis_To:Nat:=7
abbrev n_plref6_To:Nat:=8
abbrev n_dis_Line:Nat:=9
abbrev n_plref6_Line:Nat:=10
abbrev n_dis_Text_1:Nat:=11
abbrev n_isa_Decode:Nat:=12
abbrev n_isa_Get:Nat:=13
abbrev n_dis_fine:Nat:=14
abbrev n_isa_Encode:Nat:=15
abbrev n_slices_Contains_int_int:Nat:=16
abbrev n_strings_Builder_WriteString:Nat:=17
abbrev n_dis_name:Nat:=18
abbrev n_strconv_Itoa:Nat:=19
abbrev n_strings_Builder_String:Nat:=20
abbrev n_plref1_Decode:Nat:=21
abbrev n_plref6_hex:Nat:=22
abbrev n_plref1_Rows:Nat:=23
abbrev n_plref1_Range:Nat:=24
abbrev n_plref1_Has:Nat:=25
abbrev n_isa_Info:Nat:=26
abbrev n_strings_TrimSpace:Nat:=27
abbrev n_isa_rows:Nat:=28
abbrev n_isa_mask:Nat:=29
abbrev n_isa_uses:Nat:=30
abbrev n_isa_signed:Nat:=31
abbrev n_isa_Wrong:Nat:=32
abbrev n_slices_Index_int_int:Nat:=33
abbrev n_strings_Builder_copyCheck:Nat:=34
abbrev n_strconv_FormatInt:Nat:=35
abbrev n_isa_Range:Nat:=40
abbrev n_internal_strconv_FormatInt:Nat:=42
abbrev n_internal_strconv_formatBits:Nat:=50
abbrev n_internal_strconv_isPowerOfTwo:Nat:=59
abbrev n_math_bits_TrailingZeros:Nat:=60
abbrev n_math_bits_TrailingZeros64:Nat:=63
end Go.Proofs.YtfahnaccpncdpaaDoor
namespace Go.Proofs.YtfahnaccpncdpaaDoor
open Go Go.Plat
set_option linter.unusedVariables false
set_option linter.unusedSimpArgs false
set_option maxRecDepth 100000
set_option maxHeartbeats 2000000
attribute [local irreducible] AWP Arith BitS BytesS CallS CatS DrawS EndS IdxS LookS LoopEnd Meets ModeS NilS NormL NormM QuoS RemS ShlS ShrS SideS SplitS bitI
theorem ar_eq {k:IntKind} {n m:Int} {K:D→Prop} (h:k.wrap n=m) (hK:K (.int k m)):Arith k n K:=by unfold Arith;rwa [h]
theorem shr_eq {k:IntKind} {x y m:Int} {K:D→Prop} (hy:0≤y) (h:x.fdiv (2 ^ (min y.toNat k.bits))=m) (hK:K (.int k m)):ShrS k x y K:=by unfold ShrS;rw [h];exact ⟨hy,hK⟩
theorem tz_meets:Meets Tryd.prog n_math_bits_TrailingZeros64 (SpecP (fun _:Unit=>True) (fun _=>[.int .u64 16]) fun _=>.int .i64 4):=by
 refine meets_f tabOk Tryd.func63 rfl (by decide) ?_
 rintro _ -
 refine ⟨Nat.le_refl _,by simp [Tryd.f63],fun E hE=>?_⟩
 refine vcOk _ ?_
 (all_goals refine qgp ?_<;>(repeat' first | exact trivial | intro hc | refine And.intro ?_ ?_)<;>refine Lf.mk ?_)
 refine ar_eq (m:=18446744073709551600) (by decide) ?_
 (all_goals refine qgp ?_<;>(repeat' first | exact trivial | intro hc | refine And.intro ?_ ?_)<;>refine Lf.mk ?_)
 refine bit_mk (r:=16) (by kernel_rfl) ?_
 (all_goals refine qgp ?_<;>(repeat' first | exact trivial | intro hc | refine And.intro ?_ ?_)<;>refine Lf.mk ?_)
 refine ar_eq (m:=4573923408821661840) (by decide) ?_
 (all_goals refine qgp ?_<;>(repeat' first | exact trivial | intro hc | refine And.intro ?_ ?_)<;>refine Lf.mk ?_)
 refine shr_eq (m:=15) (by decide) (by decide) ?_
 refine VS.mk ?_
 refine sd_mk (by decide) ?_
 refine VS.mk ?_
 refine ix_rfl (d:=.int .u8 4) (by decide) rfl ?_
 (all_goals refine qgp ?_<;>(repeat' first | exact trivial | intro hc | refine And.intro ?_ ?_)<;>refine Lf.mk ?_)
 exact end_p (VS.mk (LeD.of_eq rfl))
theorem pow_meets:Meets Tryd.prog n_internal_strconv_isPowerOfTwo (SpecP (fun _:Unit=>True) (fun _=>[.int .i64 16]) fun _=>.bool true):=by
 refine meets_f tabOk Tryd.func59 rfl (by decide) ?_
 rintro _ -
 refine ⟨Nat.le_refl _,by simp [Tryd.f59],fun E hE=>?_⟩
 refine vcOk _ ?_
 (all_goals refine qgp ?_<;>(repeat' first | exact trivial | intro hc | refine And.intro ?_ ?_)<;>refine Lf.mk ?_)
 exact end_p (VS.mk (LeD.of_eq rfl))
end Go.Proofs.YtfahnaccpncdpaaDoor
namespace Go.Plat
open Go Go.Sort
set_option linter.unusedVariables false
set_option linter.unusedSimpArgs false
theorem Ext.growL (w:World):∀ (l:List Obj),Ext F0 w (Sort.grow w l.toArray)
 | []=>by rw [show (([]:List Obj).toArray)= #[] from rfl,grow_empty];exact .refl _ _
 | o::l=>by
  have e:Sort.grow w (o::l).toArray=Sort.grow (w.alloc o) l.toArray:=by
   rw [alloc_eq_grow,grow_grow]
   congr 1
   simp
  rw [e]
  exact (Ext.alloc w o).trans0 (Ext.growL _ l)
theorem Ext.growD (w:World) (k:Nat) (os:Array Obj):Ext F0 w (Sort.grow (w.drewN k) os):=by
 have h1:Ext F0 w (w.drewN k):=⟨rfl,rfl,rfl,Nat.le_refl _,fun _ _ _=>rfl,fun _ _ _ _=>rfl,fun _ _ _ _ _ h=>h,fun _ _ h=>h⟩
 have h2:=Ext.growL (w.drewN k) os.toList
 simp only [Array.toArray_toList] at h2
 exact h1.trans0 h2
theorem GOk.tab {w:World} {F:Nat→Nat→Prop} (h:GOk w F) {P:Program} {name:String} {g:Nat} {ns:List Nat} {k:IntKind} {zs:List Int}
  (hn:P.globalNamed name=some g) (hg:findG globs g=some (ns.map fun n=>D.int k (n:Nat))) (hz:zs=ns.map fun n=>((n:Nat):Int)) (h2:ns≠[]):Lib.TabIs P w name k zs:=by
 obtain ⟨h1,_,⟨row,t,z,h3,h4⟩,_⟩:=h g _ hg
 have hs:row.size=ns.length:=by
  rcases h4 with h4 | h4
  ·rw [h4,List.length_map]
  ·match ns,h2 with
   | n::r,_=>cases h4
 unfold Lib.TabIs World.var?
 rw [hn]
 show (match w.heap[g]? with
  | some (.cells cs _ _)=>some cs
  | _=>none)=_
 rw [h3]
 dsimp only
 congr 1
 apply Array.ext_getElem?
 intro j
 subst hz
 by_cases hj:j < ns.length
 ·have hc:(ns.map fun n=>D.int k (n:Nat))[j]?=some (.int k (ns[j]:Nat)):=by rw [List.getElem?_map,List.getElem?_eq_getElem hj];rfl
  obtain ⟨b,off,e,hv⟩:=(Rep.pure (ρ:=⟨fun _=>⟨0,0,0⟩,fun _ _=>False⟩) (L:=[]) _ _ h1).ptr_inv
  cases e
  obtain ⟨u,h5,_,h6⟩:=hv j _ hc
  cases h6
  rw [Nat.zero_add] at h5
  simp only [World.cell?,h3] at h5
  have h5:row[j]?=_:=h5
  rw [h5]
  simp [hj]
 ·rw [Array.getElem?_eq_none (by omega)]
  simp [Nat.le_of_not_lt hj]
theorem RepL.le {w:World} {F:Nat→Nat→Prop} {ρ:Pl} {L:List Ob} {ds ds':List D} {vs:List Value} (has:LeL ds ds') (hr:RepL w F ρ L ds vs):RepL w F ρ L ds' vs:=by
 refine ⟨hr.1.trans has.1,fun i d v h1 h2=>?_⟩
 have hlt:i < ds.length:=by rw [has.1];exact (List.getElem?_eq_some_iff.1 h1).1
 exact has.2 i _ d (List.getElem?_eq_getElem hlt) h1 _ _ _ _ _ (hr.2 i _ v (List.getElem?_eq_getElem hlt) h2)
theorem meets_lib {P:Program} {f:Nat} {α:Type} {I:α→Prop} {A:α→List D} {R:α→D} (hc:Callable P f)
  (h:∀ p,I p→∀ (w:World) (F:Nat→Nat→Prop),GOk w F→∀ vs:List Value,vs.length=(A p).length→(∀ (i:Nat) d v,(A p)[i]?=some d→vs[i]?=some v→RepP w F d v) →
    Calls P f vs.toArray w fun e w'=>∃ v,e= .returned v∧Ext F0 w w'∧RepP w' F (R p) v):Meets P f (SpecP I A R):=by
 refine ⟨hc,?_⟩
 rintro av L d L' ⟨p,hI,has,rfl,rfl,rfl⟩ w ρ vs hf hr
 have hr:=hr.le has
 refine (h p hI w _ hf.glob vs hr.1 fun i d v h1 h2=>rep_nil (hr.2 i d v h1 h2)).mono ?_
 rintro e w' ⟨v,rfl,he,hv⟩
 exact ⟨v,ρ,rfl,hf.grow he,.pure _ _ hv,he.grow,.refl _ _,.refl _ _⟩
end Go.Plat
namespace Go.Proofs.YtfahnaccpncdpaaDoor
open Go Go.Plat
set_option linter.unusedVariables false
set_option linter.unusedSimpArgs false
set_option maxRecDepth 100000
set_option maxHeartbeats 2000000
attribute [local irreducible] AWP Arith BitS BytesS CallS CatS DrawS EndS IdxS LookS LoopEnd Meets ModeS NilS NormL NormM QuoS RemS ShlS ShrS SideS SplitS bitI
theorem tzs_meets:Meets Tryd.prog n_math_bits_TrailingZeros (SpecP (fun _:Unit=>True) (fun _=>[.int .u64 16]) fun _=>.int .i64 4):=by
 refine meets_f tabOk Tryd.func60 rfl (by decide) ?_
 rintro _ -
 refine ⟨Nat.le_refl _,by simp [Tryd.f60],fun E hE=>?_⟩
 refine vcOk _ ?_
 (all_goals refine qgp ?_<;>(repeat' first | exact trivial | intro hc | refine And.intro ?_ ?_)<;>refine Lf.mk ?_)
 refine call_p tz_meets () trivial (VS.mk (LeL.of_eq rfl)) ?_
 (all_goals refine qgp ?_<;>(repeat' first | exact trivial | intro hc | refine And.intro ?_ ?_)<;>refine Lf.mk ?_)
 exact end_p (VS.mk (LeD.of_eq rfl))
def digH (n:Nat):UInt8:=if n < 10 then UInt8.ofNat (48+n) else UInt8.ofNat (87+n)
def hexR:Nat→Nat→List UInt8→List UInt8
 | 0,u,acc=>digH u::acc
 | f+1,u,acc=>if u < 16 then digH u::acc else hexR f (u / 16) (digH (u % 16)::acc)
def hexI (n:Int):List UInt8:=if n < 0 then 45::hexR 15 n.natAbs [] else hexR 15 n.toNat []
theorem and15u (u:Nat) (h:u < 18446744073709551616):bitI .and .u64 (u:Int) 15=((u % 16:Nat):Int):=by
 unfold bitI
 have e1:(BitVec.ofInt IntKind.u64.bits (15:Int)).toNat=15:=by decide
 have e2:(BitVec.ofInt IntKind.u64.bits (u:Int)).toNat=u:=by
  have:IntKind.u64.bits=64:=rfl
  rw [this,BitVec.ofInt_natCast,BitVec.toNat_ofNat]
  omega
 dsimp only
 rw [BitVec.toNat_and,e1,e2,show (15:Nat)=2 ^ 4 - 1 from rfl,Nat.and_two_pow_sub_one_eq_mod,IntKind.wrap_u64]
 omega
theorem dig_at {k:Nat} (h:k < 16):(([48,49,50,51,52,53,54,55,56,57,97,98,99,100,101,102,103,104,105,106,107,108,109,110,111,112,113,114,115,116,117,118,119,120,121,122]:List UInt8).getD k 0)=digH k:=by
 have:∀ k:Fin 16,(([48,49,50,51,52,53,54,55,56,57,97,98,99,100,101,102,103,104,105,106,107,108,109,110,111,112,113,114,115,116,117,118,119,120,121,122]:List UInt8).getD k.1 0)=digH k.1:=by decide
 exact this ⟨k,h⟩
theorem set_drop {α:Type} (x:α):∀ (l:List α) (i:Nat),i < l.length→(l.set i x).drop i=x::l.drop (i+1)
 | _::_,0,_=>rfl
 | _::l,i+1,h=>set_drop x l i (by simpa using h)
 | [],i,h=>absurd h (Nat.not_lt_zero _)
theorem hex_end {f u:Nat} {acc:List UInt8} (h:u < 16):hexR f u acc=digH u::acc:=by
 cases f with
 | zero=>rfl
 | succ f=>rw [hexR,if_pos h]
theorem put_dig {ds:List D} {acc:List UInt8} {k:Nat} {c:UInt8} (h4:ds.length=65) (h5:ds.drop (65 - acc.length)=acc.map byteD) (ha:acc.length≤16) (hk:k < 16) :
  [Ob.cells (ds.set (0+(65 - (acc.length:Int) - 1).toNat * 1) (D.int .u8 ((([48,49,50,51,52,53,54,55,56,57,97,98,99,100,101,102,103,104,105,106,107,108,109,110,111,112,113,114,115,116,117,118,119,120,121,122]:List UInt8).getD ((k:Nat):Int).toNat 0).toNat:Int)))]=[Ob.cells (ds.set (64 - acc.length) (byteD (digH k)))] ∧
  (ds.set (64 - acc.length) (byteD (digH k))).length=65∧(ds.set (64 - acc.length) (byteD (digH k))).drop (65 - (digH k::acc).length)=(digH k::acc).map byteD:=by
 refine ⟨?_,by rw [List.length_set];exact h4,?_⟩
 ·rw [Int.toNat_natCast,dig_at hk,show 0+(65 - (acc.length:Int) - 1).toNat * 1=64 - acc.length by omega]
  rfl
 ·rw [List.length_cons,show 65 - (acc.length+1)=64 - acc.length by omega,set_drop _ _ _ (by omega),show 64 - acc.length+1=65 - acc.length by omega,h5]
  rfl
theorem bytes_of {ds:List D} {l:List UInt8} {K:D→Prop} (h:ds=l.map byteD) (hK:K (.str l)):BytesS ds K:=by
 subst h
 exact bytes_mk hK
theorem fbits_meets:Meets Tryd.prog n_internal_strconv_formatBits (SpecP (fun n:Int=>-1000000000≤n∧n≤1000000000) (fun n=>[.nilsl,.int .u64 (n % 18446744073709551616),.int .i64 16,.bool (decide (n < 0)),.ff]) fun n=>.tup [.nilsl,.str (hexI n)]):=by
 refine meets_f tabOk Tryd.func50 rfl (by decide) ?_
 rintro n ⟨hn0,hn1⟩
 have hn0: -1000000000≤n:=hn0
 have hn1:n≤1000000000:=hn1
 refine ⟨Nat.le_refl _,by simp [Tryd.f50],fun E hE=>?_⟩
 have hE0:E.L.length=0:=by rw [hE];rfl
 have hh:(n < 0→hexI n=45::hexR 15 n.natAbs [])∧(¬ n < 0→hexI n=hexR 15 n.natAbs []):=by
  unfold hexI
  exact ⟨fun h=>by rw [if_pos h],fun h=>by rw [if_neg h,show n.toNat=n.natAbs by omega]⟩
 refine awp_seqK (vcOk _ ?_)
 (all_goals refine qgp ?_<;>(repeat' first | exact trivial | intro hc | refine And.intro ?_ ?_)<;>refine Lf.mk ?_)
 refine awp_seqK (vcOk _ ?_)
 (all_goals refine qgp ?_<;>(repeat' first | exact trivial | intro hc | refine And.intro ?_ ?_)<;>refine Lf.mk ?_)
 all_goals refine awp_seqK (vcOk _ ?_)
 all_goals (all_goals refine qgp ?_<;>(repeat' first | exact trivial | intro hc | refine And.intro ?_ ?_)<;>refine Lf.mk ?_)
 all_goals first
  | (exfalso;omega)
  | skip
 refine awp_seqK (vcOk _ ?_)
 (all_goals refine qgp ?_<;>(repeat' first | exact trivial | intro hc | refine And.intro ?_ ?_)<;>refine Lf.mk ?_)
 generalize hds:List.map constD _=ds
 have hdl:ds.length=65:=by rw [← hds];rfl
 clear hds
 refine awp_cut (α:=Unit) (fun _=>True) (fun _=>[(1,.int .u64 (n.natAbs:Int)),(2,.int .i64 16),(3,.bool (decide (n < 0))),(4,.ff),(10,.nilsl),(12,.loc 0 0),(13,.int .i64 65)]) (fun _=>[.cells ds]) (vcOk _ ?_) (fun _ _=>?_)
 ·(all_goals refine qgp ?_<;>(repeat' first | exact trivial | intro hc | refine And.intro ?_ ?_)<;>refine Lf.mk ?_)
  ·refine ar_eq (m:=(n.natAbs:Int)) (by rw [IntKind.wrap_u64];omega) ?_
   (all_goals refine qgp ?_<;>(repeat' first | exact trivial | intro hc | refine And.intro ?_ ?_)<;>refine Lf.mk ?_)
   exact ⟨(),trivial,weak_same rfl ⟨rfl,rfl,rfl,rfl,rfl,rfl,rfl,trivial⟩⟩
  ·exact ⟨(),trivial,weak_same rfl ⟨congrArg (D.int .u64) (by omega:n % 18446744073709551616=(n.natAbs:Int)),rfl,rfl,rfl,rfl,rfl,rfl,trivial⟩⟩
 have hu:n.natAbs < 16 ^ 16:=Nat.lt_of_le_of_lt (show n.natAbs≤1000000000 by omega) (by decide)
 generalize n.natAbs=u0 at *
 refine awp_cut (α:=Nat×List D) (fun (i,ds)=>1≤i∧i+(hexR 15 u0 []).length=65∧ds.length=65∧ds.drop i=(hexR 15 u0 []).map byteD) (fun (i,_)=>[(3,.bool (decide (n < 0))),(4,.ff),(10,.nilsl),(12,.loc 0 0),(13,.int .i64 (i:Int))]) (fun (_,ds)=>[.cells ds]) (vcOk _ ?_) ?_
 ·(all_goals refine qgp ?_<;>(repeat' first | exact trivial | intro hc | refine And.intro ?_ ?_)<;>refine Lf.mk ?_)
  refine call_p pow_meets () trivial (VS.mk (LeL.of_eq rfl)) ?_
  (all_goals refine qgp ?_<;>(repeat' first | exact trivial | intro hc | refine And.intro ?_ ?_)<;>refine Lf.mk ?_)
  (any_goals (first | (exfalso;refine Bool.false_ne_true ?_;assumption) | (exfalso;refine Bool.false_ne_true (Eq.symm ?_);assumption) | (exfalso;refine absurd trivial ?_;assumption) | skip))
  refine ar_eq (m:=16) (by decide) ?_
  (all_goals refine qgp ?_<;>(repeat' first | exact trivial | intro hc | refine And.intro ?_ ?_)<;>refine Lf.mk ?_)
  refine call_p tzs_meets () trivial (VS.mk (LeL.of_eq rfl)) ?_
  (all_goals refine qgp ?_<;>(repeat' first | exact trivial | intro hc | refine And.intro ?_ ?_)<;>refine Lf.mk ?_)
  refine ar_eq (m:=4) (by decide) ?_
  (all_goals refine qgp ?_<;>(repeat' first | exact trivial | intro hc | refine And.intro ?_ ?_)<;>refine Lf.mk ?_)
  refine ar_eq (m:=16) (by decide) ?_
  (all_goals refine qgp ?_<;>(repeat' first | exact trivial | intro hc | refine And.intro ?_ ?_)<;>refine Lf.mk ?_)
  refine ar_eq (m:=16) (by decide) ?_
  (all_goals refine qgp ?_<;>(repeat' first | exact trivial | intro hc | refine And.intro ?_ ?_)<;>refine Lf.mk ?_)
  refine ar_eq (m:=15) (by decide) ?_
  (all_goals refine qgp ?_<;>(repeat' first | exact trivial | intro hc | refine And.intro ?_ ?_)<;>refine Lf.mk ?_)
  refine awp_loopW (α:=Nat×Nat×List UInt8×List D) (fun (f,u,acc,ds)=>hexR f u acc=hexR 15 u0 []∧u < 16 ^ (f+1)∧acc.length+f=15∧ds.length=65∧ds.drop (65 - acc.length)=acc.map byteD)
   (fun (_,u,acc,_)=>[(1,.int .u64 (u:Int)),(3,.bool (decide (n < 0))),(4,.ff),(10,.nilsl),(12,.loc 0 0),(13,.int .i64 (65 - (acc.length:Int))),(14,.int .u64 4),(15,.int .u64 16),(16,.int .u64 15)]) (fun (_,_,_,ds)=>[.cells ds]) (fun (f,_)=>f) (fun _=>by rw [hE0];exact Nat.zero_le _) (15,u0,[],ds) ⟨rfl,hu,rfl,hdl,by rw [List.drop_of_length_le (by show ds.length≤65 - 0;omega)];rfl⟩ ?_ ?_
  ·exact weak_same rfl ⟨rfl,rfl,rfl,rfl,rfl,rfl,rfl,rfl,rfl,trivial⟩
  rintro ⟨f,u,acc,ds⟩ ⟨h1,h2,h3,h4,h5⟩
  have h3:acc.length+f=15:=h3
  have h2:u < 16 ^ (f+1):=h2
  dsimp only at h1 h4 h5 ⊢
  refine vcOk _ ?_
  (all_goals refine qgr ?_<;>(repeat' first | exact trivial | intro hc | refine And.intro ?_ ?_)<;>refine Lf.mk ?_)
  ·have hu64:u < 18446744073709551616:=Nat.lt_of_lt_of_le h2 (Nat.le_trans (Nat.pow_le_pow_right (by decide) (show f+1≤16 by omega)) (by decide))
   have hk:u % 16 < 16:=Nat.mod_lt _ (by decide)
   refine bit_mk (and15u u hu64) ?_
   (all_goals refine qgr ?_<;>(repeat' first | exact trivial | intro hc | refine And.intro ?_ ?_)<;>refine Lf.mk ?_)
   have hul:16≤u:=by omega
   cases f with
   | zero=>exact absurd (show u < 16 from h2) (by omega)
   | succ f=>
    obtain ⟨q1,q2,q3⟩:=put_dig (c:=0) h4 h5 (by omega) hk
    rw [hexR,if_neg (by omega)] at h1
    have hpw:16 ^ (f+1+1)=16 ^ (f+1) * 16:=Nat.pow_succ _ _
    exact loop_same (f,u / 16,digH (u % 16)::acc,ds.set (64 - acc.length) (byteD (digH (u % 16)))) ⟨h1,by show u / 16 < 16 ^ (f+1);omega,by show (digH (u % 16)::acc).length+f=15;rw [List.length_cons];omega,q2,q3⟩ (Nat.lt_succ_self _) q1
     ⟨congrArg (D.int .u64) (by show (u:Int) / 16=((u / 16:Nat):Int);omega),rfl,rfl,rfl,rfl,congrArg (D.int .i64) (by show 65 - (acc.length:Int) - 1=65 - (((digH (u % 16)::acc).length:Nat):Int);rw [List.length_cons];omega),rfl,rfl,rfl,trivial⟩
  ·have hul:u < 16:=by omega
   obtain ⟨q1,q2,q3⟩:=put_dig (c:=0) h4 h5 (by omega) hul
   rw [hex_end hul] at h1
   have hl:(digH u::acc).length=acc.length+1:=List.length_cons
   refine ⟨(64 - acc.length,ds.set (64 - acc.length) (byteD (digH u))),⟨by show 1≤64 - acc.length;omega,by show 64 - acc.length+(hexR 15 u0 []).length=65;rw [← h1,hl];omega,q2,by show (ds.set (64 - acc.length) (byteD (digH u))).drop (64 - acc.length)=_;rw [← h1,← q3,hl,show 65 - (acc.length+1)=64 - acc.length by omega]⟩,weak_same q1 ⟨rfl,rfl,rfl,rfl,congrArg (D.int .i64) (by show 65 - (acc.length:Int) - 1=((64 - acc.length:Nat):Int);omega),trivial⟩⟩
 ·rintro ⟨i,ds⟩ ⟨g1,g2,g3,g4⟩
  have g1:1≤i:=g1
  have g2:i+(hexR 15 u0 []).length=65:=g2
  dsimp only at g3 g4 ⊢
  refine vcOk _ ?_
  (all_goals refine qgr ?_<;>(repeat' first | exact trivial | intro hc | refine And.intro ?_ ?_)<;>refine Lf.mk ?_)
  ·have e1:((i:Int) - 1).toNat=i - 1:=by omega
   refine bytes_of (l:=hexI n) ?_ ?_
   ·dsimp only
    rw [hh.1 hc,e1,Nat.zero_add,Nat.mul_one,Nat.zero_add,set_drop _ _ _ (by rw [g3];omega),show i - 1+1=i by omega,g4,List.take_of_length_le (by rw [List.length_cons,List.length_map];show _≤65 - (i - 1);omega)]
    rfl
   ·(all_goals refine qgp ?_<;>(repeat' first | exact trivial | intro hc | refine And.intro ?_ ?_)<;>refine Lf.mk ?_)
    exact end_p (VS.mk (LeD.of_eq rfl))
  ·refine bytes_of (l:=hexI n) ?_ ?_
   ·rw [hh.2 hc,Nat.zero_add,show ((i:Nat):Int).toNat=i from Int.toNat_natCast i,g4,List.take_of_length_le (by rw [List.length_map];show _≤65 - i;omega)]
   ·(all_goals refine qgp ?_<;>(repeat' first | exact trivial | intro hc | refine And.intro ?_ ?_)<;>refine Lf.mk ?_)
    exact end_p (VS.mk (LeD.of_eq rfl))
attribute [local irreducible] hexI
theorem ifmt_meets:Meets Tryd.prog n_internal_strconv_FormatInt (SpecP (fun n:Int=>-1000000000≤n∧n≤1000000000) (fun n=>[.int .i64 n,.int .i64 16]) fun n=>.str (hexI n)):=by
 refine meets_f tabOk Tryd.func42 rfl (by decide) ?_
 rintro n ⟨hn0,hn1⟩
 have hn0: -1000000000≤n:=hn0
 have hn1:n≤1000000000:=hn1
 refine ⟨Nat.le_refl _,by simp [Tryd.f42],fun E hE=>?_⟩
 refine vcOk _ ?_
 (all_goals refine qgp ?_<;>(repeat' first | exact trivial | intro hc | refine And.intro ?_ ?_)<;>refine Lf.mk ?_)
 refine ar_eq (m:=n % 18446744073709551616) (IntKind.wrap_u64 _) ?_
 (all_goals refine qgp ?_<;>(repeat' first | exact trivial | intro hc | refine And.intro ?_ ?_)<;>refine Lf.mk ?_)
 refine call_p fbits_meets n ⟨hn0,hn1⟩ (VS.mk (LeL.of_eq rfl)) ?_
 (all_goals refine qgp ?_<;>(repeat' first | exact trivial | intro hc | refine And.intro ?_ ?_)<;>refine Lf.mk ?_)
 exact end_p (VS.mk (LeD.of_eq rfl))
theorem fmt_meets:Meets Tryd.prog n_strconv_FormatInt (SpecP (fun n:Int=>-1000000000≤n∧n≤1000000000) (fun n=>[.int .i64 n,.int .i64 16]) fun n=>.str (hexI n)):=by
 refine meets_f tabOk Tryd.func35 rfl (by decide) ?_
 rintro n hn
 refine ⟨Nat.le_refl _,by simp [Tryd.f35],fun E hE=>?_⟩
 refine vcOk _ ?_
 (all_goals refine qgp ?_<;>(repeat' first | exact trivial | intro hc | refine And.intro ?_ ?_)<;>refine Lf.mk ?_)
 refine call_p ifmt_meets n hn (VS.mk (LeL.of_eq rfl)) ?_
 (all_goals refine qgp ?_<;>(repeat' first | exact trivial | intro hc | refine And.intro ?_ ?_)<;>refine Lf.mk ?_)
 exact end_p (VS.mk (LeD.of_eq rfl))
theorem hexR_len:∀ (f u:Nat) (acc:List UInt8),(hexR f u acc).length≤acc.length+f+1
 | 0,u,acc=>by rw [hexR,List.length_cons];omega
 | f+1,u,acc=>by
  rw [hexR]
  split
  ·rw [List.length_cons];omega
  ·have:=hexR_len f (u / 16) (digH (u % 16)::acc)
   rw [List.length_cons] at this
   omega
theorem hexI_len (n:Int):(hexI n).length≤17:=by
 unfold hexI
 split
 ·have:=hexR_len 15 n.natAbs []
  rw [List.length_cons]
  simp only [List.length_nil] at this
  omega
 ·have:=hexR_len 15 n.toNat []
  simp only [List.length_nil] at this
  omega
def nameH (n:Int):List UInt8:=120::hexI n
theorem dname_meets:Meets Tryd.prog n_dis_name (SpecP (fun n:Int=>-1000000000≤n∧n≤1000000000) (fun n=>[.int .i64 n]) fun n=>.str (nameH n)):=by
 refine meets_f tabOk Tryd.func18 rfl (by decide) ?_
 rintro n hn
 have hl:=hexI_len n
 refine ⟨Nat.le_refl _,by simp [Tryd.f18],fun E hE=>?_⟩
 refine vcOk _ ?_
 (all_goals refine qgp ?_<;>(repeat' first | exact trivial | intro hc | refine And.intro ?_ ?_)<;>refine Lf.mk ?_)
 refine call_p fmt_meets n hn (VS.mk (LeL.of_eq rfl)) ?_
 (all_goals refine qgp ?_<;>(repeat' first | exact trivial | intro hc | refine And.intro ?_ ?_)<;>refine Lf.mk ?_)
 refine cat_mk (by show ((1+(hexI n).length:Nat):Int)≤9223372036854775807;omega) ?_
 (all_goals refine qgp ?_<;>(repeat' first | exact trivial | intro hc | refine And.intro ?_ ?_)<;>refine Lf.mk ?_)
 exact end_p (VS.mk (LeD.of_eq rfl))
theorem rhex_meets:Meets Tryd.prog n_plref6_hex (SpecP (fun n:Int=>-1000000000≤n∧n≤1000000000) (fun n=>[.int .i64 n]) fun n=>.str (nameH n)):=by
 refine meets_f tabOk Tryd.func22 rfl (by decide) ?_
 rintro n hn
 have hl:=hexI_len n
 refine ⟨Nat.le_refl _,by simp [Tryd.f22],fun E hE=>?_⟩
 refine vcOk _ ?_
 (all_goals refine qgp ?_<;>(repeat' first | exact trivial | intro hc | refine And.intro ?_ ?_)<;>refine Lf.mk ?_)
 refine call_p fmt_meets n hn (VS.mk (LeL.of_eq rfl)) ?_
 (all_goals refine qgp ?_<;>(repeat' first | exact trivial | intro hc | refine And.intro ?_ ?_)<;>refine Lf.mk ?_)
 refine cat_mk (by show ((1+(hexI n).length:Nat):Int)≤9223372036854775807;omega) ?_
 (all_goals refine qgp ?_<;>(repeat' first | exact trivial | intro hc | refine And.intro ?_ ?_)<;>refine Lf.mk ?_)
 exact end_p (VS.mk (LeD.of_eq rfl))
end Go.Proofs.YtfahnaccpncdpaaDoor
namespace Go.Proofs.YtfahnaccpncdpaaDoor
open Go Go.Plat
set_option linter.unusedVariables false
set_option linter.unusedSimpArgs false
set_option maxRecDepth 100000
set_option maxHeartbeats 2000000
attribute [local irreducible] AWP Arith BitS BytesS CallS CatS DrawS EndS IdxS LookS LoopEnd Meets ModeS NilS NormL NormM QuoS RemS ShlS ShrS SideS SplitS bitI
end Go.Proofs.YtfahnaccpncdpaaDoor
namespace Go.Proofs
open Go.Shelf
def Tryd.lays163_ren:Go.Shelf.Ren:=⟨fun | 163=>27 | 237=>37 | 199=>38 | 238=>39 | 272=>43 | 261=>44 | 273=>45 | 197=>46 | 315=>51 | 311=>52 | 312=>53 | 271=>54 | 260=>55 | 120=>61 | n=>n,fun | 9=>9 | 37=>22 | 3=>3 | 0=>0 | 5=>5 | 4=>4 | 40=>77 | 119=>78 | 21=>21 | 51=>81 | 141=>83 | 105=>85 | 196=>96 | 193=>93 | 198=>99 | 49=>97 | 194=>94 | 201=>102 | 226=>109 | 46=>71 | 227=>110 | 139=>114 | 138=>113 | n=>n,fun | 0=>0 | 6=>1 | 3=>3 | 4=>4 | n=>n⟩
theorem Tryd.lays163:Go.Proofs.Lays.n163 Tryd.prog Tryd.lays163_ren:={
 mixed:=by kernel_rfl
 f120:=Tryd.func61.trans (congrArg some (by kernel_rfl))
 f163:=Tryd.func27.trans (congrArg some (by kernel_rfl))
 f197:=Tryd.func46.trans (congrArg some (by kernel_rfl))
 f199:=Tryd.func38.trans (congrArg some (by kernel_rfl))
 f237:=Tryd.func37.trans (congrArg some (by kernel_rfl))
 f238:=Tryd.func39.trans (congrArg some (by kernel_rfl))
 f260:=Tryd.func55.trans (congrArg some (by kernel_rfl))
 f261:=Tryd.func44.trans (congrArg some (by kernel_rfl))
 f271:=Tryd.func54.trans (congrArg some (by kernel_rfl))
 f272:=Tryd.func43.trans (congrArg some (by kernel_rfl))
 f273:=Tryd.func45.trans (congrArg some (by kernel_rfl))
 f311:=Tryd.func52.trans (congrArg some (by kernel_rfl))
 f312:=Tryd.func53.trans (congrArg some (by kernel_rfl))
 f315:=Tryd.func51.trans (congrArg some (by kernel_rfl))
 t0:=Tryd.underlying0
 a0:=Tryd.isAgg0
 z0:=Tryd.sizeOf0
 v0:=Tryd.zeroValue0
 t3:=Tryd.underlying3
 a3:=Tryd.isAgg3
 z3:=Tryd.sizeOf3
 v3:=Tryd.zeroValue3
 t4:=Tryd.underlying4
 a4:=Tryd.isAgg4
 z4:=Tryd.sizeOf4
 v4:=Tryd.zeroValue4
 t5:=Tryd.underlying5
 a5:=Tryd.isAgg5
 z5:=Tryd.sizeOf5
 v5:=Tryd.zeroValue5
 t9:=Tryd.underlying9
 a9:=Tryd.isAgg9
 z9:=Tryd.sizeOf9
 v9:=Tryd.zeroValue9
 t21:=Tryd.underlying21
 a21:=Tryd.isAgg21
 z21:=Tryd.sizeOf21
 v21:=Tryd.zeroValue21
 t37:=Tryd.underlying22
 a37:=Tryd.isAgg22
 z37:=Tryd.sizeOf22
 v37:=Tryd.zeroValue22
 t40:=Tryd.underlying77
 a40:=Tryd.isAgg77
 z40:=Tryd.sizeOf77
 v40:=Tryd.zeroValue77
 t46:=Tryd.underlying71
 a46:=Tryd.isAgg71
 z46:=Tryd.sizeOf71
 v46:=Tryd.zeroValue71
 t49:=Tryd.underlying97
 a49:=Tryd.isAgg97
 z49:=Tryd.sizeOf97
 v49:=Tryd.zeroValue97
 t51:=Tryd.underlying81
 a51:=Tryd.isAgg81
 z51:=Tryd.sizeOf81
 v51:=Tryd.zeroValue81
 t105:=Tryd.underlying85
 a105:=Tryd.isAgg85
 z105:=Tryd.sizeOf85
 v105:=Tryd.zeroValue85
 t119:=Tryd.underlying78
 a119:=Tryd.isAgg78
 z119:=Tryd.sizeOf78
 t138:=Tryd.underlying113
 a138:=Tryd.isAgg113
 z138:=Tryd.sizeOf113
 v138:=Tryd.zeroValue113
 t139:=Tryd.underlying114
 a139:=Tryd.isAgg114
 z139:=Tryd.sizeOf114
 v139:=Tryd.zeroValue114
 t141:=Tryd.underlying83
 a141:=Tryd.isAgg83
 z141:=Tryd.sizeOf83
 v141:=Tryd.zeroValue83
 t193:=Tryd.underlying93
 a193:=Tryd.isAgg93
 z193:=Tryd.sizeOf93
 v193:=Tryd.zeroValue93
 t194:=Tryd.underlying94
 a194:=Tryd.isAgg94
 z194:=Tryd.sizeOf94
 v194:=Tryd.zeroValue94
 t196:=Tryd.underlying96
 a196:=Tryd.isAgg96
 z196:=Tryd.sizeOf96
 v196:=Tryd.zeroValue96
 t198:=Tryd.underlying99
 a198:=Tryd.isAgg99
 z198:=Tryd.sizeOf99
 v198:=Tryd.zeroValue99
 t201:=Tryd.underlying102
 a201:=Tryd.isAgg102
 z201:=Tryd.sizeOf102
 v201:=Tryd.zeroValue102
 t226:=Tryd.underlying109
 a226:=Tryd.isAgg109
 z226:=Tryd.sizeOf109
 v226:=Tryd.zeroValue109
 t227:=Tryd.underlying110
 a227:=Tryd.isAgg110
 z227:=Tryd.sizeOf110
 v227:=Tryd.zeroValue110
 g0:=by kernel_rfl
 g3:=by kernel_rfl
 g4:=by kernel_rfl
 g6:=by kernel_rfl }
theorem Tryd.Space_Extra_163:Space.Extra Tryd.prog Tryd.lays163_ren:={
 gNamed:=by kernel_rfl }
open Go.RowKit in
theorem Tryd.strings_TrimSpace (s : ByteArray) (w : World) (hs : s.size ≤ 9223372036854775807) (hascii : ∀ (j : Nat) b, s.data.toList[j]? = some b → b.toNat < 128) (htab : Lib.TabIs Tryd.prog w "strings.asciiSpace" .u8 Lib.asciiSpaceTab) :
  Calls Tryd.prog 27 #[.string s] w fun e w'=>e= .returned (.string ⟨(Lib.trimSpace s.data.toList).toArray⟩)∧w'=Lib.bytesWorld w 5 s:=Any.strings_TrimSpace Tryd.lays163 Tryd.Space_Extra_163 s w hs hascii htab
def Tryd.laysM171_ren:Go.Shelf.Ren:=⟨fun | 171=>19 | 243=>36 | 246=>42 | 283=>47 | 284=>48 | 285=>49 | 286=>50 | 129=>57 | 317=>56 | 318=>58 | 319=>59 | 320=>60 | 337=>62 | 338=>63 | n=>n,fun | 3=>3 | 9=>9 | 2=>2 | 4=>4 | 171=>87 | 0=>0 | 53=>88 | 37=>22 | 5=>5 | 173=>91 | 212=>105 | 51=>81 | 20=>20 | 213=>106 | 46=>71 | 232=>116 | 233=>117 | n=>n,fun | 17=>2 | 18=>5 | 19=>6 | n=>n⟩
theorem Tryd.laysM171:Go.Proofs.LaysM.n171 Tryd.prog Tryd.laysM171_ren:={
 mixed:=by kernel_rfl
 f129:=Tryd.func57.trans (congrArg some (by kernel_rfl))
 f171:=Tryd.func19.trans (congrArg some (by kernel_rfl))
 f243:=Tryd.func36.trans (congrArg some (by kernel_rfl))
 f246:=Tryd.func42.trans (congrArg some (by kernel_rfl))
 f283:=Tryd.func47.trans (congrArg some (by kernel_rfl))
 f284:=Tryd.func48.trans (congrArg some (by kernel_rfl))
 f285:=Tryd.func49.trans (congrArg some (by kernel_rfl))
 f286:=Tryd.func50.trans (congrArg some (by kernel_rfl))
 f317:=Tryd.func56.trans (congrArg some (by kernel_rfl))
 f318:=Tryd.func58.trans (congrArg some (by kernel_rfl))
 f319:=Tryd.func59.trans (congrArg some (by kernel_rfl))
 f320:=Tryd.func60.trans (congrArg some (by kernel_rfl))
 f337:=Tryd.func62.trans (congrArg some (by kernel_rfl))
 f338:=Tryd.func63.trans (congrArg some (by kernel_rfl))
 t0:=Tryd.underlying0
 a0:=Tryd.isAgg0
 z0:=Tryd.sizeOf0
 v0:=Tryd.zeroValue0
 t2:=Tryd.underlying2
 a2:=Tryd.isAgg2
 z2:=Tryd.sizeOf2
 v2:=Tryd.zeroValue2
 t3:=Tryd.underlying3
 a3:=Tryd.isAgg3
 z3:=Tryd.sizeOf3
 v3:=Tryd.zeroValue3
 t4:=Tryd.underlying4
 a4:=Tryd.isAgg4
 z4:=Tryd.sizeOf4
 v4:=Tryd.zeroValue4
 t5:=Tryd.underlying5
 a5:=Tryd.isAgg5
 z5:=Tryd.sizeOf5
 v5:=Tryd.zeroValue5
 t9:=Tryd.underlying9
 a9:=Tryd.isAgg9
 z9:=Tryd.sizeOf9
 v9:=Tryd.zeroValue9
 t20:=Tryd.underlying20
 a20:=Tryd.isAgg20
 z20:=Tryd.sizeOf20
 v20:=Tryd.zeroValue20
 t37:=Tryd.underlying22
 a37:=Tryd.isAgg22
 z37:=Tryd.sizeOf22
 v37:=Tryd.zeroValue22
 t46:=Tryd.underlying71
 a46:=Tryd.isAgg71
 z46:=Tryd.sizeOf71
 v46:=Tryd.zeroValue71
 t51:=Tryd.underlying81
 a51:=Tryd.isAgg81
 z51:=Tryd.sizeOf81
 v51:=Tryd.zeroValue81
 t53:=Tryd.underlying88
 a53:=Tryd.isAgg88
 z53:=Tryd.sizeOf88
 v53:=Tryd.zeroValue88
 t171:=Tryd.underlying87
 a171:=Tryd.isAgg87
 z171:=Tryd.sizeOf87
 v171:=Tryd.zeroValue87
 t173:=Tryd.underlying91
 a173:=Tryd.isAgg91
 z173:=Tryd.sizeOf91
 v173:=Tryd.zeroValue91
 t212:=Tryd.underlying105
 a212:=Tryd.isAgg105
 z212:=Tryd.sizeOf105
 v212:=Tryd.zeroValue105
 t213:=Tryd.underlying106
 a213:=Tryd.isAgg106
 z213:=Tryd.sizeOf106
 t232:=Tryd.underlying116
 a232:=Tryd.isAgg116
 z232:=Tryd.sizeOf116
 v232:=Tryd.zeroValue116
 t233:=Tryd.underlying117
 a233:=Tryd.isAgg117
 z233:=Tryd.sizeOf117
 v233:=Tryd.zeroValue117
 g17:=by kernel_rfl
 g18:=by kernel_rfl
 g19:=by kernel_rfl
 i0:=by kernel_rfl
 i2:=by kernel_rfl
 i3:=by kernel_rfl
 i4:=by kernel_rfl
 i5:=by kernel_rfl
 i9:=by kernel_rfl
 i20:=by kernel_rfl
 i37:=by kernel_rfl
 i46:=by kernel_rfl
 i51:=by kernel_rfl
 i53:=by kernel_rfl
 i171:=by kernel_rfl
 i173:=by kernel_rfl
 i212:=by kernel_rfl
 i232:=by kernel_rfl
 i233:=by kernel_rfl
 m17:=by kernel_rfl
 m18:=by kernel_rfl
 m19:=by kernel_rfl }
open Go.RowKit Go.Sort Go.Lib in
theorem Tryd.strconv_Itoa (n : Int) (h0 : -9223372036854775808 ≤ n) (h1 : n ≤ 9223372036854775807) (w : World) (htab : Lib.TabIs Tryd.prog w "internal/strconv.uint64pow10" .u64 Lib.pow10Tab) :
  Calls Tryd.prog 19 #[.int .i64 n] w fun e w'=>e= .returned (.string ⟨(Lib.itoa n).toArray⟩)∧∃ k os,w'=grow (w.drewN k) os:=Any.strconv_Itoa Tryd.laysM171 n h0 h1 w htab
end Go.Proofs
namespace Go.Proofs.YtfahnaccpncdpaaDoor
open Go Go.Plat
set_option linter.unusedVariables false
set_option linter.unusedSimpArgs false
set_option maxRecDepth 100000
set_option maxHeartbeats 2000000
attribute [local irreducible] AWP Arith BitS BytesS CallS CatS DrawS EndS IdxS LookS LoopEnd Meets ModeS NilS NormL NormM QuoS RemS ShlS ShrS SideS SplitS bitI
theorem nat_dig {d:Nat} (h:d < 10):(UInt8.ofNat (48+d)).toNat=48+d:=by rw [UInt8.toNat_ofNat'];omega
theorem dec_dig:∀ u:Nat,∀ c∈Lib.decDigits u,48≤c.toNat∧c.toNat≤57:=fun u=>by
 induction u using Nat.strongRecOn with
 | _ u ih=>
  intro c hc
  rw [Lib.decDigits] at hc
  split at hc
  ·rw [List.mem_singleton] at hc
   rw [hc,nat_dig (by omega)];omega
  ·rcases List.mem_append.1 hc with h | h
   ·exact ih _ (by omega) c h
   ·rw [List.mem_singleton] at h
    rw [h,nat_dig (by omega)];omega
theorem dec_ne (u:Nat):Lib.decDigits u≠[]:=by
 rw [Lib.decDigits]
 split<;>simp
end Go.Proofs.YtfahnaccpncdpaaDoor
namespace Go.Proofs.YtfahnaccpncdpaaDoor
open Go Go.Plat Go.RowKit Go.Lib Go.Shelf
theorem cc_ntmps:Tryd.f34.ntmps=20:=by simp [Tryd.f34]
theorem bld_info:∃ j,Tryd.prog.info? 43=some j∧j.size=2:=by
 obtain ⟨j,h1,h2⟩:=Option.map_eq_some_iff.1 (show (Tryd.prog.info? 43).map (·.size)=some 2 by kernel_rfl)
 exact ⟨j,h1,h2⟩
set_option maxHeartbeats 1000000 in
set_option maxRecDepth 100000 in
theorem cc_used (b o:Nat) (w:World) (h0:w.cell? ⟨b,o,none⟩=some (.pointer (some ⟨b,o,none⟩))) :
  Calls Tryd.prog n_strings_Builder_copyCheck #[.pointer (some ⟨b,o,none⟩)] w fun e w'=>e= .returned (.tuple #[])∧w'=w:=by
 obtain ⟨j,hj,_⟩:=bld_info
 have mixed:Tryd.prog.follows .mixedOrders=true:=by kernel_rfl
 have t72:=Tryd.underlying43;have a72:=Tryd.isAgg43;have z72:=Tryd.sizeOf43;have v72:=Tryd.zeroValue43
 have t70:=Tryd.underlying41;have a70:=Tryd.isAgg41;have z70:=Tryd.sizeOf41;have v70:=Tryd.zeroValue41
 have t4:=Tryd.underlying4;have a4:=Tryd.isAgg4;have z4:=Tryd.sizeOf4;have v4:=Tryd.zeroValue4
 have t164:=Tryd.underlying79;have a164:=Tryd.isAgg79;have z164:=Tryd.sizeOf79;have v164:=Tryd.zeroValue79
 go_enter Tryd.func34,cc_ntmps
 go_wp2
 rw [Lib.run_neq_ptr_same w _ t70 hj]
 go_wp2
 go_end0
 exact ⟨rfl,rfl⟩
set_option maxHeartbeats 1000000 in
set_option maxRecDepth 100000 in
theorem cc_fresh (b:Nat) (w:World) (h0:w.cell? ⟨b,0,none⟩=some (.pointer none)) (hsh:w.shape? b=some (43,2)) (hfz:w.frozen? ⟨b,0,none⟩=false) :
  Calls Tryd.prog n_strings_Builder_copyCheck #[.pointer (some ⟨b,0,none⟩)] w fun e w'=>e= .returned (.tuple #[])∧w'=w.setCell ⟨b,0,none⟩ (.pointer (some ⟨b,0,none⟩)):=by
 obtain ⟨j,hj,hjs⟩:=bld_info
 have mixed:Tryd.prog.follows .mixedOrders=true:=by kernel_rfl
 have t72:=Tryd.underlying43;have a72:=Tryd.isAgg43;have z72:=Tryd.sizeOf43;have v72:=Tryd.zeroValue43
 have t70:=Tryd.underlying41;have a70:=Tryd.isAgg41;have z70:=Tryd.sizeOf41;have v70:=Tryd.zeroValue41
 have t4:=Tryd.underlying4;have a4:=Tryd.isAgg4;have z4:=Tryd.sizeOf4;have v4:=Tryd.zeroValue4
 have t164:=Tryd.underlying79;have a164:=Tryd.isAgg79;have z164:=Tryd.sizeOf79;have v164:=Tryd.zeroValue79
 have lies:liesAt Tryd.prog Tryd.prog.depth 43 (2 / Tryd.prog.cellsOf 43) 0 43 1=true:=by kernel_rfl
 go_enter Tryd.func34,cc_ntmps
 go_wp2
 rw [Lib.run_to_unsafe w ⟨b,0,none⟩ t70 t164 hj (by rw [hjs];decide) hsh (Nat.zero_lt_succ 1)]
 simp only [Result.andThen]
 rw [Oper.upon_value]
 go_wp2
 rw [run_callFunc_extern Tryd.func41 (by kernel_rfl) (by kernel_rfl) (by kernel_rfl) (e:=Extern.AbiNoEscape.same) (by kernel_rfl)]
 rw [Lib.run_noEscape]
 simp only [Result.andThen]
 rw [Oper.upon_value]
 go_wp2
 rw [Lib.run_from_unsafe w ⟨b,0,none⟩ t164 t70 hj hsh lies]
 simp only [Result.andThen]
 rw [Oper.upon_value]
 go_wp2
 go_end0
 exact ⟨rfl,rfl⟩
end Go.Proofs.YtfahnaccpncdpaaDoor
namespace Go.Proofs.YtfahnaccpncdpaaDoor
open Go Go.Plat
set_option linter.unusedVariables false
set_option linter.unusedSimpArgs false
set_option maxRecDepth 100000
set_option maxHeartbeats 2000000
attribute [local irreducible] AWP Arith BitS BytesS CallS CatS DrawS EndS IdxS LookS LoopEnd Meets ModeS NilS NormL NormM QuoS RemS ShlS ShrS SideS SplitS bitI
theorem set_cell1 {w:World} {ρ:Pl} {L:List Ob} (hf:Fits w ρ L) {k i:Nat} {ds:List D} (hk:L[k]?=some (.cells ds)) (hi:i < ds.length) {d:D} {v:Value} (hv:Rep w (foot ρ L) ρ L d v) :
  Fits (w.setCells (ρ k).block ((ρ k).off+i) [v]) ρ (L.set k (.cells (ds.set i d)))∧Ext (own ρ L) w (w.setCells (ρ k).block ((ρ k).off+i) [v])∧Fresh w (own ρ L) (own ρ (L.set k (.cells (ds.set i d))))∧Compat ρ L ρ (L.set k (.cells (ds.set i d))):=by
 obtain ⟨h4,h5⟩:=hf.obj k _ hk
 have hc:∀ j,j < [v].length→∃ u,w.cell? ⟨(ρ k).block,(ρ k).off+i+j,none⟩=some u:=fun j hj=>by
  have hj:j=0:=by have:j < 1:=hj;omega
  subst hj
  obtain ⟨⟨u,h8,_⟩,_⟩:=h5 i _ (List.getElem?_eq_getElem hi)
  exact ⟨u,h8⟩
 have hext:=(Ext.setCells w (ρ k).block ((ρ k).off+i) [v]).mono (F':=fun b x=>Ob.owns (.cells ds) (ρ k) b x) fun b x _ ⟨e1,e2,e3⟩=>⟨e1,by omega,by have e3:x < (ρ k).off+i+1:=e3;omega⟩
 refine hf.setObj (o':=.cells (ds.set i d)) hk (fun b x=>by simp only [Ob.owns]) (.inl ⟨ds,_,rfl,rfl⟩) hext fun hcm hfr hex=>?_
 refine ⟨by rw [h4,List.length_set],fun j d' hj=>?_⟩
 have hfz:=fun x=>(setCells_same (ρ k).block [v] ((ρ k).off+i) w).2.2.2.2.1 (ρ k).block x
 by_cases hij:i=j
 ·subst hij
  rw [List.getElem?_set_self hi] at hj
  cases hj
  have hat:=setCells_at (ρ k).block [v] ((ρ k).off+i) w 0 Nat.zero_lt_one hc
  exact ⟨⟨v,hat,hv.keep hex hfr hcm⟩,by rw [hfz];exact (h5 i _ (List.getElem?_eq_getElem hi)).2⟩
 ·rw [List.getElem?_set_ne hij] at hj
  obtain ⟨⟨u,h8,h9⟩,h10⟩:=h5 j d' hj
  refine ⟨⟨u,?_,h9.keep hex hfr hcm⟩,by rw [hfz];exact h10⟩
  rw [setCells_other _ _ _ _ _ _ (fun _=>by show (ρ k).off+j < (ρ k).off+i∨(ρ k).off+i+1≤(ρ k).off+j;omega)]
  exact h8
def adrD:Bool→D
 | true=>.loc 0 0
 | false=>.tnil 0 43 2
def bldO (u:Bool) (bs:List UInt8):List Ob:=[.cells [adrD u,.tosl 5 1 bs.length],.arr 1 (bs.map fun c=>.int .u8 (c.toNat:Int))]
theorem len1 {α:Type} {l:List α} (h:l.length=1):∃ a,l=[a]:=by
 match l,h with
 | [a],_=>exact ⟨a,rfl⟩
theorem cc_meets:Meets Tryd.prog n_strings_Builder_copyCheck (SpecF (fun _:Bool×List UInt8=>True) (fun _=>[.loc 0 0]) (fun (u,bs)=>bldO u bs) (fun _=>.tup []) fun (_,bs)=>bldO true bs):=by
 unfold Meets
 refine ⟨⟨_,Tryd.func34,by decide,rfl⟩,?_⟩
 rintro av L d0 L' ⟨⟨u,bs⟩, -,has,rfl,rfl,rfl⟩ w ρ vs hf hr
 have hr:=RepL.le has hr
 obtain ⟨v0,rfl⟩:=len1 hr.1
 obtain ⟨a,rfl,hk,hm⟩:=(hr.2 0 _ _ rfl rfl).loc_inv
 obtain rfl:=hm _ rfl
 obtain ⟨h1,h2⟩:=hf.obj 0 _ rfl
 obtain ⟨⟨x,h3,h4⟩,h5⟩:=h2 0 _ rfl
 cases u with
 | true=>
  obtain ⟨a,rfl, -,hm⟩:=h4.loc_inv
  obtain rfl:=hm _ rfl
  rw [Nat.add_zero] at h3 ⊢
  refine (cc_used (ρ 0).block (ρ 0).off w h3).mono ?_
  rintro e w' ⟨rfl,rfl⟩
  exact ⟨_,ρ,rfl,hf,.pure _ _ (.tup _ _ rfl fun i d v h=>by cases h),.refl _ _,.refl _ _,.refl _ _⟩
 | false=>
  obtain ⟨rfl, -,hm⟩:=h4.tnil_inv
  obtain ⟨h6,h7⟩:=hm _ rfl
  have hv:Rep w (foot ρ (bldO false bs)) ρ (bldO false bs) (.loc 0 0) (.pointer (some ⟨(ρ 0).block,(ρ 0).off+0,none⟩)):=.loc _ _ _ (by show 0 < 2;decide) fun ds _=>rfl
  obtain ⟨g1,g2,g3,g4⟩:=set_cell1 hf (k:=0) (i:=0) rfl (by show 0 < 2;decide) hv
  rw [Nat.add_zero,h6] at h3 h5 g1 g2 ⊢
  refine (cc_fresh (ρ 0).block w h3 h7 h5.1).mono ?_
  rintro e w' ⟨rfl,rfl⟩
  exact ⟨_,ρ,rfl,g1,.pure _ _ (.tup _ _ rfl fun i d v h=>by cases h),g2,g3,g4⟩
theorem cl_tnil {n k t c:Nat} (h:k < n):ClD n (.tnil k t c):=ClD.of fun m hm=>by
 show renTnil m k t c (fun d'=>d'= .tnil k t c)
 unfold renTnil
 simp [hm k h]
theorem cl_tosl {n k t c:Nat} (h:k < n):ClD n (.tosl t k c):=ClD.of fun m hm=>by
 show renTosl m t k c (fun d'=>d'= .tosl t k c)
 unfold renTosl
 simp [hm k h]
theorem nilif_cl {n:Nat}:ClD n .nilif:=ClD.of fun m hm=>rfl
theorem adr_cl (u:Bool):ClD 2 (adrD u):=by
 cases u
 ·exact cl_tnil (by decide)
 ·exact .loc (by decide)
theorem byte_cl {n:Nat} (l:List UInt8):∀ d∈l.map (fun c=>D.int .u8 (c.toNat:Int)),ClL n d.cells:=fun d hd=>by
 obtain ⟨c,_,rfl⟩:=List.mem_map.1 hd
 exact .cons .int .nil
theorem bldO_cl (u:Bool) (bs:List UInt8):∀ x∈bldO u bs,ClO 2 x:=by
 intro x hx
 simp only [bldO,List.mem_cons,List.not_mem_nil,or_false] at hx
 rcases hx with rfl | rfl
 ·exact .cells (.cons (adr_cl u) (.cons (cl_tosl (by decide)) .nil))
 ·exact .arr (byte_cl bs)
theorem ws_meets:Meets Tryd.prog n_strings_Builder_WriteString (SpecF (fun ((_,bs,s):Bool×List UInt8×List UInt8)=>bs.length+s.length≤4294967296) (fun (_,_,s)=>[.loc 0 0,.str s]) (fun (u,bs,_)=>bldO u bs) (fun (_,_,s)=>.tup [.int .i64 s.length,.nilif]) fun (_,bs,s)=>bldO true (bs++s)):=by
 refine meets_f tabOk Tryd.func17 rfl (by decide) ?_
 rintro ⟨u,bs,s⟩ hb
 have hb:bs.length+s.length≤4294967296:=hb
 refine ⟨Nat.le_refl _,by simp [Tryd.f17],fun E hE=>?_⟩
 dsimp only
 refine vcOk _ ?_
 (all_goals refine qgp ?_<;>(repeat' first | exact trivial | intro hc | refine And.intro ?_ ?_)<;>refine Lf.mk ?_)
 refine call_pre cc_meets (bldO u bs) [] (bldO true bs) (d:=.tup []) (List.append_nil _).symm ⟨(u,bs),trivial,LeL.refl _,rfl,rfl,rfl⟩ rfl (.cons (.loc (by show 0 < 2;decide)) .nil) .tup0 (bldO_cl _ _) (bldO_cl _ _) ?_
 unfold bldO adrD
 (all_goals refine qgp ?_<;>(repeat' first | exact trivial | intro hc | refine And.intro ?_ ?_)<;>refine Lf.mk ?_)
 exact end_pre (bldO true (bs++s)) [] rfl (Nat.le_refl _) (.tup (.cons .int (.cons nilif_cl .nil))) (bldO_cl _ _)
end Go.Proofs.YtfahnaccpncdpaaDoor
namespace Go.Proofs.YtfahnaccpncdpaaDoor
open Go Go.Plat Go.RowKit Go.Lib Go.Shelf
theorem st_ntmps:Tryd.f20.ntmps=14:=by simp [Tryd.f20]
set_option maxHeartbeats 2000000 in
set_option maxRecDepth 100000 in
theorem st_row (b o g cap c:Nat) (l:List UInt8) (w:World) (h1:w.cell? ⟨b,o+1,none⟩=some (.slice (some ⟨g,0,none⟩) l.length cap)) (h0:l≠[]) (hcap:l.length≤cap) (hsh:w.shape? g=some (5,c)) (hc:l.length≤c) (h63:l.length≤9223372036854775807)
  (hcell:∀ j x,l[j]?=some x→w.cell? ⟨g,j,none⟩=some (.int .u8 (x.toNat:Int))) :
  Calls Tryd.prog n_strings_Builder_String #[.pointer (some ⟨b,o,none⟩)] w fun e w'=>e= .returned (.string ⟨l.toArray⟩)∧w'=w.drew.freeze ⟨g,0,none⟩ l.length:=by
 have hl0:l.length≠0:=by simpa using h0
 have c1:w.drew.cell? ⟨b,o+1,none⟩=some (.slice (some ⟨g,0,none⟩) l.length cap):=h1
 have hSD:(Builtin.unsafeSliceData_ #[22] 75 #[.slice (some ⟨g,0,none⟩) l.length cap]).run Tryd.prog w.drew= .ok (.pointer (some ⟨g,0,none⟩)) w.drew:=
  Lib.run_unsafeSliceData_row _ _ _ _ _ _ (by omega)
 have t127:=Tryd.underlying75;have a127:=Tryd.isAgg75;have z127:=Tryd.sizeOf75;have v127:=Tryd.zeroValue75
 have hUS:(Builtin.unsafeString_ #[75,3] 9 #[.pointer (some ⟨g,0,none⟩),.int .i64 l.length]).run Tryd.prog w.drew= .ok (.string ⟨l.toArray⟩) (w.drew.freeze ⟨g,0,none⟩ l.length):=by
  refine Lib.run_unsafeString_row w.drew 75 3 9 5 t127 (by kernel_rfl) g c hsh l h0 hc h63 ?_
  intro j x hx
  have:=hcell j x hx
  rw [addr_add,Nat.zero_add]
  exact this
 have mixed:Tryd.prog.follows .mixedOrders=true:=by kernel_rfl
 have t72:=Tryd.underlying43;have a72:=Tryd.isAgg43;have z72:=Tryd.sizeOf43;have v72:=Tryd.zeroValue43
 have t70:=Tryd.underlying41;have a70:=Tryd.isAgg41;have z70:=Tryd.sizeOf41;have v70:=Tryd.zeroValue41
 have t37:=Tryd.underlying22;have a37:=Tryd.isAgg22;have z37:=Tryd.sizeOf22;have v37:=Tryd.zeroValue22
 have t3:=Tryd.underlying3;have a3:=Tryd.isAgg3;have z3:=Tryd.sizeOf3;have v3:=Tryd.zeroValue3
 have t9:=Tryd.underlying9;have a9:=Tryd.isAgg9;have z9:=Tryd.sizeOf9;have v9:=Tryd.zeroValue9
 have t5:=Tryd.underlying5;have a5:=Tryd.isAgg5;have z5:=Tryd.sizeOf5;have v5:=Tryd.zeroValue5
 go_enter Tryd.func20,st_ntmps
 go_wp2
 go_region_o
 all_goals (go_wp2;go_ret;exact ⟨rfl,rfl⟩)
set_option maxHeartbeats 2000000 in
set_option maxRecDepth 100000 in
theorem st_empty (b o cap:Nat) (a:Option Addr) (w:World) (h1:w.cell? ⟨b,o+1,none⟩=some (.slice a 0 cap)) (ha:a=none∨cap≠0) :
  Calls Tryd.prog n_strings_Builder_String #[.pointer (some ⟨b,o,none⟩)] w fun e w'=>e= .returned (.string ⟨#[]⟩)∧w'=w.drew:=by
 have c1:w.drew.cell? ⟨b,o+1,none⟩=some (.slice a 0 cap):=h1
 have hSD:(Builtin.unsafeSliceData_ #[22] 75 #[.slice a 0 cap]).run Tryd.prog w.drew= .ok (.pointer a) w.drew:=by
  cases a with
  | none=>rfl
  | some a=>exact Lib.run_unsafeSliceData_row _ _ _ _ _ _ (ha.resolve_left (fun h=>by cases h))
 have hUS:∀ q,(Builtin.unsafeString_ #[75,3] 9 #[.pointer q,.int .i64 0]).run Tryd.prog w.drew= .ok (.string .empty) w.drew:=fun q=>Lib.run_unsafeString_none w.drew _ _ _ q
 have mixed:Tryd.prog.follows .mixedOrders=true:=by kernel_rfl
 have t127:=Tryd.underlying75;have a127:=Tryd.isAgg75;have z127:=Tryd.sizeOf75;have v127:=Tryd.zeroValue75
 have t72:=Tryd.underlying43;have a72:=Tryd.isAgg43;have z72:=Tryd.sizeOf43;have v72:=Tryd.zeroValue43
 have t70:=Tryd.underlying41;have a70:=Tryd.isAgg41;have z70:=Tryd.sizeOf41;have v70:=Tryd.zeroValue41
 have t37:=Tryd.underlying22;have a37:=Tryd.isAgg22;have z37:=Tryd.sizeOf22;have v37:=Tryd.zeroValue22
 have t3:=Tryd.underlying3;have a3:=Tryd.isAgg3;have z3:=Tryd.sizeOf3;have v3:=Tryd.zeroValue3
 have t9:=Tryd.underlying9;have a9:=Tryd.isAgg9;have z9:=Tryd.sizeOf9;have v9:=Tryd.zeroValue9
 have t5:=Tryd.underlying5;have a5:=Tryd.isAgg5;have z5:=Tryd.sizeOf5;have v5:=Tryd.zeroValue5
 clear ha
 go_enter Tryd.func20,st_ntmps
 go_wp2
 go_region_o
 all_goals (go_wp2;go_ret;exact ⟨rfl,rfl⟩)
set_option maxHeartbeats 2000000 in
set_option maxRecDepth 100000 in
theorem st_noroom (b o g c:Nat) (w:World) (h1:w.cell? ⟨b,o+1,none⟩=some (.slice (some ⟨g,0,none⟩) 0 0)) (hsh:w.shape? g=some (5,c)) :
  Calls Tryd.prog n_strings_Builder_String #[.pointer (some ⟨b,o,none⟩)] w fun e w'=>e= .returned (.string ⟨#[]⟩)∧w'=w.drew.alloc (.view ⟨g,0,none⟩ 5):=by
 have hlt:b < w.heap.size:=World.block_lt_of_cell? _ _ h1
 have t127:=Tryd.underlying75;have a127:=Tryd.isAgg75;have z127:=Tryd.sizeOf75;have v127:=Tryd.zeroValue75
 have c1:w.drew.cell? ⟨b,o+1,none⟩=some (.slice (some ⟨g,0,none⟩) 0 0):=h1
 have hSD:(Builtin.unsafeSliceData_ #[22] 75 #[.slice (some ⟨g,0,none⟩) 0 0]).run Tryd.prog w.drew= .ok (.pointer (some ⟨w.drew.heap.size,0,none⟩)) (w.drew.alloc (.view ⟨g,0,none⟩ 5)):=
  Lib.run_unsafeSliceData_zero w.drew _ _ 5 t127 ⟨g,0,none⟩ 0 (5,c) hsh
 have c2:(w.drew.alloc (.view ⟨g,0,none⟩ 5)).cell? ⟨b,o+1,none⟩=some (.slice (some ⟨g,0,none⟩) 0 0):=(World.cell?_alloc_old w.drew (a:=⟨b,o+1,none⟩) (o:=.view ⟨g,0,none⟩ 5) (by show b≠w.heap.size;omega)).trans h1
 have c3:(w.alloc (.view ⟨g,0,none⟩ 5)).drew.cell? ⟨b,o+1,none⟩=some (.slice (some ⟨g,0,none⟩) 0 0):=c2
 have c0:w.cell? ⟨b,o+1,none⟩=some (.slice (some ⟨g,0,none⟩) 0 0):=h1
 have hUS:∀ (W:World) q,(Builtin.unsafeString_ #[75,3] 9 #[.pointer q,.int .i64 0]).run Tryd.prog W= .ok (.string .empty) W:=fun W q=>Lib.run_unsafeString_none W _ _ _ q
 have mixed:Tryd.prog.follows .mixedOrders=true:=by kernel_rfl
 have t72:=Tryd.underlying43;have a72:=Tryd.isAgg43;have z72:=Tryd.sizeOf43;have v72:=Tryd.zeroValue43
 have t70:=Tryd.underlying41;have a70:=Tryd.isAgg41;have z70:=Tryd.sizeOf41;have v70:=Tryd.zeroValue41
 have t37:=Tryd.underlying22;have a37:=Tryd.isAgg22;have z37:=Tryd.sizeOf22;have v37:=Tryd.zeroValue22
 have t3:=Tryd.underlying3;have a3:=Tryd.isAgg3;have z3:=Tryd.sizeOf3;have v3:=Tryd.zeroValue3
 have t9:=Tryd.underlying9;have a9:=Tryd.isAgg9;have z9:=Tryd.sizeOf9;have v9:=Tryd.zeroValue9
 have t5:=Tryd.underlying5;have a5:=Tryd.isAgg5;have z5:=Tryd.sizeOf5;have v5:=Tryd.zeroValue5
 go_enter Tryd.func20,st_ntmps
 go_wp2
 go_region_o
 all_goals (go_wp2;go_ret;exact ⟨rfl,rfl⟩)
end Go.Proofs.YtfahnaccpncdpaaDoor
namespace Go.Proofs.YtfahnaccpncdpaaDoor
open Go Go.Plat
set_option linter.unusedVariables false
set_option linter.unusedSimpArgs false
set_option maxRecDepth 100000
set_option maxHeartbeats 2000000
attribute [local irreducible] AWP Arith BitS BytesS CallS CatS DrawS EndS IdxS LookS LoopEnd Meets ModeS NilS NormL NormM QuoS RemS ShlS ShrS SideS SplitS bitI
theorem freeze_heap (w:World) (a:Addr) (n b:Nat) (h:b≠a.block):(w.freeze a n).heap[b]?=w.heap[b]?:=by
 unfold World.freeze
 split
 ·rfl
 dsimp only
 rw [Array.getElem?_modify,if_neg (fun e=>h e.symm)]
theorem freeze_cell (w:World) (a p:Addr) (n:Nat):(w.freeze a n).cell? p=w.cell? p:=by
 by_cases h:p.block=a.block
 ·unfold World.freeze
  split
  ·rfl
  unfold World.cell?
  dsimp only
  rw [Array.getElem?_modify,if_pos h.symm]
  cases hx:w.heap[p.block]? with
  | none=>rfl
  | some o=>cases o<;>rfl
 ·unfold World.cell?
  rw [freeze_heap _ _ _ _ h]
theorem freeze_size (w:World) (a:Addr) (n:Nat):(w.freeze a n).heap.size=w.heap.size:=by
 unfold World.freeze
 split
 ·rfl
 ·simp
theorem freeze_rest (w:World) (a:Addr) (n:Nat):(w.freeze a n).os=w.os∧(w.freeze a n).tape=w.tape∧(w.freeze a n).output=w.output:=by
 unfold World.freeze
 split<;>exact ⟨rfl,rfl,rfl⟩
theorem shape_off {w:World} {g off c:Nat} {t:TypeId} {v:Value} (h:w.shape? g=some (t,c)) (hc:w.cell? ⟨g,off,none⟩=some v):off < c:=by
 unfold World.shape? at h
 unfold World.cell? at hc
 dsimp only at hc
 split at h
 ·rename_i row e z hx
  rw [hx] at hc
  cases h
  dsimp only at hc
  exact (Array.getElem?_eq_some_iff.1 hc).1
 ·cases h
theorem Ext.freeze {F:Nat→Nat→Prop} (w:World) {g n c:Nat} {t:TypeId} (hs:w.shape? g=some (t,c)) (hc:0 < c) (hF:∀ off,off < c→F g off):Ext F w (w.freeze ⟨g,0,none⟩ n):=by
 obtain ⟨r1,r2,r3⟩:=freeze_rest w ⟨g,0,none⟩ n
 refine ⟨r1,r2,r3,by rw [freeze_size];exact Nat.le_refl _,fun b _ hn=>freeze_heap _ _ _ _ fun e=>?_,fun b off _ _=>freeze_cell _ _ _ _,fun b off v hn hv hs2=>?_,fun b s h=>shape_freeze h _ _⟩
 ·subst e
  exact hn 0 (hF 0 hc)
 ·have hb:b≠g:=fun e=>by
   subst e
   exact hn (hF off (shape_off hs hv))
  have hh:=freeze_heap w ⟨g,0,none⟩ n b hb
  unfold Soft World.frozen? Plat.Clean at hs2 ⊢
  rw [hh]
  exact hs2
theorem dead_post {w w':World} {ρ:Pl} {L:List Ob} {n:Nat} (hf:Fits w ρ L) (hn:L.length≤n) (hx:Ext (own ρ L) w w') {d:D} {v:Value} (hd:∀ F,RepP w' F d v):Post w ρ L d (List.replicate n .dead) v w' ρ:=by
 have hg:∀ (k:Nat) o,(List.replicate n Ob.dead)[k]?=some o→o= .dead:=fun k o h=>by
  rw [List.getElem?_replicate] at h
  split at h
  ·cases h;rfl
  ·cases h
 have hno:∀ b off,¬ own ρ (List.replicate n .dead) b off:=by
  rintro b off ⟨k,o,h1,h2⟩
  rw [hg k o h1] at h2
  exact h2
 have hfo:∀ b off,foot ρ (List.replicate n .dead) b off→foot ρ L b off:=fun b off h=>.inr (h.resolve_left (hno b off))
 refine ⟨⟨hf.glob.keep hx.foot fun b off h=>.inl (hfo b off h),fun b off h=>Nat.lt_of_lt_of_le (hf.hid b off h) hx.size,fun b off h=>absurd h (hno b off),fun k o h=>?_,fun k k' o o' b off h1 h2 h3 h4=>?_⟩,.pure _ _ (hd _),hx,fun b off h=>absurd h (hno b off),?_⟩
 ·rw [hg k o h];trivial
 ·rw [hg k o h1] at h3;exact h3.elim
 ·exact ⟨rfl,by rw [List.length_replicate];exact hn,fun k ds' _ h=>(by cases hg k _ h),fun k ds' _ h=>(by cases hg k _ h),fun k ds' _ h=>(by cases hg k _ h),fun k e ds' _ h=>(by cases hg k _ h)⟩
theorem st_meets:Meets Tryd.prog n_strings_Builder_String (SpecF (fun ((_,bs):Bool×List UInt8)=>bs.length≤4294967296) (fun _=>[.loc 0 0]) (fun (u,bs)=>bldO u bs) (fun (_,bs)=>.str bs) fun _=>[.dead,.dead]):=by
 unfold Meets
 refine ⟨⟨_,Tryd.func20,by decide,rfl⟩,?_⟩
 rintro av L d0 L' ⟨⟨u,bs⟩,hbs,has,rfl,rfl,rfl⟩ w ρ vs hf hr
 have hbs:bs.length≤4294967296:=hbs
 have hr:=RepL.le has hr
 obtain ⟨v0,rfl⟩:=len1 hr.1
 obtain ⟨a,rfl,hk,hm⟩:=(hr.2 0 _ _ rfl rfl).loc_inv
 obtain rfl:=hm _ rfl
 obtain ⟨h1,h2⟩:=hf.obj 0 _ rfl
 obtain ⟨⟨x,h3,h4⟩,h5⟩:=h2 1 _ rfl
 obtain ⟨ad,cap,rfl, -,hcap,hm⟩:=h4.tosl_inv
 obtain ⟨-, -,hm⟩:=hm 1 _ rfl
 obtain ⟨hc,hat⟩:=hm (List.length_map _).symm.symm
 obtain ⟨o1,o2,o3,o4⟩:=hf.obj 1 _ rfl
 rw [Nat.add_zero]
 by_cases h0:bs=[]
 ·subst h0
  by_cases hn:ad=none∨cap≠0
  ·refine (st_empty (ρ 0).block (ρ 0).off cap ad w h3 hn).mono ?_
   rintro e w' ⟨rfl,rfl⟩
   exact ⟨_,ρ,rfl,dead_post (n:=2) hf (Nat.le_refl _) (Ext.drew w).grow fun F=>.str _⟩
  ·have hcz:cap=0:=by
    by_cases h:cap=0
    ·exact h
    ·exact absurd (.inr h) hn
   rcases hat with ⟨h6,_⟩ | ⟨rfl,h7,h8⟩
   ·exact absurd (.inl h6) hn
   subst hcz
   refine (st_noroom (ρ 0).block (ρ 0).off (ρ 1).block 0 w h3 h8).mono ?_
   rintro e w' ⟨rfl,rfl⟩
   exact ⟨_,ρ,rfl,dead_post (n:=2) hf (Nat.le_refl _) ((Ext.drew w).trans0 (Ext.alloc w.drew _)).grow fun F=>.str _⟩
 ·rcases hat with ⟨h6,h7⟩ | ⟨rfl,h7,h8⟩
  ·exact absurd (List.eq_nil_of_length_eq_zero (by omega)) h0
  have hpos:0 < cap:=Nat.lt_of_lt_of_le (List.length_pos_iff.2 h0) hcap
  refine (st_row (ρ 0).block (ρ 0).off (ρ 1).block cap cap bs w h3 h0 hcap h8 hcap (by omega) fun j x hx=>?_).mono ?_
  ·obtain ⟨v,h9,h10⟩:=o3 j (.int .u8 (x.toNat:Int)) 0 _ (by rw [List.getElem?_map,hx];rfl) rfl
   rw [h10.int_inv,h7,Nat.zero_add,Nat.mul_one,Nat.add_zero] at h9
   exact h9
  ·rintro e w' ⟨rfl,rfl⟩
   have hx:Ext (own ρ (bldO u bs)) w.drew (w.drew.freeze ⟨(ρ 1).block,0,none⟩ bs.length):=Ext.freeze _ (c:=cap) h8 hpos fun off ho=>⟨1,_,rfl,rfl,by omega,by omega⟩
   exact ⟨_,ρ,rfl,dead_post (n:=2) hf (Nat.le_refl _) ((Ext.drew w).grow.trans hx fun _ _ _ h=>h) fun F=>.str _⟩
theorem bytesW_ext (w:World) (t:TypeId) (s:ByteArray):Ext F0 w (Lib.bytesWorld w t s):=by
 unfold Lib.bytesWorld
 have h1:=(Ext.drew w).trans0 (Ext.alloc w.drew (.cells (Lib.bytesCells w t s) t))
 generalize w.drew.alloc (.cells (Lib.bytesCells w t s) t)=W at *
 generalize (Lib.bytesCells w t s).size=q
 obtain ⟨r1,r2,r3⟩:=freeze_rest W ⟨w.heap.size,q,none⟩ 1
 refine ⟨r1.trans h1.os,r2.trans h1.tape,r3.trans h1.output,by rw [freeze_size];exact h1.size,fun b hb hn=>(freeze_heap _ _ _ _ (by show b≠w.heap.size;omega)).trans (h1.block b hb hn),fun b off hb hn=>(freeze_cell _ _ _ _).trans (h1.cell b off hb hn),fun b off v hn hv hs=>?_,fun b s hs=>shape_freeze (h1.shape b s hs) _ _⟩
 have hb:=cell_lt hv
 have hh:=freeze_heap W ⟨w.heap.size,q,none⟩ 1 b (by show b≠w.heap.size;omega)
 have h2:=h1.frozen b off v hn hv hs
 unfold Soft World.frozen? Plat.Clean at h2 ⊢
 rw [hh]
 exact h2
theorem trim_meets:Meets Tryd.prog n_strings_TrimSpace (SpecP (fun s:List UInt8=>s.length≤1000000∧∀ c∈s,c.toNat < 128) (fun s=>[.str s]) fun s=>.str (Lib.trimSpace s)):=by
 refine meets_lib ⟨_,Tryd.func27,by decide,rfl⟩ ?_
 intro s hs w F hg vs hl hv
 match vs,hl with
 | [v],_=>
  cases hv 0 _ v rfl rfl
  refine (Go.Proofs.Tryd.strings_TrimSpace ⟨s.toArray⟩ w (by show s.toArray.size≤_;have:=hs.1;simp;omega) (fun j b hb=>hs.2 b (List.mem_of_getElem? (by simpa using hb))) ?_).mono ?_
  ·exact hg.tab (g:=0) (ns:=(List.range 256).map fun i=>if Lib.isSp (UInt8.ofNat i) then 1 else 0) (by kernel_rfl) (by kernel_rfl) (by kernel_rfl) (by decide)
  ·rintro e w' ⟨rfl,rfl⟩
   exact ⟨_,rfl,bytesW_ext _ _ _,by simpa using RepP.str _⟩
theorem trim_id {c d:UInt8} {t u:List UInt8} (hc:Lib.isSp c=false) (hd:Lib.isSp d=false) (e:c::t=u++[d]):Lib.trimSpace (c::t)=c::t:=by
 unfold Lib.trimSpace
 rw [List.dropWhile_cons,hc,if_neg (by decide),e,List.reverse_append]
 show ((d::u.reverse).dropWhile Lib.isSp).reverse=_
 rw [List.dropWhile_cons,hd,if_neg (by decide),List.reverse_cons,List.reverse_reverse]
theorem trim_end {c d:UInt8} {t u:List UInt8} (hc:Lib.isSp c=false) (hd:Lib.isSp d=false) (e:c::t=u++[d]):Lib.trimSpace (c::t++[32])=c::t:=by
 unfold Lib.trimSpace
 rw [List.cons_append,List.dropWhile_cons,hc,if_neg (by decide),← List.cons_append,List.reverse_append]
 show ((32::(c::t).reverse).dropWhile Lib.isSp).reverse=_
 rw [List.dropWhile_cons,show Lib.isSp 32=true by decide,if_pos rfl,e,List.reverse_append]
 show ((d::u.reverse).dropWhile Lib.isSp).reverse=_
 rw [List.dropWhile_cons,hd,if_neg (by decide),List.reverse_cons,List.reverse_reverse]
def signedI (n:Int) (k:Nat):Int:=if n % (2:Int) ^ k / 2 ^ (k - 1)=1 then n % (2:Int) ^ k - 2 ^ k else n % (2:Int) ^ k
theorem signed_meets:Meets Tryd.prog n_isa_signed (SpecP (fun ((n,k):Int×Nat)=>(k=8∨k=12∨k=32)) (fun (n,k)=>[.int .i64 n,.int .i64 k]) fun (n,k)=>.int .i64 (signedI n k)):=by
 refine meets_f tabOk Tryd.func31 rfl (by decide) ?_
 rintro ⟨n,k⟩ hk
 refine ⟨Nat.le_refl _,by simp [Tryd.f31],fun E hE=>?_⟩
 rcases hk with hk | hk | hk<;>(have hk:k=_:=hk;subst hk;refine vcOk _ ?_)
 ·have h0:=Int.emod_nonneg n (show (256:Int)≠0 by decide)
  have h1:=Int.emod_lt_of_pos n (show (0:Int) < 256 by decide)
  have hd:signedI n 8=if n % 256 / 128=1 then n % 256 - 256 else n % 256:=rfl
  (all_goals refine qgo (Lf.mk ?_))
  refine shr_lit (s:=7) (m:=128) rfl (by decide) (by decide) ?_
  (all_goals refine qgo ?_<;>(repeat' first | exact trivial | intro hc | refine And.intro ?_ ?_)<;>refine Lf.mk ?_)
  ·skip
   refine end_p (VS.mk (LeD.of_eq (congrArg (D.int .i64) ?_)))
   rw [hd,if_pos hc]
   omega
  ·refine end_p (VS.mk (LeD.of_eq (congrArg (D.int .i64) ?_)))
   rw [hd,if_neg hc]
 ·have h0:=Int.emod_nonneg n (show (4096:Int)≠0 by decide)
  have h1:=Int.emod_lt_of_pos n (show (0:Int) < 4096 by decide)
  have hd:signedI n 12=if n % 4096 / 2048=1 then n % 4096 - 4096 else n % 4096:=rfl
  (all_goals refine qgo (Lf.mk ?_))
  refine shl_lit (s:=12) (m:=4096) rfl (by decide) (by decide) (by decide) (by decide) ?_
  (all_goals refine qgo (Lf.mk ?_))
  refine shr_lit (s:=11) (m:=2048) rfl (by decide) (by decide) ?_
  (all_goals refine qgo ?_<;>(repeat' first | exact trivial | intro hc | refine And.intro ?_ ?_)<;>refine Lf.mk ?_)
  ·refine shl_lit (s:=12) (m:=4096) rfl (by decide) (by decide) (by decide) (by decide) ?_
   (all_goals refine qgo (Lf.mk ?_))
   refine end_p (VS.mk (LeD.of_eq (congrArg (D.int .i64) ?_)))
   rw [hd,if_pos hc]
   omega
  ·refine end_p (VS.mk (LeD.of_eq (congrArg (D.int .i64) ?_)))
   rw [hd,if_neg hc]
 ·have h0:=Int.emod_nonneg n (show (4294967296:Int)≠0 by decide)
  have h1:=Int.emod_lt_of_pos n (show (0:Int) < 4294967296 by decide)
  have hd:signedI n 32=if n % 4294967296 / 2147483648=1 then n % 4294967296 - 4294967296 else n % 4294967296:=rfl
  (all_goals refine qgo (Lf.mk ?_))
  refine shl_lit (s:=32) (m:=4294967296) rfl (by decide) (by decide) (by decide) (by decide) ?_
  (all_goals refine qgo (Lf.mk ?_))
  refine bit_mk (and_mask (k:=32) (by decide) (by decide)) ?_
  rw [show (2:Int) ^ 32=4294967296 from rfl]
  (all_goals refine qgo (Lf.mk ?_))
  refine shr_lit (s:=31) (m:=2147483648) rfl (by decide) (by decide) ?_
  (all_goals refine qgo ?_<;>(repeat' first | exact trivial | intro hc | refine And.intro ?_ ?_)<;>refine Lf.mk ?_)
  ·refine shl_lit (s:=32) (m:=4294967296) rfl (by decide) (by decide) (by decide) (by decide) ?_
   (all_goals refine qgo (Lf.mk ?_))
   refine end_p (VS.mk (LeD.of_eq (congrArg (D.int .i64) ?_)))
   rw [hd,if_pos hc]
   omega
  ·refine end_p (VS.mk (LeD.of_eq (congrArg (D.int .i64) ?_)))
   rw [hd,if_neg hc]
structure IRow where
 op:Int
 name:List UInt8
 shape:Int
 bits:Int
def irowD (r:IRow):D:=.agg [.int .i64 r.op,.str r.name,.int .i64 r.shape,.int .i64 r.bits]
def irows:List IRow:=[
 ⟨1,[110,111,112],0,9⟩,
 ⟨2,[114,116,115],0,11⟩,
 ⟨3,[109,111,118],1,57344⟩,
 ⟨4,[97,100,100],1,28672⟩,
 ⟨5,[109,111,118],2,24579⟩,
 ⟨6,[97,100,100],2,12300⟩,
 ⟨7,[115,117,98],2,12296⟩,
 ⟨8,[97,110,100],2,8201⟩,
 ⟨9,[111,114],2,8203⟩,
 ⟨10,[120,111,114],2,8202⟩,
 ⟨11,[116,115,116],2,8200⟩,
 ⟨12,[99,109,112,47,101,113],2,12288⟩,
 ⟨13,[99,109,112,47,103,116],2,12295⟩,
 ⟨14,[115,104,108,108],3,16384⟩,
 ⟨15,[115,104,108,114],3,16385⟩,
 ⟨16,[100,116],3,16400⟩,
 ⟨17,[98,116],4,35072⟩,
 ⟨18,[98,102],4,35584⟩,
 ⟨19,[98,114,97],5,40960⟩,
 ⟨20,[98,115,114],5,45056⟩,
 ⟨21,[106,109,112],6,16427⟩,
 ⟨22,[106,115,114],6,16395⟩,
 ⟨23,[109,111,118,46,119],7,36864⟩,
 ⟨24,[109,111,118,46,108],8,53248⟩,
 ⟨25,[109,111,118,46,108],9,8194⟩,
 ⟨26,[109,111,118,46,108],10,24578⟩,
 ⟨27,[116,114,97,112,97],11,49920⟩]
theorem irows_len:irows.length=27:=rfl
theorem rows_meets:Meets Tryd.prog n_isa_rows (SpecP (fun _:Unit=>True) (fun _=>[]) fun _=>.sl 4 (irows.map irowD) none):=by
 refine meets_f tabOk Tryd.func28 rfl (by decide) fun _ _=>?_
 refine ⟨Nat.le_refl _,by simp [Tryd.f28],fun E hE=>?_⟩
 refine vcOk _ ?_
 (all_goals refine qgo ?_<;>(repeat' first | exact trivial | intro hc | refine And.intro ?_ ?_)<;>refine Lf.mk ?_)
 exact end_p (VS.mk (LeD.of_eq (by rfl)))
def infoR (op:Int):Option IRow:=irows.find? fun r=>r.op==op
def infoD (op:Int):D:=match infoR op with | some r=>.tup [.str r.name,.int .i64 r.shape] | none=>.tup [.str [],.int .i64 0]
theorem info_meets:Meets Tryd.prog n_isa_Info (SpecP (fun _:Int=>True) (fun op=>[.int .i64 op]) infoD):=by
 refine meets_f tabOk Tryd.func26 rfl (by decide) fun op _=>?_
 refine ⟨Nat.le_refl _,by simp [Tryd.f26],fun E hE=>?_⟩
 refine vcOk _ ?_
 (all_goals refine qgo ?_<;>(repeat' first | exact trivial | intro hc | refine And.intro ?_ ?_)<;>refine Lf.mk ?_)
 refine call_p rows_meets () trivial (VS.mk (by (first | exact LeL.refl _ | (repeat' (first | exact LeL.nil | exact LeD.refl _ | exact LeD.nil _ | exact LeD.strip _ _ _ | refine LeL.cons ?_ ?_ | refine LeD.tup ?_ | refine LeD.agg ?_))))) ?_
 (all_goals refine qgo ?_<;>(repeat' first | exact trivial | intro hc | refine And.intro ?_ ?_)<;>refine Lf.mk ?_)
 refine awp_loop (α:=Nat) (fun k=>k≤27∧∀ (i:Nat) r,i < k→irows[i]?=some r→(r.op==op)=false) (fun k=>[(6,.sl 4 (irows.map irowD) none),(7,.int .i64 27),(8,.int .i64 k),(0,.int .i64 op)]) (fun _=>[]) (fun k=>27 - k) (fun _=>by simp [hE]) 0 ⟨Nat.zero_le _,by simp⟩ ?_ ?_
 ·(repeat' (first | (refine VS.mk ?_) | exact trivial | exact rfl | refine And.intro ?_ ?_))
 rintro k ⟨hk,hno⟩
 refine vcOk _ ?_
 (all_goals refine qgo ?_<;>(repeat' first | exact trivial | intro hc | refine And.intro ?_ ?_)<;>refine Lf.mk ?_)
 ·obtain ⟨r,hr⟩:=at_of_lt (l:=irows) (k:=k) (by rw [irows_len];omega)
  refine ix_map r (by omega) (by simpa using hr) ?_
  (all_goals refine qgo ?_<;>(repeat' first | exact trivial | intro hc | refine And.intro ?_ ?_)<;>refine Lf.mk ?_)
  ·refine end_p (VS.mk (LeD.of_eq ?_))
   have hf:=find_at (p:=fun r=>r.op==op) hr (by simpa using hc) hno
   rw [infoD,infoR,hf]
  ·refine loop_end (k+1) ⟨by omega,no_step hno hr (by simpa using hc)⟩ (by omega) ?_
   (repeat' (first | (refine VS.mk ?_) | exact trivial | exact rfl | refine And.intro ?_ ?_))
 ·refine end_p (VS.mk (LeD.of_eq ?_))
  have hf:=no_end hno (by rw [irows_len];omega)
  rw [infoD,infoR,hf]
def uses1 (s:Int):Bool:=s==1 || s==3 || s==6 || s==7 || s==8 || s==2 || s==9 || s==10
def uses2 (s:Int):Bool:=s==2 || s==9 || s==10
theorem uses_meets:Meets Tryd.prog n_isa_uses (SpecP (fun _:Int=>True) (fun s=>[.int .i64 s]) fun s=>.tup [.bool (uses1 s),.bool (uses2 s)]):=by
 refine meets_f tabOk Tryd.func30 rfl (by decide) fun s _=>?_
 refine ⟨Nat.le_refl _,by simp [Tryd.f30],fun E hE=>?_⟩
 refine vcOk _ ?_
 (all_goals refine qgo ?_<;>(repeat' first | exact trivial | intro hc | refine And.intro ?_ ?_)<;>refine Lf.mk ?_)
 all_goals (refine end_p (VS.mk ?_))
 all_goals first | (exfalso;omega) | (refine LeD.tup (.cons ?_ (.cons ?_ .nil))<;>first | exact LeD.tt (by simp_all [uses1,uses2]) | exact LeD.ff (by simp_all [uses1,uses2]))
def lowI (s:Int):Int:=if s=1∨s=4 then -128 else if s=5 then -2048 else 0
def highI (s:Int):Int:=if s=1∨s=4 then 127 else if s=5 then 2047 else if s=7∨s=8∨s=11 then 255 else 0
theorem range_meets:Meets Tryd.prog n_isa_Range (SpecP (fun _:Int=>True) (fun s=>[.int .i64 s]) fun s=>.tup [.int .i64 (lowI s),.int .i64 (highI s)]):=by
 refine meets_f tabOk Tryd.func40 rfl (by decide) fun s _=>?_
 refine ⟨Nat.le_refl _,by simp [Tryd.f40],fun E hE=>?_⟩
 refine vcOk _ ?_
 (all_goals refine qgo ?_<;>(repeat' first | exact trivial | intro hc | refine And.intro ?_ ?_)<;>refine Lf.mk ?_)
 all_goals (refine end_p (VS.mk ?_))
 all_goals (refine LeD.of_eq ?_;unfold lowI highI;simp;omega)
def maskI (s:Int):Int:=if s=0 then 65535 else if s=2∨s=9∨s=10 then 61455 else if s=3∨s=6 then 61695 else if s=4∨s=11 then 65280 else 61440
theorem mask_meets:Meets Tryd.prog n_isa_mask (SpecP (fun _:Int=>True) (fun s=>[.int .i64 s]) fun s=>.int .i64 (maskI s)):=by
 refine meets_f tabOk Tryd.func29 rfl (by decide) fun s _=>?_
 refine ⟨Nat.le_refl _,by simp [Tryd.f29],fun E hE=>?_⟩
 refine vcOk _ ?_
 (all_goals refine qgo ?_<;>(repeat' first | exact trivial | intro hc | refine And.intro ?_ ?_)<;>refine Lf.mk ?_)
 all_goals (refine end_p (VS.mk (LeD.of_eq (congrArg (D.int .i64) ?_))))
 all_goals (unfold maskI;(repeat' split)<;>first | rfl | omega)
attribute [local irreducible] highI infoR irows lowI maskI signedI uses1 uses2
structure Ins where
 op:Int
 n:Int
 m:Int
 imm:Int
def insD (i:Ins):D:=.agg [.int .i64 i.op,.int .i64 i.n,.int .i64 i.m,.int .i64 i.imm]
def badReg (r:IRow) (i:Ins):Prop:=i.n < 0∨15 < i.n∨(uses1 r.shape=false∧i.n≠0)∨i.m < 0∨15 < i.m∨(uses2 r.shape=false∧i.m≠0)∨i.imm < lowI r.shape∨highI r.shape < i.imm
instance (r:IRow) (i:Ins):Decidable (badReg r i):=by unfold badReg;infer_instance
def wrongI (i:Ins):Int:=match infoR i.op with
 | none=>1
 | some r=>if badReg r i then 3 else 0
theorem irow_name:∀ r∈irows,r.name≠[]:=by unfold irows;decide
theorem infoR_mem {op:Int} {r:IRow} (h:infoR op=some r):r∈irows∧r.op=op:=by
 unfold infoR at h
 exact ⟨List.mem_of_find?_eq_some h,by simpa using List.find?_some h⟩
theorem iwrong_meets:Meets Tryd.prog n_isa_Wrong (SpecP (fun _:Ins=>True) (fun i=>[insD i]) fun i=>.int .i64 (wrongI i)):=by
 refine meets_f tabOk Tryd.func32 rfl (by decide) fun i _=>?_
 refine ⟨Nat.le_refl _,by simp [Tryd.f32],fun E hE=>?_⟩
 refine vcOk _ ?_
 (all_goals refine qgo (Lf.mk ?_))
 refine call_p info_meets i.op trivial (VS.mk (by (first | exact LeL.refl _ | (repeat' (first | exact LeL.nil | exact LeD.refl _ | exact LeD.nil _ | exact LeD.strip _ _ _ | refine LeL.cons ?_ ?_ | refine LeD.tup ?_ | refine LeD.agg ?_))))) ?_
 cases hi:infoR i.op with
 | none=>
  have hw:wrongI i=1:=by unfold wrongI;rw [hi]
  rw [show infoD i.op= .tup [.str [],.int .i64 0] by unfold infoD;rw [hi]]
  (all_goals refine qgo ?_<;>(repeat' first | exact trivial | intro hc | refine And.intro ?_ ?_)<;>refine Lf.mk ?_)
  ·refine end_p (VS.mk (LeD.of_eq ?_))
   rw [hw]
  ·exfalso;exact hc trivial
 | some r=>
  have hn:r.name≠[]:=irow_name r (infoR_mem hi).1
  have hw:wrongI i=if badReg r i then 3 else 0:=by unfold wrongI;rw [hi]
  rw [show infoD i.op= .tup [.str r.name,.int .i64 r.shape] by unfold infoD;rw [hi]]
  (all_goals refine qgo ?_<;>(repeat' first | exact trivial | intro hc | refine And.intro ?_ ?_)<;>refine Lf.mk ?_)
  ·exfalso;exact hn hc
  refine call_p uses_meets r.shape trivial (VS.mk (by (first | exact LeL.refl _ | (repeat' (first | exact LeL.nil | exact LeD.refl _ | exact LeD.nil _ | exact LeD.strip _ _ _ | refine LeL.cons ?_ ?_ | refine LeD.tup ?_ | refine LeD.agg ?_))))) ?_
  (all_goals refine qgo (Lf.mk ?_))
  refine call_p range_meets r.shape trivial (VS.mk (by (first | exact LeL.refl _ | (repeat' (first | exact LeL.nil | exact LeD.refl _ | exact LeD.nil _ | exact LeD.strip _ _ _ | refine LeL.cons ?_ ?_ | refine LeD.tup ?_ | refine LeD.agg ?_))))) ?_
  (all_goals refine qgo ?_<;>(repeat' first | exact trivial | intro hc | refine And.intro ?_ ?_)<;>refine Lf.mk ?_)
  all_goals (refine end_p (VS.mk (LeD.of_eq (congrArg (D.int .i64) ?_)));rw [hw])
  all_goals first | (rw [if_pos];unfold badReg;simp_all;done) | (rw [if_neg];unfold badReg;simp_all;done) | (rw [if_neg];unfold badReg;simp_all;omega)
def bitsOf (op:Int):Int:=irows.foldl (fun b r=>if r.op=op then r.bits else b) 0
theorem irow_bits:∀ r∈irows,bitsOf r.op=r.bits∧0≤r.bits∧r.bits≤65535:=by unfold bitsOf irows;decide
def encN (b n m v:Nat):Nat:=b ||| n * 256 ||| m * 16 ||| v
def encI (r:IRow) (i:Ins):Int:=(encN r.bits.toNat i.n.toNat i.m.toNat (i.imm % (if r.shape=5 then 4096 else 256)).toNat:Nat)
def encV (i:Ins):Int:=match infoR i.op with | some r=>encI r i | none=>0
theorem wrongI_0 {i:Ins} (h:wrongI i=0):∃ r,infoR i.op=some r∧0≤i.n∧i.n≤15∧0≤i.m∧i.m≤15∧(uses1 r.shape=false→i.n=0)∧(uses2 r.shape=false→i.m=0)∧lowI r.shape≤i.imm∧i.imm≤highI r.shape:=by
 unfold wrongI at h
 split at h
 ·exact absurd h (by decide)
 ·rename_i r hr
  split at h
  ·exact absurd h (by decide)
  ·rename_i hb
   unfold badReg at hb
   refine ⟨r,hr,by omega,by omega,by omega,by omega,fun h=>?_,fun h=>?_,by omega,by omega⟩
   ·exact Classical.byContradiction fun h'=>hb (.inr (.inr (.inl ⟨h,h'⟩)))
   ·exact Classical.byContradiction fun h'=>hb (.inr (.inr (.inr (.inr (.inr (.inl ⟨h,h'⟩))))))
theorem bits_step {op:Int} {k:Nat} {r:IRow} (h:irows[k]?=some r):(irows.take (k+1)).foldl (fun b r=>if r.op=op then r.bits else b) 0=if r.op=op then r.bits else (irows.take k).foldl (fun b r=>if r.op=op then r.bits else b) 0:=by
 obtain ⟨hk,rfl⟩:=List.getElem?_eq_some_iff.1 h
 rw [List.take_succ_eq_append_getElem hk,List.foldl_append]
 rfl
theorem encode_meets:Meets Tryd.prog n_isa_Encode (SpecP (fun _:Ins=>True) (fun i=>[insD i]) fun i=>.tup [.int .i64 (if wrongI i=0 then encV i else 0),.int .i64 (wrongI i)]):=by
 refine meets_f tabOk Tryd.func15 rfl (by decide) fun i _=>?_
 refine ⟨Nat.le_refl _,by simp [Tryd.f15],fun E hE=>?_⟩
 refine vcOk _ ?_
 (all_goals refine qgo (Lf.mk ?_))
 refine call_p iwrong_meets i trivial (VS.mk (by (first | exact LeL.refl _ | (repeat' (first | exact LeL.nil | exact LeD.refl _ | exact LeD.nil _ | exact LeD.strip _ _ _ | refine LeL.cons ?_ ?_ | refine LeD.tup ?_ | refine LeD.agg ?_))))) ?_
 (all_goals refine qgo ?_<;>(repeat' first | exact trivial | intro hc | refine And.intro ?_ ?_)<;>refine Lf.mk ?_)
 ·refine end_p (VS.mk (LeD.of_eq ?_))
  rw [if_neg hc]
 obtain ⟨r,hi,h1,h2,h3,h4,h5,h6,h7,h8⟩:=wrongI_0 hc
 refine call_p info_meets i.op trivial (VS.mk (by (first | exact LeL.refl _ | (repeat' (first | exact LeL.nil | exact LeD.refl _ | exact LeD.nil _ | exact LeD.strip _ _ _ | refine LeL.cons ?_ ?_ | refine LeD.tup ?_ | refine LeD.agg ?_))))) ?_
 rw [show infoD i.op= .tup [.str r.name,.int .i64 r.shape] by unfold infoD;rw [hi]]
 (all_goals refine qgo (Lf.mk ?_))
 refine call_p rows_meets () trivial (VS.mk (by (first | exact LeL.refl _ | (repeat' (first | exact LeL.nil | exact LeD.refl _ | exact LeD.nil _ | exact LeD.strip _ _ _ | refine LeL.cons ?_ ?_ | refine LeD.tup ?_ | refine LeD.agg ?_))))) ?_
 (all_goals refine qgo (Lf.mk ?_))
 refine awp_loop (α:=Nat) (fun k=>k≤27) (fun k=>[(22,.sl 4 (irows.map irowD) none),(23,.int .i64 27),(24,.int .i64 k),(1,.loc 0 0),(6,.int .i64 r.shape),
  (7,.int .i64 ((irows.take k).foldl (fun b r=>if r.op=i.op then r.bits else b) 0))]) (fun _=>[.cells [.int .i64 i.op,.int .i64 i.n,.int .i64 i.m,.int .i64 i.imm]]) (fun k=>27 - k) (fun _=>by simp [hE]) 0 (Nat.zero_le _) ?_ ?_
 ·(repeat' (first | (refine VS.mk ?_) | exact trivial | exact rfl | refine And.intro ?_ ?_))
  all_goals (rw [irows_len];rfl)
 intro k hk
 refine vcOk _ ?_
 (all_goals refine qgo ?_<;>(repeat' first | exact trivial | intro hc | refine And.intro ?_ ?_)<;>refine Lf.mk ?_)
 ·obtain ⟨q,hq⟩:=at_of_lt (l:=irows) (k:=k) (by rw [irows_len];omega)
  have hst:=bits_step (op:=i.op) hq
  refine ix_map q (by omega) (by simpa using hq) ?_
  (all_goals refine qgo ?_<;>(repeat' first | exact trivial | intro hc | refine And.intro ?_ ?_)<;>refine Lf.mk ?_)
  ·refine loop_end (k+1) (by omega) (by omega) ?_
   rw [hst,if_pos hc]
   (repeat' (first | (refine VS.mk ?_) | exact trivial | exact rfl | refine And.intro ?_ ?_))
  ·refine loop_end (k+1) (by omega) (by omega) ?_
   rw [hst,if_neg hc]
   (repeat' (first | (refine VS.mk ?_) | exact trivial | exact rfl | refine And.intro ?_ ?_))
 all_goals
  obtain rfl:k=27:=by omega
  obtain ⟨hm,ho⟩:=infoR_mem hi
  obtain ⟨b1,b2,b3⟩:=irow_bits r hm
  rw [ho] at b1
  obtain ⟨B,hB⟩:=Int.eq_ofNat_of_zero_le b2
  obtain ⟨N,hN⟩:=Int.eq_ofNat_of_zero_le h1
  obtain ⟨M,hM⟩:=Int.eq_ofNat_of_zero_le h3
  have hfold:(irows.take 27).foldl (fun b r=>if r.op=i.op then r.bits else b) 0=(B:Int):=by
   rw [List.take_of_length_le (by rw [irows_len];exact Nat.le_refl _),← hB,← b1]
   rfl
  have hl1:B ||| N * 256 < 2 ^ 16:=Nat.or_lt_two_pow (by omega) (by omega)
  have hl2:B ||| N * 256 ||| M * 16 < 2 ^ 16:=Nat.or_lt_two_pow hl1 (by omega)
  rw [hfold]
  refine bit_mk (or_eq (a:=B) (b:=N * 256) rfl (by omega) (by omega) (by omega)) ?_
  (all_goals refine qgo (Lf.mk ?_))
  refine bit_mk (or_eq (a:=B ||| N * 256) (b:=M * 16) rfl (by omega) (by omega) (by omega)) ?_
  refine VS.mk ?_
 ·obtain ⟨V,hV⟩:=Int.eq_ofNat_of_zero_le (Int.emod_nonneg i.imm (show (4096:Int)≠0 by decide))
  refine bit_mk and_4095 ?_
  rw [hV]
  (all_goals refine qgo (Lf.mk ?_))
  refine bit_mk (or_eq (a:=B ||| N * 256 ||| M * 16) (b:=V) rfl rfl (by omega) (by omega)) ?_
  (all_goals refine qgo (Lf.mk ?_))
  refine end_p (VS.mk (LeD.of_eq ?_))
  rw [if_pos (by assumption),show encV i=encI r i by unfold encV;rw [hi],encI,if_pos (by assumption:r.shape=5),hV,hB,hN,hM,(by assumption:wrongI i=0)]
  rfl
 ·obtain ⟨V,hV⟩:=Int.eq_ofNat_of_zero_le (Int.emod_nonneg i.imm (show (256:Int)≠0 by decide))
  refine bit_mk and_255 ?_
  rw [hV]
  (all_goals refine qgo (Lf.mk ?_))
  refine bit_mk (or_eq (a:=B ||| N * 256 ||| M * 16) (b:=V) rfl rfl (by omega) (by omega)) ?_
  (all_goals refine qgo (Lf.mk ?_))
  refine end_p (VS.mk (LeD.of_eq ?_))
  rw [if_pos (by assumption),show encV i=encI r i by unfold encV;rw [hi],encI,if_neg (by assumption:¬ r.shape=5),hV,hB,hN,hM,(by assumption:wrongI i=0)]
  rfl
theorem mask_bd (s:Int):0≤maskI s∧maskI s≤65535:=by unfold maskI;(repeat' split)<;>omega
def fitsR (w:Nat) (r:IRow):Bool:=((w &&& (maskI r.shape).toNat:Nat):Int)==r.bits
def decR (w:Nat):Option IRow:=irows.find? (fitsR w)
def immOf (w:Int) (s:Int):Int:=if s=1∨s=4 then signedI w 8 else if s=5 then signedI w 12 else if s=7∨s=8∨s=11 then w % 256 else 0
def insOf (w:Int) (r:IRow):Ins:=⟨r.op,if uses1 r.shape=true then w / 256 % 16 else 0,if uses2 r.shape=true then w / 16 % 16 else 0,immOf w r.shape⟩
def ins0:Ins:=⟨0,0,0,0⟩
def decI (w:Int):Ins×Int:=if w < 0∨65535 < w then (ins0,3) else match decR w.toNat with
 | some r=>(insOf w r,0)
 | none=>(ins0,12)
theorem decode_meets:Meets Tryd.prog n_isa_Decode (SpecP (fun _:Int=>True) (fun w=>[.int .i64 w]) fun w=>.tup [insD (decI w).1,.int .i64 (decI w).2]):=by
 refine meets_f tabOk Tryd.func12 rfl (by decide) fun w _=>?_
 refine ⟨Nat.le_refl _,by simp [Tryd.f12],fun E hE=>?_⟩
 refine vcOk _ ?_
 (all_goals refine qgo ?_<;>(repeat' first | exact trivial | intro hc | refine And.intro ?_ ?_)<;>refine Lf.mk ?_)
 ·refine end_p (VS.mk (LeD.of_eq ?_))
  rw [show decI w=(ins0,3) by unfold decI;rw [if_pos (by omega)]]
  rfl
 ·refine end_p (VS.mk (LeD.of_eq ?_))
  rw [show decI w=(ins0,3) by unfold decI;rw [if_pos (by omega)]]
  rfl
 refine call_p rows_meets () trivial (VS.mk (by (first | exact LeL.refl _ | (repeat' (first | exact LeL.nil | exact LeD.refl _ | exact LeD.nil _ | exact LeD.strip _ _ _ | refine LeL.cons ?_ ?_ | refine LeD.tup ?_ | refine LeD.agg ?_))))) ?_
 (all_goals refine qgo (Lf.mk ?_))
 obtain ⟨W,hW⟩:=Int.eq_ofNat_of_zero_le (show 0≤w by omega)
 subst hW
 refine awp_loop (α:=Nat) (fun k=>k≤27∧∀ (i:Nat) r,i < k→irows[i]?=some r→fitsR W r=false) (fun k=>[(16,.sl 4 (irows.map irowD) none),(17,.int .i64 27),(18,.int .i64 k),(0,.int .i64 W),(2,.loc 0 0)])
  (fun _=>[.cells [.int .i64 0,.int .i64 0,.int .i64 0,.int .i64 0]]) (fun k=>27 - k) (fun _=>by simp [hE]) 0 ⟨Nat.zero_le _,by simp⟩ ?_ ?_
 ·(repeat' (first | (refine VS.mk ?_) | exact trivial | exact rfl | refine And.intro ?_ ?_))
  all_goals (rw [irows_len];rfl)
 rintro k ⟨hk,hno⟩
 refine vcOk _ ?_
 (all_goals refine qgo ?_<;>(repeat' first | exact trivial | intro hc | refine And.intro ?_ ?_)<;>refine Lf.mk ?_)
 ·obtain ⟨r,hr⟩:=at_of_lt (l:=irows) (k:=k) (by rw [irows_len];omega)
  refine ix_map r (by omega) (by simpa using hr) ?_
  (all_goals refine qgo (Lf.mk ?_))
  refine call_p mask_meets r.shape trivial (VS.mk (by (first | exact LeL.refl _ | (repeat' (first | exact LeL.nil | exact LeD.refl _ | exact LeD.nil _ | exact LeD.strip _ _ _ | refine LeL.cons ?_ ?_ | refine LeD.tup ?_ | refine LeD.agg ?_))))) ?_
  have hmb:=mask_bd r.shape
  obtain ⟨X,hX⟩:=Int.eq_ofNat_of_zero_le hmb.1
  rw [hX]
  (all_goals refine qgo (Lf.mk ?_))
  refine bit_mk (and_eq (a:=W) (b:=X) rfl rfl (by omega) (by omega)) ?_
  have hfit:fitsR W r=(((W &&& X:Nat):Int)==r.bits):=by unfold fitsR;rw [hX];rfl
  (all_goals refine qgo ?_<;>(repeat' first | exact trivial | intro hc | refine And.intro ?_ ?_)<;>refine Lf.mk ?_)
  ·refine loop_end (k+1) ⟨by omega,no_step hno hr (by rw [hfit];simpa using hc)⟩ (by omega) ?_
   (repeat' (first | (refine VS.mk ?_) | exact trivial | exact rfl | refine And.intro ?_ ?_))
  have hf:=find_at hr (by rw [hfit];simpa using hc) hno
  have hd:decI (W:Int)=(insOf W r,0):=by
   unfold decI
   rw [if_neg (by omega)]
   simp only [Int.toNat_natCast,decR,hf]
  refine call_p uses_meets r.shape trivial (VS.mk (by (first | exact LeL.refl _ | (repeat' (first | exact LeL.nil | exact LeD.refl _ | exact LeD.nil _ | exact LeD.strip _ _ _ | refine LeL.cons ?_ ?_ | refine LeD.tup ?_ | refine LeD.agg ?_))))) ?_
  (all_goals refine qgo ?_<;>(repeat' first | exact trivial | intro hc | refine And.intro ?_ ?_)<;>refine Lf.mk ?_)
  any_goals (first | (exfalso;clear hd hf hno hX hmb hfit;contradiction) | skip)
  any_goals (first | (refine call_p signed_meets (W,8) (.inl rfl) (VS.mk (LeL.of_eq rfl)) ?_) | (refine call_p signed_meets (W,12) (.inr (.inl rfl)) (VS.mk (LeL.of_eq rfl)) ?_) | skip)
  (all_goals refine qgo (Lf.mk ?_))
  all_goals (refine end_p (VS.mk (LeD.of_eq ?_));rw [hd])
  all_goals (clear hf hno hX hmb hfit hd;simp_all [insD,insOf,immOf])
 ·have hf:=no_end hno (by rw [irows_len];omega)
  have hd:decI (W:Int)=(ins0,12):=by
   unfold decI
   rw [if_neg (by omega)]
   simp only [Int.toNat_natCast,decR,hf]
  refine end_p (VS.mk (LeD.of_eq ?_))
  rw [hd]
  rfl
end Go.Proofs.YtfahnaccpncdpaaDoor
namespace Go.Proofs.YtfahnaccpncdpaaDoor
open Go Go.Plat
set_option linter.unusedVariables false
set_option linter.unusedSimpArgs false
set_option maxRecDepth 100000
set_option maxHeartbeats 2000000
attribute [local irreducible] AWP Arith BitS BytesS CallS CatS DrawS EndS IdxS LookS LoopEnd Meets ModeS NilS NormL NormM QuoS RemS ShlS ShrS SideS SplitS bitI
def allB (f:Nat→Bool):Nat→Bool
 | 0=>true
 | n+1=>match f n with
  | true=>allB f n
  | false=>false
theorem allB_at {f:Nat→Bool}:∀ {n:Nat},allB f n=true→∀ i,i < n→f i=true
 | 0,_,i,h=>by omega
 | n+1,h,i,hi=>by
  simp only [allB] at h
  split at h
  ·rename_i h1
   rcases Nat.lt_or_ge i n with h2 | h2
   ·exact allB_at h i h2
   ·obtain rfl:i=n:=by omega
    exact h1
  ·cases h
theorem and_f00f {w:Nat} (h:w < 65536):w &&& 61455=w / 4096 * 4096+w % 16:=
 Nat.eq_of_beq_eq_true (allB_at (f:=fun w=>Nat.beq (w &&& 61455) (w / 4096 * 4096+w % 16)) (n:=65536) (by kernel_rfl) w h)
theorem and_f0ff {w:Nat} (h:w < 65536):w &&& 61695=w / 4096 * 4096+w % 256:=
 Nat.eq_of_beq_eq_true (allB_at (f:=fun w=>Nat.beq (w &&& 61695) (w / 4096 * 4096+w % 256)) (n:=65536) (by kernel_rfl) w h)
theorem and_ff00 {w:Nat} (h:w < 65536):w &&& 65280=w / 256 * 256:=
 Nat.eq_of_beq_eq_true (allB_at (f:=fun w=>Nat.beq (w &&& 65280) (w / 256 * 256)) (n:=65536) (by kernel_rfl) w h)
theorem and_f000 {w:Nat} (h:w < 65536):w &&& 61440=w / 4096 * 4096:=
 Nat.eq_of_beq_eq_true (allB_at (f:=fun w=>Nat.beq (w &&& 61440) (w / 4096 * 4096)) (n:=65536) (by kernel_rfl) w h)
theorem and_ffff {w:Nat} (h:w < 65536):w &&& 65535=w:=by
 have:=Nat.and_two_pow_sub_one_eq_mod w 16
 simp at this
 rw [this];omega
def toB (r:IRow):Nat×Nat×Nat:=(r.shape.toNat,(maskI r.shape).toNat,r.bits.toNat)
def rowsB:List (Nat×Nat×Nat):=[(0,65535,9),(0,65535,11),(1,61440,57344),(1,61440,28672),(2,61455,24579),(2,61455,12300),(2,61455,12296),(2,61455,8201),(2,61455,8203),(2,61455,8202),(2,61455,8200),(2,61455,12288),(2,61455,12295),(3,61695,16384),(3,61695,16385),(3,61695,16400),(4,65280,35072),(4,65280,35584),(5,61440,40960),(5,61440,45056),(6,61695,16427),(6,61695,16395),(7,61440,36864),(8,61440,53248),(9,61455,8194),(10,61455,24578),(11,65280,49920)]
theorem rowsB_eq:irows.map toB=rowsB:=by unfold irows toB maskI;rfl
def idxB (w:Nat):List (Nat×Nat×Nat)→Nat→Nat
 | [],k=>k
 | p::l,k=>match Nat.beq (w &&& p.2.1) p.2.2 with
  | true=>k
  | false=>idxB w l (k+1)
theorem idxB_ge (w:Nat):∀ l k,k≤idxB w l k
 | [],k=>Nat.le_refl _
 | p::l,k=>by
  simp only [idxB]
  split
  ·exact Nat.le_refl _
  ·have:=idxB_ge w l (k+1);omega
theorem find_idx (w:Nat):∀ (l:List IRow) (k j:Nat),(∀ r∈l,0≤r.bits)→idxB w (l.map toB) k=k+j→l.find? (fitsR w)=l[j]?
 | [],k,j,_,_=>by simp
 | r::l,k,j,hb,h=>by
  have h0:=hb r (by simp)
  simp only [List.map_cons,idxB,toB] at h
  have hf:fitsR w r=Nat.beq (w &&& (maskI r.shape).toNat) r.bits.toNat:=by
   unfold fitsR
   rw [Bool.eq_iff_iff]
   constructor
   ·intro h
    have h:=LawfulBEq.eq_of_beq h
    rw [← h]
    exact Nat.beq_refl _
   ·intro h
    have h:=Nat.eq_of_beq_eq_true h
    rw [h,Int.toNat_of_nonneg h0]
    exact beq_self_eq_true _
  rw [List.find?_cons,hf]
  split at h
  ·rename_i hb
   obtain rfl:j=0:=by omega
   rw [hb]
   rfl
  ·rename_i hn
   have:=idxB_ge w (l.map toB) (k+1)
   cases j with
   | zero=>omega
   | succ j=>
    rw [hn]
    exact find_idx w l (k+1) j (fun r hr=>hb r (by simp [hr])) (by omega)
def fB (j b n m v:Nat):Bool:=match Nat.beq (b ||| n * 256 ||| m * 16 ||| v) (b+n * 256+m * 16+v) with
 | true=>Nat.beq (idxB (b+n * 256+m * 16+v) rowsB 0) j
 | false=>false
theorem fB_eq {j b n m v:Nat} (h:fB j b n m v=true):encN b n m v=b+n * 256+m * 16+v∧idxB (b+n * 256+m * 16+v) rowsB 0=j:=by
 unfold fB at h
 split at h
 ·rename_i h1
  exact ⟨Nat.eq_of_beq_eq_true h1,Nat.eq_of_beq_eq_true h⟩
 ·cases h
def formB (s:Nat) (f:Nat→Nat→Nat→Bool):Bool:=
 match s with
 | 0=>f 0 0 0
 | 1=>allB (fun n=>allB (fun v=>f n 0 v) 256) 16
 | 7=>allB (fun n=>allB (fun v=>f n 0 v) 256) 16
 | 8=>allB (fun n=>allB (fun v=>f n 0 v) 256) 16
 | 2=>allB (fun n=>allB (fun m=>f n m 0) 16) 16
 | 9=>allB (fun n=>allB (fun m=>f n m 0) 16) 16
 | 10=>allB (fun n=>allB (fun m=>f n m 0) 16) 16
 | 3=>allB (fun n=>f n 0 0) 16
 | 6=>allB (fun n=>f n 0 0) 16
 | 4=>allB (fun v=>f 0 0 v) 256
 | 11=>allB (fun v=>f 0 0 v) 256
 | _=>allB (fun v=>f 0 0 v) 4096
theorem forms:∀ j,j < 27→(match rowsB[j]? with | some p=>formB p.1 (fB j p.2.2) | none=>true)=true:=
 allB_at (n:=27) (by kernel_rfl)
theorem irow_shape:∀ r∈irows,(r.shape=0∨((r.shape=1∨r.shape=7∨r.shape=8)∧r.bits % 4096=0)∨((r.shape=2∨r.shape=9∨r.shape=10)∧r.bits % 4096 < 16)∨((r.shape=3∨r.shape=6)∧r.bits % 4096 < 256) ∨
  ((r.shape=4∨r.shape=11)∧r.bits % 256=0)∨(r.shape=5∧r.bits % 4096=0)):=by unfold irows;decide
theorem irow_info:∀ r∈irows,infoR r.op=some r:=by
 have h:∀ j,j < 27→(match irows[j]? with | some r=>(infoR r.op).map (·.bits)==some r.bits && (infoR r.op).map (·.op)==some r.op && (infoR r.op).map (·.shape)==some r.shape && (infoR r.op).map (·.name)==some r.name | none=>true)=true:=
  allB_at (n:=27) (by unfold infoR irows;kernel_rfl)
 intro r hr
 obtain ⟨j,hj⟩:=List.getElem?_of_mem hr
 have hjl:j < 27:=by have:=(List.getElem?_eq_some_iff.1 hj).1;rwa [irows_len] at this
 have:=h j hjl
 rw [hj] at this
 simp only [Bool.and_eq_true,beq_iff_eq] at this
 obtain ⟨⟨⟨h1,h2⟩,h3⟩,h4⟩:=this
 cases hi:infoR r.op with
 | none=>rw [hi] at h1;cases h1
 | some q=>
  rw [hi] at h1 h2 h3 h4
  simp at h1 h2 h3 h4
  cases q;cases r
  simp at h1 h2 h3 h4 ⊢
  exact ⟨h2,h4,h3,h1⟩
attribute [local irreducible] allB decR infoR irows rowsB
theorem row_form {r:IRow} {j:Nat} (hj:irows[j]?=some r):formB r.shape.toNat (fB j r.bits.toNat)=true:=by
 have hjl:j < 27:=by have:=(List.getElem?_eq_some_iff.1 hj).1;rwa [irows_len] at this
 have h:=forms j hjl
 rw [← rowsB_eq,List.getElem?_map,hj] at h
 exact h
theorem dec_of {r:IRow} {j w:Nat} (hj:irows[j]?=some r) (h:idxB w rowsB 0=j):decR w=some r:=by
 unfold decR
 rw [find_idx w irows 0 j (fun r hr=>(irow_bits r hr).2.1) (by rw [rowsB_eq,h];omega),hj]
theorem row_code {r:IRow} (hr:r∈irows) {n m v:Nat} (h:(r.shape=0∧n=0∧m=0∧v=0)∨((r.shape=1∨r.shape=7∨r.shape=8)∧n < 16∧m=0∧v < 256)∨((r.shape=2∨r.shape=9∨r.shape=10)∧n < 16∧m < 16∧v=0) ∨
  ((r.shape=3∨r.shape=6)∧n < 16∧m=0∧v=0)∨((r.shape=4∨r.shape=11)∧n=0∧m=0∧v < 256)∨(r.shape=5∧n=0∧m=0∧v < 4096)) :
  encN r.bits.toNat n m v=r.bits.toNat+n * 256+m * 16+v∧decR (r.bits.toNat+n * 256+m * 16+v)=some r:=by
 obtain ⟨j,hj⟩:=List.getElem?_of_mem hr
 have hf:=row_form hj
 have key:fB j r.bits.toNat n m v=true:=by
  rcases h with ⟨h,rfl,rfl,rfl⟩ | ⟨h | h | h,hn,rfl,hv⟩ | ⟨h | h | h,hn,hm,rfl⟩ | ⟨h | h,hn,rfl,rfl⟩ | ⟨h | h,rfl,rfl,hv⟩ | ⟨h,rfl,rfl,hv⟩<;>rw [h] at hf
  ·exact hf
  ·exact allB_at (allB_at (f:=fun n=>allB (fun v=>fB j r.bits.toNat n 0 v) 256) hf n hn) v hv
  ·exact allB_at (allB_at (f:=fun n=>allB (fun v=>fB j r.bits.toNat n 0 v) 256) hf n hn) v hv
  ·exact allB_at (allB_at (f:=fun n=>allB (fun v=>fB j r.bits.toNat n 0 v) 256) hf n hn) v hv
  ·exact allB_at (f:=fun m=>fB j r.bits.toNat n m 0) (allB_at (f:=fun n=>allB (fun m=>fB j r.bits.toNat n m 0) 16) hf n hn) m hm
  ·exact allB_at (f:=fun m=>fB j r.bits.toNat n m 0) (allB_at (f:=fun n=>allB (fun m=>fB j r.bits.toNat n m 0) 16) hf n hn) m hm
  ·exact allB_at (f:=fun m=>fB j r.bits.toNat n m 0) (allB_at (f:=fun n=>allB (fun m=>fB j r.bits.toNat n m 0) 16) hf n hn) m hm
  ·exact allB_at (f:=fun n=>fB j r.bits.toNat n 0 0) hf n hn
  ·exact allB_at (f:=fun n=>fB j r.bits.toNat n 0 0) hf n hn
  ·exact allB_at (f:=fun v=>fB j r.bits.toNat 0 0 v) hf v hv
  ·exact allB_at (f:=fun v=>fB j r.bits.toNat 0 0 v) hf v hv
  ·exact allB_at (f:=fun v=>fB j r.bits.toNat 0 0 v) hf v hv
 obtain ⟨h1,h2⟩:=fB_eq key
 exact ⟨h1,dec_of hj h2⟩
theorem signed8 (n:Int):signedI n 8=if n % 256 / 128=1 then n % 256 - 256 else n % 256:=rfl
theorem signed12 (n:Int):signedI n 12=if n % 4096 / 2048=1 then n % 4096 - 4096 else n % 4096:=rfl
theorem wrong_of {r:IRow} {i:Ins} (hi:infoR i.op=some r) (h:¬ badReg r i):wrongI i=0:=by
 unfold wrongI
 rw [hi]
 exact if_neg h
theorem turn2_row {W:Nat} {r:IRow} (hW:W < 65536) (hd:decR W=some r):wrongI (insOf W r)=0∧encV (insOf W r)=W:=by
 have hm:r∈irows∧fitsR W r=true:=by
  unfold decR at hd
  exact ⟨List.mem_of_find?_eq_some hd,List.find?_some hd⟩
 obtain ⟨hm,hf⟩:=hm
 obtain ⟨_,b2,b3⟩:=irow_bits r hm
 obtain ⟨B,hB⟩:=Int.eq_ofNat_of_zero_le b2
 have hinfo:infoR (insOf W r).op=some r:=irow_info r hm
 have hf:((W &&& (maskI r.shape).toNat:Nat):Int)=r.bits:=LawfulBEq.eq_of_beq hf
 rw [hB] at hf
 have hcode:=fun n m v=>row_code hm (n:=n) (m:=m) (v:=v)
 rw [hB,Int.toNat_natCast] at hcode
 have hsh:=irow_shape r hm
 rw [hB] at hsh b3
 have fin:∀ N M V:Nat,(insOf W r).n=N→(insOf W r).m=M→((insOf W r).imm % (if r.shape=5 then 4096 else 256)).toNat=V→encN B N M V=B+N * 256+M * 16+V→W=B+N * 256+M * 16+V→encV (insOf W r)=W:=by
  intro N M V e1 e2 e3 e4 e5
  unfold encV
  rw [hinfo]
  show encI r (insOf W r)=W
  unfold encI
  rw [e1,e2,e3,hB,Int.toNat_natCast,Int.toNat_natCast,Int.toNat_natCast,e4]
  omega
 rcases hsh with hs | ⟨hs,hb⟩ | ⟨hs,hb⟩ | ⟨hs,hb⟩ | ⟨hs,hb⟩ | ⟨hs,hb⟩
 ·have u1:uses1 r.shape=false:=by rw [hs];rfl
  have u2:uses2 r.shape=false:=by rw [hs];rfl
  have hlo:lowI r.shape=0:=by rw [hs];rfl
  have hhi:highI r.shape=0:=by rw [hs];rfl
  rw [show (maskI r.shape).toNat=65535 by rw [hs];rfl,and_ffff hW] at hf
  have en:(insOf W r).n=((0:Nat):Int):=if_neg (by rw [u1];decide)
  have em:(insOf W r).m=((0:Nat):Int):=if_neg (by rw [u2];decide)
  have ei:(insOf W r).imm=0:=by show immOf W r.shape=_;unfold immOf;rw [if_neg (by omega),if_neg (by omega),if_neg (by omega)]
  have hv:0≤0∧0≤0:=by omega
  have ew:((insOf W r).imm % (if r.shape=5 then 4096 else 256)).toNat=0:=by rw [ei,if_neg (by omega)];rfl
  refine ⟨wrong_of hinfo ?_,fin (0) (0) (0) en em ew (hcode _ _ _ (by omega)).1 (by omega)⟩
  unfold badReg
  rw [en,em,ei,u1,u2,hlo,hhi]
  rintro (h | h | ⟨h,h'⟩ | h | h | ⟨h,h'⟩ | h | h)<;>first | omega | cases h | exact h' rfl
 ·rcases hs with hs | hs | hs
  ·have u1:uses1 r.shape=true:=by rw [hs];rfl
   have u2:uses2 r.shape=false:=by rw [hs];rfl
   have hlo:lowI r.shape= -128:=by rw [hs];rfl
   have hhi:highI r.shape=127:=by rw [hs];rfl
   rw [show (maskI r.shape).toNat=61440 by rw [hs];rfl,and_f000 hW] at hf
   have en:(insOf W r).n=((W / 256 % 16:Nat):Int):=if_pos u1
   have em:(insOf W r).m=((0:Nat):Int):=if_neg (by rw [u2];decide)
   have ei:(insOf W r).imm=signedI W 8:=by show immOf W r.shape=_;unfold immOf;rw [if_pos (by omega)]
   have hv: -128≤signedI W 8∧signedI W 8≤127:=by rw [signed8];split<;>omega
   have ew:((insOf W r).imm % (if r.shape=5 then 4096 else 256)).toNat=W % 256:=by rw [ei,if_neg (by omega)];rw [signed8];split<;>omega
   refine ⟨wrong_of hinfo ?_,fin (W / 256 % 16) (0) (W % 256) en em ew (hcode _ _ _ (by omega)).1 (by omega)⟩
   unfold badReg
   rw [en,em,ei,u1,u2,hlo,hhi]
   rintro (h | h | ⟨h,h'⟩ | h | h | ⟨h,h'⟩ | h | h)<;>first | omega | cases h | exact h' rfl
  ·have u1:uses1 r.shape=true:=by rw [hs];rfl
   have u2:uses2 r.shape=false:=by rw [hs];rfl
   have hlo:lowI r.shape=0:=by rw [hs];rfl
   have hhi:highI r.shape=255:=by rw [hs];rfl
   rw [show (maskI r.shape).toNat=61440 by rw [hs];rfl,and_f000 hW] at hf
   have en:(insOf W r).n=((W / 256 % 16:Nat):Int):=if_pos u1
   have em:(insOf W r).m=((0:Nat):Int):=if_neg (by rw [u2];decide)
   have ei:(insOf W r).imm=(W:Int) % 256:=by show immOf W r.shape=_;unfold immOf;rw [if_neg (by omega),if_neg (by omega),if_pos (by omega)]
   have hv:0≤(W:Int) % 256∧(W:Int) % 256≤255:=by omega
   have ew:((insOf W r).imm % (if r.shape=5 then 4096 else 256)).toNat=W % 256:=by rw [ei,if_neg (by omega)];omega
   refine ⟨wrong_of hinfo ?_,fin (W / 256 % 16) (0) (W % 256) en em ew (hcode _ _ _ (by omega)).1 (by omega)⟩
   unfold badReg
   rw [en,em,ei,u1,u2,hlo,hhi]
   rintro (h | h | ⟨h,h'⟩ | h | h | ⟨h,h'⟩ | h | h)<;>first | omega | cases h | exact h' rfl
  ·have u1:uses1 r.shape=true:=by rw [hs];rfl
   have u2:uses2 r.shape=false:=by rw [hs];rfl
   have hlo:lowI r.shape=0:=by rw [hs];rfl
   have hhi:highI r.shape=255:=by rw [hs];rfl
   rw [show (maskI r.shape).toNat=61440 by rw [hs];rfl,and_f000 hW] at hf
   have en:(insOf W r).n=((W / 256 % 16:Nat):Int):=if_pos u1
   have em:(insOf W r).m=((0:Nat):Int):=if_neg (by rw [u2];decide)
   have ei:(insOf W r).imm=(W:Int) % 256:=by show immOf W r.shape=_;unfold immOf;rw [if_neg (by omega),if_neg (by omega),if_pos (by omega)]
   have hv:0≤(W:Int) % 256∧(W:Int) % 256≤255:=by omega
   have ew:((insOf W r).imm % (if r.shape=5 then 4096 else 256)).toNat=W % 256:=by rw [ei,if_neg (by omega)];omega
   refine ⟨wrong_of hinfo ?_,fin (W / 256 % 16) (0) (W % 256) en em ew (hcode _ _ _ (by omega)).1 (by omega)⟩
   unfold badReg
   rw [en,em,ei,u1,u2,hlo,hhi]
   rintro (h | h | ⟨h,h'⟩ | h | h | ⟨h,h'⟩ | h | h)<;>first | omega | cases h | exact h' rfl
 ·rcases hs with hs | hs | hs
  ·have u1:uses1 r.shape=true:=by rw [hs];rfl
   have u2:uses2 r.shape=true:=by rw [hs];rfl
   have hlo:lowI r.shape=0:=by rw [hs];rfl
   have hhi:highI r.shape=0:=by rw [hs];rfl
   rw [show (maskI r.shape).toNat=61455 by rw [hs];rfl,and_f00f hW] at hf
   have en:(insOf W r).n=((W / 256 % 16:Nat):Int):=if_pos u1
   have em:(insOf W r).m=((W / 16 % 16:Nat):Int):=if_pos u2
   have ei:(insOf W r).imm=0:=by show immOf W r.shape=_;unfold immOf;rw [if_neg (by omega),if_neg (by omega),if_neg (by omega)]
   have hv:0≤0∧0≤0:=by omega
   have ew:((insOf W r).imm % (if r.shape=5 then 4096 else 256)).toNat=0:=by rw [ei,if_neg (by omega)];rfl
   refine ⟨wrong_of hinfo ?_,fin (W / 256 % 16) (W / 16 % 16) (0) en em ew (hcode _ _ _ (by omega)).1 (by omega)⟩
   unfold badReg
   rw [en,em,ei,u1,u2,hlo,hhi]
   rintro (h | h | ⟨h,h'⟩ | h | h | ⟨h,h'⟩ | h | h)<;>first | omega | cases h | exact h' rfl
  ·have u1:uses1 r.shape=true:=by rw [hs];rfl
   have u2:uses2 r.shape=true:=by rw [hs];rfl
   have hlo:lowI r.shape=0:=by rw [hs];rfl
   have hhi:highI r.shape=0:=by rw [hs];rfl
   rw [show (maskI r.shape).toNat=61455 by rw [hs];rfl,and_f00f hW] at hf
   have en:(insOf W r).n=((W / 256 % 16:Nat):Int):=if_pos u1
   have em:(insOf W r).m=((W / 16 % 16:Nat):Int):=if_pos u2
   have ei:(insOf W r).imm=0:=by show immOf W r.shape=_;unfold immOf;rw [if_neg (by omega),if_neg (by omega),if_neg (by omega)]
   have hv:0≤0∧0≤0:=by omega
   have ew:((insOf W r).imm % (if r.shape=5 then 4096 else 256)).toNat=0:=by rw [ei,if_neg (by omega)];rfl
   refine ⟨wrong_of hinfo ?_,fin (W / 256 % 16) (W / 16 % 16) (0) en em ew (hcode _ _ _ (by omega)).1 (by omega)⟩
   unfold badReg
   rw [en,em,ei,u1,u2,hlo,hhi]
   rintro (h | h | ⟨h,h'⟩ | h | h | ⟨h,h'⟩ | h | h)<;>first | omega | cases h | exact h' rfl
  ·have u1:uses1 r.shape=true:=by rw [hs];rfl
   have u2:uses2 r.shape=true:=by rw [hs];rfl
   have hlo:lowI r.shape=0:=by rw [hs];rfl
   have hhi:highI r.shape=0:=by rw [hs];rfl
   rw [show (maskI r.shape).toNat=61455 by rw [hs];rfl,and_f00f hW] at hf
   have en:(insOf W r).n=((W / 256 % 16:Nat):Int):=if_pos u1
   have em:(insOf W r).m=((W / 16 % 16:Nat):Int):=if_pos u2
   have ei:(insOf W r).imm=0:=by show immOf W r.shape=_;unfold immOf;rw [if_neg (by omega),if_neg (by omega),if_neg (by omega)]
   have hv:0≤0∧0≤0:=by omega
   have ew:((insOf W r).imm % (if r.shape=5 then 4096 else 256)).toNat=0:=by rw [ei,if_neg (by omega)];rfl
   refine ⟨wrong_of hinfo ?_,fin (W / 256 % 16) (W / 16 % 16) (0) en em ew (hcode _ _ _ (by omega)).1 (by omega)⟩
   unfold badReg
   rw [en,em,ei,u1,u2,hlo,hhi]
   rintro (h | h | ⟨h,h'⟩ | h | h | ⟨h,h'⟩ | h | h)<;>first | omega | cases h | exact h' rfl
 ·rcases hs with hs | hs
  ·have u1:uses1 r.shape=true:=by rw [hs];rfl
   have u2:uses2 r.shape=false:=by rw [hs];rfl
   have hlo:lowI r.shape=0:=by rw [hs];rfl
   have hhi:highI r.shape=0:=by rw [hs];rfl
   rw [show (maskI r.shape).toNat=61695 by rw [hs];rfl,and_f0ff hW] at hf
   have en:(insOf W r).n=((W / 256 % 16:Nat):Int):=if_pos u1
   have em:(insOf W r).m=((0:Nat):Int):=if_neg (by rw [u2];decide)
   have ei:(insOf W r).imm=0:=by show immOf W r.shape=_;unfold immOf;rw [if_neg (by omega),if_neg (by omega),if_neg (by omega)]
   have hv:0≤0∧0≤0:=by omega
   have ew:((insOf W r).imm % (if r.shape=5 then 4096 else 256)).toNat=0:=by rw [ei,if_neg (by omega)];rfl
   refine ⟨wrong_of hinfo ?_,fin (W / 256 % 16) (0) (0) en em ew (hcode _ _ _ (by omega)).1 (by omega)⟩
   unfold badReg
   rw [en,em,ei,u1,u2,hlo,hhi]
   rintro (h | h | ⟨h,h'⟩ | h | h | ⟨h,h'⟩ | h | h)<;>first | omega | cases h | exact h' rfl
  ·have u1:uses1 r.shape=true:=by rw [hs];rfl
   have u2:uses2 r.shape=false:=by rw [hs];rfl
   have hlo:lowI r.shape=0:=by rw [hs];rfl
   have hhi:highI r.shape=0:=by rw [hs];rfl
   rw [show (maskI r.shape).toNat=61695 by rw [hs];rfl,and_f0ff hW] at hf
   have en:(insOf W r).n=((W / 256 % 16:Nat):Int):=if_pos u1
   have em:(insOf W r).m=((0:Nat):Int):=if_neg (by rw [u2];decide)
   have ei:(insOf W r).imm=0:=by show immOf W r.shape=_;unfold immOf;rw [if_neg (by omega),if_neg (by omega),if_neg (by omega)]
   have hv:0≤0∧0≤0:=by omega
   have ew:((insOf W r).imm % (if r.shape=5 then 4096 else 256)).toNat=0:=by rw [ei,if_neg (by omega)];rfl
   refine ⟨wrong_of hinfo ?_,fin (W / 256 % 16) (0) (0) en em ew (hcode _ _ _ (by omega)).1 (by omega)⟩
   unfold badReg
   rw [en,em,ei,u1,u2,hlo,hhi]
   rintro (h | h | ⟨h,h'⟩ | h | h | ⟨h,h'⟩ | h | h)<;>first | omega | cases h | exact h' rfl
 ·rcases hs with hs | hs
  ·have u1:uses1 r.shape=false:=by rw [hs];rfl
   have u2:uses2 r.shape=false:=by rw [hs];rfl
   have hlo:lowI r.shape= -128:=by rw [hs];rfl
   have hhi:highI r.shape=127:=by rw [hs];rfl
   rw [show (maskI r.shape).toNat=65280 by rw [hs];rfl,and_ff00 hW] at hf
   have en:(insOf W r).n=((0:Nat):Int):=if_neg (by rw [u1];decide)
   have em:(insOf W r).m=((0:Nat):Int):=if_neg (by rw [u2];decide)
   have ei:(insOf W r).imm=signedI W 8:=by show immOf W r.shape=_;unfold immOf;rw [if_pos (by omega)]
   have hv: -128≤signedI W 8∧signedI W 8≤127:=by rw [signed8];split<;>omega
   have ew:((insOf W r).imm % (if r.shape=5 then 4096 else 256)).toNat=W % 256:=by rw [ei,if_neg (by omega)];rw [signed8];split<;>omega
   refine ⟨wrong_of hinfo ?_,fin (0) (0) (W % 256) en em ew (hcode _ _ _ (by omega)).1 (by omega)⟩
   unfold badReg
   rw [en,em,ei,u1,u2,hlo,hhi]
   rintro (h | h | ⟨h,h'⟩ | h | h | ⟨h,h'⟩ | h | h)<;>first | omega | cases h | exact h' rfl
  ·have u1:uses1 r.shape=false:=by rw [hs];rfl
   have u2:uses2 r.shape=false:=by rw [hs];rfl
   have hlo:lowI r.shape=0:=by rw [hs];rfl
   have hhi:highI r.shape=255:=by rw [hs];rfl
   rw [show (maskI r.shape).toNat=65280 by rw [hs];rfl,and_ff00 hW] at hf
   have en:(insOf W r).n=((0:Nat):Int):=if_neg (by rw [u1];decide)
   have em:(insOf W r).m=((0:Nat):Int):=if_neg (by rw [u2];decide)
   have ei:(insOf W r).imm=(W:Int) % 256:=by show immOf W r.shape=_;unfold immOf;rw [if_neg (by omega),if_neg (by omega),if_pos (by omega)]
   have hv:0≤(W:Int) % 256∧(W:Int) % 256≤255:=by omega
   have ew:((insOf W r).imm % (if r.shape=5 then 4096 else 256)).toNat=W % 256:=by rw [ei,if_neg (by omega)];omega
   refine ⟨wrong_of hinfo ?_,fin (0) (0) (W % 256) en em ew (hcode _ _ _ (by omega)).1 (by omega)⟩
   unfold badReg
   rw [en,em,ei,u1,u2,hlo,hhi]
   rintro (h | h | ⟨h,h'⟩ | h | h | ⟨h,h'⟩ | h | h)<;>first | omega | cases h | exact h' rfl
 ·have u1:uses1 r.shape=false:=by rw [hs];rfl
  have u2:uses2 r.shape=false:=by rw [hs];rfl
  have hlo:lowI r.shape= -2048:=by rw [hs];rfl
  have hhi:highI r.shape=2047:=by rw [hs];rfl
  rw [show (maskI r.shape).toNat=61440 by rw [hs];rfl,and_f000 hW] at hf
  have en:(insOf W r).n=((0:Nat):Int):=if_neg (by rw [u1];decide)
  have em:(insOf W r).m=((0:Nat):Int):=if_neg (by rw [u2];decide)
  have ei:(insOf W r).imm=signedI W 12:=by show immOf W r.shape=_;unfold immOf;rw [if_neg (by omega),if_pos hs]
  have hv: -2048≤signedI W 12∧signedI W 12≤2047:=by rw [signed12];split<;>omega
  have ew:((insOf W r).imm % (if r.shape=5 then 4096 else 256)).toNat=W % 4096:=by rw [ei,if_pos hs];rw [signed12];split<;>omega
  refine ⟨wrong_of hinfo ?_,fin (0) (0) (W % 4096) en em ew (hcode _ _ _ (by omega)).1 (by omega)⟩
  unfold badReg
  rw [en,em,ei,u1,u2,hlo,hhi]
  rintro (h | h | ⟨h,h'⟩ | h | h | ⟨h,h'⟩ | h | h)<;>first | omega | cases h | exact h' rfl
theorem turn2 {w:Int} (h:(decI w).2=0):0≤w∧w≤65535∧wrongI (decI w).1=0∧encV (decI w).1=w:=by
 unfold decI at h ⊢
 by_cases hw:w < 0∨65535 < w
 ·rw [if_pos hw] at h;exact absurd h (by decide)
 ·rw [if_neg hw] at h ⊢
  obtain ⟨W,rfl⟩:=Int.eq_ofNat_of_zero_le (show 0≤w by omega)
  simp only [Int.toNat_natCast] at h ⊢
  cases hd:decR W with
  | none=>rw [hd] at h;exact absurd h (show ¬ ((12:Int)=0) by decide)
  | some r=>exact ⟨by omega,by omega,turn2_row (by omega) hd⟩
theorem turn0 {w:Int} (h:(decI w).2≠0):(decI w).1=ins0:=by
 unfold decI at h ⊢
 by_cases hw:w < 0∨65535 < w
 ·rw [if_pos hw]
 ·rw [if_neg hw] at h ⊢
  cases hd:decR w.toNat with
  | none=>rfl
  | some r=>rw [hd] at h;exact absurd rfl h
end Go.Proofs.YtfahnaccpncdpaaDoor
namespace Go.Proofs.YtfahnaccpncdpaaDoor
open Go Go.Plat
set_option linter.unusedVariables false
set_option linter.unusedSimpArgs false
set_option maxRecDepth 100000
set_option maxHeartbeats 2000000
attribute [local irreducible] AWP Arith BitS BytesS CallS CatS DrawS EndS IdxS LookS LoopEnd Meets ModeS NilS NormL NormM QuoS RemS ShlS ShrS SideS SplitS bitI
def byteAt (b:List UInt8) (i:Int):Int:=if 0≤i∧i < b.length then ((b.getD i.toNat 0).toNat:Int) else 0
def getN (b:List UInt8) (at_:Int):Nat→Int
 | 0=>0
 | k+1=>getN b at_ k * 256+byteAt b (at_+k)
theorem byteAt_bd (b:List UInt8) (i:Int):0≤byteAt b i∧byteAt b i < 256:=by
 unfold byteAt;split
 ·have:=u8_lt (b.getD i.toNat 0);omega
 ·omega
theorem getN_nn (b:List UInt8) (at_:Int):∀ k,0≤getN b at_ k
 | 0=>by simp [getN]
 | k+1=>by have:=getN_nn b at_ k;have:=byteAt_bd b (at_+k);simp only [getN];omega
theorem getN_bd (b:List UInt8) (at_:Int) (k:Nat) (hk:k≤4):getN b at_ k≤4294967295:=by
 have h0:=byteAt_bd b (at_+(0:Nat));have h1:=byteAt_bd b (at_+(1:Nat));have h2:=byteAt_bd b (at_+(2:Nat));have h3:=byteAt_bd b (at_+(3:Nat))
 match k,hk with
 | 0,_=>simp [getN]
 | 1,_=>simp only [getN];omega
 | 2,_=>simp only [getN];omega
 | 3,_=>simp only [getN];omega
 | 4,_=>simp only [getN];omega
theorem get_meets:Meets Tryd.prog n_isa_Get (SpecP (fun ((b,at_,size):List UInt8×Int×Nat)=>-1000000000000≤at_∧at_≤1000000000000∧size≤4) (fun (b,at_,size)=>[bytesD b,.int .i64 at_,.int .i64 size])
  fun (b,at_,size)=>.int .i64 (getN b at_ size)):=by
 refine meets_f tabOk Tryd.func13 rfl (by decide) ?_
 rintro ⟨b,at_,size⟩ ⟨h1,h2,h4⟩
 refine ⟨Nat.le_refl _,by simp [Tryd.f13],fun E hE=>?_⟩
 refine vcOk _ ?_
 (all_goals refine qgo (Lf.mk ?_))
 refine awp_loop (α:=Nat) (fun k=>k≤size) (fun k=>[(11,.int .i64 k),(10,.int .i64 size),(7,.int .i64 (getN b at_ k)),(0,bytesD b),(1,.int .i64 at_)]) (fun _=>[]) (fun k=>size - k) (fun _=>by simp [hE]) 0 (Nat.zero_le _) ?_ ?_
 ·(repeat' (first | (refine VS.mk ?_) | exact trivial | exact rfl | refine And.intro ?_ ?_))
 intro k hk
 have g0:=getN_nn b at_ k
 have g1:=getN_bd b at_ k (by omega)
 refine vcOk _ ?_
 (all_goals refine qgo ?_<;>(repeat' first | exact trivial | intro hc | refine And.intro ?_ ?_)<;>refine Lf.mk ?_)
 ·have hb:byteAt b (at_+k)=((b.getD (at_+(k:Int)).toNat 0).toNat:Int):=by unfold byteAt;rw [if_pos ⟨by omega,by omega⟩]
  have:=u8_lt (b.getD (at_+(k:Int)).toNat 0)
  refine bit_mk (or_add (s:=8) rfl g0 (by omega) (by omega) (by omega)) ?_
  (all_goals refine qgo (Lf.mk ?_))
  refine loop_end (k+1) (by omega) (by omega) ?_
  (repeat' (first | (refine VS.mk ?_) | exact trivial | exact rfl | refine And.intro ?_ ?_))
  simp [getN,hb]
 ·refine loop_end (k+1) (by omega) (by omega) ?_
  have hb:byteAt b (at_+k)=0:=by unfold byteAt;rw [if_neg (by omega)]
  (repeat' (first | (refine VS.mk ?_) | exact trivial | exact rfl | refine And.intro ?_ ?_))
  simp [getN,hb]
 ·refine loop_end (k+1) (by omega) (by omega) ?_
  have hb:byteAt b (at_+k)=0:=by unfold byteAt;rw [if_neg (by omega)]
  (repeat' (first | (refine VS.mk ?_) | exact trivial | exact rfl | refine And.intro ?_ ?_))
  simp [getN,hb]
 ·obtain rfl:k=size:=by omega
  refine end_mk ?_
  (repeat' (first | (refine VS.mk ?_) | exact trivial | exact rfl | refine And.intro ?_ ?_))
def setAt (l:List UInt8) (i:Int) (c:UInt8):List UInt8:=if 0≤i∧i < l.length then l.set i.toNat c else l
structure OSym where
 name:List UInt8
 at_:Int
 deriving DecidableEq
structure OImg where
 base:Int
 bytes:List UInt8
 syms:List OSym
 deriving DecidableEq
end Go.Proofs.YtfahnaccpncdpaaDoor
namespace Go.Proofs.YtfahnaccpncdpaaDoor
open Go Go.Plat
set_option linter.unusedVariables false
set_option linter.unusedSimpArgs false
set_option maxRecDepth 100000
attribute [local irreducible] bitI decI getN infoR irows signedI
structure Mach where
 r:Nat→Int
 t:Bool
 pc:Int
 pr:Int
 img:OImg
 told:List Int
 steps:Int
def up (r:Nat→Int) (n v:Int):Nat→Int:=fun k=>if (k:Int)=n then v else r k
theorem reg_ix {r:Nat→Int} {n:Int} {rest:List D} {K:D→Prop} (h0:0≤n) (h1:n < 16) (h:K (.int .i64 (r n.toNat))) :
  IdxS (.int .i64 (r 0):: .int .i64 (r 1):: .int .i64 (r 2):: .int .i64 (r 3):: .int .i64 (r 4):: .int .i64 (r 5):: .int .i64 (r 6):: .int .i64 (r 7):: .int .i64 (r 8):: .int .i64 (r 9):: .int .i64 (r 10):: .int .i64 (r 11):: .int .i64 (r 12):: .int .i64 (r 13):: .int .i64 (r 14):: .int .i64 (r 15)::rest) ((0+n.toNat * 1:Nat):Int) K:=by
 refine ⟨by omega,.int .i64 (r n.toNat),?_,h⟩
 obtain ⟨k,rfl⟩:=Int.eq_ofNat_of_zero_le h0
 have hk:k < 16:=by omega
 simp only [Int.toNat_natCast,Nat.mul_one,Nat.zero_add]
 match k,hk with
 | 0,_ | 1,_ | 2,_ | 3,_ | 4,_ | 5,_ | 6,_ | 7,_ | 8,_ | 9,_ | 10,_ | 11,_ | 12,_ | 13,_ | 14,_ | 15,_=>rfl
theorem reg_set {r:Nat→Int} {n v:Int} {rest:List D} {K:List D→Nat→Prop} (h0:0≤n) (h1:n < 16) (h:K (.int .i64 ((up r n v) 0):: .int .i64 ((up r n v) 1):: .int .i64 ((up r n v) 2):: .int .i64 ((up r n v) 3):: .int .i64 ((up r n v) 4):: .int .i64 ((up r n v) 5):: .int .i64 ((up r n v) 6):: .int .i64 ((up r n v) 7):: .int .i64 ((up r n v) 8):: .int .i64 ((up r n v) 9):: .int .i64 ((up r n v) 10):: .int .i64 ((up r n v) 11):: .int .i64 ((up r n v) 12):: .int .i64 ((up r n v) 13):: .int .i64 ((up r n v) 14):: .int .i64 ((up r n v) 15)::rest) (16+rest.length)) :
  NormL (List.set (.int .i64 (r 0):: .int .i64 (r 1):: .int .i64 (r 2):: .int .i64 (r 3):: .int .i64 (r 4):: .int .i64 (r 5):: .int .i64 (r 6):: .int .i64 (r 7):: .int .i64 (r 8):: .int .i64 (r 9):: .int .i64 (r 10):: .int .i64 (r 11):: .int .i64 (r 12):: .int .i64 (r 13):: .int .i64 (r 14):: .int .i64 (r 15)::rest) (0+n.toNat * 1) (.int .i64 v)) K:=by
 unfold NormL
 have e:List.set (.int .i64 (r 0):: .int .i64 (r 1):: .int .i64 (r 2):: .int .i64 (r 3):: .int .i64 (r 4):: .int .i64 (r 5):: .int .i64 (r 6):: .int .i64 (r 7):: .int .i64 (r 8):: .int .i64 (r 9):: .int .i64 (r 10):: .int .i64 (r 11):: .int .i64 (r 12):: .int .i64 (r 13):: .int .i64 (r 14):: .int .i64 (r 15)::rest) (0+n.toNat * 1) (.int .i64 v)=(.int .i64 ((up r n v) 0):: .int .i64 ((up r n v) 1):: .int .i64 ((up r n v) 2):: .int .i64 ((up r n v) 3):: .int .i64 ((up r n v) 4):: .int .i64 ((up r n v) 5):: .int .i64 ((up r n v) 6):: .int .i64 ((up r n v) 7):: .int .i64 ((up r n v) 8):: .int .i64 ((up r n v) 9):: .int .i64 ((up r n v) 10):: .int .i64 ((up r n v) 11):: .int .i64 ((up r n v) 12):: .int .i64 ((up r n v) 13):: .int .i64 ((up r n v) 14):: .int .i64 ((up r n v) 15)::rest):=by
  obtain ⟨k,rfl⟩:=Int.eq_ofNat_of_zero_le h0
  have hk:k < 16:=by omega
  simp only [Int.toNat_natCast,Nat.mul_one,Nat.zero_add]
  match k,hk with
  | 0,_ | 1,_ | 2,_ | 3,_ | 4,_ | 5,_ | 6,_ | 7,_ | 8,_ | 9,_ | 10,_ | 11,_ | 12,_ | 13,_ | 14,_ | 15,_=>rfl
 rw [e]
 refine cast ?_ h
 congr 1
 simp only [List.length_cons]
 omega
theorem sd_reg {n:Int} {l:List D} {K:Prop} (h0:0≤n) (h1:n < 16) (hl:Nat.ble 16 l.length=true) (h:K):SideS (0+n.toNat * 1 < l.length) K:=
 ⟨by have:=Nat.le_of_ble_eq_true hl;omega,h⟩
def shapeM (op:Int):Int:=match infoR op with | some r=>r.shape | none=>0
def toM (i:Ins) (at_:Int):Int:=if shapeM i.op=4∨shapeM i.op=5∨shapeM i.op=7 then at_+4+2 * i.imm else if shapeM i.op=8 then (at_+4) - (at_+4) % 4+4 * i.imm else 0
def setM (m:Mach) (n v:Int):Mach:={ m with r:=up m.r n v }
end Go.Proofs.YtfahnaccpncdpaaDoor
namespace Go.Proofs.YtfahnaccpncdpaaDoor
open Go Go.Plat
set_option linter.unusedVariables false
set_option linter.unusedSimpArgs false
set_option maxRecDepth 100000
section
variable {a b : Int} (ha1 : -2147483648 ≤ a) (ha2 : a ≤ 2147483647) (hb1 : -2147483648 ≤ b) (hb2 : b ≤ 2147483647)
include ha1 ha2 hb1 hb2
end
theorem not3:(~~~ (3#64)).toNat=18446744073709551612:=by decide
theorem nat_clear (x:Nat) (hx:x < 18446744073709551616):x &&& 18446744073709551612=x / 4 * 4:=by
 have e1:x / 4 * 4=(x >>> 2) <<< 2:=by rw [Nat.shiftRight_eq_div_pow,Nat.shiftLeft_eq]
 have e2:(18446744073709551612:Nat)=(2 ^ 62 - 1) <<< 2:=by decide
 rw [e1,e2]
 refine Nat.eq_of_testBit_eq fun i=>?_
 rw [Nat.testBit_and,Nat.testBit_shiftLeft,Nat.testBit_shiftLeft,Nat.testBit_shiftRight,Nat.testBit_two_pow_sub_one]
 by_cases hi:2≤i
 ·rw [show 2+(i - 2)=i by omega]
  by_cases h64:i - 2 < 62
  ·simp [hi,h64]
  ·have:x.testBit i=false:=Nat.testBit_lt_two_pow (Nat.lt_of_lt_of_le hx (show 2 ^ 64≤2 ^ i from Nat.pow_le_pow_right (by decide) (by omega)))
   simp [this]
 ·simp [hi]
theorem clear3 {n:Int} (h1: -4611686018427387904≤n) (h2:n≤4611686018427387904):bitI .andNot .i64 n 3=n - n % 4:=by
 unfold bitI
 show IntKind.i64.wrap ((BitVec.ofInt 64 n &&& ~~~ (BitVec.ofInt 64 3)).toNat:Int)=_
 rw [show BitVec.ofInt 64 3=3#64 from rfl,BitVec.toNat_and,not3,nat_clear _ (BitVec.ofInt 64 n).isLt]
 have h3:=toNat_ofInt n
 simp only [IntKind.wrap,IntKind.signed,IntKind.bits,show (2:Int) ^ 64=18446744073709551616 from rfl,show (2:Int) ^ (64 - 1)=9223372036854775808 from rfl,Bool.true_and,decide_eq_true_eq]
 split<;>omega
end Go.Proofs.YtfahnaccpncdpaaDoor
namespace Go.Proofs.YtfahnaccpncdpaaDoor
open Go Go.Plat
set_option linter.unusedVariables false
set_option linter.unusedSimpArgs false
set_option maxRecDepth 100000
set_option maxHeartbeats 2000000
attribute [local irreducible] AWP Arith BitS BytesS CallS CatS DrawS EndS IdxS LookS LoopEnd Meets ModeS NilS NormL NormM QuoS RemS ShlS ShrS SideS SplitS bitI decI getN infoR irows signedI
end Go.Proofs.YtfahnaccpncdpaaDoor
namespace Go.Proofs.YtfahnaccpncdpaaDoor
open Go Go.Plat
set_option linter.unusedVariables false
set_option linter.unusedSimpArgs false
set_option maxRecDepth 100000
set_option maxHeartbeats 2000000
attribute [local irreducible] AWP Arith BitS BytesS CallS CatS DrawS EndS IdxS LookS LoopEnd Meets ModeS NilS NormL NormM QuoS RemS ShlS ShrS SideS SplitS bitI
structure RRow where
 op:Int
 name:List UInt8
 shape:Int
 bits:List UInt8
def rrowD (r:RRow):D:=.agg [.str r.name,.int .i64 r.shape,.str r.bits]
def rrows:List RRow:=[
 ⟨1,[110,111,112],0,[48,48,48,48,48,48,48,48,48,48,48,48,49,48,48,49]⟩,
 ⟨2,[114,116,115],0,[48,48,48,48,48,48,48,48,48,48,48,48,49,48,49,49]⟩,
 ⟨3,[109,111,118],1,[49,49,49,48,110,110,110,110,105,105,105,105,105,105,105,105]⟩,
 ⟨4,[97,100,100],1,[48,49,49,49,110,110,110,110,105,105,105,105,105,105,105,105]⟩,
 ⟨5,[109,111,118],2,[48,49,49,48,110,110,110,110,109,109,109,109,48,48,49,49]⟩,
 ⟨6,[97,100,100],2,[48,48,49,49,110,110,110,110,109,109,109,109,49,49,48,48]⟩,
 ⟨7,[115,117,98],2,[48,48,49,49,110,110,110,110,109,109,109,109,49,48,48,48]⟩,
 ⟨8,[97,110,100],2,[48,48,49,48,110,110,110,110,109,109,109,109,49,48,48,49]⟩,
 ⟨9,[111,114],2,[48,48,49,48,110,110,110,110,109,109,109,109,49,48,49,49]⟩,
 ⟨10,[120,111,114],2,[48,48,49,48,110,110,110,110,109,109,109,109,49,48,49,48]⟩,
 ⟨11,[116,115,116],2,[48,48,49,48,110,110,110,110,109,109,109,109,49,48,48,48]⟩,
 ⟨12,[99,109,112,47,101,113],2,[48,48,49,49,110,110,110,110,109,109,109,109,48,48,48,48]⟩,
 ⟨13,[99,109,112,47,103,116],2,[48,48,49,49,110,110,110,110,109,109,109,109,48,49,49,49]⟩,
 ⟨14,[115,104,108,108],3,[48,49,48,48,110,110,110,110,48,48,48,48,48,48,48,48]⟩,
 ⟨15,[115,104,108,114],3,[48,49,48,48,110,110,110,110,48,48,48,48,48,48,48,49]⟩,
 ⟨16,[100,116],3,[48,49,48,48,110,110,110,110,48,48,48,49,48,48,48,48]⟩,
 ⟨17,[98,116],4,[49,48,48,48,49,48,48,49,105,105,105,105,105,105,105,105]⟩,
 ⟨18,[98,102],4,[49,48,48,48,49,48,49,49,105,105,105,105,105,105,105,105]⟩,
 ⟨19,[98,114,97],5,[49,48,49,48,105,105,105,105,105,105,105,105,105,105,105,105]⟩,
 ⟨20,[98,115,114],5,[49,48,49,49,105,105,105,105,105,105,105,105,105,105,105,105]⟩,
 ⟨21,[106,109,112],6,[48,49,48,48,110,110,110,110,48,48,49,48,49,48,49,49]⟩,
 ⟨22,[106,115,114],6,[48,49,48,48,110,110,110,110,48,48,48,48,49,48,49,49]⟩,
 ⟨23,[109,111,118,46,119],7,[49,48,48,49,110,110,110,110,105,105,105,105,105,105,105,105]⟩,
 ⟨24,[109,111,118,46,108],8,[49,49,48,49,110,110,110,110,105,105,105,105,105,105,105,105]⟩,
 ⟨25,[109,111,118,46,108],9,[48,48,49,48,110,110,110,110,109,109,109,109,48,48,49,48]⟩,
 ⟨26,[109,111,118,46,108],10,[48,49,49,48,110,110,110,110,109,109,109,109,48,48,49,48]⟩,
 ⟨27,[116,114,97,112,97],11,[49,49,48,48,48,48,49,49,105,105,105,105,105,105,105,105]⟩]
def rrowsM:List (D×D):=rrows.map fun r=>(.int .i64 r.op,rrowD r)
theorem renOf_self {m:Nat→Option Nat} {d:D} (h:renK m d (fun d'=>d'=d)):RenOf m d d:=by
 obtain ⟨d',h1,h2⟩:=renK_eq h
 rw [h2] at h1
 exact h1
theorem ren_rows {m:Nat→Option Nat}:∀ p∈rrowsM,RenOf m p.2 p.2:=by
 intro p hp
 obtain ⟨r,_,rfl⟩:=List.mem_map.1 hp
 exact renOf_self rfl
theorem renM_rows {m:Nat→Option Nat} {K:Prop} (h:K):RenM m rrowsM K:=⟨ren_rows,h⟩
theorem rrows_meets:Meets Tryd.prog n_plref1_Rows (SpecF (fun _:Unit=>True) (fun _=>[]) (fun _=>[]) (fun _=>.mp 0) fun _=>[.map rrowsM]):=by
 refine meets_f tabOk Tryd.func23 rfl (by decide) fun _ _=>?_
 refine ⟨Nat.zero_le _,by simp [Tryd.f23],fun E hE=>?_⟩
 refine vcOk _ ?_
 (all_goals refine qgm (Lf.mk ?_))
 refine end_mk ?_
 (repeat' (first | (refine VS.mk ?_) | exact trivial | exact rfl | refine And.intro ?_ ?_))
 exact ren_rows
def rinfo (op:Int):Option RRow:=rrows.find? fun r=>op==r.op
theorem getM_rows (op:Int):getM (.int .i64 op) rrowsM=(rinfo op).map rrowD:=by
 unfold rrowsM rinfo
 generalize rrows=l
 have key:∀ l:List RRow,(idxM (.int .i64 op) (l.map fun r=>(D.int .i64 r.op,rrowD r))).bind (fun i=>l[i]?)=l.find? fun r=>op==r.op:=by
  intro l
  induction l with
  | nil=>rfl
  | cons r l ih=>
   simp only [List.map_cons,idxM,keyB,List.find?_cons]
   cases op==r.op with
   | true=>rfl
   | false=>
    simp only
    rw [← ih]
    cases idxM (.int .i64 op) (l.map fun r=>(D.int .i64 r.op,rrowD r))<;>simp
 rw [← key l]
 unfold getM
 cases idxM (.int .i64 op) (l.map fun r=>(D.int .i64 r.op,rrowD r)) with
 | none=>rfl
 | some i=>simp [Option.map_map,Function.comp_def]
theorem range2_meets:Meets Tryd.prog n_plref1_Range (SpecP (fun _:Int=>True) (fun s=>[.int .i64 s]) fun s=>.tup [.int .i64 (if s=1∨s=4 then -128 else if s=5 then -2048 else 0),.int .i64 (if s=1∨s=4 then 127 else if s=5 then 2047 else if s=7∨s=8∨s=11 then 255 else 0)]):=by
 refine meets_f tabOk Tryd.func24 rfl (by decide) fun s _=>?_
 refine ⟨Nat.le_refl _,by simp [Tryd.f24],fun E hE=>?_⟩
 refine vcOk _ ?_
 (all_goals refine qgo ?_<;>(repeat' first | exact trivial | intro hc | refine And.intro ?_ ?_)<;>refine Lf.mk ?_)
 all_goals (refine end_p (VS.mk ?_))
 all_goals (refine LeD.of_eq ?_;simp;omega)
def hasB (s:List UInt8) (c:UInt8):Bool:=s.contains c
theorem has_meets:Meets Tryd.prog n_plref1_Has (SpecP (fun p:List UInt8×UInt8=>p.1.length≤1000000000) (fun (s,c)=>[.str s,byteD c]) fun (s,c)=>.bool (hasB s c)):=by
 refine meets_f tabOk Tryd.func25 rfl (by decide) ?_
 rintro ⟨s,c⟩ hs
 have hs:s.length≤1000000000:=hs
 refine ⟨Nat.le_refl _,by simp [Tryd.f25],fun E hE=>?_⟩
 refine vcOk _ ?_
 (all_goals refine qgo (Lf.mk ?_))
 refine awp_loop (α:=Nat) (fun k=>k≤s.length∧hasB (s.take k) c=false) (fun k=>[(0,.str s),(1,byteD c),(7,.int .i64 s.length),(8,.int .i64 k)]) (fun _=>[]) (fun k=>s.length - k) (fun _=>by simp [hE]) 0 ⟨Nat.zero_le _,by simp [hasB]⟩ ?_ ?_
 ·(repeat' (first | (refine VS.mk ?_) | exact trivial | exact rfl | refine And.intro ?_ ?_))
 rintro k ⟨hk,hno⟩
 refine vcOk _ ?_
 (all_goals refine qgo ?_<;>(repeat' first | exact trivial | intro hc | refine And.intro ?_ ?_)<;>refine Lf.mk ?_)
 ·refine end_p (VS.mk (LeD.tt ?_))
  simp only [hasB,List.contains_iff_mem]
  have hk':k < s.length:=by omega
  have e:s.getD k 0=c:=UInt8.toNat_inj.1 (by exact_mod_cast hc)
  rw [← e,List.getD_eq_getElem?_getD,List.getElem?_eq_getElem hk']
  exact List.getElem_mem _
 ·have hk':k < s.length:=by omega
  have hno':hasB (s.take (k+1)) c=false:=by
   rw [List.take_succ_eq_append_getElem hk']
   simp only [hasB,List.contains_append,Bool.or_eq_false_iff] at hno ⊢
   refine ⟨hno,?_⟩
   simp only [List.contains_cons,List.contains_nil,Bool.or_false,beq_eq_false_iff_ne]
   intro e
   apply hc
   rw [Int.toNat_natCast,List.getD_eq_getElem?_getD,List.getElem?_eq_getElem hk']
   simp [e]
  refine loop_end (k+1) ⟨by omega,hno'⟩ (by omega) ?_
  (repeat' (first | (refine VS.mk ?_) | exact trivial | exact rfl | refine And.intro ?_ ?_))
 ·refine end_p (VS.mk (LeD.ff ?_))
  rw [List.take_of_length_le (by omega)] at hno
  exact hno
attribute [local irreducible] allB decI decR encV highI infoR irows lowI rowsB signedI wrongI
attribute [local irreducible] RenM rinfo rrows rrowsM
theorem keys_eq:(rrows.map fun r=>(r.op,r.name,r.shape,hasB r.bits 110,hasB r.bits 109))=irows.map fun r=>(r.op,r.name,r.shape,uses1 r.shape,uses2 r.shape):=by unfold rrows irows;rfl
theorem find_keys (op:Int):(rinfo op).map (fun r=>(r.op,r.name,r.shape,hasB r.bits 110,hasB r.bits 109))=(infoR op).map fun r=>(r.op,r.name,r.shape,uses1 r.shape,uses2 r.shape):=by
 have h1:=List.find?_map (p:=fun q:Int×List UInt8×Int×Bool×Bool=>op==q.1) (f:=fun r:RRow=>(r.op,r.name,r.shape,hasB r.bits 110,hasB r.bits 109)) (l:=rrows)
 have h2:=List.find?_map (p:=fun q:Int×List UInt8×Int×Bool×Bool=>op==q.1) (f:=fun r:IRow=>(r.op,r.name,r.shape,uses1 r.shape,uses2 r.shape)) (l:=irows)
 rw [keys_eq] at h1
 unfold rinfo infoR
 rw [show (fun r:IRow=>r.op==op)=((fun q:Int×List UInt8×Int×Bool×Bool=>op==q.1) ∘ fun r:IRow=>(r.op,r.name,r.shape,uses1 r.shape,uses2 r.shape)) from funext fun r=>by simp [BEq.comm]]
 rw [← h2]
 exact h1.symm
theorem rinfo_none {op:Int} (h:infoR op=none):rinfo op=none:=by
 have:=find_keys op
 rw [h] at this
 simpa using this
theorem rinfo_some {op:Int} {r:IRow} (h:infoR op=some r):∃ q,rinfo op=some q∧q.name=r.name∧q.shape=r.shape∧hasB q.bits 110=uses1 r.shape∧hasB q.bits 109=uses2 r.shape:=by
 have:=find_keys op
 rw [h] at this
 simp only [Option.map_some,Option.map_eq_some_iff,Prod.mk.injEq] at this
 obtain ⟨q,h1,h2,h3,h4,h5,h6⟩:=this
 exact ⟨q,h1,h3,h4,h5,h6⟩
theorem rbits_len:∀ r∈rrows,r.bits.length=16:=by unfold rrows;decide
theorem rinfo_mem {op:Int} {q:RRow} (h:rinfo op=some q):q∈rrows∧q.op=op:=by
 unfold rinfo at h
 have h2:=List.find?_some h
 simp only [beq_iff_eq] at h2
 exact ⟨List.mem_of_find?_eq_some h,h2.symm⟩
theorem low_eq (s:Int):lowI s=if s=1∨s=4 then -128 else if s=5 then -2048 else 0:=by unfold lowI;rfl
theorem high_eq (s:Int):highI s=if s=1∨s=4 then 127 else if s=5 then 2047 else if s=7∨s=8∨s=11 then 255 else 0:=by unfold highI;rfl
theorem rwrong_meets:Meets Tryd.prog n_plref1_Wrong (SpecP (fun _:Ins=>True) (fun i=>[insD i]) fun i=>.int .i64 (wrongI i)):=by
 refine meets_f tabOk Tryd.func6 rfl (by decide) fun i _=>?_
 refine ⟨Nat.le_refl _,by simp [Tryd.f6],fun E hE=>?_⟩
 refine vcOk _ ?_
 (all_goals refine qgn ?_<;>(repeat' first | exact trivial | intro hc | refine And.intro ?_ ?_)<;>refine Lf.mk ?_)
 refine dr_awp ?_
 refine draw_two tabOk mixed 0 7 [7,0,1,2,3,4,5,6,8,9] [1,2,3,4,5,6,7,0,8,9] rfl rfl rfl ?_ ?_
 ·(all_goals refine qgo ?_<;>(repeat' first | exact trivial | intro hc | refine And.intro ?_ ?_)<;>refine Lf.mk ?_)
  refine call_f rrows_meets [] [1] () trivial rfl rfl ?_
  refine And.intro (VS.mk (LeL.refl _)) (And.intro (VS.mk rfl) ?_)
  (all_goals refine qgo ?_<;>(repeat' first | exact trivial | intro hc | refine And.intro ?_ ?_)<;>refine Lf.mk ?_)
  refine renM_rows ?_
  (all_goals refine qgo ?_<;>(repeat' first | exact trivial | intro hc | refine And.intro ?_ ?_)<;>refine Lf.mk ?_)
  cases hi:infoR i.op with
  | none=>
   have hw:wrongI i=1:=by unfold wrongI;rw [hi]
   have hr:=rinfo_none hi
   have hg:getM (.int .i64 i.op) rrowsM=none:=by rw [getM_rows,hr];rfl
   (repeat' (first | (refine lk_none hg ?_) | (refine lk_some hg ?_) | (refine VS.mk ?_) | (refine dr_mk ?_) | (refine md_l ?_) | ((first | refine sp_not_dec ?_ ?_ | refine sp_dec ?_ ?_ | refine sp_beq ?_ ?_ | refine sp_bne ?_ ?_ | refine sp_seq ?_ ?_ | refine sp_sne ?_ ?_ | refine sp_not ?_ ?_ | refine sp_any ?_ ?_)<;>(intro hc;try simp only [List.length_map,List.length_append,List.length_cons,List.length_nil,Bool.and_true,Bool.and_eq_true,beq_iff_eq,Bool.and_eq_false_iff,beq_eq_false_iff_ne,Bool.true_and,ne_eq] at hc)) | (with_reducible first | refine norm_one ?_ | refine norm_app ?_ | refine norm_cutEnd ?_ | refine norm_cut ?_ | refine norm_bytes1 ?_ | refine norm_bytes2 ?_ | refine norm_setByte ?_ | refine norm_int1 ?_ | refine norm_mk ?_) | (with_reducible refine bytes_mk ?_) | (refine ar_byte ?_) | (refine ar_i64 (by omega) (by omega) ?_) | (refine ar_low ?_) | (refine ix_byteN (by omega) ?_) | (refine ix_byteK (by simp only [Int.reduceToNat];exact rfl) (by decide) (by omega) ?_) | (refine ix_byte (by omega) (by omega) ?_) | (refine ix_rfl (by decide) rfl ?_) | (refine sd_mk rfl ?_) | (refine sd_mk (by decide +kernel) ?_) | (refine sd_mk (by first | (simp only [List.length_map,List.length_append,List.length_cons,List.length_nil];done) | ((try simp only [List.length_map,List.length_append,List.length_cons,List.length_nil,List.length_set,List.length_replicate,List.length_drop,List.length_take,true_and,and_true]);omega) | (dsimp only;omega)) ?_) | (first | refine shl8 (by omega) (by omega) ?_ | refine shl4 (by omega) (by omega) ?_ | refine shl1 (by omega) (by omega) ?_ | refine shl16 (by omega) (by omega) ?_ | refine shl24 (by omega) (by omega) ?_ | refine shr8 (by decide) ?_ | refine shr4 (by decide) ?_ | refine shr1 (by decide) ?_ | refine shr16 (by decide) ?_ | refine shr24 (by decide) ?_) | (with_reducible first | refine bit_mk and_1 ?_ | refine bit_mk and_15 ?_ | refine bit_mk and_255 ?_ | refine bit_mk and_4095 ?_ | refine bit_mk and_65535 ?_) | (refine quo_pos (by omega) (by omega) (by omega) ?_) | (refine rem_pos (by omega) (by omega) ?_)))
   (any_goals (first | (exfalso;refine hc ?_;simp;done) | (exfalso;exact Bool.noConfusion hc) | (exfalso;exact hc (by with_reducible rfl)) | (exfalso;exact hc rfl) | skip))
   refine end_p (VS.mk (LeD.of_eq ?_))
   rw [hw]
  | some r=>
   have hw:wrongI i=if badReg r i then 3 else 0:=by unfold wrongI;rw [hi]
   obtain ⟨q,hq,q1,q2,q3,q4⟩:=rinfo_some hi
   have hqm:=rbits_len q (rinfo_mem hq).1
   have hg:getM (.int .i64 i.op) rrowsM=some (rrowD q):=by rw [getM_rows,hq];rfl
   (repeat' (first | (refine lk_none hg ?_) | (refine lk_some hg ?_) | (refine VS.mk ?_) | (refine dr_mk ?_) | (refine md_l ?_) | ((first | refine sp_not_dec ?_ ?_ | refine sp_dec ?_ ?_ | refine sp_beq ?_ ?_ | refine sp_bne ?_ ?_ | refine sp_seq ?_ ?_ | refine sp_sne ?_ ?_ | refine sp_not ?_ ?_ | refine sp_any ?_ ?_)<;>(intro hc;try simp only [List.length_map,List.length_append,List.length_cons,List.length_nil,Bool.and_true,Bool.and_eq_true,beq_iff_eq,Bool.and_eq_false_iff,beq_eq_false_iff_ne,Bool.true_and,ne_eq] at hc)) | (with_reducible first | refine norm_one ?_ | refine norm_app ?_ | refine norm_cutEnd ?_ | refine norm_cut ?_ | refine norm_bytes1 ?_ | refine norm_bytes2 ?_ | refine norm_setByte ?_ | refine norm_int1 ?_ | refine norm_mk ?_) | (with_reducible refine bytes_mk ?_) | (refine ar_byte ?_) | (refine ar_i64 (by omega) (by omega) ?_) | (refine ar_low ?_) | (refine ix_byteN (by omega) ?_) | (refine ix_byteK (by simp only [Int.reduceToNat];exact rfl) (by decide) (by omega) ?_) | (refine ix_byte (by omega) (by omega) ?_) | (refine ix_rfl (by decide) rfl ?_) | (refine sd_mk rfl ?_) | (refine sd_mk (by decide +kernel) ?_) | (refine sd_mk (by first | (simp only [List.length_map,List.length_append,List.length_cons,List.length_nil];done) | ((try simp only [List.length_map,List.length_append,List.length_cons,List.length_nil,List.length_set,List.length_replicate,List.length_drop,List.length_take,true_and,and_true]);omega) | (dsimp only;omega)) ?_) | (first | refine shl8 (by omega) (by omega) ?_ | refine shl4 (by omega) (by omega) ?_ | refine shl1 (by omega) (by omega) ?_ | refine shl16 (by omega) (by omega) ?_ | refine shl24 (by omega) (by omega) ?_ | refine shr8 (by decide) ?_ | refine shr4 (by decide) ?_ | refine shr1 (by decide) ?_ | refine shr16 (by decide) ?_ | refine shr24 (by decide) ?_) | (with_reducible first | refine bit_mk and_1 ?_ | refine bit_mk and_15 ?_ | refine bit_mk and_255 ?_ | refine bit_mk and_4095 ?_ | refine bit_mk and_65535 ?_) | (refine quo_pos (by omega) (by omega) (by omega) ?_) | (refine rem_pos (by omega) (by omega) ?_)))
   (any_goals (first | (exfalso;refine hc ?_;simp;done) | (exfalso;exact Bool.noConfusion hc) | (exfalso;exact hc (by with_reducible rfl)) | (exfalso;exact hc rfl) | skip))
   refine call_p range2_meets q.shape trivial (VS.mk (by (first | exact LeL.refl _ | (repeat' (first | exact LeL.nil | exact LeD.refl _ | exact LeD.nil _ | exact LeD.strip _ _ _ | refine LeL.cons ?_ ?_ | refine LeD.tup ?_ | refine LeD.agg ?_))))) ?_
   rw [q2]
   rw [show (if r.shape=1∨r.shape=4 then (-128:Int) else if r.shape=5 then -2048 else 0)=lowI r.shape from (low_eq r.shape).symm,show (if r.shape=1∨r.shape=4 then (127:Int) else if r.shape=5 then 2047 else if r.shape=7∨r.shape=8∨r.shape=11 then 255 else 0)=highI r.shape from (high_eq r.shape).symm]
   (all_goals refine qgo ?_<;>(repeat' first | exact trivial | intro hc | refine And.intro ?_ ?_)<;>refine Lf.mk ?_)
   any_goals (refine call_p has_meets (q.bits,110) (show q.bits.length≤1000000000 by omega) (VS.mk (LeL.of_eq rfl)) ?_)
   (all_goals refine qgo ?_<;>(repeat' first | exact trivial | intro hc | refine And.intro ?_ ?_)<;>refine Lf.mk ?_)
   any_goals (refine call_p has_meets (q.bits,109) (show q.bits.length≤1000000000 by omega) (VS.mk (LeL.of_eq rfl)) ?_)
   (all_goals refine qgo ?_<;>(repeat' first | exact trivial | intro hc | refine And.intro ?_ ?_)<;>refine Lf.mk ?_)
   all_goals (refine end_p (VS.mk (LeD.of_eq (congrArg (D.int .i64) ?_)));rw [hw])
   all_goals rw [q3] at *
   all_goals rw [q4] at *
   all_goals first | (rw [if_pos];unfold badReg;simp_all;done) | (rw [if_neg];unfold badReg;simp_all;done) | (rw [if_neg];unfold badReg;simp_all;omega)
 ·(all_goals refine qgo ?_<;>(repeat' first | exact trivial | intro hc | refine And.intro ?_ ?_)<;>refine Lf.mk ?_)
  refine call_f rrows_meets [] [2] () trivial rfl rfl ?_
  refine And.intro (VS.mk (LeL.refl _)) (And.intro (VS.mk rfl) ?_)
  (all_goals refine qgo ?_<;>(repeat' first | exact trivial | intro hc | refine And.intro ?_ ?_)<;>refine Lf.mk ?_)
  refine renM_rows ?_
  (all_goals refine qgo ?_<;>(repeat' first | exact trivial | intro hc | refine And.intro ?_ ?_)<;>refine Lf.mk ?_)
  cases hi:infoR i.op with
  | none=>
   have hw:wrongI i=1:=by unfold wrongI;rw [hi]
   have hr:=rinfo_none hi
   have hg:getM (.int .i64 i.op) rrowsM=none:=by rw [getM_rows,hr];rfl
   (repeat' (first | (refine lk_none hg ?_) | (refine lk_some hg ?_) | (refine VS.mk ?_) | (refine dr_mk ?_) | (refine md_l ?_) | ((first | refine sp_not_dec ?_ ?_ | refine sp_dec ?_ ?_ | refine sp_beq ?_ ?_ | refine sp_bne ?_ ?_ | refine sp_seq ?_ ?_ | refine sp_sne ?_ ?_ | refine sp_not ?_ ?_ | refine sp_any ?_ ?_)<;>(intro hc;try simp only [List.length_map,List.length_append,List.length_cons,List.length_nil,Bool.and_true,Bool.and_eq_true,beq_iff_eq,Bool.and_eq_false_iff,beq_eq_false_iff_ne,Bool.true_and,ne_eq] at hc)) | (with_reducible first | refine norm_one ?_ | refine norm_app ?_ | refine norm_cutEnd ?_ | refine norm_cut ?_ | refine norm_bytes1 ?_ | refine norm_bytes2 ?_ | refine norm_setByte ?_ | refine norm_int1 ?_ | refine norm_mk ?_) | (with_reducible refine bytes_mk ?_) | (refine ar_byte ?_) | (refine ar_i64 (by omega) (by omega) ?_) | (refine ar_low ?_) | (refine ix_byteN (by omega) ?_) | (refine ix_byteK (by simp only [Int.reduceToNat];exact rfl) (by decide) (by omega) ?_) | (refine ix_byte (by omega) (by omega) ?_) | (refine ix_rfl (by decide) rfl ?_) | (refine sd_mk rfl ?_) | (refine sd_mk (by decide +kernel) ?_) | (refine sd_mk (by first | (simp only [List.length_map,List.length_append,List.length_cons,List.length_nil];done) | ((try simp only [List.length_map,List.length_append,List.length_cons,List.length_nil,List.length_set,List.length_replicate,List.length_drop,List.length_take,true_and,and_true]);omega) | (dsimp only;omega)) ?_) | (first | refine shl8 (by omega) (by omega) ?_ | refine shl4 (by omega) (by omega) ?_ | refine shl1 (by omega) (by omega) ?_ | refine shl16 (by omega) (by omega) ?_ | refine shl24 (by omega) (by omega) ?_ | refine shr8 (by decide) ?_ | refine shr4 (by decide) ?_ | refine shr1 (by decide) ?_ | refine shr16 (by decide) ?_ | refine shr24 (by decide) ?_) | (with_reducible first | refine bit_mk and_1 ?_ | refine bit_mk and_15 ?_ | refine bit_mk and_255 ?_ | refine bit_mk and_4095 ?_ | refine bit_mk and_65535 ?_) | (refine quo_pos (by omega) (by omega) (by omega) ?_) | (refine rem_pos (by omega) (by omega) ?_)))
   (any_goals (first | (exfalso;refine hc ?_;simp;done) | (exfalso;exact Bool.noConfusion hc) | (exfalso;exact hc (by with_reducible rfl)) | (exfalso;exact hc rfl) | skip))
   refine end_p (VS.mk (LeD.of_eq ?_))
   rw [hw]
  | some r=>
   have hw:wrongI i=if badReg r i then 3 else 0:=by unfold wrongI;rw [hi]
   obtain ⟨q,hq,q1,q2,q3,q4⟩:=rinfo_some hi
   have hqm:=rbits_len q (rinfo_mem hq).1
   have hg:getM (.int .i64 i.op) rrowsM=some (rrowD q):=by rw [getM_rows,hq];rfl
   (repeat' (first | (refine lk_none hg ?_) | (refine lk_some hg ?_) | (refine VS.mk ?_) | (refine dr_mk ?_) | (refine md_l ?_) | ((first | refine sp_not_dec ?_ ?_ | refine sp_dec ?_ ?_ | refine sp_beq ?_ ?_ | refine sp_bne ?_ ?_ | refine sp_seq ?_ ?_ | refine sp_sne ?_ ?_ | refine sp_not ?_ ?_ | refine sp_any ?_ ?_)<;>(intro hc;try simp only [List.length_map,List.length_append,List.length_cons,List.length_nil,Bool.and_true,Bool.and_eq_true,beq_iff_eq,Bool.and_eq_false_iff,beq_eq_false_iff_ne,Bool.true_and,ne_eq] at hc)) | (with_reducible first | refine norm_one ?_ | refine norm_app ?_ | refine norm_cutEnd ?_ | refine norm_cut ?_ | refine norm_bytes1 ?_ | refine norm_bytes2 ?_ | refine norm_setByte ?_ | refine norm_int1 ?_ | refine norm_mk ?_) | (with_reducible refine bytes_mk ?_) | (refine ar_byte ?_) | (refine ar_i64 (by omega) (by omega) ?_) | (refine ar_low ?_) | (refine ix_byteN (by omega) ?_) | (refine ix_byteK (by simp only [Int.reduceToNat];exact rfl) (by decide) (by omega) ?_) | (refine ix_byte (by omega) (by omega) ?_) | (refine ix_rfl (by decide) rfl ?_) | (refine sd_mk rfl ?_) | (refine sd_mk (by decide +kernel) ?_) | (refine sd_mk (by first | (simp only [List.length_map,List.length_append,List.length_cons,List.length_nil];done) | ((try simp only [List.length_map,List.length_append,List.length_cons,List.length_nil,List.length_set,List.length_replicate,List.length_drop,List.length_take,true_and,and_true]);omega) | (dsimp only;omega)) ?_) | (first | refine shl8 (by omega) (by omega) ?_ | refine shl4 (by omega) (by omega) ?_ | refine shl1 (by omega) (by omega) ?_ | refine shl16 (by omega) (by omega) ?_ | refine shl24 (by omega) (by omega) ?_ | refine shr8 (by decide) ?_ | refine shr4 (by decide) ?_ | refine shr1 (by decide) ?_ | refine shr16 (by decide) ?_ | refine shr24 (by decide) ?_) | (with_reducible first | refine bit_mk and_1 ?_ | refine bit_mk and_15 ?_ | refine bit_mk and_255 ?_ | refine bit_mk and_4095 ?_ | refine bit_mk and_65535 ?_) | (refine quo_pos (by omega) (by omega) (by omega) ?_) | (refine rem_pos (by omega) (by omega) ?_)))
   (any_goals (first | (exfalso;refine hc ?_;simp;done) | (exfalso;exact Bool.noConfusion hc) | (exfalso;exact hc (by with_reducible rfl)) | (exfalso;exact hc rfl) | skip))
   refine call_p range2_meets q.shape trivial (VS.mk (by (first | exact LeL.refl _ | (repeat' (first | exact LeL.nil | exact LeD.refl _ | exact LeD.nil _ | exact LeD.strip _ _ _ | refine LeL.cons ?_ ?_ | refine LeD.tup ?_ | refine LeD.agg ?_))))) ?_
   rw [q2]
   rw [show (if r.shape=1∨r.shape=4 then (-128:Int) else if r.shape=5 then -2048 else 0)=lowI r.shape from (low_eq r.shape).symm,show (if r.shape=1∨r.shape=4 then (127:Int) else if r.shape=5 then 2047 else if r.shape=7∨r.shape=8∨r.shape=11 then 255 else 0)=highI r.shape from (high_eq r.shape).symm]
   (all_goals refine qgo ?_<;>(repeat' first | exact trivial | intro hc | refine And.intro ?_ ?_)<;>refine Lf.mk ?_)
   any_goals (refine call_p has_meets (q.bits,110) (show q.bits.length≤1000000000 by omega) (VS.mk (LeL.of_eq rfl)) ?_)
   (all_goals refine qgo ?_<;>(repeat' first | exact trivial | intro hc | refine And.intro ?_ ?_)<;>refine Lf.mk ?_)
   any_goals (refine call_p has_meets (q.bits,109) (show q.bits.length≤1000000000 by omega) (VS.mk (LeL.of_eq rfl)) ?_)
   (all_goals refine qgo ?_<;>(repeat' first | exact trivial | intro hc | refine And.intro ?_ ?_)<;>refine Lf.mk ?_)
   all_goals (refine end_p (VS.mk (LeD.of_eq (congrArg (D.int .i64) ?_)));rw [hw])
   all_goals rw [q3] at *
   all_goals rw [q4] at *
   all_goals first | (rw [if_pos];unfold badReg;simp_all;done) | (rw [if_neg];unfold badReg;simp_all;done) | (rw [if_neg];unfold badReg;simp_all;omega)
theorem pow_bd {k:Nat} (h:k≤16):(0:Int) < 2 ^ k∧(2:Int) ^ k≤65536:=by
 have h1:(2:Nat) ^ k≤2 ^ 16:=Nat.pow_le_pow_right (by decide) h
 have h2:0 < (2:Nat) ^ k:=Nat.pow_pos (by decide)
 have e:(2:Int) ^ k=((2 ^ k:Nat):Int):=by simp
 rw [e]
 have h3:(2:Nat) ^ k≤65536:=h1
 generalize (2:Nat) ^ k=p at *
 omega
end Go.Proofs.YtfahnaccpncdpaaDoor
namespace Go.Proofs.YtfahnaccpncdpaaDoor
open Go Go.Plat
set_option linter.unusedVariables false
set_option linter.unusedSimpArgs false
set_option maxRecDepth 100000
set_option maxHeartbeats 2000000
attribute [local irreducible] AWP Arith BitS BytesS CallS CatS DrawS EndS IdxS LookS LoopEnd Meets ModeS NilS NormL NormM QuoS RemS ShlS ShrS SideS SplitS bitI
theorem rops:rrows.map (·.op)=(List.range 27).map fun j:Nat=>((j:Int)+1):=by unfold rrows;rfl
theorem iops:irows.map (·.op)=(List.range 27).map fun j:Nat=>((j:Int)+1):=by unfold irows;rfl
attribute [local irreducible] rrows irows rowsB infoR rinfo decR
theorem same_row {op:Int} {r:IRow} {q:RRow} (hi:infoR op=some r) (hq:rinfo op=some q):∃ j:Nat,j < 27∧irows[j]?=some r∧rrows[j]?=some q:=by
 obtain ⟨h1,h2⟩:=infoR_mem hi
 obtain ⟨h3,h4⟩:=rinfo_mem hq
 obtain ⟨j,hj⟩:=List.getElem?_of_mem h1
 obtain ⟨k,hk⟩:=List.getElem?_of_mem h3
 have e1:(irows.map (·.op))[j]?=some r.op:=by rw [List.getElem?_map,hj];rfl
 have e2:(rrows.map (·.op))[k]?=some q.op:=by rw [List.getElem?_map,hk];rfl
 have hjl:j < 27:=by have:=(List.getElem?_eq_some_iff.1 hj).1;rwa [irows_len] at this
 have hkl:k < 27:=by
  have:=(List.getElem?_eq_some_iff.1 e2).1
  rw [rops] at this
  simpa using this
 rw [iops,List.getElem?_map,List.getElem?_range hjl] at e1
 rw [rops,List.getElem?_map,List.getElem?_range hkl] at e2
 simp at e1 e2
 have:j=k:=by omega
 subst this
 exact ⟨j,hjl,hj,hk⟩
end Go.Proofs.YtfahnaccpncdpaaDoor
namespace Go.Proofs.YtfahnaccpncdpaaDoor
open Go Go.Plat
set_option linter.unusedVariables false
set_option linter.unusedSimpArgs false
set_option maxRecDepth 100000
set_option maxHeartbeats 2000000
attribute [local irreducible] AWP Arith BitS BytesS CallS CatS DrawS EndS IdxS LookS LoopEnd Meets ModeS NilS NormL NormM QuoS RemS ShlS ShrS SideS SplitS bitI
def bitW (W:Int) (k:Nat):Int:=W / 2 ^ (15 - k) % 2
def preB (s:List UInt8) (W:Int) (k:Nat):List (UInt8×Int):=(List.range k).map fun j=>(s.getD j 0,bitW W j)
def fitP (p:UInt8×Int):Bool:=match p.1==48 with
 | true=>p.2==0
 | false=>match p.1==49 with
  | true=>p.2==1
  | false=>true
def fitF (l:List (UInt8×Int)):Bool:=l.all fitP
def tnumF (f:UInt8→Bool) (l:List (UInt8×Int)) (x:Int):Int:=l.foldl (fun x p=>match f p.1 with | true=>2 * x+p.2 | false=>x) x
def isImm (c:UInt8):Bool:=!(c==48) && !(c==49) && !(c==110) && !(c==109)
def widF (l:List (UInt8×Int)):Nat:=(l.filter fun p=>isImm p.1).length
theorem preB_succ (s:List UInt8) (W:Int) (k:Nat):preB s W (k+1)=preB s W k++[(s.getD k 0,bitW W k)]:=by simp [preB,List.range_succ]
theorem bitW_01 (W:Int) (k:Nat):bitW W k=0∨bitW W k=1:=by unfold bitW;omega
theorem numF_bd (f:UInt8→Bool) (s:List UInt8) (W:Int):∀ k,0≤tnumF f (preB s W k) 0∧tnumF f (preB s W k) 0 < 2 ^ k
 | 0=>by simp [tnumF,preB]
 | k+1=>by
  have h:=numF_bd f s W k
  have hp:(2:Int) ^ (k+1)=2 ^ k * 2:=Int.pow_succ _ _
  have hb:=bitW_01 W k
  have e:tnumF f (preB s W (k+1)) 0=match f (s.getD k 0) with | true=>2 * tnumF f (preB s W k) 0+bitW W k | false=>tnumF f (preB s W k) 0:=by
   rw [preB_succ];simp [tnumF,List.foldl_append]
  rw [e,hp]
  generalize tnumF f (preB s W k) 0=x at *
  generalize bitW W k=b at *
  generalize (2:Int) ^ k=p at *
  split
  ·rcases hb with rfl | rfl
   ·show 0≤2 * x+0∧2 * x+0 < p * 2
    omega
   ·show 0≤2 * x+1∧2 * x+1 < p * 2
    omega
  ·show 0≤x∧x < p * 2
   omega
theorem widF_bd (s:List UInt8) (W:Int) (k:Nat):widF (preB s W k)≤k:=by
 have:=List.length_filter_le (fun p:UInt8×Int=>isImm p.1) (preB s W k)
 simp only [widF]
 simp only [preB,List.length_map,List.length_range] at this
 exact this
theorem numF_step (f:UInt8→Bool) (s:List UInt8) (W:Int) (k:Nat):tnumF f (preB s W (k+1)) 0=match f (s.getD k 0) with | true=>2 * tnumF f (preB s W k) 0+bitW W k | false=>tnumF f (preB s W k) 0:=by
 rw [preB_succ];simp [tnumF,List.foldl_append]
theorem fitF_step (s:List UInt8) (W:Int) (k:Nat):fitF (preB s W (k+1))=(fitF (preB s W k) && fitP (s.getD k 0,bitW W k)):=by
 rw [preB_succ];simp [fitF]
theorem widF_step (s:List UInt8) (W:Int) (k:Nat):widF (preB s W (k+1))=widF (preB s W k)+(match isImm (s.getD k 0) with | true=>1 | false=>0):=by
 rw [preB_succ]
 unfold widF
 rw [List.filter_append,List.length_append]
 congr 1
 cases h:isImm (s.getD k 0)<;>simp only [List.filter,h]<;>rfl
theorem tshr_var {n:Int} {k:Nat} (hk:k≤15) {K:D→Prop} (h:K (.int .i64 (n / 2 ^ (15 - k)))):ShrS .i64 n (15 - (k:Int)) K:=
 shr_lit (s:=15 - k) (m:=2 ^ (15 - k)) (by omega) (by show 15 - k≤64;omega) rfl h
theorem fit_0 (s:List UInt8) (W:Int):fitF (preB s W 0)=true:=rfl
theorem num_0 (f:UInt8→Bool) (s:List UInt8) (W:Int):tnumF f (preB s W 0) 0=0:=rfl
theorem wid_0 (s:List UInt8) (W:Int):widF (preB s W 0)=0:=rfl
theorem shl_one {d:Nat} {y:Int} (hy:y=d) (hd:d≤16) {K:D→Prop} (h:K (.int .i64 (2 ^ d))):ShlS .i64 1 y K:=by
 have:=pow_bd hd
 refine shl_lit (s:=d) (m:=2 ^ d) hy (by omega) rfl (by omega) (by omega) ?_
 rwa [Int.one_mul]
theorem fit_48 (b:Int):fitP (48,b)=(b==0):=rfl
theorem fit_49 (b:Int):fitP (49,b)=(b==1):=rfl
theorem fit_110 (b:Int):fitP (110,b)=true:=rfl
theorem fit_109 (b:Int):fitP (109,b)=true:=rfl
theorem imm_48:isImm 48=false:=rfl
theorem imm_49:isImm 49=false:=rfl
theorem imm_110:isImm 110=false:=rfl
theorem imm_109:isImm 109=false:=rfl
theorem imm_char {c:UInt8} {b:Int} (h1:¬ c=48) (h2:¬ c=49) (h3:¬ c=110) (h4:¬ c=109):fitP (c,b)=true∧(c==110)=false∧(c==109)=false∧isImm c=true:=by
 have e1:(c==48)=false:=beq_eq_false_iff_ne.2 h1
 have e2:(c==49)=false:=beq_eq_false_iff_ne.2 h2
 have e3:(c==110)=false:=beq_eq_false_iff_ne.2 h3
 have e4:(c==109)=false:=beq_eq_false_iff_ne.2 h4
 exact ⟨by simp only [fitP,e1,e2],e3,e4,by simp only [isImm,e1,e2,e3,e4];rfl⟩
attribute [local irreducible] RenM irows infoR rowsB allB decR wrongI encV decI signedI lowI highI rrows rinfo rrowsM fitF tnumF widF preB bitW isImm
structure RowDec (W:Nat) (r:IRow) (q:RRow):Prop where
 fits:fitF (preB q.bits W 16)=fitsR W r
 num:fitsR W r=true→tnumF (fun c=>c==110) (preB q.bits W 16) 0=(insOf W r).n∧tnumF (fun c=>c==109) (preB q.bits W 16) 0=(insOf W r).m
 imm:fitsR W r=true→(lowI r.shape < 0→1≤widF (preB q.bits W 16))∧(insOf W r).imm=(if lowI r.shape < 0∧(2:Int) ^ (widF (preB q.bits W 16) - 1)≤tnumF isImm (preB q.bits W 16) 0 then tnumF isImm (preB q.bits W 16) 0 - 2 ^ widF (preB q.bits W 16) else tnumF isImm (preB q.bits W 16) 0)
theorem rdecode_meets (hrow:∀ (W j:Nat) r q,W < 65536→irows[j]?=some r→rrows[j]?=some q→RowDec W r q):Meets Tryd.prog n_plref1_Decode (SpecP (fun _:Int=>True) (fun w=>[.int .i64 w]) fun w=>.tup [insD (decI w).1,.int .i64 (decI w).2]):=by
 refine meets_f tabOk Tryd.func21 rfl (by decide) fun w _=>?_
 refine ⟨Nat.le_refl _,by simp [Tryd.f21],fun E hE=>?_⟩
 refine vcOk _ ?_
 (all_goals refine qgo ?_<;>(repeat' first | exact trivial | intro hc | refine And.intro ?_ ?_)<;>refine Lf.mk ?_)
 ·refine end_p (VS.mk (LeD.of_eq ?_))
  rw [show decI w=(ins0,3) by unfold decI;rw [if_pos (by omega)]]
  rfl
 ·refine end_p (VS.mk (LeD.of_eq ?_))
  rw [show decI w=(ins0,3) by unfold decI;rw [if_pos (by omega)]]
  rfl
 obtain ⟨W,hW⟩:=Int.eq_ofNat_of_zero_le (show 0≤w by omega)
 subst hW
 have hWl:W < 65536:=by omega
 refine awp_loop (α:=Nat) (fun m=>m≤27∧∀ (i:Nat) r,i < m→irows[i]?=some r→fitsR W r=false) (fun m=>[(4,.int .i64 ((m:Int)+1)),(0,.int .i64 W),(2,.loc 0 0)])
  (fun _=>[.cells [.int .i64 0,.int .i64 0,.int .i64 0,.int .i64 0]]) (fun m=>27 - m) (fun _=>by simp [hE]) 0 ⟨Nat.zero_le _,by simp⟩ ?_ ?_
 ·(repeat' (first | (refine VS.mk ?_) | exact trivial | exact rfl | refine And.intro ?_ ?_))
 rintro m ⟨hm,hno⟩
 refine vcOk _ ?_
 (all_goals refine qgo ?_<;>(repeat' first | exact trivial | intro hc | refine And.intro ?_ ?_)<;>refine Lf.mk ?_)
 ·obtain ⟨r,hr⟩:=at_of_lt (l:=irows) (k:=m) (by rw [irows_len];omega)
  obtain ⟨q,hq⟩:∃ q,rrows[m]?=some q:=by
   have:(rrows.map (·.op)).length=27:=by rw [rops];rfl
   exact at_of_lt (by rw [List.length_map] at this;omega)
  have hrop:r.op=(m:Int)+1:=by
   have e1:(irows.map (·.op))[m]?=some r.op:=by rw [List.getElem?_map,hr];rfl
   rw [iops,List.getElem?_map,List.getElem?_range (by omega)] at e1
   simpa using e1.symm
  have hri:rinfo ((m:Int)+1)=some q:=by
   obtain ⟨q',h1,_⟩:=rinfo_some (irow_info r (List.mem_of_getElem? hr))
   rw [hrop] at h1
   obtain ⟨j,_,h2,h3⟩:=same_row (by have:=irow_info r (List.mem_of_getElem? hr);rwa [hrop] at this) h1
   have e2:(rrows.map (·.op))[j]?=some q'.op:=by rw [List.getElem?_map,h3];rfl
   have hj:j < 27:=by assumption
   rw [rops,List.getElem?_map,List.getElem?_range hj] at e2
   have:=(rinfo_mem h1).2
   simp at e2
   have:j=m:=by omega
   subst this
   rw [hq] at h3
   cases h3
   exact h1
  have hg:getM (.int .i64 ((m:Int)+1)) rrowsM=some (rrowD q):=by rw [getM_rows,hri];rfl
  have hqm:=rbits_len q (rinfo_mem hri).1
  have hrd:=hrow W m r q hWl hr hq
  refine call_f rrows_meets [] [1] () trivial rfl rfl ?_
  refine And.intro (VS.mk (LeL.refl _)) (And.intro (VS.mk rfl) ?_)
  (all_goals refine qgo (Lf.mk ?_))
  refine renM_rows ?_
  (repeat' (first | (refine lk_none hg ?_) | (refine lk_some hg ?_) | (refine VS.mk ?_) | (refine dr_mk ?_) | (refine md_l ?_) | ((first | refine sp_not_dec ?_ ?_ | refine sp_dec ?_ ?_ | refine sp_beq ?_ ?_ | refine sp_bne ?_ ?_ | refine sp_seq ?_ ?_ | refine sp_sne ?_ ?_ | refine sp_not ?_ ?_ | refine sp_any ?_ ?_)<;>(intro hc;try simp only [List.length_map,List.length_append,List.length_cons,List.length_nil,Bool.and_true,Bool.and_eq_true,beq_iff_eq,Bool.and_eq_false_iff,beq_eq_false_iff_ne,Bool.true_and,ne_eq] at hc)) | (with_reducible first | refine norm_one ?_ | refine norm_app ?_ | refine norm_cutEnd ?_ | refine norm_cut ?_ | refine norm_bytes1 ?_ | refine norm_bytes2 ?_ | refine norm_setByte ?_ | refine norm_int1 ?_ | refine norm_mk ?_) | (with_reducible refine bytes_mk ?_) | (refine ar_byte ?_) | (refine ar_i64 (by omega) (by omega) ?_) | (refine ar_low ?_) | (refine ix_byteN (by omega) ?_) | (refine ix_byteK (by simp only [Int.reduceToNat];exact rfl) (by decide) (by omega) ?_) | (refine ix_byte (by omega) (by omega) ?_) | (refine ix_rfl (by decide) rfl ?_) | (refine sd_mk rfl ?_) | (refine sd_mk (by decide +kernel) ?_) | (refine sd_mk (by first | (simp only [List.length_map,List.length_append,List.length_cons,List.length_nil];done) | ((try simp only [List.length_map,List.length_append,List.length_cons,List.length_nil,List.length_set,List.length_replicate,List.length_drop,List.length_take,true_and,and_true]);omega) | (dsimp only;omega)) ?_) | (first | refine shl8 (by omega) (by omega) ?_ | refine shl4 (by omega) (by omega) ?_ | refine shl1 (by omega) (by omega) ?_ | refine shl16 (by omega) (by omega) ?_ | refine shl24 (by omega) (by omega) ?_ | refine shr8 (by decide) ?_ | refine shr4 (by decide) ?_ | refine shr1 (by decide) ?_ | refine shr16 (by decide) ?_ | refine shr24 (by decide) ?_) | (with_reducible first | refine bit_mk and_1 ?_ | refine bit_mk and_15 ?_ | refine bit_mk and_255 ?_ | refine bit_mk and_4095 ?_ | refine bit_mk and_65535 ?_) | (refine quo_pos (by omega) (by omega) (by omega) ?_) | (refine rem_pos (by omega) (by omega) ?_)))
  refine awp_weak (weak_le 7 (.bool true) (show LeD .tt (.bool true) from LeD.tt rfl)) ?_
  refine awp_loop (α:=Nat) (fun k=>k≤16) (fun k=>[(29,.int .i64 k),(4,.int .i64 ((m:Int)+1)),(0,.int .i64 W),(2,.loc 0 0),(5,.loc 2 0),(6,.loc 3 0),(7,.bool (fitF (preB q.bits W k))),(8,.int .i64 (widF (preB q.bits W k)))])
   (fun k=>[.cells [.int .i64 0,.int .i64 0,.int .i64 0,.int .i64 0],.map rrowsM,.cells [.str q.name,.int .i64 q.shape,.str q.bits],.cells [.int .i64 ((m:Int)+1),.int .i64 (tnumF (fun c=>c==110) (preB q.bits W k) 0),.int .i64 (tnumF (fun c=>c==109) (preB q.bits W k) 0),.int .i64 (tnumF isImm (preB q.bits W k) 0)]])
   (fun k=>16 - k) (fun _=>by simp [hE]) 0 (Nat.zero_le _) ?_ ?_
  ·(repeat' (first | (refine VS.mk ?_) | exact trivial | exact rfl | refine And.intro ?_ ?_))
   ·refine renM_rows ?_
    refine VS.mk ?_
    rw [num_0,num_0,num_0]
   all_goals first | (rw [fit_0]) | (rw [wid_0];rfl)
  intro k hk
  have hb1:=numF_bd (fun c=>c==110) q.bits W k
  have hb2:=numF_bd (fun c=>c==109) q.bits W k
  have hb3:=numF_bd isImm q.bits W k
  have hb4:=widF_bd q.bits W k
  have hb5:=bitW_01 W k
  have hpow:=pow_bd hk
  have hbw:(W:Int) / 2 ^ (15 - k) % 2=bitW W k:=by unfold bitW;rfl
  have hidx:((k:Int)).toNat=k:=Int.toNat_natCast k
  have s1:=fitF_step q.bits W k
  have s2:=numF_step (fun c=>c==110) q.bits W k
  have s3:=numF_step (fun c=>c==109) q.bits W k
  have s4:=numF_step isImm q.bits W k
  have s5:=widF_step q.bits W k
  have hlen:E.L.length≤4:=by simp [hE]
  have char:∀ {c d:UInt8},((c.toNat:Nat):Int)=((d.toNat:Nat):Int)→c=d:=fun h=>UInt8.toNat_inj.1 (by exact_mod_cast h)
  refine vcOk _ ?_
  (all_goals refine qgo ?_<;>(repeat' first | exact trivial | intro hc | refine And.intro ?_ ?_)<;>refine Lf.mk ?_)
  ·refine tshr_var (by omega) ?_
   refine VS.mk ?_
   refine bit_mk and_1 ?_
   rw [hbw]
   (all_goals refine qgo ?_<;>(repeat' first | exact trivial | intro hc | refine And.intro ?_ ?_)<;>refine Lf.mk ?_)
   ·rw [hidx] at *
    have hch:q.bits.getD k 0=48:=char (by assumption)
    rw [hch] at s1 s2 s3 s4 s5
    rw [fit_48] at s1
    rw [imm_48] at s4 s5
    have s2:tnumF (fun c=>c==110) (preB q.bits W (k+1)) 0=tnumF (fun c=>c==110) (preB q.bits W k) 0:=s2
    have s3:tnumF (fun c=>c==109) (preB q.bits W (k+1)) 0=tnumF (fun c=>c==109) (preB q.bits W k) 0:=s3
    have s4:tnumF isImm (preB q.bits W (k+1)) 0=tnumF isImm (preB q.bits W k) 0:=s4
    have s5:widF (preB q.bits W (k+1))=widF (preB q.bits W k)+0:=s5
    refine loop_end_weak (k+1) (by omega) (by omega) (weak_le 7 (.bool (fitF (preB q.bits W (k+1)))) ?_) hlen ?_
    ·refine LeD.of_eq (congrArg D.bool ?_)
     rw [s1,hc,Bool.true_and]
    ·(repeat' (first | (refine VS.mk ?_) | exact trivial | exact rfl | refine And.intro ?_ ?_))
     ·refine renM_rows ?_
      refine VS.mk ?_
      rw [s2,s3,s4]
     all_goals first | rfl | (rw [s5];rfl) | (rw [s5];congr 1;omega)
   ·rw [hidx] at *
    have hch:q.bits.getD k 0=48:=char (by assumption)
    rw [hch] at s1 s2 s3 s4 s5
    rw [fit_48] at s1
    rw [imm_48] at s4 s5
    have s2:tnumF (fun c=>c==110) (preB q.bits W (k+1)) 0=tnumF (fun c=>c==110) (preB q.bits W k) 0:=s2
    have s3:tnumF (fun c=>c==109) (preB q.bits W (k+1)) 0=tnumF (fun c=>c==109) (preB q.bits W k) 0:=s3
    have s4:tnumF isImm (preB q.bits W (k+1)) 0=tnumF isImm (preB q.bits W k) 0:=s4
    have s5:widF (preB q.bits W (k+1))=widF (preB q.bits W k)+0:=s5
    refine loop_end_weak (k+1) (by omega) (by omega) (weak_le 7 (.bool (fitF (preB q.bits W (k+1)))) ?_) hlen ?_
    ·exact LeD.ff (by rw [s1,hc];rfl)
    ·(repeat' (first | (refine VS.mk ?_) | exact trivial | exact rfl | refine And.intro ?_ ?_))
     ·refine renM_rows ?_
      refine VS.mk ?_
      rw [s2,s3,s4]
     all_goals first | rfl | (rw [s5];rfl) | (rw [s5];congr 1;omega)
   ·rw [hidx] at *
    have hch:q.bits.getD k 0=49:=char (by assumption)
    rw [hch] at s1 s2 s3 s4 s5
    rw [fit_49] at s1
    rw [imm_49] at s4 s5
    have s2:tnumF (fun c=>c==110) (preB q.bits W (k+1)) 0=tnumF (fun c=>c==110) (preB q.bits W k) 0:=s2
    have s3:tnumF (fun c=>c==109) (preB q.bits W (k+1)) 0=tnumF (fun c=>c==109) (preB q.bits W k) 0:=s3
    have s4:tnumF isImm (preB q.bits W (k+1)) 0=tnumF isImm (preB q.bits W k) 0:=s4
    have s5:widF (preB q.bits W (k+1))=widF (preB q.bits W k)+0:=s5
    refine loop_end_weak (k+1) (by omega) (by omega) (weak_le 7 (.bool (fitF (preB q.bits W (k+1)))) ?_) hlen ?_
    ·refine LeD.of_eq (congrArg D.bool ?_)
     rw [s1,hc,Bool.true_and]
    ·(repeat' (first | (refine VS.mk ?_) | exact trivial | exact rfl | refine And.intro ?_ ?_))
     ·refine renM_rows ?_
      refine VS.mk ?_
      rw [s2,s3,s4]
     all_goals first | rfl | (rw [s5];rfl) | (rw [s5];congr 1;omega)
   ·rw [hidx] at *
    have hch:q.bits.getD k 0=49:=char (by assumption)
    rw [hch] at s1 s2 s3 s4 s5
    rw [fit_49] at s1
    rw [imm_49] at s4 s5
    have s2:tnumF (fun c=>c==110) (preB q.bits W (k+1)) 0=tnumF (fun c=>c==110) (preB q.bits W k) 0:=s2
    have s3:tnumF (fun c=>c==109) (preB q.bits W (k+1)) 0=tnumF (fun c=>c==109) (preB q.bits W k) 0:=s3
    have s4:tnumF isImm (preB q.bits W (k+1)) 0=tnumF isImm (preB q.bits W k) 0:=s4
    have s5:widF (preB q.bits W (k+1))=widF (preB q.bits W k)+0:=s5
    refine loop_end_weak (k+1) (by omega) (by omega) (weak_le 7 (.bool (fitF (preB q.bits W (k+1)))) ?_) hlen ?_
    ·exact LeD.ff (by rw [s1,hc];rfl)
    ·(repeat' (first | (refine VS.mk ?_) | exact trivial | exact rfl | refine And.intro ?_ ?_))
     ·refine renM_rows ?_
      refine VS.mk ?_
      rw [s2,s3,s4]
     all_goals first | rfl | (rw [s5];rfl) | (rw [s5];congr 1;omega)
   ·rw [hidx] at *
    have hch:q.bits.getD k 0=110:=char (by assumption)
    rw [hch] at s1 s2 s3 s4 s5
    rw [fit_110] at s1
    rw [imm_110] at s4 s5
    have s2:tnumF (fun c=>c==110) (preB q.bits W (k+1)) 0=2 * tnumF (fun c=>c==110) (preB q.bits W k) 0+bitW W k:=s2
    have s3:tnumF (fun c=>c==109) (preB q.bits W (k+1)) 0=tnumF (fun c=>c==109) (preB q.bits W k) 0:=s3
    have s4:tnumF isImm (preB q.bits W (k+1)) 0=tnumF isImm (preB q.bits W k) 0:=s4
    have s5:widF (preB q.bits W (k+1))=widF (preB q.bits W k)+0:=s5
    refine loop_end_weak (k+1) (by omega) (by omega) (weak_le 7 (.bool (fitF (preB q.bits W (k+1)))) ?_) hlen ?_
    ·refine LeD.of_eq (congrArg D.bool ?_)
     rw [s1,Bool.and_true]
    ·(repeat' (first | (refine VS.mk ?_) | exact trivial | exact rfl | refine And.intro ?_ ?_))
     ·refine renM_rows ?_
      refine VS.mk ?_
      rw [s2,s3,s4]
     all_goals first | rfl | (rw [s5];rfl) | (rw [s5];congr 1;omega)
   ·rw [hidx] at *
    have hch:q.bits.getD k 0=109:=char (by assumption)
    rw [hch] at s1 s2 s3 s4 s5
    rw [fit_109] at s1
    rw [imm_109] at s4 s5
    have s2:tnumF (fun c=>c==110) (preB q.bits W (k+1)) 0=tnumF (fun c=>c==110) (preB q.bits W k) 0:=s2
    have s3:tnumF (fun c=>c==109) (preB q.bits W (k+1)) 0=2 * tnumF (fun c=>c==109) (preB q.bits W k) 0+bitW W k:=s3
    have s4:tnumF isImm (preB q.bits W (k+1)) 0=tnumF isImm (preB q.bits W k) 0:=s4
    have s5:widF (preB q.bits W (k+1))=widF (preB q.bits W k)+0:=s5
    refine loop_end_weak (k+1) (by omega) (by omega) (weak_le 7 (.bool (fitF (preB q.bits W (k+1)))) ?_) hlen ?_
    ·refine LeD.of_eq (congrArg D.bool ?_)
     rw [s1,Bool.and_true]
    ·(repeat' (first | (refine VS.mk ?_) | exact trivial | exact rfl | refine And.intro ?_ ?_))
     ·refine renM_rows ?_
      refine VS.mk ?_
      rw [s2,s3,s4]
     all_goals first | rfl | (rw [s5];rfl) | (rw [s5];congr 1;omega)
   ·rw [hidx] at *
    have n48:¬ q.bits.getD k 0=48:=fun e=>absurd (by rw [e];rfl) (by assumption:¬ (((q.bits.getD k 0).toNat:Nat):Int)=48)
    have n49:¬ q.bits.getD k 0=49:=fun e=>absurd (by rw [e];rfl) (by assumption:¬ (((q.bits.getD k 0).toNat:Nat):Int)=49)
    have n110:¬ q.bits.getD k 0=110:=fun e=>absurd (by rw [e];rfl) (by assumption:¬ (((q.bits.getD k 0).toNat:Nat):Int)=110)
    have n109:¬ q.bits.getD k 0=109:=fun e=>absurd (by rw [e];rfl) (by assumption:¬ (((q.bits.getD k 0).toNat:Nat):Int)=109)
    obtain ⟨i1,i2,i3,i4⟩:=imm_char n48 n49 n110 n109 (b:=bitW W k)
    rw [i1] at s1
    simp only [i2] at s2
    simp only [i3] at s3
    rw [i4] at s4 s5
    have s2:tnumF (fun c=>c==110) (preB q.bits W (k+1)) 0=tnumF (fun c=>c==110) (preB q.bits W k) 0:=s2
    have s3:tnumF (fun c=>c==109) (preB q.bits W (k+1)) 0=tnumF (fun c=>c==109) (preB q.bits W k) 0:=s3
    have s4:tnumF isImm (preB q.bits W (k+1)) 0=2 * tnumF isImm (preB q.bits W k) 0+bitW W k:=s4
    have s5:widF (preB q.bits W (k+1))=widF (preB q.bits W k)+1:=s5
    refine loop_end_weak (k+1) (by omega) (by omega) (weak_le 7 (.bool (fitF (preB q.bits W (k+1)))) ?_) hlen ?_
    ·refine LeD.of_eq (congrArg D.bool ?_)
     rw [s1,Bool.and_true]
    ·(repeat' (first | (refine VS.mk ?_) | exact trivial | exact rfl | refine And.intro ?_ ?_))
     ·refine renM_rows ?_
      refine VS.mk ?_
      rw [s2,s3,s4]
     all_goals first | rfl | (rw [s5];rfl) | (rw [s5];congr 1;omega)
  ·have hk16:k=16:=by omega
   subst hk16
   have hf:fitsR W r=false:=by rw [← hrd.fits];exact hc
   refine loop_end (m+1) ⟨by omega,no_step hno hr hf⟩ (by omega) ?_
   (repeat' (first | (refine VS.mk ?_) | exact trivial | exact rfl | refine And.intro ?_ ?_))
  have hk16:k=16:=by omega
  subst hk16
  have hf:fitsR W r=true:=by rw [← hrd.fits];exact hc
  obtain ⟨n1,n2⟩:=hrd.num hf
  obtain ⟨i1,i2⟩:=hrd.imm hf
  have hfind:=find_at hr hf hno
  have hd:decI (W:Int)=(insOf W r,0):=by
   unfold decI
   rw [if_neg (by omega)]
   simp only [Int.toNat_natCast,decR,hfind]
  have hqs:q.shape=r.shape:=by
   obtain ⟨q',h1,_,h2,_⟩:=rinfo_some (irow_info r (List.mem_of_getElem? hr))
   rw [hrop,hri] at h1
   cases h1
   exact h2
  have hiop:(insOf W r).op=r.op:=rfl
  clear s1 s2 s3 s4 s5 hb5 hbw hidx
  generalize tnumF isImm (preB q.bits W 16) 0=xi at *
  generalize widF (preB q.bits W 16)=wd at *
  generalize tnumF (fun c=>c==110) (preB q.bits W 16) 0=xn at *
  generalize tnumF (fun c=>c==109) (preB q.bits W 16) 0=xm at *
  have hpw:(2:Int) ^ 16=65536:=rfl
  have fin:∀ v:Int,(insOf W r).imm=v→D.agg [.int .i64 ((m:Int)+1),.int .i64 xn,.int .i64 xm,.int .i64 v]=insD (insOf W r):=by
   intro v hv
   unfold insD
   rw [hiop,hrop,← n1,← n2,hv]
  refine call_p range2_meets q.shape trivial (VS.mk (by (first | exact LeL.refl _ | (repeat' (first | exact LeL.nil | exact LeD.refl _ | exact LeD.nil _ | exact LeD.strip _ _ _ | refine LeL.cons ?_ ?_ | refine LeD.tup ?_ | refine LeD.agg ?_))))) ?_
  rw [hqs]
  rw [show (if r.shape=1∨r.shape=4 then (-128:Int) else if r.shape=5 then -2048 else 0)=lowI r.shape from (low_eq r.shape).symm,show (if r.shape=1∨r.shape=4 then (127:Int) else if r.shape=5 then 2047 else if r.shape=7∨r.shape=8∨r.shape=11 then 255 else 0)=highI r.shape from (high_eq r.shape).symm]
  (all_goals refine qgo ?_<;>(repeat' first | exact trivial | intro hc | refine And.intro ?_ ?_)<;>refine Lf.mk ?_)
  ·have hwd:=i1 hc
   have hpa:=pow_bd (k:=wd - 1) (by omega)
   have hpb:=pow_bd (k:=wd) (by omega)
   refine shl_one (d:=wd - 1) (by omega) (by omega) ?_
   (all_goals refine qgo ?_<;>(repeat' first | exact trivial | intro hc | refine And.intro ?_ ?_)<;>refine Lf.mk ?_)
   ·skip
    refine shl_one (d:=wd) rfl (by omega) ?_
    (all_goals refine qgo (Lf.mk ?_))
    refine end_p (VS.mk (LeD.of_eq ?_))
    rw [hd,fin (xi - 2 ^ wd) (by rw [i2,if_pos ⟨by assumption,hc⟩])]
   ·refine end_p (VS.mk (LeD.of_eq ?_))
    rw [hd,fin xi (by rw [i2,if_neg (fun h=>hc h.2)])]
  ·refine end_p (VS.mk (LeD.of_eq ?_))
   rw [hd,fin xi (by rw [i2,if_neg (fun h=>hc h.1)])]
 ·have hf:=no_end hno (by rw [irows_len];omega)
  have hd:decI (W:Int)=(ins0,12):=by
   unfold decI
   rw [if_neg (by omega)]
   simp only [Int.toNat_natCast,decR,hf]
  refine end_p (VS.mk (LeD.of_eq ?_))
  rw [hd]
  rfl
end Go.Proofs.YtfahnaccpncdpaaDoor
namespace Go.Proofs.YtfahnaccpncdpaaDoor
open Go Go.Plat
set_option linter.unusedVariables false
set_option linter.unusedSimpArgs false
set_option maxRecDepth 100000
set_option maxHeartbeats 2000000
attribute [local irreducible] AWP Arith BitS BytesS CallS CatS DrawS EndS IdxS LookS LoopEnd Meets ModeS NilS NormL NormM QuoS RemS ShlS ShrS SideS SplitS bitI
def preH (s:List UInt8) (h:Nat):List (UInt8×Int):=(List.range 8).map fun j=>(s.getD j 0,(h:Int) / 2 ^ (7 - j) % 2)
def preL (s:List UInt8) (l:Nat):List (UInt8×Int):=(List.range 8).map fun j=>(s.getD (8+j) 0,(l:Int) / 2 ^ (7 - j) % 2)
theorem pre_split (s:List UInt8) (W:Nat):preB s W 16=preH s (W / 256)++preL s (W % 256):=by
 unfold preB preH preL bitW
 have hh:∀ j,j < 8→(W:Int) / 2 ^ (15 - j) % 2=((W / 256:Nat):Int) / 2 ^ (7 - j) % 2:=fun j hj=>by
  match j,hj with
  | 0,_=>simp;omega
  | 1,_=>simp;omega
  | 2,_=>simp;omega
  | 3,_=>simp;omega
  | 4,_=>simp;omega
  | 5,_=>simp;omega
  | 6,_=>simp;omega
  | 7,_=>simp
 have hl:∀ j,j < 8→(W:Int) / 2 ^ (15 - (8+j)) % 2=((W % 256:Nat):Int) / 2 ^ (7 - j) % 2:=fun j hj=>by
  match j,hj with
  | 0,_=>simp;omega
  | 1,_=>simp;omega
  | 2,_=>simp;omega
  | 3,_=>simp;omega
  | 4,_=>simp;omega
  | 5,_=>simp;omega
  | 6,_=>simp;omega
  | 7,_=>simp
 rw [show (16:Nat)=8+8 from rfl,List.range_add,List.map_append,List.map_map]
 congr 1
 ·apply List.map_congr_left
  intro j hj
  rw [hh j (by simpa using hj)]
 ·apply List.map_congr_left
  intro j hj
  simp only [Function.comp_apply]
  rw [hl j (by simpa using hj)]
def isFar (s:Nat):Bool:=s==5
def isNear (s:Nat):Bool:=s==1 || s==4 || s==7 || s==8 || s==11
def chkH (p:Nat×Nat×Nat) (s:List UInt8) (h:Nat):Bool:=
 (fitF (preH s h)==Nat.beq (h &&& (p.2.1 / 256)) (p.2.2 / 256)) &&
 decide (tnumF (fun c=>c==110) (preH s h) 0=if uses1 p.1=true then ((h % 16:Nat):Int) else 0) &&
 decide (tnumF (fun c=>c==109) (preH s h) 0=0) &&
 decide (tnumF isImm (preH s h) 0=if isFar p.1=true then ((h % 16:Nat):Int) else 0) &&
 decide (widF (preH s h)=if isFar p.1=true then 4 else 0)
def chkL (p:Nat×Nat×Nat) (s:List UInt8) (l:Nat):Bool:=
 (fitF (preL s l)==Nat.beq (l &&& (p.2.1 % 256)) (p.2.2 % 256)) &&
 decide (tnumF (fun c=>c==109) (preL s l) 0=if uses2 p.1=true then ((l / 16:Nat):Int) else 0) &&
 (match isFar p.1 with
   | true=>allB (fun x=>decide (tnumF isImm (preL s l) (x:Int)=(x:Int) * 256+(l:Int))) 16
   | false=>decide (tnumF isImm (preL s l) 0=if isNear p.1=true then (l:Int) else 0)) &&
 decide (widF (preL s l)=if isFar p.1=true∨isNear p.1=true then 8 else 0)
def chkD (p:Nat×Nat×Nat) (s:List UInt8):Bool:=
 allB (chkH p s) 256 && allB (chkL p s) 256 && (s.drop 8).all (fun c=>!(c==110))
def rowD (j:Nat):Bool:=match rowsB[j]? with | some p=>(match rrows[j]? with | some q=>chkD p q.bits | none=>false) | none=>false
theorem rowD_0:rowD 0=true:=by kernel_rfl
theorem rowD_1:rowD 1=true:=by kernel_rfl
theorem rowD_2:rowD 2=true:=by kernel_rfl
theorem rowD_3:rowD 3=true:=by kernel_rfl
theorem rowD_4:rowD 4=true:=by kernel_rfl
theorem rowD_5:rowD 5=true:=by kernel_rfl
theorem rowD_6:rowD 6=true:=by kernel_rfl
theorem rowD_7:rowD 7=true:=by kernel_rfl
theorem rowD_8:rowD 8=true:=by kernel_rfl
theorem rowD_9:rowD 9=true:=by kernel_rfl
theorem rowD_10:rowD 10=true:=by kernel_rfl
theorem rowD_11:rowD 11=true:=by kernel_rfl
theorem rowD_12:rowD 12=true:=by kernel_rfl
theorem rowD_13:rowD 13=true:=by kernel_rfl
theorem rowD_14:rowD 14=true:=by kernel_rfl
theorem rowD_15:rowD 15=true:=by kernel_rfl
theorem rowD_16:rowD 16=true:=by kernel_rfl
theorem rowD_17:rowD 17=true:=by kernel_rfl
theorem rowD_18:rowD 18=true:=by kernel_rfl
theorem rowD_19:rowD 19=true:=by kernel_rfl
theorem rowD_20:rowD 20=true:=by kernel_rfl
theorem rowD_21:rowD 21=true:=by kernel_rfl
theorem rowD_22:rowD 22=true:=by kernel_rfl
theorem rowD_23:rowD 23=true:=by kernel_rfl
theorem rowD_24:rowD 24=true:=by kernel_rfl
theorem rowD_25:rowD 25=true:=by kernel_rfl
theorem rowD_26:rowD 26=true:=by kernel_rfl
attribute [local irreducible] allB decR fitF highI infoR irows isImm lowI preB preH preL rinfo rowsB rrows signedI tnumF widF
theorem rowD_all (j:Nat) (hj:j < 27):rowD j=true:=by
 have h:j=0∨j=1∨j=2∨j=3∨j=4∨j=5∨j=6∨j=7∨j=8∨j=9∨j=10∨j=11∨j=12∨j=13∨j=14∨j=15∨j=16∨j=17∨j=18∨j=19∨j=20∨j=21∨j=22∨j=23∨j=24∨j=25∨j=26:=by omega
 rcases h with rfl | rfl | rfl | rfl | rfl | rfl | rfl | rfl | rfl | rfl | rfl | rfl | rfl | rfl | rfl | rfl | rfl | rfl | rfl | rfl | rfl | rfl | rfl | rfl | rfl | rfl | rfl
 ·exact rowD_0
 ·exact rowD_1
 ·exact rowD_2
 ·exact rowD_3
 ·exact rowD_4
 ·exact rowD_5
 ·exact rowD_6
 ·exact rowD_7
 ·exact rowD_8
 ·exact rowD_9
 ·exact rowD_10
 ·exact rowD_11
 ·exact rowD_12
 ·exact rowD_13
 ·exact rowD_14
 ·exact rowD_15
 ·exact rowD_16
 ·exact rowD_17
 ·exact rowD_18
 ·exact rowD_19
 ·exact rowD_20
 ·exact rowD_21
 ·exact rowD_22
 ·exact rowD_23
 ·exact rowD_24
 ·exact rowD_25
 ·exact rowD_26
theorem row_chkD {r:IRow} {q:RRow} {j:Nat} (hj:irows[j]?=some r) (hq:rrows[j]?=some q):chkD (toB r) q.bits=true:=by
 have hjl:j < 27:=by have:=(List.getElem?_eq_some_iff.1 hj).1;rwa [irows_len] at this
 have h:=rowD_all j hjl
 unfold rowD at h
 rw [← rowsB_eq,List.getElem?_map,hj,hq] at h
 exact h
end Go.Proofs.YtfahnaccpncdpaaDoor
namespace Go.Proofs.YtfahnaccpncdpaaDoor
open Go Go.Plat
set_option linter.unusedVariables false
set_option linter.unusedSimpArgs false
set_option maxRecDepth 100000
set_option maxHeartbeats 2000000
attribute [local irreducible] AWP Arith BitS BytesS CallS CatS DrawS EndS IdxS LookS LoopEnd Meets ModeS NilS NormL NormM QuoS RemS ShlS ShrS SideS SplitS bitI
theorem fitF_app (a b:List (UInt8×Int)):fitF (a++b)=(fitF a && fitF b):=by unfold fitF;exact List.all_append
theorem numF_app (f:UInt8→Bool) (a b:List (UInt8×Int)) (x:Int):tnumF f (a++b) x=tnumF f b (tnumF f a x):=by unfold tnumF;exact List.foldl_append
theorem widF_app (a b:List (UInt8×Int)):widF (a++b)=widF a+widF b:=by unfold widF;rw [List.filter_append,List.length_append]
theorem numF_id (f:UInt8→Bool):∀ (l:List (UInt8×Int)) (x:Int),(∀ p∈l,f p.1=false)→tnumF f l x=x
 | [],x,_=>rfl
 | p::l,x,h=>by
  have h0:=h p (by simp)
  show tnumF f l (match f p.1 with | true=>2 * x+p.2 | false=>x)=x
  rw [h0]
  exact numF_id f l x fun q hq=>h q (by simp [hq])
theorem preL_char {s:List UInt8} {l:Nat} {p:UInt8×Int} (hs:s.length=16) (h:p∈preL s l):p.1∈s.drop 8:=by
 unfold preL at h
 obtain ⟨j,hj,rfl⟩:=List.mem_map.1 h
 have hj:j < 8:=by simpa using hj
 rw [List.getD_eq_getElem?_getD,List.getElem?_eq_getElem (by omega)]
 simp only [Option.getD_some]
 have:(s.drop 8)[j]'(by simp;omega)=s[8+j]:=List.getElem_drop ..
 rw [← this]
 exact List.getElem_mem _
theorem and_halves {W m b:Nat} (hW:W < 65536) (hm:m < 65536) (hb:b < 65536):(W &&& m)=b↔((W / 256) &&& (m / 256))=b / 256∧((W % 256) &&& (m % 256))=b % 256:=by
 have h1:(W &&& m) % 2 ^ 8=(W % 2 ^ 8) &&& (m % 2 ^ 8):=Nat.and_mod_two_pow ..
 have h2:(W &&& m) / 2 ^ 8=(W / 2 ^ 8) &&& (m / 2 ^ 8):=Nat.and_div_two_pow ..
 have e:(2:Nat) ^ 8=256:=rfl
 rw [e] at h1 h2
 rw [← h1,← h2]
 omega
attribute [local irreducible] rrows irows rowsB infoR rinfo decR fitF tnumF widF preH preL preB isImm allB
theorem row_dec {W:Nat} {r:IRow} {q:RRow} (hW:W < 65536) (hm:r∈irows) (hqm:q.bits.length=16) (hc:chkD (toB r) q.bits=true):RowDec W r q:=by
 simp only [chkD,Bool.and_eq_true] at hc
 obtain ⟨⟨c1,c2⟩,c3⟩:=hc
 have d1:=allB_at c1 (W / 256) (by omega)
 have d2:=allB_at c2 (W % 256) (by omega)
 simp only [chkH,chkL,Bool.and_eq_true,beq_iff_eq] at d1 d2
 obtain ⟨⟨⟨⟨h1,h2⟩,h3⟩,h4⟩,h5⟩:=d1
 obtain ⟨⟨⟨l1,l2⟩,l3⟩,l4⟩:=d2
 obtain ⟨_,b2,b3⟩:=irow_bits r hm
 have hmb:=mask_bd r.shape
 have hn:∀ x,tnumF (fun c=>c==110) (preL q.bits (W % 256)) x=x:=fun x=>numF_id _ _ _ fun p hp=>by
  have:=List.all_eq_true.1 c3 p.1 (preL_char hqm hp)
  simpa using this
 have hsn:((r.shape.toNat:Nat):Int)=r.shape:=by
  have:=irow_shape r hm
  omega
 have hsn:(((toB r).1:Nat):Int)=r.shape:=hsn
 have h2:=of_decide_eq_true h2
 have h3:=of_decide_eq_true h3
 have h4:=of_decide_eq_true h4
 have h5:=of_decide_eq_true h5
 have l2:=of_decide_eq_true l2
 have l4:=of_decide_eq_true l4
 simp only [hsn] at h2 l2
 have hs1:(toB r).1=r.shape.toNat:=rfl
 have hs2:(toB r).2.1=(maskI r.shape).toNat:=rfl
 have hs3:(toB r).2.2=r.bits.toNat:=rfl
 simp only [hs1,hs2,hs3] at h1 h4 h5 l1 l3 l4
 have efit:fitF (preB q.bits W 16)=fitsR W r:=by
  rw [pre_split,fitF_app,h1,l1]
  unfold fitsR
  rw [Bool.eq_iff_iff,Bool.and_eq_true]
  have hh:=and_halves (W:=W) (m:=(maskI r.shape).toNat) (b:=r.bits.toNat) hW (by omega) (by omega)
  constructor
  ·rintro ⟨ha,hb⟩
   have h:=hh.2 ⟨Nat.eq_of_beq_eq_true ha,Nat.eq_of_beq_eq_true hb⟩
   rw [h,Int.toNat_of_nonneg b2]
   exact beq_self_eq_true _
  ·intro h
   have h:=LawfulBEq.eq_of_beq h
   obtain ⟨ha,hb⟩:=hh.1 (by omega)
   exact ⟨by rw [ha];exact Nat.beq_refl _,by rw [hb];exact Nat.beq_refl _⟩
 have enum:tnumF (fun c=>c==110) (preB q.bits W 16) 0=(insOf W r).n:=by
  rw [pre_split,numF_app,hn,h2]
  show _=if uses1 r.shape=true then (W:Int) / 256 % 16 else 0
  split<;>omega
 have emum:tnumF (fun c=>c==109) (preB q.bits W 16) 0=(insOf W r).m:=by
  rw [pre_split,numF_app,h3,l2]
  show _=if uses2 r.shape=true then (W:Int) / 16 % 16 else 0
  split<;>omega
 have ewid:widF (preB q.bits W 16)=(if isFar r.shape.toNat=true then 4 else 0)+(if isFar r.shape.toNat=true∨isNear r.shape.toNat=true then 8 else 0):=by
  rw [pre_split,widF_app,h5,l4]
 have eimm:tnumF isImm (preB q.bits W 16) 0=if r.shape=5 then (W:Int) % 4096 else if isNear r.shape.toNat=true then (W:Int) % 256 else 0:=by
  rw [pre_split,numF_app,h4]
  cases hf:isFar r.shape.toNat with
  | true=>
   rw [hf] at l3
   have hs5:r.shape=5:=by
    unfold isFar at hf
    have:=LawfulBEq.eq_of_beq hf
    omega
   have:=of_decide_eq_true (allB_at l3 (W / 256 % 16) (by omega))
   rw [if_pos rfl,this,if_pos hs5]
   omega
  | false=>
   rw [hf] at l3
   have hs5:¬ r.shape=5:=by
    intro e
    rw [e] at hf
    exact absurd hf (by decide)
   have:=of_decide_eq_true l3
   rw [if_neg (by decide),this,if_neg hs5]
   split<;>omega
 refine ⟨efit,fun _=>⟨enum,emum⟩,fun _=>?_⟩
 show _∧immOf W r.shape=_
 have hsh:=irow_shape r hm
 rcases hsh with hs | ⟨hs,hb⟩ | ⟨hs,hb⟩ | ⟨hs,hb⟩ | ⟨hs,hb⟩ | ⟨hs,hb⟩
 ·have a1:isFar r.shape.toNat=false:=by rw [hs];rfl
  have a2:isNear r.shape.toNat=false:=by rw [hs];rfl
  have a3:lowI r.shape=0:=by rw [hs];rfl
  simp only [a1,a2] at ewid eimm
  have ew:widF (preB q.bits W 16)=0:=ewid
  have ei:tnumF isImm (preB q.bits W 16) 0=0:=by rw [eimm,if_neg (by omega)];rfl
  rw [ew,ei,a3]
  refine ⟨fun h=>absurd h (by decide),?_⟩
  unfold immOf
  rw [if_neg (by omega),if_neg (by omega),if_neg (by omega),if_neg (by omega)]
 ·rcases hs with hs | hs | hs
  ·have a1:isFar r.shape.toNat=false:=by rw [hs];rfl
   have a2:isNear r.shape.toNat=true:=by rw [hs];rfl
   have a3:lowI r.shape= -128:=by rw [hs];rfl
   simp only [a1,a2] at ewid eimm
   have ew:widF (preB q.bits W 16)=8:=ewid
   have ei:tnumF isImm (preB q.bits W 16) 0=(W:Int) % 256:=by rw [eimm,if_neg (by omega)];rfl
   rw [ew,ei,a3]
   refine ⟨fun h=>by decide,?_⟩
   unfold immOf
   rw [if_pos (by omega),signed8,show (2:Int) ^ (8 - 1)=128 from rfl,show (2:Int) ^ 8=256 from rfl]
   split<;>split<;>omega
  ·have a1:isFar r.shape.toNat=false:=by rw [hs];rfl
   have a2:isNear r.shape.toNat=true:=by rw [hs];rfl
   have a3:lowI r.shape=0:=by rw [hs];rfl
   simp only [a1,a2] at ewid eimm
   have ew:widF (preB q.bits W 16)=8:=ewid
   have ei:tnumF isImm (preB q.bits W 16) 0=(W:Int) % 256:=by rw [eimm,if_neg (by omega)];rfl
   rw [ew,ei,a3]
   refine ⟨fun h=>absurd h (by decide),?_⟩
   unfold immOf
   rw [if_neg (by omega),if_neg (by omega),if_pos (by omega),if_neg (by omega)]
  ·have a1:isFar r.shape.toNat=false:=by rw [hs];rfl
   have a2:isNear r.shape.toNat=true:=by rw [hs];rfl
   have a3:lowI r.shape=0:=by rw [hs];rfl
   simp only [a1,a2] at ewid eimm
   have ew:widF (preB q.bits W 16)=8:=ewid
   have ei:tnumF isImm (preB q.bits W 16) 0=(W:Int) % 256:=by rw [eimm,if_neg (by omega)];rfl
   rw [ew,ei,a3]
   refine ⟨fun h=>absurd h (by decide),?_⟩
   unfold immOf
   rw [if_neg (by omega),if_neg (by omega),if_pos (by omega),if_neg (by omega)]
 ·rcases hs with hs | hs | hs
  ·have a1:isFar r.shape.toNat=false:=by rw [hs];rfl
   have a2:isNear r.shape.toNat=false:=by rw [hs];rfl
   have a3:lowI r.shape=0:=by rw [hs];rfl
   simp only [a1,a2] at ewid eimm
   have ew:widF (preB q.bits W 16)=0:=ewid
   have ei:tnumF isImm (preB q.bits W 16) 0=0:=by rw [eimm,if_neg (by omega)];rfl
   rw [ew,ei,a3]
   refine ⟨fun h=>absurd h (by decide),?_⟩
   unfold immOf
   rw [if_neg (by omega),if_neg (by omega),if_neg (by omega),if_neg (by omega)]
  ·have a1:isFar r.shape.toNat=false:=by rw [hs];rfl
   have a2:isNear r.shape.toNat=false:=by rw [hs];rfl
   have a3:lowI r.shape=0:=by rw [hs];rfl
   simp only [a1,a2] at ewid eimm
   have ew:widF (preB q.bits W 16)=0:=ewid
   have ei:tnumF isImm (preB q.bits W 16) 0=0:=by rw [eimm,if_neg (by omega)];rfl
   rw [ew,ei,a3]
   refine ⟨fun h=>absurd h (by decide),?_⟩
   unfold immOf
   rw [if_neg (by omega),if_neg (by omega),if_neg (by omega),if_neg (by omega)]
  ·have a1:isFar r.shape.toNat=false:=by rw [hs];rfl
   have a2:isNear r.shape.toNat=false:=by rw [hs];rfl
   have a3:lowI r.shape=0:=by rw [hs];rfl
   simp only [a1,a2] at ewid eimm
   have ew:widF (preB q.bits W 16)=0:=ewid
   have ei:tnumF isImm (preB q.bits W 16) 0=0:=by rw [eimm,if_neg (by omega)];rfl
   rw [ew,ei,a3]
   refine ⟨fun h=>absurd h (by decide),?_⟩
   unfold immOf
   rw [if_neg (by omega),if_neg (by omega),if_neg (by omega),if_neg (by omega)]
 ·rcases hs with hs | hs
  ·have a1:isFar r.shape.toNat=false:=by rw [hs];rfl
   have a2:isNear r.shape.toNat=false:=by rw [hs];rfl
   have a3:lowI r.shape=0:=by rw [hs];rfl
   simp only [a1,a2] at ewid eimm
   have ew:widF (preB q.bits W 16)=0:=ewid
   have ei:tnumF isImm (preB q.bits W 16) 0=0:=by rw [eimm,if_neg (by omega)];rfl
   rw [ew,ei,a3]
   refine ⟨fun h=>absurd h (by decide),?_⟩
   unfold immOf
   rw [if_neg (by omega),if_neg (by omega),if_neg (by omega),if_neg (by omega)]
  ·have a1:isFar r.shape.toNat=false:=by rw [hs];rfl
   have a2:isNear r.shape.toNat=false:=by rw [hs];rfl
   have a3:lowI r.shape=0:=by rw [hs];rfl
   simp only [a1,a2] at ewid eimm
   have ew:widF (preB q.bits W 16)=0:=ewid
   have ei:tnumF isImm (preB q.bits W 16) 0=0:=by rw [eimm,if_neg (by omega)];rfl
   rw [ew,ei,a3]
   refine ⟨fun h=>absurd h (by decide),?_⟩
   unfold immOf
   rw [if_neg (by omega),if_neg (by omega),if_neg (by omega),if_neg (by omega)]
 ·rcases hs with hs | hs
  ·have a1:isFar r.shape.toNat=false:=by rw [hs];rfl
   have a2:isNear r.shape.toNat=true:=by rw [hs];rfl
   have a3:lowI r.shape= -128:=by rw [hs];rfl
   simp only [a1,a2] at ewid eimm
   have ew:widF (preB q.bits W 16)=8:=ewid
   have ei:tnumF isImm (preB q.bits W 16) 0=(W:Int) % 256:=by rw [eimm,if_neg (by omega)];rfl
   rw [ew,ei,a3]
   refine ⟨fun h=>by decide,?_⟩
   unfold immOf
   rw [if_pos (by omega),signed8,show (2:Int) ^ (8 - 1)=128 from rfl,show (2:Int) ^ 8=256 from rfl]
   split<;>split<;>omega
  ·have a1:isFar r.shape.toNat=false:=by rw [hs];rfl
   have a2:isNear r.shape.toNat=true:=by rw [hs];rfl
   have a3:lowI r.shape=0:=by rw [hs];rfl
   simp only [a1,a2] at ewid eimm
   have ew:widF (preB q.bits W 16)=8:=ewid
   have ei:tnumF isImm (preB q.bits W 16) 0=(W:Int) % 256:=by rw [eimm,if_neg (by omega)];rfl
   rw [ew,ei,a3]
   refine ⟨fun h=>absurd h (by decide),?_⟩
   unfold immOf
   rw [if_neg (by omega),if_neg (by omega),if_pos (by omega),if_neg (by omega)]
 ·have a1:isFar r.shape.toNat=true:=by rw [hs];rfl
  have a2:isNear r.shape.toNat=false:=by rw [hs];rfl
  have a3:lowI r.shape= -2048:=by rw [hs];rfl
  simp only [a1,a2] at ewid eimm
  have ew:widF (preB q.bits W 16)=12:=ewid
  have ei:tnumF isImm (preB q.bits W 16) 0=(W:Int) % 4096:=by rw [eimm,if_pos hs]
  rw [ew,ei,a3]
  refine ⟨fun h=>by decide,?_⟩
  unfold immOf
  rw [if_neg (by omega),if_pos hs,signed12,show (2:Int) ^ (12 - 1)=2048 from rfl,show (2:Int) ^ 12=4096 from rfl]
  split<;>split<;>omega
end Go.Proofs.YtfahnaccpncdpaaDoor
namespace Go.Proofs.YtfahnaccpncdpaaDoor
open Go Go.Plat
set_option linter.unusedVariables false
set_option linter.unusedSimpArgs false
set_option maxRecDepth 100000
set_option maxHeartbeats 2000000
attribute [local irreducible] AWP Arith BitS BytesS CallS CatS DrawS EndS IdxS LookS LoopEnd Meets ModeS NilS NormL NormM QuoS RemS ShlS ShrS SideS SplitS allB bitI decR infoR irows rinfo rowsB rrows
theorem rdecode:Meets Tryd.prog n_plref1_Decode (SpecP (fun _:Int=>True) (fun w=>[.int .i64 w]) fun w=>.tup [insD (decI w).1,.int .i64 (decI w).2]):=
 rdecode_meets fun W j r q hW hj hq=>row_dec hW (List.mem_of_getElem? hj) (rbits_len q (List.mem_of_getElem? hq)) (row_chkD hj hq)
end Go.Proofs.YtfahnaccpncdpaaDoor
namespace Go.Proofs.YtfahnaccpncdpaaDoor
open Go Go.Plat
set_option linter.unusedVariables false
set_option linter.unusedSimpArgs false
set_option maxRecDepth 100000
set_option maxHeartbeats 2000000
attribute [local irreducible] AWP Arith BitS BytesS CallS CatS DrawS EndS IdxS LookS LoopEnd Meets ModeS NilS NormL NormM QuoS RemS ShlS ShrS SideS SplitS bitI decI getN infoR irows rinfo rrows shapeM signedI
def ldM (i:Ins):Bool:=decide (shapeM i.op=4∨shapeM i.op=5∨shapeM i.op=7∨shapeM i.op=8)
theorem shape_some {op:Int} {r:IRow} (h:infoR op=some r):shapeM op=r.shape:=by unfold shapeM;rw [h]
theorem shape_none {op:Int} (h:infoR op=none):shapeM op=0:=by unfold shapeM;rw [h]
theorem info_shape (op:Int):∃ s,infoD op= .tup [.str s,.int .i64 (shapeM op)]:=by
 unfold infoD
 cases h:infoR op with
 | none=>exact ⟨[],by rw [shape_none h]⟩
 | some r=>exact ⟨r.name,by rw [shape_some h]⟩
theorem bit_clear {n:Int} (h1: -4611686018427387904≤n) (h2:n≤4611686018427387904) {K:D→Prop} (h:K (.int .i64 (n - n % 4))):BitS .andNot .i64 n 3 K:=by
 unfold BitS;rw [clear3 h1 h2];exact h
theorem rem_sgn {n:Int} {K:D→Prop} (h:∀ r, -4 < r→r < 4→(n - r) % 4=0→(0≤n→0≤r)→K (.int .i64 r)):RemS .i64 n 4 K:=by
 unfold RemS
 refine ⟨by decide,h _ ?_ ?_ ?_ ?_⟩
 all_goals
  rcases Int.le_total 0 n with hn | hn
  ·rw [Int.tmod_eq_emod_of_nonneg hn];omega
  ·have e:n.tmod 4= - ((-n) % 4):=by
    rw [← Int.tmod_eq_emod_of_nonneg (show 0≤-n by omega),Int.neg_tmod,Int.neg_neg]
   rw [e];omega
theorem to_meets:Meets Tryd.prog n_dis_To (SpecP (fun ((i,at_):Ins×Int)=>-4096≤i.imm∧i.imm≤4096∧-4000000000000≤at_∧at_≤4000000000000) (fun (i,at_)=>[insD i,.int .i64 at_]) fun (i,at_)=>.tup [.int .i64 (toM i at_),.bool (ldM i)]):=by
 refine meets_f tabOk Tryd.func7 rfl (by decide) ?_
 rintro ⟨i,at_⟩ ⟨h1,h2,h3,h4⟩
 refine ⟨Nat.le_refl _,by simp [Tryd.f7],fun E hE=>?_⟩
 refine vcOk _ ?_
 (all_goals refine qgv (Lf.mk ?_))
 refine call_p info_meets i.op trivial (VS.mk (LeL.of_eq rfl)) ?_
 obtain ⟨s,hs⟩:=info_shape i.op
 rw [hs]
 (all_goals refine qgv ?_<;>(repeat' first | exact trivial | intro hc | refine And.intro ?_ ?_)<;>refine Lf.mk ?_)
 any_goals (refine bit_clear (by omega) (by omega) ?_)
 (all_goals refine qgv (Lf.mk ?_))
 all_goals (refine end_p (VS.mk (LeD.tup (.cons (LeD.of_eq (congrArg (D.int .i64) ?_)) (.cons ?_ .nil)))))
 all_goals first
  | exact LeD.tt (decide_eq_true (by omega))
  | exact LeD.ff (decide_eq_false (by omega))
  | (unfold toM;rw [if_pos (by omega)];done)
  | (unfold toM;rw [if_neg (by omega),if_pos (by omega)];done)
  | (unfold toM;rw [if_neg (by omega),if_neg (by omega)];done)
theorem rto_meets:Meets Tryd.prog n_plref6_To (SpecP (fun ((i,at_):Ins×Int)=>-4096≤i.imm∧i.imm≤4096∧-4000000000000≤at_∧at_≤4000000000000) (fun (i,at_)=>[insD i,.int .i64 at_]) fun (i,at_)=>.tup [.int .i64 (toM i at_),.bool (ldM i)]):=by
 refine meets_f tabOk Tryd.func8 rfl (by decide) ?_
 rintro ⟨i,at_⟩ ⟨h1,h2,h3,h4⟩
 refine ⟨Nat.le_refl _,by simp [Tryd.f8],fun E hE=>?_⟩
 refine vcOk _ ?_
 (all_goals refine qgv ?_<;>(repeat' first | exact trivial | intro hc | refine And.intro ?_ ?_)<;>refine Lf.mk ?_)
 refine call_f rrows_meets [] [1] () trivial rfl rfl ?_
 refine And.intro (VS.mk (LeL.refl _)) (And.intro (VS.mk rfl) ?_)
 (all_goals refine qgv ?_<;>(repeat' first | exact trivial | intro hc | refine And.intro ?_ ?_)<;>refine Lf.mk ?_)
 refine renM_rows ?_
 (all_goals refine qgv ?_<;>(repeat' first | exact trivial | intro hc | refine And.intro ?_ ?_)<;>refine Lf.mk ?_)
 have hs:∃ g,getM (.int .i64 i.op) rrowsM=g∧(g=none∧shapeM i.op=0∨∃ q:RRow,g=some (rrowD q)∧q.shape=shapeM i.op):=by
  cases hi:infoR i.op with
  | none=>exact ⟨none,by rw [getM_rows,rinfo_none hi];rfl,.inl ⟨rfl,shape_none hi⟩⟩
  | some r=>
   obtain ⟨q,hq,q1,q2,q3,q4⟩:=rinfo_some hi
   exact ⟨some (rrowD q),by rw [getM_rows,hq];rfl,.inr ⟨q,rfl,by rw [q2,shape_some hi]⟩⟩
 obtain ⟨g,hg,⟨rfl,h0⟩ | ⟨q,rfl,hq⟩⟩:=hs
 ·(repeat' (first | (refine lk_none hg ?_) | (refine lk_some hg ?_) | (refine rem_sgn fun r hr1 hr2 hr3 hr4=>?_) | (refine VS.mk ?_) | (refine dr_mk ?_) | (refine md_l (sd_mk (by decide) ?_)) | (refine md_r (sd_mk ⟨by omega,by omega⟩ ?_)) | (refine md_l ?_) | ((first | refine sp_not_dec ?_ ?_ | refine sp_dec ?_ ?_ | refine sp_beq ?_ ?_ | refine sp_bne ?_ ?_ | refine sp_seq ?_ ?_ | refine sp_sne ?_ ?_ | refine sp_not ?_ ?_ | refine sp_any ?_ ?_)<;>(intro hc;(try simp only [List.length_map,List.length_append,List.length_cons,List.length_nil,Bool.and_true,Bool.and_eq_true,beq_iff_eq,Bool.and_eq_false_iff,beq_eq_false_iff_ne,Bool.true_and,ne_eq] at hc);(try (exfalso;omega)))) | (refine reg_ix (by omega) (by omega) ?_) | (refine sd_reg (by omega) (by omega) rfl ?_) | (refine reg_set (by omega) (by omega) ?_) | (with_reducible first | refine norm_one ?_ | refine norm_app ?_ | refine norm_cutEnd ?_ | refine norm_cut ?_ | refine norm_bytes1 ?_ | refine norm_bytes2 ?_ | refine norm_setByte ?_ | refine norm_int1 ?_ | refine norm_mk ?_) | (with_reducible refine bytes_mk ?_) | (refine ar_byte ?_) | (refine ar_i64 (by omega) (by omega) ?_) | (refine ar_low ?_) | (refine ix_byteN (by omega) ?_) | (refine ix_byteK (by simp only [Int.reduceToNat];exact rfl) (by decide) (by omega) ?_) | (refine ix_byte (by omega) (by omega) ?_) | (refine ix_rfl (by decide) rfl ?_) | (refine sd_mk rfl ?_) | (refine sd_mk (by decide +kernel) ?_) | (refine sd_mk (by first | (simp only [List.length_map,List.length_append,List.length_cons,List.length_nil];done) | ((try simp only [List.length_map,List.length_append,List.length_cons,List.length_nil,List.length_set,List.length_replicate,List.length_drop,List.length_take,true_and,and_true]);omega) | (dsimp only;omega)) ?_) | (first | refine shl8 (by omega) (by omega) ?_ | refine shl4 (by omega) (by omega) ?_ | refine shl1 (by omega) (by omega) ?_ | refine shl16 (by omega) (by omega) ?_ | refine shl24 (by omega) (by omega) ?_ | refine shr8 (by decide) ?_ | refine shr4 (by decide) ?_ | refine shr1 (by decide) ?_ | refine shr16 (by decide) ?_ | refine shr24 (by decide) ?_) | (with_reducible first | refine bit_mk and_1 ?_ | refine bit_mk and_15 ?_ | refine bit_mk and_255 ?_ | refine bit_mk and_4095 ?_ | refine bit_mk and_65535 ?_) | (refine quo_pos (by omega) (by omega) (by omega) ?_) | (refine rem_pos (by omega) (by omega) ?_)))
  refine end_p (VS.mk (LeD.tup (.cons (LeD.of_eq (congrArg (D.int .i64) ?_)) (.cons (LeD.ff (decide_eq_false (by omega))) .nil))))
  unfold toM
  rw [if_neg (by omega),if_neg (by omega)]
 ·(repeat' (first | (refine lk_none hg ?_) | (refine lk_some hg ?_) | (refine rem_sgn fun r hr1 hr2 hr3 hr4=>?_) | (refine VS.mk ?_) | (refine dr_mk ?_) | (refine md_l (sd_mk (by decide) ?_)) | (refine md_r (sd_mk ⟨by omega,by omega⟩ ?_)) | (refine md_l ?_) | ((first | refine sp_not_dec ?_ ?_ | refine sp_dec ?_ ?_ | refine sp_beq ?_ ?_ | refine sp_bne ?_ ?_ | refine sp_seq ?_ ?_ | refine sp_sne ?_ ?_ | refine sp_not ?_ ?_ | refine sp_any ?_ ?_)<;>(intro hc;(try simp only [List.length_map,List.length_append,List.length_cons,List.length_nil,Bool.and_true,Bool.and_eq_true,beq_iff_eq,Bool.and_eq_false_iff,beq_eq_false_iff_ne,Bool.true_and,ne_eq] at hc);(try (exfalso;omega)))) | (refine reg_ix (by omega) (by omega) ?_) | (refine sd_reg (by omega) (by omega) rfl ?_) | (refine reg_set (by omega) (by omega) ?_) | (with_reducible first | refine norm_one ?_ | refine norm_app ?_ | refine norm_cutEnd ?_ | refine norm_cut ?_ | refine norm_bytes1 ?_ | refine norm_bytes2 ?_ | refine norm_setByte ?_ | refine norm_int1 ?_ | refine norm_mk ?_) | (with_reducible refine bytes_mk ?_) | (refine ar_byte ?_) | (refine ar_i64 (by omega) (by omega) ?_) | (refine ar_low ?_) | (refine ix_byteN (by omega) ?_) | (refine ix_byteK (by simp only [Int.reduceToNat];exact rfl) (by decide) (by omega) ?_) | (refine ix_byte (by omega) (by omega) ?_) | (refine ix_rfl (by decide) rfl ?_) | (refine sd_mk rfl ?_) | (refine sd_mk (by decide +kernel) ?_) | (refine sd_mk (by first | (simp only [List.length_map,List.length_append,List.length_cons,List.length_nil];done) | ((try simp only [List.length_map,List.length_append,List.length_cons,List.length_nil,List.length_set,List.length_replicate,List.length_drop,List.length_take,true_and,and_true]);omega) | (dsimp only;omega)) ?_) | (first | refine shl8 (by omega) (by omega) ?_ | refine shl4 (by omega) (by omega) ?_ | refine shl1 (by omega) (by omega) ?_ | refine shl16 (by omega) (by omega) ?_ | refine shl24 (by omega) (by omega) ?_ | refine shr8 (by decide) ?_ | refine shr4 (by decide) ?_ | refine shr1 (by decide) ?_ | refine shr16 (by decide) ?_ | refine shr24 (by decide) ?_) | (with_reducible first | refine bit_mk and_1 ?_ | refine bit_mk and_15 ?_ | refine bit_mk and_255 ?_ | refine bit_mk and_4095 ?_ | refine bit_mk and_65535 ?_) | (refine quo_pos (by omega) (by omega) (by omega) ?_) | (refine rem_pos (by omega) (by omega) ?_)))
  all_goals (refine end_p (VS.mk (LeD.tup (.cons (LeD.of_eq (congrArg (D.int .i64) ?_)) (.cons ?_ .nil)))))
  all_goals first
   | exact LeD.tt (decide_eq_true (by omega))
   | exact LeD.ff (decide_eq_false (by omega))
   | (unfold toM;rw [if_pos (by omega)];omega)
   | (unfold toM;rw [if_neg (by omega),if_pos (by omega)];omega)
   | (unfold toM;rw [if_neg (by omega),if_neg (by omega)];done)
end Go.Proofs.YtfahnaccpncdpaaDoor
namespace Go.Proofs.YtfahnaccpncdpaaDoor
open Go Go.Plat
set_option linter.unusedVariables false
set_option linter.unusedSimpArgs false
set_option maxRecDepth 100000
set_option maxHeartbeats 2000000
attribute [local irreducible] AWP Arith BitS BytesS CallS CatS DrawS EndS IdxS LookS LoopEnd Meets ModeS NilS NormL NormM QuoS RemS ShlS ShrS SideS SplitS bitI
theorem itoa_meets:Meets Tryd.prog n_strconv_Itoa (SpecP (fun n:Int=>-9223372036854775808≤n∧n≤9223372036854775807) (fun n=>[.int .i64 n]) fun n=>.str (Lib.itoa n)):=by
 refine meets_lib ⟨_,Tryd.func19,by decide,rfl⟩ ?_
 intro n hn w F hg vs hl hv
 match vs,hl with
 | [v],_=>
  cases hv 0 _ v rfl rfl
  refine (Go.Proofs.Tryd.strconv_Itoa n hn.1 hn.2 w ?_).mono ?_
  ·exact hg.tab (g:=2) (ns:=(List.range 20).map (10 ^ ·)) (by kernel_rfl) (by kernel_rfl) (by rw [List.map_map];rfl) (by decide)
  ·rintro e w' ⟨rfl,k,os,rfl⟩
   exact ⟨_,rfl,.growD w k os,.str _⟩
attribute [local irreducible] decI getN hexI infoR irows rinfo rrows shapeM signedI
def formsL:List (List UInt8):=[[],[32,35,105,44,110],[32,109,44,110],[32,110],[32,112],[32,112],[32,64,110],[32,112,44,110],[32,112,44,110],[32,109,44,64,110],[32,64,109,44,110],[32,35,105]]
def formI (s:Int):List UInt8:=formsL.getD s.toNat []
def fillC (i:Ins) (to:Int) (c:UInt8):List UInt8:=if c=105 then Lib.itoa i.imm else if c=110 then 114::Lib.itoa i.n else if c=109 then 114::Lib.itoa i.m else if c=112 then nameH to else [c]
def fillF (i:Ins) (to:Int) (f:List UInt8):List UInt8:=f.flatMap (fillC i to)
def lineH (i:Ins) (at_:Int):List UInt8:=match infoR i.op with
 | some r=>r.name++fillF i (toM i at_) (formI r.shape)
 | none=>[]
structure LineIn (i:Ins) (at_:Int):Prop where
 op:∃ r,infoR i.op=some r
 n:0≤i.n∧i.n≤15
 m:0≤i.m∧i.m≤15
 imm: -4096≤i.imm∧i.imm≤4096
 pl:0≤at_∧at_≤2000000
theorem to_in {i:Ins} {at_:Int} (h:LineIn i at_): -1000000000≤toM i at_∧toM i at_≤1000000000:=by
 have h1:=h.imm
 have h2:=h.pl
 unfold toM
 split
 ·omega
 split
 ·omega
 ·omega
theorem cat_gen {s t:List UInt8} {K:D→Prop} (p q:Nat) (hs:s.length≤p) (ht:t.length≤q) (hb:p+q≤1000000) (h:∀ y,y=s++t→y.length≤p+q→K (.str y)):CatS s t K:=
 cat_mk (by omega) (h _ rfl (by rw [List.length_append];omega))
theorem form_at (i:Ins) (td:Int) :
  (fillF i td (formI 1)).drop 1=(([35]++Lib.itoa i.imm)++[44])++(114::Lib.itoa i.n)∧(fillF i td (formI 2)).drop 1=((114::Lib.itoa i.m)++[44])++(114::Lib.itoa i.n)∧(fillF i td (formI 3)).drop 1=114::Lib.itoa i.n ∧
  (fillF i td (formI 4)).drop 1=nameH td∧(fillF i td (formI 5)).drop 1=nameH td∧(fillF i td (formI 6)).drop 1=[64]++(114::Lib.itoa i.n)∧(fillF i td (formI 7)).drop 1=(nameH td++[44])++(114::Lib.itoa i.n)∧(fillF i td (formI 8)).drop 1=(nameH td++[44])++(114::Lib.itoa i.n) ∧
  (fillF i td (formI 9)).drop 1=((114::Lib.itoa i.m)++[44,64])++(114::Lib.itoa i.n)∧(fillF i td (formI 10)).drop 1=(([64]++(114::Lib.itoa i.m))++[44])++(114::Lib.itoa i.n)∧(fillF i td (formI 11)).drop 1=[35]++Lib.itoa i.imm:=by
 refine ⟨?_,?_,?_,?_,?_,?_,?_,?_,?_,?_,?_⟩
 ·show (fillF i td [32,35,105,44,110]).drop 1=_;simp [fillF,fillC]
 ·show (fillF i td [32,109,44,110]).drop 1=_;simp [fillF,fillC]
 ·show (fillF i td [32,110]).drop 1=_;simp [fillF,fillC]
 ·show (fillF i td [32,112]).drop 1=_;simp [fillF,fillC]
 ·show (fillF i td [32,112]).drop 1=_;simp [fillF,fillC]
 ·show (fillF i td [32,64,110]).drop 1=_;simp [fillF,fillC]
 ·show (fillF i td [32,112,44,110]).drop 1=_;simp [fillF,fillC]
 ·show (fillF i td [32,112,44,110]).drop 1=_;simp [fillF,fillC]
 ·show (fillF i td [32,109,44,64,110]).drop 1=_;simp [fillF,fillC]
 ·show (fillF i td [32,64,109,44,110]).drop 1=_;simp [fillF,fillC]
 ·show (fillF i td [32,35,105]).drop 1=_;simp [fillF,fillC]
theorem form_no {s:Int} (h:s < 1∨11 < s):formI s=[]:=by
 unfold formI
 rcases h with h | h
 ·rw [show s.toNat=0 by omega];rfl
 ·rw [List.getD_eq_getElem?_getD,List.getElem?_eq_none (by show 12≤s.toNat;omega)]
  rfl
abbrev OkC (c:UInt8):Prop:=33≤c.toNat∧c.toNat≤122
def okT (l:List UInt8):Prop:=∀ c∈l,OkC c
theorem okT.app {a b:List UInt8} (h:okT a) (k:okT b):okT (a++b):=fun c hc=>(List.mem_append.1 hc).elim (h c) (k c)
theorem okT.cons {a:UInt8} {b:List UInt8} (h:OkC a) (k:okT b):okT (a::b):=fun c hc=>by
 rcases List.mem_cons.1 hc with rfl | hc
 ·exact h
 ·exact k c hc
theorem ok_dec (u:Nat):okT (Lib.decDigits u):=fun c hc=>by
 have:=dec_dig u c hc
 exact ⟨by omega,by omega⟩
theorem ok_itoa (n:Int):okT (Lib.itoa n)∧Lib.itoa n≠[]:=by
 by_cases h:n < 0
 ·obtain ⟨u,rfl⟩:∃ u:Nat,n= -(u:Int):=⟨n.natAbs,by omega⟩
  rw [Lib.itoa_neg u (by omega)]
  exact ⟨.cons (by decide) (ok_dec u),List.cons_ne_nil _ _⟩
 ·obtain ⟨u,rfl⟩:∃ u:Nat,n=(u:Int):=⟨n.toNat,by omega⟩
  rw [Lib.itoa_nonneg]
  exact ⟨ok_dec u,dec_ne u⟩
theorem ok_dig {k:Nat} (h:k < 16):OkC (digH k):=by
 have:∀ k:Fin 16,OkC (digH k.1):=by unfold OkC;decide
 exact this ⟨k,h⟩
theorem ok_hexR:∀ (f u:Nat) (acc:List UInt8),u < 16 ^ (f+1)→okT acc→okT (hexR f u acc)
 | 0,u,acc,h,k=>.cons (ok_dig h) k
 | f+1,u,acc,h,k=>by
  rw [hexR]
  split
  ·exact .cons (ok_dig (by assumption)) k
  ·have hpw:16 ^ (f+1+1)=16 ^ (f+1) * 16:=Nat.pow_succ _ _
   exact ok_hexR f _ _ (by omega) (.cons (ok_dig (Nat.mod_lt _ (by decide))) k)
theorem ok_name {n:Int} (h0: -1000000000≤n) (h1:n≤1000000000):okT (nameH n):=by
 have hp:(1000000000:Nat) < 16 ^ (15+1):=by decide
 refine .cons (by unfold OkC;decide) ?_
 unfold hexI
 split
 ·exact .cons (by unfold OkC;decide) (ok_hexR _ _ _ (by omega) fun c hc=>by cases hc)
 ·exact ok_hexR _ _ _ (by omega) fun c hc=>by cases hc
theorem ok_fillC {i:Ins} {td:Int} (h0: -1000000000≤td) (h1:td≤1000000000) {c:UInt8} (h:OkC c):okT (fillC i td c)∧fillC i td c≠[]:=by
 unfold fillC
 split
 ·exact ok_itoa _
 split
 ·exact ⟨.cons (by unfold OkC;decide) (ok_itoa _).1,List.cons_ne_nil _ _⟩
 split
 ·exact ⟨.cons (by unfold OkC;decide) (ok_itoa _).1,List.cons_ne_nil _ _⟩
 split
 ·exact ⟨ok_name h0 h1,List.cons_ne_nil _ _⟩
 ·exact ⟨.cons h (fun c hc=>by cases hc),List.cons_ne_nil _ _⟩
theorem ok_fill {i:Ins} {td:Int} (h0: -1000000000≤td) (h1:td≤1000000000):∀ {f:List UInt8},okT f→okT (fillF i td f)
 | [],_=>fun c hc=>by cases hc
 | x::f,h=>by
  unfold fillF
  rw [List.flatMap_cons]
  exact (ok_fillC h0 h1 (h x List.mem_cons_self)).1.app (ok_fill h0 h1 fun c hc=>h c (List.mem_cons_of_mem _ hc))
theorem forms_ok (s:Int):formI s=[]∨∃ x f,formI s=32::x::f∧okT (x::f):=by
 by_cases h:s < 1∨11 < s
 ·exact .inl (form_no h)
 ·have hk:s.toNat < 12:=by omega
  have:∀ k:Fin 12,k.1=0∨∃ x f,formsL.getD k.1 []=32::x::f∧(x::f).all (fun c=>decide (OkC c))=true:=by
   intro k
   match k with
   | ⟨0,_⟩=>exact .inl rfl
   | ⟨1,_⟩=>exact .inr ⟨_,_,rfl,by unfold OkC;decide⟩
   | ⟨2,_⟩=>exact .inr ⟨_,_,rfl,by unfold OkC;decide⟩
   | ⟨3,_⟩=>exact .inr ⟨_,_,rfl,by unfold OkC;decide⟩
   | ⟨4,_⟩=>exact .inr ⟨_,_,rfl,by unfold OkC;decide⟩
   | ⟨5,_⟩=>exact .inr ⟨_,_,rfl,by unfold OkC;decide⟩
   | ⟨6,_⟩=>exact .inr ⟨_,_,rfl,by unfold OkC;decide⟩
   | ⟨7,_⟩=>exact .inr ⟨_,_,rfl,by unfold OkC;decide⟩
   | ⟨8,_⟩=>exact .inr ⟨_,_,rfl,by unfold OkC;decide⟩
   | ⟨9,_⟩=>exact .inr ⟨_,_,rfl,by unfold OkC;decide⟩
   | ⟨10,_⟩=>exact .inr ⟨_,_,rfl,by unfold OkC;decide⟩
   | ⟨11,_⟩=>exact .inr ⟨_,_,rfl,by unfold OkC;decide⟩
  rcases this ⟨s.toNat,hk⟩ with h0 | ⟨x,f,h1,h2⟩
  ·exact absurd (show s.toNat=0 from h0) (by omega)
  ·exact .inr ⟨x,f,h1,fun c hc=>of_decide_eq_true (List.all_eq_true.1 h2 c hc)⟩
theorem ok_sp {c:UInt8} (h:OkC c):Lib.isSp c=false:=by
 unfold OkC at h
 have hne:∀ d:UInt8,d.toNat < 33→(c==d)=false:=fun d hd=>beq_false_of_ne fun e=>by rw [e] at h;omega
 unfold Lib.isSp
 rw [hne 9 (by decide),hne 10 (by decide),hne 11 (by decide),hne 12 (by decide),hne 13 (by decide),hne 32 (by decide)]
 rfl
theorem last_of {l:List UInt8} (h:l≠[]):∃ u d,l=u++[d]∧d∈l:=⟨l.dropLast,l.getLast h,(List.dropLast_concat_getLast h).symm,List.getLast_mem h⟩
theorem trim_line {i:Ins} {td:Int} {nm:List UInt8} {s:Int} (h0: -1000000000≤td) (h1:td≤1000000000) (hn:okT nm) (hn0:nm≠[]) :
  Lib.trimSpace ((nm++[32])++(fillF i td (formI s)).drop 1)=nm++fillF i td (formI s)∧∀ c∈(nm++[32])++(fillF i td (formI s)).drop 1,c.toNat < 128:=by
 obtain ⟨c,t,rfl⟩:∃ c t,nm=c::t:=by cases nm with | nil=>exact absurd rfl hn0 | cons c t=>exact ⟨c,t,rfl⟩
 have hc:=ok_sp (hn c List.mem_cons_self)
 rcases forms_ok s with h | ⟨x,f,h,hf⟩
 ·obtain ⟨u,d,e,hd⟩:=last_of hn0
  have e1:fillF i td (formI s)=[]:=by rw [h];rfl
  rw [e1,List.drop_nil,List.append_nil,List.append_nil]
  refine ⟨trim_end hc (ok_sp (hn d hd)) e,fun y hy=>?_⟩
  rcases List.mem_append.1 hy with hy | hy
  ·have:=(hn y hy).2;omega
  ·rw [List.mem_singleton.1 hy];decide
 ·have e1:fillF i td (formI s)=32::fillF i td (x::f):=by rw [h];rfl
  have hk:=ok_fill (i:=i) h0 h1 hf
  have hne:fillF i td (x::f)≠[]:=by
   unfold fillF
   rw [List.flatMap_cons]
   exact fun e=>(ok_fillC (i:=i) h0 h1 (hf x List.mem_cons_self)).2 (List.append_eq_nil_iff.1 e).1
  rw [e1,List.drop_succ_cons,List.drop_zero]
  generalize fillF i td (x::f)=g at *
  obtain ⟨u,d,e,hd⟩:=last_of hne
  have e2:(c::t++[32])++g=c::(t++32::g):=by simp
  have e3:c::(t++32::g)=(c::(t++32::u))++[d]:=by rw [e];simp
  refine ⟨by rw [e2,trim_id hc (ok_sp (hk d hd)) e3];rfl,fun y hy=>?_⟩
  rcases List.mem_append.1 hy with hy | hy
  ·rcases List.mem_append.1 hy with hy | hy
   ·have:=(hn y hy).2;omega
   ·rw [List.mem_singleton.1 hy];decide
  ·have:=(hk y hy).2;omega
theorem irows_ok:irows.all (fun r=>decide ((∀ c∈r.name,OkC c)∧r.name≠[]∧r.name.length≤10))=true:=by unfold irows;decide
theorem irow_ok {op:Int} {r:IRow} (h:infoR op=some r):okT r.name∧r.name≠[]∧r.name.length≤10:=by
 unfold infoR at h
 have:=of_decide_eq_true (p:=(∀ c∈r.name,OkC c)∧r.name≠[]∧r.name.length≤10) (List.all_eq_true.1 irows_ok r (List.mem_of_find?_eq_some h))
 exact this
theorem fill_len {i:Ins} {td:Int} (ln:(Lib.itoa i.n).length≤21) (lm:(Lib.itoa i.m).length≤21) (li:(Lib.itoa i.imm).length≤21):∀ f:List UInt8,(fillF i td f).length≤22 * f.length
 | []=>Nat.le_refl _
 | x::f=>by
  have h1:=fill_len (td:=td) ln lm li f
  unfold fillF at h1 ⊢
  rw [List.flatMap_cons,List.length_append,List.length_cons]
  have h2:(fillC i td x).length≤22:=by
   unfold fillC
   split
   ·omega
   split
   ·rw [List.length_cons];omega
   split
   ·rw [List.length_cons];omega
   split
   ·unfold nameH;rw [List.length_cons];have:=hexI_len td;omega
   ·show 1≤22;decide
  omega
theorem form_len (s:Int):(formI s).length≤6:=by
 by_cases h:s < 1∨11 < s
 ·rw [form_no h];exact Nat.zero_le _
 ·have:∀ k:Fin 12,(formsL.getD k.1 []).length≤6:=by decide
  exact this ⟨s.toNat,by omega⟩
theorem dline_meets:Meets Tryd.prog n_dis_Line (SpecP (fun ((i,at_):Ins×Int)=>LineIn i at_) (fun (i,at_)=>[insD i,.int .i64 at_]) fun (i,at_)=>.str (lineH i at_)):=by
 refine meets_f tabOk Tryd.func9 rfl (by decide) ?_
 rintro ⟨i,at_⟩ h
 have h:LineIn i at_:=h
 obtain ⟨r,hr⟩:=h.op
 have hn:=h.n
 have hm:=h.m
 have hi:=h.imm
 have hp:=h.pl
 have ht:=to_in h
 refine ⟨Nat.le_refl _,by simp [Tryd.f9],fun E hE=>?_⟩
 have hE0:E.L.length=0:=by rw [hE];rfl
 have hinf:infoD i.op= .tup [.str r.name,.int .i64 r.shape]:=by unfold infoD;rw [hr]
 dsimp only
 refine awp_seqK (vcOk _ ?_)
 (all_goals refine qgp ?_<;>(repeat' first | exact trivial | intro hc | refine And.intro ?_ ?_)<;>refine Lf.mk ?_)
 refine awp_seqK (vcOk _ ?_)
 (all_goals refine qgp ?_<;>(repeat' first | exact trivial | intro hc | refine And.intro ?_ ?_)<;>refine Lf.mk ?_)
 refine call_p info_meets i.op trivial (VS.mk (LeL.of_eq rfl)) ?_
 rw [hinf]
 (all_goals refine qgp ?_<;>(repeat' first | exact trivial | intro hc | refine And.intro ?_ ?_)<;>refine Lf.mk ?_)
 have ln:=Lib.itoa_length_le i.n (by omega) (by omega)
 have lm:=Lib.itoa_length_le i.m (by omega) (by omega)
 have li:=Lib.itoa_length_le i.imm (by omega) (by omega)
 refine awp_cut (α:=Unit) (fun _=>True) (fun _=>[(1,.int .i64 at_),(2,.loc 0 0),(5,.str r.name),(6,.int .i64 r.shape),(7,.str (114::Lib.itoa i.n)),(8,.str (114::Lib.itoa i.m))]) (fun _=>[.cells (insD i).cells]) (vcOk _ ?_) (fun _ _=>?_)
 ·(all_goals refine qgp ?_<;>(repeat' first | exact trivial | intro hc | refine And.intro ?_ ?_)<;>refine Lf.mk ?_)
  refine call_p itoa_meets i.n ⟨by omega,by omega⟩ (VS.mk (LeL.of_eq rfl)) ?_
  (all_goals refine qgp ?_<;>(repeat' first | exact trivial | intro hc | refine And.intro ?_ ?_)<;>refine Lf.mk ?_)
  refine cat_mk (by show ((1+(Lib.itoa i.n).length:Nat):Int)≤9223372036854775807;omega) ?_
  (all_goals refine qgp ?_<;>(repeat' first | exact trivial | intro hc | refine And.intro ?_ ?_)<;>refine Lf.mk ?_)
  refine call_p itoa_meets i.m ⟨by omega,by omega⟩ (VS.mk (LeL.of_eq rfl)) ?_
  (all_goals refine qgp ?_<;>(repeat' first | exact trivial | intro hc | refine And.intro ?_ ?_)<;>refine Lf.mk ?_)
  refine cat_mk (by show ((1+(Lib.itoa i.m).length:Nat):Int)≤9223372036854775807;omega) ?_
  (all_goals refine qgp ?_<;>(repeat' first | exact trivial | intro hc | refine And.intro ?_ ?_)<;>refine Lf.mk ?_)
  exact ⟨(),trivial,weak_same rfl ⟨rfl,rfl,rfl,rfl,rfl,rfl,trivial⟩⟩
 unfold insD D.cells
 dsimp only
 refine awp_seqK (vcOk _ ?_)
 (all_goals refine qgp ?_<;>(repeat' first | exact trivial | intro hc | refine And.intro ?_ ?_)<;>refine Lf.mk ?_)
 refine call_p to_meets (i,at_) ⟨by show -4096≤i.imm;omega,by show i.imm≤4096;omega,by show _≤at_;omega,by show at_≤_;omega⟩ (VS.mk (LeL.of_eq rfl)) ?_
 dsimp only
 generalize htd:toM i at_=td at *
 (all_goals refine qgp ?_<;>(repeat' first | exact trivial | intro hc | refine And.intro ?_ ?_)<;>refine Lf.mk ?_)
 refine awp_seqK (vcOk _ ?_)
 (all_goals refine qgp ?_<;>(repeat' first | exact trivial | intro hc | refine And.intro ?_ ?_)<;>refine Lf.mk ?_)
 refine awp_cut (α:=Unit) (fun _=>True) (fun _=>[(5,.str r.name),(11,.str ((fillF i td (formI r.shape)).drop 1))]) (fun _=>[]) (vcOk _ ?_) (fun _ _=>?_)
 ·have hnl:=hexI_len td
  have hnm:(nameH td).length≤18:=by unfold nameH;rw [List.length_cons];omega
  have hrn:(114::Lib.itoa i.n).length≤22:=by rw [List.length_cons];omega
  have hrm:(114::Lib.itoa i.m).length≤22:=by rw [List.length_cons];omega
  obtain ⟨f1,f2,f3,f4,f5,f6,f7,f8,f9,f10,f11⟩:=form_at i td
  have fin:∀ (k:Int) (s:List UInt8),(fillF i td (formI k)).drop 1=s→r.shape=k→D.str s=D.str ((fillF i td (formI r.shape)).drop 1):=fun k s e h=>by rw [h,e]
  have dn:∀ {σ:List (Nat×D)} {o:Ob} {s:List UInt8},D.str s=D.str ((fillF i td (formI r.shape)).drop 1)→Plat.look σ 5=D.str r.name→Plat.look σ 11=D.str s→∃ p:Unit,True∧Weak E.L.length σ [o] [(5,.str r.name),(11,.str ((fillF i td (formI r.shape)).drop 1))] []:=fun h h1 h2=>
   ⟨(),trivial,weak_pre [] [_] rfl (by rw [hE0];exact Nat.zero_le _) (fun o ho=>by cases ho) ⟨h1,h2.trans h,trivial⟩ (.cons .str (.cons .str .nil))⟩
  (all_goals refine qgp ?_<;>(repeat' first | exact trivial | intro hc | refine And.intro ?_ ?_)<;>refine Lf.mk ?_)
  ·refine call_p itoa_meets i.imm ⟨by omega,by omega⟩ (VS.mk (LeL.of_eq rfl)) ?_
   (all_goals refine qgp ?_<;>(repeat' first | exact trivial | intro hc | refine And.intro ?_ ?_)<;>refine Lf.mk ?_)
   refine cat_gen 1 21 (by decide) li (by decide) fun y1 e1 l1=>?_
   (all_goals refine qgp ?_<;>(repeat' first | exact trivial | intro hc | refine And.intro ?_ ?_)<;>refine Lf.mk ?_)
   refine cat_gen 22 1 l1 (by decide) (by decide) fun y2 e2 l2=>?_
   (all_goals refine qgp ?_<;>(repeat' first | exact trivial | intro hc | refine And.intro ?_ ?_)<;>refine Lf.mk ?_)
   refine cat_gen 23 22 l2 hrn (by decide) fun y3 e3 l3=>?_
   (all_goals refine qgp ?_<;>(repeat' first | exact trivial | intro hc | refine And.intro ?_ ?_)<;>refine Lf.mk ?_)
   exact dn (fin 1 y3 (f1.trans (by rw [e3,e2,e1])) hc) rfl rfl
  ·refine cat_gen 22 1 hrm (by decide) (by decide) fun y1 e1 l1=>?_
   (all_goals refine qgp ?_<;>(repeat' first | exact trivial | intro hc | refine And.intro ?_ ?_)<;>refine Lf.mk ?_)
   refine cat_gen 23 22 l1 hrn (by decide) fun y2 e2 l2=>?_
   (all_goals refine qgp ?_<;>(repeat' first | exact trivial | intro hc | refine And.intro ?_ ?_)<;>refine Lf.mk ?_)
   exact dn (fin 2 y2 (f2.trans (by rw [e2,e1])) hc) rfl rfl
  ·exact dn (fin 3 _ f3 hc) rfl rfl
  ·refine call_p dname_meets td ht (VS.mk (LeL.of_eq rfl)) ?_
   (all_goals refine qgp ?_<;>(repeat' first | exact trivial | intro hc | refine And.intro ?_ ?_)<;>refine Lf.mk ?_)
   exact dn (fin 4 _ f4 hc) rfl rfl
  ·refine call_p dname_meets td ht (VS.mk (LeL.of_eq rfl)) ?_
   (all_goals refine qgp ?_<;>(repeat' first | exact trivial | intro hc | refine And.intro ?_ ?_)<;>refine Lf.mk ?_)
   exact dn (fin 5 _ f5 hc) rfl rfl
  ·refine cat_gen 1 22 (by decide) hrn (by decide) fun y1 e1 l1=>?_
   (all_goals refine qgp ?_<;>(repeat' first | exact trivial | intro hc | refine And.intro ?_ ?_)<;>refine Lf.mk ?_)
   exact dn (fin 6 y1 (f6.trans (by rw [e1])) hc) rfl rfl
  ·refine call_p dname_meets td ht (VS.mk (LeL.of_eq rfl)) ?_
   (all_goals refine qgp ?_<;>(repeat' first | exact trivial | intro hc | refine And.intro ?_ ?_)<;>refine Lf.mk ?_)
   refine cat_gen 18 1 hnm (by decide) (by decide) fun y1 e1 l1=>?_
   (all_goals refine qgp ?_<;>(repeat' first | exact trivial | intro hc | refine And.intro ?_ ?_)<;>refine Lf.mk ?_)
   refine cat_gen 19 22 l1 hrn (by decide) fun y2 e2 l2=>?_
   (all_goals refine qgp ?_<;>(repeat' first | exact trivial | intro hc | refine And.intro ?_ ?_)<;>refine Lf.mk ?_)
   exact dn (fin 7 y2 (f7.trans (by rw [e2,e1])) hc) rfl rfl
  ·refine call_p dname_meets td ht (VS.mk (LeL.of_eq rfl)) ?_
   (all_goals refine qgp ?_<;>(repeat' first | exact trivial | intro hc | refine And.intro ?_ ?_)<;>refine Lf.mk ?_)
   refine cat_gen 18 1 hnm (by decide) (by decide) fun y1 e1 l1=>?_
   (all_goals refine qgp ?_<;>(repeat' first | exact trivial | intro hc | refine And.intro ?_ ?_)<;>refine Lf.mk ?_)
   refine cat_gen 19 22 l1 hrn (by decide) fun y2 e2 l2=>?_
   (all_goals refine qgp ?_<;>(repeat' first | exact trivial | intro hc | refine And.intro ?_ ?_)<;>refine Lf.mk ?_)
   exact dn (fin 8 y2 (f8.trans (by rw [e2,e1])) hc) rfl rfl
  ·refine cat_gen 22 2 hrm (by decide) (by decide) fun y1 e1 l1=>?_
   (all_goals refine qgp ?_<;>(repeat' first | exact trivial | intro hc | refine And.intro ?_ ?_)<;>refine Lf.mk ?_)
   refine cat_gen 24 22 l1 hrn (by decide) fun y2 e2 l2=>?_
   (all_goals refine qgp ?_<;>(repeat' first | exact trivial | intro hc | refine And.intro ?_ ?_)<;>refine Lf.mk ?_)
   exact dn (fin 9 y2 (f9.trans (by rw [e2,e1])) hc) rfl rfl
  ·refine cat_gen 1 22 (by decide) hrm (by decide) fun y1 e1 l1=>?_
   (all_goals refine qgp ?_<;>(repeat' first | exact trivial | intro hc | refine And.intro ?_ ?_)<;>refine Lf.mk ?_)
   refine cat_gen 23 1 l1 (by decide) (by decide) fun y2 e2 l2=>?_
   (all_goals refine qgp ?_<;>(repeat' first | exact trivial | intro hc | refine And.intro ?_ ?_)<;>refine Lf.mk ?_)
   refine cat_gen 24 22 l2 hrn (by decide) fun y3 e3 l3=>?_
   (all_goals refine qgp ?_<;>(repeat' first | exact trivial | intro hc | refine And.intro ?_ ?_)<;>refine Lf.mk ?_)
   exact dn (fin 10 y3 (f10.trans (by rw [e3,e2,e1])) hc) rfl rfl
  ·refine call_p itoa_meets i.imm ⟨by omega,by omega⟩ (VS.mk (LeL.of_eq rfl)) ?_
   (all_goals refine qgp ?_<;>(repeat' first | exact trivial | intro hc | refine And.intro ?_ ?_)<;>refine Lf.mk ?_)
   refine cat_gen 1 21 (by decide) li (by decide) fun y1 e1 l1=>?_
   (all_goals refine qgp ?_<;>(repeat' first | exact trivial | intro hc | refine And.intro ?_ ?_)<;>refine Lf.mk ?_)
   exact dn (fin 11 y1 (f11.trans (by rw [e1])) hc) rfl rfl
  ·refine dn (s:=[]) (congrArg D.str ?_) rfl rfl
   rw [form_no (by omega)]
   rfl
 ·have hrw:=irow_ok hr
  have hsl:((fillF i td (formI r.shape)).drop 1).length≤200:=by
   have h1:=fill_len (i:=i) (td:=td) ln lm li (formI r.shape)
   have h2:=form_len r.shape
   rw [List.length_drop]
   omega
  obtain ⟨tr1,tr2⟩:=trim_line (i:=i) (s:=r.shape) ht.1 ht.2 hrw.1 hrw.2.1
  refine vcOk _ ?_
  (all_goals refine qgp ?_<;>(repeat' first | exact trivial | intro hc | refine And.intro ?_ ?_)<;>refine Lf.mk ?_)
  refine cat_gen 10 1 hrw.2.2 (by decide) (by decide) fun y1 e1 l1=>?_
  (all_goals refine qgp ?_<;>(repeat' first | exact trivial | intro hc | refine And.intro ?_ ?_)<;>refine Lf.mk ?_)
  refine cat_gen 11 200 l1 hsl (by decide) fun y2 e2 l2=>?_
  (all_goals refine qgp ?_<;>(repeat' first | exact trivial | intro hc | refine And.intro ?_ ?_)<;>refine Lf.mk ?_)
  have hy:y2=(r.name++[32])++(fillF i td (formI r.shape)).drop 1:=by rw [e2,e1]
  refine call_p trim_meets y2 ⟨by omega,by rw [hy];exact tr2⟩ (VS.mk (LeL.of_eq rfl)) ?_
  rw [hy,tr1]
  (all_goals refine qgp ?_<;>(repeat' first | exact trivial | intro hc | refine And.intro ?_ ?_)<;>refine Lf.mk ?_)
  refine end_p (VS.mk (LeD.of_eq (congrArg D.str ?_)))
  unfold lineH
  rw [hr,htd]
end Go.Proofs.YtfahnaccpncdpaaDoor
