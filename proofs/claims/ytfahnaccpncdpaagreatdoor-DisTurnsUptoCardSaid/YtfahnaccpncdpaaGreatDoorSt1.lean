/-
  A part of the proof: what the given program's functions answer, each once; conditions that are enough for it.
-/
import Derived.Test.YtfahnaccpncdpaaGreatDoorProg
import Derived.KernelRfl
import Derived.Test.YtfahnaccpncdpaaGreatDoorFw3
import Derived.Lib.LaidTab
import Derived.Sort.Grow
import Derived.Deep.Draws
import Derived.Below
import Derived.Shelf.Strings.Builder1
import Derived.Shelf.Small.Utf8
import Derived.Shelf.Strings.BuilderF
import Derived.Shelf.Strings.BuilderK
import Derived.Shelf.Strconv.Atoi
import Derived.Shelf.Strconv.Itoa0
import Derived.Shelf.Strconv.Itoa1
import Derived.Shelf.LaysM
import Derived.Shelf.Strconv.Itoa2
import Derived.Shelf.Strconv.Itoa3
import Derived.Shelf.Strconv.Itoa4
import Derived.Shelf.Strconv.AtoiErrFast
import Derived.Shelf.Strconv.ParseIntEmpty
import Derived.Shelf.Strconv.AtoiFail
import Derived.Shelf.Strconv.Clone
import Derived.Shelf.Strconv.SyntaxError
import Derived.Shelf.LaysC
import Derived.Shelf.Strconv.ToError
import Derived.Shelf.Strconv.AtoiErr
import Derived.Shelf.Strconv.ErrVar
import Derived.Shelf.Strconv.Lower
import Derived.Shelf.Strconv.ParseUint10
import Derived.Shelf.Strconv.ParseUint10Empty
import Derived.Shelf.Strconv.ParseUint10Any
import Derived.Shelf.Strconv.ParseInt10
import Derived.Shelf.Strconv.AtoiLong
import Derived.Shelf.Strconv.AtoiInnerAll
import Derived.Shelf.Strconv.RangeError
import Derived.Shelf.Strconv.ToErrorRange
import Derived.Shelf.Strconv.ParseUintEmpty
import Derived.Shelf.Strconv.ParseUint10b64
import Derived.Shelf.Strconv.ParseUint10b32
import Derived.Shelf.Strconv.ParseUint10b16
import Derived.Shelf.Strconv.ParseUint10b8
import Derived.Shelf.Strconv.ParseUint10At
import Derived.Shelf.Strconv.ParseInt10At64
import Derived.Shelf.Strconv.ParseInt10At32
import Derived.Shelf.Strconv.ParseInt10At16
import Derived.Shelf.Strconv.ParseInt10At8
import Derived.Shelf.Strconv.ParseInt10All
import Derived.Ground.MpProg
import Derived.Shelf.Pu.ParseUintPublic10
import Derived.Shelf.Strings.Search1
import Derived.Shelf.Strings.Search2
import Derived.Shelf.Strings.Search3
import Derived.Shelf.Strings.Cut
import Derived.Shelf.Strings.Count
import Derived.Shelf.Strings.Shaped
import Derived.Shelf.Unicode.Latin
import Derived.Shelf.Unicode.DecodeSlow
import Derived.Shelf.Unicode.Is16White
import Derived.Shelf.Unicode.IsSpaceAny
import Derived.Shelf.Unicode.Is16Any
import Derived.Shelf.Unicode.Is32Any
import Derived.Shelf.Unicode.ExclAny
import Derived.Shelf.Slices.Turned
import Derived.Shelf.Strings.TrimSpace
import Derived.Shelf.Strings.TrimSpaceAny
import Derived.Shelf.RegionOpenPlain
import Derived.Lib.Walk
import Derived.Lib.Builder
import Derived.Lib.UnsafeStr
import Derived.WalkKit
import Derived.Laws.Externs
import Derived.Lib.AppendStr
import Derived.Lib.ItoaLen
namespace Go.Proofs.YtfahnaccpncdpaaGreatDoor
open Go Go.Plat
set_option maxRecDepth 100000
theorem TIOk.of {P:Program} {t:Nat} {i:TI} (h1:(P.underlying t).map tdOf=some i.d) (h2:(P.info? t).map (fun x=>(x.size,x.bytes,x.zero))=some (i.size,i.bytes,some i.zero)) (h3:Nat.beq i.size 0=false) (h3b:Nat.beq i.bytes 0=false) (h4:Nat.beq i.zero.cells.size i.size=true)
  (h5:(match P.underlying t with | some (.struct fs)=>fs.toList.all fun f=>(P.info? f.type).isSome | _=>true)=true):TIOk P t i where
 under:=by
  cases h:P.underlying t with
  | none=>rw [h] at h1;cases h1
  | some d=>rw [h] at h1;exact ⟨d,rfl,by simpa using h1⟩
 info:=by
  cases h:P.info? t with
  | none=>rw [h] at h2;cases h2
  | some x=>rw [h] at h2;simp at h2;exact ⟨x,rfl,h2.1,h2.2.1,h2.2.2⟩
 pos:=by intro h;rw [h] at h3;simp at h3
 bpos:=by intro h;rw [h] at h3b;simp at h3b
 szero:=Nat.eq_of_beq_eq_true h4
 fin:=h5
theorem TabOk.of {P:Program}:∀ {l:Tab},l.map (fun p=>((P.underlying p.1).map tdOf,(P.info? p.1).map fun x=>(x.size,x.bytes,x.zero)))=l.map (fun p=>(some p.2.d,some (p.2.size,p.2.bytes,some p.2.zero))) →
  l.all (fun p=>!Nat.beq p.2.size 0 && !Nat.beq p.2.bytes 0 && Nat.beq p.2.zero.cells.size p.2.size && (match P.underlying p.1 with | some (.struct fs)=>fs.toList.all fun f=>(P.info? f.type).isSome | _=>true))=true→TabOk P l
 | [],_,_=>.nil _
 | (t,i)::l,h,g=>by
  rw [List.map_cons,List.map_cons] at h
  injection h with h1 h2
  rw [Prod.mk.injEq] at h1
  rw [List.all_cons,Bool.and_eq_true] at g
  obtain ⟨g1,g2⟩:=g
  simp only [Bool.and_eq_true,Bool.not_eq_true'] at g1
  obtain ⟨⟨⟨a,b⟩,c⟩,d⟩:=g1
  exact .cons (TIOk.of h1.1 h1.2 a b c d) (TabOk.of h2 g2)
def tab:Tab:=[
(3,⟨(.int .i64),1,8,(.int .i64 0)⟩),
(4,⟨.bool,1,1,(.bool false)⟩),
(5,⟨(.int .u8),1,1,(.int .u8 0)⟩),
(9,⟨.str,1,16,(.string ⟨#[]⟩)⟩),
(22,⟨(.slice 5),1,24,(.slice none 0 0)⟩),
(2,⟨(.int .i64),1,8,(.int .i64 0)⟩),
(12,⟨(.int .u64),1,8,(.int .u64 0)⟩),
(20,⟨.iface,1,16,.nilIface⟩),
(21,⟨(.int .i32),1,4,(.int .i32 0)⟩),
(25,⟨(.slice 187),1,24,(.slice none 0 0)⟩),
(26,⟨(.slice 200),1,24,(.slice none 0 0)⟩),
(27,⟨(.struct [(0,22),(1,25),(2,26)]),3,72,(.agg #[(.slice none 0 0),(.slice none 0 0),(.slice none 0 0)])⟩),
(28,⟨(.struct [(0,22),(1,25),(2,26)]),3,72,(.agg #[(.slice none 0 0),(.slice none 0 0),(.slice none 0 0)])⟩),
(29,⟨(.int .i64),1,8,(.int .i64 0)⟩),
(30,⟨(.struct [(0,29),(1,3)]),2,16,(.agg #[(.int .i64 0),(.int .i64 0)])⟩),
(31,⟨(.struct [(0,29),(1,3)]),2,16,(.agg #[(.int .i64 0),(.int .i64 0)])⟩),
(38,⟨(.struct [(0,3),(1,3),(2,3),(3,3)]),4,32,(.agg #[(.int .i64 0),(.int .i64 0),(.int .i64 0),(.int .i64 0)])⟩),
(39,⟨(.struct [(0,3),(1,3),(2,3),(3,3)]),4,32,(.agg #[(.int .i64 0),(.int .i64 0),(.int .i64 0),(.int .i64 0)])⟩),
(41,⟨(.slice 3),1,24,(.slice none 0 0)⟩),
(50,⟨(.ptr 52),1,8,(.pointer none)⟩),
(51,⟨(.struct [(0,50),(1,22)]),2,32,(.agg #[(.pointer none),(.slice none 0 0)])⟩),
(52,⟨(.struct [(0,50),(1,22)]),2,32,(.agg #[(.pointer none),(.slice none 0 0)])⟩),
(54,⟨.iface,1,16,.nilIface⟩),
(55,⟨.iface,1,16,.nilIface⟩),
(60,⟨(.slice 89),1,24,(.slice none 0 0)⟩),
(63,⟨(.slice 177),1,24,(.slice none 0 0)⟩),
(70,⟨(.slice 73),1,24,(.slice none 0 0)⟩),
(72,⟨(.struct [(0,3),(1,9),(2,3),(3,3)]),4,40,(.agg #[(.int .i64 0),(.string ⟨#[]⟩),(.int .i64 0),(.int .i64 0)])⟩),
(73,⟨(.struct [(0,3),(1,9),(2,3),(3,3)]),4,40,(.agg #[(.int .i64 0),(.string ⟨#[]⟩),(.int .i64 0),(.int .i64 0)])⟩),
(77,⟨(.int .u64),1,8,(.int .u64 0)⟩),
(82,⟨(.ptr 5),1,8,(.pointer none)⟩),
(83,⟨(.slice 9),1,24,(.slice none 0 0)⟩),
(85,⟨(.slice 125),1,24,(.slice none 0 0)⟩),
(88,⟨(.struct [(0,3),(1,85)]),2,32,(.agg #[(.int .i64 0),(.slice none 0 0)])⟩),
(89,⟨(.struct [(0,3),(1,85)]),2,32,(.agg #[(.int .i64 0),(.slice none 0 0)])⟩),
(90,⟨(.ptr 93),1,8,(.pointer none)⟩),
(91,⟨(.slice 133),1,24,(.slice none 0 0)⟩),
(92,⟨(.struct [(0,91),(1,63),(2,60),(3,3),(4,31)]),6,96,(.agg #[(.slice none 0 0),(.slice none 0 0),(.slice none 0 0),(.int .i64 0),(.int .i64 0),(.int .i64 0)])⟩),
(93,⟨(.struct [(0,91),(1,63),(2,60),(3,3),(4,31)]),6,96,(.agg #[(.slice none 0 0),(.slice none 0 0),(.slice none 0 0),(.int .i64 0),(.int .i64 0),(.int .i64 0)])⟩),
(95,⟨(.ptr 99),1,8,(.pointer none)⟩),
(96,⟨(.slice 108),1,24,(.slice none 0 0)⟩),
(97,⟨(.slice 148),1,24,(.slice none 0 0)⟩),
(98,⟨(.struct [(0,63),(1,96),(2,25),(3,41),(4,97),(5,3),(6,28),(9,31)]),11,216,(.agg #[(.slice none 0 0),(.slice none 0 0),(.slice none 0 0),(.slice none 0 0),(.slice none 0 0),(.int .i64 0),(.slice none 0 0),(.slice none 0 0),(.slice none 0 0),(.int .i64 0),(.int .i64 0)])⟩),
(99,⟨(.struct [(0,63),(1,96),(2,25),(3,41),(4,97),(5,3),(6,28),(9,31)]),11,216,(.agg #[(.slice none 0 0),(.slice none 0 0),(.slice none 0 0),(.slice none 0 0),(.slice none 0 0),(.int .i64 0),(.slice none 0 0),(.slice none 0 0),(.slice none 0 0),(.int .i64 0),(.int .i64 0)])⟩),
(104,⟨(.ptr 108),1,8,(.pointer none)⟩),
(105,⟨(.struct [(0,9),(1,3)]),2,24,(.agg #[(.string ⟨#[]⟩),(.int .i64 0)])⟩),
(106,⟨(.struct [(0,9),(1,3)]),2,24,(.agg #[(.string ⟨#[]⟩),(.int .i64 0)])⟩),
(107,⟨(.struct [(0,3),(1,3),(2,3),(3,39),(7,4),(8,3),(9,106),(11,3),(12,3)]),13,112,(.agg #[(.int .i64 0),(.int .i64 0),(.int .i64 0),(.int .i64 0),(.int .i64 0),(.int .i64 0),(.int .i64 0),(.bool false),(.int .i64 0),(.string ⟨#[]⟩),(.int .i64 0),(.int .i64 0),(.int .i64 0)])⟩),
(108,⟨(.struct [(0,3),(1,3),(2,3),(3,39),(7,4),(8,3),(9,106),(11,3),(12,3)]),13,112,(.agg #[(.int .i64 0),(.int .i64 0),(.int .i64 0),(.int .i64 0),(.int .i64 0),(.int .i64 0),(.int .i64 0),(.bool false),(.int .i64 0),(.string ⟨#[]⟩),(.int .i64 0),(.int .i64 0),(.int .i64 0)])⟩),
(119,⟨(.ptr 121),1,8,(.pointer none)⟩),
(120,⟨(.struct [(0,9),(1,3)]),2,24,(.agg #[(.string ⟨#[]⟩),(.int .i64 0)])⟩),
(121,⟨(.struct [(0,9),(1,3)]),2,24,(.agg #[(.string ⟨#[]⟩),(.int .i64 0)])⟩),
(124,⟨(.struct [(0,3),(1,3),(2,9)]),3,32,(.agg #[(.int .i64 0),(.int .i64 0),(.string ⟨#[]⟩)])⟩),
(125,⟨(.struct [(0,3),(1,3),(2,9)]),3,32,(.agg #[(.int .i64 0),(.int .i64 0),(.string ⟨#[]⟩)])⟩),
(132,⟨(.struct [(0,9),(1,83),(2,60)]),3,64,(.agg #[(.string ⟨#[]⟩),(.slice none 0 0),(.slice none 0 0)])⟩),
(133,⟨(.struct [(0,9),(1,83),(2,60)]),3,64,(.agg #[(.string ⟨#[]⟩),(.slice none 0 0),(.slice none 0 0)])⟩),
(136,⟨(.ptr 138),1,8,(.pointer none)⟩),
(137,⟨(.struct [(0,95),(1,85),(2,3)]),3,40,(.agg #[(.pointer none),(.slice none 0 0),(.int .i64 0)])⟩),
(138,⟨(.struct [(0,95),(1,85),(2,3)]),3,40,(.agg #[(.pointer none),(.slice none 0 0),(.int .i64 0)])⟩),
(139,⟨(.slice 190),1,24,(.slice none 0 0)⟩),
(148,⟨(.slice 106),1,24,(.slice none 0 0)⟩),
(154,⟨(.int .u32),1,4,(.int .u32 0)⟩),
(156,⟨(.ptr 204),1,8,(.pointer none)⟩),
(160,⟨(.arr 24 5),24,24,(.agg #[(.int .u8 0),(.int .u8 0),(.int .u8 0),(.int .u8 0),(.int .u8 0),(.int .u8 0),(.int .u8 0),(.int .u8 0),(.int .u8 0),(.int .u8 0),(.int .u8 0),(.int .u8 0),(.int .u8 0),(.int .u8 0),(.int .u8 0),(.int .u8 0),(.int .u8 0),(.int .u8 0),(.int .u8 0),(.int .u8 0),(.int .u8 0),(.int .u8 0),(.int .u8 0),(.int .u8 0)])⟩),
(161,⟨(.int .u64),1,8,(.int .u64 0)⟩),
(177,⟨(.struct [(0,9),(1,3)]),2,24,(.agg #[(.string ⟨#[]⟩),(.int .i64 0)])⟩),
(181,⟨(.slice 85),1,24,(.slice none 0 0)⟩),
(186,⟨(.struct [(0,9),(1,3)]),2,24,(.agg #[(.string ⟨#[]⟩),(.int .i64 0)])⟩),
(187,⟨(.struct [(0,9),(1,3)]),2,24,(.agg #[(.string ⟨#[]⟩),(.int .i64 0)])⟩),
(189,⟨(.struct [(0,9),(1,3),(2,106)]),4,48,(.agg #[(.string ⟨#[]⟩),(.int .i64 0),(.string ⟨#[]⟩),(.int .i64 0)])⟩),
(190,⟨(.struct [(0,9),(1,3),(2,106)]),4,48,(.agg #[(.string ⟨#[]⟩),(.int .i64 0),(.string ⟨#[]⟩),(.int .i64 0)])⟩),
(195,⟨(.map 3 3),1,8,(.map none)⟩),
(199,⟨(.struct [(0,3),(1,3),(2,9),(3,3)]),4,40,(.agg #[(.int .i64 0),(.int .i64 0),(.string ⟨#[]⟩),(.int .i64 0)])⟩),
(200,⟨(.struct [(0,3),(1,3),(2,9),(3,3)]),4,40,(.agg #[(.int .i64 0),(.int .i64 0),(.string ⟨#[]⟩),(.int .i64 0)])⟩),
(201,⟨(.slice 207),1,24,(.slice none 0 0)⟩),
(202,⟨(.slice 210),1,24,(.slice none 0 0)⟩),
(203,⟨(.struct [(0,201),(1,202),(2,3)]),3,56,(.agg #[(.slice none 0 0),(.slice none 0 0),(.int .i64 0)])⟩),
(204,⟨(.struct [(0,201),(1,202),(2,3)]),3,56,(.agg #[(.slice none 0 0),(.slice none 0 0),(.int .i64 0)])⟩),
(205,⟨(.int .u16),1,2,(.int .u16 0)⟩),
(206,⟨(.struct [(0,205),(1,205),(2,205)]),3,6,(.agg #[(.int .u16 0),(.int .u16 0),(.int .u16 0)])⟩),
(207,⟨(.struct [(0,205),(1,205),(2,205)]),3,6,(.agg #[(.int .u16 0),(.int .u16 0),(.int .u16 0)])⟩),
(209,⟨(.struct [(0,154),(1,154),(2,154)]),3,12,(.agg #[(.int .u32 0),(.int .u32 0),(.int .u32 0)])⟩),
(210,⟨(.struct [(0,154),(1,154),(2,154)]),3,12,(.agg #[(.int .u32 0),(.int .u32 0),(.int .u32 0)])⟩),
(213,⟨(.arr 20 161),20,160,(.agg #[(.int .u64 0),(.int .u64 0),(.int .u64 0),(.int .u64 0),(.int .u64 0),(.int .u64 0),(.int .u64 0),(.int .u64 0),(.int .u64 0),(.int .u64 0),(.int .u64 0),(.int .u64 0),(.int .u64 0),(.int .u64 0),(.int .u64 0),(.int .u64 0),(.int .u64 0),(.int .u64 0),(.int .u64 0),(.int .u64 0)])⟩),
(214,⟨(.arr 65 5),65,65,(.agg #[(.int .u8 0),(.int .u8 0),(.int .u8 0),(.int .u8 0),(.int .u8 0),(.int .u8 0),(.int .u8 0),(.int .u8 0),(.int .u8 0),(.int .u8 0),(.int .u8 0),(.int .u8 0),(.int .u8 0),(.int .u8 0),(.int .u8 0),(.int .u8 0),(.int .u8 0),(.int .u8 0),(.int .u8 0),(.int .u8 0),(.int .u8 0),(.int .u8 0),(.int .u8 0),(.int .u8 0),(.int .u8 0),(.int .u8 0),(.int .u8 0),(.int .u8 0),(.int .u8 0),(.int .u8 0),(.int .u8 0),(.int .u8 0),(.int .u8 0),(.int .u8 0),(.int .u8 0),(.int .u8 0),(.int .u8 0),(.int .u8 0),(.int .u8 0),(.int .u8 0),(.int .u8 0),(.int .u8 0),(.int .u8 0),(.int .u8 0),(.int .u8 0),(.int .u8 0),(.int .u8 0),(.int .u8 0),(.int .u8 0),(.int .u8 0),(.int .u8 0),(.int .u8 0),(.int .u8 0),(.int .u8 0),(.int .u8 0),(.int .u8 0),(.int .u8 0),(.int .u8 0),(.int .u8 0),(.int .u8 0),(.int .u8 0),(.int .u8 0),(.int .u8 0),(.int .u8 0),(.int .u8 0)])⟩),
(220,⟨(.slice 222),1,24,(.slice none 0 0)⟩),
(221,⟨(.struct [(0,3),(1,3),(2,9),(3,220)]),4,56,(.agg #[(.int .i64 0),(.int .i64 0),(.string ⟨#[]⟩),(.slice none 0 0)])⟩),
(222,⟨(.struct [(0,3),(1,3),(2,9),(3,220)]),4,56,(.agg #[(.int .i64 0),(.int .i64 0),(.string ⟨#[]⟩),(.slice none 0 0)])⟩),
(229,⟨(.ptr 148),1,8,(.pointer none)⟩),
(231,⟨(.ptr 207),1,8,(.pointer none)⟩),
(232,⟨(.ptr 210),1,8,(.pointer none)⟩),
(233,⟨(.struct [(0,5),(1,5)]),2,2,(.agg #[(.int .u8 0),(.int .u8 0)])⟩),
(234,⟨(.struct [(0,5),(1,5)]),2,2,(.agg #[(.int .u8 0),(.int .u8 0)])⟩),
(235,⟨(.arr 16 234),32,32,(.agg #[(.int .u8 0),(.int .u8 0),(.int .u8 0),(.int .u8 0),(.int .u8 0),(.int .u8 0),(.int .u8 0),(.int .u8 0),(.int .u8 0),(.int .u8 0),(.int .u8 0),(.int .u8 0),(.int .u8 0),(.int .u8 0),(.int .u8 0),(.int .u8 0),(.int .u8 0),(.int .u8 0),(.int .u8 0),(.int .u8 0),(.int .u8 0),(.int .u8 0),(.int .u8 0),(.int .u8 0),(.int .u8 0),(.int .u8 0),(.int .u8 0),(.int .u8 0),(.int .u8 0),(.int .u8 0),(.int .u8 0),(.int .u8 0)])⟩),
(237,⟨(.int .i64),1,8,(.int .i64 0)⟩),
(239,⟨(.ptr 252),1,8,(.pointer none)⟩),
(242,⟨(.ptr 244),1,8,(.pointer none)⟩),
(243,⟨(.struct [(0,85),(1,29)]),2,32,(.agg #[(.slice none 0 0),(.int .i64 0)])⟩),
(244,⟨(.struct [(0,85),(1,29)]),2,32,(.agg #[(.slice none 0 0),(.int .i64 0)])⟩),
(248,⟨(.arr 64 5),64,64,(.agg #[(.int .u8 0),(.int .u8 0),(.int .u8 0),(.int .u8 0),(.int .u8 0),(.int .u8 0),(.int .u8 0),(.int .u8 0),(.int .u8 0),(.int .u8 0),(.int .u8 0),(.int .u8 0),(.int .u8 0),(.int .u8 0),(.int .u8 0),(.int .u8 0),(.int .u8 0),(.int .u8 0),(.int .u8 0),(.int .u8 0),(.int .u8 0),(.int .u8 0),(.int .u8 0),(.int .u8 0),(.int .u8 0),(.int .u8 0),(.int .u8 0),(.int .u8 0),(.int .u8 0),(.int .u8 0),(.int .u8 0),(.int .u8 0),(.int .u8 0),(.int .u8 0),(.int .u8 0),(.int .u8 0),(.int .u8 0),(.int .u8 0),(.int .u8 0),(.int .u8 0),(.int .u8 0),(.int .u8 0),(.int .u8 0),(.int .u8 0),(.int .u8 0),(.int .u8 0),(.int .u8 0),(.int .u8 0),(.int .u8 0),(.int .u8 0),(.int .u8 0),(.int .u8 0),(.int .u8 0),(.int .u8 0),(.int .u8 0),(.int .u8 0),(.int .u8 0),(.int .u8 0),(.int .u8 0),(.int .u8 0),(.int .u8 0),(.int .u8 0),(.int .u8 0),(.int .u8 0)])⟩),
(251,⟨(.struct [(0,9),(1,9),(2,55)]),3,48,(.agg #[(.string ⟨#[]⟩),(.string ⟨#[]⟩),.nilIface])⟩),
(252,⟨(.struct [(0,9),(1,9),(2,55)]),3,48,(.agg #[(.string ⟨#[]⟩),(.string ⟨#[]⟩),.nilIface])⟩),
(254,⟨(.slice 259),1,24,(.slice none 0 0)⟩),
(258,⟨(.struct [(0,83),(1,41)]),2,48,(.agg #[(.slice none 0 0),(.slice none 0 0)])⟩),
(259,⟨(.struct [(0,83),(1,41)]),2,48,(.agg #[(.slice none 0 0),(.slice none 0 0)])⟩),
(263,⟨(.ptr 265),1,8,(.pointer none)⟩),
(264,⟨(.struct [(0,9)]),1,16,(.agg #[(.string ⟨#[]⟩)])⟩),
(265,⟨(.struct [(0,9)]),1,16,(.agg #[(.string ⟨#[]⟩)])⟩)]
theorem tabOk:TabOk Tryz.prog tab:=TabOk.of (by kernel_rfl) (by kernel_rfl)
theorem mixed:Tryz.prog.follows .mixedOrders=true:=by kernel_rfl
theorem vcOk {n:Nat} {E:Entry} (c:Code) {Q:Ex→List (Nat×D)→List Ob→Prop} {σ:List (Nat×D)} {L:List Ob} (h:vcK Tryz.prog tab n E c Q σ L):AWP Tryz.prog n E c Q σ L:=awp_vc tabOk mixed c h
abbrev n_pllaw8_DisTurns:Nat:=3
abbrev n_pllaw8_alive:Nat:=4
abbrev n_dis_Text:Nat:=5
abbrev n_asm_Unit:Nat:=6
abbrev n_pllaw8_feeds:Nat:=7
abbrev n_dis_To:Nat:=8
abbrev n_dis_Line:Nat:=9
abbrev n_dis_Text_1:Nat:=10
abbrev n_isa_Decode:Nat:=11
abbrev n_isa_Get:Nat:=12
abbrev n_dis_fine:Nat:=13
abbrev n_isa_Encode:Nat:=14
abbrev n_slices_Contains_int_int:Nat:=15
abbrev n_strings_Builder_WriteString:Nat:=16
abbrev n_dis_name:Nat:=17
abbrev n_strconv_Itoa:Nat:=18
abbrev n_strings_Builder_String:Nat:=19
abbrev n_scan_Lines:Nat:=20
abbrev n_macro_Expand:Nat:=21
abbrev n_asm_Build:Nat:=22
abbrev n_isa_Info:Nat:=23
abbrev n_strings_TrimSpace:Nat:=24
abbrev n_isa_rows:Nat:=25
abbrev n_isa_mask:Nat:=26
abbrev n_isa_uses:Nat:=27
abbrev n_isa_signed:Nat:=28
abbrev n_isa_Wrong:Nat:=29
abbrev n_slices_Index_int_int:Nat:=30
abbrev n_strings_Builder_copyCheck:Nat:=31
abbrev n_strconv_FormatInt:Nat:=32
abbrev n_strings_Split:Nat:=34
abbrev n_scan_Tokens:Nat:=35
abbrev n_macro_maker_lines:Nat:=36
abbrev n_asm_builder_line:Nat:=37
abbrev n_asm_builder_pool:Nat:=38
abbrev n_asm_builder_relax:Nat:=39
abbrev n_asm_builder_emit:Nat:=40
abbrev n_isa_Range:Nat:=44
abbrev n_internal_strconv_FormatInt:Nat:=46
abbrev n_strings_genSplit:Nat:=47
abbrev n_strings_Cut:Nat:=48
abbrev n_scan_reader_run:Nat:=49
abbrev n_scan_Tokens_1:Nat:=50
abbrev n_scan_letter:Nat:=51
abbrev n_scan_Tokens_2:Nat:=52
abbrev n_scan_digit:Nat:=53
abbrev n_scan_reader_number:Nat:=54
abbrev n_scan_reader_sign:Nat:=55
abbrev n_macro_maker_fail:Nat:=56
abbrev n_macro_head:Nat:=57
abbrev n_macro_maker_find:Nat:=60
abbrev n_scan_Own:Nat:=62
abbrev n_asm_builder_label:Nat:=63
abbrev n_asm_builder_fail:Nat:=64
abbrev n_asm_reader_all:Nat:=65
abbrev n_asm_builder_data:Nat:=66
abbrev n_asm_builder_align:Nat:=67
abbrev n_asm_builder_instr:Nat:=68
abbrev n_asm_builder_put:Nat:=69
abbrev n_asm_builder_place:Nat:=70
abbrev n_asm_builder_target:Nat:=71
abbrev n_asm_away:Nat:=72
abbrev n_asm_builder_word:Nat:=73
abbrev n_asm_builder_fill:Nat:=74
abbrev n_asm_up:Nat:=75
abbrev n_asm_builder_half:Nat:=76
abbrev n_slices_IndexFunc_asm_item_asm_item:Nat:=77
abbrev n_asm_builder_emit_1:Nat:=78
abbrev n_asm_builder_lead:Nat:=79
abbrev n_asm_builder_near:Nat:=80
abbrev n_internal_strconv_formatBits:Nat:=88
abbrev n_strings_Count:Nat:=90
abbrev n_strings_Index:Nat:=91
abbrev n_internal_stringslite_Cut:Nat:=92
abbrev n_scan_reader_number_1:Nat:=93
abbrev n_strconv_ParseUint:Nat:=94
abbrev n_strings_Contains:Nat:=95
abbrev n_strings_HasPrefix:Nat:=96
abbrev n_scan_Name:Nat:=101
abbrev n_slices_ContainsFunc_api_Equ_api_Equ:Nat:=102
abbrev n_slices_Index_string_string:Nat:=107
abbrev n_asm_register:Nat:=108
abbrev n_slices_ContainsFunc_api_Sym_api_Sym:Nat:=109
abbrev n_asm_builder_label_1:Nat:=110
abbrev n_asm_builder_label_2:Nat:=111
abbrev n_asm_reader_one:Nat:=112
abbrev n_asm_reader_take:Nat:=113
abbrev n_asm_builder_literal:Nat:=114
abbrev n_asm_shapes:Nat:=115
abbrev n_isa_Find:Nat:=116
abbrev n_asm_builder_size:Nat:=117
abbrev n_slices_IndexFunc_api_Sym_api_Sym:Nat:=118
abbrev n_asm_builder_target_1:Nat:=119
abbrev n_isa_Put:Nat:=120
abbrev n_isa_Signed:Nat:=121
abbrev n_internal_strconv_isPowerOfTwo:Nat:=130
abbrev n_math_bits_TrailingZeros:Nat:=131
abbrev n_internal_stringslite_Index:Nat:=134
abbrev n_internal_strconv_ParseUint:Nat:=135
abbrev n_strconv_toError:Nat:=136
abbrev n_internal_stringslite_HasPrefix:Nat:=137
abbrev n_expr_Parse:Nat:=139
abbrev n_expr_Eval:Nat:=140
abbrev n_slices_IndexFunc_api_Equ_api_Equ:Nat:=141
abbrev n_strconv_Atoi:Nat:=142
abbrev n_asm_reader_value:Nat:=143
abbrev n_slices_Index_api_Value_api_Value:Nat:=144
abbrev n_math_bits_TrailingZeros64:Nat:=147
abbrev n_internal_strconv_lower:Nat:=152
abbrev n_strconv_syntaxError:Nat:=154
abbrev n_strconv_rangeError:Nat:=155
abbrev n_expr_reader_at:Nat:=158
abbrev n_expr_Eval_1:Nat:=159
abbrev n_expr_two:Nat:=160
abbrev n_internal_strconv_Atoi:Nat:=161
abbrev n_expr_levels:Nat:=166
abbrev n_expr_reader_one:Nat:=167
abbrev n_expr_reader_sign:Nat:=168
abbrev n_expr_number:Nat:=169
abbrev n_expr_reader_fail:Nat:=171
end Go.Proofs.YtfahnaccpncdpaaGreatDoor
namespace Go.Proofs.YtfahnaccpncdpaaGreatDoor
open Go Go.Plat
set_option linter.unusedVariables false
set_option linter.unusedSimpArgs false
set_option maxRecDepth 100000
set_option maxHeartbeats 2000000
attribute [local irreducible] AWP Arith BitS BytesS CallS CatS DrawS EndS IdxS LookS LoopEnd Meets ModeS NilS NormL NormM QuoS RemS ShlS ShrS SideS SplitS bitI
theorem ar_eq {k:IntKind} {n m:Int} {K:D→Prop} (h:k.wrap n=m) (hK:K (.int k m)):Arith k n K:=by unfold Arith;rwa [h]
theorem shr_eq {k:IntKind} {x y m:Int} {K:D→Prop} (hy:0≤y) (h:x.fdiv (2 ^ (min y.toNat k.bits))=m) (hK:K (.int k m)):ShrS k x y K:=by unfold ShrS;rw [h];exact ⟨hy,hK⟩
theorem tz_meets:Meets Tryz.prog n_math_bits_TrailingZeros64 (SpecP (fun _:Unit=>True) (fun _=>[.int .u64 16]) fun _=>.int .i64 4):=by
 refine meets_f tabOk Tryz.func147 rfl (by decide) ?_
 rintro _ -
 refine ⟨Nat.le_refl _,by simp [Tryz.f147],fun E hE=>?_⟩
 refine vcOk _ ?_
 (all_goals refine qgp ?_<;>(repeat' first | exact trivial | intro hc | refine And.intro ?_ ?_)<;>refine Lf.mk ?_)
 refine ar_eq (m:=18446744073709551600) (by decide) ?_
 (all_goals refine qgp ?_<;>(repeat' first | exact trivial | intro hc | refine And.intro ?_ ?_)<;>refine Lf.mk ?_)
 refine bit_mk (r:=16) (by kernel_rfl) ?_
 (all_goals refine qgp ?_<;>(repeat' first | exact trivial | intro hc | refine And.intro ?_ ?_)<;>refine Lf.mk ?_)
 refine ar_eq (m:=4573923408821661840) (by decide) ?_
 (all_goals refine qgp ?_<;>(repeat' first | exact trivial | intro hc | refine And.intro ?_ ?_)<;>refine Lf.mk ?_)
 refine shr_eq (m:=15) (by decide) (by decide) ?_
 refine VS.mk ?_
 refine sd_mk (by decide) ?_
 refine VS.mk ?_
 refine ix_rfl (d:=.int .u8 4) (by decide) rfl ?_
 (all_goals refine qgp ?_<;>(repeat' first | exact trivial | intro hc | refine And.intro ?_ ?_)<;>refine Lf.mk ?_)
 exact end_p (VS.mk (LeD.of_eq rfl))
theorem pow_meets:Meets Tryz.prog n_internal_strconv_isPowerOfTwo (SpecP (fun _:Unit=>True) (fun _=>[.int .i64 16]) fun _=>.bool true):=by
 refine meets_f tabOk Tryz.func130 rfl (by decide) ?_
 rintro _ -
 refine ⟨Nat.le_refl _,by simp [Tryz.f130],fun E hE=>?_⟩
 refine vcOk _ ?_
 (all_goals refine qgp ?_<;>(repeat' first | exact trivial | intro hc | refine And.intro ?_ ?_)<;>refine Lf.mk ?_)
 exact end_p (VS.mk (LeD.of_eq rfl))
end Go.Proofs.YtfahnaccpncdpaaGreatDoor
namespace Go.Plat
open Go Go.Sort
set_option linter.unusedVariables false
set_option linter.unusedSimpArgs false
theorem Ext.growL (w:World):∀ (l:List Obj),Ext F0 w (Sort.grow w l.toArray)
 | []=>by rw [show (([]:List Obj).toArray)= #[] from rfl,grow_empty];exact .refl _ _
 | o::l=>by
  have e:Sort.grow w (o::l).toArray=Sort.grow (w.alloc o) l.toArray:=by
   rw [alloc_eq_grow,grow_grow]
   congr 1
   simp
  rw [e]
  exact (Ext.alloc w o).trans0 (Ext.growL _ l)
theorem Ext.growD (w:World) (k:Nat) (os:Array Obj):Ext F0 w (Sort.grow (w.drewN k) os):=by
 have h1:Ext F0 w (w.drewN k):=⟨rfl,rfl,rfl,Nat.le_refl _,fun _ _ _=>rfl,fun _ _ _ _=>rfl,fun _ _ _ _ _ h=>h,fun _ _ h=>h⟩
 have h2:=Ext.growL (w.drewN k) os.toList
 simp only [Array.toArray_toList] at h2
 exact h1.trans0 h2
theorem Ext.below {w w':World} (h:Go.RowKit.Below w.heap.size w w'):Ext F0 w w':=
 ⟨h.os,h.tape,h.output,h.size,fun b hb _=>h.block b hb,fun b off hb _=>by simp only [World.cell?,h.block b hb],fun b off v _ hv hs=>by
   have hb:=h.block b (block_lt hv)
   unfold Soft World.frozen? Clean at hs ⊢
   rw [hb]
   exact hs,fun b s hs=>shape_of (h.block b (shape_lt hs)) hs⟩
theorem GOk.tab {w:World} {F:Nat→Nat→Prop} (h:GOk w F) {P:Program} {name:String} {g:Nat} {ns:List Nat} {k:IntKind} {zs:List Int}
  (hn:P.globalNamed name=some g) (hg:findG globs g=some (ns.map fun n=>D.int k (n:Nat))) (hz:zs=ns.map fun n=>((n:Nat):Int)) (h2:ns≠[]):Lib.TabIs P w name k zs:=by
 obtain ⟨h1,_,⟨row,t,z,h3,h4⟩,_⟩:=h g _ hg
 have hs:row.size=ns.length:=by
  rcases h4 with h4 | h4
  ·rw [h4,List.length_map]
  ·match ns,h2 with
   | n::r,_=>cases h4
 unfold Lib.TabIs World.var?
 rw [hn]
 show (match w.heap[g]? with
  | some (.cells cs _ _)=>some cs
  | _=>none)=_
 rw [h3]
 dsimp only
 congr 1
 apply Array.ext_getElem?
 intro j
 subst hz
 by_cases hj:j < ns.length
 ·have hc:(ns.map fun n=>D.int k (n:Nat))[j]?=some (.int k (ns[j]:Nat)):=by rw [List.getElem?_map,List.getElem?_eq_getElem hj];rfl
  obtain ⟨b,off,e,hv⟩:=(Rep.pure (ρ:=⟨fun _=>⟨0,0,0⟩,fun _ _=>False⟩) (L:=[]) _ _ h1).ptr_inv
  cases e
  obtain ⟨u,h5,_,h6⟩:=hv j _ hc
  cases h6
  rw [Nat.zero_add] at h5
  simp only [World.cell?,h3] at h5
  have h5:row[j]?=_:=h5
  rw [h5]
  simp [hj]
 ·rw [Array.getElem?_eq_none (by omega)]
  simp [Nat.le_of_not_lt hj]
theorem RepL.le {w:World} {F:Nat→Nat→Prop} {ρ:Pl} {L:List Ob} {ds ds':List D} {vs:List Value} (has:LeL ds ds') (hr:RepL w F ρ L ds vs):RepL w F ρ L ds' vs:=by
 refine ⟨hr.1.trans has.1,fun i d v h1 h2=>?_⟩
 have hlt:i < ds.length:=by rw [has.1];exact (List.getElem?_eq_some_iff.1 h1).1
 exact has.2 i _ d (List.getElem?_eq_getElem hlt) h1 _ _ _ _ _ (hr.2 i _ v (List.getElem?_eq_getElem hlt) h2)
theorem meets_lib {P:Program} {f:Nat} {α:Type} {I:α→Prop} {A:α→List D} {R:α→D} (hc:Callable P f)
  (h:∀ p,I p→∀ (w:World) (F:Nat→Nat→Prop),GOk w F→∀ vs:List Value,vs.length=(A p).length→(∀ (i:Nat) d v,(A p)[i]?=some d→vs[i]?=some v→RepP w F d v) →
    Calls P f vs.toArray w fun e w'=>∃ v,e= .returned v∧Ext F0 w w'∧RepP w' F (R p) v):Meets P f (SpecP I A R):=by
 refine ⟨hc,?_⟩
 rintro av L d L' ⟨p,hI,has,rfl,rfl,rfl⟩ w ρ vs hf hr
 have hr:=hr.le has
 refine (h p hI w _ hf.glob vs hr.1 fun i d v h1 h2=>rep_nil (hr.2 i d v h1 h2)).mono ?_
 rintro e w' ⟨v,rfl,he,hv⟩
 exact ⟨v,ρ,rfl,hf.grow he,.pure _ _ hv,he.grow,.refl _ _,.refl _ _⟩
end Go.Plat
namespace Go.Proofs.YtfahnaccpncdpaaGreatDoor
open Go Go.Plat
set_option linter.unusedVariables false
set_option linter.unusedSimpArgs false
set_option maxRecDepth 100000
set_option maxHeartbeats 2000000
attribute [local irreducible] AWP Arith BitS BytesS CallS CatS DrawS EndS IdxS LookS LoopEnd Meets ModeS NilS NormL NormM QuoS RemS ShlS ShrS SideS SplitS bitI
theorem tzs_meets:Meets Tryz.prog n_math_bits_TrailingZeros (SpecP (fun _:Unit=>True) (fun _=>[.int .u64 16]) fun _=>.int .i64 4):=by
 refine meets_f tabOk Tryz.func131 rfl (by decide) ?_
 rintro _ -
 refine ⟨Nat.le_refl _,by simp [Tryz.f131],fun E hE=>?_⟩
 refine vcOk _ ?_
 (all_goals refine qgp ?_<;>(repeat' first | exact trivial | intro hc | refine And.intro ?_ ?_)<;>refine Lf.mk ?_)
 refine call_p tz_meets () trivial (VS.mk (LeL.of_eq rfl)) ?_
 (all_goals refine qgp ?_<;>(repeat' first | exact trivial | intro hc | refine And.intro ?_ ?_)<;>refine Lf.mk ?_)
 exact end_p (VS.mk (LeD.of_eq rfl))
def digH (n:Nat):UInt8:=if n < 10 then UInt8.ofNat (48+n) else UInt8.ofNat (87+n)
def hexR:Nat→Nat→List UInt8→List UInt8
 | 0,u,acc=>digH u::acc
 | f+1,u,acc=>if u < 16 then digH u::acc else hexR f (u / 16) (digH (u % 16)::acc)
def hexI (n:Int):List UInt8:=if n < 0 then 45::hexR 15 n.natAbs [] else hexR 15 n.toNat []
theorem and15u (u:Nat) (h:u < 18446744073709551616):bitI .and .u64 (u:Int) 15=((u % 16:Nat):Int):=by
 unfold bitI
 have e1:(BitVec.ofInt IntKind.u64.bits (15:Int)).toNat=15:=by decide
 have e2:(BitVec.ofInt IntKind.u64.bits (u:Int)).toNat=u:=by
  have:IntKind.u64.bits=64:=rfl
  rw [this,BitVec.ofInt_natCast,BitVec.toNat_ofNat]
  omega
 dsimp only
 rw [BitVec.toNat_and,e1,e2,show (15:Nat)=2 ^ 4 - 1 from rfl,Nat.and_two_pow_sub_one_eq_mod,IntKind.wrap_u64]
 omega
theorem dig_at {k:Nat} (h:k < 16):(([48,49,50,51,52,53,54,55,56,57,97,98,99,100,101,102,103,104,105,106,107,108,109,110,111,112,113,114,115,116,117,118,119,120,121,122]:List UInt8).getD k 0)=digH k:=by
 have:∀ k:Fin 16,(([48,49,50,51,52,53,54,55,56,57,97,98,99,100,101,102,103,104,105,106,107,108,109,110,111,112,113,114,115,116,117,118,119,120,121,122]:List UInt8).getD k.1 0)=digH k.1:=by decide
 exact this ⟨k,h⟩
theorem set_drop {α:Type} (x:α):∀ (l:List α) (i:Nat),i < l.length→(l.set i x).drop i=x::l.drop (i+1)
 | _::_,0,_=>rfl
 | _::l,i+1,h=>set_drop x l i (by simpa using h)
 | [],i,h=>absurd h (Nat.not_lt_zero _)
theorem hex_end {f u:Nat} {acc:List UInt8} (h:u < 16):hexR f u acc=digH u::acc:=by
 cases f with
 | zero=>rfl
 | succ f=>rw [hexR,if_pos h]
theorem put_dig {ds:List D} {acc:List UInt8} {k:Nat} {c:UInt8} (h4:ds.length=65) (h5:ds.drop (65 - acc.length)=acc.map byteD) (ha:acc.length≤16) (hk:k < 16) :
  [Ob.cells (ds.set (0+(65 - (acc.length:Int) - 1).toNat * 1) (D.int .u8 ((([48,49,50,51,52,53,54,55,56,57,97,98,99,100,101,102,103,104,105,106,107,108,109,110,111,112,113,114,115,116,117,118,119,120,121,122]:List UInt8).getD ((k:Nat):Int).toNat 0).toNat:Int)))]=[Ob.cells (ds.set (64 - acc.length) (byteD (digH k)))] ∧
  (ds.set (64 - acc.length) (byteD (digH k))).length=65∧(ds.set (64 - acc.length) (byteD (digH k))).drop (65 - (digH k::acc).length)=(digH k::acc).map byteD:=by
 refine ⟨?_,by rw [List.length_set];exact h4,?_⟩
 ·rw [Int.toNat_natCast,dig_at hk,show 0+(65 - (acc.length:Int) - 1).toNat * 1=64 - acc.length by omega]
  rfl
 ·rw [List.length_cons,show 65 - (acc.length+1)=64 - acc.length by omega,set_drop _ _ _ (by omega),show 64 - acc.length+1=65 - acc.length by omega,h5]
  rfl
theorem bytes_of {ds:List D} {l:List UInt8} {K:D→Prop} (h:ds=l.map byteD) (hK:K (.str l)):BytesS ds K:=by
 subst h
 exact bytes_mk hK
theorem fbits_meets:Meets Tryz.prog n_internal_strconv_formatBits (SpecP (fun n:Int=>-1000000000≤n∧n≤1000000000) (fun n=>[.nilsl,.int .u64 (n % 18446744073709551616),.int .i64 16,.bool (decide (n < 0)),.ff]) fun n=>.tup [.nilsl,.str (hexI n)]):=by
 refine meets_f tabOk Tryz.func88 rfl (by decide) ?_
 rintro n ⟨hn0,hn1⟩
 have hn0: -1000000000≤n:=hn0
 have hn1:n≤1000000000:=hn1
 refine ⟨Nat.le_refl _,by simp [Tryz.f88],fun E hE=>?_⟩
 have hE0:E.L.length=0:=by rw [hE];rfl
 have hh:(n < 0→hexI n=45::hexR 15 n.natAbs [])∧(¬ n < 0→hexI n=hexR 15 n.natAbs []):=by
  unfold hexI
  exact ⟨fun h=>by rw [if_pos h],fun h=>by rw [if_neg h,show n.toNat=n.natAbs by omega]⟩
 refine awp_seqK (vcOk _ ?_)
 (all_goals refine qgp ?_<;>(repeat' first | exact trivial | intro hc | refine And.intro ?_ ?_)<;>refine Lf.mk ?_)
 refine awp_seqK (vcOk _ ?_)
 (all_goals refine qgp ?_<;>(repeat' first | exact trivial | intro hc | refine And.intro ?_ ?_)<;>refine Lf.mk ?_)
 all_goals refine awp_seqK (vcOk _ ?_)
 all_goals (all_goals refine qgp ?_<;>(repeat' first | exact trivial | intro hc | refine And.intro ?_ ?_)<;>refine Lf.mk ?_)
 all_goals first
  | (exfalso;omega)
  | skip
 refine awp_seqK (vcOk _ ?_)
 (all_goals refine qgp ?_<;>(repeat' first | exact trivial | intro hc | refine And.intro ?_ ?_)<;>refine Lf.mk ?_)
 generalize hds:List.map constD _=ds
 have hdl:ds.length=65:=by rw [← hds];rfl
 clear hds
 refine awp_cut (α:=Unit) (fun _=>True) (fun _=>[(1,.int .u64 (n.natAbs:Int)),(2,.int .i64 16),(3,.bool (decide (n < 0))),(4,.ff),(10,.nilsl),(12,.loc 0 0),(13,.int .i64 65)]) (fun _=>[.cells ds]) (vcOk _ ?_) (fun _ _=>?_)
 ·(all_goals refine qgp ?_<;>(repeat' first | exact trivial | intro hc | refine And.intro ?_ ?_)<;>refine Lf.mk ?_)
  ·refine ar_eq (m:=(n.natAbs:Int)) (by rw [IntKind.wrap_u64];omega) ?_
   (all_goals refine qgp ?_<;>(repeat' first | exact trivial | intro hc | refine And.intro ?_ ?_)<;>refine Lf.mk ?_)
   exact ⟨(),trivial,weak_same rfl ⟨rfl,rfl,rfl,rfl,rfl,rfl,rfl,trivial⟩⟩
  ·exact ⟨(),trivial,weak_same rfl ⟨congrArg (D.int .u64) (by omega:n % 18446744073709551616=(n.natAbs:Int)),rfl,rfl,rfl,rfl,rfl,rfl,trivial⟩⟩
 have hu:n.natAbs < 16 ^ 16:=Nat.lt_of_le_of_lt (show n.natAbs≤1000000000 by omega) (by decide)
 generalize n.natAbs=u0 at *
 refine awp_cut (α:=Nat×List D) (fun (i,ds)=>1≤i∧i+(hexR 15 u0 []).length=65∧ds.length=65∧ds.drop i=(hexR 15 u0 []).map byteD) (fun (i,_)=>[(3,.bool (decide (n < 0))),(4,.ff),(10,.nilsl),(12,.loc 0 0),(13,.int .i64 (i:Int))]) (fun (_,ds)=>[.cells ds]) (vcOk _ ?_) ?_
 ·(all_goals refine qgp ?_<;>(repeat' first | exact trivial | intro hc | refine And.intro ?_ ?_)<;>refine Lf.mk ?_)
  refine call_p pow_meets () trivial (VS.mk (LeL.of_eq rfl)) ?_
  (all_goals refine qgp ?_<;>(repeat' first | exact trivial | intro hc | refine And.intro ?_ ?_)<;>refine Lf.mk ?_)
  (any_goals (first | (exfalso;refine Bool.false_ne_true ?_;assumption) | (exfalso;refine Bool.false_ne_true (Eq.symm ?_);assumption) | (exfalso;refine absurd trivial ?_;assumption) | skip))
  refine ar_eq (m:=16) (by decide) ?_
  (all_goals refine qgp ?_<;>(repeat' first | exact trivial | intro hc | refine And.intro ?_ ?_)<;>refine Lf.mk ?_)
  refine call_p tzs_meets () trivial (VS.mk (LeL.of_eq rfl)) ?_
  (all_goals refine qgp ?_<;>(repeat' first | exact trivial | intro hc | refine And.intro ?_ ?_)<;>refine Lf.mk ?_)
  refine ar_eq (m:=4) (by decide) ?_
  (all_goals refine qgp ?_<;>(repeat' first | exact trivial | intro hc | refine And.intro ?_ ?_)<;>refine Lf.mk ?_)
  refine ar_eq (m:=16) (by decide) ?_
  (all_goals refine qgp ?_<;>(repeat' first | exact trivial | intro hc | refine And.intro ?_ ?_)<;>refine Lf.mk ?_)
  refine ar_eq (m:=16) (by decide) ?_
  (all_goals refine qgp ?_<;>(repeat' first | exact trivial | intro hc | refine And.intro ?_ ?_)<;>refine Lf.mk ?_)
  refine ar_eq (m:=15) (by decide) ?_
  (all_goals refine qgp ?_<;>(repeat' first | exact trivial | intro hc | refine And.intro ?_ ?_)<;>refine Lf.mk ?_)
  refine awp_loopW (α:=Nat×Nat×List UInt8×List D) (fun (f,u,acc,ds)=>hexR f u acc=hexR 15 u0 []∧u < 16 ^ (f+1)∧acc.length+f=15∧ds.length=65∧ds.drop (65 - acc.length)=acc.map byteD)
   (fun (_,u,acc,_)=>[(1,.int .u64 (u:Int)),(3,.bool (decide (n < 0))),(4,.ff),(10,.nilsl),(12,.loc 0 0),(13,.int .i64 (65 - (acc.length:Int))),(14,.int .u64 4),(15,.int .u64 16),(16,.int .u64 15)]) (fun (_,_,_,ds)=>[.cells ds]) (fun (f,_)=>f) (fun _=>by rw [hE0];exact Nat.zero_le _) (15,u0,[],ds) ⟨rfl,hu,rfl,hdl,by rw [List.drop_of_length_le (by show ds.length≤65 - 0;omega)];rfl⟩ ?_ ?_
  ·exact weak_same rfl ⟨rfl,rfl,rfl,rfl,rfl,rfl,rfl,rfl,rfl,trivial⟩
  rintro ⟨f,u,acc,ds⟩ ⟨h1,h2,h3,h4,h5⟩
  have h3:acc.length+f=15:=h3
  have h2:u < 16 ^ (f+1):=h2
  dsimp only at h1 h4 h5 ⊢
  refine vcOk _ ?_
  (all_goals refine qgr ?_<;>(repeat' first | exact trivial | intro hc | refine And.intro ?_ ?_)<;>refine Lf.mk ?_)
  ·have hu64:u < 18446744073709551616:=Nat.lt_of_lt_of_le h2 (Nat.le_trans (Nat.pow_le_pow_right (by decide) (show f+1≤16 by omega)) (by decide))
   have hk:u % 16 < 16:=Nat.mod_lt _ (by decide)
   refine bit_mk (and15u u hu64) ?_
   (all_goals refine qgr ?_<;>(repeat' first | exact trivial | intro hc | refine And.intro ?_ ?_)<;>refine Lf.mk ?_)
   have hul:16≤u:=by omega
   cases f with
   | zero=>exact absurd (show u < 16 from h2) (by omega)
   | succ f=>
    obtain ⟨q1,q2,q3⟩:=put_dig (c:=0) h4 h5 (by omega) hk
    rw [hexR,if_neg (by omega)] at h1
    have hpw:16 ^ (f+1+1)=16 ^ (f+1) * 16:=Nat.pow_succ _ _
    exact loop_same (f,u / 16,digH (u % 16)::acc,ds.set (64 - acc.length) (byteD (digH (u % 16)))) ⟨h1,by show u / 16 < 16 ^ (f+1);omega,by show (digH (u % 16)::acc).length+f=15;rw [List.length_cons];omega,q2,q3⟩ (Nat.lt_succ_self _) q1
     ⟨congrArg (D.int .u64) (by show (u:Int) / 16=((u / 16:Nat):Int);omega),rfl,rfl,rfl,rfl,congrArg (D.int .i64) (by show 65 - (acc.length:Int) - 1=65 - (((digH (u % 16)::acc).length:Nat):Int);rw [List.length_cons];omega),rfl,rfl,rfl,trivial⟩
  ·have hul:u < 16:=by omega
   obtain ⟨q1,q2,q3⟩:=put_dig (c:=0) h4 h5 (by omega) hul
   rw [hex_end hul] at h1
   have hl:(digH u::acc).length=acc.length+1:=List.length_cons
   refine ⟨(64 - acc.length,ds.set (64 - acc.length) (byteD (digH u))),⟨by show 1≤64 - acc.length;omega,by show 64 - acc.length+(hexR 15 u0 []).length=65;rw [← h1,hl];omega,q2,by show (ds.set (64 - acc.length) (byteD (digH u))).drop (64 - acc.length)=_;rw [← h1,← q3,hl,show 65 - (acc.length+1)=64 - acc.length by omega]⟩,weak_same q1 ⟨rfl,rfl,rfl,rfl,congrArg (D.int .i64) (by show 65 - (acc.length:Int) - 1=((64 - acc.length:Nat):Int);omega),trivial⟩⟩
 ·rintro ⟨i,ds⟩ ⟨g1,g2,g3,g4⟩
  have g1:1≤i:=g1
  have g2:i+(hexR 15 u0 []).length=65:=g2
  dsimp only at g3 g4 ⊢
  refine vcOk _ ?_
  (all_goals refine qgr ?_<;>(repeat' first | exact trivial | intro hc | refine And.intro ?_ ?_)<;>refine Lf.mk ?_)
  ·have e1:((i:Int) - 1).toNat=i - 1:=by omega
   refine bytes_of (l:=hexI n) ?_ ?_
   ·dsimp only
    rw [hh.1 hc,e1,Nat.zero_add,Nat.mul_one,Nat.zero_add,set_drop _ _ _ (by rw [g3];omega),show i - 1+1=i by omega,g4,List.take_of_length_le (by rw [List.length_cons,List.length_map];show _≤65 - (i - 1);omega)]
    rfl
   ·(all_goals refine qgp ?_<;>(repeat' first | exact trivial | intro hc | refine And.intro ?_ ?_)<;>refine Lf.mk ?_)
    exact end_p (VS.mk (LeD.of_eq rfl))
  ·refine bytes_of (l:=hexI n) ?_ ?_
   ·rw [hh.2 hc,Nat.zero_add,show ((i:Nat):Int).toNat=i from Int.toNat_natCast i,g4,List.take_of_length_le (by rw [List.length_map];show _≤65 - i;omega)]
   ·(all_goals refine qgp ?_<;>(repeat' first | exact trivial | intro hc | refine And.intro ?_ ?_)<;>refine Lf.mk ?_)
    exact end_p (VS.mk (LeD.of_eq rfl))
attribute [local irreducible] hexI
theorem ifmt_meets:Meets Tryz.prog n_internal_strconv_FormatInt (SpecP (fun n:Int=>-1000000000≤n∧n≤1000000000) (fun n=>[.int .i64 n,.int .i64 16]) fun n=>.str (hexI n)):=by
 refine meets_f tabOk Tryz.func46 rfl (by decide) ?_
 rintro n ⟨hn0,hn1⟩
 have hn0: -1000000000≤n:=hn0
 have hn1:n≤1000000000:=hn1
 refine ⟨Nat.le_refl _,by simp [Tryz.f46],fun E hE=>?_⟩
 refine vcOk _ ?_
 (all_goals refine qgp ?_<;>(repeat' first | exact trivial | intro hc | refine And.intro ?_ ?_)<;>refine Lf.mk ?_)
 refine ar_eq (m:=n % 18446744073709551616) (IntKind.wrap_u64 _) ?_
 (all_goals refine qgp ?_<;>(repeat' first | exact trivial | intro hc | refine And.intro ?_ ?_)<;>refine Lf.mk ?_)
 refine call_p fbits_meets n ⟨hn0,hn1⟩ (VS.mk (LeL.of_eq rfl)) ?_
 (all_goals refine qgp ?_<;>(repeat' first | exact trivial | intro hc | refine And.intro ?_ ?_)<;>refine Lf.mk ?_)
 exact end_p (VS.mk (LeD.of_eq rfl))
theorem fmt_meets:Meets Tryz.prog n_strconv_FormatInt (SpecP (fun n:Int=>-1000000000≤n∧n≤1000000000) (fun n=>[.int .i64 n,.int .i64 16]) fun n=>.str (hexI n)):=by
 refine meets_f tabOk Tryz.func32 rfl (by decide) ?_
 rintro n hn
 refine ⟨Nat.le_refl _,by simp [Tryz.f32],fun E hE=>?_⟩
 refine vcOk _ ?_
 (all_goals refine qgp ?_<;>(repeat' first | exact trivial | intro hc | refine And.intro ?_ ?_)<;>refine Lf.mk ?_)
 refine call_p ifmt_meets n hn (VS.mk (LeL.of_eq rfl)) ?_
 (all_goals refine qgp ?_<;>(repeat' first | exact trivial | intro hc | refine And.intro ?_ ?_)<;>refine Lf.mk ?_)
 exact end_p (VS.mk (LeD.of_eq rfl))
theorem hexR_len:∀ (f u:Nat) (acc:List UInt8),(hexR f u acc).length≤acc.length+f+1
 | 0,u,acc=>by rw [hexR,List.length_cons];omega
 | f+1,u,acc=>by
  rw [hexR]
  split
  ·rw [List.length_cons];omega
  ·have:=hexR_len f (u / 16) (digH (u % 16)::acc)
   rw [List.length_cons] at this
   omega
theorem hexI_len (n:Int):(hexI n).length≤17:=by
 unfold hexI
 split
 ·have:=hexR_len 15 n.natAbs []
  rw [List.length_cons]
  simp only [List.length_nil] at this
  omega
 ·have:=hexR_len 15 n.toNat []
  simp only [List.length_nil] at this
  omega
def nameH (n:Int):List UInt8:=120::hexI n
theorem dname_meets:Meets Tryz.prog n_dis_name (SpecP (fun n:Int=>-1000000000≤n∧n≤1000000000) (fun n=>[.int .i64 n]) fun n=>.str (nameH n)):=by
 refine meets_f tabOk Tryz.func17 rfl (by decide) ?_
 rintro n hn
 have hl:=hexI_len n
 refine ⟨Nat.le_refl _,by simp [Tryz.f17],fun E hE=>?_⟩
 refine vcOk _ ?_
 (all_goals refine qgp ?_<;>(repeat' first | exact trivial | intro hc | refine And.intro ?_ ?_)<;>refine Lf.mk ?_)
 refine call_p fmt_meets n hn (VS.mk (LeL.of_eq rfl)) ?_
 (all_goals refine qgp ?_<;>(repeat' first | exact trivial | intro hc | refine And.intro ?_ ?_)<;>refine Lf.mk ?_)
 refine cat_mk (by show ((1+(hexI n).length:Nat):Int)≤9223372036854775807;omega) ?_
 (all_goals refine qgp ?_<;>(repeat' first | exact trivial | intro hc | refine And.intro ?_ ?_)<;>refine Lf.mk ?_)
 exact end_p (VS.mk (LeD.of_eq rfl))
end Go.Proofs.YtfahnaccpncdpaaGreatDoor
namespace Go.Proofs.YtfahnaccpncdpaaGreatDoor
open Go Go.Plat
set_option linter.unusedVariables false
set_option linter.unusedSimpArgs false
set_option maxRecDepth 100000
set_option maxHeartbeats 2000000
attribute [local irreducible] AWP Arith BitS BytesS CallS CatS DrawS EndS IdxS LookS LoopEnd Meets ModeS NilS NormL NormM QuoS RemS ShlS ShrS SideS SplitS bitI
def letterB (c:UInt8):Bool:=decide (97≤c.toNat∧c.toNat≤122∨65≤c.toNat∧c.toNat≤90∨c.toNat=95∨c.toNat=46)
def digitB (c:UInt8):Bool:=decide (48≤c.toNat∧c.toNat≤57)
def kindB (c:UInt8):Int:=if letterB c=true then 97 else if digitB c=true then 48 else if c.toNat=32∨c.toNat=9∨c.toNat=13 then 32 else 0
theorem letter_meets:Meets Tryz.prog n_scan_letter (SpecP (fun _:UInt8=>True) (fun c=>[byteD c]) fun c=>.bool (letterB c)):=by
 refine meets_f tabOk Tryz.func51 rfl (by decide) fun c _=>?_
 refine ⟨Nat.le_refl _,by simp [Tryz.f51],fun E hE=>?_⟩
 refine vcOk _ ?_
 (all_goals refine qgo ?_<;>(repeat' first | exact trivial | intro hc | refine And.intro ?_ ?_)<;>refine Lf.mk ?_)
 all_goals first
  | (refine end_p (VS.mk (LeD.tt ?_));unfold letterB;rw [decide_eq_true_eq];omega)
  | (refine end_p (VS.mk (LeD.ff ?_));unfold letterB;rw [decide_eq_false_iff_not];omega)
  | (refine end_p (VS.mk (LeD.of_eq (congrArg D.bool ?_)));unfold letterB;rw [Bool.eq_iff_iff];simp only [beq_iff_eq,decide_eq_true_eq];omega)
theorem digit_meets:Meets Tryz.prog n_scan_digit (SpecP (fun _:UInt8=>True) (fun c=>[byteD c]) fun c=>.bool (digitB c)):=by
 refine meets_f tabOk Tryz.func53 rfl (by decide) fun c _=>?_
 refine ⟨Nat.le_refl _,by simp [Tryz.f53],fun E hE=>?_⟩
 refine vcOk _ ?_
 (all_goals refine qgo ?_<;>(repeat' first | exact trivial | intro hc | refine And.intro ?_ ?_)<;>refine Lf.mk ?_)
 all_goals first
  | (refine end_p (VS.mk (LeD.tt ?_));unfold digitB;rw [decide_eq_true_eq];omega)
  | (refine end_p (VS.mk (LeD.ff ?_));unfold digitB;rw [decide_eq_false_iff_not];omega)
  | (refine end_p (VS.mk (LeD.of_eq (congrArg D.bool ?_)));unfold digitB;rw [Bool.eq_iff_iff];simp only [beq_iff_eq,decide_eq_true_eq];omega)
def nameB (s:List UInt8):Bool:=decide (1≤s.length∧s.length≤10) && letterB (s.getD 0 0) && s.all fun c=>(letterB c || digitB c) && !(c==46)
def okC (c:UInt8):Bool:=(letterB c || digitB c) && !(c==46)
attribute [local irreducible] letterB digitB kindB
theorem all_take {p:UInt8→Bool} {s:List UInt8} {k:Nat} (hk:k < s.length):(s.take (k+1)).all p=((s.take k).all p && p (s.getD k 0)):=by
 rw [List.take_succ_eq_append_getElem hk,List.all_append]
 simp [List.getD_eq_getElem?_getD,List.getElem?_eq_getElem hk]
theorem all_stop {p:UInt8→Bool} {s:List UInt8} {k:Nat} (hk:k < s.length) (h:p (s.getD k 0)=false):s.all p=false:=by
 rw [← List.take_append_drop k s,List.all_append,List.drop_eq_getElem_cons hk]
 have:s.getD k 0=s[k]:=by simp [List.getD_eq_getElem?_getD,List.getElem?_eq_getElem hk]
 rw [this] at h
 rw [List.all_cons,h,Bool.false_and,Bool.and_false]
theorem name_any:Meets Tryz.prog n_scan_Name (SpecP (fun _:List UInt8=>True) (fun s=>[.str s]) fun s=>.bool (nameB s)):=by
 refine meets_f tabOk Tryz.func101 rfl (by decide) fun s _=>?_
 refine ⟨Nat.le_refl _,by simp [Tryz.f101],fun E hE=>?_⟩
 refine vcOk _ ?_
 (all_goals refine qgo ?_<;>(repeat' first | exact trivial | intro hc | refine And.intro ?_ ?_)<;>refine Lf.mk ?_)
 ·refine end_p (VS.mk (LeD.ff ?_))
  unfold nameB
  rw [decide_eq_false (by omega)]
  rfl
 ·refine end_p (VS.mk (LeD.ff ?_))
  unfold nameB
  rw [decide_eq_false (by omega)]
  rfl
 ·refine end_p (VS.mk (LeD.ff ?_))
  have e:okC (s.getD 0 0)=false:=by
   have:s.getD 0 0=46:=UInt8.toNat_inj.1 (by exact_mod_cast hc)
   rw [this]
   unfold okC
   rw [Bool.and_eq_false_iff]
   exact .inr rfl
  have h2:s.all okC=false:=all_stop (k:=0) (by omega) e
  show (_ && _ && s.all okC)=false
  rw [h2,Bool.and_false]
 refine call_p letter_meets (s.getD 0 0) trivial (VS.mk (LeL.of_eq rfl)) ?_
 (all_goals refine qgo ?_<;>(repeat' first | exact trivial | intro hc | refine And.intro ?_ ?_)<;>refine Lf.mk ?_)
 ·refine end_p (VS.mk (LeD.ff ?_))
  show (_ && letterB (s.getD 0 0) && _)=false
  rw [hc,Bool.and_false,Bool.false_and]
 have hl0:letterB (s.getD 0 0)=true:=by assumption
 refine awp_loop (α:=Nat) (fun k=>k≤s.length∧(s.take k).all okC=true) (fun k=>[(0,.str s),(24,.int .i64 s.length),(25,.int .i64 k)]) (fun _=>[]) (fun k=>s.length - k) (fun _=>by simp [hE]) 0 ⟨Nat.zero_le _,by simp⟩ ?_ ?_
 ·(repeat' (first | (refine VS.mk ?_) | exact trivial | exact rfl | refine And.intro ?_ ?_))
 rintro k ⟨hk,hall⟩
 refine vcOk _ ?_
 (all_goals refine qgo ?_<;>(repeat' first | exact trivial | intro hc | refine And.intro ?_ ?_)<;>refine Lf.mk ?_)
 ·have hidx:((k:Int)).toNat=k:=Int.toNat_natCast k
  have hk':k < s.length:=by omega
  have hst:=all_take (p:=okC) hk'
  have hsp:=all_stop (p:=okC) hk'
  have hok:okC (s.getD k 0)=((letterB (s.getD k 0) || digitB (s.getD k 0)) && !(s.getD k 0==46)):=rfl
  have h46:(((s.getD k 0).toNat:Nat):Int)=46→okC (s.getD k 0)=false:=fun h=>by
   have:s.getD k 0=46:=UInt8.toNat_inj.1 (by exact_mod_cast h)
   rw [hok,this]
   rw [Bool.and_eq_false_iff]
   exact .inr rfl
  have n46:¬ (((s.getD k 0).toNat:Nat):Int)=46→(s.getD k 0==46)=false:=fun h=>beq_eq_false_iff_ne.2 fun e=>h (by rw [e];rfl)
  have bad:okC (s.getD k 0)=false→nameB s=false:=fun h=>by
   show (_ && letterB (s.getD 0 0) && s.all okC)=false
   rw [hsp h,Bool.and_false]
  refine call_p letter_meets (s.getD k 0) trivial (VS.mk (LeL.of_eq (by rw [hidx];rfl))) ?_
  (all_goals refine qgo ?_<;>(repeat' first | exact trivial | intro hc | refine And.intro ?_ ?_)<;>refine Lf.mk ?_)
  ·refine call_p digit_meets (s.getD k 0) trivial (VS.mk (LeL.of_eq (by rw [hidx];rfl))) ?_
   (all_goals refine qgo ?_<;>(repeat' first | exact trivial | intro hc | refine And.intro ?_ ?_)<;>refine Lf.mk ?_)
   ·refine end_p (VS.mk (LeD.ff (bad ?_)))
    rw [hok,(by assumption:letterB (s.getD k 0)=false),(by assumption:digitB (s.getD k 0)=false)]
    rfl
   ·rw [hidx] at hc
    exact end_p (VS.mk (LeD.ff (bad (h46 hc))))
   ·rw [hidx] at hc
    refine loop_end (k+1) ⟨by omega,?_⟩ (by omega) ?_
    rotate_left
    ·rw [hst,hall,hok,(by assumption:digitB (s.getD k 0)=true),n46 hc,Bool.or_true]
     rfl
    ·(repeat' (first | (refine VS.mk ?_) | exact trivial | exact rfl | refine And.intro ?_ ?_))
  ·rw [hidx] at hc
   exact end_p (VS.mk (LeD.ff (bad (h46 hc))))
  ·rw [hidx] at hc
   refine loop_end (k+1) ⟨by omega,?_⟩ (by omega) ?_
   rotate_left
   ·rw [hst,hall,hok,(by assumption:letterB (s.getD k 0)=true),n46 hc]
    rfl
   ·(repeat' (first | (refine VS.mk ?_) | exact trivial | exact rfl | refine And.intro ?_ ?_))
 ·refine end_p (VS.mk (LeD.tt ?_))
  rw [List.take_of_length_le (by omega)] at hall
  show (_ && letterB (s.getD 0 0) && s.all okC)=true
  rw [hl0,hall,decide_eq_true (by omega)]
  rfl
theorem meets_sub {P:Program} {f:Nat} {α:Type} {I J:α→Prop} {A:α→List D} {R:α→D} (h:Meets P f (SpecP I A R)) (hJ:∀ p,J p→I p):Meets P f (SpecP J A R):=
 by
 unfold Meets at h ⊢
 exact ⟨h.1,fun av L d M ⟨p,hp,hr⟩=>h.2 av L d M ⟨p,hJ p hp,hr⟩⟩
theorem name_meets:Meets Tryz.prog n_scan_Name (SpecP (fun s:List UInt8=>s.length≤1000000000) (fun s=>[.str s]) fun s=>.bool (nameB s)):=meets_sub name_any fun _ _=>trivial
attribute [local irreducible] okC
def digV (b:Int) (c:UInt8):Int:=
 if 48≤c.toNat∧c.toNat≤57 then (c.toNat:Int) - 48 else if b=16∧97≤c.toNat∧c.toNat≤102 then (c.toNat:Int) - 97+10
 else if b=16∧65≤c.toNat∧c.toNat≤70 then (c.toNat:Int) - 65+10 else -1
theorem dig_lt (b:Int) (c:UInt8): -1≤digV b c∧digV b c≤15:=by
 unfold digV
 repeat' split
 all_goals omega
def numF (b:Int):List UInt8→Int→Option Int
 | [],n=>some n
 | c::r,n=>if digV b c < 0∨4294967295 < n then none else numF b r (n * b+digV b c)
def numFin (ds:List UInt8):Option Int→Int×Bool
 | none=>(0,false)
 | some n=>(n,decide (n < 4294967296∧ds≠[]))
def numRb (b:Int) (ds:List UInt8):Int×Bool:=numFin ds (numF b ds 0)
def numR (w:List UInt8):Int×Bool:=if 2 < w.length∧w.take 2=[48,120] then numRb 16 (w.drop 2) else numRb 10 w
theorem drop_cons {α:Type} {l:List α} {k:Nat} {d:α} (h:k < l.length):l.drop k=l.getD k d::l.drop (k+1):=by
 rw [List.drop_eq_getElem_cons h,List.getD_eq_getElem?_getD,List.getElem?_eq_getElem h];rfl
attribute [local irreducible] digV
theorem dig_def (b:Int) (c:UInt8):(48≤c.toNat∧c.toNat≤57→digV b c=(c.toNat:Int) - 48)∧(b=16∧97≤c.toNat∧c.toNat≤102→digV b c=(c.toNat:Int) - 87)
  ∧ (b=16∧65≤c.toNat∧c.toNat≤70→digV b c=(c.toNat:Int) - 55)∧(¬ (48≤c.toNat∧c.toNat≤57)∧¬ (b=16∧97≤c.toNat∧c.toNat≤102)∧¬ (b=16∧65≤c.toNat∧c.toNat≤70)→digV b c= -1):=by
 unfold digV
 refine ⟨fun h=>by rw [if_pos h],fun h=>by rw [if_neg (by omega),if_pos h];omega,fun h=>by rw [if_neg (by omega),if_neg (by omega),if_pos h];omega,fun h=>by rw [if_neg h.1,if_neg h.2.1,if_neg h.2.2]⟩
structure LTok where
 kind:Int
 n:Int
 text:List UInt8
def ltokD (t:LTok):D:=.agg [.int .i64 t.kind,.int .i64 t.n,.str t.text]
def wordC (c:UInt8):Bool:=decide (kindB c=97) || decide (kindB c=48) || c==47
def numC (c:UInt8):Bool:=(decide (kindB c=97) && !(c==46)) || decide (kindB c=48)
def spanF (p:UInt8→Bool):List UInt8→Nat
 | []=>0
 | c::r=>if p c=true then spanF p r+1 else 0
def signsB:List UInt8:=[58,44,35,64,40,41,43,45,42,38,124,126,61]
def lexF:Nat→List UInt8→List LTok→Option (List LTok)
 | 0,_,out=>some out
 | _+1,[],out=>some out
 | f+1,c::r,out=>
  if kindB c=32 then lexF f r out
  else if kindB c=97 then lexF f ((c::r).drop (spanF wordC (c::r))) (out++[⟨1,0,(c::r).take (spanF wordC (c::r))⟩])
  else if kindB c=48 then (if (numR ((c::r).take (spanF numC (c::r)))).2=true then
    lexF f ((c::r).drop (spanF numC (c::r))) (out++[⟨2,(numR ((c::r).take (spanF numC (c::r)))).1,[]⟩]) else none)
  else if c=59 then some out
  else if (c::r).take 2=[60,60]∨(c::r).take 2=[62,62] then lexF f (r.drop 1) (out++[⟨3,0,(c::r).take 2⟩])
  else if signsB.contains c=true then lexF f r (out++[⟨3,0,[c]⟩]) else none
def lexR (s:List UInt8):List LTok×Int:=if 80 < s.length then ([],4) else match lexF (s.length+1) s [] with
 | some l=>(l,0)
 | none=>([],2)
theorem span_le (p:UInt8→Bool):∀ l,spanF p l≤l.length
 | []=>Nat.le_refl _
 | c::r=>by
  rw [spanF]
  have:=span_le p r
  split
  ·simp;omega
  ·simp
theorem span_at (p:UInt8→Bool):∀ l (k:Nat),k < spanF p l→p (l.getD k 0)=true
 | [],k,h=>by rw [spanF] at h;omega
 | c::r,k,h=>by
  rw [spanF] at h
  split at h
  ·cases k with
   | zero=>assumption
   | succ k=>exact span_at p r k (by omega)
  ·omega
theorem span_end (p:UInt8→Bool):∀ l,spanF p l < l.length→p (l.getD (spanF p l) 0)=false
 | [],h=>by simp at h
 | c::r,h=>by
  rw [spanF] at h ⊢
  split
  ·rename_i hp
   rw [if_pos hp] at h
   exact span_end p r (by simpa using h)
  ·rename_i hp
   simpa using hp
theorem span_eq {p:UInt8→Bool} {l:List UInt8} {k:Nat} (hk:k≤l.length) (h:∀ j,j < k→p (l.getD j 0)=true) (he:k < l.length→p (l.getD k 0)=false):k=spanF p l:=by
 have h1:=span_le p l
 have h2:=span_end p l
 rcases Nat.lt_trichotomy k (spanF p l) with hlt | heq | hgt
 ·have:=span_at p l k hlt
  rw [he (by omega)] at this
  cases this
 ·exact heq
 ·have:=h _ hgt
  rw [h2 (by omega)] at this
  cases this
attribute [local irreducible] numR wordC numC
theorem word_first {c:UInt8} {r:List UInt8} (h:kindB c=97):1≤spanF wordC (c::r):=by
 have e:wordC c=true:=by unfold wordC;rw [decide_eq_true h];rfl
 rw [spanF,if_pos e];omega
theorem num_first {c:UInt8} {r:List UInt8} (h:kindB c=48):1≤spanF numC (c::r):=by
 have e:numC c=true:=by unfold numC;rw [decide_eq_true h,Bool.or_true]
 rw [spanF,if_pos e];omega
theorem lex_fuel:∀ (f g:Nat) (l:List UInt8) (out:List LTok),l.length < f→l.length < g→lexF f l out=lexF g l out
 | 0,_,_,_,h,_=>absurd h (Nat.not_lt_zero _)
 | _+1,0,_,_,_,h=>absurd h (Nat.not_lt_zero _)
 | f+1,g+1,[],out,_,_=>rfl
 | f+1,g+1,c::r,out,hf,hg=>by
  have hf:r.length < f:=by simpa using hf
  have hg:r.length < g:=by simpa using hg
  have ih:=lex_fuel f g
  have hd:∀ n,1≤n→((c::r).drop n).length≤r.length:=fun n hn=>by rw [List.length_drop,List.length_cons];omega
  rw [lexF,lexF]
  split
  ·exact ih _ _ hf hg
  split
  ·rename_i h
   have:=hd _ (word_first (r:=r) h)
   exact ih _ _ (by omega) (by omega)
  split
  ·rename_i h
   have:=hd _ (num_first (r:=r) h)
   split
   ·exact ih _ _ (by omega) (by omega)
   ·rfl
  split
  ·rfl
  split
  ·have:(r.drop 1).length≤r.length:=by rw [List.length_drop];omega
   exact ih _ _ (by omega) (by omega)
  split
  ·exact ih _ _ hf hg
  ·rfl
def lexL (l:List UInt8) (out:List LTok):Option (List LTok):=lexF (l.length+1) l out
theorem lexL_nil (out:List LTok):lexL [] out=some out:=rfl
theorem lexL_cons (c:UInt8) (r:List UInt8) (out:List LTok):lexL (c::r) out =
  if kindB c=32 then lexL r out
  else if kindB c=97 then lexL ((c::r).drop (spanF wordC (c::r))) (out++[⟨1,0,(c::r).take (spanF wordC (c::r))⟩])
  else if kindB c=48 then (if (numR ((c::r).take (spanF numC (c::r)))).2=true then
    lexL ((c::r).drop (spanF numC (c::r))) (out++[⟨2,(numR ((c::r).take (spanF numC (c::r)))).1,[]⟩]) else none)
  else if c=59 then some out
  else if (c::r).take 2=[60,60]∨(c::r).take 2=[62,62] then lexL (r.drop 1) (out++[⟨3,0,(c::r).take 2⟩])
  else if signsB.contains c=true then lexL r (out++[⟨3,0,[c]⟩]) else none:=by
 have hd:∀ n,1≤n→((c::r).drop n).length≤r.length:=fun n hn=>by rw [List.length_drop,List.length_cons];omega
 unfold lexL
 rw [List.length_cons,lexF]
 split
 ·rfl
 split
 ·rename_i h
  have:=hd _ (word_first (r:=r) h)
  exact lex_fuel _ _ _ _ (by omega) (by omega)
 split
 ·rename_i h
  have:=hd _ (num_first (r:=r) h)
  split
  ·exact lex_fuel _ _ _ _ (by omega) (by omega)
  ·rfl
 split
 ·rfl
 split
 ·have:(r.drop 1).length≤r.length:=by rw [List.length_drop];omega
  exact lex_fuel _ _ _ _ (by omega) (by omega)
 ·rfl
def lexFin:Option (List LTok)→List LTok×Int
 | some l=>(l,0)
 | none=>([],2)
theorem lexR_eq (s:List UInt8):lexR s=if 80 < s.length then ([],4) else lexFin (lexL s []):=by
 unfold lexR lexL lexFin;rfl
def lexRD (p:List LTok×Int):D:=.tup [.sl 3 (p.1.map ltokD) none,.int .i64 p.2]
attribute [local irreducible] lexF lexL spanF
theorem num_yes {c:UInt8} (h:(kindB c=97∧¬ ((c.toNat:Nat):Int)=46)∨kindB c=48):numC c=true:=by
 unfold numC
 rcases h with ⟨h,h3⟩ | h
 ·rw [decide_eq_true h,beq_eq_false_iff_ne.2 fun e=>h3 (by rw [e];rfl)];rfl
 ·rw [decide_eq_true h,Bool.or_true]
end Go.Proofs.YtfahnaccpncdpaaGreatDoor
namespace Go.Proofs
open Go.Shelf
def Tryz.lays163_ren:Go.Shelf.Ren:=⟨fun | 163=>24 | 237=>41 | 199=>42 | 238=>43 | 272=>81 | 261=>82 | 273=>83 | 197=>84 | 315=>122 | 311=>123 | 312=>124 | 271=>125 | 260=>126 | 120=>145 | n=>n,fun | 9=>9 | 37=>22 | 3=>3 | 0=>0 | 5=>5 | 4=>4 | 40=>110 | 119=>111 | 21=>21 | 51=>154 | 141=>156 | 105=>158 | 196=>204 | 193=>201 | 198=>207 | 49=>205 | 194=>202 | 201=>210 | 226=>231 | 46=>77 | 227=>232 | 139=>235 | 138=>234 | n=>n,fun | 0=>0 | 6=>1 | 3=>3 | 4=>4 | n=>n⟩
theorem Tryz.lays163:Go.Proofs.Lays.n163 Tryz.prog Tryz.lays163_ren:={
 mixed:=by kernel_rfl
 f120:=Tryz.func145.trans (congrArg some (by kernel_rfl))
 f163:=Tryz.func24.trans (congrArg some (by kernel_rfl))
 f197:=Tryz.func84.trans (congrArg some (by kernel_rfl))
 f199:=Tryz.func42.trans (congrArg some (by kernel_rfl))
 f237:=Tryz.func41.trans (congrArg some (by kernel_rfl))
 f238:=Tryz.func43.trans (congrArg some (by kernel_rfl))
 f260:=Tryz.func126.trans (congrArg some (by kernel_rfl))
 f261:=Tryz.func82.trans (congrArg some (by kernel_rfl))
 f271:=Tryz.func125.trans (congrArg some (by kernel_rfl))
 f272:=Tryz.func81.trans (congrArg some (by kernel_rfl))
 f273:=Tryz.func83.trans (congrArg some (by kernel_rfl))
 f311:=Tryz.func123.trans (congrArg some (by kernel_rfl))
 f312:=Tryz.func124.trans (congrArg some (by kernel_rfl))
 f315:=Tryz.func122.trans (congrArg some (by kernel_rfl))
 t0:=Tryz.underlying0
 a0:=Tryz.isAgg0
 z0:=Tryz.sizeOf0
 v0:=Tryz.zeroValue0
 t3:=Tryz.underlying3
 a3:=Tryz.isAgg3
 z3:=Tryz.sizeOf3
 v3:=Tryz.zeroValue3
 t4:=Tryz.underlying4
 a4:=Tryz.isAgg4
 z4:=Tryz.sizeOf4
 v4:=Tryz.zeroValue4
 t5:=Tryz.underlying5
 a5:=Tryz.isAgg5
 z5:=Tryz.sizeOf5
 v5:=Tryz.zeroValue5
 t9:=Tryz.underlying9
 a9:=Tryz.isAgg9
 z9:=Tryz.sizeOf9
 v9:=Tryz.zeroValue9
 t21:=Tryz.underlying21
 a21:=Tryz.isAgg21
 z21:=Tryz.sizeOf21
 v21:=Tryz.zeroValue21
 t37:=Tryz.underlying22
 a37:=Tryz.isAgg22
 z37:=Tryz.sizeOf22
 v37:=Tryz.zeroValue22
 t40:=Tryz.underlying110
 a40:=Tryz.isAgg110
 z40:=Tryz.sizeOf110
 v40:=Tryz.zeroValue110
 t46:=Tryz.underlying77
 a46:=Tryz.isAgg77
 z46:=Tryz.sizeOf77
 v46:=Tryz.zeroValue77
 t49:=Tryz.underlying205
 a49:=Tryz.isAgg205
 z49:=Tryz.sizeOf205
 v49:=Tryz.zeroValue205
 t51:=Tryz.underlying154
 a51:=Tryz.isAgg154
 z51:=Tryz.sizeOf154
 v51:=Tryz.zeroValue154
 t105:=Tryz.underlying158
 a105:=Tryz.isAgg158
 z105:=Tryz.sizeOf158
 v105:=Tryz.zeroValue158
 t119:=Tryz.underlying111
 a119:=Tryz.isAgg111
 z119:=Tryz.sizeOf111
 t138:=Tryz.underlying234
 a138:=Tryz.isAgg234
 z138:=Tryz.sizeOf234
 v138:=Tryz.zeroValue234
 t139:=Tryz.underlying235
 a139:=Tryz.isAgg235
 z139:=Tryz.sizeOf235
 v139:=Tryz.zeroValue235
 t141:=Tryz.underlying156
 a141:=Tryz.isAgg156
 z141:=Tryz.sizeOf156
 v141:=Tryz.zeroValue156
 t193:=Tryz.underlying201
 a193:=Tryz.isAgg201
 z193:=Tryz.sizeOf201
 v193:=Tryz.zeroValue201
 t194:=Tryz.underlying202
 a194:=Tryz.isAgg202
 z194:=Tryz.sizeOf202
 v194:=Tryz.zeroValue202
 t196:=Tryz.underlying204
 a196:=Tryz.isAgg204
 z196:=Tryz.sizeOf204
 v196:=Tryz.zeroValue204
 t198:=Tryz.underlying207
 a198:=Tryz.isAgg207
 z198:=Tryz.sizeOf207
 v198:=Tryz.zeroValue207
 t201:=Tryz.underlying210
 a201:=Tryz.isAgg210
 z201:=Tryz.sizeOf210
 v201:=Tryz.zeroValue210
 t226:=Tryz.underlying231
 a226:=Tryz.isAgg231
 z226:=Tryz.sizeOf231
 v226:=Tryz.zeroValue231
 t227:=Tryz.underlying232
 a227:=Tryz.isAgg232
 z227:=Tryz.sizeOf232
 v227:=Tryz.zeroValue232
 g0:=by kernel_rfl
 g3:=by kernel_rfl
 g4:=by kernel_rfl
 g6:=by kernel_rfl }
def Tryz.laysM171_ren:Go.Shelf.Ren:=⟨fun | 171=>18 | 243=>33 | 246=>46 | 283=>85 | 284=>86 | 285=>87 | 286=>88 | 129=>128 | 317=>127 | 318=>129 | 319=>130 | 320=>131 | 337=>146 | 338=>147 | n=>n,fun | 3=>3 | 9=>9 | 2=>2 | 4=>4 | 171=>160 | 0=>0 | 53=>161 | 37=>22 | 5=>5 | 173=>164 | 212=>213 | 51=>154 | 20=>20 | 213=>214 | 46=>77 | 232=>247 | 233=>248 | n=>n,fun | 17=>2 | 18=>6 | 19=>7 | n=>n⟩
theorem Tryz.laysM171:Go.Proofs.LaysM.n171 Tryz.prog Tryz.laysM171_ren:={
 mixed:=by kernel_rfl
 f129:=Tryz.func128.trans (congrArg some (by kernel_rfl))
 f171:=Tryz.func18.trans (congrArg some (by kernel_rfl))
 f243:=Tryz.func33.trans (congrArg some (by kernel_rfl))
 f246:=Tryz.func46.trans (congrArg some (by kernel_rfl))
 f283:=Tryz.func85.trans (congrArg some (by kernel_rfl))
 f284:=Tryz.func86.trans (congrArg some (by kernel_rfl))
 f285:=Tryz.func87.trans (congrArg some (by kernel_rfl))
 f286:=Tryz.func88.trans (congrArg some (by kernel_rfl))
 f317:=Tryz.func127.trans (congrArg some (by kernel_rfl))
 f318:=Tryz.func129.trans (congrArg some (by kernel_rfl))
 f319:=Tryz.func130.trans (congrArg some (by kernel_rfl))
 f320:=Tryz.func131.trans (congrArg some (by kernel_rfl))
 f337:=Tryz.func146.trans (congrArg some (by kernel_rfl))
 f338:=Tryz.func147.trans (congrArg some (by kernel_rfl))
 t0:=Tryz.underlying0
 a0:=Tryz.isAgg0
 z0:=Tryz.sizeOf0
 v0:=Tryz.zeroValue0
 t2:=Tryz.underlying2
 a2:=Tryz.isAgg2
 z2:=Tryz.sizeOf2
 v2:=Tryz.zeroValue2
 t3:=Tryz.underlying3
 a3:=Tryz.isAgg3
 z3:=Tryz.sizeOf3
 v3:=Tryz.zeroValue3
 t4:=Tryz.underlying4
 a4:=Tryz.isAgg4
 z4:=Tryz.sizeOf4
 v4:=Tryz.zeroValue4
 t5:=Tryz.underlying5
 a5:=Tryz.isAgg5
 z5:=Tryz.sizeOf5
 v5:=Tryz.zeroValue5
 t9:=Tryz.underlying9
 a9:=Tryz.isAgg9
 z9:=Tryz.sizeOf9
 v9:=Tryz.zeroValue9
 t20:=Tryz.underlying20
 a20:=Tryz.isAgg20
 z20:=Tryz.sizeOf20
 v20:=Tryz.zeroValue20
 t37:=Tryz.underlying22
 a37:=Tryz.isAgg22
 z37:=Tryz.sizeOf22
 v37:=Tryz.zeroValue22
 t46:=Tryz.underlying77
 a46:=Tryz.isAgg77
 z46:=Tryz.sizeOf77
 v46:=Tryz.zeroValue77
 t51:=Tryz.underlying154
 a51:=Tryz.isAgg154
 z51:=Tryz.sizeOf154
 v51:=Tryz.zeroValue154
 t53:=Tryz.underlying161
 a53:=Tryz.isAgg161
 z53:=Tryz.sizeOf161
 v53:=Tryz.zeroValue161
 t171:=Tryz.underlying160
 a171:=Tryz.isAgg160
 z171:=Tryz.sizeOf160
 v171:=Tryz.zeroValue160
 t173:=Tryz.underlying164
 a173:=Tryz.isAgg164
 z173:=Tryz.sizeOf164
 v173:=Tryz.zeroValue164
 t212:=Tryz.underlying213
 a212:=Tryz.isAgg213
 z212:=Tryz.sizeOf213
 v212:=Tryz.zeroValue213
 t213:=Tryz.underlying214
 a213:=Tryz.isAgg214
 z213:=Tryz.sizeOf214
 t232:=Tryz.underlying247
 a232:=Tryz.isAgg247
 z232:=Tryz.sizeOf247
 v232:=Tryz.zeroValue247
 t233:=Tryz.underlying248
 a233:=Tryz.isAgg248
 z233:=Tryz.sizeOf248
 v233:=Tryz.zeroValue248
 g17:=by kernel_rfl
 g18:=by kernel_rfl
 g19:=by kernel_rfl
 i0:=by kernel_rfl
 i2:=by kernel_rfl
 i3:=by kernel_rfl
 i4:=by kernel_rfl
 i5:=by kernel_rfl
 i9:=by kernel_rfl
 i20:=by kernel_rfl
 i37:=by kernel_rfl
 i46:=by kernel_rfl
 i51:=by kernel_rfl
 i53:=by kernel_rfl
 i171:=by kernel_rfl
 i173:=by kernel_rfl
 i212:=by kernel_rfl
 i232:=by kernel_rfl
 i233:=by kernel_rfl
 m17:=by kernel_rfl
 m18:=by kernel_rfl
 m19:=by kernel_rfl }
open Go.RowKit Go.Sort Go.Lib in
theorem Tryz.strconv_Itoa (n : Int) (h0 : -9223372036854775808 ≤ n) (h1 : n ≤ 9223372036854775807) (w : World) (htab : Lib.TabIs Tryz.prog w "internal/strconv.uint64pow10" .u64 Lib.pow10Tab) :
  Calls Tryz.prog 18 #[.int .i64 n] w fun e w'=>e= .returned (.string ⟨(Lib.itoa n).toArray⟩)∧∃ k os,w'=grow (w.drewN k) os:=Any.strconv_Itoa Tryz.laysM171 n h0 h1 w htab
def Tryz.laysM279_ren:Go.Shelf.Ren:=⟨fun | 279=>154 | 316=>164 | n=>n,fun | 9=>9 | 168=>239 | 75=>55 | 210=>252 | 3=>3 | 4=>4 | 37=>22 | 0=>0 | 127=>82 | 80=>59 | 5=>5 | n=>n,fun | 15=>8 | n=>n⟩
theorem Tryz.laysM279:Go.Proofs.LaysM.n279 Tryz.prog Tryz.laysM279_ren:={
 mixed:=by kernel_rfl
 f279:=Tryz.func154.trans (congrArg some (by kernel_rfl))
 f316:=Tryz.func164.trans (congrArg some (by kernel_rfl))
 t0:=Tryz.underlying0
 a0:=Tryz.isAgg0
 z0:=Tryz.sizeOf0
 v0:=Tryz.zeroValue0
 t3:=Tryz.underlying3
 a3:=Tryz.isAgg3
 z3:=Tryz.sizeOf3
 v3:=Tryz.zeroValue3
 t4:=Tryz.underlying4
 a4:=Tryz.isAgg4
 z4:=Tryz.sizeOf4
 v4:=Tryz.zeroValue4
 t9:=Tryz.underlying9
 a9:=Tryz.isAgg9
 z9:=Tryz.sizeOf9
 v9:=Tryz.zeroValue9
 t37:=Tryz.underlying22
 a37:=Tryz.isAgg22
 z37:=Tryz.sizeOf22
 v37:=Tryz.zeroValue22
 t75:=Tryz.underlying55
 a75:=Tryz.isAgg55
 z75:=Tryz.sizeOf55
 v75:=Tryz.zeroValue55
 t127:=Tryz.underlying82
 a127:=Tryz.isAgg82
 z127:=Tryz.sizeOf82
 v127:=Tryz.zeroValue82
 t168:=Tryz.underlying239
 a168:=Tryz.isAgg239
 z168:=Tryz.sizeOf239
 v168:=Tryz.zeroValue239
 t210:=Tryz.underlying252
 a210:=Tryz.isAgg252
 z210:=Tryz.sizeOf252
 v210:=Tryz.zeroValue252
 g15:=by kernel_rfl
 t5:=Tryz.underlying5
 a5:=Tryz.isAgg5
 z5:=Tryz.sizeOf5
 v5:=Tryz.zeroValue5
 t80:=Tryz.underlying59
 a80:=Tryz.isAgg59
 z80:=Tryz.sizeOf59
 v80:=Tryz.zeroValue59
 i0:=by kernel_rfl
 i3:=by kernel_rfl
 i4:=by kernel_rfl
 i5:=by kernel_rfl
 i9:=by kernel_rfl
 i37:=by kernel_rfl
 i75:=by kernel_rfl
 i80:=by kernel_rfl
 i127:=by kernel_rfl
 i168:=by kernel_rfl
 i210:=by kernel_rfl
 m15:=by kernel_rfl }
open Go.RowKit in
theorem Tryz.strconv_syntaxError (fn s:ByteArray) (ev:Value) (w:World) (hlim:s.size≤281474976710656) (hv:w.cell? ⟨8,0,none⟩=some ev) (hev:ev= .nilIface∨∃ te pe,ev= .iface te pe) :
  Calls Tryz.prog 154 #[.string fn,.string s] w fun e w'=>∃ N,e= .returned (.pointer (some ⟨N,0,none⟩))∧w.heap.size≤N∧w'.heap[N]?=some (.cells #[.string fn,.string s,ev] 252 (0,0))∧Below w.heap.size w w':=Any.strconv_syntaxError Tryz.laysM279 fn s ev w hlim hv hev
def Tryz.laysM280_ren:Go.Shelf.Ren:=⟨fun | 280=>155 | 316=>164 | n=>n,fun | 9=>9 | 168=>239 | 75=>55 | 210=>252 | 3=>3 | 4=>4 | 37=>22 | 0=>0 | 127=>82 | 80=>59 | 5=>5 | n=>n,fun | 16=>9 | n=>n⟩
theorem Tryz.laysM280:Go.Proofs.LaysM.n280 Tryz.prog Tryz.laysM280_ren:={
 mixed:=by kernel_rfl
 f280:=Tryz.func155.trans (congrArg some (by kernel_rfl))
 f316:=Tryz.func164.trans (congrArg some (by kernel_rfl))
 t0:=Tryz.underlying0
 a0:=Tryz.isAgg0
 z0:=Tryz.sizeOf0
 v0:=Tryz.zeroValue0
 t3:=Tryz.underlying3
 a3:=Tryz.isAgg3
 z3:=Tryz.sizeOf3
 v3:=Tryz.zeroValue3
 t4:=Tryz.underlying4
 a4:=Tryz.isAgg4
 z4:=Tryz.sizeOf4
 v4:=Tryz.zeroValue4
 t9:=Tryz.underlying9
 a9:=Tryz.isAgg9
 z9:=Tryz.sizeOf9
 v9:=Tryz.zeroValue9
 t37:=Tryz.underlying22
 a37:=Tryz.isAgg22
 z37:=Tryz.sizeOf22
 v37:=Tryz.zeroValue22
 t75:=Tryz.underlying55
 a75:=Tryz.isAgg55
 z75:=Tryz.sizeOf55
 v75:=Tryz.zeroValue55
 t127:=Tryz.underlying82
 a127:=Tryz.isAgg82
 z127:=Tryz.sizeOf82
 v127:=Tryz.zeroValue82
 t168:=Tryz.underlying239
 a168:=Tryz.isAgg239
 z168:=Tryz.sizeOf239
 v168:=Tryz.zeroValue239
 t210:=Tryz.underlying252
 a210:=Tryz.isAgg252
 z210:=Tryz.sizeOf252
 v210:=Tryz.zeroValue252
 g16:=by kernel_rfl
 t5:=Tryz.underlying5
 a5:=Tryz.isAgg5
 z5:=Tryz.sizeOf5
 v5:=Tryz.zeroValue5
 t80:=Tryz.underlying59
 a80:=Tryz.isAgg59
 z80:=Tryz.sizeOf59
 v80:=Tryz.zeroValue59
 i0:=by kernel_rfl
 i3:=by kernel_rfl
 i4:=by kernel_rfl
 i5:=by kernel_rfl
 i9:=by kernel_rfl
 i37:=by kernel_rfl
 i75:=by kernel_rfl
 i80:=by kernel_rfl
 i127:=by kernel_rfl
 i168:=by kernel_rfl
 i210:=by kernel_rfl
 m16:=by kernel_rfl }
open Go.RowKit in
theorem Tryz.strconv_rangeError (fn s:ByteArray) (ev:Value) (w:World) (hlim:s.size≤281474976710656) (hv:w.cell? ⟨9,0,none⟩=some ev) (hev:ev= .nilIface∨∃ te pe,ev= .iface te pe) :
  Calls Tryz.prog 155 #[.string fn,.string s] w fun e w'=>∃ N,e= .returned (.pointer (some ⟨N,0,none⟩))∧w.heap.size≤N∧w'.heap[N]?=some (.cells #[.string fn,.string s,ev] 252 (0,0))∧Below w.heap.size w w':=Any.strconv_rangeError Tryz.laysM280 fn s ev w hlim hv hev
def Tryz.lays219_ren:Go.Shelf.Ren:=⟨fun | 219=>134 | 217=>148 | 225=>149 | 224=>150 | 267=>151 | 266=>162 | 314=>163 | n=>n,fun | 9=>9 | 3=>3 | 4=>4 | 5=>5 | 46=>77 | 146=>249 | 51=>154 | n=>n,fun | 1=>5 | n=>n⟩
theorem Tryz.lays219:Go.Proofs.Lays.n219 Tryz.prog Tryz.lays219_ren:={
 mixed:=by kernel_rfl
 f217:=Tryz.func148.trans (congrArg some (by kernel_rfl))
 f219:=Tryz.func134.trans (congrArg some (by kernel_rfl))
 f224:=Tryz.func150.trans (congrArg some (by kernel_rfl))
 f225:=Tryz.func149.trans (congrArg some (by kernel_rfl))
 f266:=Tryz.func162.trans (congrArg some (by kernel_rfl))
 f267:=Tryz.func151.trans (congrArg some (by kernel_rfl))
 f314:=Tryz.func163.trans (congrArg some (by kernel_rfl))
 t3:=Tryz.underlying3
 a3:=Tryz.isAgg3
 z3:=Tryz.sizeOf3
 v3:=Tryz.zeroValue3
 t4:=Tryz.underlying4
 a4:=Tryz.isAgg4
 z4:=Tryz.sizeOf4
 v4:=Tryz.zeroValue4
 t5:=Tryz.underlying5
 a5:=Tryz.isAgg5
 z5:=Tryz.sizeOf5
 v5:=Tryz.zeroValue5
 t9:=Tryz.underlying9
 a9:=Tryz.isAgg9
 z9:=Tryz.sizeOf9
 v9:=Tryz.zeroValue9
 t46:=Tryz.underlying77
 a46:=Tryz.isAgg77
 z46:=Tryz.sizeOf77
 v46:=Tryz.zeroValue77
 t51:=Tryz.underlying154
 a51:=Tryz.isAgg154
 z51:=Tryz.sizeOf154
 v51:=Tryz.zeroValue154
 t146:=Tryz.underlying249
 a146:=Tryz.isAgg249
 z146:=Tryz.sizeOf249
 v146:=Tryz.zeroValue249
 g1:=by kernel_rfl }
open Go.RowKit Go.Lib in
theorem Tryz.stringslite_Index_one (s:ByteArray) (c:UInt8) (w:World) :
  Calls Tryz.prog 134 #[.string s,.string ⟨#[c]⟩] w fun e w'=>e= .returned (.int .i64 (Lib.indexByte s.data.toList c))∧w'=w:=Any.stringslite_Index_one Tryz.lays219 s c w
def Tryz.lays144_ren:Go.Shelf.Ren:=⟨fun | 144=>95 | 143=>91 | 219=>134 | 217=>148 | 225=>149 | 224=>150 | 267=>151 | 266=>162 | 314=>163 | n=>n,fun | 9=>9 | 4=>4 | 3=>3 | 5=>5 | 46=>77 | 146=>249 | 51=>154 | n=>n,fun | 1=>5 | n=>n⟩
theorem Tryz.lays144:Go.Proofs.Lays.n144 Tryz.prog Tryz.lays144_ren:={
 mixed:=by kernel_rfl
 f143:=Tryz.func91.trans (congrArg some (by kernel_rfl))
 f144:=Tryz.func95.trans (congrArg some (by kernel_rfl))
 f217:=Tryz.func148.trans (congrArg some (by kernel_rfl))
 f219:=Tryz.func134.trans (congrArg some (by kernel_rfl))
 f224:=Tryz.func150.trans (congrArg some (by kernel_rfl))
 f225:=Tryz.func149.trans (congrArg some (by kernel_rfl))
 f266:=Tryz.func162.trans (congrArg some (by kernel_rfl))
 f267:=Tryz.func151.trans (congrArg some (by kernel_rfl))
 f314:=Tryz.func163.trans (congrArg some (by kernel_rfl))
 t3:=Tryz.underlying3
 a3:=Tryz.isAgg3
 z3:=Tryz.sizeOf3
 v3:=Tryz.zeroValue3
 t4:=Tryz.underlying4
 a4:=Tryz.isAgg4
 z4:=Tryz.sizeOf4
 v4:=Tryz.zeroValue4
 t5:=Tryz.underlying5
 a5:=Tryz.isAgg5
 z5:=Tryz.sizeOf5
 v5:=Tryz.zeroValue5
 t9:=Tryz.underlying9
 a9:=Tryz.isAgg9
 z9:=Tryz.sizeOf9
 v9:=Tryz.zeroValue9
 t46:=Tryz.underlying77
 a46:=Tryz.isAgg77
 z46:=Tryz.sizeOf77
 v46:=Tryz.zeroValue77
 t51:=Tryz.underlying154
 a51:=Tryz.isAgg154
 z51:=Tryz.sizeOf154
 v51:=Tryz.zeroValue154
 t146:=Tryz.underlying249
 a146:=Tryz.isAgg249
 z146:=Tryz.sizeOf249
 v146:=Tryz.zeroValue249
 g1:=by kernel_rfl }
open Go.RowKit Go.Lib in
theorem Tryz.strings_Contains_one (s:ByteArray) (c:UInt8) (w:World) :
  Calls Tryz.prog 95 #[.string s,.string ⟨#[c]⟩] w fun e w'=>e= .returned (.bool (decide (0≤Lib.indexByte s.data.toList c)))∧w'=w:=Any.strings_Contains_one Tryz.lays144 s c w
def Tryz.lays138_ren:Go.Shelf.Ren:=⟨fun | 138=>90 | 195=>132 | 218=>133 | 143=>91 | 219=>134 | 217=>148 | 225=>149 | 224=>150 | 267=>151 | 266=>162 | 314=>163 | n=>n,fun | 9=>9 | 3=>3 | 4=>4 | 5=>5 | 0=>0 | 46=>77 | 146=>249 | 51=>154 | n=>n,fun | 1=>5 | n=>n⟩
theorem Tryz.lays138:Go.Proofs.Lays.n138 Tryz.prog Tryz.lays138_ren:={
 mixed:=by kernel_rfl
 f138:=Tryz.func90.trans (congrArg some (by kernel_rfl))
 f143:=Tryz.func91.trans (congrArg some (by kernel_rfl))
 f195:=Tryz.func132.trans (congrArg some (by kernel_rfl))
 f217:=Tryz.func148.trans (congrArg some (by kernel_rfl))
 f218:=Tryz.func133.trans (congrArg some (by kernel_rfl))
 f219:=Tryz.func134.trans (congrArg some (by kernel_rfl))
 f224:=Tryz.func150.trans (congrArg some (by kernel_rfl))
 f225:=Tryz.func149.trans (congrArg some (by kernel_rfl))
 f266:=Tryz.func162.trans (congrArg some (by kernel_rfl))
 f267:=Tryz.func151.trans (congrArg some (by kernel_rfl))
 f314:=Tryz.func163.trans (congrArg some (by kernel_rfl))
 t0:=Tryz.underlying0
 a0:=Tryz.isAgg0
 z0:=Tryz.sizeOf0
 v0:=Tryz.zeroValue0
 t3:=Tryz.underlying3
 a3:=Tryz.isAgg3
 z3:=Tryz.sizeOf3
 v3:=Tryz.zeroValue3
 t4:=Tryz.underlying4
 a4:=Tryz.isAgg4
 z4:=Tryz.sizeOf4
 v4:=Tryz.zeroValue4
 t5:=Tryz.underlying5
 a5:=Tryz.isAgg5
 z5:=Tryz.sizeOf5
 v5:=Tryz.zeroValue5
 t9:=Tryz.underlying9
 a9:=Tryz.isAgg9
 z9:=Tryz.sizeOf9
 v9:=Tryz.zeroValue9
 t46:=Tryz.underlying77
 a46:=Tryz.isAgg77
 z46:=Tryz.sizeOf77
 v46:=Tryz.zeroValue77
 t51:=Tryz.underlying154
 a51:=Tryz.isAgg154
 z51:=Tryz.sizeOf154
 v51:=Tryz.zeroValue154
 t146:=Tryz.underlying249
 a146:=Tryz.isAgg249
 z146:=Tryz.sizeOf249
 v146:=Tryz.zeroValue249
 g1:=by kernel_rfl }
open Go.RowKit Go.Lib in
theorem Tryz.strings_Count_one (s:ByteArray) (c:UInt8) (w:World) :
  Calls Tryz.prog 90 #[.string s,.string ⟨#[c]⟩] w fun e w'=>e= .returned (.int .i64 (Lib.countByte s.data.toList c))∧w'=w:=Any.strings_Count_one Tryz.lays138 s c w
end Go.Proofs
namespace Go.Proofs.YtfahnaccpncdpaaGreatDoor
open Go Go.Plat
set_option linter.unusedVariables false
set_option linter.unusedSimpArgs false
set_option maxRecDepth 100000
set_option maxHeartbeats 2000000
attribute [local irreducible] AWP Arith BitS BytesS CallS CatS DrawS EndS IdxS LookS LoopEnd Meets ModeS NilS NormL NormM QuoS RemS ShlS ShrS SideS SplitS bitI nameB
theorem kind_all:∀ k:Fin 256,(48≤k.val∧k.val≤57→kindB (UInt8.ofNat k.val)=48)∧(letterB (UInt8.ofNat k.val)=true→kindB (UInt8.ofNat k.val)=97) ∧
  (digitB (UInt8.ofNat k.val)=true→kindB (UInt8.ofNat k.val)=48):=by decide +kernel
theorem kind_dig {c:UInt8} (h:48≤c.toNat∧c.toNat≤57):kindB c=48:=by
 have:=(kind_all ⟨c.toNat,c.toNat_lt⟩).1 h
 simpa using this
theorem nat_dig {d:Nat} (h:d < 10):(UInt8.ofNat (48+d)).toNat=48+d:=by rw [UInt8.toNat_ofNat'];omega
attribute [local irreducible] letterB digitB kindB okC
theorem lex_blank (r:List UInt8) (out:List LTok):lexL (32::r) out=lexL r out:=by
 rw [lexL_cons,if_pos (by decide +kernel)]
theorem lex_sign1 {c:UInt8} (h0:kindB c=0) (h1:c≠59) (h2:c≠60) (h3:c≠62) (h4:signsB.contains c=true) (r:List UInt8) (out:List LTok) :
  lexL (c::r) out=lexL r (out++[⟨3,0,[c]⟩]):=by
 rw [lexL_cons,if_neg (by rw [h0];decide),if_neg (by rw [h0];decide),if_neg (by rw [h0];decide),if_neg h1,if_neg,if_pos h4]
 rintro (h | h)
 ·rw [List.take_succ_cons] at h
  exact h2 (List.cons.inj h).1
 ·rw [List.take_succ_cons] at h
  exact h3 (List.cons.inj h).1
theorem dec_dig:∀ u:Nat,∀ c∈Lib.decDigits u,48≤c.toNat∧c.toNat≤57:=fun u=>by
 induction u using Nat.strongRecOn with
 | _ u ih=>
  intro c hc
  rw [Lib.decDigits] at hc
  split at hc
  ·rw [List.mem_singleton] at hc
   rw [hc,nat_dig (by omega)];omega
  ·rcases List.mem_append.1 hc with h | h
   ·exact ih _ (by omega) c h
   ·rw [List.mem_singleton] at h
    rw [h,nat_dig (by omega)];omega
theorem dig_ofNat {d:Nat} (h:d < 10):digV 10 (UInt8.ofNat (48+d))=d:=by
 have e:(UInt8.ofNat (48+d)).toNat=48+d:=nat_dig h
 rw [(dig_def 10 _).1 (by rw [e];omega),e];omega
theorem num_dec:∀ (u:Nat),u < 4294967296→∀ r:List UInt8,numF 10 (Lib.decDigits u++r) 0=numF 10 r u:=fun u=>by
 induction u using Nat.strongRecOn with
 | _ u ih=>
  intro hu r
  rw [Lib.decDigits]
  split
  ·rename_i h
   rw [List.cons_append,List.nil_append,numF,dig_ofNat h,if_neg (by omega)]
   congr 1;omega
  ·rename_i h
   rw [List.append_assoc,ih (u / 10) (by omega) (by omega),List.cons_append,List.nil_append,numF,dig_ofNat (by omega),if_neg (by omega)]
   congr 1;omega
theorem dec_ne (u:Nat):Lib.decDigits u≠[]:=by
 rw [Lib.decDigits]
 split<;>simp
theorem num_of_dec {u:Nat} (hu:u < 4294967296):numR (Lib.decDigits u)=((u:Int),true):=by
 have h1:=num_dec u hu []
 rw [List.append_nil] at h1
 have h2:¬ (2 < (Lib.decDigits u).length∧(Lib.decDigits u).take 2=[48,120]):=by
  rintro ⟨h,h3⟩
  have:(120:UInt8)∈(Lib.decDigits u).take 2:=by rw [h3];simp
  have:=dec_dig u _ (List.mem_of_mem_take this)
  exact absurd this.2 (by decide)
 unfold numR numRb
 rw [if_neg h2,h1]
 show ((u:Int),decide (((u:Int)) < 4294967296∧Lib.decDigits u≠[]))=_
 rw [decide_eq_true ⟨by omega,dec_ne u⟩]
end Go.Proofs.YtfahnaccpncdpaaGreatDoor
namespace Go.Proofs
open Go.Shelf
theorem Tryz.Space_Extra_163:Space.Extra Tryz.prog Tryz.lays163_ren:={
 gNamed:=by kernel_rfl }
open Go.RowKit in
theorem Tryz.strings_TrimSpace (s : ByteArray) (w : World) (hs : s.size ≤ 9223372036854775807) (hascii : ∀ (j : Nat) b, s.data.toList[j]? = some b → b.toNat < 128) (htab : Lib.TabIs Tryz.prog w "strings.asciiSpace" .u8 Lib.asciiSpaceTab) :
  Calls Tryz.prog 24 #[.string s] w fun e w'=>e= .returned (.string ⟨(Lib.trimSpace s.data.toList).toArray⟩)∧w'=Lib.bytesWorld w 5 s:=Any.strings_TrimSpace Tryz.lays163 Tryz.Space_Extra_163 s w hs hascii htab
end Go.Proofs
namespace Go.Proofs.YtfahnaccpncdpaaGreatDoor
open Go Go.Plat Go.RowKit Go.Lib Go.Shelf
theorem cc_ntmps:Tryz.f31.ntmps=20:=by simp [Tryz.f31]
theorem bld_info:∃ j,Tryz.prog.info? 52=some j∧j.size=2:=by
 obtain ⟨j,h1,h2⟩:=Option.map_eq_some_iff.1 (show (Tryz.prog.info? 52).map (·.size)=some 2 by kernel_rfl)
 exact ⟨j,h1,h2⟩
set_option maxHeartbeats 1000000 in
set_option maxRecDepth 100000 in
theorem cc_used (b o:Nat) (w:World) (h0:w.cell? ⟨b,o,none⟩=some (.pointer (some ⟨b,o,none⟩))) :
  Calls Tryz.prog n_strings_Builder_copyCheck #[.pointer (some ⟨b,o,none⟩)] w fun e w'=>e= .returned (.tuple #[])∧w'=w:=by
 obtain ⟨j,hj,_⟩:=bld_info
 have mixed:Tryz.prog.follows .mixedOrders=true:=by kernel_rfl
 have t72:=Tryz.underlying52;have a72:=Tryz.isAgg52;have z72:=Tryz.sizeOf52;have v72:=Tryz.zeroValue52
 have t70:=Tryz.underlying50;have a70:=Tryz.isAgg50;have z70:=Tryz.sizeOf50;have v70:=Tryz.zeroValue50
 have t4:=Tryz.underlying4;have a4:=Tryz.isAgg4;have z4:=Tryz.sizeOf4;have v4:=Tryz.zeroValue4
 have t164:=Tryz.underlying114;have a164:=Tryz.isAgg114;have z164:=Tryz.sizeOf114;have v164:=Tryz.zeroValue114
 go_enter Tryz.func31,cc_ntmps
 go_wp2
 rw [Lib.run_neq_ptr_same w _ t70 hj]
 go_wp2
 go_end0
 exact ⟨rfl,rfl⟩
set_option maxHeartbeats 1000000 in
set_option maxRecDepth 100000 in
theorem cc_fresh (b:Nat) (w:World) (h0:w.cell? ⟨b,0,none⟩=some (.pointer none)) (hsh:w.shape? b=some (52,2)) (hfz:w.frozen? ⟨b,0,none⟩=false) :
  Calls Tryz.prog n_strings_Builder_copyCheck #[.pointer (some ⟨b,0,none⟩)] w fun e w'=>e= .returned (.tuple #[])∧w'=w.setCell ⟨b,0,none⟩ (.pointer (some ⟨b,0,none⟩)):=by
 obtain ⟨j,hj,hjs⟩:=bld_info
 have mixed:Tryz.prog.follows .mixedOrders=true:=by kernel_rfl
 have t72:=Tryz.underlying52;have a72:=Tryz.isAgg52;have z72:=Tryz.sizeOf52;have v72:=Tryz.zeroValue52
 have t70:=Tryz.underlying50;have a70:=Tryz.isAgg50;have z70:=Tryz.sizeOf50;have v70:=Tryz.zeroValue50
 have t4:=Tryz.underlying4;have a4:=Tryz.isAgg4;have z4:=Tryz.sizeOf4;have v4:=Tryz.zeroValue4
 have t164:=Tryz.underlying114;have a164:=Tryz.isAgg114;have z164:=Tryz.sizeOf114;have v164:=Tryz.zeroValue114
 have lies:liesAt Tryz.prog Tryz.prog.depth 52 (2 / Tryz.prog.cellsOf 52) 0 52 1=true:=by kernel_rfl
 go_enter Tryz.func31,cc_ntmps
 go_wp2
 rw [Lib.run_to_unsafe w ⟨b,0,none⟩ t70 t164 hj (by rw [hjs];decide) hsh (Nat.zero_lt_succ 1)]
 simp only [Result.andThen]
 rw [Oper.upon_value]
 go_wp2
 rw [run_callFunc_extern Tryz.func45 (by kernel_rfl) (by kernel_rfl) (by kernel_rfl) (e:=Extern.AbiNoEscape.same) (by kernel_rfl)]
 rw [Lib.run_noEscape]
 simp only [Result.andThen]
 rw [Oper.upon_value]
 go_wp2
 rw [Lib.run_from_unsafe w ⟨b,0,none⟩ t164 t70 hj hsh lies]
 simp only [Result.andThen]
 rw [Oper.upon_value]
 go_wp2
 go_end0
 exact ⟨rfl,rfl⟩
end Go.Proofs.YtfahnaccpncdpaaGreatDoor
namespace Go.Proofs.YtfahnaccpncdpaaGreatDoor
open Go Go.Plat
set_option linter.unusedVariables false
set_option linter.unusedSimpArgs false
set_option maxRecDepth 100000
set_option maxHeartbeats 2000000
attribute [local irreducible] AWP Arith BitS BytesS CallS CatS DrawS EndS IdxS LookS LoopEnd Meets ModeS NilS NormL NormM QuoS RemS ShlS ShrS SideS SplitS bitI
theorem set_cell1 {w:World} {ρ:Pl} {L:List Ob} (hf:Fits w ρ L) {k i:Nat} {ds:List D} (hk:L[k]?=some (.cells ds)) (hi:i < ds.length) {d:D} {v:Value} (hv:Rep w (foot ρ L) ρ L d v) :
  Fits (w.setCells (ρ k).block ((ρ k).off+i) [v]) ρ (L.set k (.cells (ds.set i d)))∧Ext (own ρ L) w (w.setCells (ρ k).block ((ρ k).off+i) [v])∧Fresh w (own ρ L) (own ρ (L.set k (.cells (ds.set i d))))∧Compat ρ L ρ (L.set k (.cells (ds.set i d))):=by
 obtain ⟨h4,h5⟩:=hf.obj k _ hk
 have hc:∀ j,j < [v].length→∃ u,w.cell? ⟨(ρ k).block,(ρ k).off+i+j,none⟩=some u:=fun j hj=>by
  have hj:j=0:=by have:j < 1:=hj;omega
  subst hj
  obtain ⟨⟨u,h8,_⟩,_⟩:=h5 i _ (List.getElem?_eq_getElem hi)
  exact ⟨u,h8⟩
 have hext:=(Ext.setCells w (ρ k).block ((ρ k).off+i) [v]).mono (F':=fun b x=>Ob.owns (.cells ds) (ρ k) b x) fun b x _ ⟨e1,e2,e3⟩=>⟨e1,by omega,by have e3:x < (ρ k).off+i+1:=e3;omega⟩
 refine hf.setObj (o':=.cells (ds.set i d)) hk (fun b x=>by simp only [Ob.owns]) (.inl ⟨ds,_,rfl,rfl⟩) hext fun hcm hfr hex=>?_
 refine ⟨by rw [h4,List.length_set],fun j d' hj=>?_⟩
 have hfz:=fun x=>(setCells_same (ρ k).block [v] ((ρ k).off+i) w).2.2.2.2.1 (ρ k).block x
 by_cases hij:i=j
 ·subst hij
  rw [List.getElem?_set_self hi] at hj
  cases hj
  have hat:=setCells_at (ρ k).block [v] ((ρ k).off+i) w 0 Nat.zero_lt_one hc
  exact ⟨⟨v,hat,hv.keep hex hfr hcm⟩,by rw [hfz];exact (h5 i _ (List.getElem?_eq_getElem hi)).2⟩
 ·rw [List.getElem?_set_ne hij] at hj
  obtain ⟨⟨u,h8,h9⟩,h10⟩:=h5 j d' hj
  refine ⟨⟨u,?_,h9.keep hex hfr hcm⟩,by rw [hfz];exact h10⟩
  rw [setCells_other _ _ _ _ _ _ (fun _=>by show (ρ k).off+j < (ρ k).off+i∨(ρ k).off+i+1≤(ρ k).off+j;omega)]
  exact h8
def adrD:Bool→D
 | true=>.loc 0 0
 | false=>.tnil 0 52 2
def bldO (u:Bool) (bs:List UInt8):List Ob:=[.cells [adrD u,.tosl 5 1 bs.length],.arr 1 (bs.map fun c=>.int .u8 (c.toNat:Int))]
theorem len1 {α:Type} {l:List α} (h:l.length=1):∃ a,l=[a]:=by
 match l,h with
 | [a],_=>exact ⟨a,rfl⟩
theorem cc_meets:Meets Tryz.prog n_strings_Builder_copyCheck (SpecF (fun _:Bool×List UInt8=>True) (fun _=>[.loc 0 0]) (fun (u,bs)=>bldO u bs) (fun _=>.tup []) fun (_,bs)=>bldO true bs):=by
 unfold Meets
 refine ⟨⟨_,Tryz.func31,by decide,rfl⟩,?_⟩
 rintro av L d0 L' ⟨⟨u,bs⟩, -,has,rfl,rfl,rfl⟩ w ρ vs hf hr
 have hr:=RepL.le has hr
 obtain ⟨v0,rfl⟩:=len1 hr.1
 obtain ⟨a,rfl,hk,hm⟩:=(hr.2 0 _ _ rfl rfl).loc_inv
 obtain rfl:=hm _ rfl
 obtain ⟨h1,h2⟩:=hf.obj 0 _ rfl
 obtain ⟨⟨x,h3,h4⟩,h5⟩:=h2 0 _ rfl
 cases u with
 | true=>
  obtain ⟨a,rfl, -,hm⟩:=h4.loc_inv
  obtain rfl:=hm _ rfl
  rw [Nat.add_zero] at h3 ⊢
  refine (cc_used (ρ 0).block (ρ 0).off w h3).mono ?_
  rintro e w' ⟨rfl,rfl⟩
  exact ⟨_,ρ,rfl,hf,.pure _ _ (.tup _ _ rfl fun i d v h=>by cases h),.refl _ _,.refl _ _,.refl _ _⟩
 | false=>
  obtain ⟨rfl, -,hm⟩:=h4.tnil_inv
  obtain ⟨h6,h7⟩:=hm _ rfl
  have hv:Rep w (foot ρ (bldO false bs)) ρ (bldO false bs) (.loc 0 0) (.pointer (some ⟨(ρ 0).block,(ρ 0).off+0,none⟩)):=.loc _ _ _ (by show 0 < 2;decide) fun ds _=>rfl
  obtain ⟨g1,g2,g3,g4⟩:=set_cell1 hf (k:=0) (i:=0) rfl (by show 0 < 2;decide) hv
  rw [Nat.add_zero,h6] at h3 h5 g1 g2 ⊢
  refine (cc_fresh (ρ 0).block w h3 h7 h5.1).mono ?_
  rintro e w' ⟨rfl,rfl⟩
  exact ⟨_,ρ,rfl,g1,.pure _ _ (.tup _ _ rfl fun i d v h=>by cases h),g2,g3,g4⟩
theorem cl_tnil {n k t c:Nat} (h:k < n):ClD n (.tnil k t c):=ClD.of fun m hm=>by
 show renTnil m k t c (fun d'=>d'= .tnil k t c)
 unfold renTnil
 simp [hm k h]
theorem cl_tosl {n k t c:Nat} (h:k < n):ClD n (.tosl t k c):=ClD.of fun m hm=>by
 show renTosl m t k c (fun d'=>d'= .tosl t k c)
 unfold renTosl
 simp [hm k h]
theorem nilif_cl {n:Nat}:ClD n .nilif:=ClD.of fun m hm=>rfl
theorem adr_cl (u:Bool):ClD 2 (adrD u):=by
 cases u
 ·exact cl_tnil (by decide)
 ·exact .loc (by decide)
theorem byte_cl {n:Nat} (l:List UInt8):∀ d∈l.map (fun c=>D.int .u8 (c.toNat:Int)),ClL n d.cells:=fun d hd=>by
 obtain ⟨c,_,rfl⟩:=List.mem_map.1 hd
 exact .cons .int .nil
theorem bldO_cl (u:Bool) (bs:List UInt8):∀ x∈bldO u bs,ClO 2 x:=by
 intro x hx
 simp only [bldO,List.mem_cons,List.not_mem_nil,or_false] at hx
 rcases hx with rfl | rfl
 ·exact .cells (.cons (adr_cl u) (.cons (cl_tosl (by decide)) .nil))
 ·exact .arr (byte_cl bs)
theorem ws_meets:Meets Tryz.prog n_strings_Builder_WriteString (SpecF (fun ((_,bs,s):Bool×List UInt8×List UInt8)=>bs.length+s.length≤4294967296) (fun (_,_,s)=>[.loc 0 0,.str s]) (fun (u,bs,_)=>bldO u bs) (fun (_,_,s)=>.tup [.int .i64 s.length,.nilif]) fun (_,bs,s)=>bldO true (bs++s)):=by
 refine meets_f tabOk Tryz.func16 rfl (by decide) ?_
 rintro ⟨u,bs,s⟩ hb
 have hb:bs.length+s.length≤4294967296:=hb
 refine ⟨Nat.le_refl _,by simp [Tryz.f16],fun E hE=>?_⟩
 dsimp only
 refine vcOk _ ?_
 (all_goals refine qgp ?_<;>(repeat' first | exact trivial | intro hc | refine And.intro ?_ ?_)<;>refine Lf.mk ?_)
 refine call_pre cc_meets (bldO u bs) [] (bldO true bs) (d:=.tup []) (List.append_nil _).symm ⟨(u,bs),trivial,LeL.refl _,rfl,rfl,rfl⟩ rfl (.cons (.loc (by show 0 < 2;decide)) .nil) .tup0 (bldO_cl _ _) (bldO_cl _ _) ?_
 unfold bldO adrD
 (all_goals refine qgp ?_<;>(repeat' first | exact trivial | intro hc | refine And.intro ?_ ?_)<;>refine Lf.mk ?_)
 exact end_pre (bldO true (bs++s)) [] rfl (Nat.le_refl _) (.tup (.cons .int (.cons nilif_cl .nil))) (bldO_cl _ _)
end Go.Proofs.YtfahnaccpncdpaaGreatDoor
namespace Go.Proofs.YtfahnaccpncdpaaGreatDoor
open Go Go.Plat Go.RowKit Go.Lib Go.Shelf
theorem st_ntmps:Tryz.f19.ntmps=14:=by simp [Tryz.f19]
set_option maxHeartbeats 2000000 in
set_option maxRecDepth 100000 in
theorem st_row (b o g cap c:Nat) (l:List UInt8) (w:World) (h1:w.cell? ⟨b,o+1,none⟩=some (.slice (some ⟨g,0,none⟩) l.length cap)) (h0:l≠[]) (hcap:l.length≤cap) (hsh:w.shape? g=some (5,c)) (hc:l.length≤c) (h63:l.length≤9223372036854775807)
  (hcell:∀ j x,l[j]?=some x→w.cell? ⟨g,j,none⟩=some (.int .u8 (x.toNat:Int))) :
  Calls Tryz.prog n_strings_Builder_String #[.pointer (some ⟨b,o,none⟩)] w fun e w'=>e= .returned (.string ⟨l.toArray⟩)∧w'=w.drew.freeze ⟨g,0,none⟩ l.length:=by
 have hl0:l.length≠0:=by simpa using h0
 have c1:w.drew.cell? ⟨b,o+1,none⟩=some (.slice (some ⟨g,0,none⟩) l.length cap):=h1
 have hSD:(Builtin.unsafeSliceData_ #[22] 82 #[.slice (some ⟨g,0,none⟩) l.length cap]).run Tryz.prog w.drew= .ok (.pointer (some ⟨g,0,none⟩)) w.drew:=
  Lib.run_unsafeSliceData_row _ _ _ _ _ _ (by omega)
 have t127:=Tryz.underlying82;have a127:=Tryz.isAgg82;have z127:=Tryz.sizeOf82;have v127:=Tryz.zeroValue82
 have hUS:(Builtin.unsafeString_ #[82,3] 9 #[.pointer (some ⟨g,0,none⟩),.int .i64 l.length]).run Tryz.prog w.drew= .ok (.string ⟨l.toArray⟩) (w.drew.freeze ⟨g,0,none⟩ l.length):=by
  refine Lib.run_unsafeString_row w.drew 82 3 9 5 t127 (by kernel_rfl) g c hsh l h0 hc h63 ?_
  intro j x hx
  have:=hcell j x hx
  rw [Go.Plat.addr_add,Nat.zero_add]
  exact this
 have mixed:Tryz.prog.follows .mixedOrders=true:=by kernel_rfl
 have t72:=Tryz.underlying52;have a72:=Tryz.isAgg52;have z72:=Tryz.sizeOf52;have v72:=Tryz.zeroValue52
 have t70:=Tryz.underlying50;have a70:=Tryz.isAgg50;have z70:=Tryz.sizeOf50;have v70:=Tryz.zeroValue50
 have t37:=Tryz.underlying22;have a37:=Tryz.isAgg22;have z37:=Tryz.sizeOf22;have v37:=Tryz.zeroValue22
 have t3:=Tryz.underlying3;have a3:=Tryz.isAgg3;have z3:=Tryz.sizeOf3;have v3:=Tryz.zeroValue3
 have t9:=Tryz.underlying9;have a9:=Tryz.isAgg9;have z9:=Tryz.sizeOf9;have v9:=Tryz.zeroValue9
 have t5:=Tryz.underlying5;have a5:=Tryz.isAgg5;have z5:=Tryz.sizeOf5;have v5:=Tryz.zeroValue5
 go_enter Tryz.func19,st_ntmps
 go_wp2
 go_region_o
 all_goals (go_wp2;go_ret;exact ⟨rfl,rfl⟩)
set_option maxHeartbeats 2000000 in
set_option maxRecDepth 100000 in
theorem st_empty (b o cap:Nat) (a:Option Addr) (w:World) (h1:w.cell? ⟨b,o+1,none⟩=some (.slice a 0 cap)) (ha:a=none∨cap≠0) :
  Calls Tryz.prog n_strings_Builder_String #[.pointer (some ⟨b,o,none⟩)] w fun e w'=>e= .returned (.string ⟨#[]⟩)∧w'=w.drew:=by
 have c1:w.drew.cell? ⟨b,o+1,none⟩=some (.slice a 0 cap):=h1
 have hSD:(Builtin.unsafeSliceData_ #[22] 82 #[.slice a 0 cap]).run Tryz.prog w.drew= .ok (.pointer a) w.drew:=by
  cases a with
  | none=>rfl
  | some a=>exact Lib.run_unsafeSliceData_row _ _ _ _ _ _ (ha.resolve_left (fun h=>by cases h))
 have hUS:∀ q,(Builtin.unsafeString_ #[82,3] 9 #[.pointer q,.int .i64 0]).run Tryz.prog w.drew= .ok (.string .empty) w.drew:=fun q=>Lib.run_unsafeString_none w.drew _ _ _ q
 have mixed:Tryz.prog.follows .mixedOrders=true:=by kernel_rfl
 have t127:=Tryz.underlying82;have a127:=Tryz.isAgg82;have z127:=Tryz.sizeOf82;have v127:=Tryz.zeroValue82
 have t72:=Tryz.underlying52;have a72:=Tryz.isAgg52;have z72:=Tryz.sizeOf52;have v72:=Tryz.zeroValue52
 have t70:=Tryz.underlying50;have a70:=Tryz.isAgg50;have z70:=Tryz.sizeOf50;have v70:=Tryz.zeroValue50
 have t37:=Tryz.underlying22;have a37:=Tryz.isAgg22;have z37:=Tryz.sizeOf22;have v37:=Tryz.zeroValue22
 have t3:=Tryz.underlying3;have a3:=Tryz.isAgg3;have z3:=Tryz.sizeOf3;have v3:=Tryz.zeroValue3
 have t9:=Tryz.underlying9;have a9:=Tryz.isAgg9;have z9:=Tryz.sizeOf9;have v9:=Tryz.zeroValue9
 have t5:=Tryz.underlying5;have a5:=Tryz.isAgg5;have z5:=Tryz.sizeOf5;have v5:=Tryz.zeroValue5
 clear ha
 go_enter Tryz.func19,st_ntmps
 go_wp2
 go_region_o
 all_goals (go_wp2;go_ret;exact ⟨rfl,rfl⟩)
set_option maxHeartbeats 2000000 in
set_option maxRecDepth 100000 in
theorem st_noroom (b o g c:Nat) (w:World) (h1:w.cell? ⟨b,o+1,none⟩=some (.slice (some ⟨g,0,none⟩) 0 0)) (hsh:w.shape? g=some (5,c)) :
  Calls Tryz.prog n_strings_Builder_String #[.pointer (some ⟨b,o,none⟩)] w fun e w'=>e= .returned (.string ⟨#[]⟩)∧w'=w.drew.alloc (.view ⟨g,0,none⟩ 5):=by
 have hlt:b < w.heap.size:=World.block_lt_of_cell? _ _ h1
 have t127:=Tryz.underlying82;have a127:=Tryz.isAgg82;have z127:=Tryz.sizeOf82;have v127:=Tryz.zeroValue82
 have c1:w.drew.cell? ⟨b,o+1,none⟩=some (.slice (some ⟨g,0,none⟩) 0 0):=h1
 have hSD:(Builtin.unsafeSliceData_ #[22] 82 #[.slice (some ⟨g,0,none⟩) 0 0]).run Tryz.prog w.drew= .ok (.pointer (some ⟨w.drew.heap.size,0,none⟩)) (w.drew.alloc (.view ⟨g,0,none⟩ 5)):=
  Lib.run_unsafeSliceData_zero w.drew _ _ 5 t127 ⟨g,0,none⟩ 0 (5,c) hsh
 have c2:(w.drew.alloc (.view ⟨g,0,none⟩ 5)).cell? ⟨b,o+1,none⟩=some (.slice (some ⟨g,0,none⟩) 0 0):=(World.cell?_alloc_old w.drew (a:=⟨b,o+1,none⟩) (o:=.view ⟨g,0,none⟩ 5) (by show b≠w.heap.size;omega)).trans h1
 have c3:(w.alloc (.view ⟨g,0,none⟩ 5)).drew.cell? ⟨b,o+1,none⟩=some (.slice (some ⟨g,0,none⟩) 0 0):=c2
 have c0:w.cell? ⟨b,o+1,none⟩=some (.slice (some ⟨g,0,none⟩) 0 0):=h1
 have hUS:∀ (W:World) q,(Builtin.unsafeString_ #[82,3] 9 #[.pointer q,.int .i64 0]).run Tryz.prog W= .ok (.string .empty) W:=fun W q=>Lib.run_unsafeString_none W _ _ _ q
 have mixed:Tryz.prog.follows .mixedOrders=true:=by kernel_rfl
 have t72:=Tryz.underlying52;have a72:=Tryz.isAgg52;have z72:=Tryz.sizeOf52;have v72:=Tryz.zeroValue52
 have t70:=Tryz.underlying50;have a70:=Tryz.isAgg50;have z70:=Tryz.sizeOf50;have v70:=Tryz.zeroValue50
 have t37:=Tryz.underlying22;have a37:=Tryz.isAgg22;have z37:=Tryz.sizeOf22;have v37:=Tryz.zeroValue22
 have t3:=Tryz.underlying3;have a3:=Tryz.isAgg3;have z3:=Tryz.sizeOf3;have v3:=Tryz.zeroValue3
 have t9:=Tryz.underlying9;have a9:=Tryz.isAgg9;have z9:=Tryz.sizeOf9;have v9:=Tryz.zeroValue9
 have t5:=Tryz.underlying5;have a5:=Tryz.isAgg5;have z5:=Tryz.sizeOf5;have v5:=Tryz.zeroValue5
 go_enter Tryz.func19,st_ntmps
 go_wp2
 go_region_o
 all_goals (go_wp2;go_ret;exact ⟨rfl,rfl⟩)
end Go.Proofs.YtfahnaccpncdpaaGreatDoor
namespace Go.Proofs.YtfahnaccpncdpaaGreatDoor
open Go Go.Plat
set_option linter.unusedVariables false
set_option linter.unusedSimpArgs false
set_option maxRecDepth 100000
set_option maxHeartbeats 2000000
attribute [local irreducible] AWP Arith BitS BytesS CallS CatS DrawS EndS IdxS LookS LoopEnd Meets ModeS NilS NormL NormM QuoS RemS ShlS ShrS SideS SplitS bitI
theorem freeze_heap (w:World) (a:Addr) (n b:Nat) (h:b≠a.block):(w.freeze a n).heap[b]?=w.heap[b]?:=by
 unfold World.freeze
 split
 ·rfl
 dsimp only
 rw [Array.getElem?_modify,if_neg (fun e=>h e.symm)]
theorem freeze_cell (w:World) (a p:Addr) (n:Nat):(w.freeze a n).cell? p=w.cell? p:=by
 by_cases h:p.block=a.block
 ·unfold World.freeze
  split
  ·rfl
  unfold World.cell?
  dsimp only
  rw [Array.getElem?_modify,if_pos h.symm]
  cases hx:w.heap[p.block]? with
  | none=>rfl
  | some o=>cases o<;>rfl
 ·unfold World.cell?
  rw [freeze_heap _ _ _ _ h]
theorem freeze_size (w:World) (a:Addr) (n:Nat):(w.freeze a n).heap.size=w.heap.size:=by
 unfold World.freeze
 split
 ·rfl
 ·simp
theorem freeze_rest (w:World) (a:Addr) (n:Nat):(w.freeze a n).os=w.os∧(w.freeze a n).tape=w.tape∧(w.freeze a n).output=w.output:=by
 unfold World.freeze
 split<;>exact ⟨rfl,rfl,rfl⟩
theorem shape_off {w:World} {g off c:Nat} {t:TypeId} {v:Value} (h:w.shape? g=some (t,c)) (hc:w.cell? ⟨g,off,none⟩=some v):off < c:=by
 unfold World.shape? at h
 unfold World.cell? at hc
 dsimp only at hc
 split at h
 ·rename_i row e z hx
  rw [hx] at hc
  cases h
  dsimp only at hc
  exact (Array.getElem?_eq_some_iff.1 hc).1
 ·cases h
theorem Ext.freeze {F:Nat→Nat→Prop} (w:World) {g n c:Nat} {t:TypeId} (hs:w.shape? g=some (t,c)) (hc:0 < c) (hF:∀ off,off < c→F g off):Ext F w (w.freeze ⟨g,0,none⟩ n):=by
 obtain ⟨r1,r2,r3⟩:=freeze_rest w ⟨g,0,none⟩ n
 refine ⟨r1,r2,r3,by rw [freeze_size];exact Nat.le_refl _,fun b _ hn=>freeze_heap _ _ _ _ fun e=>?_,fun b off _ _=>freeze_cell _ _ _ _,fun b off v hn hv hs2=>?_,fun b s h=>shape_freeze h _ _⟩
 ·subst e
  exact hn 0 (hF 0 hc)
 ·have hb:b≠g:=fun e=>by
   subst e
   exact hn (hF off (shape_off hs hv))
  have hh:=freeze_heap w ⟨g,0,none⟩ n b hb
  unfold Soft World.frozen? Plat.Clean at hs2 ⊢
  rw [hh]
  exact hs2
theorem dead_post {w w':World} {ρ:Pl} {L:List Ob} {n:Nat} (hf:Fits w ρ L) (hn:L.length≤n) (hx:Ext (own ρ L) w w') {d:D} {v:Value} (hd:∀ F,RepP w' F d v):Post w ρ L d (List.replicate n .dead) v w' ρ:=by
 have hg:∀ (k:Nat) o,(List.replicate n Ob.dead)[k]?=some o→o= .dead:=fun k o h=>by
  rw [List.getElem?_replicate] at h
  split at h
  ·cases h;rfl
  ·cases h
 have hno:∀ b off,¬ own ρ (List.replicate n .dead) b off:=by
  rintro b off ⟨k,o,h1,h2⟩
  rw [hg k o h1] at h2
  exact h2
 have hfo:∀ b off,foot ρ (List.replicate n .dead) b off→foot ρ L b off:=fun b off h=>.inr (h.resolve_left (hno b off))
 refine ⟨⟨hf.glob.keep hx.foot fun b off h=>.inl (hfo b off h),fun b off h=>Nat.lt_of_lt_of_le (hf.hid b off h) hx.size,fun b off h=>absurd h (hno b off),fun k o h=>?_,fun k k' o o' b off h1 h2 h3 h4=>?_⟩,.pure _ _ (hd _),hx,fun b off h=>absurd h (hno b off),?_⟩
 ·rw [hg k o h];trivial
 ·rw [hg k o h1] at h3;exact h3.elim
 ·exact ⟨rfl,by rw [List.length_replicate];exact hn,fun k ds' _ h=>(by cases hg k _ h),fun k ds' _ h=>(by cases hg k _ h),fun k ds' _ h=>(by cases hg k _ h),fun k e ds' _ h=>(by cases hg k _ h)⟩
theorem st_meets:Meets Tryz.prog n_strings_Builder_String (SpecF (fun ((_,bs):Bool×List UInt8)=>bs.length≤4294967296) (fun _=>[.loc 0 0]) (fun (u,bs)=>bldO u bs) (fun (_,bs)=>.str bs) fun _=>[.dead,.dead]):=by
 unfold Meets
 refine ⟨⟨_,Tryz.func19,by decide,rfl⟩,?_⟩
 rintro av L d0 L' ⟨⟨u,bs⟩,hbs,has,rfl,rfl,rfl⟩ w ρ vs hf hr
 have hbs:bs.length≤4294967296:=hbs
 have hr:=RepL.le has hr
 obtain ⟨v0,rfl⟩:=len1 hr.1
 obtain ⟨a,rfl,hk,hm⟩:=(hr.2 0 _ _ rfl rfl).loc_inv
 obtain rfl:=hm _ rfl
 obtain ⟨h1,h2⟩:=hf.obj 0 _ rfl
 obtain ⟨⟨x,h3,h4⟩,h5⟩:=h2 1 _ rfl
 obtain ⟨ad,cap,rfl, -,hcap,hm⟩:=h4.tosl_inv
 obtain ⟨-, -,hm⟩:=hm 1 _ rfl
 obtain ⟨hc,hat⟩:=hm (List.length_map _).symm.symm
 obtain ⟨o1,o2,o3,o4⟩:=hf.obj 1 _ rfl
 rw [Nat.add_zero]
 by_cases h0:bs=[]
 ·subst h0
  by_cases hn:ad=none∨cap≠0
  ·refine (st_empty (ρ 0).block (ρ 0).off cap ad w h3 hn).mono ?_
   rintro e w' ⟨rfl,rfl⟩
   exact ⟨_,ρ,rfl,dead_post (n:=2) hf (Nat.le_refl _) (Ext.drew w).grow fun F=>.str _⟩
  ·have hcz:cap=0:=by
    by_cases h:cap=0
    ·exact h
    ·exact absurd (.inr h) hn
   rcases hat with ⟨h6,_⟩ | ⟨rfl,h7,h8⟩
   ·exact absurd (.inl h6) hn
   subst hcz
   refine (st_noroom (ρ 0).block (ρ 0).off (ρ 1).block 0 w h3 h8).mono ?_
   rintro e w' ⟨rfl,rfl⟩
   exact ⟨_,ρ,rfl,dead_post (n:=2) hf (Nat.le_refl _) ((Ext.drew w).trans0 (Ext.alloc w.drew _)).grow fun F=>.str _⟩
 ·rcases hat with ⟨h6,h7⟩ | ⟨rfl,h7,h8⟩
  ·exact absurd (List.eq_nil_of_length_eq_zero (by omega)) h0
  have hpos:0 < cap:=Nat.lt_of_lt_of_le (List.length_pos_iff.2 h0) hcap
  refine (st_row (ρ 0).block (ρ 0).off (ρ 1).block cap cap bs w h3 h0 hcap h8 hcap (by omega) fun j x hx=>?_).mono ?_
  ·obtain ⟨v,h9,h10⟩:=o3 j (.int .u8 (x.toNat:Int)) 0 _ (by rw [List.getElem?_map,hx];rfl) rfl
   rw [h10.int_inv,h7,Nat.zero_add,Nat.mul_one,Nat.add_zero] at h9
   exact h9
  ·rintro e w' ⟨rfl,rfl⟩
   have hx:Ext (own ρ (bldO u bs)) w.drew (w.drew.freeze ⟨(ρ 1).block,0,none⟩ bs.length):=Ext.freeze _ (c:=cap) h8 hpos fun off ho=>⟨1,_,rfl,rfl,by omega,by omega⟩
   exact ⟨_,ρ,rfl,dead_post (n:=2) hf (Nat.le_refl _) ((Ext.drew w).grow.trans hx fun _ _ _ h=>h) fun F=>.str _⟩
theorem bytesW_ext (w:World) (t:TypeId) (s:ByteArray):Ext F0 w (Lib.bytesWorld w t s):=by
 unfold Lib.bytesWorld
 have h1:=(Ext.drew w).trans0 (Ext.alloc w.drew (.cells (Lib.bytesCells w t s) t))
 generalize w.drew.alloc (.cells (Lib.bytesCells w t s) t)=W at *
 generalize (Lib.bytesCells w t s).size=q
 obtain ⟨r1,r2,r3⟩:=freeze_rest W ⟨w.heap.size,q,none⟩ 1
 refine ⟨r1.trans h1.os,r2.trans h1.tape,r3.trans h1.output,by rw [freeze_size];exact h1.size,fun b hb hn=>(freeze_heap _ _ _ _ (by show b≠w.heap.size;omega)).trans (h1.block b hb hn),fun b off hb hn=>(freeze_cell _ _ _ _).trans (h1.cell b off hb hn),fun b off v hn hv hs=>?_,fun b s hs=>shape_freeze (h1.shape b s hs) _ _⟩
 have hb:=cell_lt hv
 have hh:=freeze_heap W ⟨w.heap.size,q,none⟩ 1 b (by show b≠w.heap.size;omega)
 have h2:=h1.frozen b off v hn hv hs
 unfold Soft World.frozen? Plat.Clean at h2 ⊢
 rw [hh]
 exact h2
theorem trim_meets:Meets Tryz.prog n_strings_TrimSpace (SpecP (fun s:List UInt8=>s.length≤1000000∧∀ c∈s,c.toNat < 128) (fun s=>[.str s]) fun s=>.str (Lib.trimSpace s)):=by
 refine meets_lib ⟨_,Tryz.func24,by decide,rfl⟩ ?_
 intro s hs w F hg vs hl hv
 match vs,hl with
 | [v],_=>
  cases hv 0 _ v rfl rfl
  refine (Go.Proofs.Tryz.strings_TrimSpace ⟨s.toArray⟩ w (by show s.toArray.size≤_;have:=hs.1;simp;omega) (fun j b hb=>hs.2 b (List.mem_of_getElem? (by simpa using hb))) ?_).mono ?_
  ·exact hg.tab (g:=0) (ns:=(List.range 256).map fun i=>if Lib.isSp (UInt8.ofNat i) then 1 else 0) (by kernel_rfl) (by kernel_rfl) (by kernel_rfl) (by decide)
  ·rintro e w' ⟨rfl,rfl⟩
   exact ⟨_,rfl,bytesW_ext _ _ _,by simpa using RepP.str _⟩
theorem trim_id {c d:UInt8} {t u:List UInt8} (hc:Lib.isSp c=false) (hd:Lib.isSp d=false) (e:c::t=u++[d]):Lib.trimSpace (c::t)=c::t:=by
 unfold Lib.trimSpace
 rw [List.dropWhile_cons,hc,if_neg (by decide),e,List.reverse_append]
 show ((d::u.reverse).dropWhile Lib.isSp).reverse=_
 rw [List.dropWhile_cons,hd,if_neg (by decide),List.reverse_cons,List.reverse_reverse]
theorem trim_end {c d:UInt8} {t u:List UInt8} (hc:Lib.isSp c=false) (hd:Lib.isSp d=false) (e:c::t=u++[d]):Lib.trimSpace (c::t++[32])=c::t:=by
 unfold Lib.trimSpace
 rw [List.cons_append,List.dropWhile_cons,hc,if_neg (by decide),← List.cons_append,List.reverse_append]
 show ((32::(c::t).reverse).dropWhile Lib.isSp).reverse=_
 rw [List.dropWhile_cons,show Lib.isSp 32=true by decide,if_pos rfl,e,List.reverse_append]
 show ((d::u.reverse).dropWhile Lib.isSp).reverse=_
 rw [List.dropWhile_cons,hd,if_neg (by decide),List.reverse_cons,List.reverse_reverse]
def signedI (n:Int) (k:Nat):Int:=if n % (2:Int) ^ k / 2 ^ (k - 1)=1 then n % (2:Int) ^ k - 2 ^ k else n % (2:Int) ^ k
theorem signed_meets:Meets Tryz.prog n_isa_signed (SpecP (fun ((n,k):Int×Nat)=>(k=8∨k=12∨k=32)) (fun (n,k)=>[.int .i64 n,.int .i64 k]) fun (n,k)=>.int .i64 (signedI n k)):=by
 refine meets_f tabOk Tryz.func28 rfl (by decide) ?_
 rintro ⟨n,k⟩ hk
 refine ⟨Nat.le_refl _,by simp [Tryz.f28],fun E hE=>?_⟩
 rcases hk with hk | hk | hk<;>(have hk:k=_:=hk;subst hk;refine vcOk _ ?_)
 ·have h0:=Int.emod_nonneg n (show (256:Int)≠0 by decide)
  have h1:=Int.emod_lt_of_pos n (show (0:Int) < 256 by decide)
  have hd:signedI n 8=if n % 256 / 128=1 then n % 256 - 256 else n % 256:=rfl
  (all_goals refine qgo (Lf.mk ?_))
  refine shr_lit (s:=7) (m:=128) rfl (by decide) (by decide) ?_
  (all_goals refine qgo ?_<;>(repeat' first | exact trivial | intro hc | refine And.intro ?_ ?_)<;>refine Lf.mk ?_)
  ·skip
   refine end_p (VS.mk (LeD.of_eq (congrArg (D.int .i64) ?_)))
   rw [hd,if_pos hc]
   omega
  ·refine end_p (VS.mk (LeD.of_eq (congrArg (D.int .i64) ?_)))
   rw [hd,if_neg hc]
 ·have h0:=Int.emod_nonneg n (show (4096:Int)≠0 by decide)
  have h1:=Int.emod_lt_of_pos n (show (0:Int) < 4096 by decide)
  have hd:signedI n 12=if n % 4096 / 2048=1 then n % 4096 - 4096 else n % 4096:=rfl
  (all_goals refine qgo (Lf.mk ?_))
  refine shl_lit (s:=12) (m:=4096) rfl (by decide) (by decide) (by decide) (by decide) ?_
  (all_goals refine qgo (Lf.mk ?_))
  refine shr_lit (s:=11) (m:=2048) rfl (by decide) (by decide) ?_
  (all_goals refine qgo ?_<;>(repeat' first | exact trivial | intro hc | refine And.intro ?_ ?_)<;>refine Lf.mk ?_)
  ·refine shl_lit (s:=12) (m:=4096) rfl (by decide) (by decide) (by decide) (by decide) ?_
   (all_goals refine qgo (Lf.mk ?_))
   refine end_p (VS.mk (LeD.of_eq (congrArg (D.int .i64) ?_)))
   rw [hd,if_pos hc]
   omega
  ·refine end_p (VS.mk (LeD.of_eq (congrArg (D.int .i64) ?_)))
   rw [hd,if_neg hc]
 ·have h0:=Int.emod_nonneg n (show (4294967296:Int)≠0 by decide)
  have h1:=Int.emod_lt_of_pos n (show (0:Int) < 4294967296 by decide)
  have hd:signedI n 32=if n % 4294967296 / 2147483648=1 then n % 4294967296 - 4294967296 else n % 4294967296:=rfl
  (all_goals refine qgo (Lf.mk ?_))
  refine shl_lit (s:=32) (m:=4294967296) rfl (by decide) (by decide) (by decide) (by decide) ?_
  (all_goals refine qgo (Lf.mk ?_))
  refine bit_mk (and_mask (k:=32) (by decide) (by decide)) ?_
  rw [show (2:Int) ^ 32=4294967296 from rfl]
  (all_goals refine qgo (Lf.mk ?_))
  refine shr_lit (s:=31) (m:=2147483648) rfl (by decide) (by decide) ?_
  (all_goals refine qgo ?_<;>(repeat' first | exact trivial | intro hc | refine And.intro ?_ ?_)<;>refine Lf.mk ?_)
  ·refine shl_lit (s:=32) (m:=4294967296) rfl (by decide) (by decide) (by decide) (by decide) ?_
   (all_goals refine qgo (Lf.mk ?_))
   refine end_p (VS.mk (LeD.of_eq (congrArg (D.int .i64) ?_)))
   rw [hd,if_pos hc]
   omega
  ·refine end_p (VS.mk (LeD.of_eq (congrArg (D.int .i64) ?_)))
   rw [hd,if_neg hc]
theorem signed_meets2:Meets Tryz.prog n_isa_Signed (SpecP (fun _:Int=>True) (fun n=>[.int .i64 n]) fun n=>.int .i64 (signedI n 32)):=by
 refine meets_f tabOk Tryz.func121 rfl (by decide) fun n _=>?_
 refine ⟨Nat.le_refl _,by simp [Tryz.f121],fun E hE=>?_⟩
 refine vcOk _ ?_
 (all_goals refine qgo (Lf.mk ?_))
 refine call_p signed_meets (n,32) (.inr (.inr rfl)) (VS.mk (by (first | exact LeL.refl _ | (repeat' (first | exact LeL.nil | exact LeD.refl _ | exact LeD.nil _ | exact LeD.strip _ _ _ | refine LeL.cons ?_ ?_ | refine LeD.tup ?_ | refine LeD.agg ?_))))) ?_
 (all_goals refine qgo (Lf.mk ?_))
 exact end_p (VS.mk (LeD.refl _))
structure IRow where
 op:Int
 name:List UInt8
 shape:Int
 bits:Int
def irowD (r:IRow):D:=.agg [.int .i64 r.op,.str r.name,.int .i64 r.shape,.int .i64 r.bits]
def irows:List IRow:=[
 ⟨1,[110,111,112],0,9⟩,
 ⟨2,[114,116,115],0,11⟩,
 ⟨3,[109,111,118],1,57344⟩,
 ⟨4,[97,100,100],1,28672⟩,
 ⟨5,[109,111,118],2,24579⟩,
 ⟨6,[97,100,100],2,12300⟩,
 ⟨7,[115,117,98],2,12296⟩,
 ⟨8,[97,110,100],2,8201⟩,
 ⟨9,[111,114],2,8203⟩,
 ⟨10,[120,111,114],2,8202⟩,
 ⟨11,[116,115,116],2,8200⟩,
 ⟨12,[99,109,112,47,101,113],2,12288⟩,
 ⟨13,[99,109,112,47,103,116],2,12295⟩,
 ⟨14,[115,104,108,108],3,16384⟩,
 ⟨15,[115,104,108,114],3,16385⟩,
 ⟨16,[100,116],3,16400⟩,
 ⟨17,[98,116],4,35072⟩,
 ⟨18,[98,102],4,35584⟩,
 ⟨19,[98,114,97],5,40960⟩,
 ⟨20,[98,115,114],5,45056⟩,
 ⟨21,[106,109,112],6,16427⟩,
 ⟨22,[106,115,114],6,16395⟩,
 ⟨23,[109,111,118,46,119],7,36864⟩,
 ⟨24,[109,111,118,46,108],8,53248⟩,
 ⟨25,[109,111,118,46,108],9,8194⟩,
 ⟨26,[109,111,118,46,108],10,24578⟩,
 ⟨27,[116,114,97,112,97],11,49920⟩]
theorem irows_len:irows.length=27:=rfl
theorem rows_meets:Meets Tryz.prog n_isa_rows (SpecP (fun _:Unit=>True) (fun _=>[]) fun _=>.sl 4 (irows.map irowD) none):=by
 refine meets_f tabOk Tryz.func25 rfl (by decide) fun _ _=>?_
 refine ⟨Nat.le_refl _,by simp [Tryz.f25],fun E hE=>?_⟩
 refine vcOk _ ?_
 (all_goals refine qgo (Lf.mk ?_))
 exact end_p (VS.mk (LeD.of_eq (by rfl)))
def infoR (op:Int):Option IRow:=irows.find? fun r=>r.op==op
def infoD (op:Int):D:=match infoR op with | some r=>.tup [.str r.name,.int .i64 r.shape] | none=>.tup [.str [],.int .i64 0]
theorem info_meets:Meets Tryz.prog n_isa_Info (SpecP (fun _:Int=>True) (fun op=>[.int .i64 op]) infoD):=by
 refine meets_f tabOk Tryz.func23 rfl (by decide) fun op _=>?_
 refine ⟨Nat.le_refl _,by simp [Tryz.f23],fun E hE=>?_⟩
 refine vcOk _ ?_
 (all_goals refine qgo (Lf.mk ?_))
 refine call_p rows_meets () trivial (VS.mk (by (first | exact LeL.refl _ | (repeat' (first | exact LeL.nil | exact LeD.refl _ | exact LeD.nil _ | exact LeD.strip _ _ _ | refine LeL.cons ?_ ?_ | refine LeD.tup ?_ | refine LeD.agg ?_))))) ?_
 (all_goals refine qgo (Lf.mk ?_))
 refine awp_loop (α:=Nat) (fun k=>k≤27∧∀ (i:Nat) r,i < k→irows[i]?=some r→(r.op==op)=false) (fun k=>[(6,.sl 4 (irows.map irowD) none),(7,.int .i64 27),(8,.int .i64 k),(0,.int .i64 op)]) (fun _=>[]) (fun k=>27 - k) (fun _=>by simp [hE]) 0 ⟨Nat.zero_le _,by simp⟩ ?_ ?_
 ·(repeat' (first | (refine VS.mk ?_) | exact trivial | exact rfl | refine And.intro ?_ ?_))
 rintro k ⟨hk,hno⟩
 refine vcOk _ ?_
 (all_goals refine qgo ?_<;>(repeat' first | exact trivial | intro hc | refine And.intro ?_ ?_)<;>refine Lf.mk ?_)
 ·obtain ⟨r,hr⟩:=at_of_lt (l:=irows) (k:=k) (by rw [irows_len];omega)
  refine ix_map r (by omega) (by simpa using hr) ?_
  (all_goals refine qgo ?_<;>(repeat' first | exact trivial | intro hc | refine And.intro ?_ ?_)<;>refine Lf.mk ?_)
  ·refine end_p (VS.mk (LeD.of_eq ?_))
   have hf:=find_at (p:=fun r=>r.op==op) hr (by simpa using hc) hno
   rw [infoD,infoR,hf]
  ·refine loop_end (k+1) ⟨by omega,no_step hno hr (by simpa using hc)⟩ (by omega) ?_
   (repeat' (first | (refine VS.mk ?_) | exact trivial | exact rfl | refine And.intro ?_ ?_))
 ·refine end_p (VS.mk (LeD.of_eq ?_))
  have hf:=no_end hno (by rw [irows_len];omega)
  rw [infoD,infoR,hf]
def findR (name:List UInt8) (shape:Int):Option IRow:=irows.find? fun r=>r.name==name && r.shape==shape
def findI (name:List UInt8) (shape:Int):Int:=match findR name shape with | some r=>r.op | none=>0
theorem find_meets:Meets Tryz.prog n_isa_Find (SpecP (fun _:List UInt8×Int=>True) (fun (name,shape)=>[.str name,.int .i64 shape]) fun (name,shape)=>.int .i64 (findI name shape)):=by
 refine meets_f tabOk Tryz.func116 rfl (by decide) ?_
 rintro ⟨name,shape⟩ _
 refine ⟨Nat.le_refl _,by simp [Tryz.f116],fun E hE=>?_⟩
 refine vcOk _ ?_
 (all_goals refine qgo (Lf.mk ?_))
 refine call_p rows_meets () trivial (VS.mk (by (first | exact LeL.refl _ | (repeat' (first | exact LeL.nil | exact LeD.refl _ | exact LeD.nil _ | exact LeD.strip _ _ _ | refine LeL.cons ?_ ?_ | refine LeD.tup ?_ | refine LeD.agg ?_))))) ?_
 (all_goals refine qgo (Lf.mk ?_))
 refine awp_loop (α:=Nat) (fun k=>k≤27∧∀ (i:Nat) r,i < k→irows[i]?=some r→(r.name==name && r.shape==shape)=false) (fun k=>[(7,.sl 4 (irows.map irowD) none),(8,.int .i64 27),(9,.int .i64 k),(0,.str name),(1,.int .i64 shape)]) (fun _=>[]) (fun k=>27 - k) (fun _=>by simp [hE]) 0 ⟨Nat.zero_le _,by simp⟩ ?_ ?_
 ·(repeat' (first | (refine VS.mk ?_) | exact trivial | exact rfl | refine And.intro ?_ ?_))
 rintro k ⟨hk,hno⟩
 refine vcOk _ ?_
 (all_goals refine qgo ?_<;>(repeat' first | exact trivial | intro hc | refine And.intro ?_ ?_)<;>refine Lf.mk ?_)
 ·obtain ⟨r,hr⟩:=at_of_lt (l:=irows) (k:=k) (by rw [irows_len];omega)
  refine ix_map r (by omega) (by simpa using hr) ?_
  (all_goals refine qgo ?_<;>(repeat' first | exact trivial | intro hc | refine And.intro ?_ ?_)<;>refine Lf.mk ?_)
  ·refine end_p (VS.mk (LeD.of_eq ?_))
   have hf:=find_at (p:=fun r=>r.name==name && r.shape==shape) hr (by simp [*]) hno
   simp only [findI,findR,hf]
  ·refine loop_end (k+1) ⟨by omega,no_step hno hr (by simp [*])⟩ (by omega) ?_
   (repeat' (first | (refine VS.mk ?_) | exact trivial | exact rfl | refine And.intro ?_ ?_))
  ·refine loop_end (k+1) ⟨by omega,no_step hno hr (by simp [*])⟩ (by omega) ?_
   (repeat' (first | (refine VS.mk ?_) | exact trivial | exact rfl | refine And.intro ?_ ?_))
 ·refine end_p (VS.mk (LeD.of_eq ?_))
  have hf:=no_end hno (by rw [irows_len];omega)
  simp only [findI,findR,hf]
def uses1 (s:Int):Bool:=s==1 || s==3 || s==6 || s==7 || s==8 || s==2 || s==9 || s==10
def uses2 (s:Int):Bool:=s==2 || s==9 || s==10
theorem uses_meets:Meets Tryz.prog n_isa_uses (SpecP (fun _:Int=>True) (fun s=>[.int .i64 s]) fun s=>.tup [.bool (uses1 s),.bool (uses2 s)]):=by
 refine meets_f tabOk Tryz.func27 rfl (by decide) fun s _=>?_
 refine ⟨Nat.le_refl _,by simp [Tryz.f27],fun E hE=>?_⟩
 refine vcOk _ ?_
 (all_goals refine qgo ?_<;>(repeat' first | exact trivial | intro hc | refine And.intro ?_ ?_)<;>refine Lf.mk ?_)
 all_goals (refine end_p (VS.mk ?_))
 all_goals first | (exfalso;omega) | (refine LeD.tup (.cons ?_ (.cons ?_ .nil))<;>first | exact LeD.tt (by simp_all [uses1,uses2]) | exact LeD.ff (by simp_all [uses1,uses2]))
def lowI (s:Int):Int:=if s=1∨s=4 then -128 else if s=5 then -2048 else 0
def highI (s:Int):Int:=if s=1∨s=4 then 127 else if s=5 then 2047 else if s=7∨s=8∨s=11 then 255 else 0
theorem range_meets:Meets Tryz.prog n_isa_Range (SpecP (fun _:Int=>True) (fun s=>[.int .i64 s]) fun s=>.tup [.int .i64 (lowI s),.int .i64 (highI s)]):=by
 refine meets_f tabOk Tryz.func44 rfl (by decide) fun s _=>?_
 refine ⟨Nat.le_refl _,by simp [Tryz.f44],fun E hE=>?_⟩
 refine vcOk _ ?_
 (all_goals refine qgo ?_<;>(repeat' first | exact trivial | intro hc | refine And.intro ?_ ?_)<;>refine Lf.mk ?_)
 all_goals (refine end_p (VS.mk ?_))
 all_goals (refine LeD.of_eq ?_;unfold lowI highI;simp;omega)
def maskI (s:Int):Int:=if s=0 then 65535 else if s=2∨s=9∨s=10 then 61455 else if s=3∨s=6 then 61695 else if s=4∨s=11 then 65280 else 61440
theorem mask_meets:Meets Tryz.prog n_isa_mask (SpecP (fun _:Int=>True) (fun s=>[.int .i64 s]) fun s=>.int .i64 (maskI s)):=by
 refine meets_f tabOk Tryz.func26 rfl (by decide) fun s _=>?_
 refine ⟨Nat.le_refl _,by simp [Tryz.f26],fun E hE=>?_⟩
 refine vcOk _ ?_
 (all_goals refine qgo ?_<;>(repeat' first | exact trivial | intro hc | refine And.intro ?_ ?_)<;>refine Lf.mk ?_)
 all_goals (refine end_p (VS.mk (LeD.of_eq (congrArg (D.int .i64) ?_))))
 all_goals (unfold maskI;(repeat' split)<;>first | rfl | omega)
attribute [local irreducible] highI infoR irows lowI maskI signedI uses1 uses2
structure Ins where
 op:Int
 n:Int
 m:Int
 imm:Int
def insD (i:Ins):D:=.agg [.int .i64 i.op,.int .i64 i.n,.int .i64 i.m,.int .i64 i.imm]
def badReg (r:IRow) (i:Ins):Prop:=i.n < 0∨15 < i.n∨(uses1 r.shape=false∧i.n≠0)∨i.m < 0∨15 < i.m∨(uses2 r.shape=false∧i.m≠0)∨i.imm < lowI r.shape∨highI r.shape < i.imm
instance (r:IRow) (i:Ins):Decidable (badReg r i):=by unfold badReg;infer_instance
def wrongI (i:Ins):Int:=match infoR i.op with
 | none=>1
 | some r=>if badReg r i then 3 else 0
theorem irow_name:∀ r∈irows,r.name≠[]:=by unfold irows;decide
theorem infoR_mem {op:Int} {r:IRow} (h:infoR op=some r):r∈irows∧r.op=op:=by
 unfold infoR at h
 exact ⟨List.mem_of_find?_eq_some h,by simpa using List.find?_some h⟩
theorem iwrong_meets:Meets Tryz.prog n_isa_Wrong (SpecP (fun _:Ins=>True) (fun i=>[insD i]) fun i=>.int .i64 (wrongI i)):=by
 refine meets_f tabOk Tryz.func29 rfl (by decide) fun i _=>?_
 refine ⟨Nat.le_refl _,by simp [Tryz.f29],fun E hE=>?_⟩
 refine vcOk _ ?_
 (all_goals refine qgo (Lf.mk ?_))
 refine call_p info_meets i.op trivial (VS.mk (by (first | exact LeL.refl _ | (repeat' (first | exact LeL.nil | exact LeD.refl _ | exact LeD.nil _ | exact LeD.strip _ _ _ | refine LeL.cons ?_ ?_ | refine LeD.tup ?_ | refine LeD.agg ?_))))) ?_
 cases hi:infoR i.op with
 | none=>
  have hw:wrongI i=1:=by unfold wrongI;rw [hi]
  rw [show infoD i.op= .tup [.str [],.int .i64 0] by unfold infoD;rw [hi]]
  (all_goals refine qgo ?_<;>(repeat' first | exact trivial | intro hc | refine And.intro ?_ ?_)<;>refine Lf.mk ?_)
  ·refine end_p (VS.mk (LeD.of_eq ?_))
   rw [hw]
  ·exfalso;exact hc trivial
 | some r=>
  have hn:r.name≠[]:=irow_name r (infoR_mem hi).1
  have hw:wrongI i=if badReg r i then 3 else 0:=by unfold wrongI;rw [hi]
  rw [show infoD i.op= .tup [.str r.name,.int .i64 r.shape] by unfold infoD;rw [hi]]
  (all_goals refine qgo ?_<;>(repeat' first | exact trivial | intro hc | refine And.intro ?_ ?_)<;>refine Lf.mk ?_)
  ·exfalso;exact hn hc
  refine call_p uses_meets r.shape trivial (VS.mk (by (first | exact LeL.refl _ | (repeat' (first | exact LeL.nil | exact LeD.refl _ | exact LeD.nil _ | exact LeD.strip _ _ _ | refine LeL.cons ?_ ?_ | refine LeD.tup ?_ | refine LeD.agg ?_))))) ?_
  (all_goals refine qgo (Lf.mk ?_))
  refine call_p range_meets r.shape trivial (VS.mk (by (first | exact LeL.refl _ | (repeat' (first | exact LeL.nil | exact LeD.refl _ | exact LeD.nil _ | exact LeD.strip _ _ _ | refine LeL.cons ?_ ?_ | refine LeD.tup ?_ | refine LeD.agg ?_))))) ?_
  (all_goals refine qgo ?_<;>(repeat' first | exact trivial | intro hc | refine And.intro ?_ ?_)<;>refine Lf.mk ?_)
  all_goals (refine end_p (VS.mk (LeD.of_eq (congrArg (D.int .i64) ?_)));rw [hw])
  all_goals first | (rw [if_pos];unfold badReg;simp_all;done) | (rw [if_neg];unfold badReg;simp_all;done) | (rw [if_neg];unfold badReg;simp_all;omega)
def bitsOf (op:Int):Int:=irows.foldl (fun b r=>if r.op=op then r.bits else b) 0
theorem irow_bits:∀ r∈irows,bitsOf r.op=r.bits∧0≤r.bits∧r.bits≤65535:=by unfold bitsOf irows;decide
def encN (b n m v:Nat):Nat:=b ||| n * 256 ||| m * 16 ||| v
def encI (r:IRow) (i:Ins):Int:=(encN r.bits.toNat i.n.toNat i.m.toNat (i.imm % (if r.shape=5 then 4096 else 256)).toNat:Nat)
def encV (i:Ins):Int:=match infoR i.op with | some r=>encI r i | none=>0
theorem wrongI_0 {i:Ins} (h:wrongI i=0):∃ r,infoR i.op=some r∧0≤i.n∧i.n≤15∧0≤i.m∧i.m≤15∧(uses1 r.shape=false→i.n=0)∧(uses2 r.shape=false→i.m=0)∧lowI r.shape≤i.imm∧i.imm≤highI r.shape:=by
 unfold wrongI at h
 split at h
 ·exact absurd h (by decide)
 ·rename_i r hr
  split at h
  ·exact absurd h (by decide)
  ·rename_i hb
   unfold badReg at hb
   refine ⟨r,hr,by omega,by omega,by omega,by omega,fun h=>?_,fun h=>?_,by omega,by omega⟩
   ·exact Classical.byContradiction fun h'=>hb (.inr (.inr (.inl ⟨h,h'⟩)))
   ·exact Classical.byContradiction fun h'=>hb (.inr (.inr (.inr (.inr (.inr (.inl ⟨h,h'⟩))))))
theorem bits_step {op:Int} {k:Nat} {r:IRow} (h:irows[k]?=some r):(irows.take (k+1)).foldl (fun b r=>if r.op=op then r.bits else b) 0=if r.op=op then r.bits else (irows.take k).foldl (fun b r=>if r.op=op then r.bits else b) 0:=by
 obtain ⟨hk,rfl⟩:=List.getElem?_eq_some_iff.1 h
 rw [List.take_succ_eq_append_getElem hk,List.foldl_append]
 rfl
theorem encode_meets:Meets Tryz.prog n_isa_Encode (SpecP (fun _:Ins=>True) (fun i=>[insD i]) fun i=>.tup [.int .i64 (if wrongI i=0 then encV i else 0),.int .i64 (wrongI i)]):=by
 refine meets_f tabOk Tryz.func14 rfl (by decide) fun i _=>?_
 refine ⟨Nat.le_refl _,by simp [Tryz.f14],fun E hE=>?_⟩
 refine vcOk _ ?_
 (all_goals refine qgo (Lf.mk ?_))
 refine call_p iwrong_meets i trivial (VS.mk (by (first | exact LeL.refl _ | (repeat' (first | exact LeL.nil | exact LeD.refl _ | exact LeD.nil _ | exact LeD.strip _ _ _ | refine LeL.cons ?_ ?_ | refine LeD.tup ?_ | refine LeD.agg ?_))))) ?_
 (all_goals refine qgo ?_<;>(repeat' first | exact trivial | intro hc | refine And.intro ?_ ?_)<;>refine Lf.mk ?_)
 ·refine end_p (VS.mk (LeD.of_eq ?_))
  rw [if_neg hc]
 obtain ⟨r,hi,h1,h2,h3,h4,h5,h6,h7,h8⟩:=wrongI_0 hc
 refine call_p info_meets i.op trivial (VS.mk (by (first | exact LeL.refl _ | (repeat' (first | exact LeL.nil | exact LeD.refl _ | exact LeD.nil _ | exact LeD.strip _ _ _ | refine LeL.cons ?_ ?_ | refine LeD.tup ?_ | refine LeD.agg ?_))))) ?_
 rw [show infoD i.op= .tup [.str r.name,.int .i64 r.shape] by unfold infoD;rw [hi]]
 (all_goals refine qgo (Lf.mk ?_))
 refine call_p rows_meets () trivial (VS.mk (by (first | exact LeL.refl _ | (repeat' (first | exact LeL.nil | exact LeD.refl _ | exact LeD.nil _ | exact LeD.strip _ _ _ | refine LeL.cons ?_ ?_ | refine LeD.tup ?_ | refine LeD.agg ?_))))) ?_
 (all_goals refine qgo (Lf.mk ?_))
 refine awp_loop (α:=Nat) (fun k=>k≤27) (fun k=>[(22,.sl 4 (irows.map irowD) none),(23,.int .i64 27),(24,.int .i64 k),(1,.loc 0 0),(6,.int .i64 r.shape),
  (7,.int .i64 ((irows.take k).foldl (fun b r=>if r.op=i.op then r.bits else b) 0))]) (fun _=>[.cells [.int .i64 i.op,.int .i64 i.n,.int .i64 i.m,.int .i64 i.imm]]) (fun k=>27 - k) (fun _=>by simp [hE]) 0 (Nat.zero_le _) ?_ ?_
 ·(repeat' (first | (refine VS.mk ?_) | exact trivial | exact rfl | refine And.intro ?_ ?_))
  all_goals (rw [irows_len];rfl)
 intro k hk
 refine vcOk _ ?_
 (all_goals refine qgo ?_<;>(repeat' first | exact trivial | intro hc | refine And.intro ?_ ?_)<;>refine Lf.mk ?_)
 ·obtain ⟨q,hq⟩:=at_of_lt (l:=irows) (k:=k) (by rw [irows_len];omega)
  have hst:=bits_step (op:=i.op) hq
  refine ix_map q (by omega) (by simpa using hq) ?_
  (all_goals refine qgo ?_<;>(repeat' first | exact trivial | intro hc | refine And.intro ?_ ?_)<;>refine Lf.mk ?_)
  ·refine loop_end (k+1) (by omega) (by omega) ?_
   rw [hst,if_pos hc]
   (repeat' (first | (refine VS.mk ?_) | exact trivial | exact rfl | refine And.intro ?_ ?_))
  ·refine loop_end (k+1) (by omega) (by omega) ?_
   rw [hst,if_neg hc]
   (repeat' (first | (refine VS.mk ?_) | exact trivial | exact rfl | refine And.intro ?_ ?_))
 all_goals
  obtain rfl:k=27:=by omega
  obtain ⟨hm,ho⟩:=infoR_mem hi
  obtain ⟨b1,b2,b3⟩:=irow_bits r hm
  rw [ho] at b1
  obtain ⟨B,hB⟩:=Int.eq_ofNat_of_zero_le b2
  obtain ⟨N,hN⟩:=Int.eq_ofNat_of_zero_le h1
  obtain ⟨M,hM⟩:=Int.eq_ofNat_of_zero_le h3
  have hfold:(irows.take 27).foldl (fun b r=>if r.op=i.op then r.bits else b) 0=(B:Int):=by
   rw [List.take_of_length_le (by rw [irows_len];exact Nat.le_refl _),← hB,← b1]
   rfl
  have hl1:B ||| N * 256 < 2 ^ 16:=Nat.or_lt_two_pow (by omega) (by omega)
  have hl2:B ||| N * 256 ||| M * 16 < 2 ^ 16:=Nat.or_lt_two_pow hl1 (by omega)
  rw [hfold]
  refine bit_mk (or_eq (a:=B) (b:=N * 256) rfl (by omega) (by omega) (by omega)) ?_
  (all_goals refine qgo (Lf.mk ?_))
  refine bit_mk (or_eq (a:=B ||| N * 256) (b:=M * 16) rfl (by omega) (by omega) (by omega)) ?_
  refine VS.mk ?_
 ·obtain ⟨V,hV⟩:=Int.eq_ofNat_of_zero_le (Int.emod_nonneg i.imm (show (4096:Int)≠0 by decide))
  refine bit_mk and_4095 ?_
  rw [hV]
  (all_goals refine qgo (Lf.mk ?_))
  refine bit_mk (or_eq (a:=B ||| N * 256 ||| M * 16) (b:=V) rfl rfl (by omega) (by omega)) ?_
  (all_goals refine qgo (Lf.mk ?_))
  refine end_p (VS.mk (LeD.of_eq ?_))
  rw [if_pos (by assumption),show encV i=encI r i by unfold encV;rw [hi],encI,if_pos (by assumption:r.shape=5),hV,hB,hN,hM,(by assumption:wrongI i=0)]
  rfl
 ·obtain ⟨V,hV⟩:=Int.eq_ofNat_of_zero_le (Int.emod_nonneg i.imm (show (256:Int)≠0 by decide))
  refine bit_mk and_255 ?_
  rw [hV]
  (all_goals refine qgo (Lf.mk ?_))
  refine bit_mk (or_eq (a:=B ||| N * 256 ||| M * 16) (b:=V) rfl rfl (by omega) (by omega)) ?_
  (all_goals refine qgo (Lf.mk ?_))
  refine end_p (VS.mk (LeD.of_eq ?_))
  rw [if_pos (by assumption),show encV i=encI r i by unfold encV;rw [hi],encI,if_neg (by assumption:¬ r.shape=5),hV,hB,hN,hM,(by assumption:wrongI i=0)]
  rfl
theorem mask_bd (s:Int):0≤maskI s∧maskI s≤65535:=by unfold maskI;(repeat' split)<;>omega
def fitsR (w:Nat) (r:IRow):Bool:=((w &&& (maskI r.shape).toNat:Nat):Int)==r.bits
def decR (w:Nat):Option IRow:=irows.find? (fitsR w)
def immOf (w:Int) (s:Int):Int:=if s=1∨s=4 then signedI w 8 else if s=5 then signedI w 12 else if s=7∨s=8∨s=11 then w % 256 else 0
def insOf (w:Int) (r:IRow):Ins:=⟨r.op,if uses1 r.shape=true then w / 256 % 16 else 0,if uses2 r.shape=true then w / 16 % 16 else 0,immOf w r.shape⟩
def ins0:Ins:=⟨0,0,0,0⟩
def decI (w:Int):Ins×Int:=if w < 0∨65535 < w then (ins0,3) else match decR w.toNat with
 | some r=>(insOf w r,0)
 | none=>(ins0,12)
theorem decode_meets:Meets Tryz.prog n_isa_Decode (SpecP (fun _:Int=>True) (fun w=>[.int .i64 w]) fun w=>.tup [insD (decI w).1,.int .i64 (decI w).2]):=by
 refine meets_f tabOk Tryz.func11 rfl (by decide) fun w _=>?_
 refine ⟨Nat.le_refl _,by simp [Tryz.f11],fun E hE=>?_⟩
 refine vcOk _ ?_
 (all_goals refine qgo ?_<;>(repeat' first | exact trivial | intro hc | refine And.intro ?_ ?_)<;>refine Lf.mk ?_)
 ·refine end_p (VS.mk (LeD.of_eq ?_))
  rw [show decI w=(ins0,3) by unfold decI;rw [if_pos (by omega)]]
  rfl
 ·refine end_p (VS.mk (LeD.of_eq ?_))
  rw [show decI w=(ins0,3) by unfold decI;rw [if_pos (by omega)]]
  rfl
 refine call_p rows_meets () trivial (VS.mk (by (first | exact LeL.refl _ | (repeat' (first | exact LeL.nil | exact LeD.refl _ | exact LeD.nil _ | exact LeD.strip _ _ _ | refine LeL.cons ?_ ?_ | refine LeD.tup ?_ | refine LeD.agg ?_))))) ?_
 (all_goals refine qgo (Lf.mk ?_))
 obtain ⟨W,hW⟩:=Int.eq_ofNat_of_zero_le (show 0≤w by omega)
 subst hW
 refine awp_loop (α:=Nat) (fun k=>k≤27∧∀ (i:Nat) r,i < k→irows[i]?=some r→fitsR W r=false) (fun k=>[(16,.sl 4 (irows.map irowD) none),(17,.int .i64 27),(18,.int .i64 k),(0,.int .i64 W),(2,.loc 0 0)])
  (fun _=>[.cells [.int .i64 0,.int .i64 0,.int .i64 0,.int .i64 0]]) (fun k=>27 - k) (fun _=>by simp [hE]) 0 ⟨Nat.zero_le _,by simp⟩ ?_ ?_
 ·(repeat' (first | (refine VS.mk ?_) | exact trivial | exact rfl | refine And.intro ?_ ?_))
  all_goals (rw [irows_len];rfl)
 rintro k ⟨hk,hno⟩
 refine vcOk _ ?_
 (all_goals refine qgo ?_<;>(repeat' first | exact trivial | intro hc | refine And.intro ?_ ?_)<;>refine Lf.mk ?_)
 ·obtain ⟨r,hr⟩:=at_of_lt (l:=irows) (k:=k) (by rw [irows_len];omega)
  refine ix_map r (by omega) (by simpa using hr) ?_
  (all_goals refine qgo (Lf.mk ?_))
  refine call_p mask_meets r.shape trivial (VS.mk (by (first | exact LeL.refl _ | (repeat' (first | exact LeL.nil | exact LeD.refl _ | exact LeD.nil _ | exact LeD.strip _ _ _ | refine LeL.cons ?_ ?_ | refine LeD.tup ?_ | refine LeD.agg ?_))))) ?_
  have hmb:=mask_bd r.shape
  obtain ⟨X,hX⟩:=Int.eq_ofNat_of_zero_le hmb.1
  rw [hX]
  (all_goals refine qgo (Lf.mk ?_))
  refine bit_mk (and_eq (a:=W) (b:=X) rfl rfl (by omega) (by omega)) ?_
  have hfit:fitsR W r=(((W &&& X:Nat):Int)==r.bits):=by unfold fitsR;rw [hX];rfl
  (all_goals refine qgo ?_<;>(repeat' first | exact trivial | intro hc | refine And.intro ?_ ?_)<;>refine Lf.mk ?_)
  ·refine loop_end (k+1) ⟨by omega,no_step hno hr (by rw [hfit];simpa using hc)⟩ (by omega) ?_
   (repeat' (first | (refine VS.mk ?_) | exact trivial | exact rfl | refine And.intro ?_ ?_))
  have hf:=find_at hr (by rw [hfit];simpa using hc) hno
  have hd:decI (W:Int)=(insOf W r,0):=by
   unfold decI
   rw [if_neg (by omega)]
   simp only [Int.toNat_natCast,decR,hf]
  refine call_p uses_meets r.shape trivial (VS.mk (by (first | exact LeL.refl _ | (repeat' (first | exact LeL.nil | exact LeD.refl _ | exact LeD.nil _ | exact LeD.strip _ _ _ | refine LeL.cons ?_ ?_ | refine LeD.tup ?_ | refine LeD.agg ?_))))) ?_
  (all_goals refine qgo ?_<;>(repeat' first | exact trivial | intro hc | refine And.intro ?_ ?_)<;>refine Lf.mk ?_)
  any_goals (first | (exfalso;clear hd hf hno hX hmb hfit;contradiction) | skip)
  any_goals (first | (refine call_p signed_meets (W,8) (.inl rfl) (VS.mk (LeL.of_eq rfl)) ?_) | (refine call_p signed_meets (W,12) (.inr (.inl rfl)) (VS.mk (LeL.of_eq rfl)) ?_) | skip)
  (all_goals refine qgo (Lf.mk ?_))
  all_goals (refine end_p (VS.mk (LeD.of_eq ?_));rw [hd])
  all_goals (clear hf hno hX hmb hfit hd;simp_all [insD,insOf,immOf])
 ·have hf:=no_end hno (by rw [irows_len];omega)
  have hd:decI (W:Int)=(ins0,12):=by
   unfold decI
   rw [if_neg (by omega)]
   simp only [Int.toNat_natCast,decR,hf]
  refine end_p (VS.mk (LeD.of_eq ?_))
  rw [hd]
  rfl
end Go.Proofs.YtfahnaccpncdpaaGreatDoor
namespace Go.Proofs.YtfahnaccpncdpaaGreatDoor
open Go Go.Plat
set_option linter.unusedVariables false
set_option linter.unusedSimpArgs false
set_option maxRecDepth 100000
set_option maxHeartbeats 2000000
attribute [local irreducible] AWP Arith BitS BytesS CallS CatS DrawS EndS IdxS LookS LoopEnd Meets ModeS NilS NormL NormM QuoS RemS ShlS ShrS SideS SplitS bitI
def allB (f:Nat→Bool):Nat→Bool
 | 0=>true
 | n+1=>match f n with
  | true=>allB f n
  | false=>false
theorem allB_at {f:Nat→Bool}:∀ {n:Nat},allB f n=true→∀ i,i < n→f i=true
 | 0,_,i,h=>by omega
 | n+1,h,i,hi=>by
  simp only [allB] at h
  split at h
  ·rename_i h1
   rcases Nat.lt_or_ge i n with h2 | h2
   ·exact allB_at h i h2
   ·obtain rfl:i=n:=by omega
    exact h1
  ·cases h
theorem and_f00f {w:Nat} (h:w < 65536):w &&& 61455=w / 4096 * 4096+w % 16:=
 Nat.eq_of_beq_eq_true (allB_at (f:=fun w=>Nat.beq (w &&& 61455) (w / 4096 * 4096+w % 16)) (n:=65536) (by kernel_rfl) w h)
theorem and_f0ff {w:Nat} (h:w < 65536):w &&& 61695=w / 4096 * 4096+w % 256:=
 Nat.eq_of_beq_eq_true (allB_at (f:=fun w=>Nat.beq (w &&& 61695) (w / 4096 * 4096+w % 256)) (n:=65536) (by kernel_rfl) w h)
theorem and_ff00 {w:Nat} (h:w < 65536):w &&& 65280=w / 256 * 256:=
 Nat.eq_of_beq_eq_true (allB_at (f:=fun w=>Nat.beq (w &&& 65280) (w / 256 * 256)) (n:=65536) (by kernel_rfl) w h)
theorem and_f000 {w:Nat} (h:w < 65536):w &&& 61440=w / 4096 * 4096:=
 Nat.eq_of_beq_eq_true (allB_at (f:=fun w=>Nat.beq (w &&& 61440) (w / 4096 * 4096)) (n:=65536) (by kernel_rfl) w h)
theorem and_ffff {w:Nat} (h:w < 65536):w &&& 65535=w:=by
 have:=Nat.and_two_pow_sub_one_eq_mod w 16
 simp at this
 rw [this];omega
def toB (r:IRow):Nat×Nat×Nat:=(r.shape.toNat,(maskI r.shape).toNat,r.bits.toNat)
def rowsB:List (Nat×Nat×Nat):=[(0,65535,9),(0,65535,11),(1,61440,57344),(1,61440,28672),(2,61455,24579),(2,61455,12300),(2,61455,12296),(2,61455,8201),(2,61455,8203),(2,61455,8202),(2,61455,8200),(2,61455,12288),(2,61455,12295),(3,61695,16384),(3,61695,16385),(3,61695,16400),(4,65280,35072),(4,65280,35584),(5,61440,40960),(5,61440,45056),(6,61695,16427),(6,61695,16395),(7,61440,36864),(8,61440,53248),(9,61455,8194),(10,61455,24578),(11,65280,49920)]
theorem rowsB_eq:irows.map toB=rowsB:=by unfold irows toB maskI;rfl
def idxB (w:Nat):List (Nat×Nat×Nat)→Nat→Nat
 | [],k=>k
 | p::l,k=>match Nat.beq (w &&& p.2.1) p.2.2 with
  | true=>k
  | false=>idxB w l (k+1)
theorem idxB_ge (w:Nat):∀ l k,k≤idxB w l k
 | [],k=>Nat.le_refl _
 | p::l,k=>by
  simp only [idxB]
  split
  ·exact Nat.le_refl _
  ·have:=idxB_ge w l (k+1);omega
theorem find_idx (w:Nat):∀ (l:List IRow) (k j:Nat),(∀ r∈l,0≤r.bits)→idxB w (l.map toB) k=k+j→l.find? (fitsR w)=l[j]?
 | [],k,j,_,_=>by simp
 | r::l,k,j,hb,h=>by
  have h0:=hb r (by simp)
  simp only [List.map_cons,idxB,toB] at h
  have hf:fitsR w r=Nat.beq (w &&& (maskI r.shape).toNat) r.bits.toNat:=by
   unfold fitsR
   rw [Bool.eq_iff_iff]
   constructor
   ·intro h
    have h:=LawfulBEq.eq_of_beq h
    rw [← h]
    exact Nat.beq_refl _
   ·intro h
    have h:=Nat.eq_of_beq_eq_true h
    rw [h,Int.toNat_of_nonneg h0]
    exact beq_self_eq_true _
  rw [List.find?_cons,hf]
  split at h
  ·rename_i hb
   obtain rfl:j=0:=by omega
   rw [hb]
   rfl
  ·rename_i hn
   have:=idxB_ge w (l.map toB) (k+1)
   cases j with
   | zero=>omega
   | succ j=>
    rw [hn]
    exact find_idx w l (k+1) j (fun r hr=>hb r (by simp [hr])) (by omega)
def fB (j b n m v:Nat):Bool:=match Nat.beq (b ||| n * 256 ||| m * 16 ||| v) (b+n * 256+m * 16+v) with
 | true=>Nat.beq (idxB (b+n * 256+m * 16+v) rowsB 0) j
 | false=>false
theorem fB_eq {j b n m v:Nat} (h:fB j b n m v=true):encN b n m v=b+n * 256+m * 16+v∧idxB (b+n * 256+m * 16+v) rowsB 0=j:=by
 unfold fB at h
 split at h
 ·rename_i h1
  exact ⟨Nat.eq_of_beq_eq_true h1,Nat.eq_of_beq_eq_true h⟩
 ·cases h
def formB (s:Nat) (f:Nat→Nat→Nat→Bool):Bool:=
 match s with
 | 0=>f 0 0 0
 | 1=>allB (fun n=>allB (fun v=>f n 0 v) 256) 16
 | 7=>allB (fun n=>allB (fun v=>f n 0 v) 256) 16
 | 8=>allB (fun n=>allB (fun v=>f n 0 v) 256) 16
 | 2=>allB (fun n=>allB (fun m=>f n m 0) 16) 16
 | 9=>allB (fun n=>allB (fun m=>f n m 0) 16) 16
 | 10=>allB (fun n=>allB (fun m=>f n m 0) 16) 16
 | 3=>allB (fun n=>f n 0 0) 16
 | 6=>allB (fun n=>f n 0 0) 16
 | 4=>allB (fun v=>f 0 0 v) 256
 | 11=>allB (fun v=>f 0 0 v) 256
 | _=>allB (fun v=>f 0 0 v) 4096
theorem forms:∀ j,j < 27→(match rowsB[j]? with | some p=>formB p.1 (fB j p.2.2) | none=>true)=true:=
 allB_at (n:=27) (by kernel_rfl)
theorem irow_shape:∀ r∈irows,(r.shape=0∨((r.shape=1∨r.shape=7∨r.shape=8)∧r.bits % 4096=0)∨((r.shape=2∨r.shape=9∨r.shape=10)∧r.bits % 4096 < 16)∨((r.shape=3∨r.shape=6)∧r.bits % 4096 < 256) ∨
  ((r.shape=4∨r.shape=11)∧r.bits % 256=0)∨(r.shape=5∧r.bits % 4096=0)):=by unfold irows;decide
theorem irow_info:∀ r∈irows,infoR r.op=some r:=by
 have h:∀ j,j < 27→(match irows[j]? with | some r=>(infoR r.op).map (·.bits)==some r.bits && (infoR r.op).map (·.op)==some r.op && (infoR r.op).map (·.shape)==some r.shape && (infoR r.op).map (·.name)==some r.name | none=>true)=true:=
  allB_at (n:=27) (by unfold infoR irows;kernel_rfl)
 intro r hr
 obtain ⟨j,hj⟩:=List.getElem?_of_mem hr
 have hjl:j < 27:=by have:=(List.getElem?_eq_some_iff.1 hj).1;rwa [irows_len] at this
 have:=h j hjl
 rw [hj] at this
 simp only [Bool.and_eq_true,beq_iff_eq] at this
 obtain ⟨⟨⟨h1,h2⟩,h3⟩,h4⟩:=this
 cases hi:infoR r.op with
 | none=>rw [hi] at h1;cases h1
 | some q=>
  rw [hi] at h1 h2 h3 h4
  simp at h1 h2 h3 h4
  cases q;cases r
  simp at h1 h2 h3 h4 ⊢
  exact ⟨h2,h4,h3,h1⟩
attribute [local irreducible] allB decR infoR irows rowsB
theorem row_form {r:IRow} {j:Nat} (hj:irows[j]?=some r):formB r.shape.toNat (fB j r.bits.toNat)=true:=by
 have hjl:j < 27:=by have:=(List.getElem?_eq_some_iff.1 hj).1;rwa [irows_len] at this
 have h:=forms j hjl
 rw [← rowsB_eq,List.getElem?_map,hj] at h
 exact h
theorem dec_of {r:IRow} {j w:Nat} (hj:irows[j]?=some r) (h:idxB w rowsB 0=j):decR w=some r:=by
 unfold decR
 rw [find_idx w irows 0 j (fun r hr=>(irow_bits r hr).2.1) (by rw [rowsB_eq,h];omega),hj]
theorem row_code {r:IRow} (hr:r∈irows) {n m v:Nat} (h:(r.shape=0∧n=0∧m=0∧v=0)∨((r.shape=1∨r.shape=7∨r.shape=8)∧n < 16∧m=0∧v < 256)∨((r.shape=2∨r.shape=9∨r.shape=10)∧n < 16∧m < 16∧v=0) ∨
  ((r.shape=3∨r.shape=6)∧n < 16∧m=0∧v=0)∨((r.shape=4∨r.shape=11)∧n=0∧m=0∧v < 256)∨(r.shape=5∧n=0∧m=0∧v < 4096)) :
  encN r.bits.toNat n m v=r.bits.toNat+n * 256+m * 16+v∧decR (r.bits.toNat+n * 256+m * 16+v)=some r:=by
 obtain ⟨j,hj⟩:=List.getElem?_of_mem hr
 have hf:=row_form hj
 have key:fB j r.bits.toNat n m v=true:=by
  rcases h with ⟨h,rfl,rfl,rfl⟩ | ⟨h | h | h,hn,rfl,hv⟩ | ⟨h | h | h,hn,hm,rfl⟩ | ⟨h | h,hn,rfl,rfl⟩ | ⟨h | h,rfl,rfl,hv⟩ | ⟨h,rfl,rfl,hv⟩<;>rw [h] at hf
  ·exact hf
  ·exact allB_at (allB_at (f:=fun n=>allB (fun v=>fB j r.bits.toNat n 0 v) 256) hf n hn) v hv
  ·exact allB_at (allB_at (f:=fun n=>allB (fun v=>fB j r.bits.toNat n 0 v) 256) hf n hn) v hv
  ·exact allB_at (allB_at (f:=fun n=>allB (fun v=>fB j r.bits.toNat n 0 v) 256) hf n hn) v hv
  ·exact allB_at (f:=fun m=>fB j r.bits.toNat n m 0) (allB_at (f:=fun n=>allB (fun m=>fB j r.bits.toNat n m 0) 16) hf n hn) m hm
  ·exact allB_at (f:=fun m=>fB j r.bits.toNat n m 0) (allB_at (f:=fun n=>allB (fun m=>fB j r.bits.toNat n m 0) 16) hf n hn) m hm
  ·exact allB_at (f:=fun m=>fB j r.bits.toNat n m 0) (allB_at (f:=fun n=>allB (fun m=>fB j r.bits.toNat n m 0) 16) hf n hn) m hm
  ·exact allB_at (f:=fun n=>fB j r.bits.toNat n 0 0) hf n hn
  ·exact allB_at (f:=fun n=>fB j r.bits.toNat n 0 0) hf n hn
  ·exact allB_at (f:=fun v=>fB j r.bits.toNat 0 0 v) hf v hv
  ·exact allB_at (f:=fun v=>fB j r.bits.toNat 0 0 v) hf v hv
  ·exact allB_at (f:=fun v=>fB j r.bits.toNat 0 0 v) hf v hv
 obtain ⟨h1,h2⟩:=fB_eq key
 exact ⟨h1,dec_of hj h2⟩
theorem signed8 (n:Int):signedI n 8=if n % 256 / 128=1 then n % 256 - 256 else n % 256:=rfl
theorem signed12 (n:Int):signedI n 12=if n % 4096 / 2048=1 then n % 4096 - 4096 else n % 4096:=rfl
theorem wrong_of {r:IRow} {i:Ins} (hi:infoR i.op=some r) (h:¬ badReg r i):wrongI i=0:=by
 unfold wrongI
 rw [hi]
 exact if_neg h
theorem turn2_row {W:Nat} {r:IRow} (hW:W < 65536) (hd:decR W=some r):wrongI (insOf W r)=0∧encV (insOf W r)=W:=by
 have hm:r∈irows∧fitsR W r=true:=by
  unfold decR at hd
  exact ⟨List.mem_of_find?_eq_some hd,List.find?_some hd⟩
 obtain ⟨hm,hf⟩:=hm
 obtain ⟨_,b2,b3⟩:=irow_bits r hm
 obtain ⟨B,hB⟩:=Int.eq_ofNat_of_zero_le b2
 have hinfo:infoR (insOf W r).op=some r:=irow_info r hm
 have hf:((W &&& (maskI r.shape).toNat:Nat):Int)=r.bits:=LawfulBEq.eq_of_beq hf
 rw [hB] at hf
 have hcode:=fun n m v=>row_code hm (n:=n) (m:=m) (v:=v)
 rw [hB,Int.toNat_natCast] at hcode
 have hsh:=irow_shape r hm
 rw [hB] at hsh b3
 have fin:∀ N M V:Nat,(insOf W r).n=N→(insOf W r).m=M→((insOf W r).imm % (if r.shape=5 then 4096 else 256)).toNat=V→encN B N M V=B+N * 256+M * 16+V→W=B+N * 256+M * 16+V→encV (insOf W r)=W:=by
  intro N M V e1 e2 e3 e4 e5
  unfold encV
  rw [hinfo]
  show encI r (insOf W r)=W
  unfold encI
  rw [e1,e2,e3,hB,Int.toNat_natCast,Int.toNat_natCast,Int.toNat_natCast,e4]
  omega
 rcases hsh with hs | ⟨hs,hb⟩ | ⟨hs,hb⟩ | ⟨hs,hb⟩ | ⟨hs,hb⟩ | ⟨hs,hb⟩
 ·have u1:uses1 r.shape=false:=by rw [hs];rfl
  have u2:uses2 r.shape=false:=by rw [hs];rfl
  have hlo:lowI r.shape=0:=by rw [hs];rfl
  have hhi:highI r.shape=0:=by rw [hs];rfl
  rw [show (maskI r.shape).toNat=65535 by rw [hs];rfl,and_ffff hW] at hf
  have en:(insOf W r).n=((0:Nat):Int):=if_neg (by rw [u1];decide)
  have em:(insOf W r).m=((0:Nat):Int):=if_neg (by rw [u2];decide)
  have ei:(insOf W r).imm=0:=by show immOf W r.shape=_;unfold immOf;rw [if_neg (by omega),if_neg (by omega),if_neg (by omega)]
  have hv:0≤0∧0≤0:=by omega
  have ew:((insOf W r).imm % (if r.shape=5 then 4096 else 256)).toNat=0:=by rw [ei,if_neg (by omega)];rfl
  refine ⟨wrong_of hinfo ?_,fin (0) (0) (0) en em ew (hcode _ _ _ (by omega)).1 (by omega)⟩
  unfold badReg
  rw [en,em,ei,u1,u2,hlo,hhi]
  rintro (h | h | ⟨h,h'⟩ | h | h | ⟨h,h'⟩ | h | h)<;>first | omega | cases h | exact h' rfl
 ·rcases hs with hs | hs | hs
  ·have u1:uses1 r.shape=true:=by rw [hs];rfl
   have u2:uses2 r.shape=false:=by rw [hs];rfl
   have hlo:lowI r.shape= -128:=by rw [hs];rfl
   have hhi:highI r.shape=127:=by rw [hs];rfl
   rw [show (maskI r.shape).toNat=61440 by rw [hs];rfl,and_f000 hW] at hf
   have en:(insOf W r).n=((W / 256 % 16:Nat):Int):=if_pos u1
   have em:(insOf W r).m=((0:Nat):Int):=if_neg (by rw [u2];decide)
   have ei:(insOf W r).imm=signedI W 8:=by show immOf W r.shape=_;unfold immOf;rw [if_pos (by omega)]
   have hv: -128≤signedI W 8∧signedI W 8≤127:=by rw [signed8];split<;>omega
   have ew:((insOf W r).imm % (if r.shape=5 then 4096 else 256)).toNat=W % 256:=by rw [ei,if_neg (by omega)];rw [signed8];split<;>omega
   refine ⟨wrong_of hinfo ?_,fin (W / 256 % 16) (0) (W % 256) en em ew (hcode _ _ _ (by omega)).1 (by omega)⟩
   unfold badReg
   rw [en,em,ei,u1,u2,hlo,hhi]
   rintro (h | h | ⟨h,h'⟩ | h | h | ⟨h,h'⟩ | h | h)<;>first | omega | cases h | exact h' rfl
  ·have u1:uses1 r.shape=true:=by rw [hs];rfl
   have u2:uses2 r.shape=false:=by rw [hs];rfl
   have hlo:lowI r.shape=0:=by rw [hs];rfl
   have hhi:highI r.shape=255:=by rw [hs];rfl
   rw [show (maskI r.shape).toNat=61440 by rw [hs];rfl,and_f000 hW] at hf
   have en:(insOf W r).n=((W / 256 % 16:Nat):Int):=if_pos u1
   have em:(insOf W r).m=((0:Nat):Int):=if_neg (by rw [u2];decide)
   have ei:(insOf W r).imm=(W:Int) % 256:=by show immOf W r.shape=_;unfold immOf;rw [if_neg (by omega),if_neg (by omega),if_pos (by omega)]
   have hv:0≤(W:Int) % 256∧(W:Int) % 256≤255:=by omega
   have ew:((insOf W r).imm % (if r.shape=5 then 4096 else 256)).toNat=W % 256:=by rw [ei,if_neg (by omega)];omega
   refine ⟨wrong_of hinfo ?_,fin (W / 256 % 16) (0) (W % 256) en em ew (hcode _ _ _ (by omega)).1 (by omega)⟩
   unfold badReg
   rw [en,em,ei,u1,u2,hlo,hhi]
   rintro (h | h | ⟨h,h'⟩ | h | h | ⟨h,h'⟩ | h | h)<;>first | omega | cases h | exact h' rfl
  ·have u1:uses1 r.shape=true:=by rw [hs];rfl
   have u2:uses2 r.shape=false:=by rw [hs];rfl
   have hlo:lowI r.shape=0:=by rw [hs];rfl
   have hhi:highI r.shape=255:=by rw [hs];rfl
   rw [show (maskI r.shape).toNat=61440 by rw [hs];rfl,and_f000 hW] at hf
   have en:(insOf W r).n=((W / 256 % 16:Nat):Int):=if_pos u1
   have em:(insOf W r).m=((0:Nat):Int):=if_neg (by rw [u2];decide)
   have ei:(insOf W r).imm=(W:Int) % 256:=by show immOf W r.shape=_;unfold immOf;rw [if_neg (by omega),if_neg (by omega),if_pos (by omega)]
   have hv:0≤(W:Int) % 256∧(W:Int) % 256≤255:=by omega
   have ew:((insOf W r).imm % (if r.shape=5 then 4096 else 256)).toNat=W % 256:=by rw [ei,if_neg (by omega)];omega
   refine ⟨wrong_of hinfo ?_,fin (W / 256 % 16) (0) (W % 256) en em ew (hcode _ _ _ (by omega)).1 (by omega)⟩
   unfold badReg
   rw [en,em,ei,u1,u2,hlo,hhi]
   rintro (h | h | ⟨h,h'⟩ | h | h | ⟨h,h'⟩ | h | h)<;>first | omega | cases h | exact h' rfl
 ·rcases hs with hs | hs | hs
  ·have u1:uses1 r.shape=true:=by rw [hs];rfl
   have u2:uses2 r.shape=true:=by rw [hs];rfl
   have hlo:lowI r.shape=0:=by rw [hs];rfl
   have hhi:highI r.shape=0:=by rw [hs];rfl
   rw [show (maskI r.shape).toNat=61455 by rw [hs];rfl,and_f00f hW] at hf
   have en:(insOf W r).n=((W / 256 % 16:Nat):Int):=if_pos u1
   have em:(insOf W r).m=((W / 16 % 16:Nat):Int):=if_pos u2
   have ei:(insOf W r).imm=0:=by show immOf W r.shape=_;unfold immOf;rw [if_neg (by omega),if_neg (by omega),if_neg (by omega)]
   have hv:0≤0∧0≤0:=by omega
   have ew:((insOf W r).imm % (if r.shape=5 then 4096 else 256)).toNat=0:=by rw [ei,if_neg (by omega)];rfl
   refine ⟨wrong_of hinfo ?_,fin (W / 256 % 16) (W / 16 % 16) (0) en em ew (hcode _ _ _ (by omega)).1 (by omega)⟩
   unfold badReg
   rw [en,em,ei,u1,u2,hlo,hhi]
   rintro (h | h | ⟨h,h'⟩ | h | h | ⟨h,h'⟩ | h | h)<;>first | omega | cases h | exact h' rfl
  ·have u1:uses1 r.shape=true:=by rw [hs];rfl
   have u2:uses2 r.shape=true:=by rw [hs];rfl
   have hlo:lowI r.shape=0:=by rw [hs];rfl
   have hhi:highI r.shape=0:=by rw [hs];rfl
   rw [show (maskI r.shape).toNat=61455 by rw [hs];rfl,and_f00f hW] at hf
   have en:(insOf W r).n=((W / 256 % 16:Nat):Int):=if_pos u1
   have em:(insOf W r).m=((W / 16 % 16:Nat):Int):=if_pos u2
   have ei:(insOf W r).imm=0:=by show immOf W r.shape=_;unfold immOf;rw [if_neg (by omega),if_neg (by omega),if_neg (by omega)]
   have hv:0≤0∧0≤0:=by omega
   have ew:((insOf W r).imm % (if r.shape=5 then 4096 else 256)).toNat=0:=by rw [ei,if_neg (by omega)];rfl
   refine ⟨wrong_of hinfo ?_,fin (W / 256 % 16) (W / 16 % 16) (0) en em ew (hcode _ _ _ (by omega)).1 (by omega)⟩
   unfold badReg
   rw [en,em,ei,u1,u2,hlo,hhi]
   rintro (h | h | ⟨h,h'⟩ | h | h | ⟨h,h'⟩ | h | h)<;>first | omega | cases h | exact h' rfl
  ·have u1:uses1 r.shape=true:=by rw [hs];rfl
   have u2:uses2 r.shape=true:=by rw [hs];rfl
   have hlo:lowI r.shape=0:=by rw [hs];rfl
   have hhi:highI r.shape=0:=by rw [hs];rfl
   rw [show (maskI r.shape).toNat=61455 by rw [hs];rfl,and_f00f hW] at hf
   have en:(insOf W r).n=((W / 256 % 16:Nat):Int):=if_pos u1
   have em:(insOf W r).m=((W / 16 % 16:Nat):Int):=if_pos u2
   have ei:(insOf W r).imm=0:=by show immOf W r.shape=_;unfold immOf;rw [if_neg (by omega),if_neg (by omega),if_neg (by omega)]
   have hv:0≤0∧0≤0:=by omega
   have ew:((insOf W r).imm % (if r.shape=5 then 4096 else 256)).toNat=0:=by rw [ei,if_neg (by omega)];rfl
   refine ⟨wrong_of hinfo ?_,fin (W / 256 % 16) (W / 16 % 16) (0) en em ew (hcode _ _ _ (by omega)).1 (by omega)⟩
   unfold badReg
   rw [en,em,ei,u1,u2,hlo,hhi]
   rintro (h | h | ⟨h,h'⟩ | h | h | ⟨h,h'⟩ | h | h)<;>first | omega | cases h | exact h' rfl
 ·rcases hs with hs | hs
  ·have u1:uses1 r.shape=true:=by rw [hs];rfl
   have u2:uses2 r.shape=false:=by rw [hs];rfl
   have hlo:lowI r.shape=0:=by rw [hs];rfl
   have hhi:highI r.shape=0:=by rw [hs];rfl
   rw [show (maskI r.shape).toNat=61695 by rw [hs];rfl,and_f0ff hW] at hf
   have en:(insOf W r).n=((W / 256 % 16:Nat):Int):=if_pos u1
   have em:(insOf W r).m=((0:Nat):Int):=if_neg (by rw [u2];decide)
   have ei:(insOf W r).imm=0:=by show immOf W r.shape=_;unfold immOf;rw [if_neg (by omega),if_neg (by omega),if_neg (by omega)]
   have hv:0≤0∧0≤0:=by omega
   have ew:((insOf W r).imm % (if r.shape=5 then 4096 else 256)).toNat=0:=by rw [ei,if_neg (by omega)];rfl
   refine ⟨wrong_of hinfo ?_,fin (W / 256 % 16) (0) (0) en em ew (hcode _ _ _ (by omega)).1 (by omega)⟩
   unfold badReg
   rw [en,em,ei,u1,u2,hlo,hhi]
   rintro (h | h | ⟨h,h'⟩ | h | h | ⟨h,h'⟩ | h | h)<;>first | omega | cases h | exact h' rfl
  ·have u1:uses1 r.shape=true:=by rw [hs];rfl
   have u2:uses2 r.shape=false:=by rw [hs];rfl
   have hlo:lowI r.shape=0:=by rw [hs];rfl
   have hhi:highI r.shape=0:=by rw [hs];rfl
   rw [show (maskI r.shape).toNat=61695 by rw [hs];rfl,and_f0ff hW] at hf
   have en:(insOf W r).n=((W / 256 % 16:Nat):Int):=if_pos u1
   have em:(insOf W r).m=((0:Nat):Int):=if_neg (by rw [u2];decide)
   have ei:(insOf W r).imm=0:=by show immOf W r.shape=_;unfold immOf;rw [if_neg (by omega),if_neg (by omega),if_neg (by omega)]
   have hv:0≤0∧0≤0:=by omega
   have ew:((insOf W r).imm % (if r.shape=5 then 4096 else 256)).toNat=0:=by rw [ei,if_neg (by omega)];rfl
   refine ⟨wrong_of hinfo ?_,fin (W / 256 % 16) (0) (0) en em ew (hcode _ _ _ (by omega)).1 (by omega)⟩
   unfold badReg
   rw [en,em,ei,u1,u2,hlo,hhi]
   rintro (h | h | ⟨h,h'⟩ | h | h | ⟨h,h'⟩ | h | h)<;>first | omega | cases h | exact h' rfl
 ·rcases hs with hs | hs
  ·have u1:uses1 r.shape=false:=by rw [hs];rfl
   have u2:uses2 r.shape=false:=by rw [hs];rfl
   have hlo:lowI r.shape= -128:=by rw [hs];rfl
   have hhi:highI r.shape=127:=by rw [hs];rfl
   rw [show (maskI r.shape).toNat=65280 by rw [hs];rfl,and_ff00 hW] at hf
   have en:(insOf W r).n=((0:Nat):Int):=if_neg (by rw [u1];decide)
   have em:(insOf W r).m=((0:Nat):Int):=if_neg (by rw [u2];decide)
   have ei:(insOf W r).imm=signedI W 8:=by show immOf W r.shape=_;unfold immOf;rw [if_pos (by omega)]
   have hv: -128≤signedI W 8∧signedI W 8≤127:=by rw [signed8];split<;>omega
   have ew:((insOf W r).imm % (if r.shape=5 then 4096 else 256)).toNat=W % 256:=by rw [ei,if_neg (by omega)];rw [signed8];split<;>omega
   refine ⟨wrong_of hinfo ?_,fin (0) (0) (W % 256) en em ew (hcode _ _ _ (by omega)).1 (by omega)⟩
   unfold badReg
   rw [en,em,ei,u1,u2,hlo,hhi]
   rintro (h | h | ⟨h,h'⟩ | h | h | ⟨h,h'⟩ | h | h)<;>first | omega | cases h | exact h' rfl
  ·have u1:uses1 r.shape=false:=by rw [hs];rfl
   have u2:uses2 r.shape=false:=by rw [hs];rfl
   have hlo:lowI r.shape=0:=by rw [hs];rfl
   have hhi:highI r.shape=255:=by rw [hs];rfl
   rw [show (maskI r.shape).toNat=65280 by rw [hs];rfl,and_ff00 hW] at hf
   have en:(insOf W r).n=((0:Nat):Int):=if_neg (by rw [u1];decide)
   have em:(insOf W r).m=((0:Nat):Int):=if_neg (by rw [u2];decide)
   have ei:(insOf W r).imm=(W:Int) % 256:=by show immOf W r.shape=_;unfold immOf;rw [if_neg (by omega),if_neg (by omega),if_pos (by omega)]
   have hv:0≤(W:Int) % 256∧(W:Int) % 256≤255:=by omega
   have ew:((insOf W r).imm % (if r.shape=5 then 4096 else 256)).toNat=W % 256:=by rw [ei,if_neg (by omega)];omega
   refine ⟨wrong_of hinfo ?_,fin (0) (0) (W % 256) en em ew (hcode _ _ _ (by omega)).1 (by omega)⟩
   unfold badReg
   rw [en,em,ei,u1,u2,hlo,hhi]
   rintro (h | h | ⟨h,h'⟩ | h | h | ⟨h,h'⟩ | h | h)<;>first | omega | cases h | exact h' rfl
 ·have u1:uses1 r.shape=false:=by rw [hs];rfl
  have u2:uses2 r.shape=false:=by rw [hs];rfl
  have hlo:lowI r.shape= -2048:=by rw [hs];rfl
  have hhi:highI r.shape=2047:=by rw [hs];rfl
  rw [show (maskI r.shape).toNat=61440 by rw [hs];rfl,and_f000 hW] at hf
  have en:(insOf W r).n=((0:Nat):Int):=if_neg (by rw [u1];decide)
  have em:(insOf W r).m=((0:Nat):Int):=if_neg (by rw [u2];decide)
  have ei:(insOf W r).imm=signedI W 12:=by show immOf W r.shape=_;unfold immOf;rw [if_neg (by omega),if_pos hs]
  have hv: -2048≤signedI W 12∧signedI W 12≤2047:=by rw [signed12];split<;>omega
  have ew:((insOf W r).imm % (if r.shape=5 then 4096 else 256)).toNat=W % 4096:=by rw [ei,if_pos hs];rw [signed12];split<;>omega
  refine ⟨wrong_of hinfo ?_,fin (0) (0) (W % 4096) en em ew (hcode _ _ _ (by omega)).1 (by omega)⟩
  unfold badReg
  rw [en,em,ei,u1,u2,hlo,hhi]
  rintro (h | h | ⟨h,h'⟩ | h | h | ⟨h,h'⟩ | h | h)<;>first | omega | cases h | exact h' rfl
theorem turn2 {w:Int} (h:(decI w).2=0):0≤w∧w≤65535∧wrongI (decI w).1=0∧encV (decI w).1=w:=by
 unfold decI at h ⊢
 by_cases hw:w < 0∨65535 < w
 ·rw [if_pos hw] at h;exact absurd h (by decide)
 ·rw [if_neg hw] at h ⊢
  obtain ⟨W,rfl⟩:=Int.eq_ofNat_of_zero_le (show 0≤w by omega)
  simp only [Int.toNat_natCast] at h ⊢
  cases hd:decR W with
  | none=>rw [hd] at h;exact absurd h (show ¬ ((12:Int)=0) by decide)
  | some r=>exact ⟨by omega,by omega,turn2_row (by omega) hd⟩
theorem turn0 {w:Int} (h:(decI w).2≠0):(decI w).1=ins0:=by
 unfold decI at h ⊢
 by_cases hw:w < 0∨65535 < w
 ·rw [if_pos hw]
 ·rw [if_neg hw] at h ⊢
  cases hd:decR w.toNat with
  | none=>rfl
  | some r=>rw [hd] at h;exact absurd rfl h
end Go.Proofs.YtfahnaccpncdpaaGreatDoor
namespace Go.Proofs.YtfahnaccpncdpaaGreatDoor
open Go Go.Plat
set_option linter.unusedVariables false
set_option linter.unusedSimpArgs false
set_option maxRecDepth 100000
set_option maxHeartbeats 2000000
attribute [local irreducible] AWP Arith BitS BytesS CallS CatS DrawS EndS IdxS LookS LoopEnd Meets ModeS NilS NormL NormM QuoS RemS ShlS ShrS SideS SplitS bitI
def byteAt (b:List UInt8) (i:Int):Int:=if 0≤i∧i < b.length then ((b.getD i.toNat 0).toNat:Int) else 0
def getN (b:List UInt8) (at_:Int):Nat→Int
 | 0=>0
 | k+1=>getN b at_ k * 256+byteAt b (at_+k)
theorem byteAt_bd (b:List UInt8) (i:Int):0≤byteAt b i∧byteAt b i < 256:=by
 unfold byteAt;split
 ·have:=u8_lt (b.getD i.toNat 0);omega
 ·omega
theorem getN_nn (b:List UInt8) (at_:Int):∀ k,0≤getN b at_ k
 | 0=>by simp [getN]
 | k+1=>by have:=getN_nn b at_ k;have:=byteAt_bd b (at_+k);simp only [getN];omega
theorem getN_bd (b:List UInt8) (at_:Int) (k:Nat) (hk:k≤4):getN b at_ k≤4294967295:=by
 have h0:=byteAt_bd b (at_+(0:Nat));have h1:=byteAt_bd b (at_+(1:Nat));have h2:=byteAt_bd b (at_+(2:Nat));have h3:=byteAt_bd b (at_+(3:Nat))
 match k,hk with
 | 0,_=>simp [getN]
 | 1,_=>simp only [getN];omega
 | 2,_=>simp only [getN];omega
 | 3,_=>simp only [getN];omega
 | 4,_=>simp only [getN];omega
theorem get_meets:Meets Tryz.prog n_isa_Get (SpecP (fun ((b,at_,size):List UInt8×Int×Nat)=>-1000000000000≤at_∧at_≤1000000000000∧size≤4) (fun (b,at_,size)=>[bytesD b,.int .i64 at_,.int .i64 size])
  fun (b,at_,size)=>.int .i64 (getN b at_ size)):=by
 refine meets_f tabOk Tryz.func12 rfl (by decide) ?_
 rintro ⟨b,at_,size⟩ ⟨h1,h2,h4⟩
 refine ⟨Nat.le_refl _,by simp [Tryz.f12],fun E hE=>?_⟩
 refine vcOk _ ?_
 (all_goals refine qgo (Lf.mk ?_))
 refine awp_loop (α:=Nat) (fun k=>k≤size) (fun k=>[(11,.int .i64 k),(10,.int .i64 size),(7,.int .i64 (getN b at_ k)),(0,bytesD b),(1,.int .i64 at_)]) (fun _=>[]) (fun k=>size - k) (fun _=>by simp [hE]) 0 (Nat.zero_le _) ?_ ?_
 ·(repeat' (first | (refine VS.mk ?_) | exact trivial | exact rfl | refine And.intro ?_ ?_))
 intro k hk
 have g0:=getN_nn b at_ k
 have g1:=getN_bd b at_ k (by omega)
 refine vcOk _ ?_
 (all_goals refine qgo ?_<;>(repeat' first | exact trivial | intro hc | refine And.intro ?_ ?_)<;>refine Lf.mk ?_)
 ·have hb:byteAt b (at_+k)=((b.getD (at_+(k:Int)).toNat 0).toNat:Int):=by unfold byteAt;rw [if_pos ⟨by omega,by omega⟩]
  have:=u8_lt (b.getD (at_+(k:Int)).toNat 0)
  refine bit_mk (or_add (s:=8) rfl g0 (by omega) (by omega) (by omega)) ?_
  (all_goals refine qgo (Lf.mk ?_))
  refine loop_end (k+1) (by omega) (by omega) ?_
  (repeat' (first | (refine VS.mk ?_) | exact trivial | exact rfl | refine And.intro ?_ ?_))
  simp [getN,hb]
 ·refine loop_end (k+1) (by omega) (by omega) ?_
  have hb:byteAt b (at_+k)=0:=by unfold byteAt;rw [if_neg (by omega)]
  (repeat' (first | (refine VS.mk ?_) | exact trivial | exact rfl | refine And.intro ?_ ?_))
  simp [getN,hb]
 ·refine loop_end (k+1) (by omega) (by omega) ?_
  have hb:byteAt b (at_+k)=0:=by unfold byteAt;rw [if_neg (by omega)]
  (repeat' (first | (refine VS.mk ?_) | exact trivial | exact rfl | refine And.intro ?_ ?_))
  simp [getN,hb]
 ·obtain rfl:k=size:=by omega
  refine end_mk ?_
  (repeat' (first | (refine VS.mk ?_) | exact trivial | exact rfl | refine And.intro ?_ ?_))
def setAt (l:List UInt8) (i:Int) (c:UInt8):List UInt8:=if 0≤i∧i < l.length then l.set i.toNat c else l
def putN (l:List UInt8) (at_:Int):Nat→Int→List UInt8
 | 0,_=>l
 | k+1,n=>putN (setAt l (at_+k) (lowByte n)) at_ k (n / 256)
theorem setAt_len (l:List UInt8) (i:Int) (c:UInt8):(setAt l i c).length=l.length:=by unfold setAt;split<;>simp
theorem putN_len (at_:Int):∀ (k:Nat) (l:List UInt8) (n:Int),(putN l at_ k n).length=l.length
 | 0,l,n=>rfl
 | k+1,l,n=>by rw [putN,putN_len,setAt_len]
theorem put_meets:Meets Tryz.prog n_isa_Put (SpecF (fun ((b,at_,size,n):List UInt8×Int×Nat×Int)=>-1000000000000≤at_∧at_≤1000000000000∧size≤1000000000000∧b.length≤1000000000)
  (fun (b,at_,size,n)=>[bytesD b,.int .i64 at_,.int .i64 size,.int .i64 n]) (fun _=>[]) (fun (b,at_,size,n)=>.sl 1 ((putN b at_ size n).map byteD) (some 0)) fun (b,_)=>[.spare b.length]):=by
 refine meets_f tabOk Tryz.func120 rfl (by decide) ?_
 rintro ⟨b,at_,size,n⟩ ⟨h1,h2,h4,h5⟩
 refine ⟨by simp,by simp [Tryz.f120],fun E hE=>?_⟩
 refine vcOk _ ?_
 (all_goals refine qga (Lf.mk ?_))
 refine awp_loop (α:=Nat×List UInt8×Int) (fun p=>p.1≤size∧p.2.1.length=b.length∧putN p.2.1 at_ p.1 p.2.2=putN b at_ size n) (fun p=>[(10,.int .i64 ((p.1:Int) - 1)),(1,.int .i64 at_),(3,.int .i64 p.2.2),(9,.osl 1 0 p.2.1.length 0 p.2.1.length)]) (fun p=>[.arr 1 (p.2.1.map byteD)]) (fun p=>p.1) (fun _=>by simp [hE]) (size,b,n) ⟨Nat.le_refl _,rfl,rfl⟩ ?_ ?_
 ·(repeat' (first | (refine VS.mk ?_) | exact trivial | exact rfl | refine And.intro ?_ ?_))
  ·refine rens_bytes b rfl ?_
   (repeat' (first | (refine VS.mk ?_) | exact trivial | exact rfl | refine And.intro ?_ ?_))
 rintro ⟨k,l,m⟩ ⟨hk,hl,hp⟩
 generalize hj:((k:Int) - 1)=j at *
 dsimp only at hk hl hp ⊢
 refine vcOk _ ?_
 have hm8:(0:Int) < 256:=by decide
 have hn:0≤j→putN (setAt l (at_+j) (lowByte m)) at_ (k - 1) (m / 256)=putN b at_ size n:=fun h=>by
  rw [← hp]
  obtain ⟨k',rfl⟩:∃ k',k=k'+1:=⟨k - 1,by omega⟩
  obtain rfl:j=k':=by omega
  rfl
 have hset:∀ x,(setAt l x (lowByte m)).length=b.length:=fun x=>by rw [setAt_len];exact hl
 (all_goals refine qgo ?_<;>(repeat' first | exact trivial | intro hc | refine And.intro ?_ ?_)<;>refine Lf.mk ?_)
 ·have hs:setAt l (at_+j) (lowByte m)=l.set (at_+j).toNat (lowByte m):=by unfold setAt;rw [if_pos ⟨by omega,by omega⟩]
  refine loop_end (k - 1,setAt l (at_+j) (lowByte m),m / 256) ⟨by (dsimp only;omega),hset _,hn (by assumption)⟩ (by dsimp only;omega) ?_
  (repeat' (first | (refine VS.mk ?_) | exact trivial | exact rfl | refine And.intro ?_ ?_))
  ·refine rens_bytes (setAt l (at_+j) (lowByte m)) ?_ ?_
   ·rw [hs,List.map_set];simp [byteD]
   ·(repeat' (first | (refine VS.mk ?_) | exact trivial | exact rfl | refine And.intro ?_ ?_))
  (all_goals (first | rfl | (dsimp only;congr 1;omega) | (dsimp only;simp;done) | (dsimp only;simp;omega) | skip))
  all_goals (dsimp only;rw [hset,hl])
 ·have hs:setAt l (at_+j) (lowByte m)=l:=by unfold setAt;rw [if_neg (by omega)]
  refine loop_end (k - 1,setAt l (at_+j) (lowByte m),m / 256) ⟨by (dsimp only;omega),hset _,hn (by assumption)⟩ (by dsimp only;omega) ?_
  (repeat' (first | (refine VS.mk ?_) | exact trivial | exact rfl | refine And.intro ?_ ?_))
  ·refine rens_bytes (setAt l (at_+j) (lowByte m)) (by rw [hs]) ?_
   (repeat' (first | (refine VS.mk ?_) | exact trivial | exact rfl | refine And.intro ?_ ?_))
  (all_goals (first | rfl | (dsimp only;congr 1;omega) | (dsimp only;simp;done) | (dsimp only;simp;omega) | skip))
  all_goals (dsimp only;rw [hset,hl])
 ·have hs:setAt l (at_+j) (lowByte m)=l:=by unfold setAt;rw [if_neg (by omega)]
  refine loop_end (k - 1,setAt l (at_+j) (lowByte m),m / 256) ⟨by (dsimp only;omega),hset _,hn (by assumption)⟩ (by dsimp only;omega) ?_
  (repeat' (first | (refine VS.mk ?_) | exact trivial | exact rfl | refine And.intro ?_ ?_))
  ·refine rens_bytes (setAt l (at_+j) (lowByte m)) (by rw [hs]) ?_
   (repeat' (first | (refine VS.mk ?_) | exact trivial | exact rfl | refine And.intro ?_ ?_))
  (all_goals (first | rfl | (dsimp only;congr 1;omega) | (dsimp only;simp;done) | (dsimp only;simp;omega) | skip))
  all_goals (dsimp only;rw [hset,hl])
 ·obtain rfl:k=0:=by omega
  have hp:l=putN b at_ size n:=hp
  refine end_freeze_bytes (k:=0) l rfl rfl (Nat.le_refl _) (Nat.zero_le _) (r1:=.sl 1 (l.map byteD) (some 1)) (.here _ _ (by simp) (by simp)) ?_
  refine end_keep [1] rfl rfl ?_
  (repeat' (first | (refine VS.mk ?_) | exact trivial | exact rfl | refine And.intro ?_ ?_))
  ·rw [hp]
  ·rw [hl]
structure OSym where
 name:List UInt8
 at_:Int
 deriving DecidableEq
def symD (s:OSym):D:=.agg [.str s.name,.int .i64 s.at_]
structure OImg where
 base:Int
 bytes:List UInt8
 syms:List OSym
 deriving DecidableEq
end Go.Proofs.YtfahnaccpncdpaaGreatDoor
namespace Go.Proofs.YtfahnaccpncdpaaGreatDoor
open Go Go.Plat
set_option linter.unusedVariables false
set_option linter.unusedSimpArgs false
set_option maxRecDepth 100000
attribute [local irreducible] bitI decI getN infoR irows putN signedI
structure Mach where
 r:Nat→Int
 t:Bool
 pc:Int
 pr:Int
 img:OImg
 told:List Int
 steps:Int
def up (r:Nat→Int) (n v:Int):Nat→Int:=fun k=>if (k:Int)=n then v else r k
theorem reg_ix {r:Nat→Int} {n:Int} {rest:List D} {K:D→Prop} (h0:0≤n) (h1:n < 16) (h:K (.int .i64 (r n.toNat))) :
  IdxS (.int .i64 (r 0):: .int .i64 (r 1):: .int .i64 (r 2):: .int .i64 (r 3):: .int .i64 (r 4):: .int .i64 (r 5):: .int .i64 (r 6):: .int .i64 (r 7):: .int .i64 (r 8):: .int .i64 (r 9):: .int .i64 (r 10):: .int .i64 (r 11):: .int .i64 (r 12):: .int .i64 (r 13):: .int .i64 (r 14):: .int .i64 (r 15)::rest) ((0+n.toNat * 1:Nat):Int) K:=by
 refine ⟨by omega,.int .i64 (r n.toNat),?_,h⟩
 obtain ⟨k,rfl⟩:=Int.eq_ofNat_of_zero_le h0
 have hk:k < 16:=by omega
 simp only [Int.toNat_natCast,Nat.mul_one,Nat.zero_add]
 match k,hk with
 | 0,_ | 1,_ | 2,_ | 3,_ | 4,_ | 5,_ | 6,_ | 7,_ | 8,_ | 9,_ | 10,_ | 11,_ | 12,_ | 13,_ | 14,_ | 15,_=>rfl
theorem reg_set {r:Nat→Int} {n v:Int} {rest:List D} {K:List D→Nat→Prop} (h0:0≤n) (h1:n < 16) (h:K (.int .i64 ((up r n v) 0):: .int .i64 ((up r n v) 1):: .int .i64 ((up r n v) 2):: .int .i64 ((up r n v) 3):: .int .i64 ((up r n v) 4):: .int .i64 ((up r n v) 5):: .int .i64 ((up r n v) 6):: .int .i64 ((up r n v) 7):: .int .i64 ((up r n v) 8):: .int .i64 ((up r n v) 9):: .int .i64 ((up r n v) 10):: .int .i64 ((up r n v) 11):: .int .i64 ((up r n v) 12):: .int .i64 ((up r n v) 13):: .int .i64 ((up r n v) 14):: .int .i64 ((up r n v) 15)::rest) (16+rest.length)) :
  NormL (List.set (.int .i64 (r 0):: .int .i64 (r 1):: .int .i64 (r 2):: .int .i64 (r 3):: .int .i64 (r 4):: .int .i64 (r 5):: .int .i64 (r 6):: .int .i64 (r 7):: .int .i64 (r 8):: .int .i64 (r 9):: .int .i64 (r 10):: .int .i64 (r 11):: .int .i64 (r 12):: .int .i64 (r 13):: .int .i64 (r 14):: .int .i64 (r 15)::rest) (0+n.toNat * 1) (.int .i64 v)) K:=by
 unfold NormL
 have e:List.set (.int .i64 (r 0):: .int .i64 (r 1):: .int .i64 (r 2):: .int .i64 (r 3):: .int .i64 (r 4):: .int .i64 (r 5):: .int .i64 (r 6):: .int .i64 (r 7):: .int .i64 (r 8):: .int .i64 (r 9):: .int .i64 (r 10):: .int .i64 (r 11):: .int .i64 (r 12):: .int .i64 (r 13):: .int .i64 (r 14):: .int .i64 (r 15)::rest) (0+n.toNat * 1) (.int .i64 v)=(.int .i64 ((up r n v) 0):: .int .i64 ((up r n v) 1):: .int .i64 ((up r n v) 2):: .int .i64 ((up r n v) 3):: .int .i64 ((up r n v) 4):: .int .i64 ((up r n v) 5):: .int .i64 ((up r n v) 6):: .int .i64 ((up r n v) 7):: .int .i64 ((up r n v) 8):: .int .i64 ((up r n v) 9):: .int .i64 ((up r n v) 10):: .int .i64 ((up r n v) 11):: .int .i64 ((up r n v) 12):: .int .i64 ((up r n v) 13):: .int .i64 ((up r n v) 14):: .int .i64 ((up r n v) 15)::rest):=by
  obtain ⟨k,rfl⟩:=Int.eq_ofNat_of_zero_le h0
  have hk:k < 16:=by omega
  simp only [Int.toNat_natCast,Nat.mul_one,Nat.zero_add]
  match k,hk with
  | 0,_ | 1,_ | 2,_ | 3,_ | 4,_ | 5,_ | 6,_ | 7,_ | 8,_ | 9,_ | 10,_ | 11,_ | 12,_ | 13,_ | 14,_ | 15,_=>rfl
 rw [e]
 refine cast ?_ h
 congr 1
 simp only [List.length_cons]
 omega
theorem sd_reg {n:Int} {l:List D} {K:Prop} (h0:0≤n) (h1:n < 16) (hl:Nat.ble 16 l.length=true) (h:K):SideS (0+n.toNat * 1 < l.length) K:=
 ⟨by have:=Nat.le_of_ble_eq_true hl;omega,h⟩
def shapeM (op:Int):Int:=match infoR op with | some r=>r.shape | none=>0
def toM (i:Ins) (at_:Int):Int:=if shapeM i.op=4∨shapeM i.op=5∨shapeM i.op=7 then at_+4+2 * i.imm else if shapeM i.op=8 then (at_+4) - (at_+4) % 4+4 * i.imm else 0
def setM (m:Mach) (n v:Int):Mach:={ m with r:=up m.r n v }
end Go.Proofs.YtfahnaccpncdpaaGreatDoor
namespace Go.Proofs.YtfahnaccpncdpaaGreatDoor
open Go Go.Plat
set_option linter.unusedVariables false
set_option linter.unusedSimpArgs false
set_option maxRecDepth 100000
section
variable {a b : Int} (ha1 : -2147483648 ≤ a) (ha2 : a ≤ 2147483647) (hb1 : -2147483648 ≤ b) (hb2 : b ≤ 2147483647)
include ha1 ha2 hb1 hb2
end
theorem not3:(~~~ (3#64)).toNat=18446744073709551612:=by decide
theorem nat_clear (x:Nat) (hx:x < 18446744073709551616):x &&& 18446744073709551612=x / 4 * 4:=by
 have e1:x / 4 * 4=(x >>> 2) <<< 2:=by rw [Nat.shiftRight_eq_div_pow,Nat.shiftLeft_eq]
 have e2:(18446744073709551612:Nat)=(2 ^ 62 - 1) <<< 2:=by decide
 rw [e1,e2]
 refine Nat.eq_of_testBit_eq fun i=>?_
 rw [Nat.testBit_and,Nat.testBit_shiftLeft,Nat.testBit_shiftLeft,Nat.testBit_shiftRight,Nat.testBit_two_pow_sub_one]
 by_cases hi:2≤i
 ·rw [show 2+(i - 2)=i by omega]
  by_cases h64:i - 2 < 62
  ·simp [hi,h64]
  ·have:x.testBit i=false:=Nat.testBit_lt_two_pow (Nat.lt_of_lt_of_le hx (show 2 ^ 64≤2 ^ i from Nat.pow_le_pow_right (by decide) (by omega)))
   simp [this]
 ·simp [hi]
theorem clear3 {n:Int} (h1: -4611686018427387904≤n) (h2:n≤4611686018427387904):bitI .andNot .i64 n 3=n - n % 4:=by
 unfold bitI
 show IntKind.i64.wrap ((BitVec.ofInt 64 n &&& ~~~ (BitVec.ofInt 64 3)).toNat:Int)=_
 rw [show BitVec.ofInt 64 3=3#64 from rfl,BitVec.toNat_and,not3,nat_clear _ (BitVec.ofInt 64 n).isLt]
 have h3:=toNat_ofInt n
 simp only [IntKind.wrap,IntKind.signed,IntKind.bits,show (2:Int) ^ 64=18446744073709551616 from rfl,show (2:Int) ^ (64 - 1)=9223372036854775808 from rfl,Bool.true_and,decide_eq_true_eq]
 split<;>omega
end Go.Proofs.YtfahnaccpncdpaaGreatDoor
namespace Go.Proofs.YtfahnaccpncdpaaGreatDoor
open Go Go.Plat
set_option linter.unusedVariables false
set_option linter.unusedSimpArgs false
set_option maxRecDepth 100000
set_option maxHeartbeats 2000000
attribute [local irreducible] AWP Arith BitS BytesS CallS CatS DrawS EndS IdxS LookS LoopEnd Meets ModeS NilS NormL NormM QuoS RemS ShlS ShrS SideS SplitS bitI decI getN infoR irows putN signedI
end Go.Proofs.YtfahnaccpncdpaaGreatDoor
namespace Go.Proofs.YtfahnaccpncdpaaGreatDoor
open Go Go.Plat
set_option linter.unusedVariables false
set_option linter.unusedSimpArgs false
set_option maxRecDepth 100000
set_option maxHeartbeats 2000000
attribute [local irreducible] AWP Arith BitS BytesS CallS CatS DrawS EndS IdxS LookS LoopEnd Meets ModeS NilS NormL NormM QuoS RemS ShlS ShrS SideS SplitS bitI
attribute [local irreducible] allB decI decR encV findI highI infoR irows lowI rowsB signedI wrongI
attribute [local irreducible] RenM
end Go.Proofs.YtfahnaccpncdpaaGreatDoor
namespace Go.Proofs.YtfahnaccpncdpaaGreatDoor
open Go Go.Plat
set_option linter.unusedVariables false
set_option linter.unusedSimpArgs false
set_option maxRecDepth 100000
set_option maxHeartbeats 2000000
attribute [local irreducible] AWP Arith BitS BytesS CallS CatS DrawS EndS IdxS LookS LoopEnd Meets ModeS NilS NormL NormM QuoS RemS ShlS ShrS SideS SplitS bitI decR infoR irows rowsB
attribute [local irreducible] RenM allB decI encV findI highI lowI signedI wrongI
end Go.Proofs.YtfahnaccpncdpaaGreatDoor
namespace Go.Proofs.YtfahnaccpncdpaaGreatDoor
open Go Go.Plat
set_option linter.unusedVariables false
set_option linter.unusedSimpArgs false
set_option maxRecDepth 100000
set_option maxHeartbeats 2000000
attribute [local irreducible] AWP Arith BitS BytesS CallS CatS DrawS EndS IdxS LookS LoopEnd Meets ModeS NilS NormL NormM QuoS RemS ShlS ShrS SideS SplitS bitI
attribute [local irreducible] allB decR highI infoR irows lowI rowsB signedI
end Go.Proofs.YtfahnaccpncdpaaGreatDoor
namespace Go.Proofs.YtfahnaccpncdpaaGreatDoor
open Go Go.Plat
set_option linter.unusedVariables false
set_option linter.unusedSimpArgs false
set_option maxRecDepth 100000
set_option maxHeartbeats 2000000
attribute [local irreducible] AWP Arith BitS BytesS CallS CatS DrawS EndS IdxS LookS LoopEnd Meets ModeS NilS NormL NormM QuoS RemS ShlS ShrS SideS SplitS allB bitI decR infoR irows rowsB
end Go.Proofs.YtfahnaccpncdpaaGreatDoor
namespace Go.Proofs.YtfahnaccpncdpaaGreatDoor
open Go Go.Plat
set_option linter.unusedVariables false
set_option linter.unusedSimpArgs false
set_option maxRecDepth 100000
set_option maxHeartbeats 2000000
attribute [local irreducible] AWP Arith BitS BytesS CallS CatS DrawS EndS IdxS LookS LoopEnd Meets ModeS NilS NormL NormM QuoS RemS ShlS ShrS SideS SplitS bitI decI getN infoR irows putN shapeM signedI
def ldM (i:Ins):Bool:=decide (shapeM i.op=4∨shapeM i.op=5∨shapeM i.op=7∨shapeM i.op=8)
theorem shape_some {op:Int} {r:IRow} (h:infoR op=some r):shapeM op=r.shape:=by unfold shapeM;rw [h]
theorem shape_none {op:Int} (h:infoR op=none):shapeM op=0:=by unfold shapeM;rw [h]
theorem info_shape (op:Int):∃ s,infoD op= .tup [.str s,.int .i64 (shapeM op)]:=by
 unfold infoD
 cases h:infoR op with
 | none=>exact ⟨[],by rw [shape_none h]⟩
 | some r=>exact ⟨r.name,by rw [shape_some h]⟩
theorem bit_clear {n:Int} (h1: -4611686018427387904≤n) (h2:n≤4611686018427387904) {K:D→Prop} (h:K (.int .i64 (n - n % 4))):BitS .andNot .i64 n 3 K:=by
 unfold BitS;rw [clear3 h1 h2];exact h
theorem to_meets:Meets Tryz.prog n_dis_To (SpecP (fun ((i,at_):Ins×Int)=>-4096≤i.imm∧i.imm≤4096∧-4000000000000≤at_∧at_≤4000000000000) (fun (i,at_)=>[insD i,.int .i64 at_]) fun (i,at_)=>.tup [.int .i64 (toM i at_),.bool (ldM i)]):=by
 refine meets_f tabOk Tryz.func8 rfl (by decide) ?_
 rintro ⟨i,at_⟩ ⟨h1,h2,h3,h4⟩
 refine ⟨Nat.le_refl _,by simp [Tryz.f8],fun E hE=>?_⟩
 refine vcOk _ ?_
 (all_goals refine qgv ?_<;>(repeat' first | exact trivial | intro hc | refine And.intro ?_ ?_)<;>refine Lf.mk ?_)
 refine call_p info_meets i.op trivial (VS.mk (LeL.of_eq rfl)) ?_
 obtain ⟨s,hs⟩:=info_shape i.op
 rw [hs]
 (all_goals refine qgv ?_<;>(repeat' first | exact trivial | intro hc | refine And.intro ?_ ?_)<;>refine Lf.mk ?_)
 any_goals (refine bit_clear (by omega) (by omega) ?_)
 (all_goals refine qgv ?_<;>(repeat' first | exact trivial | intro hc | refine And.intro ?_ ?_)<;>refine Lf.mk ?_)
 all_goals (refine end_p (VS.mk (LeD.tup (.cons (LeD.of_eq (congrArg (D.int .i64) ?_)) (.cons ?_ .nil)))))
 all_goals first
  | exact LeD.tt (decide_eq_true (by omega))
  | exact LeD.ff (decide_eq_false (by omega))
  | (unfold toM;rw [if_pos (by omega)];done)
  | (unfold toM;rw [if_neg (by omega),if_pos (by omega)];done)
  | (unfold toM;rw [if_neg (by omega),if_neg (by omega)];done)
end Go.Proofs.YtfahnaccpncdpaaGreatDoor
namespace Go.Proofs.YtfahnaccpncdpaaGreatDoor
open Go Go.Plat
set_option linter.unusedVariables false
set_option linter.unusedSimpArgs false
set_option maxRecDepth 100000
set_option maxHeartbeats 2000000
attribute [local irreducible] AWP Arith BitS BytesS CallS CatS DrawS EndS IdxS LookS LoopEnd Meets ModeS NilS NormL NormM QuoS RemS ShlS ShrS SideS SplitS bitI
theorem itoa_meets:Meets Tryz.prog n_strconv_Itoa (SpecP (fun n:Int=>-9223372036854775808≤n∧n≤9223372036854775807) (fun n=>[.int .i64 n]) fun n=>.str (Lib.itoa n)):=by
 refine meets_lib ⟨_,Tryz.func18,by decide,rfl⟩ ?_
 intro n hn w F hg vs hl hv
 match vs,hl with
 | [v],_=>
  cases hv 0 _ v rfl rfl
  refine (Go.Proofs.Tryz.strconv_Itoa n hn.1 hn.2 w ?_).mono ?_
  ·exact hg.tab (g:=2) (ns:=(List.range 20).map (10 ^ ·)) (by kernel_rfl) (by kernel_rfl) (by rw [List.map_map];rfl) (by decide)
  ·rintro e w' ⟨rfl,k,os,rfl⟩
   exact ⟨_,rfl,.growD w k os,.str _⟩
attribute [local irreducible] decI getN hexI infoR irows putN shapeM signedI
def formsL:List (List UInt8):=[[],[32,35,105,44,110],[32,109,44,110],[32,110],[32,112],[32,112],[32,64,110],[32,112,44,110],[32,112,44,110],[32,109,44,64,110],[32,64,109,44,110],[32,35,105]]
def formI (s:Int):List UInt8:=formsL.getD s.toNat []
def fillC (i:Ins) (to:Int) (c:UInt8):List UInt8:=if c=105 then Lib.itoa i.imm else if c=110 then 114::Lib.itoa i.n else if c=109 then 114::Lib.itoa i.m else if c=112 then nameH to else [c]
def fillF (i:Ins) (to:Int) (f:List UInt8):List UInt8:=f.flatMap (fillC i to)
def lineH (i:Ins) (at_:Int):List UInt8:=match infoR i.op with
 | some r=>r.name++fillF i (toM i at_) (formI r.shape)
 | none=>[]
structure LineIn (i:Ins) (at_:Int):Prop where
 op:∃ r,infoR i.op=some r
 n:0≤i.n∧i.n≤15
 m:0≤i.m∧i.m≤15
 imm: -4096≤i.imm∧i.imm≤4096
 pl:0≤at_∧at_≤2000000
theorem to_in {i:Ins} {at_:Int} (h:LineIn i at_): -1000000000≤toM i at_∧toM i at_≤1000000000:=by
 have h1:=h.imm
 have h2:=h.pl
 unfold toM
 split
 ·omega
 split
 ·omega
 ·omega
theorem cat_gen {s t:List UInt8} {K:D→Prop} (p q:Nat) (hs:s.length≤p) (ht:t.length≤q) (hb:p+q≤1000000) (h:∀ y,y=s++t→y.length≤p+q→K (.str y)):CatS s t K:=
 cat_mk (by omega) (h _ rfl (by rw [List.length_append];omega))
theorem form_at (i:Ins) (td:Int) :
  (fillF i td (formI 1)).drop 1=(([35]++Lib.itoa i.imm)++[44])++(114::Lib.itoa i.n)∧(fillF i td (formI 2)).drop 1=((114::Lib.itoa i.m)++[44])++(114::Lib.itoa i.n)∧(fillF i td (formI 3)).drop 1=114::Lib.itoa i.n ∧
  (fillF i td (formI 4)).drop 1=nameH td∧(fillF i td (formI 5)).drop 1=nameH td∧(fillF i td (formI 6)).drop 1=[64]++(114::Lib.itoa i.n)∧(fillF i td (formI 7)).drop 1=(nameH td++[44])++(114::Lib.itoa i.n)∧(fillF i td (formI 8)).drop 1=(nameH td++[44])++(114::Lib.itoa i.n) ∧
  (fillF i td (formI 9)).drop 1=((114::Lib.itoa i.m)++[44,64])++(114::Lib.itoa i.n)∧(fillF i td (formI 10)).drop 1=(([64]++(114::Lib.itoa i.m))++[44])++(114::Lib.itoa i.n)∧(fillF i td (formI 11)).drop 1=[35]++Lib.itoa i.imm:=by
 refine ⟨?_,?_,?_,?_,?_,?_,?_,?_,?_,?_,?_⟩
 ·show (fillF i td [32,35,105,44,110]).drop 1=_;simp [fillF,fillC]
 ·show (fillF i td [32,109,44,110]).drop 1=_;simp [fillF,fillC]
 ·show (fillF i td [32,110]).drop 1=_;simp [fillF,fillC]
 ·show (fillF i td [32,112]).drop 1=_;simp [fillF,fillC]
 ·show (fillF i td [32,112]).drop 1=_;simp [fillF,fillC]
 ·show (fillF i td [32,64,110]).drop 1=_;simp [fillF,fillC]
 ·show (fillF i td [32,112,44,110]).drop 1=_;simp [fillF,fillC]
 ·show (fillF i td [32,112,44,110]).drop 1=_;simp [fillF,fillC]
 ·show (fillF i td [32,109,44,64,110]).drop 1=_;simp [fillF,fillC]
 ·show (fillF i td [32,64,109,44,110]).drop 1=_;simp [fillF,fillC]
 ·show (fillF i td [32,35,105]).drop 1=_;simp [fillF,fillC]
theorem form_no {s:Int} (h:s < 1∨11 < s):formI s=[]:=by
 unfold formI
 rcases h with h | h
 ·rw [show s.toNat=0 by omega];rfl
 ·rw [List.getD_eq_getElem?_getD,List.getElem?_eq_none (by show 12≤s.toNat;omega)]
  rfl
abbrev OkC (c:UInt8):Prop:=33≤c.toNat∧c.toNat≤122
def okT (l:List UInt8):Prop:=∀ c∈l,OkC c
theorem okT.app {a b:List UInt8} (h:okT a) (k:okT b):okT (a++b):=fun c hc=>(List.mem_append.1 hc).elim (h c) (k c)
theorem okT.cons {a:UInt8} {b:List UInt8} (h:OkC a) (k:okT b):okT (a::b):=fun c hc=>by
 rcases List.mem_cons.1 hc with rfl | hc
 ·exact h
 ·exact k c hc
theorem ok_dec (u:Nat):okT (Lib.decDigits u):=fun c hc=>by
 have:=dec_dig u c hc
 exact ⟨by omega,by omega⟩
theorem ok_itoa (n:Int):okT (Lib.itoa n)∧Lib.itoa n≠[]:=by
 by_cases h:n < 0
 ·obtain ⟨u,rfl⟩:∃ u:Nat,n= -(u:Int):=⟨n.natAbs,by omega⟩
  rw [Lib.itoa_neg u (by omega)]
  exact ⟨.cons (by decide) (ok_dec u),List.cons_ne_nil _ _⟩
 ·obtain ⟨u,rfl⟩:∃ u:Nat,n=(u:Int):=⟨n.toNat,by omega⟩
  rw [Lib.itoa_nonneg]
  exact ⟨ok_dec u,dec_ne u⟩
theorem ok_dig {k:Nat} (h:k < 16):OkC (digH k):=by
 have:∀ k:Fin 16,OkC (digH k.1):=by unfold OkC;decide
 exact this ⟨k,h⟩
theorem ok_hexR:∀ (f u:Nat) (acc:List UInt8),u < 16 ^ (f+1)→okT acc→okT (hexR f u acc)
 | 0,u,acc,h,k=>.cons (ok_dig h) k
 | f+1,u,acc,h,k=>by
  rw [hexR]
  split
  ·exact .cons (ok_dig (by assumption)) k
  ·have hpw:16 ^ (f+1+1)=16 ^ (f+1) * 16:=Nat.pow_succ _ _
   exact ok_hexR f _ _ (by omega) (.cons (ok_dig (Nat.mod_lt _ (by decide))) k)
theorem ok_name {n:Int} (h0: -1000000000≤n) (h1:n≤1000000000):okT (nameH n):=by
 have hp:(1000000000:Nat) < 16 ^ (15+1):=by decide
 refine .cons (by unfold OkC;decide) ?_
 unfold hexI
 split
 ·exact .cons (by unfold OkC;decide) (ok_hexR _ _ _ (by omega) fun c hc=>by cases hc)
 ·exact ok_hexR _ _ _ (by omega) fun c hc=>by cases hc
theorem ok_fillC {i:Ins} {td:Int} (h0: -1000000000≤td) (h1:td≤1000000000) {c:UInt8} (h:OkC c):okT (fillC i td c)∧fillC i td c≠[]:=by
 unfold fillC
 split
 ·exact ok_itoa _
 split
 ·exact ⟨.cons (by unfold OkC;decide) (ok_itoa _).1,List.cons_ne_nil _ _⟩
 split
 ·exact ⟨.cons (by unfold OkC;decide) (ok_itoa _).1,List.cons_ne_nil _ _⟩
 split
 ·exact ⟨ok_name h0 h1,List.cons_ne_nil _ _⟩
 ·exact ⟨.cons h (fun c hc=>by cases hc),List.cons_ne_nil _ _⟩
theorem ok_fill {i:Ins} {td:Int} (h0: -1000000000≤td) (h1:td≤1000000000):∀ {f:List UInt8},okT f→okT (fillF i td f)
 | [],_=>fun c hc=>by cases hc
 | x::f,h=>by
  unfold fillF
  rw [List.flatMap_cons]
  exact (ok_fillC h0 h1 (h x List.mem_cons_self)).1.app (ok_fill h0 h1 fun c hc=>h c (List.mem_cons_of_mem _ hc))
theorem forms_ok (s:Int):formI s=[]∨∃ x f,formI s=32::x::f∧okT (x::f):=by
 by_cases h:s < 1∨11 < s
 ·exact .inl (form_no h)
 ·have hk:s.toNat < 12:=by omega
  have:∀ k:Fin 12,k.1=0∨∃ x f,formsL.getD k.1 []=32::x::f∧(x::f).all (fun c=>decide (OkC c))=true:=by
   intro k
   match k with
   | ⟨0,_⟩=>exact .inl rfl
   | ⟨1,_⟩=>exact .inr ⟨_,_,rfl,by unfold OkC;decide⟩
   | ⟨2,_⟩=>exact .inr ⟨_,_,rfl,by unfold OkC;decide⟩
   | ⟨3,_⟩=>exact .inr ⟨_,_,rfl,by unfold OkC;decide⟩
   | ⟨4,_⟩=>exact .inr ⟨_,_,rfl,by unfold OkC;decide⟩
   | ⟨5,_⟩=>exact .inr ⟨_,_,rfl,by unfold OkC;decide⟩
   | ⟨6,_⟩=>exact .inr ⟨_,_,rfl,by unfold OkC;decide⟩
   | ⟨7,_⟩=>exact .inr ⟨_,_,rfl,by unfold OkC;decide⟩
   | ⟨8,_⟩=>exact .inr ⟨_,_,rfl,by unfold OkC;decide⟩
   | ⟨9,_⟩=>exact .inr ⟨_,_,rfl,by unfold OkC;decide⟩
   | ⟨10,_⟩=>exact .inr ⟨_,_,rfl,by unfold OkC;decide⟩
   | ⟨11,_⟩=>exact .inr ⟨_,_,rfl,by unfold OkC;decide⟩
  rcases this ⟨s.toNat,hk⟩ with h0 | ⟨x,f,h1,h2⟩
  ·exact absurd (show s.toNat=0 from h0) (by omega)
  ·exact .inr ⟨x,f,h1,fun c hc=>of_decide_eq_true (List.all_eq_true.1 h2 c hc)⟩
theorem ok_sp {c:UInt8} (h:OkC c):Lib.isSp c=false:=by
 unfold OkC at h
 have hne:∀ d:UInt8,d.toNat < 33→(c==d)=false:=fun d hd=>beq_false_of_ne fun e=>by rw [e] at h;omega
 unfold Lib.isSp
 rw [hne 9 (by decide),hne 10 (by decide),hne 11 (by decide),hne 12 (by decide),hne 13 (by decide),hne 32 (by decide)]
 rfl
theorem last_of {l:List UInt8} (h:l≠[]):∃ u d,l=u++[d]∧d∈l:=⟨l.dropLast,l.getLast h,(List.dropLast_concat_getLast h).symm,List.getLast_mem h⟩
theorem trim_line {i:Ins} {td:Int} {nm:List UInt8} {s:Int} (h0: -1000000000≤td) (h1:td≤1000000000) (hn:okT nm) (hn0:nm≠[]) :
  Lib.trimSpace ((nm++[32])++(fillF i td (formI s)).drop 1)=nm++fillF i td (formI s)∧∀ c∈(nm++[32])++(fillF i td (formI s)).drop 1,c.toNat < 128:=by
 obtain ⟨c,t,rfl⟩:∃ c t,nm=c::t:=by cases nm with | nil=>exact absurd rfl hn0 | cons c t=>exact ⟨c,t,rfl⟩
 have hc:=ok_sp (hn c List.mem_cons_self)
 rcases forms_ok s with h | ⟨x,f,h,hf⟩
 ·obtain ⟨u,d,e,hd⟩:=last_of hn0
  have e1:fillF i td (formI s)=[]:=by rw [h];rfl
  rw [e1,List.drop_nil,List.append_nil,List.append_nil]
  refine ⟨trim_end hc (ok_sp (hn d hd)) e,fun y hy=>?_⟩
  rcases List.mem_append.1 hy with hy | hy
  ·have:=(hn y hy).2;omega
  ·rw [List.mem_singleton.1 hy];decide
 ·have e1:fillF i td (formI s)=32::fillF i td (x::f):=by rw [h];rfl
  have hk:=ok_fill (i:=i) h0 h1 hf
  have hne:fillF i td (x::f)≠[]:=by
   unfold fillF
   rw [List.flatMap_cons]
   exact fun e=>(ok_fillC (i:=i) h0 h1 (hf x List.mem_cons_self)).2 (List.append_eq_nil_iff.1 e).1
  rw [e1,List.drop_succ_cons,List.drop_zero]
  generalize fillF i td (x::f)=g at *
  obtain ⟨u,d,e,hd⟩:=last_of hne
  have e2:(c::t++[32])++g=c::(t++32::g):=by simp
  have e3:c::(t++32::g)=(c::(t++32::u))++[d]:=by rw [e];simp
  refine ⟨by rw [e2,trim_id hc (ok_sp (hk d hd)) e3];rfl,fun y hy=>?_⟩
  rcases List.mem_append.1 hy with hy | hy
  ·rcases List.mem_append.1 hy with hy | hy
   ·have:=(hn y hy).2;omega
   ·rw [List.mem_singleton.1 hy];decide
  ·have:=(hk y hy).2;omega
theorem irows_ok:irows.all (fun r=>decide ((∀ c∈r.name,OkC c)∧r.name≠[]∧r.name.length≤10))=true:=by unfold irows;decide
theorem irow_ok {op:Int} {r:IRow} (h:infoR op=some r):okT r.name∧r.name≠[]∧r.name.length≤10:=by
 unfold infoR at h
 have:=of_decide_eq_true (p:=(∀ c∈r.name,OkC c)∧r.name≠[]∧r.name.length≤10) (List.all_eq_true.1 irows_ok r (List.mem_of_find?_eq_some h))
 exact this
theorem dfill_len {i:Ins} {td:Int} (ln:(Lib.itoa i.n).length≤21) (lm:(Lib.itoa i.m).length≤21) (li:(Lib.itoa i.imm).length≤21):∀ f:List UInt8,(fillF i td f).length≤22 * f.length
 | []=>Nat.le_refl _
 | x::f=>by
  have h1:=dfill_len (td:=td) ln lm li f
  unfold fillF at h1 ⊢
  rw [List.flatMap_cons,List.length_append,List.length_cons]
  have h2:(fillC i td x).length≤22:=by
   unfold fillC
   split
   ·omega
   split
   ·rw [List.length_cons];omega
   split
   ·rw [List.length_cons];omega
   split
   ·unfold nameH;rw [List.length_cons];have:=hexI_len td;omega
   ·show 1≤22;decide
  omega
theorem form_len (s:Int):(formI s).length≤6:=by
 by_cases h:s < 1∨11 < s
 ·rw [form_no h];exact Nat.zero_le _
 ·have:∀ k:Fin 12,(formsL.getD k.1 []).length≤6:=by decide
  exact this ⟨s.toNat,by omega⟩
theorem dline_meets:Meets Tryz.prog n_dis_Line (SpecP (fun ((i,at_):Ins×Int)=>LineIn i at_) (fun (i,at_)=>[insD i,.int .i64 at_]) fun (i,at_)=>.str (lineH i at_)):=by
 refine meets_f tabOk Tryz.func9 rfl (by decide) ?_
 rintro ⟨i,at_⟩ h
 have h:LineIn i at_:=h
 obtain ⟨r,hr⟩:=h.op
 have hn:=h.n
 have hm:=h.m
 have hi:=h.imm
 have hp:=h.pl
 have ht:=to_in h
 refine ⟨Nat.le_refl _,by simp [Tryz.f9],fun E hE=>?_⟩
 have hE0:E.L.length=0:=by rw [hE];rfl
 have hinf:infoD i.op= .tup [.str r.name,.int .i64 r.shape]:=by unfold infoD;rw [hr]
 dsimp only
 refine awp_seqK (vcOk _ ?_)
 (all_goals refine qgp ?_<;>(repeat' first | exact trivial | intro hc | refine And.intro ?_ ?_)<;>refine Lf.mk ?_)
 refine awp_seqK (vcOk _ ?_)
 (all_goals refine qgp ?_<;>(repeat' first | exact trivial | intro hc | refine And.intro ?_ ?_)<;>refine Lf.mk ?_)
 refine call_p info_meets i.op trivial (VS.mk (LeL.of_eq rfl)) ?_
 rw [hinf]
 (all_goals refine qgp ?_<;>(repeat' first | exact trivial | intro hc | refine And.intro ?_ ?_)<;>refine Lf.mk ?_)
 have ln:=Lib.itoa_length_le i.n (by omega) (by omega)
 have lm:=Lib.itoa_length_le i.m (by omega) (by omega)
 have li:=Lib.itoa_length_le i.imm (by omega) (by omega)
 refine awp_cut (α:=Unit) (fun _=>True) (fun _=>[(1,.int .i64 at_),(2,.loc 0 0),(5,.str r.name),(6,.int .i64 r.shape),(7,.str (114::Lib.itoa i.n)),(8,.str (114::Lib.itoa i.m))]) (fun _=>[.cells (insD i).cells]) (vcOk _ ?_) (fun _ _=>?_)
 ·(all_goals refine qgp ?_<;>(repeat' first | exact trivial | intro hc | refine And.intro ?_ ?_)<;>refine Lf.mk ?_)
  refine call_p itoa_meets i.n ⟨by omega,by omega⟩ (VS.mk (LeL.of_eq rfl)) ?_
  (all_goals refine qgp ?_<;>(repeat' first | exact trivial | intro hc | refine And.intro ?_ ?_)<;>refine Lf.mk ?_)
  refine cat_mk (by show ((1+(Lib.itoa i.n).length:Nat):Int)≤9223372036854775807;omega) ?_
  (all_goals refine qgp ?_<;>(repeat' first | exact trivial | intro hc | refine And.intro ?_ ?_)<;>refine Lf.mk ?_)
  refine call_p itoa_meets i.m ⟨by omega,by omega⟩ (VS.mk (LeL.of_eq rfl)) ?_
  (all_goals refine qgp ?_<;>(repeat' first | exact trivial | intro hc | refine And.intro ?_ ?_)<;>refine Lf.mk ?_)
  refine cat_mk (by show ((1+(Lib.itoa i.m).length:Nat):Int)≤9223372036854775807;omega) ?_
  (all_goals refine qgp ?_<;>(repeat' first | exact trivial | intro hc | refine And.intro ?_ ?_)<;>refine Lf.mk ?_)
  exact ⟨(),trivial,weak_same rfl ⟨rfl,rfl,rfl,rfl,rfl,rfl,trivial⟩⟩
 unfold insD D.cells
 dsimp only
 refine awp_seqK (vcOk _ ?_)
 (all_goals refine qgp ?_<;>(repeat' first | exact trivial | intro hc | refine And.intro ?_ ?_)<;>refine Lf.mk ?_)
 refine call_p to_meets (i,at_) ⟨by show -4096≤i.imm;omega,by show i.imm≤4096;omega,by show _≤at_;omega,by show at_≤_;omega⟩ (VS.mk (LeL.of_eq rfl)) ?_
 dsimp only
 generalize htd:toM i at_=td at *
 (all_goals refine qgp ?_<;>(repeat' first | exact trivial | intro hc | refine And.intro ?_ ?_)<;>refine Lf.mk ?_)
 refine awp_seqK (vcOk _ ?_)
 (all_goals refine qgp ?_<;>(repeat' first | exact trivial | intro hc | refine And.intro ?_ ?_)<;>refine Lf.mk ?_)
 refine awp_cut (α:=Unit) (fun _=>True) (fun _=>[(5,.str r.name),(11,.str ((fillF i td (formI r.shape)).drop 1))]) (fun _=>[]) (vcOk _ ?_) (fun _ _=>?_)
 ·have hnl:=hexI_len td
  have hnm:(nameH td).length≤18:=by unfold nameH;rw [List.length_cons];omega
  have hrn:(114::Lib.itoa i.n).length≤22:=by rw [List.length_cons];omega
  have hrm:(114::Lib.itoa i.m).length≤22:=by rw [List.length_cons];omega
  obtain ⟨f1,f2,f3,f4,f5,f6,f7,f8,f9,f10,f11⟩:=form_at i td
  have fin:∀ (k:Int) (s:List UInt8),(fillF i td (formI k)).drop 1=s→r.shape=k→D.str s=D.str ((fillF i td (formI r.shape)).drop 1):=fun k s e h=>by rw [h,e]
  have dn:∀ {σ:List (Nat×D)} {o:Ob} {s:List UInt8},D.str s=D.str ((fillF i td (formI r.shape)).drop 1)→Plat.look σ 5=D.str r.name→Plat.look σ 11=D.str s→∃ p:Unit,True∧Weak E.L.length σ [o] [(5,.str r.name),(11,.str ((fillF i td (formI r.shape)).drop 1))] []:=fun h h1 h2=>
   ⟨(),trivial,weak_pre [] [_] rfl (by rw [hE0];exact Nat.zero_le _) (fun o ho=>by cases ho) ⟨h1,h2.trans h,trivial⟩ (.cons .str (.cons .str .nil))⟩
  (all_goals refine qgp ?_<;>(repeat' first | exact trivial | intro hc | refine And.intro ?_ ?_)<;>refine Lf.mk ?_)
  ·refine call_p itoa_meets i.imm ⟨by omega,by omega⟩ (VS.mk (LeL.of_eq rfl)) ?_
   (all_goals refine qgp ?_<;>(repeat' first | exact trivial | intro hc | refine And.intro ?_ ?_)<;>refine Lf.mk ?_)
   refine cat_gen 1 21 (by decide) li (by decide) fun y1 e1 l1=>?_
   (all_goals refine qgp ?_<;>(repeat' first | exact trivial | intro hc | refine And.intro ?_ ?_)<;>refine Lf.mk ?_)
   refine cat_gen 22 1 l1 (by decide) (by decide) fun y2 e2 l2=>?_
   (all_goals refine qgp ?_<;>(repeat' first | exact trivial | intro hc | refine And.intro ?_ ?_)<;>refine Lf.mk ?_)
   refine cat_gen 23 22 l2 hrn (by decide) fun y3 e3 l3=>?_
   (all_goals refine qgp ?_<;>(repeat' first | exact trivial | intro hc | refine And.intro ?_ ?_)<;>refine Lf.mk ?_)
   exact dn (fin 1 y3 (f1.trans (by rw [e3,e2,e1])) hc) rfl rfl
  ·refine cat_gen 22 1 hrm (by decide) (by decide) fun y1 e1 l1=>?_
   (all_goals refine qgp ?_<;>(repeat' first | exact trivial | intro hc | refine And.intro ?_ ?_)<;>refine Lf.mk ?_)
   refine cat_gen 23 22 l1 hrn (by decide) fun y2 e2 l2=>?_
   (all_goals refine qgp ?_<;>(repeat' first | exact trivial | intro hc | refine And.intro ?_ ?_)<;>refine Lf.mk ?_)
   exact dn (fin 2 y2 (f2.trans (by rw [e2,e1])) hc) rfl rfl
  ·exact dn (fin 3 _ f3 hc) rfl rfl
  ·refine call_p dname_meets td ht (VS.mk (LeL.of_eq rfl)) ?_
   (all_goals refine qgp ?_<;>(repeat' first | exact trivial | intro hc | refine And.intro ?_ ?_)<;>refine Lf.mk ?_)
   exact dn (fin 4 _ f4 hc) rfl rfl
  ·refine call_p dname_meets td ht (VS.mk (LeL.of_eq rfl)) ?_
   (all_goals refine qgp ?_<;>(repeat' first | exact trivial | intro hc | refine And.intro ?_ ?_)<;>refine Lf.mk ?_)
   exact dn (fin 5 _ f5 hc) rfl rfl
  ·refine cat_gen 1 22 (by decide) hrn (by decide) fun y1 e1 l1=>?_
   (all_goals refine qgp ?_<;>(repeat' first | exact trivial | intro hc | refine And.intro ?_ ?_)<;>refine Lf.mk ?_)
   exact dn (fin 6 y1 (f6.trans (by rw [e1])) hc) rfl rfl
  ·refine call_p dname_meets td ht (VS.mk (LeL.of_eq rfl)) ?_
   (all_goals refine qgp ?_<;>(repeat' first | exact trivial | intro hc | refine And.intro ?_ ?_)<;>refine Lf.mk ?_)
   refine cat_gen 18 1 hnm (by decide) (by decide) fun y1 e1 l1=>?_
   (all_goals refine qgp ?_<;>(repeat' first | exact trivial | intro hc | refine And.intro ?_ ?_)<;>refine Lf.mk ?_)
   refine cat_gen 19 22 l1 hrn (by decide) fun y2 e2 l2=>?_
   (all_goals refine qgp ?_<;>(repeat' first | exact trivial | intro hc | refine And.intro ?_ ?_)<;>refine Lf.mk ?_)
   exact dn (fin 7 y2 (f7.trans (by rw [e2,e1])) hc) rfl rfl
  ·refine call_p dname_meets td ht (VS.mk (LeL.of_eq rfl)) ?_
   (all_goals refine qgp ?_<;>(repeat' first | exact trivial | intro hc | refine And.intro ?_ ?_)<;>refine Lf.mk ?_)
   refine cat_gen 18 1 hnm (by decide) (by decide) fun y1 e1 l1=>?_
   (all_goals refine qgp ?_<;>(repeat' first | exact trivial | intro hc | refine And.intro ?_ ?_)<;>refine Lf.mk ?_)
   refine cat_gen 19 22 l1 hrn (by decide) fun y2 e2 l2=>?_
   (all_goals refine qgp ?_<;>(repeat' first | exact trivial | intro hc | refine And.intro ?_ ?_)<;>refine Lf.mk ?_)
   exact dn (fin 8 y2 (f8.trans (by rw [e2,e1])) hc) rfl rfl
  ·refine cat_gen 22 2 hrm (by decide) (by decide) fun y1 e1 l1=>?_
   (all_goals refine qgp ?_<;>(repeat' first | exact trivial | intro hc | refine And.intro ?_ ?_)<;>refine Lf.mk ?_)
   refine cat_gen 24 22 l1 hrn (by decide) fun y2 e2 l2=>?_
   (all_goals refine qgp ?_<;>(repeat' first | exact trivial | intro hc | refine And.intro ?_ ?_)<;>refine Lf.mk ?_)
   exact dn (fin 9 y2 (f9.trans (by rw [e2,e1])) hc) rfl rfl
  ·refine cat_gen 1 22 (by decide) hrm (by decide) fun y1 e1 l1=>?_
   (all_goals refine qgp ?_<;>(repeat' first | exact trivial | intro hc | refine And.intro ?_ ?_)<;>refine Lf.mk ?_)
   refine cat_gen 23 1 l1 (by decide) (by decide) fun y2 e2 l2=>?_
   (all_goals refine qgp ?_<;>(repeat' first | exact trivial | intro hc | refine And.intro ?_ ?_)<;>refine Lf.mk ?_)
   refine cat_gen 24 22 l2 hrn (by decide) fun y3 e3 l3=>?_
   (all_goals refine qgp ?_<;>(repeat' first | exact trivial | intro hc | refine And.intro ?_ ?_)<;>refine Lf.mk ?_)
   exact dn (fin 10 y3 (f10.trans (by rw [e3,e2,e1])) hc) rfl rfl
  ·refine call_p itoa_meets i.imm ⟨by omega,by omega⟩ (VS.mk (LeL.of_eq rfl)) ?_
   (all_goals refine qgp ?_<;>(repeat' first | exact trivial | intro hc | refine And.intro ?_ ?_)<;>refine Lf.mk ?_)
   refine cat_gen 1 21 (by decide) li (by decide) fun y1 e1 l1=>?_
   (all_goals refine qgp ?_<;>(repeat' first | exact trivial | intro hc | refine And.intro ?_ ?_)<;>refine Lf.mk ?_)
   exact dn (fin 11 y1 (f11.trans (by rw [e1])) hc) rfl rfl
  ·refine dn (s:=[]) (congrArg D.str ?_) rfl rfl
   rw [form_no (by omega)]
   rfl
 ·have hrw:=irow_ok hr
  have hsl:((fillF i td (formI r.shape)).drop 1).length≤200:=by
   have h1:=dfill_len (i:=i) (td:=td) ln lm li (formI r.shape)
   have h2:=form_len r.shape
   rw [List.length_drop]
   omega
  obtain ⟨tr1,tr2⟩:=trim_line (i:=i) (s:=r.shape) ht.1 ht.2 hrw.1 hrw.2.1
  refine vcOk _ ?_
  (all_goals refine qgp ?_<;>(repeat' first | exact trivial | intro hc | refine And.intro ?_ ?_)<;>refine Lf.mk ?_)
  refine cat_gen 10 1 hrw.2.2 (by decide) (by decide) fun y1 e1 l1=>?_
  (all_goals refine qgp ?_<;>(repeat' first | exact trivial | intro hc | refine And.intro ?_ ?_)<;>refine Lf.mk ?_)
  refine cat_gen 11 200 l1 hsl (by decide) fun y2 e2 l2=>?_
  (all_goals refine qgp ?_<;>(repeat' first | exact trivial | intro hc | refine And.intro ?_ ?_)<;>refine Lf.mk ?_)
  have hy:y2=(r.name++[32])++(fillF i td (formI r.shape)).drop 1:=by rw [e2,e1]
  refine call_p trim_meets y2 ⟨by omega,by rw [hy];exact tr2⟩ (VS.mk (LeL.of_eq rfl)) ?_
  rw [hy,tr1]
  (all_goals refine qgp ?_<;>(repeat' first | exact trivial | intro hc | refine And.intro ?_ ?_)<;>refine Lf.mk ?_)
  refine end_p (VS.mk (LeD.of_eq (congrArg D.str ?_)))
  unfold lineH
  rw [hr,htd]
attribute [local irreducible] encV ldM toM
def finI (i:Ins) (at_ n:Int):Bool:=!ldM i || (decide (0≤toM i at_) && decide (toM i at_ < n))
theorem fine_meets:Meets Tryz.prog n_dis_fine (SpecP (fun ((i,at_,n):Ins×Int×Int)=>-4096≤i.imm∧i.imm≤4096∧-4000000000000≤at_∧at_≤4000000000000) (fun (i,at_,n)=>[insD i,.int .i64 at_,.int .i64 n]) fun (i,at_,n)=>.bool (finI i at_ n)):=by
 refine meets_f tabOk Tryz.func13 rfl (by decide) ?_
 rintro ⟨i,at_,n⟩ h
 have h: -4096≤i.imm∧i.imm≤4096∧-4000000000000≤at_∧at_≤4000000000000:=h
 refine ⟨Nat.le_refl _,by simp [Tryz.f13],fun E hE=>?_⟩
 have hF:finI i at_ n=(!ldM i || (decide (0≤toM i at_) && decide (toM i at_ < n))):=rfl
 dsimp only
 generalize finI i at_ n=F at *
 refine vcOk _ ?_
 (all_goals refine qgp ?_<;>(repeat' first | exact trivial | intro hc | refine And.intro ?_ ?_)<;>refine Lf.mk ?_)
 refine call_p to_meets (i,at_) h (VS.mk (LeL.of_eq rfl)) ?_
 dsimp only
 generalize toM i at_=td at *
 generalize ldM i=l at *
 (all_goals refine qgp ?_<;>(repeat' first | exact trivial | intro hc | refine And.intro ?_ ?_)<;>refine Lf.mk ?_)
 all_goals refine end_p (VS.mk ?_)
 ·exact LeD.tt (by simp_all)
 ·exact LeD.of_eq (congrArg D.bool (by simp_all))
 ·exact LeD.ff (by simp_all)
def isI (b:List UInt8) (at_:Int):Option Ins:=if (b.length:Int) < at_+2∨(decI (getN b at_ 2)).2≠0∨finI (decI (getN b at_ 2)).1 at_ b.length=false then none else some (decI (getN b at_ 2)).1
def isD (b:List UInt8) (at_:Int):D:=.tup [insD ((isI b at_).getD ins0),.bool (isI b at_).isSome]
attribute [local irreducible] finI wrongI
structure LineIn0 (i:Ins):Prop where
 op:∃ r,infoR i.op=some r
 n:0≤i.n∧i.n≤15
 m:0≤i.m∧i.m≤15
 imm: -4096≤i.imm∧i.imm≤4096
theorem LineIn0.at {i:Ins} (h:LineIn0 i) {at_:Int} (h0:0≤at_) (h1:at_≤2000000):LineIn i at_:=⟨h.op,h.n,h.m,h.imm,h0,h1⟩
theorem low_high (s:Int): -2048≤lowI s∧highI s≤2047:=by
 unfold lowI highI
 refine ⟨?_,?_⟩
 ·split
  ·decide
  split<;>decide
 ·split
  ·decide
  split
  ·decide
  split<;>decide
theorem wr_in {i:Ins} (h:wrongI i=0):LineIn0 i:=by
 unfold wrongI at h
 split at h
 ·exact absurd h (by decide)
 ·rename_i r hr
  split at h
  ·exact absurd h (by decide)
  ·rename_i hb
   have hl:=low_high r.shape
   unfold badReg at hb
   exact ⟨⟨r,hr⟩,by omega,by omega,by omega⟩
theorem dec_in (w:Int): -4096≤(decI w).1.imm∧(decI w).1.imm≤4096:=by
 by_cases h:(decI w).2=0
 ·exact (wr_in (turn2 h).2.2.1).imm
 ·rw [turn0 h]
  exact ⟨by decide,by decide⟩
theorem is_meets:Meets Tryz.prog n_dis_Text_1 (SpecF (fun ((b,at_):List UInt8×Int)=>0≤at_∧at_≤4000000∧b.length≤4000000) (fun (_,at_)=>[.int .i64 at_,.loc 0 0]) (fun (b,_)=>[.cells [bytesD b]]) (fun (b,at_)=>isD b at_) fun (b,_)=>[.cells [bytesD b]]):=by
 refine meets_f tabOk Tryz.func10 rfl (by decide) ?_
 rintro ⟨b,at_⟩ ⟨h0,h1,h2⟩
 have h0:0≤at_:=h0
 have h1:at_≤4000000:=h1
 have h2:b.length≤4000000:=h2
 have hcl:∀ x∈[Ob.cells [bytesD b]],ClO 1 x:=fun x hx=>by rw [List.mem_singleton.1 hx];exact .cells (.cons .sl .nil)
 have hI:isI b at_=if (b.length:Int) < at_+2∨(decI (getN b at_ 2)).2≠0∨finI (decI (getN b at_ 2)).1 at_ b.length=false then none else some (decI (getN b at_ 2)).1:=rfl
 unfold isD
 dsimp only
 generalize isI b at_=I at *
 refine ⟨Nat.le_refl _,by simp [Tryz.f10],fun E hE=>?_⟩
 refine vcOk _ ?_
 have fin:∀ {X:List Ob} {r:D} {d:Option Ins},I=d→LeD r (.tup [insD (d.getD ins0),.bool d.isSome])→EndS [Ob.cells [bytesD b]].length r (.tup [insD (I.getD ins0),.bool I.isSome]) (.cells [bytesD b]::X) [.cells [bytesD b]]:=fun {X r d} h hr=>by
  rw [h]
  exact end_le hr (end_pre [.cells [bytesD b]] X rfl (Nat.le_refl _) (.tup (.cons (.agg (.cons .int (.cons .int (.cons .int (.cons .int .nil))))) (.cons .bool .nil))) hcl) (Nat.le_refl _)
 (all_goals refine qgp ?_<;>(repeat' first | exact trivial | intro hc | refine And.intro ?_ ?_)<;>refine Lf.mk ?_)
 ·rw [if_pos (.inl hc)] at hI
  exact fin hI (LeD.tup (.cons (.refl _) (.cons (LeD.ff rfl) .nil)))
 ·refine call_p get_meets (b,at_,2) ⟨by show _≤at_;omega,by show at_≤_;omega,by show 2≤4;decide⟩ (VS.mk (LeL.of_eq rfl)) ?_
  dsimp only
  generalize hgw:getN b at_ 2=w at *
  (all_goals refine qgp ?_<;>(repeat' first | exact trivial | intro hc | refine And.intro ?_ ?_)<;>refine Lf.mk ?_)
  refine call_p decode_meets w trivial (VS.mk (LeL.of_eq rfl)) ?_
  dsimp only
  have hd:=@turn2 w
  have hin:=dec_in w
  generalize decI w=R at *
  obtain ⟨j,e⟩:=R
  dsimp only at hI hd hin ⊢
  (all_goals refine qgp ?_<;>(repeat' first | exact trivial | intro hc | refine And.intro ?_ ?_)<;>refine Lf.mk ?_)
  ·rw [if_pos (.inr (.inl hc))] at hI
   exact fin hI (LeD.tup (.cons (.refl _) (.cons (LeD.ff rfl) .nil)))
  ·obtain ⟨w0,w1,hwr,hen⟩:=hd hc
   refine call_p fine_meets (j,at_,b.length) ⟨hin.1,hin.2,by show _≤at_;omega,by show at_≤_;omega⟩ (VS.mk (LeL.of_eq rfl)) ?_
   dsimp only
   generalize finI j at_ b.length=fi at *
   cases fi with
   | false=>
    rw [if_pos (.inr (.inr rfl))] at hI
    (all_goals refine qgp ?_<;>(repeat' first | exact trivial | intro hc | refine And.intro ?_ ?_)<;>refine Lf.mk ?_)
    (any_goals (first | (exfalso;refine Bool.false_ne_true ?_;assumption) | (exfalso;refine Bool.false_ne_true (Eq.symm ?_);assumption) | (exfalso;refine absurd trivial ?_;assumption) | skip))
    all_goals exact fin hI (LeD.tup (.cons (.refl _) (.cons (LeD.ff rfl) .nil)))
   | true=>
    rw [if_neg (fun h=>by rcases h with h | h | h;omega;exact h hc;exact Bool.noConfusion h)] at hI
    (all_goals refine qgp ?_<;>(repeat' first | exact trivial | intro hc | refine And.intro ?_ ?_)<;>refine Lf.mk ?_)
    (any_goals (first | (exfalso;refine Bool.false_ne_true ?_;assumption) | (exfalso;refine Bool.false_ne_true (Eq.symm ?_);assumption) | (exfalso;refine absurd trivial ?_;assumption) | skip))
    refine call_p encode_meets j trivial (VS.mk (LeL.of_eq rfl)) ?_
    dsimp only
    rw [if_pos hwr,hwr,hen]
    (all_goals refine qgp ?_<;>(repeat' first | exact trivial | intro hc | refine And.intro ?_ ?_)<;>refine Lf.mk ?_)
    all_goals first
     | (exfalso;exact (by assumption:¬ True) trivial)
     | skip
    refine call_p get_meets (b,at_,2) ⟨by show _≤at_;omega,by show at_≤_;omega,by show 2≤4;decide⟩ (VS.mk (LeL.of_eq rfl)) ?_
    dsimp only
    rw [hgw]
    (all_goals refine qgp ?_<;>(repeat' first | exact trivial | intro hc | refine And.intro ?_ ?_)<;>refine Lf.mk ?_)
    all_goals exact fin hI (LeD.tup (.cons (.refl _) (.cons (LeD.of_eq (congrArg D.bool (beq_self_eq_true w))) .nil)))
end Go.Proofs.YtfahnaccpncdpaaGreatDoor
namespace Go.Proofs.YtfahnaccpncdpaaGreatDoor
open Go Go.Plat
set_option linter.unusedVariables false
set_option linter.unusedSimpArgs false
set_option maxRecDepth 100000
set_option maxHeartbeats 2000000
attribute [local irreducible] AWP Arith BitS BytesS CallS CatS DrawS EndS IdxS LookS LoopEnd Meets ModeS NilS NormL NormM QuoS RemS ShlS ShrS SideS SplitS bitI
def didxN (x:Int):List Int→Nat→Int
 | [],_=>-1
 | y::l,k=>if x=y then (k:Int) else didxN x l (k+1)
theorem didxN_ge (x:Int):∀ (l:List Int) (k:Nat),(0≤didxN x l k↔x∈l)
 | [],k=>⟨fun h=>absurd h (by show ¬ (0:Int)≤-1;decide),fun h=>by cases h⟩
 | y::l,k=>by
  rw [didxN]
  split
  ·rename_i h;subst h
   exact ⟨fun _=>List.mem_cons_self,fun _=>Int.natCast_nonneg k⟩
  ·rename_i h
   rw [didxN_ge x l (k+1),List.mem_cons]
   exact ⟨.inr,fun h2=>h2.resolve_left h⟩
theorem nindex_meets:Meets Tryz.prog n_slices_Index_int_int (SpecP (fun ((l,_):List Int×Int)=>l.length≤1000000000) (fun (l,x)=>[.sl 1 (l.map (.int .i64)) none,.int .i64 x]) fun (l,x)=>.int .i64 (didxN x l 0)):=by
 refine meets_f tabOk Tryz.func30 rfl (by decide) ?_
 rintro ⟨l,x⟩ hl
 have hl:l.length≤1000000000:=hl
 refine ⟨Nat.le_refl _,by simp [Tryz.f30],fun E hE=>?_⟩
 refine vcOk _ ?_
 (all_goals refine qgp ?_<;>(repeat' first | exact trivial | intro hc | refine And.intro ?_ ?_)<;>refine Lf.mk ?_)
 refine awp_loop (α:=Nat) (fun k=>k≤l.length∧didxN x l 0=didxN x (l.drop k) k) (fun k=>[(0,.sl 1 (l.map (.int .i64)) none),(1,.int .i64 x),(7,.int .i64 l.length),(8,.int .i64 k)]) (fun _=>[]) (fun k=>l.length - k) (fun _=>by simp [hE]) 0 ⟨Nat.zero_le _,rfl⟩ ?_ ?_
 ·(repeat' (first | (refine VS.mk ?_) | exact trivial | exact rfl | refine And.intro ?_ ?_))
 rintro k ⟨hk,hf⟩
 have hk:k≤l.length:=hk
 refine vcOk _ ?_
 (all_goals refine qgp ?_<;>(repeat' first | exact trivial | intro hc | refine And.intro ?_ ?_)<;>refine Lf.mk ?_)
 ·obtain ⟨y,hy⟩:=at_of_lt (l:=l) (k:=k) (by omega)
  have hkl:k < l.length:=by omega
  have hg:l[k]=y:=by rw [List.getElem?_eq_getElem hkl] at hy;exact Option.some.inj hy
  rw [List.drop_eq_getElem_cons hkl,hg,didxN] at hf
  refine ix_map y (Int.natCast_nonneg _) (by rw [Int.toNat_natCast];exact hy) ?_
  (all_goals refine qgp ?_<;>(repeat' first | exact trivial | intro hc | refine And.intro ?_ ?_)<;>refine Lf.mk ?_)
  ·rw [if_pos hc] at hf
   exact end_p (VS.mk (LeD.of_eq (congrArg (D.int .i64) hf.symm)))
  ·rw [if_neg hc] at hf
   refine loop_end (k+1) ⟨by omega,hf⟩ (by omega) ?_
   (repeat' (first | (refine VS.mk ?_) | exact trivial | exact rfl | refine And.intro ?_ ?_))
 ·rw [List.drop_of_length_le (by omega),didxN] at hf
  exact end_p (VS.mk (LeD.of_eq (congrArg (D.int .i64) hf.symm)))
theorem ncontains_meets:Meets Tryz.prog n_slices_Contains_int_int (SpecP (fun ((l,_):List Int×Int)=>l.length≤1000000000) (fun (l,x)=>[.sl 1 (l.map (.int .i64)) none,.int .i64 x]) fun (l,x)=>.bool (decide (x∈l))):=by
 refine meets_f tabOk Tryz.func15 rfl (by decide) ?_
 rintro ⟨l,x⟩ hl
 refine ⟨Nat.le_refl _,by simp [Tryz.f15],fun E hE=>?_⟩
 refine vcOk _ ?_
 (all_goals refine qgp ?_<;>(repeat' first | exact trivial | intro hc | refine And.intro ?_ ?_)<;>refine Lf.mk ?_)
 refine call_p nindex_meets (l,x) hl (VS.mk (LeL.of_eq rfl)) ?_
 (all_goals refine qgp ?_<;>(repeat' first | exact trivial | intro hc | refine And.intro ?_ ?_)<;>refine Lf.mk ?_)
 refine end_p (VS.mk (LeD.of_eq (congrArg D.bool ?_)))
 exact decide_eq_decide.2 (didxN_ge x l 0)
attribute [local irreducible] decI encV finI getN hexI infoR irows isI ldM lineH putN shapeM signedI toM wrongI
def ledI (b:List UInt8) (k:Nat):List Int:=match isI b (2 * (k:Int)) with
 | some i=>if ldM i=true then [toM i (2 * (k:Int))] else []
 | none=>[]
def ledF (b:List UInt8):Nat→List Int
 | 0=>[]
 | k+1=>ledF b k++ledI b k
def byteT:List UInt8:=[46,98,121,116,101,32]
def dwordT:List UInt8:=[46,119,111,114,100,32]
def itemI (b:List UInt8) (k:Nat):List UInt8:=match isI b (2 * (k:Int)) with
 | some i=>lineH i (2 * (k:Int))++[10]
 | none=>if (b.length:Int) < 2 * (k:Int)+2 then (byteT++Lib.itoa ((b.getD (2 * k) 0).toNat:Int))++[10] else (dwordT++Lib.itoa (getN b (2 * (k:Int)) 2))++[10]
def markI (P:List Int) (k:Nat):List UInt8:=if (2 * (k:Int))∈P then nameH (2 * (k:Int))++[58,10] else []
def textF (b:List UInt8) (P:List Int):Nat→List UInt8
 | 0=>[]
 | k+1=>(textF b P k++markI P k)++itemI b k
def halves (b:List UInt8):Nat:=(b.length+1) / 2
def disT (b:List UInt8):List UInt8:=textF b (ledF b (halves b)) (halves b)
attribute [local irreducible] ledI itemI markI
theorem isI_in {b:List UInt8} {at_:Int} {i:Ins} (h:isI b at_=some i):LineIn0 i:=by
 unfold isI at h
 split at h
 ·cases h
 ·rename_i hn
  cases h
  refine wr_in (turn2 ?_).2.2.1
  by_cases h0:(decI (getN b at_ 2)).2=0
  ·exact h0
  ·exact absurd (.inr (.inl h0)) hn
theorem led_len (b:List UInt8):∀ k,(ledF b k).length≤k
 | 0=>Nat.le_refl _
 | k+1=>by
  have h:=led_len b k
  rw [ledF,List.length_append]
  have:(ledI b k).length≤1:=by
   unfold ledI
   split
   ·split
    ·exact Nat.le_refl _
    ·exact Nat.zero_le _
   ·exact Nat.zero_le _
  omega
theorem box_cl (b:List UInt8):∀ x∈[Ob.cells [bytesD b]],ClO 1 x:=fun x hx=>by rw [List.mem_singleton.1 hx];exact .cells (.cons .sl .nil)
theorem fn_cl {n f:Nat} (h:0 < n):ClD n (.fn f [.loc 0 0]):=ClD.of fun m hm=>by
 show renLoc m 0 0 (fun d=>D.fn f [d]= .fn f [.loc 0 0])
 unfold renLoc
 simp [hm 0 h]
theorem isD_cl (b:List UInt8) (at_:Int):ClD 1 (isD b at_):=.tup (.cons (.agg (.cons .int (.cons .int (.cons .int (.cons .int .nil))))) (.cons .bool .nil))
def adrF:Bool→D
 | true=>.loc 3 0
 | false=>.tnil 3 52 2
def frO (b:List UInt8) (n:Nat) (u:Bool) (bs:List UInt8):List Ob:=[.cells [bytesD b],.spare n,.arr 1 (bs.map fun c=>.int .u8 (c.toNat:Int)),.cells [adrF u,.tosl 5 2 bs.length]]
theorem renS_pure {m:Nat→Option Nat} {ds:List D} {K:List D→Prop} (h:∀ d∈ds,ClD 0 d∧ClL 0 d.cells) (hK:K ds):RenS m ds K:=by
 unfold RenS
 refine ⟨ds,⟨rfl,fun i d d' h1 h2=>?_⟩,fun i d d' h1 h2=>?_,hK⟩
 ·rw [h1] at h2;cases h2;exact (h d (List.mem_of_getElem? h1)).1 m fun k hk=>absurd hk (Nat.not_lt_zero k)
 ·rw [h1] at h2;cases h2
  exact ⟨rfl,(h d (List.mem_of_getElem? h1)).2.ren fun k hk=>absurd hk (Nat.not_lt_zero k)⟩
theorem byte_flat (l:List UInt8):∀ d∈l.map (fun c=>D.int .u8 (c.toNat:Int)),ClD 0 d∧ClL 0 d.cells:=fun d hd=>by
 obtain ⟨c,_,rfl⟩:=List.mem_map.1 hd
 exact ⟨.int,.cons .int .nil⟩
theorem call_ws {b bs s:List UInt8} {n:Nat} {u:Bool} {av:List D} {L:List Ob} {KP:D→Prop} {KW:D→List Ob→Prop} (X:List Ob) (hL:L=frO b n u bs++X) (ha:av=[.loc 3 0,.str s]) (hb:bs.length+s.length≤4294967296)
  (hK:KW (.tup [.int .i64 s.length,.nilif]) (frO b n true (bs++s)++X)):CallS Tryz.prog n_strings_Builder_WriteString av L KP KW:=by
 subst hL
 subst ha
 refine call_f ws_meets [3,2] [3,2] (u,bs,s) hb rfl ?_ ?_
 ·show prefB [3,2] [3,2] _=true
  rfl
 cases u
 all_goals
  refine VS.mk (renS_pure (byte_flat bs) ?_)
  refine And.intro (VS.mk (LeL.refl _)) (And.intro (VS.mk rfl) ?_)
  refine VS.mk (renS_pure (byte_flat (bs++s)) ?_)
  show KW (.tup [.int .i64 s.length,.nilif]) ((frO b n true (bs++s)++X)++[])
  rw [List.append_nil]
  exact hK
theorem dname_len (n:Int):(nameH n).length≤18:=by
 unfold nameH
 have:=hexI_len n
 rw [List.length_cons]
 omega
theorem getN_le (b:List UInt8) (at_:Int):getN b at_ 2≤65535:=by
 have h0:=byteAt_bd b (at_+((0:Nat):Int))
 have h1:=byteAt_bd b (at_+((1:Nat):Int))
 unfold getN
 unfold getN
 unfold getN
 omega
theorem line_len {i:Ins} {at_:Int} (h:LineIn0 i):(lineH i at_).length≤200:=by
 obtain ⟨r,hr⟩:=h.op
 have hn:=h.n
 have hm:=h.m
 have hi:=h.imm
 have h1:=dfill_len (i:=i) (td:=toM i at_) (Lib.itoa_length_le i.n (by omega) (by omega)) (Lib.itoa_length_le i.m (by omega) (by omega)) (Lib.itoa_length_le i.imm (by omega) (by omega)) (formI r.shape)
 have h2:=form_len r.shape
 have h3:=(irow_ok hr).2.2
 unfold lineH
 rw [hr]
 dsimp only
 rw [List.length_append]
 omega
theorem text_len (b:List UInt8) (P:List Int):∀ k,(textF b P k).length≤300 * k
 | 0=>Nat.le_refl _
 | k+1=>by
  have h:=text_len b P k
  have h1:(markI P k).length≤20:=by
   unfold markI
   split
   ·rw [List.length_append];have:=dname_len (2 * (k:Int));show _+2≤20;omega
   ·exact Nat.zero_le _
  have h2:(itemI b k).length≤201:=by
   unfold itemI
   split
   ·rename_i i hi
    rw [List.length_append]
    have:=line_len (at_:=2 * (k:Int)) (isI_in hi)
    show _+1≤201
    omega
   split
   ·have hbt:=(b.getD (2 * k) 0).toNat_lt
    have:=Lib.itoa_length_le ((b.getD (2 * k) 0).toNat:Int) (by omega) (by omega)
    rw [List.length_append,List.length_append]
    show 6+_+1≤201
    omega
   ·have hg0:=getN_nn b (2 * (k:Int)) 2
    have hg1:=getN_le b (2 * (k:Int))
    have:=Lib.itoa_length_le (getN b (2 * (k:Int)) 2) (by omega) (by omega)
    rw [List.length_append,List.length_append]
    show 6+_+1≤201
    omega
  rw [textF,List.length_append,List.length_append]
  omega
theorem frO_cl (b:List UInt8) (n:Nat) (u:Bool) (bs:List UInt8):∀ x∈frO b n u bs,ClO 4 x:=fun x hx=>by
 simp only [frO,List.mem_cons,List.not_mem_nil,or_false] at hx
 rcases hx with rfl | rfl | rfl | rfl
 ·exact .cells (.cons .sl .nil)
 ·exact .spare
 ·exact .arr (byte_cl bs)
 ·refine .cells (.cons ?_ (.cons (cl_tosl (by decide)) .nil))
  cases u
  ·exact cl_tnil (by decide)
  ·exact .loc (by decide)
theorem dtext_meets:Meets Tryz.prog n_dis_Text (SpecP (fun b:List UInt8=>b.length≤1048576) (fun b=>[bytesD b]) fun b=>.str (disT b)):=by
 refine meets_f tabOk Tryz.func5 rfl (by decide) ?_
 rintro b hb
 have hb:b.length≤1048576:=hb
 refine ⟨Nat.le_refl _,by simp [Tryz.f5],fun E hE=>?_⟩
 have hE0:E.L.length=0:=by rw [hE];rfl
 have hhv:2 * halves b=b.length∨2 * halves b=b.length+1:=by unfold halves;omega
 refine vcOk _ ?_
 (all_goals refine qgp ?_<;>(repeat' first | exact trivial | intro hc | refine And.intro ?_ ?_)<;>refine Lf.mk ?_)
 refine awp_weak (weak_nil 3 1 rfl) ?_
 refine awp_loopW (α:=Nat) (fun k=>k≤halves b) (fun k=>[(1,.loc 0 0),(3,.sl 1 ((ledF b k).map (.int .i64)) (some 1)),(4,.fn n_dis_Text_1 [.loc 0 0]),(5,.int .i64 (2 * (k:Int)))]) (fun k=>[.cells [bytesD b],.spare (ledF b k).length]) (fun k=>halves b - k) (fun _=>by rw [hE0];exact Nat.zero_le _) 0 (Nat.zero_le _) ?_ ?_
 ·exact weak_same rfl ⟨rfl,rfl,rfl,rfl,trivial⟩
 ·intro k hk
  have hk:k≤halves b:=hk
  have hln:=led_len b k
  refine vcOk _ ?_
  (all_goals refine qgp ?_<;>(repeat' first | exact trivial | intro hc | refine And.intro ?_ ?_)<;>refine Lf.mk ?_)
  ·refine call_pre is_meets [.cells [bytesD b]] [.spare _] [.cells [bytesD b]] (d:=isD b (2 * (k:Int))) rfl ⟨(b,2 * (k:Int)),⟨by show 0≤2 * (k:Int);omega,by show 2 * (k:Int)≤_;omega,by show b.length≤_;omega⟩,LeL.refl _,rfl,rfl,rfl⟩ rfl (.cons .int (.cons (.loc (by show 0 < 1;decide)) .nil)) (isD_cl _ _) (box_cl b) (box_cl b) ?_
   have hled:ledI b k=match isI b (2 * (k:Int)) with
    | some i=>if ldM i=true then [toM i (2 * (k:Int))] else []
    | none=>[]:=by unfold ledI;rfl
   unfold isD insD
   have fin:∀ {σ:List (Nat×D)} {L:List Ob} (X:List Ob),L=[.cells [bytesD b],.spare (ledF b (k+1)).length]++X→Plat.look σ 1=D.loc 0 0→Plat.look σ 3= .sl 1 ((ledF b (k+1)).map (.int .i64)) (some 1)→Plat.look σ 4= .fn n_dis_Text_1 [.loc 0 0]→Plat.look σ 5= .int .i64 (2 * (k:Int)+2) →
     LoopEnd E.L.length (fun k=>k≤halves b) (fun k=>[(1,.loc 0 0),(3,.sl 1 ((ledF b k).map (.int .i64)) (some 1)),(4,.fn n_dis_Text_1 [.loc 0 0]),(5,.int .i64 (2 * (k:Int)))]) (fun k=>[.cells [bytesD b],.spare (ledF b k).length]) (fun k=>halves b - k) k σ L:=fun {σ L} X hL a1 a2 a3 a4=>
    loop_pre (k+1) X (by show k+1≤_;omega) (by omega) hL (by rw [hE0];exact Nat.zero_le _) (fun o ho=>by
     simp only [List.mem_cons,List.not_mem_nil,or_false] at ho
     rcases ho with rfl | rfl
     ·exact .cells (.cons .sl .nil)
     ·exact .spare) ⟨a1,a2,a3,a4.trans (congrArg (D.int .i64) (by omega)),trivial⟩ (.cons (.loc (by show 0 < 2;decide)) (.cons (.tok (by show 1 < 2;decide)) (.cons (fn_cl (by show 0 < 2;decide)) (.cons .int .nil))))
   cases hi:isI b (2 * (k:Int)) with
   | none=>
    rw [hi] at hled
    have hk1:ledF b (k+1)=ledF b k:=by rw [ledF,hled,List.append_nil]
    rw [hk1] at fin
    (all_goals refine qgp ?_<;>(repeat' first | exact trivial | intro hc | refine And.intro ?_ ?_)<;>refine Lf.mk ?_)
    (any_goals (first | (exfalso;refine Bool.false_ne_true ?_;assumption) | (exfalso;refine Bool.false_ne_true (Eq.symm ?_);assumption) | (exfalso;refine absurd trivial ?_;assumption) | skip))
    exact fin [_] rfl rfl rfl rfl rfl
   | some i=>
    rw [hi] at hled
    have hin:=isI_in hi
    have himm:=hin.imm
    (all_goals refine qgp ?_<;>(repeat' first | exact trivial | intro hc | refine And.intro ?_ ?_)<;>refine Lf.mk ?_)
    (any_goals (first | (exfalso;refine Bool.false_ne_true ?_;assumption) | (exfalso;refine Bool.false_ne_true (Eq.symm ?_);assumption) | (exfalso;refine absurd trivial ?_;assumption) | skip))
    refine call_p to_meets (i,2 * (k:Int)) ⟨himm.1,himm.2,by show _≤2 * (k:Int);omega,by show 2 * (k:Int)≤_;omega⟩ (VS.mk (LeL.of_eq rfl)) ?_
    dsimp only at hled ⊢
    generalize toM i (2 * (k:Int))=td at *
    cases hl:ldM i with
    | false=>
     rw [hl,if_neg (by decide)] at hled
     have hk1:ledF b (k+1)=ledF b k:=by rw [ledF,hled,List.append_nil]
     rw [hk1] at fin
     (all_goals refine qgp ?_<;>(repeat' first | exact trivial | intro hc | refine And.intro ?_ ?_)<;>refine Lf.mk ?_)
     (any_goals (first | (exfalso;refine Bool.false_ne_true ?_;assumption) | (exfalso;refine Bool.false_ne_true (Eq.symm ?_);assumption) | (exfalso;refine absurd trivial ?_;assumption) | skip))
     exact fin [_] rfl rfl rfl rfl rfl
    | true=>
     rw [hl,if_pos rfl] at hled
     have hk1:ledF b (k+1)=ledF b k++[td]:=by rw [ledF,hled]
     rw [hk1,List.map_append,List.length_append] at fin
     (all_goals refine qgp ?_<;>(repeat' first | exact trivial | intro hc | refine And.intro ?_ ?_)<;>refine Lf.mk ?_)
     (any_goals (first | (exfalso;refine Bool.false_ne_true ?_;assumption) | (exfalso;refine Bool.false_ne_true (Eq.symm ?_);assumption) | (exfalso;refine absurd trivial ?_;assumption) | skip))
     exact fin [_] (by simp only [List.length_append,List.length_map];rfl) rfl rfl rfl rfl
  ·have hkh:k=halves b:=by omega
   subst hkh
   refine awp_loopW (α:=Nat×Bool) (fun (k,_)=>k≤halves b) (fun (k,_)=>[(1,.loc 0 0),(3,.sl 1 ((ledF b (halves b)).map (.int .i64)) (some 1)),(4,.fn n_dis_Text_1 [.loc 0 0]),(10,.loc 3 0),(11,.int .i64 (2 * (k:Int)))]) (fun (k,u)=>frO b (ledF b (halves b)).length u (textF b (ledF b (halves b)) k)) (fun (k,_)=>halves b - k) (fun _=>by rw [hE0];exact Nat.zero_le _) (0,false) (Nat.zero_le _) ?_ ?_
   ·exact weak_same rfl ⟨rfl,rfl,rfl,rfl,rfl,trivial⟩
   rintro ⟨k,u⟩ hk
   have hk:k≤halves b:=hk
   dsimp only
   have hP:=led_len b (halves b)
   have htl:=text_len b (ledF b (halves b)) k
   have hmk:markI (ledF b (halves b)) k=if (2 * (k:Int))∈ledF b (halves b) then nameH (2 * (k:Int))++[58,10] else []:=by unfold markI;rfl
   generalize hPd:ledF b (halves b)=P at *
   generalize htx:textF b P k=T at *
   have hit:itemI b k=match isI b (2 * (k:Int)) with
    | some i=>lineH i (2 * (k:Int))++[10]
    | none=>if (b.length:Int) < 2 * (k:Int)+2 then (byteT++Lib.itoa ((b.getD (2 * k) 0).toNat:Int))++[10] else (dwordT++Lib.itoa (getN b (2 * (k:Int)) 2))++[10]:=by unfold itemI;rfl
   have hkk:2 * (k:Int) < b.length→k+1≤halves b:=fun h=>by omega
   have fin:∀ {σ:List (Nat×D)} {L:List Ob} (T' z:List UInt8) (X:List Ob),(T++markI P k)++itemI b k=T'++z→L=frO b P.length true (T'++z)++X→Plat.look σ 1=D.loc 0 0→Plat.look σ 3= .sl 1 (P.map (.int .i64)) (some 1)→Plat.look σ 4= .fn n_dis_Text_1 [.loc 0 0]→Plat.look σ 10= .loc 3 0→Plat.look σ 11= .int .i64 (2 * (k:Int)+2)→k+1≤halves b →
     LoopEnd E.L.length (fun p:Nat×Bool=>p.1≤halves b) (fun p=>[(1,.loc 0 0),(3,.sl 1 (P.map (.int .i64)) (some 1)),(4,.fn n_dis_Text_1 [.loc 0 0]),(10,.loc 3 0),(11,.int .i64 (2 * (p.1:Int)))]) (fun p=>frO b P.length p.2 (textF b P p.1)) (fun p=>halves b - p.1) (k,u) σ L:=fun {σ L} T' z X hz hL a1 a2 a3 a4 a5 hk1=>by
    have hL2:L=frO b P.length true (textF b P (k+1))++X:=by rw [hL,textF,htx,hz]
    exact loop_pre (k+1,true) X hk1 (by show halves b - (k+1) < halves b - k;omega) hL2 (by rw [hE0];exact Nat.zero_le _) (frO_cl _ _ _ _) ⟨a1,a2,a3,a4,a5.trans (congrArg (D.int .i64) (by show 2 * (k:Int)+2=2 * ((k+1:Nat):Int);omega)),trivial⟩ (.cons (.loc (by show 0 < 4;decide)) (.cons (.tok (by show 1 < 4;decide)) (.cons (fn_cl (by show 0 < 4;decide)) (.cons (.loc (by show 3 < 4;decide)) (.cons .int .nil)))))
   unfold frO
   refine vcOk _ ?_
   (all_goals refine qgp ?_<;>(repeat' first | exact trivial | intro hc | refine And.intro ?_ ?_)<;>refine Lf.mk ?_)
   ·refine call_p ncontains_meets (P,2 * (k:Int)) (by show P.length≤_;omega) (VS.mk (LeL.of_eq rfl)) ?_
    dsimp only
    by_cases hm:(2 * (k:Int))∈P
    ·rw [decide_eq_true hm]
     rw [if_pos hm] at hmk
     (all_goals refine qgp ?_<;>(repeat' first | exact trivial | intro hc | refine And.intro ?_ ?_)<;>refine Lf.mk ?_)
     (any_goals (first | (exfalso;refine Bool.false_ne_true ?_;assumption) | (exfalso;refine Bool.false_ne_true (Eq.symm ?_);assumption) | (exfalso;refine absurd trivial ?_;assumption) | skip))
     refine call_p dname_meets (2 * (k:Int)) ⟨by omega,by omega⟩ (VS.mk (LeL.of_eq rfl)) ?_
     (all_goals refine qgp ?_<;>(repeat' first | exact trivial | intro hc | refine And.intro ?_ ?_)<;>refine Lf.mk ?_)
     refine cat_gen 18 2 (dname_len _) (by decide) (by decide) fun y1 e1 l1=>?_
     (all_goals refine qgp ?_<;>(repeat' first | exact trivial | intro hc | refine And.intro ?_ ?_)<;>refine Lf.mk ?_)
     refine call_ws (b:=b) (n:=P.length) (u:=u) (bs:=T) (s:=y1) [] rfl rfl (by omega) ?_
     subst e1
     have hTl:(T++(nameH (2 * (k:Int))++[58,10])).length≤T.length+20:=by
      have h20:(nameH (2 * (k:Int))++[58,10]).length≤18+2:=l1
      rw [List.length_append]
      omega
     (all_goals refine qgp ?_<;>(repeat' first | exact trivial | intro hc | refine And.intro ?_ ?_)<;>refine Lf.mk ?_)
     refine call_pre is_meets [.cells [bytesD b]] [.spare P.length,.arr 1 ((T++(nameH (2 * (k:Int))++[58,10])).map fun c:UInt8=>.int .u8 (c.toNat:Int)),.cells [adrF true,.tosl 5 2 (T++(nameH (2 * (k:Int))++[58,10])).length]] [.cells [bytesD b]] (d:=isD b (2 * (k:Int))) rfl ⟨(b,2 * (k:Int)),⟨by show 0≤2 * (k:Int);omega,by show 2 * (k:Int)≤_;omega,by show b.length≤_;omega⟩,LeL.refl _,rfl,rfl,rfl⟩ rfl (.cons .int (.cons (.loc (by show 0 < 1;decide)) .nil)) (isD_cl _ _) (box_cl b) (box_cl b) ?_
     unfold isD insD
     cases hi:isI b (2 * (k:Int)) with
     | none=>
      rw [hi] at hit
      dsimp only at hit
      (all_goals refine qgp ?_<;>(repeat' first | exact trivial | intro hc | refine And.intro ?_ ?_)<;>refine Lf.mk ?_)
      (any_goals (first | (exfalso;refine Bool.false_ne_true ?_;assumption) | (exfalso;refine Bool.false_ne_true (Eq.symm ?_);assumption) | (exfalso;refine absurd trivial ?_;assumption) | skip))
      ·rename_i hlt
       rw [if_pos (by omega),show (2 * k:Nat)=(2 * (k:Int)).toNat by omega] at hit
       have hbt:=(b.getD (2 * (k:Int)).toNat 0).toNat_lt
       generalize b.getD (2 * (k:Int)).toNat 0=c at *
       refine call_p itoa_meets (c.toNat:Int) ⟨by omega,by omega⟩ (VS.mk (LeL.of_eq rfl)) ?_
       have lg:=Lib.itoa_length_le (c.toNat:Int) (by omega) (by omega)
       (all_goals refine qgp ?_<;>(repeat' first | exact trivial | intro hc | refine And.intro ?_ ?_)<;>refine Lf.mk ?_)
       refine cat_gen 6 21 (by decide) lg (by decide) fun z1 d1 m1=>?_
       (all_goals refine qgp ?_<;>(repeat' first | exact trivial | intro hc | refine And.intro ?_ ?_)<;>refine Lf.mk ?_)
       refine cat_gen 27 1 m1 (by decide) (by decide) fun z2 d2 m2=>?_
       (all_goals refine qgp ?_<;>(repeat' first | exact trivial | intro hc | refine And.intro ?_ ?_)<;>refine Lf.mk ?_)
       refine call_ws (b:=b) (n:=P.length) (u:=true) (bs:=T++(nameH (2 * (k:Int))++[58,10])) (s:=z2) [_] rfl rfl (by omega) ?_
       (all_goals refine qgp ?_<;>(repeat' first | exact trivial | intro hc | refine And.intro ?_ ?_)<;>refine Lf.mk ?_)
       exact fin (T++(nameH (2 * (k:Int))++[58,10])) z2 [_] (by rw [hmk,hit,d2,d1];try (first | rfl | simp [byteT])) rfl rfl rfl rfl rfl rfl (by omega)
      ·rename_i hlt
       rw [if_neg (by omega)] at hit
       refine call_p get_meets (b,2 * (k:Int),2) ⟨by show _≤2 * (k:Int);omega,by show 2 * (k:Int)≤_;omega,by show 2≤4;decide⟩ (VS.mk (LeL.of_eq rfl)) ?_
       dsimp only
       have hg0:=getN_nn b (2 * (k:Int)) 2
       have hg1:=getN_le b (2 * (k:Int))
       (all_goals refine qgp ?_<;>(repeat' first | exact trivial | intro hc | refine And.intro ?_ ?_)<;>refine Lf.mk ?_)
       refine call_p itoa_meets (getN b (2 * (k:Int)) 2) ⟨by omega,by omega⟩ (VS.mk (LeL.of_eq rfl)) ?_
       have lg:=Lib.itoa_length_le (getN b (2 * (k:Int)) 2) (by omega) (by omega)
       (all_goals refine qgp ?_<;>(repeat' first | exact trivial | intro hc | refine And.intro ?_ ?_)<;>refine Lf.mk ?_)
       refine cat_gen 6 21 (by decide) lg (by decide) fun z1 d1 m1=>?_
       (all_goals refine qgp ?_<;>(repeat' first | exact trivial | intro hc | refine And.intro ?_ ?_)<;>refine Lf.mk ?_)
       refine cat_gen 27 1 m1 (by decide) (by decide) fun z2 d2 m2=>?_
       (all_goals refine qgp ?_<;>(repeat' first | exact trivial | intro hc | refine And.intro ?_ ?_)<;>refine Lf.mk ?_)
       refine call_ws (b:=b) (n:=P.length) (u:=true) (bs:=T++(nameH (2 * (k:Int))++[58,10])) (s:=z2) [_] rfl rfl (by omega) ?_
       (all_goals refine qgp ?_<;>(repeat' first | exact trivial | intro hc | refine And.intro ?_ ?_)<;>refine Lf.mk ?_)
       exact fin (T++(nameH (2 * (k:Int))++[58,10])) z2 [_] (by rw [hmk,hit,d2,d1];try (first | rfl | simp [dwordT])) rfl rfl rfl rfl rfl rfl (by omega)
     | some i=>
      rw [hi] at hit
      dsimp only at hit
      have hin:=(isI_in hi).at (at_:=2 * (k:Int)) (by omega) (by omega)
      have hll:=line_len (at_:=2 * (k:Int)) (isI_in hi)
      (all_goals refine qgp ?_<;>(repeat' first | exact trivial | intro hc | refine And.intro ?_ ?_)<;>refine Lf.mk ?_)
      (any_goals (first | (exfalso;refine Bool.false_ne_true ?_;assumption) | (exfalso;refine Bool.false_ne_true (Eq.symm ?_);assumption) | (exfalso;refine absurd trivial ?_;assumption) | skip))
      refine call_p dline_meets (i,2 * (k:Int)) hin (VS.mk (LeL.of_eq rfl)) ?_
      dsimp only
      (all_goals refine qgp ?_<;>(repeat' first | exact trivial | intro hc | refine And.intro ?_ ?_)<;>refine Lf.mk ?_)
      refine cat_gen 200 1 hll (by decide) (by decide) fun z1 d1 m1=>?_
      (all_goals refine qgp ?_<;>(repeat' first | exact trivial | intro hc | refine And.intro ?_ ?_)<;>refine Lf.mk ?_)
      refine call_ws (b:=b) (n:=P.length) (u:=true) (bs:=T++(nameH (2 * (k:Int))++[58,10])) (s:=z1) [_] rfl rfl (by omega) ?_
      (all_goals refine qgp ?_<;>(repeat' first | exact trivial | intro hc | refine And.intro ?_ ?_)<;>refine Lf.mk ?_)
      exact fin (T++(nameH (2 * (k:Int))++[58,10])) z1 [_] (by rw [hmk,hit,d1];try (first | rfl | simp)) rfl rfl rfl rfl rfl rfl (by omega)
    ·rw [decide_eq_false hm]
     rw [if_neg hm] at hmk
     (all_goals refine qgp ?_<;>(repeat' first | exact trivial | intro hc | refine And.intro ?_ ?_)<;>refine Lf.mk ?_)
     (any_goals (first | (exfalso;refine Bool.false_ne_true ?_;assumption) | (exfalso;refine Bool.false_ne_true (Eq.symm ?_);assumption) | (exfalso;refine absurd trivial ?_;assumption) | skip))
     refine call_pre is_meets [.cells [bytesD b]] [.spare P.length,.arr 1 ((T).map fun c:UInt8=>.int .u8 (c.toNat:Int)),.cells [adrF u,.tosl 5 2 (T).length]] [.cells [bytesD b]] (d:=isD b (2 * (k:Int))) rfl ⟨(b,2 * (k:Int)),⟨by show 0≤2 * (k:Int);omega,by show 2 * (k:Int)≤_;omega,by show b.length≤_;omega⟩,LeL.refl _,rfl,rfl,rfl⟩ rfl (.cons .int (.cons (.loc (by show 0 < 1;decide)) .nil)) (isD_cl _ _) (box_cl b) (box_cl b) ?_
     unfold isD insD
     cases hi:isI b (2 * (k:Int)) with
     | none=>
      rw [hi] at hit
      dsimp only at hit
      (all_goals refine qgp ?_<;>(repeat' first | exact trivial | intro hc | refine And.intro ?_ ?_)<;>refine Lf.mk ?_)
      (any_goals (first | (exfalso;refine Bool.false_ne_true ?_;assumption) | (exfalso;refine Bool.false_ne_true (Eq.symm ?_);assumption) | (exfalso;refine absurd trivial ?_;assumption) | skip))
      ·rename_i hlt
       rw [if_pos (by omega),show (2 * k:Nat)=(2 * (k:Int)).toNat by omega] at hit
       have hbt:=(b.getD (2 * (k:Int)).toNat 0).toNat_lt
       generalize b.getD (2 * (k:Int)).toNat 0=c at *
       refine call_p itoa_meets (c.toNat:Int) ⟨by omega,by omega⟩ (VS.mk (LeL.of_eq rfl)) ?_
       have lg:=Lib.itoa_length_le (c.toNat:Int) (by omega) (by omega)
       (all_goals refine qgp ?_<;>(repeat' first | exact trivial | intro hc | refine And.intro ?_ ?_)<;>refine Lf.mk ?_)
       refine cat_gen 6 21 (by decide) lg (by decide) fun z1 d1 m1=>?_
       (all_goals refine qgp ?_<;>(repeat' first | exact trivial | intro hc | refine And.intro ?_ ?_)<;>refine Lf.mk ?_)
       refine cat_gen 27 1 m1 (by decide) (by decide) fun z2 d2 m2=>?_
       (all_goals refine qgp ?_<;>(repeat' first | exact trivial | intro hc | refine And.intro ?_ ?_)<;>refine Lf.mk ?_)
       refine call_ws (b:=b) (n:=P.length) (u:=u) (bs:=T) (s:=z2) [_] rfl rfl (by omega) ?_
       (all_goals refine qgp ?_<;>(repeat' first | exact trivial | intro hc | refine And.intro ?_ ?_)<;>refine Lf.mk ?_)
       exact fin (T) z2 [_] (by rw [hmk,hit,d2,d1];try (first | rfl | simp [byteT])) rfl rfl rfl rfl rfl rfl (by omega)
      ·rename_i hlt
       rw [if_neg (by omega)] at hit
       refine call_p get_meets (b,2 * (k:Int),2) ⟨by show _≤2 * (k:Int);omega,by show 2 * (k:Int)≤_;omega,by show 2≤4;decide⟩ (VS.mk (LeL.of_eq rfl)) ?_
       dsimp only
       have hg0:=getN_nn b (2 * (k:Int)) 2
       have hg1:=getN_le b (2 * (k:Int))
       (all_goals refine qgp ?_<;>(repeat' first | exact trivial | intro hc | refine And.intro ?_ ?_)<;>refine Lf.mk ?_)
       refine call_p itoa_meets (getN b (2 * (k:Int)) 2) ⟨by omega,by omega⟩ (VS.mk (LeL.of_eq rfl)) ?_
       have lg:=Lib.itoa_length_le (getN b (2 * (k:Int)) 2) (by omega) (by omega)
       (all_goals refine qgp ?_<;>(repeat' first | exact trivial | intro hc | refine And.intro ?_ ?_)<;>refine Lf.mk ?_)
       refine cat_gen 6 21 (by decide) lg (by decide) fun z1 d1 m1=>?_
       (all_goals refine qgp ?_<;>(repeat' first | exact trivial | intro hc | refine And.intro ?_ ?_)<;>refine Lf.mk ?_)
       refine cat_gen 27 1 m1 (by decide) (by decide) fun z2 d2 m2=>?_
       (all_goals refine qgp ?_<;>(repeat' first | exact trivial | intro hc | refine And.intro ?_ ?_)<;>refine Lf.mk ?_)
       refine call_ws (b:=b) (n:=P.length) (u:=u) (bs:=T) (s:=z2) [_] rfl rfl (by omega) ?_
       (all_goals refine qgp ?_<;>(repeat' first | exact trivial | intro hc | refine And.intro ?_ ?_)<;>refine Lf.mk ?_)
       exact fin (T) z2 [_] (by rw [hmk,hit,d2,d1];try (first | rfl | simp [dwordT])) rfl rfl rfl rfl rfl rfl (by omega)
     | some i=>
      rw [hi] at hit
      dsimp only at hit
      have hin:=(isI_in hi).at (at_:=2 * (k:Int)) (by omega) (by omega)
      have hll:=line_len (at_:=2 * (k:Int)) (isI_in hi)
      (all_goals refine qgp ?_<;>(repeat' first | exact trivial | intro hc | refine And.intro ?_ ?_)<;>refine Lf.mk ?_)
      (any_goals (first | (exfalso;refine Bool.false_ne_true ?_;assumption) | (exfalso;refine Bool.false_ne_true (Eq.symm ?_);assumption) | (exfalso;refine absurd trivial ?_;assumption) | skip))
      refine call_p dline_meets (i,2 * (k:Int)) hin (VS.mk (LeL.of_eq rfl)) ?_
      dsimp only
      (all_goals refine qgp ?_<;>(repeat' first | exact trivial | intro hc | refine And.intro ?_ ?_)<;>refine Lf.mk ?_)
      refine cat_gen 200 1 hll (by decide) (by decide) fun z1 d1 m1=>?_
      (all_goals refine qgp ?_<;>(repeat' first | exact trivial | intro hc | refine And.intro ?_ ?_)<;>refine Lf.mk ?_)
      refine call_ws (b:=b) (n:=P.length) (u:=u) (bs:=T) (s:=z1) [_] rfl rfl (by omega) ?_
      (all_goals refine qgp ?_<;>(repeat' first | exact trivial | intro hc | refine And.intro ?_ ?_)<;>refine Lf.mk ?_)
      exact fin (T) z1 [_] (by rw [hmk,hit,d1];try (first | rfl | simp)) rfl rfl rfl rfl rfl rfl (by omega)
   ·have hkh:k=halves b:=by omega
    refine call_f st_meets [3,2] [3,2] (u,T) (by show T.length≤_;omega) rfl rfl ?_
    cases u
    all_goals
     refine VS.mk (renS_pure (byte_flat T) ?_)
     refine And.intro (VS.mk (LeL.refl _)) (And.intro (VS.mk rfl) ?_)
     (all_goals refine qgp ?_<;>(repeat' first | exact trivial | intro hc | refine And.intro ?_ ?_)<;>refine Lf.mk ?_)
     refine end_p (VS.mk (LeD.of_eq (congrArg D.str ?_)))
     unfold disT
     rw [hPd,← hkh,htx]
end Go.Proofs.YtfahnaccpncdpaaGreatDoor
