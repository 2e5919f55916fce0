/-
  A part of the proof: what the given program's functions answer, each once; conditions that are enough for it.
-/
import Derived.Test.YtnkdeacghopkiaaGreatDoorProg
import Derived.KernelRfl
import Derived.Test.YtnkdeacghopkiaaGreatDoorFw3
import Derived.Lib.LaidTab
import Derived.Sort.Grow
import Derived.Deep.Draws
import Derived.Below
import Derived.Shelf.Utf8.RuneCount
import Derived.Shelf.Strconv.Itoa0
import Derived.Shelf.Strconv.Itoa1
import Derived.Shelf.LaysM
import Derived.Shelf.Strconv.Itoa2
import Derived.Shelf.Strconv.Itoa3
import Derived.Shelf.Strconv.Clone
import Derived.Shelf.Strconv.SyntaxError
import Derived.Shelf.Strconv.Lower
import Derived.Shelf.Strconv.ParseUint10
import Derived.Shelf.Strconv.ParseUint10Empty
import Derived.Shelf.Strconv.RangeError
import Derived.Shelf.Strconv.ParseUintEmpty
import Derived.Shelf.Strconv.ParseUint10b64
import Derived.Shelf.Strings.Search1
import Derived.Shelf.Strings.Search2
import Derived.Shelf.Strings.Search3
import Derived.Shelf.Strings.Cut
import Derived.Shelf.Strings.Count
import Derived.Shelf.Strings.Shaped
import Derived.Shelf.Unicode.DecodeSlow
namespace Go.Proofs.YtnkdeacghopkiaaGreatDoor
open Go Go.Plat
set_option maxRecDepth 100000
theorem xj.of {P:Program} {t:Nat} {i:TI} (h1:(P.underlying t).map jl=some i.d) (h2:(P.info? t).map (fun x=>(x.size,x.bytes,x.zero))=some (i.size,i.bytes,some i.zero)) (h3:Nat.beq i.size 0=false) (h3b:Nat.beq i.bytes 0=false) (h4:Nat.beq i.zero.cells.size i.size=true)
  (h5:(match P.underlying t with | some (.struct fs)=>fs.toList.all fun f=>(P.info? f.type).isSome | _=>true)=true):xj P t i where
 under:=by
  cases h:P.underlying t with
  | none=>rw [h] at h1;cases h1
  | some d=>rw [h] at h1;exact ⟨d,rfl,by simpa using h1⟩
 info:=by
  cases h:P.info? t with
  | none=>rw [h] at h2;cases h2
  | some x=>rw [h] at h2;simp at h2;exact ⟨x,rfl,h2.1,h2.2.1,h2.2.2⟩
 pos:=by intro h;rw [h] at h3;simp at h3
 bpos:=by intro h;rw [h] at h3b;simp at h3b
 szero:=Nat.eq_of_beq_eq_true h4
 fin:=h5
theorem ye.of {P:Program}:∀ {l:Tab},l.map (fun p=>((P.underlying p.1).map jl,(P.info? p.1).map fun x=>(x.size,x.bytes,x.zero)))=l.map (fun p=>(some p.2.d,some (p.2.size,p.2.bytes,some p.2.zero))) →
  l.all (fun p=>!Nat.beq p.2.size 0 && !Nat.beq p.2.bytes 0 && Nat.beq p.2.zero.cells.size p.2.size && (match P.underlying p.1 with | some (.struct fs)=>fs.toList.all fun f=>(P.info? f.type).isSome | _=>true))=true→ye P l
 | [],_,_=>.nil _
 | (t,i)::l,h,g=>by
  rw [List.map_cons,List.map_cons] at h
  injection h with h1 h2
  rw [Prod.mk.injEq] at h1
  rw [List.all_cons,Bool.and_eq_true] at g
  obtain ⟨g1,g2⟩:=g
  simp only [Bool.and_eq_true,Bool.not_eq_true'] at g1
  obtain ⟨⟨⟨a,b⟩,c⟩,d⟩:=g1
  exact .cons (xj.of h1.1 h1.2 a b c d) (ye.of h2 g2)
def tab:Tab:=[
(3,⟨(.int .i64),1,8,(.int .i64 0)⟩),
(4,⟨.bool,1,1,(.bool false)⟩),
(5,⟨(.int .u8),1,1,(.int .u8 0)⟩),
(9,⟨.str,1,16,(.string ⟨#[]⟩)⟩),
(36,⟨(.slice 5),1,24,(.slice none 0 0)⟩),
(2,⟨(.int .i64),1,8,(.int .i64 0)⟩),
(12,⟨(.int .u64),1,8,(.int .u64 0)⟩),
(20,⟨.iface,1,16,.nilIface⟩),
(21,⟨(.int .i32),1,4,(.int .i32 0)⟩),
(22,⟨(.slice 36),1,24,(.slice none 0 0)⟩),
(24,⟨(.slice 40),1,24,(.slice none 0 0)⟩),
(25,⟨(.slice 4),1,24,(.slice none 0 0)⟩),
(26,⟨(.struct [(0,3),(1,24),(2,25),(3,22)]),4,80,(.agg #[(.int .i64 0),(.slice none 0 0),(.slice none 0 0),(.slice none 0 0)])⟩),
(27,⟨(.struct [(0,3),(1,24),(2,25),(3,22)]),4,80,(.agg #[(.int .i64 0),(.slice none 0 0),(.slice none 0 0),(.slice none 0 0)])⟩),
(28,⟨(.int .i64),1,8,(.int .i64 0)⟩),
(32,⟨(.struct [(0,3),(1,3)]),2,16,(.agg #[(.int .i64 0),(.int .i64 0)])⟩),
(33,⟨(.struct [(0,3),(1,3)]),2,16,(.agg #[(.int .i64 0),(.int .i64 0)])⟩),
(37,⟨(.struct [(0,28),(1,3)]),2,16,(.agg #[(.int .i64 0),(.int .i64 0)])⟩),
(38,⟨(.struct [(0,28),(1,3)]),2,16,(.agg #[(.int .i64 0),(.int .i64 0)])⟩),
(39,⟨(.struct [(0,36),(1,3),(2,3),(3,3),(4,4),(5,36),(6,38)]),8,96,(.agg #[(.slice none 0 0),(.int .i64 0),(.int .i64 0),(.int .i64 0),(.bool false),(.slice none 0 0),(.int .i64 0),(.int .i64 0)])⟩),
(40,⟨(.struct [(0,36),(1,3),(2,3),(3,3),(4,4),(5,36),(6,38)]),8,96,(.agg #[(.slice none 0 0),(.int .i64 0),(.int .i64 0),(.int .i64 0),(.bool false),(.slice none 0 0),(.int .i64 0),(.int .i64 0)])⟩),
(42,⟨(.slice 3),1,24,(.slice none 0 0)⟩),
(47,⟨(.slice 33),1,24,(.slice none 0 0)⟩),
(48,⟨(.slice 28),1,24,(.slice none 0 0)⟩),
(51,⟨(.slice 106),1,24,(.slice none 0 0)⟩),
(52,⟨(.struct [(0,3),(1,36),(2,51)]),3,56,(.agg #[(.int .i64 0),(.slice none 0 0),(.slice none 0 0)])⟩),
(53,⟨(.struct [(0,3),(1,36),(2,51)]),3,56,(.agg #[(.int .i64 0),(.slice none 0 0),(.slice none 0 0)])⟩),
(56,⟨(.arr 16 3),16,128,(.agg #[(.int .i64 0),(.int .i64 0),(.int .i64 0),(.int .i64 0),(.int .i64 0),(.int .i64 0),(.int .i64 0),(.int .i64 0),(.int .i64 0),(.int .i64 0),(.int .i64 0),(.int .i64 0),(.int .i64 0),(.int .i64 0),(.int .i64 0),(.int .i64 0)])⟩),
(57,⟨(.struct [(0,56),(16,4),(17,3),(18,3),(19,53),(22,42),(23,3)]),24,240,(.agg #[(.int .i64 0),(.int .i64 0),(.int .i64 0),(.int .i64 0),(.int .i64 0),(.int .i64 0),(.int .i64 0),(.int .i64 0),(.int .i64 0),(.int .i64 0),(.int .i64 0),(.int .i64 0),(.int .i64 0),(.int .i64 0),(.int .i64 0),(.int .i64 0),(.bool false),(.int .i64 0),(.int .i64 0),(.int .i64 0),(.slice none 0 0),(.slice none 0 0),(.slice none 0 0),(.int .i64 0)])⟩),
(58,⟨(.struct [(0,56),(16,4),(17,3),(18,3),(19,53),(22,42),(23,3)]),24,240,(.agg #[(.int .i64 0),(.int .i64 0),(.int .i64 0),(.int .i64 0),(.int .i64 0),(.int .i64 0),(.int .i64 0),(.int .i64 0),(.int .i64 0),(.int .i64 0),(.int .i64 0),(.int .i64 0),(.int .i64 0),(.int .i64 0),(.int .i64 0),(.int .i64 0),(.bool false),(.int .i64 0),(.int .i64 0),(.int .i64 0),(.slice none 0 0),(.slice none 0 0),(.slice none 0 0),(.int .i64 0)])⟩),
(67,⟨(.ptr 27),1,8,(.pointer none)⟩),
(70,⟨(.slice 9),1,24,(.slice none 0 0)⟩),
(74,⟨(.slice 77),1,24,(.slice none 0 0)⟩),
(75,⟨(.slice 109),1,24,(.slice none 0 0)⟩),
(76,⟨(.struct [(0,36),(1,51),(2,75)]),3,72,(.agg #[(.slice none 0 0),(.slice none 0 0),(.slice none 0 0)])⟩),
(77,⟨(.struct [(0,36),(1,51),(2,75)]),3,72,(.agg #[(.slice none 0 0),(.slice none 0 0),(.slice none 0 0)])⟩),
(86,⟨(.ptr 40),1,8,(.pointer none)⟩),
(89,⟨(.struct [(0,3),(1,3),(2,3),(3,3),(4,38),(6,36)]),7,72,(.agg #[(.int .i64 0),(.int .i64 0),(.int .i64 0),(.int .i64 0),(.int .i64 0),(.int .i64 0),(.slice none 0 0)])⟩),
(90,⟨(.struct [(0,3),(1,3),(2,3),(3,3),(4,38),(6,36)]),7,72,(.agg #[(.int .i64 0),(.int .i64 0),(.int .i64 0),(.int .i64 0),(.int .i64 0),(.int .i64 0),(.slice none 0 0)])⟩),
(94,⟨(.ptr 90),1,8,(.pointer none)⟩),
(100,⟨(.ptr 102),1,8,(.pointer none)⟩),
(101,⟨(.struct [(0,36),(1,4)]),2,32,(.agg #[(.slice none 0 0),(.bool false)])⟩),
(102,⟨(.struct [(0,36),(1,4)]),2,32,(.agg #[(.slice none 0 0),(.bool false)])⟩),
(105,⟨(.struct [(0,9),(1,3)]),2,24,(.agg #[(.string ⟨#[]⟩),(.int .i64 0)])⟩),
(106,⟨(.struct [(0,9),(1,3)]),2,24,(.agg #[(.string ⟨#[]⟩),(.int .i64 0)])⟩),
(108,⟨(.struct [(0,3),(1,3),(2,9),(3,3)]),4,40,(.agg #[(.int .i64 0),(.int .i64 0),(.string ⟨#[]⟩),(.int .i64 0)])⟩),
(109,⟨(.struct [(0,3),(1,3),(2,9),(3,3)]),4,40,(.agg #[(.int .i64 0),(.int .i64 0),(.string ⟨#[]⟩),(.int .i64 0)])⟩),
(116,⟨(.struct [(0,3),(1,3),(2,3),(3,3)]),4,32,(.agg #[(.int .i64 0),(.int .i64 0),(.int .i64 0),(.int .i64 0)])⟩),
(117,⟨(.struct [(0,3),(1,3),(2,3),(3,3)]),4,32,(.agg #[(.int .i64 0),(.int .i64 0),(.int .i64 0),(.int .i64 0)])⟩),
(120,⟨(.ptr 58),1,8,(.pointer none)⟩),
(131,⟨(.arr 24 5),24,24,(.agg #[(.int .u8 0),(.int .u8 0),(.int .u8 0),(.int .u8 0),(.int .u8 0),(.int .u8 0),(.int .u8 0),(.int .u8 0),(.int .u8 0),(.int .u8 0),(.int .u8 0),(.int .u8 0),(.int .u8 0),(.int .u8 0),(.int .u8 0),(.int .u8 0),(.int .u8 0),(.int .u8 0),(.int .u8 0),(.int .u8 0),(.int .u8 0),(.int .u8 0),(.int .u8 0),(.int .u8 0)])⟩),
(132,⟨(.int .u64),1,8,(.int .u64 0)⟩),
(137,⟨(.slice 167),1,24,(.slice none 0 0)⟩),
(140,⟨(.slice 250),1,24,(.slice none 0 0)⟩),
(144,⟨(.map 9 4),1,8,(.map none)⟩),
(149,⟨(.int .u64),1,8,(.int .u64 0)⟩),
(152,⟨(.ptr 3),1,8,(.pointer none)⟩),
(158,⟨(.arr 20 132),20,160,(.agg #[(.int .u64 0),(.int .u64 0),(.int .u64 0),(.int .u64 0),(.int .u64 0),(.int .u64 0),(.int .u64 0),(.int .u64 0),(.int .u64 0),(.int .u64 0),(.int .u64 0),(.int .u64 0),(.int .u64 0),(.int .u64 0),(.int .u64 0),(.int .u64 0),(.int .u64 0),(.int .u64 0),(.int .u64 0),(.int .u64 0)])⟩),
(159,⟨(.int .u32),1,4,(.int .u32 0)⟩),
(163,⟨(.slice 204),1,24,(.slice none 0 0)⟩),
(166,⟨(.struct [(0,3),(1,163)]),2,32,(.agg #[(.int .i64 0),(.slice none 0 0)])⟩),
(167,⟨(.struct [(0,3),(1,163)]),2,32,(.agg #[(.int .i64 0),(.slice none 0 0)])⟩),
(168,⟨(.ptr 171),1,8,(.pointer none)⟩),
(169,⟨(.slice 213),1,24,(.slice none 0 0)⟩),
(170,⟨(.struct [(0,169),(1,140),(2,137),(3,3),(4,38)]),6,96,(.agg #[(.slice none 0 0),(.slice none 0 0),(.slice none 0 0),(.int .i64 0),(.int .i64 0),(.int .i64 0)])⟩),
(171,⟨(.struct [(0,169),(1,140),(2,137),(3,3),(4,38)]),6,96,(.agg #[(.slice none 0 0),(.slice none 0 0),(.slice none 0 0),(.int .i64 0),(.int .i64 0),(.int .i64 0)])⟩),
(173,⟨(.ptr 177),1,8,(.pointer none)⟩),
(174,⟨(.slice 185),1,24,(.slice none 0 0)⟩),
(175,⟨(.slice 229),1,24,(.slice none 0 0)⟩),
(176,⟨(.struct [(0,140),(1,174),(2,51),(3,42),(4,175),(5,3),(6,77),(9,38)]),11,216,(.agg #[(.slice none 0 0),(.slice none 0 0),(.slice none 0 0),(.slice none 0 0),(.slice none 0 0),(.int .i64 0),(.slice none 0 0),(.slice none 0 0),(.slice none 0 0),(.int .i64 0),(.int .i64 0)])⟩),
(177,⟨(.struct [(0,140),(1,174),(2,51),(3,42),(4,175),(5,3),(6,77),(9,38)]),11,216,(.agg #[(.slice none 0 0),(.slice none 0 0),(.slice none 0 0),(.slice none 0 0),(.slice none 0 0),(.int .i64 0),(.slice none 0 0),(.slice none 0 0),(.slice none 0 0),(.int .i64 0),(.int .i64 0)])⟩),
(181,⟨(.ptr 185),1,8,(.pointer none)⟩),
(182,⟨(.struct [(0,9),(1,3)]),2,24,(.agg #[(.string ⟨#[]⟩),(.int .i64 0)])⟩),
(183,⟨(.struct [(0,9),(1,3)]),2,24,(.agg #[(.string ⟨#[]⟩),(.int .i64 0)])⟩),
(184,⟨(.struct [(0,3),(1,3),(2,3),(3,117),(7,4),(8,3),(9,183),(11,3),(12,3)]),13,112,(.agg #[(.int .i64 0),(.int .i64 0),(.int .i64 0),(.int .i64 0),(.int .i64 0),(.int .i64 0),(.int .i64 0),(.bool false),(.int .i64 0),(.string ⟨#[]⟩),(.int .i64 0),(.int .i64 0),(.int .i64 0)])⟩),
(185,⟨(.struct [(0,3),(1,3),(2,3),(3,117),(7,4),(8,3),(9,183),(11,3),(12,3)]),13,112,(.agg #[(.int .i64 0),(.int .i64 0),(.int .i64 0),(.int .i64 0),(.int .i64 0),(.int .i64 0),(.int .i64 0),(.bool false),(.int .i64 0),(.string ⟨#[]⟩),(.int .i64 0),(.int .i64 0),(.int .i64 0)])⟩),
(187,⟨(.slice 190),1,24,(.slice none 0 0)⟩),
(189,⟨(.struct [(0,3),(1,9),(2,3),(3,3)]),4,40,(.agg #[(.int .i64 0),(.string ⟨#[]⟩),(.int .i64 0),(.int .i64 0)])⟩),
(190,⟨(.struct [(0,3),(1,9),(2,3),(3,3)]),4,40,(.agg #[(.int .i64 0),(.string ⟨#[]⟩),(.int .i64 0),(.int .i64 0)])⟩),
(199,⟨(.ptr 201),1,8,(.pointer none)⟩),
(200,⟨(.struct [(0,9),(1,3)]),2,24,(.agg #[(.string ⟨#[]⟩),(.int .i64 0)])⟩),
(201,⟨(.struct [(0,9),(1,3)]),2,24,(.agg #[(.string ⟨#[]⟩),(.int .i64 0)])⟩),
(203,⟨(.struct [(0,3),(1,3),(2,9)]),3,32,(.agg #[(.int .i64 0),(.int .i64 0),(.string ⟨#[]⟩)])⟩),
(204,⟨(.struct [(0,3),(1,3),(2,9)]),3,32,(.agg #[(.int .i64 0),(.int .i64 0),(.string ⟨#[]⟩)])⟩),
(212,⟨(.struct [(0,9),(1,70),(2,137)]),3,64,(.agg #[(.string ⟨#[]⟩),(.slice none 0 0),(.slice none 0 0)])⟩),
(213,⟨(.struct [(0,9),(1,70),(2,137)]),3,64,(.agg #[(.string ⟨#[]⟩),(.slice none 0 0),(.slice none 0 0)])⟩),
(216,⟨(.ptr 218),1,8,(.pointer none)⟩),
(217,⟨(.struct [(0,173),(1,163),(2,3)]),3,40,(.agg #[(.pointer none),(.slice none 0 0),(.int .i64 0)])⟩),
(218,⟨(.struct [(0,173),(1,163),(2,3)]),3,40,(.agg #[(.pointer none),(.slice none 0 0),(.int .i64 0)])⟩),
(219,⟨(.slice 260),1,24,(.slice none 0 0)⟩),
(229,⟨(.slice 183),1,24,(.slice none 0 0)⟩),
(239,⟨.iface,1,16,.nilIface⟩),
(240,⟨.iface,1,16,.nilIface⟩),
(250,⟨(.struct [(0,9),(1,3)]),2,24,(.agg #[(.string ⟨#[]⟩),(.int .i64 0)])⟩),
(254,⟨(.slice 163),1,24,(.slice none 0 0)⟩),
(259,⟨(.struct [(0,9),(1,3),(2,183)]),4,48,(.agg #[(.string ⟨#[]⟩),(.int .i64 0),(.string ⟨#[]⟩),(.int .i64 0)])⟩),
(260,⟨(.struct [(0,9),(1,3),(2,183)]),4,48,(.agg #[(.string ⟨#[]⟩),(.int .i64 0),(.string ⟨#[]⟩),(.int .i64 0)])⟩),
(265,⟨(.map 3 3),1,8,(.map none)⟩),
(275,⟨(.slice 277),1,24,(.slice none 0 0)⟩),
(276,⟨(.struct [(0,3),(1,3),(2,9),(3,275)]),4,56,(.agg #[(.int .i64 0),(.int .i64 0),(.string ⟨#[]⟩),(.slice none 0 0)])⟩),
(277,⟨(.struct [(0,3),(1,3),(2,9),(3,275)]),4,56,(.agg #[(.int .i64 0),(.int .i64 0),(.string ⟨#[]⟩),(.slice none 0 0)])⟩),
(286,⟨(.ptr 229),1,8,(.pointer none)⟩),
(288,⟨(.int .i64),1,8,(.int .i64 0)⟩),
(290,⟨(.ptr 306),1,8,(.pointer none)⟩),
(293,⟨(.ptr 295),1,8,(.pointer none)⟩),
(294,⟨(.struct [(0,163),(1,28)]),2,32,(.agg #[(.slice none 0 0),(.int .i64 0)])⟩),
(295,⟨(.struct [(0,163),(1,28)]),2,32,(.agg #[(.slice none 0 0),(.int .i64 0)])⟩),
(299,⟨(.struct [(0,5),(1,5)]),2,2,(.agg #[(.int .u8 0),(.int .u8 0)])⟩),
(300,⟨(.struct [(0,5),(1,5)]),2,2,(.agg #[(.int .u8 0),(.int .u8 0)])⟩),
(301,⟨(.arr 16 300),32,32,(.agg #[(.int .u8 0),(.int .u8 0),(.int .u8 0),(.int .u8 0),(.int .u8 0),(.int .u8 0),(.int .u8 0),(.int .u8 0),(.int .u8 0),(.int .u8 0),(.int .u8 0),(.int .u8 0),(.int .u8 0),(.int .u8 0),(.int .u8 0),(.int .u8 0),(.int .u8 0),(.int .u8 0),(.int .u8 0),(.int .u8 0),(.int .u8 0),(.int .u8 0),(.int .u8 0),(.int .u8 0),(.int .u8 0),(.int .u8 0),(.int .u8 0),(.int .u8 0),(.int .u8 0),(.int .u8 0),(.int .u8 0),(.int .u8 0)])⟩),
(305,⟨(.struct [(0,9),(1,9),(2,240)]),3,48,(.agg #[(.string ⟨#[]⟩),(.string ⟨#[]⟩),.nilIface])⟩),
(306,⟨(.struct [(0,9),(1,9),(2,240)]),3,48,(.agg #[(.string ⟨#[]⟩),(.string ⟨#[]⟩),.nilIface])⟩),
(308,⟨(.slice 313),1,24,(.slice none 0 0)⟩),
(312,⟨(.struct [(0,70),(1,42)]),2,48,(.agg #[(.slice none 0 0),(.slice none 0 0)])⟩),
(313,⟨(.struct [(0,70),(1,42)]),2,48,(.agg #[(.slice none 0 0),(.slice none 0 0)])⟩),
(317,⟨(.ptr 5),1,8,(.pointer none)⟩),
(318,⟨(.ptr 320),1,8,(.pointer none)⟩),
(319,⟨(.struct [(0,9)]),1,16,(.agg #[(.string ⟨#[]⟩)])⟩),
(320,⟨(.struct [(0,9)]),1,16,(.agg #[(.string ⟨#[]⟩)])⟩)]
theorem zh:ye Tryz.prog tab:=ye.of (by kernel_rfl) (by kernel_rfl)
theorem mixed:Tryz.prog.follows .mixedOrders=true:=by kernel_rfl
theorem ze {n:Nat} {E:xp} (c:Code) {Q:Ex→List (Nat×D)→List Ob→Prop} {σ:List (Nat×D)} {L:List Ob} (h:vcK Tryz.prog tab n E c Q σ L):AWP Tryz.prog n E c Q σ L:=zcf zh mixed c h
abbrev vv:Nat:=5
abbrev zs3:Nat:=7
abbrev zuB:Nat:=8
abbrev znj:Nat:=9
abbrev znk:Nat:=10
abbrev zly:Nat:=11
abbrev zoF:Nat:=12
abbrev zqN:Nat:=13
abbrev zoG:Nat:=14
abbrev zuC:Nat:=15
abbrev zuD:Nat:=16
abbrev zoH:Nat:=17
abbrev zqO:Nat:=18
abbrev zdD:Nat:=19
abbrev zko:Nat:=20
abbrev zqP:Nat:=21
abbrev jb:Nat:=22
abbrev zqQ:Nat:=23
abbrev zoI:Nat:=25
abbrev zlz:Nat:=27
abbrev zqR:Nat:=28
abbrev zqS:Nat:=29
abbrev zuE:Nat:=30
abbrev zs4:Nat:=31
abbrev zqT:Nat:=32
abbrev zdE:Nat:=33
abbrev zqU:Nat:=34
abbrev zs5:Nat:=35
abbrev zoJ:Nat:=36
abbrev zqV:Nat:=37
abbrev zkp:Nat:=39
abbrev zqW:Nat:=40
abbrev vI:Nat:=41
abbrev zim:Nat:=42
abbrev zjg:Nat:=43
abbrev zin:Nat:=44
abbrev zoK:Nat:=45
abbrev zoL:Nat:=46
abbrev zqX:Nat:=47
abbrev zuF:Nat:=48
abbrev zac:Nat:=49
abbrev zqY:Nat:=50
abbrev zqZ:Nat:=51
abbrev zq0:Nat:=52
abbrev zs6:Nat:=53
abbrev za9:Nat:=54
abbrev znl:Nat:=55
abbrev zoM:Nat:=56
abbrev zuG:Nat:=57
abbrev zs7:Nat:=58
abbrev zoN:Nat:=59
abbrev zq1:Nat:=60
abbrev zoO:Nat:=65
abbrev zlA:Nat:=66
abbrev zq2:Nat:=67
abbrev ziB:Nat:=68
abbrev zoP:Nat:=69
abbrev vJ:Nat:=70
abbrev zcP:Nat:=71
abbrev zwG:Nat:=72
abbrev zoQ:Nat:=73
abbrev zs8:Nat:=74
abbrev zuH:Nat:=75
abbrev zwH:Nat:=76
abbrev zuI:Nat:=77
abbrev zs9:Nat:=78
abbrev zkq:Nat:=84
abbrev znm:Nat:=85
abbrev zgu:Nat:=86
abbrev zcj:Nat:=87
abbrev zck:Nat:=88
abbrev zgv:Nat:=89
abbrev zg8:Nat:=90
abbrev znn:Nat:=91
abbrev zoR:Nat:=92
abbrev zta:Nat:=93
abbrev ztb:Nat:=94
abbrev ztc:Nat:=95
abbrev ztd:Nat:=96
abbrev zg9:Nat:=99
abbrev zno:Nat:=100
abbrev zio:Nat:=101
abbrev zkr:Nat:=102
abbrev zks:Nat:=103
abbrev zfP:Nat:=104
abbrev zha:Nat:=105
abbrev zoS:Nat:=107
abbrev zhb:Nat:=110
abbrev zte:Nat:=112
abbrev zbo:Nat:=113
abbrev qG:Nat:=114
abbrev zdF:Nat:=115
abbrev zcl:Nat:=116
abbrev zbp:Nat:=117
abbrev zbq:Nat:=118
abbrev j5:Nat:=119
abbrev zbr:Nat:=120
abbrev vR:Nat:=121
abbrev ztf:Nat:=122
abbrev zcm:Nat:=123
abbrev zcn:Nat:=124
abbrev zwI:Nat:=125
abbrev zco:Nat:=126
abbrev jt:Nat:=127
abbrev zba:Nat:=128
abbrev zcp:Nat:=129
abbrev zcq:Nat:=130
abbrev zkt:Nat:=132
abbrev zku:Nat:=133
abbrev zcQ:Nat:=134
abbrev zeE:Nat:=135
abbrev zgw:Nat:=136
abbrev zhc:Nat:=137
abbrev zgx:Nat:=138
abbrev jj:Nat:=143
abbrev zbB:Nat:=148
abbrev zlB:Nat:=149
abbrev jk:Nat:=150
abbrev zaI:Nat:=151
abbrev zaJ:Nat:=152
abbrev zdG:Nat:=153
abbrev zcW:Nat:=154
abbrev kl:Nat:=155
abbrev zoT:Nat:=156
abbrev zkv:Nat:=157
abbrev zq3:Nat:=158
abbrev zcr:Nat:=159
abbrev qX:Nat:=160
abbrev zq4:Nat:=161
abbrev zoU:Nat:=162
abbrev zbC:Nat:=166
abbrev zbD:Nat:=167
abbrev zip:Nat:=168
abbrev zay:Nat:=169
abbrev zoV:Nat:=171
abbrev zq5:Nat:=172
abbrev vK:Nat:=173
abbrev zlC:Nat:=174
abbrev zcs:Nat:=175
abbrev j6:Nat:=176
abbrev zdH:Nat:=182
abbrev ze3:Nat:=184
abbrev zfQ:Nat:=185
abbrev zjh:Nat:=188
abbrev zcR:Nat:=189
abbrev ztg:Nat:=190
abbrev zd0:Nat:=191
abbrev znp:Nat:=196
abbrev ziq:Nat:=197
abbrev zhd:Nat:=198
abbrev znq:Nat:=199
abbrev zhe:Nat:=201
end Go.Proofs.YtnkdeacghopkiaaGreatDoor
namespace Go.Proofs.YtnkdeacghopkiaaGreatDoor
open Go Go.Plat
set_option linter.unusedVariables false
set_option linter.unusedSimpArgs false
set_option maxRecDepth 100000
set_option maxHeartbeats 2000000
attribute [local irreducible] AWP zG yn zK zn yA z8 zI zY z6 zw za zN yB zt z7 yx yy yq yt zx zz zD
structure Msg where
 kind:Int
 worker:Int
 unit:Int
 turn:Int
 err:Int
 at_:Int
 data:List UInt8
def zoW (m:Msg):D:=.agg [.int .i64 m.kind,.int .i64 m.worker,.int .i64 m.unit,.int .i64 m.turn,.int .i64 m.err,.int .i64 m.at_,zk m.data]
def yF (m:Msg):Int:=
 if m.kind < 1∨3 < m.kind then 1
 else if m.worker < 0∨3≤m.worker∨m.unit < 0∨4≤m.unit∨m.turn < 0∨65535 < m.turn then 3
 else if m.kind=3∧(m.err≤0∨14 < m.err∨m.at_ < 0∨65535 < m.at_∨0 < m.data.length) then 8
 else if m.kind≠3∧¬ (m.err=0∧m.at_=0) then 8
 else if 1048576 < m.data.length then 4 else 0
theorem ziC:za Tryz.prog zoN (zy (fun _=>True) (fun m:Msg=>[zoW m]) fun m=>.int .i64 (yF m)):=by
 refine zf zh Tryz.func59 rfl (by decide) fun m _=>?_
 refine ⟨Nat.le_refl _,by simp [Tryz.f59],fun E hE=>?_⟩
 refine ze _ ?_
 (all_goals refine qgo ?_<;>(repeat' first | exact trivial | intro hc | refine And.intro ?_ ?_)<;>refine Lf.mk ?_)
 any_goals (refine zn5 [.int .i64,.int .i64] (by kernel_rfl) rfl ?_)
 (all_goals refine qgo ?_<;>(repeat' first | exact trivial | intro hc | refine And.intro ?_ ?_)<;>refine Lf.mk ?_)
 all_goals (refine ya ?_)
 (repeat' (first | (refine VS.mk ?_) | exact trivial | exact rfl | refine And.intro ?_ ?_))
 all_goals (congr 1;unfold yF;(repeat' split)<;>omega)
def zdl (s:Int) (b:List UInt8):Int:=b.foldl (fun s c=>(s * 31+(c.toNat:Int)+1) % 65521) s
def km (b:List UInt8):Int:=zdl 1 b
theorem zc6:∀ (b:List UInt8) (s:Int),0≤s→s < 65521→0≤zdl s b∧zdl s b < 65521
 | [],s,h1,h2=>⟨h1,h2⟩
 | c::b,s,h1,h2=>zc6 b _ (Int.emod_nonneg _ (by decide)) (Int.emod_lt_of_pos _ (by decide))
theorem zoX (b:List UInt8) (s:Int) (k:Nat) (hk:k < b.length):zdl s (b.take (k+1))=(zdl s (b.take k) * 31+((b.getD k 0).toNat:Int)+1) % 65521:=by
 rw [List.take_succ_eq_append_getElem hk]
 simp only [zdl,List.foldl_append,List.foldl_cons,List.foldl_nil,List.getD_eq_getElem?_getD,List.getElem?_eq_getElem hk,Option.getD_some]
theorem zhf:za Tryz.prog zs7 (zy (fun b=>b.length≤1000000000) (fun b=>[zk b]) fun b=>.int .i64 (km b)):=by
 refine zf zh Tryz.func58 rfl (by decide) fun b hb=>?_
 refine ⟨Nat.le_refl _,by simp [Tryz.f58],fun E hE=>?_⟩
 refine ze _ ?_
 (all_goals refine qgo ?_<;>(repeat' first | exact trivial | intro hc | refine And.intro ?_ ?_)<;>refine Lf.mk ?_)
 refine yc (α:=Nat) (fun k=>k≤b.length) (fun k=>[(8,.int .i64 k),(7,.int .i64 b.length),(6,zk b),(3,.int .i64 (km (b.take k)))]) (fun _=>[]) (fun k=>b.length - k) (fun _=>by simp [hE]) 0 (Nat.zero_le _) ?_ ?_
 ·(repeat' (first | (refine VS.mk ?_) | exact trivial | exact rfl | refine And.intro ?_ ?_))
 intro k hk
 have hs:=zc6 (b.take k) 1 (by decide) (by decide)
 change 0≤km _∧km _ < _ at hs
 refine ze _ ?_
 (all_goals refine qgo ?_<;>(repeat' first | exact trivial | intro hc | refine And.intro ?_ ?_)<;>refine Lf.mk ?_)
 ·have hc:=zsT (b.getD k 0)
  (all_goals refine qgo ?_<;>(repeat' first | exact trivial | intro hc | refine And.intro ?_ ?_)<;>refine Lf.mk ?_)
  refine zF (k+1) (by omega) (by omega) ?_
  (repeat' (first | (refine VS.mk ?_) | exact trivial | exact rfl | refine And.intro ?_ ?_))
  rw [km,km,zoX b 1 k (by omega)]
 ·refine ya ?_
  obtain rfl:k=b.length:=by omega
  (repeat' (first | (refine VS.mk ?_) | exact trivial | exact rfl | refine And.intro ?_ ?_))
  rw [List.take_length]
def xk (b:List UInt8) (i:Int):Int:=if 0≤i∧i < b.length then ((b.getD i.toNat 0).toNat:Int) else 0
def z1 (b:List UInt8) (at_:Int):Nat→Int
 | 0=>0
 | k+1=>z1 b at_ k * 256+xk b (at_+k)
theorem kx (b:List UInt8) (i:Int):0≤xk b i∧xk b i < 256:=by
 unfold xk;split
 ·have:=zsT (b.getD i.toNat 0);omega
 ·omega
theorem ze4 (b:List UInt8) (at_:Int):∀ k,0≤z1 b at_ k
 | 0=>by simp [z1]
 | k+1=>by have:=ze4 b at_ k;have:=kx b (at_+k);simp only [z1];omega
theorem zlD (b:List UInt8) (at_:Int) (k:Nat) (hk:k≤4):z1 b at_ k≤4294967295:=by
 have h0:=kx b (at_+(0:Nat));have h1:=kx b (at_+(1:Nat));have h2:=kx b (at_+(2:Nat));have h3:=kx b (at_+(3:Nat))
 match k,hk with
 | 0,_=>simp [z1]
 | 1,_=>simp only [z1];omega
 | 2,_=>simp only [z1];omega
 | 3,_=>simp only [z1];omega
 | 4,_=>simp only [z1];omega
theorem v7:za Tryz.prog zuG (zy (fun ((b,at_,size):List UInt8×Int×Nat)=>-1000000000000≤at_∧at_≤1000000000000∧size≤4) (fun (b,at_,size)=>[zk b,.int .i64 at_,.int .i64 size])
  fun (b,at_,size)=>.int .i64 (z1 b at_ size)):=by
 refine zf zh Tryz.func57 rfl (by decide) ?_
 rintro ⟨b,at_,size⟩ ⟨h1,h2,h4⟩
 refine ⟨Nat.le_refl _,by simp [Tryz.f57],fun E hE=>?_⟩
 refine ze _ ?_
 (all_goals refine qgo (Lf.mk ?_))
 refine yc (α:=Nat) (fun k=>k≤size) (fun k=>[(11,.int .i64 k),(10,.int .i64 size),(7,.int .i64 (z1 b at_ k)),(0,zk b),(1,.int .i64 at_)]) (fun _=>[]) (fun k=>size - k) (fun _=>by simp [hE]) 0 (Nat.zero_le _) ?_ ?_
 ·(repeat' (first | (refine VS.mk ?_) | exact trivial | exact rfl | refine And.intro ?_ ?_))
 intro k hk
 have g0:=ze4 b at_ k
 have g1:=zlD b at_ k (by omega)
 refine ze _ ?_
 (all_goals refine qgo ?_<;>(repeat' first | exact trivial | intro hc | refine And.intro ?_ ?_)<;>refine Lf.mk ?_)
 ·have hb:xk b (at_+k)=((b.getD (at_+(k:Int)).toNat 0).toNat:Int):=by unfold xk;rw [if_pos ⟨by omega,by omega⟩]
  have:=zsT (b.getD (at_+(k:Int)).toNat 0)
  refine wG (zzL (s:=8) rfl g0 (by omega) (by omega) (by omega)) ?_
  (all_goals refine qgo (Lf.mk ?_))
  refine zF (k+1) (by omega) (by omega) ?_
  (repeat' (first | (refine VS.mk ?_) | exact trivial | exact rfl | refine And.intro ?_ ?_))
  simp [z1,hb]
 ·refine zF (k+1) (by omega) (by omega) ?_
  have hb:xk b (at_+k)=0:=by unfold xk;rw [if_neg (by omega)]
  (repeat' (first | (refine VS.mk ?_) | exact trivial | exact rfl | refine And.intro ?_ ?_))
  simp [z1,hb]
 ·refine zF (k+1) (by omega) (by omega) ?_
  have hb:xk b (at_+k)=0:=by unfold xk;rw [if_neg (by omega)]
  (repeat' (first | (refine VS.mk ?_) | exact trivial | exact rfl | refine And.intro ?_ ?_))
  simp [z1,hb]
 ·obtain rfl:k=size:=by omega
  refine ya ?_
  (repeat' (first | (refine VS.mk ?_) | exact trivial | exact rfl | refine And.intro ?_ ?_))
def yX (l:List UInt8) (i:Int) (c:UInt8):List UInt8:=if 0≤i∧i < l.length then l.set i.toNat c else l
def yv (l:List UInt8) (at_:Int):Nat→Int→List UInt8
 | 0,_=>l
 | k+1,n=>yv (yX l (at_+k) (zr n)) at_ k (n / 256)
theorem zhg (l:List UInt8) (i:Int) (c:UInt8):(yX l i c).length=l.length:=by unfold yX;split<;>simp
theorem kM (at_:Int):∀ (k:Nat) (l:List UInt8) (n:Int),(yv l at_ k n).length=l.length
 | 0,l,n=>rfl
 | k+1,l,n=>by rw [yv,kM,zhg]
theorem ky:za Tryz.prog zuF (zQ (fun ((b,at_,size,n):List UInt8×Int×Nat×Int)=>-1000000000000≤at_∧at_≤1000000000000∧size≤1000000000000∧b.length≤1000000000)
  (fun (b,at_,size,n)=>[zk b,.int .i64 at_,.int .i64 size,.int .i64 n]) (fun _=>[]) (fun (b,at_,size,n)=>.sl 1 ((yv b at_ size n).map zC) (some 0)) fun (b,_)=>[.spare b.length]):=by
 refine zf zh Tryz.func48 rfl (by decide) ?_
 rintro ⟨b,at_,size,n⟩ ⟨h1,h2,h4,h5⟩
 refine ⟨by simp,by simp [Tryz.f48],fun E hE=>?_⟩
 refine ze _ ?_
 (all_goals refine qga (Lf.mk ?_))
 refine yc (α:=Nat×List UInt8×Int) (fun p=>p.1≤size∧p.2.1.length=b.length∧yv p.2.1 at_ p.1 p.2.2=yv b at_ size n) (fun p=>[(10,.int .i64 ((p.1:Int) - 1)),(1,.int .i64 at_),(3,.int .i64 p.2.2),(9,.osl 1 0 p.2.1.length 0 p.2.1.length)]) (fun p=>[.arr 1 (p.2.1.map zC)]) (fun p=>p.1) (fun _=>by simp [hE]) (size,b,n) ⟨Nat.le_refl _,rfl,rfl⟩ ?_ ?_
 ·(repeat' (first | (refine VS.mk ?_) | exact trivial | exact rfl | refine And.intro ?_ ?_))
  ·refine qE b rfl ?_
   (repeat' (first | (refine VS.mk ?_) | exact trivial | exact rfl | refine And.intro ?_ ?_))
 rintro ⟨k,l,m⟩ ⟨hk,hl,hp⟩
 generalize hj:((k:Int) - 1)=j at *
 dsimp only at hk hl hp ⊢
 refine ze _ ?_
 have hm8:(0:Int) < 256:=by decide
 have hn:0≤j→yv (yX l (at_+j) (zr m)) at_ (k - 1) (m / 256)=yv b at_ size n:=fun h=>by
  rw [← hp]
  obtain ⟨k',rfl⟩:∃ k',k=k'+1:=⟨k - 1,by omega⟩
  obtain rfl:j=k':=by omega
  rfl
 have hset:∀ x,(yX l x (zr m)).length=b.length:=fun x=>by rw [zhg];exact hl
 (all_goals refine qgo ?_<;>(repeat' first | exact trivial | intro hc | refine And.intro ?_ ?_)<;>refine Lf.mk ?_)
 ·have hs:yX l (at_+j) (zr m)=l.set (at_+j).toNat (zr m):=by unfold yX;rw [if_pos ⟨by omega,by omega⟩]
  refine zF (k - 1,yX l (at_+j) (zr m),m / 256) ⟨by (dsimp only;omega),hset _,hn (by assumption)⟩ (by dsimp only;omega) ?_
  (repeat' (first | (refine VS.mk ?_) | exact trivial | exact rfl | refine And.intro ?_ ?_))
  ·refine qE (yX l (at_+j) (zr m)) ?_ ?_
   ·rw [hs,List.map_set];simp [zC]
   ·(repeat' (first | (refine VS.mk ?_) | exact trivial | exact rfl | refine And.intro ?_ ?_))
  (all_goals (first | rfl | (dsimp only;congr 1;omega) | (dsimp only;simp;done) | (dsimp only;simp;omega) | skip))
  all_goals (dsimp only;rw [hset,hl])
 ·have hs:yX l (at_+j) (zr m)=l:=by unfold yX;rw [if_neg (by omega)]
  refine zF (k - 1,yX l (at_+j) (zr m),m / 256) ⟨by (dsimp only;omega),hset _,hn (by assumption)⟩ (by dsimp only;omega) ?_
  (repeat' (first | (refine VS.mk ?_) | exact trivial | exact rfl | refine And.intro ?_ ?_))
  ·refine qE (yX l (at_+j) (zr m)) (by rw [hs]) ?_
   (repeat' (first | (refine VS.mk ?_) | exact trivial | exact rfl | refine And.intro ?_ ?_))
  (all_goals (first | rfl | (dsimp only;congr 1;omega) | (dsimp only;simp;done) | (dsimp only;simp;omega) | skip))
  all_goals (dsimp only;rw [hset,hl])
 ·have hs:yX l (at_+j) (zr m)=l:=by unfold yX;rw [if_neg (by omega)]
  refine zF (k - 1,yX l (at_+j) (zr m),m / 256) ⟨by (dsimp only;omega),hset _,hn (by assumption)⟩ (by dsimp only;omega) ?_
  (repeat' (first | (refine VS.mk ?_) | exact trivial | exact rfl | refine And.intro ?_ ?_))
  ·refine qE (yX l (at_+j) (zr m)) (by rw [hs]) ?_
   (repeat' (first | (refine VS.mk ?_) | exact trivial | exact rfl | refine And.intro ?_ ?_))
  (all_goals (first | rfl | (dsimp only;congr 1;omega) | (dsimp only;simp;done) | (dsimp only;simp;omega) | skip))
  all_goals (dsimp only;rw [hset,hl])
 ·obtain rfl:k=0:=by omega
  have hp:l=yv b at_ size n:=hp
  refine zi9 (k:=0) l rfl rfl (Nat.le_refl _) (Nat.zero_le _) (r1:=.sl 1 (l.map zC) (some 1)) (.here _ _ (by simp) (by simp)) ?_
  refine yT [1] rfl rfl ?_
  (repeat' (first | (refine VS.mk ?_) | exact trivial | exact rfl | refine And.intro ?_ ?_))
  ·rw [hp]
  ·rw [hl]
def zkw (m:Msg):List UInt8:=[zr m.kind,zr m.worker,zr m.unit,0,0,zr m.err,0,0,0,0,0,0]
def zkx (m:Msg):List UInt8:=yv (zkw m) 3 2 m.turn
def zh5 (m:Msg):List UInt8:=yv (zkx m) 6 2 m.at_
def jM (m:Msg):List UInt8:=yv (zh5 m) 8 4 m.data.length
theorem zuJ (m:Msg):(zkw m).length=12:=rfl
theorem zmu (m:Msg):(zkx m).length=12:=by rw [zkx,kM];rfl
theorem zhh (m:Msg):(zh5 m).length=12:=by rw [zh5,kM,zmu]
theorem k8 (m:Msg):(jM m).length=12:=by rw [jM,kM,zhh]
def xC (m:Msg):List UInt8:=jM m++m.data
def zE (m:Msg):List UInt8:=xC m++[zr (km (xC m) / 256),zr (km (xC m))]
theorem zoY {m:Msg} (h:yF m=0):1≤m.kind∧m.kind≤3∧0≤m.worker∧m.worker < 3∧0≤m.unit∧m.unit < 4∧0≤m.turn∧m.turn≤65535∧m.data.length≤1048576 ∧
  0≤m.err∧m.err≤14∧0≤m.at_∧m.at_≤65535∧(m.kind=3→0 < m.err∧m.data.length=0)∧(m.kind≠3→m.err=0∧m.at_=0):=by
 unfold yF at h
 (repeat' split at h)<;>first | (exfalso;omega) | omega
theorem zq6:za Tryz.prog zoM (zy (fun _:Msg=>True) (fun m=>[zoW m]) fun m=>.tup [zk (if yF m=0 then zE m else []),.int .i64 (yF m)]):=by
 refine zf zh Tryz.func56 rfl (by decide) fun m _=>?_
 refine ⟨Nat.le_refl _,by simp [Tryz.f56],fun E hE=>?_⟩
 refine ze _ ?_
 (all_goals refine qgo ?_<;>(repeat' first | exact trivial | intro hc | refine And.intro ?_ ?_)<;>refine Lf.mk ?_)
 refine zb ziC m trivial (VS.mk (by (first | exact LeL.refl _ | (repeat' (first | exact LeL.nil | exact LeD.refl _ | exact LeD.nil _ | exact LeD.strip _ _ _ | refine LeL.cons ?_ ?_ | refine LeD.tup ?_ | refine LeD.agg ?_))))) ?_
 (all_goals refine qga ?_<;>(repeat' first | exact trivial | intro hc | refine And.intro ?_ ?_)<;>refine Lf.mk ?_)
 ·refine vH (LeD.tup (.cons (.nil 1) (.refl _))) ?_ (Nat.le_refl _)
  refine ya ?_
  (repeat' (first | (refine VS.mk ?_) | exact trivial | exact rfl | refine And.intro ?_ ?_))
  rw [if_neg (by assumption)];rfl
 refine zil 1 (zkw m) [_,_,_,_] rfl rfl ⟨.here _ _ rfl rfl,.keep _,.keep _,.keep _,trivial⟩ ?_
 refine VS.mk ?_
 refine zu ky [] [3] (zkw m,3,2,m.turn) ⟨by decide,by decide,by decide,by rw [zuJ];decide⟩ rfl rfl ?_
 refine And.intro (VS.mk (LeL.refl _)) (And.intro (VS.mk rfl) ?_)
 (all_goals refine qgo ?_<;>(repeat' first | exact trivial | intro hc | refine And.intro ?_ ?_)<;>refine Lf.mk ?_)
 refine zu ky [] [4] (zkx m,6,2,m.at_) ⟨by decide,by decide,by decide,by rw [zmu];decide⟩ rfl rfl ?_
 refine And.intro (VS.mk (LeL.refl _)) (And.intro (VS.mk rfl) ?_)
 (all_goals refine qgo ?_<;>(repeat' first | exact trivial | intro hc | refine And.intro ?_ ?_)<;>refine Lf.mk ?_)
 refine zu ky [] [5] (zh5 m,8,4,m.data.length) ⟨by decide,by decide,by decide,by rw [zhh];decide⟩ rfl rfl ?_
 refine And.intro (VS.mk ?_) (And.intro (VS.mk rfl) ?_)
 ·exact LeL.of_eq (by simp only [List.length_map];rfl)
 obtain ⟨_,_,_,_,_,_,_,_,hlen,_⟩:=zoY hc
 have hl1:(yv (zh5 m) 8 4 (m.data.length:Int)).length=12:=k8 m
 have hl2:=zhh m
 (all_goals refine qgo ?_<;>(repeat' first | exact trivial | intro hc | refine And.intro ?_ ?_)<;>refine Lf.mk ?_)
 refine zb zhf (xC m) (by simp only [xC,List.length_append,k8];omega) (VS.mk (LeL.of_eq ?_)) ?_
 ·simp only [xC,jM,List.map_append,zk,List.length_map]
 have hs:=zc6 (xC m) 1 (by decide) (by decide)
 change 0≤km _∧km _ < _ at hs
 (all_goals refine qgo ?_<;>(repeat' first | exact trivial | intro hc | refine And.intro ?_ ?_)<;>refine Lf.mk ?_)
 refine zb zhf (xC m) (by simp only [xC,List.length_append,k8];omega) (VS.mk (LeL.of_eq ?_)) ?_
 ·simp only [xC,jM,List.map_append,zk,List.length_map]
 (all_goals refine qgo ?_<;>(repeat' first | exact trivial | intro hc | refine And.intro ?_ ?_)<;>refine Lf.mk ?_)
 refine ya ?_
 (repeat' (first | (refine VS.mk ?_) | exact trivial | (with_reducible exact rfl) | refine And.intro ?_ ?_))
 rw [if_pos hc,hc]
 simp [zE,xC,jM,zaX,zk,zC]
def zAS:Msg:=⟨0,0,0,0,0,0,[]⟩
def wy (b:List UInt8):Msg:=
 ⟨((b.getD 0 0).toNat:Int),((b.getD 1 0).toNat:Int),((b.getD 2 0).toNat:Int),z1 b 3 2,((b.getD 5 0).toNat:Int),z1 b 6 2,(b.take (b.length - 2)).drop 12⟩
def wv (b:List UInt8):Int:=
 if b.length < 14∨(b.length:Int) - 2≠12+z1 b 8 4∨z1 b ((b.length:Int) - 2) 2≠km (b.take (b.length - 2)) then 2 else yF (wy b)
theorem zdI {b:List UInt8} (h:b.length < 14∨(b.length:Int) - 2≠12+z1 b 8 4∨z1 b ((b.length:Int) - 2) 2≠km (b.take (b.length - 2))):wv b=2:=if_pos h
theorem zky {b:List UInt8} (h:¬ (b.length < 14∨(b.length:Int) - 2≠12+z1 b 8 4∨z1 b ((b.length:Int) - 2) 2≠km (b.take (b.length - 2)))):wv b=yF (wy b):=if_neg h
theorem zoZ:za Tryz.prog zoJ (zy (fun b:List UInt8=>b.length≤1000000000) (fun b=>[zk b]) fun b=>.tup [zoW (if wv b=0 then wy b else zAS),.int .i64 (wv b)]):=by
 refine zf zh Tryz.func36 rfl (by decide) fun b hb=>?_
 refine ⟨Nat.le_refl _,by simp [Tryz.f36],fun E hE=>?_⟩
 refine ze _ ?_
 have hg:=zlD b 8 4 (Nat.le_refl _)
 have hg0:=ze4 b 8 4
 (all_goals refine qgo ?_<;>(repeat' first | exact trivial | intro hc | refine And.intro ?_ ?_)<;>refine Lf.mk ?_)
 ·refine zd (VS.mk ?_)
  rw [zdI (.inl (by omega)),if_neg (by decide)]
  (first | exact LeL.refl _ | (repeat' (first | exact LeL.nil | exact LeD.refl _ | exact LeD.nil _ | exact LeD.strip _ _ _ | refine LeL.cons ?_ ?_ | refine LeD.tup ?_ | refine LeD.agg ?_)))
 refine zb v7 (b,8,4) ⟨by decide,by decide,by decide⟩ (VS.mk (by (first | exact LeL.refl _ | (repeat' (first | exact LeL.nil | exact LeD.refl _ | exact LeD.nil _ | exact LeD.strip _ _ _ | refine LeL.cons ?_ ?_ | refine LeD.tup ?_ | refine LeD.agg ?_))))) ?_
 (all_goals refine qgo ?_<;>(repeat' first | exact trivial | intro hc | refine And.intro ?_ ?_)<;>refine Lf.mk ?_)
 ·refine zd (VS.mk ?_)
  rw [zdI (.inr (.inl (by omega))),if_neg (by decide)]
  (first | exact LeL.refl _ | (repeat' (first | exact LeL.nil | exact LeD.refl _ | exact LeD.nil _ | exact LeD.strip _ _ _ | refine LeL.cons ?_ ?_ | refine LeD.tup ?_ | refine LeD.agg ?_)))
 refine zb v7 (b,(b.length:Int) - 2,2) ⟨by omega,by omega,by decide⟩ (VS.mk (by (first | exact LeL.refl _ | (repeat' (first | exact LeL.nil | exact LeD.refl _ | exact LeD.nil _ | exact LeD.strip _ _ _ | refine LeL.cons ?_ ?_ | refine LeD.tup ?_ | refine LeD.agg ?_))))) ?_
 (all_goals refine qgo ?_<;>(repeat' first | exact trivial | intro hc | refine And.intro ?_ ?_)<;>refine Lf.mk ?_)
 refine zb zhf (b.take (b.length - 2)) (by simp;omega) (VS.mk (LeL.of_eq ?_)) ?_
 ·simp [zk,show ((b.length:Int) - 2).toNat=b.length - 2 by omega]
 (all_goals refine qgn ?_<;>(repeat' first | exact trivial | intro hc | refine And.intro ?_ ?_)<;>refine Lf.mk ?_)
 ·refine zd (VS.mk ?_)
  rw [zdI (.inr (.inr (by assumption))),if_neg (by decide)]
  (first | exact LeL.refl _ | (repeat' (first | exact LeL.nil | exact LeD.refl _ | exact LeD.nil _ | exact LeD.strip _ _ _ | refine LeL.cons ?_ ?_ | refine LeD.tup ?_ | refine LeD.agg ?_)))
 have hp:=zky (b:=b) (by omega)
 refine zj7 ?_
 refine zfI zh mixed 24 26 [0,1,2,3,4,5,6,7,8,9,10,11,12,13,14,15,16,17,18,19,20,21,22,23,26,24,25,27] [0,1,2,3,4,5,6,7,8,9,10,11,12,13,14,15,16,17,18,19,20,21,22,23,25,26,24,27] rfl rfl rfl ?_ ?_
 all_goals
  (all_goals refine qgo ?_<;>(repeat' first | exact trivial | intro hc | refine And.intro ?_ ?_)<;>refine Lf.mk ?_)
  refine zb v7 (b,3,2) ⟨by decide,by decide,by decide⟩ (VS.mk (by (first | exact LeL.refl _ | (repeat' (first | exact LeL.nil | exact LeD.refl _ | exact LeD.nil _ | exact LeD.strip _ _ _ | refine LeL.cons ?_ ?_ | refine LeD.tup ?_ | refine LeD.agg ?_))))) ?_
  (all_goals refine qgo ?_<;>(repeat' first | exact trivial | intro hc | refine And.intro ?_ ?_)<;>refine Lf.mk ?_)
  refine zb v7 (b,6,2) ⟨by decide,by decide,by decide⟩ (VS.mk (by (first | exact LeL.refl _ | (repeat' (first | exact LeL.nil | exact LeD.refl _ | exact LeD.nil _ | exact LeD.strip _ _ _ | refine LeL.cons ?_ ?_ | refine LeD.tup ?_ | refine LeD.agg ?_))))) ?_
  (all_goals refine qgo ?_<;>(repeat' first | exact trivial | intro hc | refine And.intro ?_ ?_)<;>refine Lf.mk ?_)
  refine zb ziC (wy b) trivial (VS.mk (LeL.of_eq ?_)) ?_
  ·simp [zoW,wy,zk,show ((b.length:Int) - 2).toNat=b.length - 2 by omega]
  (all_goals refine qgo ?_<;>(repeat' first | exact trivial | intro hc | refine And.intro ?_ ?_)<;>refine Lf.mk ?_)
  ·refine zd (VS.mk ?_)
   rw [hp,if_neg (by assumption)]
   (first | exact LeL.refl _ | (repeat' (first | exact LeL.nil | exact LeD.refl _ | exact LeD.nil _ | exact LeD.strip _ _ _ | refine LeL.cons ?_ ?_ | refine LeD.tup ?_ | refine LeD.agg ?_)))
  ·refine zd (VS.mk ?_)
   rw [hp,if_pos (by assumption)]
   refine LeD.of_eq ?_
   rw [show ((b.length:Int) - 2).toNat=b.length - 2 by omega,hc]
   rfl
def zL (c:UInt8):Bool:=decide (97≤c.toNat∧c.toNat≤122∨65≤c.toNat∧c.toNat≤90∨c.toNat=95∨c.toNat=46)
def yw (c:UInt8):Bool:=decide (48≤c.toNat∧c.toNat≤57)
def yI (c:UInt8):Int:=if zL c=true then 97 else if yw c=true then 48 else if c.toNat=32∨c.toNat=9∨c.toNat=13 then 32 else 0
theorem ju:za Tryz.prog znn (zy (fun _:UInt8=>True) (fun c=>[zC c]) fun c=>.bool (zL c)):=by
 refine zf zh Tryz.func91 rfl (by decide) fun c _=>?_
 refine ⟨Nat.le_refl _,by simp [Tryz.f91],fun E hE=>?_⟩
 refine ze _ ?_
 (all_goals refine qgo ?_<;>(repeat' first | exact trivial | intro hc | refine And.intro ?_ ?_)<;>refine Lf.mk ?_)
 all_goals first
  | (refine zd (VS.mk (LeD.tt ?_));unfold zL;rw [decide_eq_true_eq];omega)
  | (refine zd (VS.mk (LeD.ff ?_));unfold zL;rw [decide_eq_false_iff_not];omega)
  | (refine zd (VS.mk (LeD.of_eq (congrArg D.bool ?_)));unfold zL;rw [Bool.eq_iff_iff];simp only [beq_iff_eq,decide_eq_true_eq];omega)
theorem zbV:za Tryz.prog zoR (zy (fun _:UInt8=>True) (fun c=>[zC c]) fun c=>.bool (yw c)):=by
 refine zf zh Tryz.func92 rfl (by decide) fun c _=>?_
 refine ⟨Nat.le_refl _,by simp [Tryz.f92],fun E hE=>?_⟩
 refine ze _ ?_
 (all_goals refine qgo ?_<;>(repeat' first | exact trivial | intro hc | refine And.intro ?_ ?_)<;>refine Lf.mk ?_)
 all_goals first
  | (refine zd (VS.mk (LeD.tt ?_));unfold yw;rw [decide_eq_true_eq];omega)
  | (refine zd (VS.mk (LeD.ff ?_));unfold yw;rw [decide_eq_false_iff_not];omega)
  | (refine zd (VS.mk (LeD.of_eq (congrArg D.bool ?_)));unfold yw;rw [Bool.eq_iff_iff];simp only [beq_iff_eq,decide_eq_true_eq];omega)
def yO (s:List UInt8):Bool:=decide (1≤s.length∧s.length≤10) && zL (s.getD 0 0) && s.all fun c=>(zL c || yw c) && !(c==46)
def okC (c:UInt8):Bool:=(zL c || yw c) && !(c==46)
attribute [local irreducible] zL yw yI
theorem zwJ {p:UInt8→Bool} {s:List UInt8} {k:Nat} (hk:k < s.length):(s.take (k+1)).all p=((s.take k).all p && p (s.getD k 0)):=by
 rw [List.take_succ_eq_append_getElem hk,List.all_append]
 simp [List.getD_eq_getElem?_getD,List.getElem?_eq_getElem hk]
theorem zo0 {p:UInt8→Bool} {s:List UInt8} {k:Nat} (hk:k < s.length) (h:p (s.getD k 0)=false):s.all p=false:=by
 rw [← List.take_append_drop k s,List.all_append,List.drop_eq_getElem_cons hk]
 have:s.getD k 0=s[k]:=by simp [List.getD_eq_getElem?_getD,List.getElem?_eq_getElem hk]
 rw [this] at h
 rw [List.all_cons,h,Bool.false_and,Bool.and_false]
theorem zo1:za Tryz.prog ziB (zy (fun _:List UInt8=>True) (fun s=>[.str s]) fun s=>.bool (yO s)):=by
 refine zf zh Tryz.func68 rfl (by decide) fun s _=>?_
 refine ⟨Nat.le_refl _,by simp [Tryz.f68],fun E hE=>?_⟩
 refine ze _ ?_
 (all_goals refine qgo ?_<;>(repeat' first | exact trivial | intro hc | refine And.intro ?_ ?_)<;>refine Lf.mk ?_)
 ·refine zd (VS.mk (LeD.ff ?_))
  unfold yO
  rw [decide_eq_false (by omega)]
  rfl
 ·refine zd (VS.mk (LeD.ff ?_))
  unfold yO
  rw [decide_eq_false (by omega)]
  rfl
 ·refine zd (VS.mk (LeD.ff ?_))
  have e:okC (s.getD 0 0)=false:=by
   have:s.getD 0 0=46:=UInt8.toNat_inj.1 (by exact_mod_cast hc)
   rw [this]
   unfold okC
   rw [Bool.and_eq_false_iff]
   exact .inr rfl
  have h2:s.all okC=false:=zo0 (k:=0) (by omega) e
  show (_ && _ && s.all okC)=false
  rw [h2,Bool.and_false]
 refine zb ju (s.getD 0 0) trivial (VS.mk (LeL.of_eq rfl)) ?_
 (all_goals refine qgo ?_<;>(repeat' first | exact trivial | intro hc | refine And.intro ?_ ?_)<;>refine Lf.mk ?_)
 ·refine zd (VS.mk (LeD.ff ?_))
  show (_ && zL (s.getD 0 0) && _)=false
  rw [hc,Bool.and_false,Bool.false_and]
 have hl0:zL (s.getD 0 0)=true:=by assumption
 refine yc (α:=Nat) (fun k=>k≤s.length∧(s.take k).all okC=true) (fun k=>[(0,.str s),(24,.int .i64 s.length),(25,.int .i64 k)]) (fun _=>[]) (fun k=>s.length - k) (fun _=>by simp [hE]) 0 ⟨Nat.zero_le _,by simp⟩ ?_ ?_
 ·(repeat' (first | (refine VS.mk ?_) | exact trivial | exact rfl | refine And.intro ?_ ?_))
 rintro k ⟨hk,hall⟩
 refine ze _ ?_
 (all_goals refine qgo ?_<;>(repeat' first | exact trivial | intro hc | refine And.intro ?_ ?_)<;>refine Lf.mk ?_)
 ·have hidx:((k:Int)).toNat=k:=Int.toNat_natCast k
  have hk':k < s.length:=by omega
  have hst:=zwJ (p:=okC) hk'
  have hsp:=zo0 (p:=okC) hk'
  have hok:okC (s.getD k 0)=((zL (s.getD k 0) || yw (s.getD k 0)) && !(s.getD k 0==46)):=rfl
  have h46:(((s.getD k 0).toNat:Nat):Int)=46→okC (s.getD k 0)=false:=fun h=>by
   have:s.getD k 0=46:=UInt8.toNat_inj.1 (by exact_mod_cast h)
   rw [hok,this]
   rw [Bool.and_eq_false_iff]
   exact .inr rfl
  have n46:¬ (((s.getD k 0).toNat:Nat):Int)=46→(s.getD k 0==46)=false:=fun h=>beq_eq_false_iff_ne.2 fun e=>h (by rw [e];rfl)
  have bad:okC (s.getD k 0)=false→yO s=false:=fun h=>by
   show (_ && zL (s.getD 0 0) && s.all okC)=false
   rw [hsp h,Bool.and_false]
  refine zb ju (s.getD k 0) trivial (VS.mk (LeL.of_eq (by rw [hidx];rfl))) ?_
  (all_goals refine qgo ?_<;>(repeat' first | exact trivial | intro hc | refine And.intro ?_ ?_)<;>refine Lf.mk ?_)
  ·refine zb zbV (s.getD k 0) trivial (VS.mk (LeL.of_eq (by rw [hidx];rfl))) ?_
   (all_goals refine qgo ?_<;>(repeat' first | exact trivial | intro hc | refine And.intro ?_ ?_)<;>refine Lf.mk ?_)
   ·refine zd (VS.mk (LeD.ff (bad ?_)))
    rw [hok,(by assumption:zL (s.getD k 0)=false),(by assumption:yw (s.getD k 0)=false)]
    rfl
   ·rw [hidx] at hc
    exact zd (VS.mk (LeD.ff (bad (h46 hc))))
   ·rw [hidx] at hc
    refine zF (k+1) ⟨by omega,?_⟩ (by omega) ?_
    rotate_left
    ·rw [hst,hall,hok,(by assumption:yw (s.getD k 0)=true),n46 hc,Bool.or_true]
     rfl
    ·(repeat' (first | (refine VS.mk ?_) | exact trivial | exact rfl | refine And.intro ?_ ?_))
  ·rw [hidx] at hc
   exact zd (VS.mk (LeD.ff (bad (h46 hc))))
  ·rw [hidx] at hc
   refine zF (k+1) ⟨by omega,?_⟩ (by omega) ?_
   rotate_left
   ·rw [hst,hall,hok,(by assumption:zL (s.getD k 0)=true),n46 hc]
    rfl
   ·(repeat' (first | (refine VS.mk ?_) | exact trivial | exact rfl | refine And.intro ?_ ?_))
 ·refine zd (VS.mk (LeD.tt ?_))
  rw [List.take_of_length_le (by omega)] at hall
  show (_ && zL (s.getD 0 0) && s.all okC)=true
  rw [hl0,hall,decide_eq_true (by omega)]
  rfl
theorem zuK {P:Program} {f:Nat} {α:Type} {I J:α→Prop} {A:α→List D} {R:α→D} (h:za P f (zy I A R)) (hJ:∀ p,J p→I p):za P f (zy J A R):=
 by
 unfold za at h ⊢
 exact ⟨h.1,fun av L d M ⟨p,hp,hr⟩=>h.2 av L d M ⟨p,hJ p hp,hr⟩⟩
theorem zfR:za Tryz.prog ziB (zy (fun s:List UInt8=>s.length≤1000000000) (fun s=>[.str s]) fun s=>.bool (yO s)):=zuK zo1 fun _ _=>trivial
attribute [local irreducible] okC
def yY (b:Int) (c:UInt8):Int:=
 if 48≤c.toNat∧c.toNat≤57 then (c.toNat:Int) - 48 else if b=16∧97≤c.toNat∧c.toNat≤102 then (c.toNat:Int) - 97+10
 else if b=16∧65≤c.toNat∧c.toNat≤70 then (c.toNat:Int) - 65+10 else -1
theorem zzR (b:Int) (c:UInt8): -1≤yY b c∧yY b c≤15:=by
 unfold yY
 repeat' split
 all_goals omega
def zeF (b:Int):List UInt8→Int→Option Int
 | [],n=>some n
 | c::r,n=>if yY b c < 0∨4294967295 < n then none else zeF b r (n * b+yY b c)
def zuL (ds:List UInt8):Option Int→Int×Bool
 | none=>(0,false)
 | some n=>(n,decide (n < 4294967296∧ds≠[]))
def zfS (b:Int) (ds:List UInt8):Int×Bool:=zuL ds (zeF b ds 0)
def wd (w:List UInt8):Int×Bool:=if 2 < w.length∧w.take 2=[48,120] then zfS 16 (w.drop 2) else zfS 10 w
theorem zee {α:Type} {l:List α} {k:Nat} {d:α} (h:k < l.length):l.drop k=l.getD k d::l.drop (k+1):=by
 rw [List.drop_eq_getElem_cons h,List.getD_eq_getElem?_getD,List.getElem?_eq_getElem h];rfl
attribute [local irreducible] yY
structure y8 where
 kind:Int
 n:Int
 text:List UInt8
def vw (t:y8):D:=.agg [.int .i64 t.kind,.int .i64 t.n,.str t.text]
def wk (c:UInt8):Bool:=decide (yI c=97) || decide (yI c=48) || c==47
def wo (c:UInt8):Bool:=(decide (yI c=97) && !(c==46)) || decide (yI c=48)
def zU (p:UInt8→Bool):List UInt8→Nat
 | []=>0
 | c::r=>if p c=true then zU p r+1 else 0
def ze5:List UInt8:=[58,44,35,64,40,41,43,45,42,38,124,126,61]
def vS:Nat→List UInt8→List y8→Option (List y8)
 | 0,_,out=>some out
 | _+1,[],out=>some out
 | f+1,c::r,out=>
  if yI c=32 then vS f r out
  else if yI c=97 then vS f ((c::r).drop (zU wk (c::r))) (out++[⟨1,0,(c::r).take (zU wk (c::r))⟩])
  else if yI c=48 then (if (wd ((c::r).take (zU wo (c::r)))).2=true then
    vS f ((c::r).drop (zU wo (c::r))) (out++[⟨2,(wd ((c::r).take (zU wo (c::r)))).1,[]⟩]) else none)
  else if c=59 then some out
  else if (c::r).take 2=[60,60]∨(c::r).take 2=[62,62] then vS f (r.drop 1) (out++[⟨3,0,(c::r).take 2⟩])
  else if ze5.contains c=true then vS f r (out++[⟨3,0,[c]⟩]) else none
def jv (s:List UInt8):List y8×Int:=if 80 < s.length then ([],4) else match vS (s.length+1) s [] with
 | some l=>(l,0)
 | none=>([],2)
theorem ze6 (p:UInt8→Bool):∀ l,zU p l≤l.length
 | []=>Nat.le_refl _
 | c::r=>by
  rw [zU]
  have:=ze6 p r
  split
  ·simp;omega
  ·simp
theorem zrR (p:UInt8→Bool):∀ l (k:Nat),k < zU p l→p (l.getD k 0)=true
 | [],k,h=>by rw [zU] at h;omega
 | c::r,k,h=>by
  rw [zU] at h
  split at h
  ·cases k with
   | zero=>assumption
   | succ k=>exact zrR p r k (by omega)
  ·omega
theorem zji (p:UInt8→Bool):∀ l,zU p l < l.length→p (l.getD (zU p l) 0)=false
 | [],h=>by simp at h
 | c::r,h=>by
  rw [zU] at h ⊢
  split
  ·rename_i hp
   rw [if_pos hp] at h
   exact zji p r (by simpa using h)
  ·rename_i hp
   simpa using hp
theorem zyF {p:UInt8→Bool} {l:List UInt8} {k:Nat} (hk:k≤l.length) (h:∀ j,j < k→p (l.getD j 0)=true) (he:k < l.length→p (l.getD k 0)=false):k=zU p l:=by
 have h1:=ze6 p l
 have h2:=zji p l
 rcases Nat.lt_trichotomy k (zU p l) with hlt | heq | hgt
 ·have:=zrR p l k hlt
  rw [he (by omega)] at this
  cases this
 ·exact heq
 ·have:=h _ hgt
  rw [h2 (by omega)] at this
  cases this
attribute [local irreducible] wd wk wo
theorem zc7 {c:UInt8} {r:List UInt8} (h:yI c=97):1≤zU wk (c::r):=by
 have e:wk c=true:=by unfold wk;rw [decide_eq_true h];rfl
 rw [zU,if_pos e];omega
theorem zef {c:UInt8} {r:List UInt8} (h:yI c=48):1≤zU wo (c::r):=by
 have e:wo c=true:=by unfold wo;rw [decide_eq_true h,Bool.or_true]
 rw [zU,if_pos e];omega
theorem zfT:∀ (f g:Nat) (l:List UInt8) (out:List y8),l.length < f→l.length < g→vS f l out=vS g l out
 | 0,_,_,_,h,_=>absurd h (Nat.not_lt_zero _)
 | _+1,0,_,_,_,h=>absurd h (Nat.not_lt_zero _)
 | f+1,g+1,[],out,_,_=>rfl
 | f+1,g+1,c::r,out,hf,hg=>by
  have hf:r.length < f:=by simpa using hf
  have hg:r.length < g:=by simpa using hg
  have ih:=zfT f g
  have hd:∀ n,1≤n→((c::r).drop n).length≤r.length:=fun n hn=>by rw [List.length_drop,List.length_cons];omega
  rw [vS,vS]
  split
  ·exact ih _ _ hf hg
  split
  ·rename_i h
   have:=hd _ (zc7 (r:=r) h)
   exact ih _ _ (by omega) (by omega)
  split
  ·rename_i h
   have:=hd _ (zef (r:=r) h)
   split
   ·exact ih _ _ (by omega) (by omega)
   ·rfl
  split
  ·rfl
  split
  ·have:(r.drop 1).length≤r.length:=by rw [List.length_drop];omega
   exact ih _ _ (by omega) (by omega)
  split
  ·exact ih _ _ hf hg
  ·rfl
def we (l:List UInt8) (out:List y8):Option (List y8):=vS (l.length+1) l out
theorem zo2 (out:List y8):we [] out=some out:=rfl
theorem qH (c:UInt8) (r:List UInt8) (out:List y8):we (c::r) out =
  if yI c=32 then we r out
  else if yI c=97 then we ((c::r).drop (zU wk (c::r))) (out++[⟨1,0,(c::r).take (zU wk (c::r))⟩])
  else if yI c=48 then (if (wd ((c::r).take (zU wo (c::r)))).2=true then
    we ((c::r).drop (zU wo (c::r))) (out++[⟨2,(wd ((c::r).take (zU wo (c::r)))).1,[]⟩]) else none)
  else if c=59 then some out
  else if (c::r).take 2=[60,60]∨(c::r).take 2=[62,62] then we (r.drop 1) (out++[⟨3,0,(c::r).take 2⟩])
  else if ze5.contains c=true then we r (out++[⟨3,0,[c]⟩]) else none:=by
 have hd:∀ n,1≤n→((c::r).drop n).length≤r.length:=fun n hn=>by rw [List.length_drop,List.length_cons];omega
 unfold we
 rw [List.length_cons,vS]
 split
 ·rfl
 split
 ·rename_i h
  have:=hd _ (zc7 (r:=r) h)
  exact zfT _ _ _ _ (by omega) (by omega)
 split
 ·rename_i h
  have:=hd _ (zef (r:=r) h)
  split
  ·exact zfT _ _ _ _ (by omega) (by omega)
  ·rfl
 split
 ·rfl
 split
 ·have:(r.drop 1).length≤r.length:=by rw [List.length_drop];omega
  exact zfT _ _ _ _ (by omega) (by omega)
 ·rfl
def zuM:Option (List y8)→List y8×Int
 | some l=>(l,0)
 | none=>([],2)
theorem zyG (s:List UInt8):jv s=if 80 < s.length then ([],4) else zuM (we s []):=by
 unfold jv we zuM;rfl
def zAT (p:List y8×Int):D:=.tup [.sl 3 (p.1.map vw) none,.int .i64 p.2]
attribute [local irreducible] vS we zU
end Go.Proofs.YtnkdeacghopkiaaGreatDoor
namespace Go.Plat
open Go Go.Sort
set_option linter.unusedVariables false
set_option linter.unusedSimpArgs false
theorem Ext.growL (w:World):∀ (l:List Obj),Ext F0 w (Sort.grow w l.toArray)
 | []=>by rw [show (([]:List Obj).toArray)= #[] from rfl,grow_empty];exact .refl _ _
 | o::l=>by
  have e:Sort.grow w (o::l).toArray=Sort.grow (w.alloc o) l.toArray:=by
   rw [alloc_eq_grow,grow_grow]
   congr 1
   simp
  rw [e]
  exact (Ext.alloc w o).trans0 (Ext.growL _ l)
theorem Ext.growD (w:World) (k:Nat) (os:Array Obj):Ext F0 w (Sort.grow (w.drewN k) os):=by
 have h1:Ext F0 w (w.drewN k):=⟨rfl,rfl,rfl,Nat.le_refl _,fun _ _ _=>rfl,fun _ _ _ _=>rfl,fun _ _ _ _ _ h=>h⟩
 have h2:=Ext.growL (w.drewN k) os.toList
 simp only [Array.toArray_toList] at h2
 exact h1.trans0 h2
theorem Ext.below {w w':World} (h:Go.RowKit.Below w.heap.size w w'):Ext F0 w w':=
 ⟨h.os,h.tape,h.output,h.size,fun b hb _=>h.block b hb,fun b off hb _=>by simp only [World.cell?,h.block b hb],fun b off v _ hv hs=>by
   have hb:=h.block b (zdo hv)
   unfold x7 World.frozen? znD at hs ⊢
   rw [hb]
   exact hs⟩
theorem GOk.tab {w:World} {F:Nat→Nat→Prop} (h:GOk w F) {P:Program} {name:String} {g:Nat} {ns:List Nat} {k:IntKind} {zs:List Int}
  (hn:P.globalNamed name=some g) (hg:zfe zhJ g=some (ns.map fun n=>D.int k (n:Nat))) (hz:zs=ns.map fun n=>((n:Nat):Int)) (h2:ns≠[]):Lib.TabIs P w name k zs:=by
 obtain ⟨h1,_,⟨row,t,z,h3,h4⟩,_⟩:=h g _ hg
 have hs:row.size=ns.length:=by
  rcases h4 with h4 | h4
  ·rw [h4,List.length_map]
  ·match ns,h2 with
   | n::r,_=>cases h4
 unfold Lib.TabIs World.var?
 rw [hn]
 show (match w.heap[g]? with
  | some (.cells cs _ _)=>some cs
  | _=>none)=_
 rw [h3]
 dsimp only
 congr 1
 apply Array.ext_getElem?
 intro j
 subst hz
 by_cases hj:j < ns.length
 ·have hc:(ns.map fun n=>D.int k (n:Nat))[j]?=some (.int k (ns[j]:Nat)):=by rw [List.getElem?_map,List.getElem?_eq_getElem hj];rfl
  obtain ⟨b,off,e,hv⟩:=(Rep.pure (ρ:=⟨fun _=>⟨0,0,0⟩,fun _ _=>False⟩) (L:=[]) _ _ h1).ptr_inv
  cases e
  obtain ⟨u,h5,_,h6⟩:=hv j _ hc
  cases h6
  rw [Nat.zero_add] at h5
  simp only [World.cell?,h3] at h5
  have h5:row[j]?=_:=h5
  rw [h5]
  simp [hj]
 ·rw [Array.getElem?_eq_none (by omega)]
  simp [Nat.le_of_not_lt hj]
theorem zcM.le {w:World} {F:Nat→Nat→Prop} {ρ:Pl} {L:List Ob} {ds ds':List D} {vs:List Value} (has:LeL ds ds') (hr:zcM w F ρ L ds vs):zcM w F ρ L ds' vs:=by
 refine ⟨hr.1.trans has.1,fun i d v h1 h2=>?_⟩
 have hlt:i < ds.length:=by rw [has.1];exact (List.getElem?_eq_some_iff.1 h1).1
 exact has.2 i _ d (List.getElem?_eq_getElem hlt) h1 _ _ _ _ _ (hr.2 i _ v (List.getElem?_eq_getElem hlt) h2)
theorem zaK {P:Program} {f:Nat} {α:Type} {I:α→Prop} {A:α→List D} {R:α→D} (hc:zbx P f)
  (h:∀ p,I p→∀ (w:World) (F:Nat→Nat→Prop),GOk w F→∀ vs:List Value,vs.length=(A p).length→(∀ (i:Nat) d v,(A p)[i]?=some d→vs[i]?=some v→zJ w F d v) →
    Calls P f vs.toArray w fun e w'=>∃ v,e= .returned v∧Ext F0 w w'∧zJ w' F (R p) v):za P f (zy I A R):=by
 refine ⟨hc,?_⟩
 rintro av L d L' ⟨p,hI,has,rfl,rfl,rfl⟩ w ρ vs hf hr
 have hr:=hr.le has
 refine (h p hI w _ hf.glob vs hr.1 fun i d v h1 h2=>zhP (hr.2 i d v h1 h2)).mono ?_
 rintro e w' ⟨v,rfl,he,hv⟩
 exact ⟨v,ρ,rfl,hf.grow he,.pure _ _ hv,he.grow,.refl _ _,.refl _ _⟩
end Go.Plat
namespace Go.Proofs
open Go.Shelf
def Tryz.laysM171_ren:Go.Shelf.Ren:=⟨fun | 171=>11 | 243=>24 | 246=>38 | 283=>61 | 284=>62 | 285=>63 | 286=>64 | 129=>80 | 317=>79 | 318=>81 | 319=>82 | 320=>83 | 337=>97 | 338=>98 | n=>n,fun | 3=>3 | 9=>9 | 2=>2 | 4=>4 | 171=>131 | 0=>0 | 53=>132 | 37=>36 | 5=>5 | 173=>135 | 212=>158 | 51=>159 | 20=>20 | 213=>160 | 46=>149 | 232=>235 | 233=>236 | n=>n,fun | 17=>0 | 18=>1 | 19=>2 | n=>n⟩
theorem Tryz.laysM171:Go.Proofs.LaysM.n171 Tryz.prog Tryz.laysM171_ren:={
 mixed:=by kernel_rfl
 f129:=Tryz.func80.trans (congrArg some (by kernel_rfl))
 f171:=Tryz.func11.trans (congrArg some (by kernel_rfl))
 f243:=Tryz.func24.trans (congrArg some (by kernel_rfl))
 f246:=Tryz.func38.trans (congrArg some (by kernel_rfl))
 f283:=Tryz.func61.trans (congrArg some (by kernel_rfl))
 f284:=Tryz.func62.trans (congrArg some (by kernel_rfl))
 f285:=Tryz.func63.trans (congrArg some (by kernel_rfl))
 f286:=Tryz.func64.trans (congrArg some (by kernel_rfl))
 f317:=Tryz.func79.trans (congrArg some (by kernel_rfl))
 f318:=Tryz.func81.trans (congrArg some (by kernel_rfl))
 f319:=Tryz.func82.trans (congrArg some (by kernel_rfl))
 f320:=Tryz.func83.trans (congrArg some (by kernel_rfl))
 f337:=Tryz.func97.trans (congrArg some (by kernel_rfl))
 f338:=Tryz.func98.trans (congrArg some (by kernel_rfl))
 t0:=Tryz.underlying0
 a0:=Tryz.isAgg0
 z0:=Tryz.sizeOf0
 v0:=Tryz.zeroValue0
 t2:=Tryz.underlying2
 a2:=Tryz.isAgg2
 z2:=Tryz.sizeOf2
 v2:=Tryz.zeroValue2
 t3:=Tryz.underlying3
 a3:=Tryz.isAgg3
 z3:=Tryz.sizeOf3
 v3:=Tryz.zeroValue3
 t4:=Tryz.underlying4
 a4:=Tryz.isAgg4
 z4:=Tryz.sizeOf4
 v4:=Tryz.zeroValue4
 t5:=Tryz.underlying5
 a5:=Tryz.isAgg5
 z5:=Tryz.sizeOf5
 v5:=Tryz.zeroValue5
 t9:=Tryz.underlying9
 a9:=Tryz.isAgg9
 z9:=Tryz.sizeOf9
 v9:=Tryz.zeroValue9
 t20:=Tryz.underlying20
 a20:=Tryz.isAgg20
 z20:=Tryz.sizeOf20
 v20:=Tryz.zeroValue20
 t37:=Tryz.underlying36
 a37:=Tryz.isAgg36
 z37:=Tryz.sizeOf36
 v37:=Tryz.zeroValue36
 t46:=Tryz.underlying149
 a46:=Tryz.isAgg149
 z46:=Tryz.sizeOf149
 v46:=Tryz.zeroValue149
 t51:=Tryz.underlying159
 a51:=Tryz.isAgg159
 z51:=Tryz.sizeOf159
 v51:=Tryz.zeroValue159
 t53:=Tryz.underlying132
 a53:=Tryz.isAgg132
 z53:=Tryz.sizeOf132
 v53:=Tryz.zeroValue132
 t171:=Tryz.underlying131
 a171:=Tryz.isAgg131
 z171:=Tryz.sizeOf131
 v171:=Tryz.zeroValue131
 t173:=Tryz.underlying135
 a173:=Tryz.isAgg135
 z173:=Tryz.sizeOf135
 v173:=Tryz.zeroValue135
 t212:=Tryz.underlying158
 a212:=Tryz.isAgg158
 z212:=Tryz.sizeOf158
 v212:=Tryz.zeroValue158
 t213:=Tryz.underlying160
 a213:=Tryz.isAgg160
 z213:=Tryz.sizeOf160
 t232:=Tryz.underlying235
 a232:=Tryz.isAgg235
 z232:=Tryz.sizeOf235
 v232:=Tryz.zeroValue235
 t233:=Tryz.underlying236
 a233:=Tryz.isAgg236
 z233:=Tryz.sizeOf236
 v233:=Tryz.zeroValue236
 g17:=by kernel_rfl
 g18:=by kernel_rfl
 g19:=by kernel_rfl
 i0:=by kernel_rfl
 i2:=by kernel_rfl
 i3:=by kernel_rfl
 i4:=by kernel_rfl
 i5:=by kernel_rfl
 i9:=by kernel_rfl
 i20:=by kernel_rfl
 i37:=by kernel_rfl
 i46:=by kernel_rfl
 i51:=by kernel_rfl
 i53:=by kernel_rfl
 i171:=by kernel_rfl
 i173:=by kernel_rfl
 i212:=by kernel_rfl
 i232:=by kernel_rfl
 i233:=by kernel_rfl
 m17:=by kernel_rfl
 m18:=by kernel_rfl
 m19:=by kernel_rfl }
open Go.RowKit Go.Sort Go.Lib in
theorem Tryz.strconv_Itoa (n : Int) (h0 : -9223372036854775808 ≤ n) (h1 : n ≤ 9223372036854775807) (w : World) (htab : Lib.TabIs Tryz.prog w "internal/strconv.uint64pow10" .u64 Lib.pow10Tab) :
  Calls Tryz.prog 11 #[.int .i64 n] w fun e w'=>e= .returned (.string ⟨(Lib.itoa n).toArray⟩)∧∃ k os,w'=grow (w.drewN k) os:=Any.strconv_Itoa Tryz.laysM171 n h0 h1 w htab
def Tryz.laysM279_ren:Go.Shelf.Ren:=⟨fun | 279=>184 | 316=>194 | n=>n,fun | 9=>9 | 168=>290 | 75=>240 | 210=>306 | 3=>3 | 4=>4 | 37=>36 | 0=>0 | 127=>317 | 80=>322 | 5=>5 | n=>n,fun | 15=>6 | n=>n⟩
theorem Tryz.laysM279:Go.Proofs.LaysM.n279 Tryz.prog Tryz.laysM279_ren:={
 mixed:=by kernel_rfl
 f279:=Tryz.func184.trans (congrArg some (by kernel_rfl))
 f316:=Tryz.func194.trans (congrArg some (by kernel_rfl))
 t0:=Tryz.underlying0
 a0:=Tryz.isAgg0
 z0:=Tryz.sizeOf0
 v0:=Tryz.zeroValue0
 t3:=Tryz.underlying3
 a3:=Tryz.isAgg3
 z3:=Tryz.sizeOf3
 v3:=Tryz.zeroValue3
 t4:=Tryz.underlying4
 a4:=Tryz.isAgg4
 z4:=Tryz.sizeOf4
 v4:=Tryz.zeroValue4
 t9:=Tryz.underlying9
 a9:=Tryz.isAgg9
 z9:=Tryz.sizeOf9
 v9:=Tryz.zeroValue9
 t37:=Tryz.underlying36
 a37:=Tryz.isAgg36
 z37:=Tryz.sizeOf36
 v37:=Tryz.zeroValue36
 t75:=Tryz.underlying240
 a75:=Tryz.isAgg240
 z75:=Tryz.sizeOf240
 v75:=Tryz.zeroValue240
 t127:=Tryz.underlying317
 a127:=Tryz.isAgg317
 z127:=Tryz.sizeOf317
 v127:=Tryz.zeroValue317
 t168:=Tryz.underlying290
 a168:=Tryz.isAgg290
 z168:=Tryz.sizeOf290
 v168:=Tryz.zeroValue290
 t210:=Tryz.underlying306
 a210:=Tryz.isAgg306
 z210:=Tryz.sizeOf306
 v210:=Tryz.zeroValue306
 g15:=by kernel_rfl
 t5:=Tryz.underlying5
 a5:=Tryz.isAgg5
 z5:=Tryz.sizeOf5
 v5:=Tryz.zeroValue5
 t80:=Tryz.underlying322
 a80:=Tryz.isAgg322
 z80:=Tryz.sizeOf322
 v80:=Tryz.zeroValue322
 i0:=by kernel_rfl
 i3:=by kernel_rfl
 i4:=by kernel_rfl
 i5:=by kernel_rfl
 i9:=by kernel_rfl
 i37:=by kernel_rfl
 i75:=by kernel_rfl
 i80:=by kernel_rfl
 i127:=by kernel_rfl
 i168:=by kernel_rfl
 i210:=by kernel_rfl
 m15:=by kernel_rfl }
open Go.RowKit in
theorem Tryz.strconv_syntaxError (fn s:ByteArray) (ev:Value) (w:World) (hlim:s.size≤281474976710656) (hv:w.cell? ⟨6,0,none⟩=some ev) (hev:ev= .nilIface∨∃ te pe,ev= .iface te pe) :
  Calls Tryz.prog 184 #[.string fn,.string s] w fun e w'=>∃ N,e= .returned (.pointer (some ⟨N,0,none⟩))∧w.heap.size≤N∧w'.heap[N]?=some (.cells #[.string fn,.string s,ev] 306 (0,0))∧Below w.heap.size w w':=Any.strconv_syntaxError Tryz.laysM279 fn s ev w hlim hv hev
def Tryz.laysM280_ren:Go.Shelf.Ren:=⟨fun | 280=>185 | 316=>194 | n=>n,fun | 9=>9 | 168=>290 | 75=>240 | 210=>306 | 3=>3 | 4=>4 | 37=>36 | 0=>0 | 127=>317 | 80=>322 | 5=>5 | n=>n,fun | 16=>7 | n=>n⟩
theorem Tryz.laysM280:Go.Proofs.LaysM.n280 Tryz.prog Tryz.laysM280_ren:={
 mixed:=by kernel_rfl
 f280:=Tryz.func185.trans (congrArg some (by kernel_rfl))
 f316:=Tryz.func194.trans (congrArg some (by kernel_rfl))
 t0:=Tryz.underlying0
 a0:=Tryz.isAgg0
 z0:=Tryz.sizeOf0
 v0:=Tryz.zeroValue0
 t3:=Tryz.underlying3
 a3:=Tryz.isAgg3
 z3:=Tryz.sizeOf3
 v3:=Tryz.zeroValue3
 t4:=Tryz.underlying4
 a4:=Tryz.isAgg4
 z4:=Tryz.sizeOf4
 v4:=Tryz.zeroValue4
 t9:=Tryz.underlying9
 a9:=Tryz.isAgg9
 z9:=Tryz.sizeOf9
 v9:=Tryz.zeroValue9
 t37:=Tryz.underlying36
 a37:=Tryz.isAgg36
 z37:=Tryz.sizeOf36
 v37:=Tryz.zeroValue36
 t75:=Tryz.underlying240
 a75:=Tryz.isAgg240
 z75:=Tryz.sizeOf240
 v75:=Tryz.zeroValue240
 t127:=Tryz.underlying317
 a127:=Tryz.isAgg317
 z127:=Tryz.sizeOf317
 v127:=Tryz.zeroValue317
 t168:=Tryz.underlying290
 a168:=Tryz.isAgg290
 z168:=Tryz.sizeOf290
 v168:=Tryz.zeroValue290
 t210:=Tryz.underlying306
 a210:=Tryz.isAgg306
 z210:=Tryz.sizeOf306
 v210:=Tryz.zeroValue306
 g16:=by kernel_rfl
 t5:=Tryz.underlying5
 a5:=Tryz.isAgg5
 z5:=Tryz.sizeOf5
 v5:=Tryz.zeroValue5
 t80:=Tryz.underlying322
 a80:=Tryz.isAgg322
 z80:=Tryz.sizeOf322
 v80:=Tryz.zeroValue322
 i0:=by kernel_rfl
 i3:=by kernel_rfl
 i4:=by kernel_rfl
 i5:=by kernel_rfl
 i9:=by kernel_rfl
 i37:=by kernel_rfl
 i75:=by kernel_rfl
 i80:=by kernel_rfl
 i127:=by kernel_rfl
 i168:=by kernel_rfl
 i210:=by kernel_rfl
 m16:=by kernel_rfl }
open Go.RowKit in
theorem Tryz.strconv_rangeError (fn s:ByteArray) (ev:Value) (w:World) (hlim:s.size≤281474976710656) (hv:w.cell? ⟨7,0,none⟩=some ev) (hev:ev= .nilIface∨∃ te pe,ev= .iface te pe) :
  Calls Tryz.prog 185 #[.string fn,.string s] w fun e w'=>∃ N,e= .returned (.pointer (some ⟨N,0,none⟩))∧w.heap.size≤N∧w'.heap[N]?=some (.cells #[.string fn,.string s,ev] 306 (0,0))∧Below w.heap.size w w':=Any.strconv_rangeError Tryz.laysM280 fn s ev w hlim hv hev
def Tryz.lays219_ren:Go.Shelf.Ren:=⟨fun | 219=>166 | 217=>178 | 225=>179 | 224=>180 | 267=>181 | 266=>192 | 314=>193 | n=>n,fun | 9=>9 | 3=>3 | 4=>4 | 5=>5 | 46=>149 | 146=>302 | 51=>159 | n=>n,fun | 1=>3 | n=>n⟩
theorem Tryz.lays219:Go.Proofs.Lays.n219 Tryz.prog Tryz.lays219_ren:={
 mixed:=by kernel_rfl
 f217:=Tryz.func178.trans (congrArg some (by kernel_rfl))
 f219:=Tryz.func166.trans (congrArg some (by kernel_rfl))
 f224:=Tryz.func180.trans (congrArg some (by kernel_rfl))
 f225:=Tryz.func179.trans (congrArg some (by kernel_rfl))
 f266:=Tryz.func192.trans (congrArg some (by kernel_rfl))
 f267:=Tryz.func181.trans (congrArg some (by kernel_rfl))
 f314:=Tryz.func193.trans (congrArg some (by kernel_rfl))
 t3:=Tryz.underlying3
 a3:=Tryz.isAgg3
 z3:=Tryz.sizeOf3
 v3:=Tryz.zeroValue3
 t4:=Tryz.underlying4
 a4:=Tryz.isAgg4
 z4:=Tryz.sizeOf4
 v4:=Tryz.zeroValue4
 t5:=Tryz.underlying5
 a5:=Tryz.isAgg5
 z5:=Tryz.sizeOf5
 v5:=Tryz.zeroValue5
 t9:=Tryz.underlying9
 a9:=Tryz.isAgg9
 z9:=Tryz.sizeOf9
 v9:=Tryz.zeroValue9
 t46:=Tryz.underlying149
 a46:=Tryz.isAgg149
 z46:=Tryz.sizeOf149
 v46:=Tryz.zeroValue149
 t51:=Tryz.underlying159
 a51:=Tryz.isAgg159
 z51:=Tryz.sizeOf159
 v51:=Tryz.zeroValue159
 t146:=Tryz.underlying302
 a146:=Tryz.isAgg302
 z146:=Tryz.sizeOf302
 v146:=Tryz.zeroValue302
 g1:=by kernel_rfl }
open Go.RowKit Go.Lib in
theorem Tryz.stringslite_Index_one (s:ByteArray) (c:UInt8) (w:World) :
  Calls Tryz.prog 166 #[.string s,.string ⟨#[c]⟩] w fun e w'=>e= .returned (.int .i64 (Lib.indexByte s.data.toList c))∧w'=w:=Any.stringslite_Index_one Tryz.lays219 s c w
def Tryz.lays144_ren:Go.Shelf.Ren:=⟨fun | 144=>137 | 143=>133 | 219=>166 | 217=>178 | 225=>179 | 224=>180 | 267=>181 | 266=>192 | 314=>193 | n=>n,fun | 9=>9 | 4=>4 | 3=>3 | 5=>5 | 46=>149 | 146=>302 | 51=>159 | n=>n,fun | 1=>3 | n=>n⟩
theorem Tryz.lays144:Go.Proofs.Lays.n144 Tryz.prog Tryz.lays144_ren:={
 mixed:=by kernel_rfl
 f143:=Tryz.func133.trans (congrArg some (by kernel_rfl))
 f144:=Tryz.func137.trans (congrArg some (by kernel_rfl))
 f217:=Tryz.func178.trans (congrArg some (by kernel_rfl))
 f219:=Tryz.func166.trans (congrArg some (by kernel_rfl))
 f224:=Tryz.func180.trans (congrArg some (by kernel_rfl))
 f225:=Tryz.func179.trans (congrArg some (by kernel_rfl))
 f266:=Tryz.func192.trans (congrArg some (by kernel_rfl))
 f267:=Tryz.func181.trans (congrArg some (by kernel_rfl))
 f314:=Tryz.func193.trans (congrArg some (by kernel_rfl))
 t3:=Tryz.underlying3
 a3:=Tryz.isAgg3
 z3:=Tryz.sizeOf3
 v3:=Tryz.zeroValue3
 t4:=Tryz.underlying4
 a4:=Tryz.isAgg4
 z4:=Tryz.sizeOf4
 v4:=Tryz.zeroValue4
 t5:=Tryz.underlying5
 a5:=Tryz.isAgg5
 z5:=Tryz.sizeOf5
 v5:=Tryz.zeroValue5
 t9:=Tryz.underlying9
 a9:=Tryz.isAgg9
 z9:=Tryz.sizeOf9
 v9:=Tryz.zeroValue9
 t46:=Tryz.underlying149
 a46:=Tryz.isAgg149
 z46:=Tryz.sizeOf149
 v46:=Tryz.zeroValue149
 t51:=Tryz.underlying159
 a51:=Tryz.isAgg159
 z51:=Tryz.sizeOf159
 v51:=Tryz.zeroValue159
 t146:=Tryz.underlying302
 a146:=Tryz.isAgg302
 z146:=Tryz.sizeOf302
 v146:=Tryz.zeroValue302
 g1:=by kernel_rfl }
open Go.RowKit Go.Lib in
theorem Tryz.strings_Contains_one (s:ByteArray) (c:UInt8) (w:World) :
  Calls Tryz.prog 137 #[.string s,.string ⟨#[c]⟩] w fun e w'=>e= .returned (.bool (decide (0≤Lib.indexByte s.data.toList c)))∧w'=w:=Any.strings_Contains_one Tryz.lays144 s c w
def Tryz.lays138_ren:Go.Shelf.Ren:=⟨fun | 138=>132 | 195=>163 | 218=>165 | 143=>133 | 219=>166 | 217=>178 | 225=>179 | 224=>180 | 267=>181 | 266=>192 | 314=>193 | n=>n,fun | 9=>9 | 3=>3 | 4=>4 | 5=>5 | 0=>0 | 46=>149 | 146=>302 | 51=>159 | n=>n,fun | 1=>3 | n=>n⟩
theorem Tryz.lays138:Go.Proofs.Lays.n138 Tryz.prog Tryz.lays138_ren:={
 mixed:=by kernel_rfl
 f138:=Tryz.func132.trans (congrArg some (by kernel_rfl))
 f143:=Tryz.func133.trans (congrArg some (by kernel_rfl))
 f195:=Tryz.func163.trans (congrArg some (by kernel_rfl))
 f217:=Tryz.func178.trans (congrArg some (by kernel_rfl))
 f218:=Tryz.func165.trans (congrArg some (by kernel_rfl))
 f219:=Tryz.func166.trans (congrArg some (by kernel_rfl))
 f224:=Tryz.func180.trans (congrArg some (by kernel_rfl))
 f225:=Tryz.func179.trans (congrArg some (by kernel_rfl))
 f266:=Tryz.func192.trans (congrArg some (by kernel_rfl))
 f267:=Tryz.func181.trans (congrArg some (by kernel_rfl))
 f314:=Tryz.func193.trans (congrArg some (by kernel_rfl))
 t0:=Tryz.underlying0
 a0:=Tryz.isAgg0
 z0:=Tryz.sizeOf0
 v0:=Tryz.zeroValue0
 t3:=Tryz.underlying3
 a3:=Tryz.isAgg3
 z3:=Tryz.sizeOf3
 v3:=Tryz.zeroValue3
 t4:=Tryz.underlying4
 a4:=Tryz.isAgg4
 z4:=Tryz.sizeOf4
 v4:=Tryz.zeroValue4
 t5:=Tryz.underlying5
 a5:=Tryz.isAgg5
 z5:=Tryz.sizeOf5
 v5:=Tryz.zeroValue5
 t9:=Tryz.underlying9
 a9:=Tryz.isAgg9
 z9:=Tryz.sizeOf9
 v9:=Tryz.zeroValue9
 t46:=Tryz.underlying149
 a46:=Tryz.isAgg149
 z46:=Tryz.sizeOf149
 v46:=Tryz.zeroValue149
 t51:=Tryz.underlying159
 a51:=Tryz.isAgg159
 z51:=Tryz.sizeOf159
 v51:=Tryz.zeroValue159
 t146:=Tryz.underlying302
 a146:=Tryz.isAgg302
 z146:=Tryz.sizeOf302
 v146:=Tryz.zeroValue302
 g1:=by kernel_rfl }
open Go.RowKit Go.Lib in
theorem Tryz.strings_Count_one (s:ByteArray) (c:UInt8) (w:World) :
  Calls Tryz.prog 132 #[.string s,.string ⟨#[c]⟩] w fun e w'=>e= .returned (.int .i64 (Lib.countByte s.data.toList c))∧w'=w:=Any.strings_Count_one Tryz.lays138 s c w
end Go.Proofs
namespace Go.Proofs.YtnkdeacghopkiaaGreatDoor
open Go Go.Plat
set_option linter.unusedVariables false
set_option linter.unusedSimpArgs false
set_option maxRecDepth 100000
set_option maxHeartbeats 2000000
attribute [local irreducible] AWP zG yn zK zn yA z8 zI zY z6 zw za zN yB zt z7 yx yy yq yt zx zz zD yw yI zL vS we wo wd okC zU wk
theorem zeg (c:UInt8):∀ s:List UInt8,(Lib.indexByte s c= -1∧s.contains c=false∧(s.takeWhile (· != c))=s) ∨
  (0≤Lib.indexByte s c∧s.contains c=true∧Lib.indexByte s c=((s.takeWhile (· != c)).length:Int)∧s.drop ((s.takeWhile (· != c)).length+1)=(s.dropWhile (· != c)).drop 1∧(s.takeWhile (· != c)).length < s.length)
 | []=>.inl ⟨rfl,rfl,rfl⟩
 | b::l=>by
  rw [Lib.indexByte]
  by_cases h:b=c
  ·subst h
   right
   rw [if_pos (by simp)]
   simp
  ·have e:(b==c)=false:=beq_eq_false_iff_ne.2 h
   have e1:(c==b)=false:=beq_eq_false_iff_ne.2 fun q=>h q.symm
   have e2:(b != c)=true:=by simp [bne,e]
   rw [e,List.contains_cons,e1,Bool.false_or,List.takeWhile_cons,List.dropWhile_cons,e2]
   rw [if_neg (by decide),if_pos rfl,if_pos rfl]
   rcases zeg c l with ⟨h1,h2,h3⟩ | ⟨h1,h2,h3,h4,h5⟩
   ·left
    rw [h1,h3]
    exact ⟨rfl,h2,rfl⟩
   ·right
    have e3:(Lib.indexByte l c== -1)=false:=beq_eq_false_iff_ne.2 (by omega)
    rw [e3,if_neg (by decide)]
    refine ⟨by omega,h2,?_,?_,?_⟩
    ·rw [List.length_cons];omega
    ·rw [List.length_cons,List.drop_succ_cons,h4]
    ·rw [List.length_cons,List.length_cons];omega
theorem zuN (c:UInt8) (s:List UInt8):decide (0≤Lib.indexByte s c)=s.contains c:=by
 rcases zeg c s with ⟨h1,h2,_⟩ | ⟨h1,h2,_⟩
 ·rw [h1,h2];rfl
 ·rw [h2,decide_eq_true h1]
theorem jN:za Tryz.prog zhc (zy (fun _:List UInt8×UInt8=>True) (fun (s,c)=>[.str s,.str [c]]) fun (s,c)=>.bool (s.contains c)):=by
 refine zaK ⟨_,Tryz.func137,by decide,rfl⟩ ?_
 rintro ⟨s,c⟩ - w F hg vs hl hv
 match vs,hl with
 | [a,b],_=>
  cases hv 0 _ a rfl rfl
  cases hv 1 _ b rfl rfl
  refine (Go.Proofs.Tryz.strings_Contains_one ⟨s.toArray⟩ c w).mono ?_
  rintro e w' ⟨rfl,rfl⟩
  refine ⟨_,rfl,.refl _ _,?_⟩
  show zJ w' F (.bool (s.contains c)) _
  rw [← zuN c s]
  exact .bool _
theorem zgr:za Tryz.prog zbC (zy (fun _:List UInt8×UInt8=>True) (fun (s,c)=>[.str s,.str [c]]) fun (s,c)=>.int .i64 (Lib.indexByte s c)):=by
 refine zaK ⟨_,Tryz.func166,by decide,rfl⟩ ?_
 rintro ⟨s,c⟩ - w F hg vs hl hv
 match vs,hl with
 | [a,b],_=>
  cases hv 0 _ a rfl rfl
  cases hv 1 _ b rfl rfl
  refine (Go.Proofs.Tryz.stringslite_Index_one ⟨s.toArray⟩ c w).mono ?_
  rintro e w' ⟨rfl,rfl⟩
  exact ⟨_,rfl,.refl _ _,.int _ _⟩
theorem zo3:za Tryz.prog zku (zy (fun _:List UInt8×UInt8=>True) (fun (s,c)=>[.str s,.str [c]]) fun (s,c)=>.int .i64 (Lib.indexByte s c)):=by
 refine zf zh Tryz.func133 rfl (by decide) ?_
 rintro ⟨s,c⟩ -
 refine ⟨Nat.le_refl _,by simp [Tryz.f133],fun E hE=>?_⟩
 refine ze _ ?_
 (all_goals refine qgp (Lf.mk ?_))
 refine zb zgr (s,c) trivial (VS.mk (LeL.of_eq rfl)) ?_
 (all_goals refine qgp (Lf.mk ?_))
 exact zd (VS.mk (LeD.of_eq rfl))
theorem zq7:za Tryz.prog zkt (zy (fun _:List UInt8×UInt8=>True) (fun (s,c)=>[.str s,.str [c]]) fun (s,c)=>.int .i64 ((s.count c:Nat):Int)):=by
 refine zaK ⟨_,Tryz.func132,by decide,rfl⟩ ?_
 rintro ⟨s,c⟩ - w F hg vs hl hv
 match vs,hl with
 | [a,b],_=>
  cases hv 0 _ a rfl rfl
  cases hv 1 _ b rfl rfl
  refine (Go.Proofs.Tryz.strings_Count_one ⟨s.toArray⟩ c w).mono ?_
  rintro e w' ⟨rfl,rfl⟩
  exact ⟨_,rfl,.refl _ _,.int _ _⟩
def zwK (c:UInt8) (s:List UInt8):List UInt8×List UInt8×Bool:=(s.takeWhile (· != c),(s.dropWhile (· != c)).drop 1,s.contains c)
def zwL (p:List UInt8×List UInt8×Bool):D:=.tup [.str p.1,.str p.2.1,.bool p.2.2]
theorem zo4 {α:Type} (p:α→Bool) (s:List α):s.take (s.takeWhile p).length=s.takeWhile p:=by
 induction s with
 | nil=>rfl
 | cons a l ih=>
  rw [List.takeWhile_cons]
  split
  ·rw [List.length_cons,List.take_succ_cons,ih]
  ·rfl
theorem ze7 {c:UInt8}:∀ {s:List UInt8},s.contains c=false→s.dropWhile (· != c)=[]
 | [],_=>rfl
 | b::l,h=>by
  rw [List.contains_cons,Bool.or_eq_false_iff] at h
  have e:(b != c)=true:=by
   rw [bne_iff_ne]
   intro q
   rw [q] at h
   simp at h
  rw [List.dropWhile_cons,e,if_pos rfl]
  exact ze7 h.2
attribute [local irreducible] Lib.indexByte
theorem zth:za Tryz.prog zcQ (zy (fun ((s,c):List UInt8×UInt8)=>s.length≤1000000000) (fun (s,c)=>[.str s,.str [c]]) fun (s,c)=>zwL (zwK c s)):=by
 refine zf zh Tryz.func134 rfl (by decide) ?_
 rintro ⟨s,c⟩ hs
 have hs:s.length≤1000000000:=hs
 refine ⟨Nat.le_refl _,by simp [Tryz.f134],fun E hE=>?_⟩
 have hi:=zeg c s
 have hl1:([c]:List UInt8).length=1:=rfl
 have hb: -1≤Lib.indexByte s c∧Lib.indexByte s c≤s.length∧(0≤Lib.indexByte s c→Lib.indexByte s c < s.length):=by omega
 refine ze _ ?_
 (all_goals refine qgp (Lf.mk ?_))
 refine zb zgr (s,c) trivial (VS.mk (LeL.of_eq rfl)) ?_
 (all_goals refine qgp ?_<;>(repeat' first | exact trivial | intro hc | refine And.intro ?_ ?_)<;>refine Lf.mk ?_)
 ·rcases hi with ⟨h1,_⟩ | ⟨h1,h2,h3,h4,h5⟩
  ·omega
  refine zd (VS.mk (.tup (.cons (LeD.of_eq ?_) (.cons (LeD.of_eq ?_) (.cons (LeD.tt h2) .nil)))))
  ·rw [h3,Int.toNat_natCast]
   exact congrArg D.str (zo4 _ s)
  ·rw [h3]
   exact congrArg D.str (by rw [hl1,Int.toNat_natCast,List.take_length,show (((s.takeWhile (· != c)).length:Int)+((1:Nat):Int)).toNat=(s.takeWhile (· != c)).length+1 by omega];exact h4)
 ·rcases hi with ⟨h1,h2,h3⟩ | ⟨h1,h2,h3,h4,h5⟩
  ·refine zd (VS.mk (.tup (.cons (LeD.of_eq ?_) (.cons (LeD.of_eq ?_) (.cons (LeD.ff h2) .nil)))))
   ·exact congrArg D.str h3.symm
   ·exact congrArg D.str (by show []=(s.dropWhile _).drop 1;rw [ze7 h2];rfl)
  ·omega
theorem zuO:za Tryz.prog zno (zy (fun ((s,c):List UInt8×UInt8)=>s.length≤1000000000) (fun (s,c)=>[.str s,.str [c]]) fun (s,c)=>zwL (zwK c s)):=by
 refine zf zh Tryz.func100 rfl (by decide) ?_
 rintro ⟨s,c⟩ hs
 refine ⟨Nat.le_refl _,by simp [Tryz.f100],fun E hE=>?_⟩
 refine ze _ ?_
 (all_goals refine qgp (Lf.mk ?_))
 refine zb zth (s,c) hs (VS.mk (LeL.of_eq rfl)) ?_
 (all_goals refine qgp (Lf.mk ?_))
 exact zd (VS.mk (LeD.of_eq rfl))
theorem zyH (a b:List UInt8):(a==b)=decide (a=b):=by
 by_cases h:a=b
 ·rw [decide_eq_true h,h];exact beq_self_eq_true _
 ·rw [decide_eq_false h,beq_eq_false_iff_ne.2 h]
theorem znr:za Tryz.prog zay (zy (fun ((s,p):List UInt8×List UInt8)=>s.length≤1000000000∧p.length≤1000000000) (fun (s,p)=>[.str s,.str p]) fun (s,p)=>.bool (decide (s.take p.length=p))):=by
 refine zf zh Tryz.func169 rfl (by decide) ?_
 rintro ⟨s,p⟩ ⟨hs,hp⟩
 refine ⟨Nat.le_refl _,by simp [Tryz.f169],fun E hE=>?_⟩
 refine ze _ ?_
 (all_goals refine qgp ?_<;>(repeat' first | exact trivial | intro hc | refine And.intro ?_ ?_)<;>refine Lf.mk ?_)
 ·exact zd (VS.mk (LeD.of_eq (congrArg D.bool (zyH _ _))))
 ·refine zd (VS.mk (LeD.ff (decide_eq_false fun h=>?_)))
  have:=congrArg List.length h
  rw [List.length_take] at this
  omega
theorem zhi:za Tryz.prog zgx (zy (fun ((s,p):List UInt8×List UInt8)=>s.length≤1000000000∧p.length≤1000000000) (fun (s,p)=>[.str s,.str p]) fun (s,p)=>.bool (decide (s.take p.length=p))):=by
 refine zf zh Tryz.func138 rfl (by decide) ?_
 rintro ⟨s,p⟩ h
 refine ⟨Nat.le_refl _,by simp [Tryz.f138],fun E hE=>?_⟩
 refine ze _ ?_
 (all_goals refine qgp (Lf.mk ?_))
 refine zb znr (s,p) h (VS.mk (LeL.of_eq rfl)) ?_
 (all_goals refine qgp (Lf.mk ?_))
 exact zd (VS.mk (LeD.of_eq rfl))
end Go.Proofs.YtnkdeacghopkiaaGreatDoor
namespace Go.Proofs.YtnkdeacghopkiaaGreatDoor
open Go Go.Plat
set_option linter.unusedVariables false
set_option linter.unusedSimpArgs false
set_option maxRecDepth 100000
set_option maxHeartbeats 2000000
attribute [local irreducible] AWP zG yn zK zn yA z8 zI zY z6 zw za zN yB zt z7 yx yy yq yt zx zz zD yY yw yI zL vS we wo wd okC zU wk
def puF (b:Int):List UInt8→Int→Int×Int
 | [],n=>(n,0)
 | c::r,n=>if yY b c < 0 then (0,2) else if 4294967295 < n * b+yY b c then (4294967295,1) else puF b r (n * b+yY b c)
def puR (b:Int) (s:List UInt8):Int×Int:=if s=[] then (0,2) else puF b s 0
theorem zzS {b:Int} (hb:b=10∨b=16):∀ (s:List UInt8) (n:Int),4294967295 < n→∀ m,zeF b s n=some m→4294967295 < m
 | [],n,h,m,hm=>by rw [zeF] at hm;cases hm;exact h
 | c::r,n,h,m,hm=>by rw [zeF,if_pos (.inr h)] at hm;cases hm
theorem zuP {b:Int} (hb:b=10∨b=16):∀ (s:List UInt8) (n:Int),0≤n→n≤4294967295 →
  ((puF b s n).2=0∧zeF b s n=some (puF b s n).1∧0≤(puF b s n).1∧(puF b s n).1≤4294967295)∨((puF b s n).2≠0∧∀ m,zeF b s n=some m→4294967295 < m)
 | [],n,h0,h1=>.inl ⟨rfl,rfl,h0,h1⟩
 | c::r,n,h0,h1=>by
  rw [puF,zeF]
  by_cases hd:yY b c < 0
  ·rw [if_pos hd,if_pos (.inl hd)]
   exact .inr ⟨by decide,fun m hm=>by cases hm⟩
  ·rw [if_neg hd,if_neg (show ¬ (yY b c < 0∨4294967295 < n) by omega)]
   have:=zzR b c
   by_cases hn:4294967295 < n * b+yY b c
   ·rw [if_pos hn]
    exact .inr ⟨by decide,zzS hb r _ hn⟩
   ·rw [if_neg hn]
    exact zuP hb r _ (by rcases hb with rfl | rfl<;>omega) (by omega)
theorem zrS {b:Int} (hb:b=10∨b=16) (s:List UInt8):((puR b s).2=0∧zfS b s=((puR b s).1,true)∧0≤(puR b s).1∧(puR b s).1≤4294967295)∨((puR b s).2≠0∧(zfS b s).2=false):=by
 unfold puR zfS
 by_cases h:s=[]
 ·subst h
  right
  rw [if_pos rfl]
  exact ⟨by decide,by simp [zeF,zuL]⟩
 rw [if_neg h]
 rcases zuP hb s 0 (by decide) (by decide) with ⟨h1,h2,h3,h4⟩ | ⟨h1,h2⟩
 ·left
  rw [h2]
  refine ⟨h1,?_,h3,h4⟩
  show ((puF b s 0).1,decide ((puF b s 0).1 < 4294967296∧s≠[]))=_
  rw [decide_eq_true ⟨by omega,h⟩]
 ·right
  refine ⟨h1,?_⟩
  cases hm:zeF b s 0 with
  | none=>rfl
  | some m=>
   have:=h2 m hm
   show decide (m < 4294967296∧s≠[])=false
   rw [decide_eq_false (by rintro ⟨q,_⟩;omega)]
theorem zo5 (b:Int):∀ (s:List UInt8) (n:Int),(puF b s n).2=0∨(puF b s n).2=1∨(puF b s n).2=2
 | [],n=>.inl rfl
 | c::r,n=>by
  rw [puF]
  split
  ·exact .inr (.inr rfl)
  split
  ·exact .inr (.inl rfl)
  ·exact zo5 b r _
theorem zyI (b:Int) (s:List UInt8):(puR b s).2=0∨(puR b s).2=1∨(puR b s).2=2:=by
 unfold puR
 split
 ·exact .inr (.inr rfl)
 ·exact zo5 b s 0
def vT (c:UInt8):UInt8:=c ||| 32
theorem zyJ:∀ k:Fin 256,(97≤(vT (UInt8.ofNat k.val)).toNat∧(vT (UInt8.ofNat k.val)).toNat≤122→¬ (48≤k.val∧k.val≤57)∧((vT (UInt8.ofNat k.val)).toNat≤102∧yY 16 (UInt8.ofNat k.val)=(vT (UInt8.ofNat k.val)).toNat - 87∨(103≤(vT (UInt8.ofNat k.val)).toNat∧yY 16 (UInt8.ofNat k.val)= -1))∧yY 10 (UInt8.ofNat k.val)= -1) ∧
  (48≤k.val∧k.val≤57→yY 16 (UInt8.ofNat k.val)=k.val - 48∧yY 10 (UInt8.ofNat k.val)=k.val - 48) ∧
  (¬ (97≤(vT (UInt8.ofNat k.val)).toNat∧(vT (UInt8.ofNat k.val)).toNat≤122)→¬ (48≤k.val∧k.val≤57)→yY 16 (UInt8.ofNat k.val)= -1∧yY 10 (UInt8.ofNat k.val)= -1):=by decide +kernel
theorem zrT (c:UInt8):(97≤(vT c).toNat∧(vT c).toNat≤122→¬ (48≤c.toNat∧c.toNat≤57)∧((vT c).toNat≤102∧yY 16 c=(vT c).toNat - 87∨(103≤(vT c).toNat∧yY 16 c= -1))∧yY 10 c= -1) ∧
  (48≤c.toNat∧c.toNat≤57→yY 16 c=c.toNat - 48∧yY 10 c=c.toNat - 48) ∧
  (¬ (97≤(vT c).toNat∧(vT c).toNat≤122)→¬ (48≤c.toNat∧c.toNat≤57)→yY 16 c= -1∧yY 10 c= -1):=by
 have:=zyJ ⟨c.toNat,c.toNat_lt⟩
 simp only [UInt8.ofNat_toNat] at this
 exact this
theorem zAU (c:UInt8):zD .or .u8 (c.toNat:Int) 32=((vT c).toNat:Int):=by
 have:∀ k:Fin 256,zD .or .u8 ((UInt8.ofNat k.val).toNat:Int) 32=((vT (UInt8.ofNat k.val)).toNat:Int):=by decide +kernel
 have:=this ⟨c.toNat,c.toNat_lt⟩
 simp only [UInt8.ofNat_toNat] at this
 exact this
theorem k9:za Tryz.prog zdH (zy (fun _:UInt8=>True) (fun c=>[zC c]) fun c=>zC (vT c)):=by
 refine zf zh Tryz.func182 rfl (by decide) fun c _=>?_
 refine ⟨Nat.le_refl _,by simp [Tryz.f182],fun E hE=>?_⟩
 refine ze _ ?_
 (all_goals refine qgp (Lf.mk ?_))
 refine wG (zAU c) ?_
 (all_goals refine qgp (Lf.mk ?_))
 exact zd (VS.mk (LeD.of_eq rfl))
attribute [local irreducible] vT
def puD (p:Int×Int):D:=.tup [.int .u64 p.1,if p.2=0 then .nilif else .iface 288 (.int .i64 p.2)]
theorem zkz {K:D→Prop} (h:K (.int .u64 4294967296)):yq .u64 1 32 K:=by
 unfold yq
 refine ⟨by decide,?_⟩
 have e:IntKind.u64.wrap (1 * 2 ^ (min (32:Int).toNat IntKind.u64.bits))=4294967296:=by decide
 rw [e];exact h
theorem zlE:za Tryz.prog zbD (zy (fun ((s,b):List UInt8×Int)=>s.length≤1000000000∧(b=10∨b=16)) (fun (s,b)=>[.str s,.int .i64 b,.int .i64 32]) fun (s,b)=>puD (puR b s)):=by
 refine zf zh Tryz.func167 rfl (by decide) ?_
 rintro ⟨s,b⟩ ⟨hs,hb⟩
 refine ⟨Nat.le_refl _,by simp [Tryz.f167],fun E hE=>?_⟩
 rcases hb with rfl | rfl
 ·refine ze _ ?_
  have hP:s≠[]→puR 10 s=puF 10 (s.drop 0) 0:=fun h=>by unfold puR;rw [if_neg h];rfl
  (all_goals refine qgp ?_<;>(repeat' first | exact trivial | intro hc | refine And.intro ?_ ?_)<;>refine Lf.mk ?_)
  all_goals first
   | (exfalso;refine absurd trivial ?_;assumption)
   | (exact zd (VS.mk (LeD.of_eq (by show _=puD (puR _ _);unfold puR;rw [if_pos hc];rfl))))
   | skip
  refine kS (by decide) (by decide) ?_
  (all_goals refine qgp (Lf.mk ?_))
  refine zkz ?_
  (all_goals refine qgp (Lf.mk ?_))
  refine kS (by decide) (by decide) ?_
  (all_goals refine qgp (Lf.mk ?_))
  have hP:=hP (by assumption)
  refine yc (α:=Nat×Int) (fun p=>p.1≤s.length∧puR 10 s=puF 10 (s.drop p.1) p.2∧0≤p.2∧p.2≤4294967295)
   (fun p=>[(1,.int .i64 10),(8,.bool false),(9,.str s),(10,.int .u64 1844674407370955162),(11,.int .u64 4294967295),(12,.ff),(13,.int .u64 p.2),(99,.sl 1 (s.map zC) none),(100,.int .i64 s.length),(101,.int .i64 p.1)])
   (fun _=>[]) (fun p=>s.length - p.1) (fun _=>by simp [hE]) (0,0) ⟨Nat.zero_le _,hP,by decide,by decide⟩ ?_ ?_
  ·(repeat' (first | (refine VS.mk ?_) | exact trivial | exact rfl | refine And.intro ?_ ?_))
  rintro ⟨k,n⟩ ⟨hk,hf,hn0,hn1⟩
  dsimp only at hk hf hn0 hn1 ⊢
  have hlast:k=s.length→puD (puR 10 s)= .tup [.int .u64 n,.nilif]:=fun h=>by rw [hf,h,List.drop_length];rfl
  have hstep:k < s.length→puR 10 s=if yY 10 (s.getD k 0) < 0 then (0,2) else if 4294967295 < n * 10+yY 10 (s.getD k 0) then (4294967295,1) else puF 10 (s.drop (k+1)) (n * 10+yY 10 (s.getD k 0)):=fun h=>by
   rw [hf,zee (d:=0) h,puF]
  have hd:=zrT (s.getD k 0)
  have hq:=(s.getD k 0).toNat_lt
  have hq2:=(vT (s.getD k 0)).toNat_lt
  have hbB:(zr 10).toNat=10:=by decide
  have h48:=yG (((s.getD k 0).toNat:Int) - 48)
  have h97:=yG (((vT (s.getD k 0)).toNat:Int) - 97)
  have h10:=yG (((zr (((vT (s.getD k 0)).toNat:Int) - 97)).toNat:Int)+10)
  generalize yY 10 (s.getD k 0)=dv at *
  generalize yY 16 (s.getD k 0)=dx at *
  refine ze _ ?_
  (all_goals refine qgp ?_<;>(repeat' first | exact trivial | intro hc | refine And.intro ?_ ?_)<;>refine Lf.mk ?_)
  all_goals (try refine zb k9 (s.getD k 0) trivial (VS.mk (LeL.of_eq rfl)) ?_)
  (all_goals refine qgp ?_<;>(repeat' first | exact trivial | intro hc | refine And.intro ?_ ?_)<;>refine Lf.mk ?_)
  all_goals (try refine zb k9 (s.getD k 0) trivial (VS.mk (LeL.of_eq rfl)) ?_)
  (all_goals refine qgp ?_<;>(repeat' first | exact trivial | intro hc | refine And.intro ?_ ?_)<;>refine Lf.mk ?_)
  all_goals (try refine zb k9 (s.getD k 0) trivial (VS.mk (LeL.of_eq rfl)) ?_)
  (all_goals refine qgp ?_<;>(repeat' first | exact trivial | intro hc | refine And.intro ?_ ?_)<;>refine Lf.mk ?_)
  all_goals first
   | (refine absurd hc ?_;decide)
   | (refine zd (VS.mk (LeD.of_eq ?_));rw [hstep (by omega),if_pos (by omega)];rfl)
   | skip
  all_goals (try refine kS (by omega) (by omega) ?_)
  (all_goals refine qgp (Lf.mk ?_))
  all_goals (try refine kS (by omega) (by omega) ?_)
  (all_goals refine qgp (Lf.mk ?_))
  all_goals (try refine kS (by omega) (by omega) ?_)
  (all_goals refine qgp (Lf.mk ?_))
  all_goals (try refine kS (by omega) (by omega) ?_)
  (all_goals refine qgp ?_<;>(repeat' first | exact trivial | intro hc | refine And.intro ?_ ?_)<;>refine Lf.mk ?_)
  all_goals first
   | (refine zd (VS.mk (LeD.of_eq ?_));rw [hstep (by omega),if_neg (by omega),if_pos (by omega)];rfl)
   | (exact zd (VS.mk (LeD.of_eq (hlast (by omega)).symm)))
   | skip
  all_goals
   have hk1:=hstep (by omega)
   rw [if_neg (by omega),if_neg (by omega)] at hk1
   refine zF (k+1,n * 10+dv) ⟨by dsimp only;omega,hk1,by dsimp only;omega,by dsimp only;omega⟩ (by dsimp only;omega) ?_
   (repeat' (first | (refine VS.mk ?_) | exact trivial | exact rfl | refine And.intro ?_ ?_))
   all_goals (first | rfl | (refine congrArg (D.int .u64) ?_;omega))
 ·refine ze _ ?_
  have hP:s≠[]→puR 16 s=puF 16 (s.drop 0) 0:=fun h=>by unfold puR;rw [if_neg h];rfl
  (all_goals refine qgp ?_<;>(repeat' first | exact trivial | intro hc | refine And.intro ?_ ?_)<;>refine Lf.mk ?_)
  all_goals first
   | (exfalso;refine absurd trivial ?_;assumption)
   | (exact zd (VS.mk (LeD.of_eq (by show _=puD (puR _ _);unfold puR;rw [if_pos hc];rfl))))
   | skip
  refine kS (by decide) (by decide) ?_
  (all_goals refine qgp (Lf.mk ?_))
  refine zkz ?_
  (all_goals refine qgp (Lf.mk ?_))
  refine kS (by decide) (by decide) ?_
  (all_goals refine qgp (Lf.mk ?_))
  have hP:=hP (by assumption)
  refine yc (α:=Nat×Int) (fun p=>p.1≤s.length∧puR 16 s=puF 16 (s.drop p.1) p.2∧0≤p.2∧p.2≤4294967295)
   (fun p=>[(1,.int .i64 16),(8,.bool false),(9,.str s),(10,.int .u64 1152921504606846976),(11,.int .u64 4294967295),(12,.ff),(13,.int .u64 p.2),(99,.sl 1 (s.map zC) none),(100,.int .i64 s.length),(101,.int .i64 p.1)])
   (fun _=>[]) (fun p=>s.length - p.1) (fun _=>by simp [hE]) (0,0) ⟨Nat.zero_le _,hP,by decide,by decide⟩ ?_ ?_
  ·(repeat' (first | (refine VS.mk ?_) | exact trivial | exact rfl | refine And.intro ?_ ?_))
  rintro ⟨k,n⟩ ⟨hk,hf,hn0,hn1⟩
  dsimp only at hk hf hn0 hn1 ⊢
  have hlast:k=s.length→puD (puR 16 s)= .tup [.int .u64 n,.nilif]:=fun h=>by rw [hf,h,List.drop_length];rfl
  have hstep:k < s.length→puR 16 s=if yY 16 (s.getD k 0) < 0 then (0,2) else if 4294967295 < n * 16+yY 16 (s.getD k 0) then (4294967295,1) else puF 16 (s.drop (k+1)) (n * 16+yY 16 (s.getD k 0)):=fun h=>by
   rw [hf,zee (d:=0) h,puF]
  have hd:=zrT (s.getD k 0)
  have hq:=(s.getD k 0).toNat_lt
  have hq2:=(vT (s.getD k 0)).toNat_lt
  have hbB:(zr 16).toNat=16:=by decide
  have h48:=yG (((s.getD k 0).toNat:Int) - 48)
  have h97:=yG (((vT (s.getD k 0)).toNat:Int) - 97)
  have h10:=yG (((zr (((vT (s.getD k 0)).toNat:Int) - 97)).toNat:Int)+10)
  generalize yY 10 (s.getD k 0)=dv at *
  generalize yY 16 (s.getD k 0)=dx at *
  refine ze _ ?_
  (all_goals refine qgp ?_<;>(repeat' first | exact trivial | intro hc | refine And.intro ?_ ?_)<;>refine Lf.mk ?_)
  all_goals (try refine zb k9 (s.getD k 0) trivial (VS.mk (LeL.of_eq rfl)) ?_)
  (all_goals refine qgp ?_<;>(repeat' first | exact trivial | intro hc | refine And.intro ?_ ?_)<;>refine Lf.mk ?_)
  all_goals (try refine zb k9 (s.getD k 0) trivial (VS.mk (LeL.of_eq rfl)) ?_)
  (all_goals refine qgp ?_<;>(repeat' first | exact trivial | intro hc | refine And.intro ?_ ?_)<;>refine Lf.mk ?_)
  all_goals (try refine zb k9 (s.getD k 0) trivial (VS.mk (LeL.of_eq rfl)) ?_)
  (all_goals refine qgp ?_<;>(repeat' first | exact trivial | intro hc | refine And.intro ?_ ?_)<;>refine Lf.mk ?_)
  all_goals first
   | (refine absurd hc ?_;decide)
   | (refine zd (VS.mk (LeD.of_eq ?_));rw [hstep (by omega),if_pos (by omega)];rfl)
   | skip
  all_goals (try refine kS (by omega) (by omega) ?_)
  (all_goals refine qgp (Lf.mk ?_))
  all_goals (try refine kS (by omega) (by omega) ?_)
  (all_goals refine qgp (Lf.mk ?_))
  all_goals (try refine kS (by omega) (by omega) ?_)
  (all_goals refine qgp (Lf.mk ?_))
  all_goals (try refine kS (by omega) (by omega) ?_)
  (all_goals refine qgp ?_<;>(repeat' first | exact trivial | intro hc | refine And.intro ?_ ?_)<;>refine Lf.mk ?_)
  all_goals first
   | (refine zd (VS.mk (LeD.of_eq ?_));rw [hstep (by omega),if_neg (by omega),if_pos (by omega)];rfl)
   | (exact zd (VS.mk (LeD.of_eq (hlast (by omega)).symm)))
   | skip
  all_goals
   have hk1:=hstep (by omega)
   rw [if_neg (by omega),if_neg (by omega)] at hk1
   refine zF (k+1,n * 16+dx) ⟨by dsimp only;omega,hk1,by dsimp only;omega,by dsimp only;omega⟩ (by dsimp only;omega) ?_
   (repeat' (first | (refine VS.mk ?_) | exact trivial | exact rfl | refine And.intro ?_ ?_))
   all_goals (first | rfl | (refine congrArg (D.int .u64) ?_;omega))
end Go.Proofs.YtnkdeacghopkiaaGreatDoor
namespace Go.Proofs.YtnkdeacghopkiaaGreatDoor
open Go Go.Plat
set_option linter.unusedVariables false
set_option linter.unusedSimpArgs false
set_option maxRecDepth 100000
set_option maxHeartbeats 2000000
attribute [local irreducible] AWP zG yn zK zn yA z8 zI zY z6 zw za zN yB zt z7 yx yy yq yt zx zz zD yw yI zL vS we wo wd okC wk
def rdO (s:List UInt8) (i:Nat):List Ob:=[.cells [.str s,.int .i64 (i:Nat)]]
theorem zfU {g:Nat} {p:UInt8→Bool} (hg:za Tryz.prog g (zy (fun _:UInt8=>True) (fun c=>[zC c]) fun c=>.bool (p c))) :
  za Tryz.prog zio (zQ (fun ((s,i):List UInt8×Nat)=>i≤s.length∧s.length≤1000000000) (fun _=>[.loc 0 0,.fn g []]) (fun (s,i)=>rdO s i)
   (fun (s,i)=>.str ((s.take (i+zU p (s.drop i))).drop i)) fun (s,i)=>rdO s (i+zU p (s.drop i))):=by
 refine zf zh Tryz.func101 rfl (by decide) ?_
 rintro ⟨s,i⟩ ⟨hi,hs⟩
 refine ⟨Nat.le_refl _,by simp [Tryz.f101],fun E hE=>?_⟩
 refine ze _ ?_
 (all_goals refine qgp (Lf.mk ?_))
 refine yc (α:=Nat) (fun k=>i≤k∧k≤s.length∧∀ j,j < k - i→p ((s.drop i).getD j 0)=true)
  (fun k=>[(0,.loc 0 0),(1,.fn g []),(5,.int .i64 i)])
  (fun k=>rdO s k) (fun k=>s.length - k) (fun _=>by simp [hE,rdO]) i ⟨Nat.le_refl _,by omega,fun j h=>absurd h (by omega)⟩ ?_ ?_
 ·(repeat' (first | (refine VS.mk ?_) | exact trivial | exact rfl | refine And.intro ?_ ?_))
 rintro k ⟨hik,hks,hall⟩
 have hget:(s.drop i).getD (k - i) 0=s.getD k 0:=by rw [List.getD_eq_getElem?_getD,List.getElem?_drop,List.getD_eq_getElem?_getD,show i+(k - i)=k by omega]
 have hend:(k < s.length→p (s.getD k 0)=false)→k=i+zU p (s.drop i):=fun h=>by
  have:=zyF (p:=p) (l:=s.drop i) (k:=k - i) (by rw [List.length_drop];omega) hall fun hl=>by rw [hget];exact h (by rw [List.length_drop] at hl;omega)
  omega
 have hmore:p (s.getD k 0)=true→∀ j,j < k+1 - i→p ((s.drop i).getD j 0)=true:=fun h j hj=>by
  by_cases e:j=k - i
  ·rw [e,hget];exact h
  ·exact hall j (by omega)
 refine ze _ ?_
 (all_goals refine qgp ?_<;>(repeat' first | exact trivial | intro hc | refine And.intro ?_ ?_)<;>refine Lf.mk ?_)
 ·refine zb hg (s.getD k 0) trivial (VS.mk (LeL.of_eq (by rw [Int.toNat_natCast];rfl))) ?_
  (all_goals refine qgp ?_<;>(repeat' first | exact trivial | intro hc | refine And.intro ?_ ?_)<;>refine Lf.mk ?_)
  ·have hm:=hmore hc
   refine zF (k+1) ⟨by omega,by omega,hm⟩ (by omega) ?_
   (repeat' (first | (refine VS.mk ?_) | exact trivial | exact rfl | refine And.intro ?_ ?_))
  ·have e:=hend fun _=>by simpa using hc
   refine ya (And.intro (VS.mk ?_) (VS.mk ?_))
   ·show D.str _=D.str ((s.take (i+zU p (s.drop i))).drop i)
    rw [← e,Int.toNat_natCast,Int.toNat_natCast]
   ·show rdO s k=rdO s (i+zU p (s.drop i))
    rw [← e]
 ·have e:=hend fun h=>absurd h (by omega)
  refine ya (And.intro (VS.mk ?_) (VS.mk ?_))
  ·show D.str _=D.str ((s.take (i+zU p (s.drop i))).drop i)
   rw [← e,Int.toNat_natCast,Int.toNat_natCast]
  ·show rdO s k=rdO s (i+zU p (s.drop i))
   rw [← e]
attribute [local irreducible] yY puF puR zU
theorem zo6:za Tryz.prog ze3 (zy (fun ((a,s):List UInt8×List UInt8)=>s.length≤1000000000) (fun (a,s)=>[.str a,.str s]) fun _=>.any):=by
 refine zaK ⟨_,Tryz.func184,by decide,rfl⟩ ?_
 rintro ⟨a,s⟩ hs w F hg vs hl hv
 have hs:s.length≤1000000000:=hs
 match vs,hl with
 | [x,y],_=>
  cases hv 0 _ x rfl rfl
  cases hv 1 _ y rfl rfl
  obtain ⟨u,v,hcell⟩:=(hg 6 _ (by kernel_rfl)).2.2.2 rfl
  refine (Go.Proofs.Tryz.strconv_syntaxError ⟨a.toArray⟩ ⟨s.toArray⟩ _ w (by show s.toArray.size≤_;simp;omega) hcell (.inr ⟨_,_,rfl⟩)).mono ?_
  rintro e w' ⟨N,rfl,_,_,hb⟩
  exact ⟨_,rfl,.below hb,.any _⟩
theorem zo7:za Tryz.prog zfQ (zy (fun ((a,s):List UInt8×List UInt8)=>s.length≤1000000000) (fun (a,s)=>[.str a,.str s]) fun _=>.any):=by
 refine zaK ⟨_,Tryz.func185,by decide,rfl⟩ ?_
 rintro ⟨a,s⟩ hs w F hg vs hl hv
 have hs:s.length≤1000000000:=hs
 match vs,hl with
 | [x,y],_=>
  cases hv 0 _ x rfl rfl
  cases hv 1 _ y rfl rfl
  obtain ⟨u,v,hcell⟩:=(hg 7 _ (by kernel_rfl)).2.2.2 rfl
  refine (Go.Proofs.Tryz.strconv_rangeError ⟨a.toArray⟩ ⟨s.toArray⟩ _ w (by show s.toArray.size≤_;simp;omega) hcell (.inr ⟨_,_,rfl⟩)).mono ?_
  rintro e w' ⟨N,rfl,_,_,hb⟩
  exact ⟨_,rfl,.below hb,.any _⟩
theorem ziD:za Tryz.prog zip (zy (fun ((a,s,b,c,e):List UInt8×List UInt8×Int×Int×Int)=>s.length≤1000000000∧(e=1∨e=2)) (fun (a,s,b,c,e)=>[.str a,.str s,.int .i64 b,.int .i64 c,.iface 288 (.int .i64 e)])
  fun _=>.iface 290 .any):=by
 refine zf zh Tryz.func168 rfl (by decide) ?_
 rintro ⟨a,s,b,c,e⟩ ⟨hs,he⟩
 refine ⟨Nat.le_refl _,by simp [Tryz.f168],fun E hE=>?_⟩
 rcases he with rfl | rfl
 all_goals
  refine ze _ ?_
  (all_goals refine qgp (Lf.mk ?_))
  all_goals (try refine zrF (by kernel_rfl) ?_)
  (all_goals refine qgp ?_<;>(repeat' first | exact trivial | intro hc | refine And.intro ?_ ?_)<;>refine Lf.mk ?_)
  all_goals first
   | (exfalso;refine absurd trivial ?_;assumption)
   | skip
  all_goals (try refine zrF (by kernel_rfl) ?_)
  (all_goals refine qgp ?_<;>(repeat' first | exact trivial | intro hc | refine And.intro ?_ ?_)<;>refine Lf.mk ?_)
  all_goals first
   | (exfalso;refine absurd trivial ?_;assumption)
   | skip
  all_goals first
   | (refine zb zo6 (a,s) hs (VS.mk (LeL.of_eq rfl)) ?_)
   | (refine zb zo7 (a,s) hs (VS.mk (LeL.of_eq rfl)) ?_)
   | skip
  (all_goals refine qgp (Lf.mk ?_))
  all_goals first
   | exact zd (VS.mk (LeD.of_eq rfl))
   | (exfalso;refine absurd hc ?_;decide)
   | skip
theorem zaz:za Tryz.prog zgw (zy (fun ((s,b):List UInt8×Int)=>s.length≤1000000000∧(b=10∨b=16)) (fun (s,b)=>[.str s,.int .i64 b,.int .i64 32])
  fun (s,b)=>.tup [.int .u64 (puR b s).1,if (puR b s).2=0 then .nilif else .iface 290 .any]):=by
 refine zf zh Tryz.func136 rfl (by decide) ?_
 rintro ⟨s,b⟩ ⟨hs,hb⟩
 refine ⟨Nat.le_refl _,by simp [Tryz.f136],fun E hE=>?_⟩
 have hcode:=zyI b s
 refine ze _ ?_
 (all_goals refine qgp (Lf.mk ?_))
 refine zb zlE (s,b) ⟨hs,hb⟩ (VS.mk (LeL.of_eq rfl)) ?_
 dsimp only
 generalize puR b s=R at *
 obtain ⟨n,e⟩:=R
 dsimp only at hcode
 unfold puD
 dsimp only
 by_cases he:e=0
 ·rw [if_pos he,if_pos he]
  (all_goals refine qgp ?_<;>(repeat' first | exact trivial | intro hc | refine And.intro ?_ ?_)<;>refine Lf.mk ?_)
  all_goals first
   | (exfalso;exact Bool.noConfusion hc)
   | skip
  exact zd (VS.mk (LeD.of_eq rfl))
 ·rw [if_neg he,if_neg he]
  (all_goals refine qgp ?_<;>(repeat' first | exact trivial | intro hc | refine And.intro ?_ ?_)<;>refine Lf.mk ?_)
  all_goals first
   | (exfalso;exact Bool.noConfusion hc)
   | (exfalso;refine absurd hc ?_;decide)
   | skip
  refine zb ziD ([80,97,114,115,101,85,105,110,116],s,b,32,e) ⟨hs,by omega⟩ (VS.mk (LeL.of_eq rfl)) ?_
  (all_goals refine qgp (Lf.mk ?_))
  exact zd (VS.mk (LeD.of_eq rfl))
end Go.Proofs.YtnkdeacghopkiaaGreatDoor
namespace Go.Proofs.YtnkdeacghopkiaaGreatDoor
open Go Go.Plat
set_option linter.unusedVariables false
set_option linter.unusedSimpArgs false
set_option maxRecDepth 100000
set_option maxHeartbeats 2000000
attribute [local irreducible] AWP zG yn zK zn yA z8 zI zY z6 zw za zN yB zt z7 yx yy yq yt zx zz zD yw yI zL yO okC
end Go.Proofs.YtnkdeacghopkiaaGreatDoor
namespace Go.Proofs.YtnkdeacghopkiaaGreatDoor
open Go Go.Plat
set_option linter.unusedVariables false
set_option linter.unusedSimpArgs false
set_option maxRecDepth 100000
set_option maxHeartbeats 2000000
attribute [local irreducible] AWP zG yn zK zn yA z8 zI zY z6 zw za zN yB zt z7 yx yy yq yt zx zz zD yw yI zL vS we wo wd okC wk
def xX (c:UInt8):Bool:=decide (yI c=32)
theorem zo8:∀ (l:List UInt8) (out:List y8),we l out=we (l.drop (zU xX l)) out
 | [],out=>rfl
 | c::r,out=>by
  rw [zU]
  by_cases h:xX c=true
  ·rw [if_pos h,List.drop_succ_cons,qH,if_pos (of_decide_eq_true h)]
   exact zo8 r out
  ·rw [if_neg h,List.drop_zero]
theorem zjj {p q:UInt8→Bool} (h:∀ c,p c=true→q c=true):∀ l:List UInt8,zU p (l.takeWhile q)=zU p l∧(l.takeWhile q).drop (zU p l)=(l.drop (zU p l)).takeWhile q∧(l.takeWhile q).take (zU p l)=l.take (zU p l)
 | []=>⟨rfl,rfl,rfl⟩
 | c::r=>by
  obtain ⟨h1,h2,h3⟩:=zjj h r
  rw [List.takeWhile_cons]
  by_cases hp:p c=true
  ·rw [h c hp,if_pos rfl]
   have e:∀ x:List UInt8,zU p (c::x)=zU p x+1:=fun x=>by rw [zU,if_pos hp]
   rw [e,e,h1]
   refine ⟨rfl,?_,?_⟩
   ·rw [List.drop_succ_cons,List.drop_succ_cons,h2]
   ·rw [List.take_succ_cons,List.take_succ_cons,h3]
  ·have e:∀ x:List UInt8,zU p (c::x)=0:=fun x=>by rw [zU,if_neg hp]
   rw [e]
   refine ⟨?_,?_,?_⟩
   ·split
    ·exact e _
    ·rfl
   ·rw [List.drop_zero,List.drop_zero,List.takeWhile_cons]
   ·rw [List.take_zero,List.take_zero]
theorem zyK (c:UInt8) (h:wk c=true):(c != 59)=true:=by
 rw [bne_iff_ne]
 rintro rfl
 exact absurd h (by decide +kernel)
theorem zzT (c:UInt8) (h:wo c=true):(c != 59)=true:=by
 rw [bne_iff_ne]
 rintro rfl
 exact absurd h (by decide +kernel)
theorem zrU:∀ (n:Nat) (l:List UInt8) (out:List y8),l.length≤n→we l out=we (l.takeWhile (· != 59)) out
 | _,[],out,_=>rfl
 | 0,_::_,out,h=>by simp at h
 | n+1,c::r,out,h=>by
  have h:r.length≤n:=by simpa using h
  have ih:=zrU n
  have hd:∀ k,1≤k→((c::r).drop k).length≤n:=fun k hk=>by rw [List.length_drop,List.length_cons];omega
  by_cases h59:c=59
  ·subst h59
   rw [List.takeWhile_cons,if_neg (by decide),qH,if_neg (by decide +kernel),if_neg (by decide +kernel),if_neg (by decide +kernel),if_pos rfl,zo2]
  have e:(c::r).takeWhile (· != 59)=c::r.takeWhile (· != 59):=by rw [List.takeWhile_cons,if_pos (by rw [bne_iff_ne];exact h59)]
  rw [qH]
  by_cases h1:yI c=32
  ·rw [if_pos h1,e,qH,if_pos h1]
   exact ih _ _ h
  rw [if_neg h1]
  by_cases h2:yI c=97
  ·obtain ⟨q1,q2,q3⟩:=zjj zyK (c::r)
   rw [if_pos h2,ih _ _ (hd _ (zc7 h2)),← q2,← q3,← q1,e]
   rw [qH,if_neg h1,if_pos h2]
  rw [if_neg h2]
  by_cases h3:yI c=48
  ·obtain ⟨q1,q2,q3⟩:=zjj zzT (c::r)
   rw [if_pos h3,ih _ _ (hd _ (zef h3)),← q2,← q3,← q1,e]
   rw [qH c (r.takeWhile _),if_neg h1,if_neg h2,if_pos h3]
  rw [if_neg h3,if_neg h59]
  have hs:∀ x:UInt8,x≠59→((c::r).take 2=[x,x]↔(c::r.takeWhile (· != 59)).take 2=[x,x])∧((c::r).take 2=[x,x]→(r.drop 1).takeWhile (· != 59)=(r.takeWhile (· != 59)).drop 1):=fun x hx=>by
   cases r with
   | nil=>exact ⟨Iff.rfl,fun _=>rfl⟩
   | cons b r=>
    rw [List.takeWhile_cons]
    by_cases hb:b=59
    ·subst hb
     refine ⟨⟨fun h=>?_,fun h=>?_⟩,fun h=>?_⟩
     ·exact absurd (List.cons.inj (List.cons.inj h).2).1.symm hx
     ·rw [if_neg (by decide)] at h;cases (List.cons.inj h).2
     ·exact absurd (List.cons.inj (List.cons.inj h).2).1.symm hx
    ·rw [if_pos (by rw [bne_iff_ne];exact hb)]
     exact ⟨Iff.rfl,fun _=>rfl⟩
  obtain ⟨s1,s2⟩:=hs 60 (by decide)
  obtain ⟨s3,s4⟩:=hs 62 (by decide)
  have hr1:(r.drop 1).length≤n:=by rw [List.length_drop];omega
  by_cases h4:(c::r).take 2=[60,60]∨(c::r).take 2=[62,62]
  ·have e2:(r.drop 1).takeWhile (· != 59)=(r.takeWhile (· != 59)).drop 1:=h4.elim s2 s4
   have h5:(c::r.takeWhile (· != 59)).take 2=[60,60]∨(c::r.takeWhile (· != 59)).take 2=[62,62]:=h4.imp s1.1 s3.1
   have e3:(c::r).take 2=(c::r.takeWhile (· != 59)).take 2:=by
    rcases h4 with h | h
    ·rw [h,s1.1 h]
    ·rw [h,s3.1 h]
   rw [if_pos h4,ih _ _ hr1,e2,e3,e,qH,if_neg h1,if_neg h2,if_neg h3,if_neg h59,if_pos h5]
  ·have h5:¬ ((c::r.takeWhile (· != 59)).take 2=[60,60]∨(c::r.takeWhile (· != 59)).take 2=[62,62]):=fun h=>h4 (h.imp s1.2 s3.2)
   rw [if_neg h4,e,qH,if_neg h1,if_neg h2,if_neg h3,if_neg h59,if_neg h5]
   split
   ·exact ih _ _ h
   ·rfl
theorem zyL (l:List UInt8) (out:List y8):we l out=we (l.takeWhile (· != 59)) out:=zrU _ l out (Nat.le_refl _)
attribute [local irreducible] xX yY puF puR zU
theorem zuQ:∀ k:Fin 256,wo (UInt8.ofNat k.val)=(yw (UInt8.ofNat k.val) || (zL (UInt8.ofNat k.val) && UInt8.ofNat k.val != 46)) ∧
  wk (UInt8.ofNat k.val)=(zL (UInt8.ofNat k.val) || yw (UInt8.ofNat k.val) || UInt8.ofNat k.val==47) ∧
  xX (UInt8.ofNat k.val)=(UInt8.ofNat k.val==32 || UInt8.ofNat k.val==9 || UInt8.ofNat k.val==13) ∧
  (zL (UInt8.ofNat k.val)=true→yI (UInt8.ofNat k.val)=97) ∧
  (zL (UInt8.ofNat k.val)=false→yw (UInt8.ofNat k.val)=true→yI (UInt8.ofNat k.val)=48) ∧
  (zL (UInt8.ofNat k.val)=false→yw (UInt8.ofNat k.val)=false→xX (UInt8.ofNat k.val)=false→yI (UInt8.ofNat k.val)≠97∧yI (UInt8.ofNat k.val)≠48∧yI (UInt8.ofNat k.val)≠32):=by decide +kernel
theorem zfV (c:UInt8):wo c=(yw c || (zL c && c != 46))∧wk c=(zL c || yw c || c==47)∧xX c=(c==32 || c==9 || c==13)∧(zL c=true→yI c=97) ∧
  (zL c=false→yw c=true→yI c=48)∧(zL c=false→yw c=false→xX c=false→yI c≠97∧yI c≠48∧yI c≠32):=by
 have:=zuQ ⟨c.toNat,c.toNat_lt⟩
 simp only [UInt8.ofNat_toNat] at this
 exact this
theorem zfW (c d:UInt8):(((c.toNat:Nat):Int)==((d.toNat:Nat):Int))=(c==d):=by
 by_cases h:c=d
 ·rw [h];simp
 ·rw [beq_eq_false_iff_ne.2 h,beq_eq_false_iff_ne]
  intro e
  exact h (UInt8.toNat_inj.1 (by exact_mod_cast e))
theorem zrV {c d:UInt8} (h:¬ ((c.toNat:Nat):Int)=((d.toNat:Nat):Int)):(c==d)=false:=by
 rw [← zfW];exact beq_eq_false_iff_ne.2 h
theorem zo9 {c d:UInt8} (h:((c.toNat:Nat):Int)=((d.toNat:Nat):Int)):c=d:=UInt8.toNat_inj.1 (by exact_mod_cast h)
theorem zq8:za Tryz.prog zkr (zy (fun _:UInt8=>True) (fun c=>[zC c]) fun c=>.bool (xX c)):=by
 refine zf zh Tryz.func102 rfl (by decide) fun c _=>?_
 refine ⟨Nat.le_refl _,by simp [Tryz.f102],fun E hE=>?_⟩
 have hk:=(zfV c).2.2.1
 rw [hk]
 refine ze _ ?_
 (all_goals refine qgp ?_<;>(repeat' first | exact trivial | intro hc | refine And.intro ?_ ?_)<;>refine Lf.mk ?_)
 ·obtain rfl:c=32:=zo9 hc
  exact zd (VS.mk (LeD.tt rfl))
 ·obtain rfl:c=9:=zo9 hc
  exact zd (VS.mk (LeD.tt rfl))
 ·have h1:(c==32)=false:=zrV (by assumption)
  have h2:(c==9)=false:=zrV hc
  exact zd (VS.mk (LeD.of_eq (congrArg D.bool (by rw [h1,h2];exact zfW c 13))))
theorem zti:za Tryz.prog zks (zy (fun _:UInt8=>True) (fun c=>[zC c]) fun c=>.bool (wk c)):=by
 refine zf zh Tryz.func103 rfl (by decide) fun c _=>?_
 refine ⟨Nat.le_refl _,by simp [Tryz.f103],fun E hE=>?_⟩
 have hk:=(zfV c).2.1
 refine ze _ ?_
 (all_goals refine qgp (Lf.mk ?_))
 refine zb ju c trivial (VS.mk (LeL.of_eq rfl)) ?_
 generalize zL c=x at *
 (all_goals refine qgp ?_<;>(repeat' first | exact trivial | intro hc | refine And.intro ?_ ?_)<;>refine Lf.mk ?_)
 all_goals (try refine zb zbV c trivial (VS.mk (LeL.of_eq rfl)) ?_)
 generalize yw c=y at *
 (all_goals refine qgp ?_<;>(repeat' first | exact trivial | intro hc | refine And.intro ?_ ?_)<;>refine Lf.mk ?_)
 ·exact zd (VS.mk (LeD.tt (by rw [hk,hc];rfl)))
 ·exact zd (VS.mk (LeD.tt (by rw [hk,hc,Bool.or_true];rfl)))
 ·have h1:x=false:=by assumption
  exact zd (VS.mk (LeD.of_eq (congrArg D.bool (by rw [hk,hc,h1];exact zfW c 47))))
theorem ztj:za Tryz.prog zeE (zy (fun _:UInt8=>True) (fun c=>[zC c]) fun c=>.bool (wo c)):=by
 refine zf zh Tryz.func135 rfl (by decide) fun c _=>?_
 refine ⟨Nat.le_refl _,by simp [Tryz.f135],fun E hE=>?_⟩
 have hk:=(zfV c).1
 refine ze _ ?_
 (all_goals refine qgp (Lf.mk ?_))
 refine zb zbV c trivial (VS.mk (LeL.of_eq rfl)) ?_
 generalize yw c=x at *
 (all_goals refine qgp ?_<;>(repeat' first | exact trivial | intro hc | refine And.intro ?_ ?_)<;>refine Lf.mk ?_)
 all_goals (try refine zb ju c trivial (VS.mk (LeL.of_eq rfl)) ?_)
 generalize zL c=y at *
 (all_goals refine qgp ?_<;>(repeat' first | exact trivial | intro hc | refine And.intro ?_ ?_)<;>refine Lf.mk ?_)
 ·exact zd (VS.mk (LeD.tt (by rw [hk,hc];rfl)))
 ·have h1:x=false:=by assumption
  refine zd (VS.mk (LeD.of_eq (congrArg D.bool ?_)))
  rw [hk,hc,h1]
  show (!(((c.toNat:Nat):Int)==46))= !(c==46)
  exact congrArg (!·) (zfW c 46)
 ·have h1:x=false:=by assumption
  exact zd (VS.mk (LeD.ff (by rw [hk,hc,h1];rfl)))
theorem zzU:yY 10 95= -1∧yY 16 95= -1:=by unfold yY;decide
theorem zx7 {b:Int} (hb:b=10∨b=16):∀ (s:List UInt8) (n:Int),(puF b s n).2=0→s.contains 95=false
 | [],n,h=>rfl
 | c::r,n,h=>by
  have hu:=zzU
  rw [puF] at h
  split at h
  ·cases h
  rename_i hd
  split at h
  ·cases h
  have ih:=zx7 hb r _ h
  rw [List.contains_cons,ih,Bool.or_false,beq_eq_false_iff_ne]
  rintro rfl
  rcases hb with rfl | rfl<;>omega
def wJ (w:List UInt8):y8×Int:=if (wd w).2=true then (⟨2,(wd w).1,[]⟩,0) else (⟨0,0,[]⟩,2)
def zfX (p:y8×Int):D:=.tup [vw p.1,.int .i64 p.2]
theorem zyM (w:List UInt8):(2 < w.length∧w.take 2=[48,120]→((puR 16 (w.drop 2)).2=0∧wd w=((puR 16 (w.drop 2)).1,true)∧0≤(puR 16 (w.drop 2)).1∧(puR 16 (w.drop 2)).1≤4294967295∧w.contains 95=false)∨((puR 16 (w.drop 2)).2≠0∧(wd w).2=false)) ∧
  (¬ (2 < w.length∧w.take 2=[48,120])→((puR 10 w).2=0∧wd w=((puR 10 w).1,true)∧0≤(puR 10 w).1∧(puR 10 w).1≤4294967295∧w.contains 95=false)∨((puR 10 w).2≠0∧(wd w).2=false)):=by
 have us:∀ {b:Int},(b=10∨b=16)→∀ s,(puR b s).2=0→s.contains 95=false:=fun {b} hb s h=>by
  unfold puR at h
  split at h
  ·cases h
  ·exact zx7 hb s 0 h
 constructor
 ·intro h
  have e:wd w=zfS 16 (w.drop 2):=by unfold wd;rw [if_pos h]
  rw [e]
  rcases zrS (.inr rfl) (w.drop 2) with ⟨h1,h2,h3,h4⟩ | h1
  ·left
   refine ⟨h1,h2,h3,h4,?_⟩
   have h5:=us (.inr rfl) _ h1
   rw [← List.take_append_drop 2 w,h.2,List.cons_append,List.cons_append,List.nil_append,List.contains_cons,List.contains_cons,h5]
   rfl
  ·exact .inr h1
 ·intro h
  have e:wd w=zfS 10 w:=by unfold wd;rw [if_neg h]
  rw [e]
  rcases zrS (.inl rfl) w with ⟨h1,h2,h3,h4⟩ | h1
  ·exact .inl ⟨h1,h2,h3,h4,us (.inl rfl) _ h1⟩
  ·exact .inr h1
theorem zns:za Tryz.prog zfP (zQ (fun ((s,i):List UInt8×Nat)=>i≤s.length∧s.length≤1000000000) (fun _=>[.loc 0 0]) (fun (s,i)=>rdO s i)
  (fun (s,i)=>zfX (wJ ((s.take (i+zU wo (s.drop i))).drop i))) fun (s,i)=>rdO s (i+zU wo (s.drop i))):=by
 refine zf zh Tryz.func104 rfl (by decide) ?_
 rintro ⟨s,i⟩ ⟨hi,hs⟩
 refine ⟨Nat.le_refl _,by simp [Tryz.f104],fun E hE=>?_⟩
 refine ze _ ?_
 (all_goals refine qgp (Lf.mk ?_))
 refine zu (zfU ztj) [0] [0] (s,i) ⟨hi,hs⟩ rfl rfl ?_
 refine And.intro (VS.mk (LeL.of_eq rfl)) (And.intro (VS.mk rfl) ?_)
 dsimp only
 have hw:((s.take (i+zU wo (s.drop i))).drop i).length≤1000000000:=by rw [List.length_drop,List.length_take];omega
 generalize (s.take (i+zU wo (s.drop i))).drop i=w at *
 have hN:=zyM w
 (all_goals refine qgp (Lf.mk ?_))
 refine zb zaz (w,10) ⟨hw,.inl rfl⟩ (VS.mk (LeL.of_eq rfl)) ?_
 dsimp only
 generalize puR 10 w=R10 at *
 obtain ⟨n10,e10⟩:=R10
 dsimp only at hN ⊢
 have hbad:(wd w).2=false→wJ w=(⟨0,0,[]⟩,2):=fun h=>by unfold wJ;rw [h,if_neg (by decide)]
 have hgood:∀ n,wd w=(n,true)→wJ w=(⟨2,n,[]⟩,0):=fun n h=>by unfold wJ;rw [h];rfl
 have hdd:List.drop (Int.toNat 2) (List.take ((w.length:Int)).toNat w)=w.drop 2:=by rw [Int.toNat_natCast,List.take_length];rfl
 have hx:2 < w.length→List.drop (Int.toNat 0) (List.take (Int.toNat 2) w)=[48,120]→2 < w.length∧w.take 2=[48,120]:=fun h1 h2=>⟨h1,h2⟩
 by_cases hxx:2 < w.length∧w.take 2=[48,120]
 ·have hN:=hN.1 hxx
  have hx1:=hxx.1
  have hx2:List.drop (Int.toNat 0) (List.take (Int.toNat 2) w)=[48,120]:=hxx.2
  by_cases he:e10=0
  ·rw [if_pos he]
   (all_goals refine qgp ?_<;>(repeat' first | exact trivial | intro hc | refine And.intro ?_ ?_)<;>refine Lf.mk ?_)
   all_goals first
    | (exfalso;exact absurd hx2 (by assumption))
    | skip
   refine zb zaz (w.drop 2,16) ⟨by rw [List.length_drop];omega,.inr rfl⟩ (VS.mk (LeL.of_eq (by rw [hdd];try rfl))) ?_
   dsimp only
   generalize puR 16 (w.drop 2)=R16 at *
   obtain ⟨n16,e16⟩:=R16
   dsimp only at hN ⊢
   rcases hN with ⟨h1,h2,h3,h4,h5⟩ | ⟨h1,h2⟩
   ·rw [if_pos h1]
    (all_goals refine qgp ?_<;>(repeat' first | exact trivial | intro hc | refine And.intro ?_ ?_)<;>refine Lf.mk ?_)
    all_goals first
     | (exfalso;refine absurd trivial ?_;assumption)
     | (exfalso;exact Bool.noConfusion hc)
     | (exfalso;refine absurd hc ?_;decide)
     | skip
    refine zb jN (w,95) trivial (VS.mk (LeL.of_eq rfl)) ?_
    dsimp only
    rw [h5]
    (all_goals refine qgp ?_<;>(repeat' first | exact trivial | intro hc | refine And.intro ?_ ?_)<;>refine Lf.mk ?_)
    all_goals first
     | (exfalso;refine absurd trivial ?_;assumption)
     | (exfalso;exact Bool.noConfusion hc)
     | (exfalso;refine absurd hc ?_;decide)
     | skip
    refine ya (And.intro (VS.mk ?_) (VS.mk rfl))
    show _=zfX (wJ w)
    rw [hgood _ h2];rfl
   ·rw [if_neg h1]
    (all_goals refine qgp ?_<;>(repeat' first | exact trivial | intro hc | refine And.intro ?_ ?_)<;>refine Lf.mk ?_)
    all_goals first
     | (exfalso;refine absurd trivial ?_;assumption)
     | (exfalso;exact Bool.noConfusion hc)
     | (exfalso;refine absurd hc ?_;decide)
     | skip
    refine ya (And.intro (VS.mk ?_) (VS.mk rfl))
    show _=zfX (wJ w)
    rw [hbad h2];rfl
  ·rw [if_neg he]
   (all_goals refine qgp ?_<;>(repeat' first | exact trivial | intro hc | refine And.intro ?_ ?_)<;>refine Lf.mk ?_)
   all_goals first
    | (exfalso;exact absurd hx2 (by assumption))
    | skip
   refine zb zaz (w.drop 2,16) ⟨by rw [List.length_drop];omega,.inr rfl⟩ (VS.mk (LeL.of_eq (by rw [hdd];try rfl))) ?_
   dsimp only
   generalize puR 16 (w.drop 2)=R16 at *
   obtain ⟨n16,e16⟩:=R16
   dsimp only at hN ⊢
   rcases hN with ⟨h1,h2,h3,h4,h5⟩ | ⟨h1,h2⟩
   ·rw [if_pos h1]
    (all_goals refine qgp ?_<;>(repeat' first | exact trivial | intro hc | refine And.intro ?_ ?_)<;>refine Lf.mk ?_)
    all_goals first
     | (exfalso;refine absurd trivial ?_;assumption)
     | (exfalso;exact Bool.noConfusion hc)
     | (exfalso;refine absurd hc ?_;decide)
     | skip
    refine zb jN (w,95) trivial (VS.mk (LeL.of_eq rfl)) ?_
    dsimp only
    rw [h5]
    (all_goals refine qgp ?_<;>(repeat' first | exact trivial | intro hc | refine And.intro ?_ ?_)<;>refine Lf.mk ?_)
    all_goals first
     | (exfalso;refine absurd trivial ?_;assumption)
     | (exfalso;exact Bool.noConfusion hc)
     | (exfalso;refine absurd hc ?_;decide)
     | skip
    refine ya (And.intro (VS.mk ?_) (VS.mk rfl))
    show _=zfX (wJ w)
    rw [hgood _ h2];rfl
   ·rw [if_neg h1]
    (all_goals refine qgp ?_<;>(repeat' first | exact trivial | intro hc | refine And.intro ?_ ?_)<;>refine Lf.mk ?_)
    all_goals first
     | (exfalso;refine absurd trivial ?_;assumption)
     | (exfalso;exact Bool.noConfusion hc)
     | (exfalso;refine absurd hc ?_;decide)
     | skip
    refine ya (And.intro (VS.mk ?_) (VS.mk rfl))
    show _=zfX (wJ w)
    rw [hbad h2];rfl
 ·rcases hN.2 hxx with ⟨h1,h2,h3,h4,h5⟩ | ⟨h1,h2⟩
  ·rw [if_pos h1]
   (all_goals refine qgp ?_<;>(repeat' first | exact trivial | intro hc | refine And.intro ?_ ?_)<;>refine Lf.mk ?_)
   all_goals first
    | (exfalso;exact hxx (hx (by omega) (by assumption)))
    | (exfalso;refine absurd trivial ?_;assumption)
    | (exfalso;exact Bool.noConfusion hc)
    | (exfalso;refine absurd hc ?_;decide)
    | skip
   all_goals
    refine zb jN (w,95) trivial (VS.mk (LeL.of_eq rfl)) ?_
    dsimp only
    rw [h5]
   (all_goals refine qgp ?_<;>(repeat' first | exact trivial | intro hc | refine And.intro ?_ ?_)<;>refine Lf.mk ?_)
   all_goals first
    | (exfalso;refine absurd trivial ?_;assumption)
    | (exfalso;exact Bool.noConfusion hc)
    | skip
   all_goals
    refine ya (And.intro (VS.mk ?_) (VS.mk rfl))
    show _=zfX (wJ w)
    rw [hgood _ h2];rfl
  ·rw [if_neg h1]
   (all_goals refine qgp ?_<;>(repeat' first | exact trivial | intro hc | refine And.intro ?_ ?_)<;>refine Lf.mk ?_)
   all_goals first
    | (exfalso;exact hxx (hx (by omega) (by assumption)))
    | (exfalso;refine absurd trivial ?_;assumption)
    | (exfalso;exact Bool.noConfusion hc)
    | (exfalso;refine absurd hc ?_;decide)
    | skip
   all_goals
    refine ya (And.intro (VS.mk ?_) (VS.mk rfl))
    show _=zfX (wJ w)
    rw [hbad h2];rfl
end Go.Proofs.YtnkdeacghopkiaaGreatDoor
namespace Go.Proofs.YtnkdeacghopkiaaGreatDoor
open Go Go.Plat
set_option linter.unusedVariables false
set_option linter.unusedSimpArgs false
set_option maxRecDepth 100000
set_option maxHeartbeats 2000000
attribute [local irreducible] AWP zG yn zK zn yA z8 zI zY z6 zw za zN yB zt z7 yx yy yq yt zx zz zD xX yw yI zL vS we wo wd okC zU wk
def wa (s:List UInt8) (i:Nat):(y8×Int)×Nat:=
 if (s.drop i).take 2=[60,60] then ((⟨3,0,[60,60]⟩,0),i+2) else if (s.drop i).take 2=[62,62] then ((⟨3,0,[62,62]⟩,0),i+2)
 else if ze5.contains (s.getD i 0)=true then ((⟨3,0,[s.getD i 0]⟩,0),i+1) else ((⟨0,0,[]⟩,2),i)
def zhj (p:y8×Int):D:=.tup [vw p.1,.int .i64 p.2]
theorem zq9:za Tryz.prog zha (zQ (fun ((s,i):List UInt8×Nat)=>i < s.length∧s.length≤1000000000) (fun _=>[.loc 0 0]) (fun (s,i)=>rdO s i)
  (fun (s,i)=>zhj (wa s i).1) fun (s,i)=>rdO s (wa s i).2):=by
 refine zf zh Tryz.func105 rfl (by decide) ?_
 rintro ⟨s,i⟩ ⟨hi,hs⟩
 refine ⟨Nat.le_refl _,by simp [Tryz.f105],fun E hE=>?_⟩
 have hi:i < s.length:=hi
 have hs:s.length≤1000000000:=hs
 refine ze _ ?_
 (all_goals refine qgp (Lf.mk ?_))
 refine yc (α:=Nat) (fun k=>k≤2∧(1≤k→(s.drop i).take 2≠[60,60])∧(2≤k→(s.drop i).take 2≠[62,62]))
  (fun k=>[(0,.loc 0 0),(2,.loc 1 0),(7,.sl 1 [.str [60,60],.str [62,62]] none),(8,.int .i64 2),(9,.int .i64 k)])
  (fun k=>rdO s i++[.cells [.int .i64 0,.int .i64 0,.str []]]) (fun k=>2 - k) (fun _=>by simp [hE,rdO]) 0 ⟨by decide,fun h=>absurd h (by decide),fun h=>absurd h (by decide)⟩ ?_ ?_
 ·(repeat' (first | (refine VS.mk ?_) | exact trivial | exact rfl | refine And.intro ?_ ?_))
 rintro k ⟨hk,h1,h2⟩
 have hd:∀ x:List UInt8,x.length=2→(decide ((s.drop i).take x.length=x)=true↔(s.drop i).take 2=x):=fun x hx=>by rw [hx,decide_eq_true_iff]
 have hk3:k=0∨k=1∨k=2:=by omega
 rcases hk3 with rfl | rfl | rfl
 all_goals refine ze _ ?_
 (all_goals refine qgp ?_<;>(repeat' first | exact trivial | intro hc | refine And.intro ?_ ?_)<;>refine Lf.mk ?_)
 ·refine zb zhi (s.drop i,[60,60]) ⟨by rw [List.length_drop];omega,by decide⟩ (VS.mk (LeL.of_eq (by rw [Int.toNat_natCast,Int.toNat_natCast,List.take_length]))) ?_
  (all_goals refine qgp ?_<;>(repeat' first | exact trivial | intro hc | refine And.intro ?_ ?_)<;>refine Lf.mk ?_)
  ·have h:=(hd [60,60] rfl).1 (by simpa using hc)
   have e:wa s i=((⟨3,0,[60,60]⟩,0),i+2):=by unfold wa;rw [if_pos h]
   refine ya (And.intro (VS.mk ?_) (VS.mk ?_))
   ·show _=zhj (wa s i).1
    rw [e];rfl
   ·show _=rdO s (wa s i).2
    rw [e];rfl
  ·have h:(s.drop i).take 2≠[60,60]:=fun h=>absurd ((hd [60,60] rfl).2 h) (by simpa using hc)
   refine zF 1 ⟨by decide,fun _=>h,fun h=>absurd h (by decide)⟩ (by decide) ?_
   (repeat' (first | (refine VS.mk ?_) | exact trivial | exact rfl | refine And.intro ?_ ?_))
 ·refine zb zhi (s.drop i,[62,62]) ⟨by rw [List.length_drop];omega,by decide⟩ (VS.mk (LeL.of_eq (by rw [Int.toNat_natCast,Int.toNat_natCast,List.take_length]))) ?_
  (all_goals refine qgp ?_<;>(repeat' first | exact trivial | intro hc | refine And.intro ?_ ?_)<;>refine Lf.mk ?_)
  ·have h:=(hd [62,62] rfl).1 (by simpa using hc)
   have e:wa s i=((⟨3,0,[62,62]⟩,0),i+2):=by unfold wa;rw [if_neg (h1 (by decide)),if_pos h]
   refine ya (And.intro (VS.mk ?_) (VS.mk ?_))
   ·show _=zhj (wa s i).1
    rw [e];rfl
   ·show _=rdO s (wa s i).2
    rw [e];rfl
  ·have h:(s.drop i).take 2≠[62,62]:=fun h=>absurd ((hd [62,62] rfl).2 h) (by simpa using hc)
   refine zF 2 ⟨by decide,fun _=>h1 (by decide),fun _=>h⟩ (by decide) ?_
   (repeat' (first | (refine VS.mk ?_) | exact trivial | exact rfl | refine And.intro ?_ ?_))
 ·have hone:List.drop ((i:Int)).toNat (List.take ((i:Int)+1).toNat s)=[s.getD i 0]:=by
   rw [Int.toNat_natCast,show ((i:Int)+1).toNat=i+1 by omega,List.drop_take,zee (d:=0) hi,show i+1 - i=1 by omega];rfl
  refine zb jN (ze5,s.getD i 0) trivial (VS.mk (LeL.of_eq (by rw [hone];rfl))) ?_
  (all_goals refine qgp ?_<;>(repeat' first | exact trivial | intro hc | refine And.intro ?_ ?_)<;>refine Lf.mk ?_)
  ·have e:wa s i=((⟨0,0,[]⟩,2),i):=by unfold wa;rw [if_neg (h1 (by decide)),if_neg (h2 (by decide)),if_neg (by rw [hc];decide)]
   refine ya (And.intro (VS.mk ?_) (VS.mk ?_))
   ·show _=zhj (wa s i).1
    rw [e];rfl
   ·show _=rdO s (wa s i).2
    rw [e];rfl
  ·have e:wa s i=((⟨3,0,[s.getD i 0]⟩,0),i+1):=by unfold wa;rw [if_neg (h1 (by decide)),if_neg (h2 (by decide)),if_pos hc]
   refine ya (And.intro (VS.mk ?_) (VS.mk ?_))
   ·show _=zhj (wa s i).1
    rw [e,hone];rfl
   ·show _=rdO s (wa s i).2
    rw [e];rfl
attribute [local irreducible] yY wJ puF puR wa
theorem zuR {p:UInt8→Bool}:∀ {l:List UInt8} {x:UInt8},x∈l.takeWhile p→p x=true
 | [],x,h=>by simp at h
 | a::l,x,h=>by
  rw [List.takeWhile_cons] at h
  split at h
  ·rename_i ha
   rcases List.mem_cons.1 h with rfl | h
   ·exact ha
   ·exact zuR h
  ·simp at h
theorem zir:za Tryz.prog znm (zy (fun s:List UInt8=>s.length≤1000000000) (fun s=>[.str s]) fun s=>zAT (jv s)):=by
 refine zf zh Tryz.func85 rfl (by decide) ?_
 intro s hs
 refine ⟨Nat.le_refl _,by simp [Tryz.f85],fun E hE=>?_⟩
 have hR:=zyG s
 refine ze _ ?_
 (all_goals refine qgp ?_<;>(repeat' first | exact trivial | intro hc | refine And.intro ?_ ?_)<;>refine Lf.mk ?_)
 ·rw [if_pos (by omega)] at hR
  refine zd (VS.mk ?_)
  rw [hR]
  exact .tup (.cons (.nil 3) (.cons (.refl _) .nil))
 rw [if_neg (by omega)] at hR
 refine zb zuO (s,59) hs (VS.mk (LeL.of_eq rfl)) ?_
 unfold zwL zwK
 dsimp only
 have hno:∀ x∈s.takeWhile (· != 59),x≠59:=fun x hx=>by
  have:=zuR hx
  simpa using this
 have hul:(s.takeWhile (· != 59)).length≤s.length:=(List.takeWhile_prefix _).length_le
 rw [zyL] at hR
 generalize s.takeWhile (· != 59)=u at *
 (all_goals refine qgp (Lf.mk ?_))
 refine x8 (qV 5 3 rfl) ?_
 refine yc (α:=Nat×List y8) (fun p=>p.1≤u.length∧p.2.length≤p.1∧we u []=we (u.drop p.1) p.2)
  (fun p=>[(4,.loc 0 0),(5,.sl 3 (p.2.map vw) (some 1))])
  (fun p=>rdO u p.1++[.spare p.2.length]) (fun p=>u.length - p.1) (fun _=>by simp [hE]) (0,[]) ⟨Nat.zero_le _,Nat.le_refl _,rfl⟩ ?_ ?_
 ·(repeat' (first | (refine VS.mk ?_) | exact trivial | exact rfl | refine And.intro ?_ ?_))
 rintro ⟨i,out⟩ ⟨hi,ho,hf⟩
 dsimp only at hi ho hf ⊢
 have hj1:i+zU xX (u.drop i)≤u.length:=by have:=ze6 xX (u.drop i);rw [List.length_drop] at this;omega
 have hj2:we u []=we (u.drop (i+zU xX (u.drop i))) out:=by rw [hf,zo8,List.drop_drop]
 have hj3:i+zU xX (u.drop i) < u.length→xX (u.getD (i+zU xX (u.drop i)) 0)=false:=fun h=>by
  have:=zji xX (u.drop i) (by rw [List.length_drop];omega)
  rwa [List.getD_eq_getElem?_getD,List.getElem?_drop,← List.getD_eq_getElem?_getD] at this
 have hj4:i≤i+zU xX (u.drop i):=Nat.le_add_right _ _
 refine ze _ ?_
 (all_goals refine qgp (Lf.mk ?_))
 refine zu (zfU zq8) [0] [0] (u,i) ⟨hi,by omega⟩ rfl rfl ?_
 refine And.intro (VS.mk (LeL.of_eq rfl)) (And.intro (VS.mk rfl) ?_)
 dsimp only
 generalize i+zU xX (u.drop i)=j at *
 (all_goals refine qgp ?_<;>(repeat' first | exact trivial | intro hc | refine And.intro ?_ ?_)<;>refine Lf.mk ?_)
 ·rw [List.drop_of_length_le (by omega),zo2] at hj2
  rw [hj2] at hR
  refine zd (VS.mk ?_)
  rw [hR]
  (first | exact LeL.refl _ | (repeat' (first | exact LeL.nil | exact LeD.refl _ | exact LeD.nil _ | exact LeD.strip _ _ _ | refine LeL.cons ?_ ?_ | refine LeD.tup ?_ | refine LeD.agg ?_)))
 have hjl:j < u.length:=by omega
 obtain ⟨c,hcx⟩:∃ c,u.getD j 0=c:=⟨_,rfl⟩
 obtain ⟨r,hr⟩:∃ r,u.drop (j+1)=r:=⟨_,rfl⟩
 have hd:u.drop j=c::r:=by rw [zee (d:=0) hjl,hcx,hr]
 have h59:c≠59:=hno c (by rw [← hcx,List.getD_eq_getElem?_getD,List.getElem?_eq_getElem hjl];exact List.getElem_mem hjl)
 have hK:=zfV c
 have hbl:=hj3 hjl
 rw [hcx] at hbl
 rw [hd,qH] at hj2
 refine zb ju c trivial (VS.mk (LeL.of_eq (by rw [Int.toNat_natCast,hcx];rfl))) ?_
 (all_goals refine qgp ?_<;>(repeat' first | exact trivial | intro hc | refine And.intro ?_ ?_)<;>refine Lf.mk ?_)
 ·have hk97:=hK.2.2.2.1 hc
  have h1:=zc7 (r:=r) hk97
  have h2:=ze6 wk (c::r)
  rw [if_neg (by rw [hk97];decide),if_pos hk97,← hd,List.drop_drop] at hj2
  rw [← hd] at h1 h2
  rw [List.length_drop] at h2
  refine zu (zfU zti) [0] [0] (u,j) ⟨hj1,by omega⟩ rfl rfl ?_
  refine And.intro (VS.mk (LeL.of_eq rfl)) (And.intro (VS.mk rfl) ?_)
  dsimp only
  rw [List.drop_take,Nat.add_sub_cancel_left]
  generalize zU wk (u.drop j)=sp at *
  (all_goals refine qgp ?_<;>(repeat' first | exact trivial | intro hc | refine And.intro ?_ ?_)<;>refine Lf.mk ?_)
  all_goals first
   | (exfalso;refine absurd hc ?_;decide)
   | skip
  refine zF (j+sp,out++[⟨1,0,(u.drop j).take sp⟩]) ⟨by dsimp only;omega,by dsimp only;rw [List.length_append,List.length_cons,List.length_nil];omega,hj2⟩ (by dsimp only;omega) ?_
  (repeat' (first | (refine VS.mk ?_) | exact trivial | exact rfl | refine And.intro ?_ ?_))
  all_goals (first | rfl | simp [vw,rdO])
 refine zb zbV c trivial (VS.mk (LeL.of_eq (by rw [Int.toNat_natCast,hcx];rfl))) ?_
 have hl:zL c=false:=hc
 (all_goals refine qgp ?_<;>(repeat' first | exact trivial | intro hc | refine And.intro ?_ ?_)<;>refine Lf.mk ?_)
 ·have hk48:=hK.2.2.2.2.1 hl hc
  have h1:=zef (r:=r) hk48
  have h2:=ze6 wo (c::r)
  rw [if_neg (by rw [hk48];decide),if_neg (by rw [hk48];decide),if_pos hk48,← hd,List.drop_drop] at hj2
  rw [← hd] at h1 h2
  rw [List.length_drop] at h2
  refine zu zns [0] [0] (u,j) ⟨hj1,by omega⟩ rfl rfl ?_
  refine And.intro (VS.mk (LeL.of_eq rfl)) (And.intro (VS.mk rfl) ?_)
  dsimp only
  rw [List.drop_take,Nat.add_sub_cancel_left]
  generalize zU wo (u.drop j)=sp at *
  generalize (u.drop j).take sp=w at *
  have hT:wJ w=if (wd w).2=true then (⟨2,(wd w).1,[]⟩,0) else (⟨0,0,[]⟩,2):=by unfold wJ;rfl
  by_cases hn:(wd w).2=true
  ·rw [if_pos hn] at hj2 hT
   rw [hT]
   (all_goals refine qgp ?_<;>(repeat' first | exact trivial | intro hc | refine And.intro ?_ ?_)<;>refine Lf.mk ?_)
   all_goals first
    | (exfalso;refine absurd hc ?_;decide)
    | skip
   refine zF (j+sp,out++[⟨2,(wd w).1,[]⟩]) ⟨by dsimp only;omega,by dsimp only;rw [List.length_append,List.length_cons,List.length_nil];omega,hj2⟩ (by dsimp only;omega) ?_
   (repeat' (first | (refine VS.mk ?_) | exact trivial | exact rfl | refine And.intro ?_ ?_))
   all_goals (first | rfl | simp [vw,rdO])
  ·rw [if_neg hn] at hj2 hT
   rw [hT]
   rw [hj2] at hR
   (all_goals refine qgp ?_<;>(repeat' first | exact trivial | intro hc | refine And.intro ?_ ?_)<;>refine Lf.mk ?_)
   all_goals first
    | (exfalso;refine absurd hc ?_;decide)
    | skip
   refine zd (VS.mk ?_)
   rw [hR]
   exact .tup (.cons (.nil 3) (.cons (.refl _) .nil))
 ·obtain ⟨k1,k2,k3⟩:=hK.2.2.2.2.2 hl hc hbl
  rw [if_neg k3,if_neg k1,if_neg k2,if_neg h59] at hj2
  refine zu zq9 [0] [0] (u,j) ⟨hjl,by omega⟩ rfl rfl ?_
  refine And.intro (VS.mk (LeL.of_eq rfl)) (And.intro (VS.mk rfl) ?_)
  dsimp only
  have hS:wa u j=if (u.drop j).take 2=[60,60] then ((⟨3,0,[60,60]⟩,0),j+2) else if (u.drop j).take 2=[62,62] then ((⟨3,0,[62,62]⟩,0),j+2)
    else if ze5.contains (u.getD j 0)=true then ((⟨3,0,[u.getD j 0]⟩,0),j+1) else ((⟨0,0,[]⟩,2),j):=by unfold wa;rfl
  rw [hcx,hd] at hS
  have hr1:r.drop 1=u.drop (j+2):=by rw [← hr,List.drop_drop]
  have two:∀ x:UInt8,(c::r).take 2=[x,x]→j+2≤u.length:=fun x h=>by
   have:=congrArg List.length h
   rw [← hd,List.length_take,List.length_drop] at this
   simp at this
   omega
  by_cases q1:(c::r).take 2=[60,60]
  ·have:=two 60 q1
   rw [if_pos (.inl q1),hr1,q1] at hj2
   rw [if_pos q1] at hS
   rw [hS]
   (all_goals refine qgp ?_<;>(repeat' first | exact trivial | intro hc | refine And.intro ?_ ?_)<;>refine Lf.mk ?_)
   all_goals first
    | (exfalso;refine absurd hc ?_;decide)
    | skip
   refine zF (j+2,out++[⟨3,0,[60,60]⟩]) ⟨by dsimp only;omega,by dsimp only;rw [List.length_append,List.length_cons,List.length_nil];omega,hj2⟩ (by dsimp only;omega) ?_
   (repeat' (first | (refine VS.mk ?_) | exact trivial | exact rfl | refine And.intro ?_ ?_))
   all_goals (first | rfl | simp [vw,rdO])
  by_cases q2:(c::r).take 2=[62,62]
  ·have:=two 62 q2
   rw [if_pos (.inr q2),hr1,q2] at hj2
   rw [if_neg q1,if_pos q2] at hS
   rw [hS]
   (all_goals refine qgp ?_<;>(repeat' first | exact trivial | intro hc | refine And.intro ?_ ?_)<;>refine Lf.mk ?_)
   all_goals first
    | (exfalso;refine absurd hc ?_;decide)
    | skip
   refine zF (j+2,out++[⟨3,0,[62,62]⟩]) ⟨by dsimp only;omega,by dsimp only;rw [List.length_append,List.length_cons,List.length_nil];omega,hj2⟩ (by dsimp only;omega) ?_
   (repeat' (first | (refine VS.mk ?_) | exact trivial | exact rfl | refine And.intro ?_ ?_))
   all_goals (first | rfl | simp [vw,rdO])
  rw [if_neg (fun h=>h.elim q1 q2)] at hj2
  rw [if_neg q1,if_neg q2] at hS
  by_cases q3:ze5.contains c=true
  ·rw [if_pos q3,← hr] at hj2
   rw [if_pos q3] at hS
   rw [hS]
   (all_goals refine qgp ?_<;>(repeat' first | exact trivial | intro hc | refine And.intro ?_ ?_)<;>refine Lf.mk ?_)
   all_goals first
    | (exfalso;refine absurd hc ?_;decide)
    | skip
   refine zF (j+1,out++[⟨3,0,[c]⟩]) ⟨by dsimp only;omega,by dsimp only;rw [List.length_append,List.length_cons,List.length_nil];omega,hj2⟩ (by dsimp only;omega) ?_
   (repeat' (first | (refine VS.mk ?_) | exact trivial | exact rfl | refine And.intro ?_ ?_))
   all_goals (first | rfl | simp [vw,rdO])
  ·rw [if_neg q3] at hj2 hS
   rw [hS]
   rw [hj2] at hR
   (all_goals refine qgp ?_<;>(repeat' first | exact trivial | intro hc | refine And.intro ?_ ?_)<;>refine Lf.mk ?_)
   all_goals first
    | (exfalso;refine absurd hc ?_;decide)
    | skip
   refine zd (VS.mk ?_)
   rw [hR]
   exact .tup (.cons (.nil 3) (.cons (.refl _) .nil))
end Go.Proofs.YtnkdeacghopkiaaGreatDoor
namespace Go.Proofs.YtnkdeacghopkiaaGreatDoor
open Go Go.Plat
set_option linter.unusedVariables false
set_option linter.unusedSimpArgs false
set_option maxRecDepth 100000
set_option maxHeartbeats 2000000
attribute [local irreducible] AWP zG yn zK zn yA z8 zI zY z6 zw za zN yB zt z7 yx yy yq yt zx zz zD yw yI zL vS we wo wd okC zU wk
def xG (c:UInt8):List UInt8→List (List UInt8)
 | []=>[[]]
 | b::l=>if b=c then []::xG c l else match xG c l with
  | []=>[[b]]
  | x::r=>(b::x)::r
theorem zct (c:UInt8):∀ s,(xG c s).length=s.count c+1
 | []=>rfl
 | b::l=>by
  have ih:=zct c l
  rw [xG,List.count_cons]
  by_cases h:b=c
  ·rw [if_pos h,h];simp;omega
  ·rw [if_neg h]
   have e:(b==c)=false:=beq_eq_false_iff_ne.2 h
   rw [e]
   cases hl:xG c l with
   | nil=>rw [hl] at ih;simp at ih
   | cons x r=>rw [hl] at ih;simpa using ih
theorem zeh (c:UInt8):∀ s:List UInt8,(s.contains c=false→xG c s=[s])∧(s.contains c=true→xG c s=s.takeWhile (· != c)::xG c ((s.dropWhile (· != c)).drop 1))
 | []=>⟨fun _=>rfl,fun h=>by simp at h⟩
 | b::l=>by
  obtain ⟨h1,h2⟩:=zeh c l
  rw [xG,List.contains_cons,List.takeWhile_cons,List.dropWhile_cons]
  by_cases h:b=c
  ·subst h
   refine ⟨fun h=>by simp at h,fun _=>?_⟩
   rw [if_pos rfl]
   simp
  ·have e:(b==c)=false:=beq_eq_false_iff_ne.2 h
   have e1:(c==b)=false:=beq_eq_false_iff_ne.2 fun q=>h q.symm
   have e2:(b != c)=true:=by simp [bne,e]
   rw [if_neg h,e1,Bool.false_or,e2,if_pos rfl,if_pos rfl]
   refine ⟨fun h=>by rw [h1 h],fun h=>by rw [h2 h]⟩
theorem ztk (c:UInt8) (s:List UInt8) (h:s.contains c=true):s.count c=((s.dropWhile (· != c)).drop 1).count c+1:=by
 have h1:=zct c s
 rw [(zeh c s).2 h,List.length_cons,zct] at h1
 omega
theorem zuS {c:UInt8} {s:List UInt8} (h:0 < s.count c):s.contains c=true:=by
 rw [List.contains_iff_mem]
 exact List.count_pos_iff.1 h
theorem ztl {c:UInt8} {s:List UInt8} (h:s.count c=0):s.contains c=false:=by
 cases e:s.contains c with
 | false=>rfl
 | true=>
  rw [List.contains_iff_mem] at e
  have:=List.count_pos_iff.2 e
  omega
theorem zwM {n:Nat} {x:D} {K:List D→Nat→Prop} (h:K (List.replicate n x) n):zt (List.replicate n x) K:=by unfold zt;rw [List.length_replicate];exact h
def j7 (pre:List (List UInt8)) (m:Nat):List D:=(pre++List.replicate m []).map D.str
theorem zwN (pre:List (List UInt8)) (m:Nat) (x:List UInt8):(j7 pre (m+1)).set pre.length (.str x)=j7 (pre++[x]) m:=by
 unfold j7
 rw [← List.map_set,List.set_append_right _ _ (Nat.le_refl _),Nat.sub_self,List.replicate_succ,List.set_cons_zero,List.append_assoc]
 rfl
theorem zpa (pre:List (List UInt8)) (m:Nat):(j7 pre m).length=pre.length+m:=by unfold j7;simp
theorem zmv {m:Nat→Option Nat} {ds:List D} {K:List D→Prop} (l:List (List UInt8)) (h:ds=l.map D.str) (hK:K (l.map D.str)):zoi m ds K:=by
 subst h
 have hp:∀ (c:List UInt8),xI m (D.str c) (D.str c):=fun c=>xx trivial
 refine ⟨l.map D.str,⟨rfl,fun i d d' h1 h2=>?_⟩,fun i d d' h1 h2=>?_,hK⟩
 all_goals
  rw [h1] at h2
  cases h2
  simp only [List.getElem?_map,Option.map_eq_some_iff] at h1
  obtain ⟨c,_,rfl⟩:=h1
 ·exact hp c
 ·refine ⟨rfl,rfl,fun j x x' h3 h4=>?_⟩
  rw [h3] at h4
  cases h4
  cases j with
  | zero=>simp [D.cells] at h3;subst h3;exact hp c
  | succ j=>simp [D.cells] at h3
theorem ztm (l:List (List UInt8)):qU (l.map D.str) (l.map D.str):=by
 refine ⟨rfl,fun i d d' h1 h2=>?_⟩
 rw [h1] at h2
 cases h2
 simp only [List.getElem?_map,Option.map_eq_some_iff] at h1
 obtain ⟨c,_,rfl⟩:=h1
 refine ⟨rfl,rfl,fun j x x' h3 h4=>?_⟩
 rw [h3] at h4
 cases h4
 cases j with
 | zero=>
  simp [D.cells] at h3
  subst h3
  intro w F ρ L v h
  cases h with | pure _ _ h=>exact h
 | succ j=>simp [D.cells] at h3
theorem zrW {ds ds':List D} {n:Nat} {K:List D→Nat→Prop} (h:ds=ds') (hn:ds'.length=n) (hK:K ds' n):zt ds K:=by unfold zt;subst h;rw [hn];exact hK
theorem zrX {pre:List (List UInt8)} {m:Nat} {n:Int} {K:D→Prop} (hn:n=pre.length) (h:K (.str [])):zY (j7 pre (m+1)) n K:=
 zl (enc:=D.str) [] (by omega) (by rw [hn,Int.toNat_natCast,List.getElem?_append_right (Nat.le_refl _),Nat.sub_self];rfl) h
attribute [local irreducible] j7
theorem zpb:za Tryz.prog zg9 (zy (fun ((s,c):List UInt8×UInt8)=>s.length≤1000000) (fun (s,c)=>[.str s,.str [c],.int .i64 0,.int .i64 (-1)]) fun (s,c)=>.sl 1 ((xG c s).map .str) none):=by
 refine zf zh Tryz.func99 rfl (by decide) ?_
 rintro ⟨s,c⟩ hs
 have hs:s.length≤1000000:=hs
 have hcl:=List.count_le_length (a:=c) (l:=s)
 refine ⟨Nat.le_refl _,by simp [Tryz.f99],fun E hE=>?_⟩
 refine ze _ ?_
 (all_goals refine qgp ?_<;>(repeat' first | exact trivial | intro hc | refine And.intro ?_ ?_)<;>refine Lf.mk ?_)
 all_goals first
  | (exfalso;exact List.cons_ne_nil _ _ hc)
  | skip
 refine zb zq7 (s,c) trivial (VS.mk (LeL.of_eq rfl)) ?_
 have hmin:min ((s.count c:Int)+1) ((s.length:Int)+1)=((s.count c+1:Nat):Int):=by omega
 (all_goals refine qgs (Lf.mk ?_))
 refine ziT ?_
 refine VS.mk (yL ?_ (VS.mk ?_))
 ·dsimp only
  refine ⟨by omega,rfl,?_,by omega⟩
  show min ((s.count c:Int)+1) ((s.length:Int)+1) * ((16:Nat):Int)≤_
  omega
 dsimp only
 rw [hmin,Int.toNat_natCast]
 refine zwM ?_
 (all_goals refine qgo (Lf.mk ?_))
 refine yc (α:=List (List UInt8)×List UInt8) (fun p=>xG c s=p.1++xG c p.2∧p.2.length≤s.length∧p.1.length+p.2.count c=s.count c)
  (fun p=>[(0,.str p.2),(1,.str [c]),(2,.int .i64 0),(3,.int .i64 (s.count c)),(9,.osl 1 0 (s.count c+1) 0 (s.count c+1)),(10,.int .i64 p.1.length)])
  (fun p=>[.arr 1 (j7 p.1 (s.count c+1 - p.1.length))]) (fun p=>p.2.count c) (fun _=>by simp [hE]) ([],s) ⟨rfl,Nat.le_refl _,by simp⟩ ?_ ?_
 ·(repeat' (first | (refine VS.mk ?_) | exact trivial | exact rfl | refine And.intro ?_ ?_))
  ·refine zmv (List.replicate (s.count c+1) []) (by rw [List.map_replicate];rfl) ?_
   (repeat' (first | (refine VS.mk ?_) | exact trivial | exact rfl | refine And.intro ?_ ?_))
   unfold j7
   rfl
  ·exact congrArg (D.int .i64) (by omega)
 rintro ⟨pre,rest⟩ ⟨hsp,hrl,hct⟩
 dsimp only at hsp hrl hct ⊢
 have hsl:=zpa pre (s.count c - pre.length+1)
 have hm1:s.count c+1 - pre.length=s.count c - pre.length+1:=by omega
 have hset:=fun x=>zwN pre (s.count c - pre.length) x
 have hsl2:=fun x=>zpa (pre++[x]) (s.count c - pre.length)
 rw [hm1]
 refine ze _ ?_
 (all_goals refine qgo ?_<;>(repeat' first | exact trivial | intro hc | refine And.intro ?_ ?_)<;>refine Lf.mk ?_)
 ·have hct2:rest.contains c=true:=zuS (by omega)
  have hcd:=ztk c rest hct2
  have hi:=zeg c rest
  have hb: -1≤Lib.indexByte rest c∧Lib.indexByte rest c≤rest.length∧(0≤Lib.indexByte rest c→Lib.indexByte rest c < rest.length):=by omega
  have hl1:([c]:List UInt8).length=1:=rfl
  have hpos:0≤Lib.indexByte rest c:=by
   rcases hi with ⟨_,h2,_⟩ | ⟨h1,_⟩
   ·rw [hct2] at h2;cases h2
   ·exact h1
  refine zb zo3 (rest,c) trivial (VS.mk (LeL.of_eq rfl)) ?_
  (all_goals refine qgp ?_<;>(repeat' first | exact trivial | intro hc | refine And.intro ?_ ?_)<;>refine Lf.mk ?_)
  refine zrX (by omega) ?_
  refine VS.mk ?_
  rcases hi with ⟨h1,_⟩ | ⟨_,_,h3,h4,h5⟩
  ·omega
  have hsp2:=(zeh c rest).2 hct2
  rw [← h4] at hsp2 hcd
  generalize Lib.indexByte rest c=ix at *
  generalize hT:rest.takeWhile (· != c)=tw at *
  have htw:rest.take tw.length=tw:=by rw [← hT];exact zo4 _ rest
  subst h3
  have hdl:(rest.drop (tw.length+1)).length≤rest.length:=by rw [List.length_drop];omega
  refine zrW (ds':=j7 (pre++[tw]) (s.count c - pre.length)) (n:=s.count c+1) ?_ ?_ ?_
  ·rw [← hset tw,Nat.zero_add,Int.toNat_natCast,show ((tw.length:Int)+0).toNat=tw.length by omega,htw]
   rfl
  ·rw [hsl2 tw,List.length_append,List.length_cons,List.length_nil];omega
  (all_goals refine qgp (Lf.mk ?_))
  have g1:xG c s=(pre++[tw])++xG c (rest.drop (tw.length+1)):=by rw [hsp,hsp2,List.append_assoc];rfl
  have g2:(pre++[tw]).length+(rest.drop (tw.length+1)).count c=s.count c:=by rw [List.length_append,List.length_cons,List.length_nil];omega
  refine zF (pre++[tw],rest.drop (tw.length+1)) ⟨g1,by dsimp only;omega,g2⟩ (by dsimp only;omega) ?_
  (repeat' (first | (refine VS.mk ?_) | exact trivial | exact rfl | refine And.intro ?_ ?_))
  ·refine zmv ((pre++[tw])++List.replicate (s.count c - pre.length) []) (by unfold j7;rfl) ?_
   (repeat' (first | (refine VS.mk ?_) | exact trivial | exact rfl | refine And.intro ?_ ?_))
   show _=[Ob.arr 1 (j7 (pre++[tw]) (s.count c+1 - (pre++[tw]).length))]
   rw [show s.count c+1 - (pre++[tw]).length=s.count c - pre.length by rw [List.length_append,List.length_cons,List.length_nil];omega]
   unfold j7
   rfl
  ·refine congrArg D.str ?_
   dsimp only
   rw [hl1,Int.toNat_natCast,List.take_length,show ((tw.length:Int)+((1:Nat):Int)).toNat=tw.length+1 by omega]
  ·refine congrArg (D.int .i64) ?_
   dsimp only
   rw [List.length_append,List.length_cons,List.length_nil];omega
 ·refine zrX (by omega) ?_
  refine VS.mk ?_
  have hno:=(zeh c rest).1 (ztl (by omega))
  refine zrW (ds':=j7 (pre++[rest]) (s.count c - pre.length)) (n:=s.count c+1) ?_ ?_ ?_
  ·rw [← hset rest,Nat.zero_add,Int.toNat_natCast]
  ·rw [hsl2 rest,List.length_append,List.length_cons,List.length_nil];omega
  (all_goals refine qgp (Lf.mk ?_))
  have hfin:j7 (pre++[rest]) (s.count c - pre.length)=(xG c s).map D.str:=by
   rw [hsp,hno,show s.count c - pre.length=0 by omega]
   unfold j7
   rw [List.replicate_zero,List.append_nil]
  rw [hfin]
  have hfl:((xG c s).map D.str).length=s.count c+1:=by rw [List.length_map,zct]
  rw [show ((pre.length:Int)+1).toNat - Int.toNat 0=s.count c+1 by simp only [Int.toNat_zero];omega]
  show zI 0 (.osl 1 0 (s.count c+1) 0 (s.count c+1)) _ _ []
  refine vO (k:=0) (e:=1) (els:=(xG c s).map D.str) (els':=(xG c s).map D.str) rfl (Nat.le_refl _) (ztm _) (.here _ _ hfl.symm hfl.symm) ?_ (Nat.le_refl _)
  exact zd (VS.mk (LeD.of_eq rfl))
theorem zra:za Tryz.prog zkq (zy (fun ((s,c):List UInt8×UInt8)=>s.length≤1000000) (fun (s,c)=>[.str s,.str [c]]) fun (s,c)=>.sl 1 ((xG c s).map .str) none):=by
 refine zf zh Tryz.func84 rfl (by decide) ?_
 rintro ⟨s,c⟩ hs
 refine ⟨Nat.le_refl _,by simp [Tryz.f84],fun E hE=>?_⟩
 refine ze _ ?_
 (all_goals refine qgp (Lf.mk ?_))
 refine zb zpb (s,c) hs (VS.mk (LeL.of_eq rfl)) ?_
 (all_goals refine qgp (Lf.mk ?_))
 exact zd (VS.mk (LeD.of_eq rfl))
end Go.Proofs.YtnkdeacghopkiaaGreatDoor
namespace Go.Proofs.YtnkdeacghopkiaaGreatDoor
open Go Go.Plat
set_option linter.unusedVariables false
set_option linter.unusedSimpArgs false
set_option maxRecDepth 100000
set_option maxHeartbeats 2000000
attribute [local irreducible] AWP zG yn zK zn yA z8 zI zY z6 zw za zN yB zt z7 yx yy yq yt zx zz zD yY yw yI zL okC
end Go.Proofs.YtnkdeacghopkiaaGreatDoor
namespace Go.Proofs.YtnkdeacghopkiaaGreatDoor
open Go Go.Plat
set_option linter.unusedVariables false
set_option linter.unusedSimpArgs false
set_option maxRecDepth 100000
set_option maxHeartbeats 2000000
attribute [local irreducible] AWP zG yn zK zn yA z8 zI zY z6 zw za zN yB zt z7 yx yy yq yt zx zz zD yw yI zL okC
attribute [local irreducible] vS we wo wd zU wk
attribute [local irreducible] xX yY jv wJ puF puR wa
structure xr where
 pos:Int
 toks:List y8
def ww (l:xr):D:=.agg [.int .i64 l.pos,.sl 3 (l.toks.map vw) none]
def zad:List (List UInt8)→Int→List xr→List xr×Int×Int
 | [],_,out=>(out,0,0)
 | p::r,k,out=>if (jv p).2≠0 then ([],(jv p).2,k) else if (jv p).1.length=0 then zad r (k+1) out else zad r (k+1) (out++[⟨k,(jv p).1⟩])
def xv (b:List UInt8):List xr×Int×Int:=if 1200 < b.length then ([],4,0) else zad (xG 10 b) 1 []
def zuT (p:List xr×Int×Int):D:=.tup [.sl 2 (p.1.map ww) none,.agg [.int .i64 p.2.1,.int .i64 p.2.2]]
theorem zrb (p:List UInt8) (r:List (List UInt8)) (k:Int) (out:List xr):zad (p::r) k out =
  if (jv p).2≠0 then ([],(jv p).2,k) else if (jv p).1.length=0 then zad r (k+1) out else zad r (k+1) (out++[⟨k,(jv p).1⟩]):=rfl
theorem zpc (c:UInt8):∀ (s:List UInt8) (p:List UInt8),p∈xG c s→p.length≤s.length
 | [],p,h=>by rw [xG,List.mem_singleton] at h;rw [h];exact Nat.le_refl _
 | b::l,p,h=>by
  have ih:=zpc c l
  rw [xG] at h
  split at h
  ·rcases List.mem_cons.1 h with rfl | h
   ·simp
   ·have:=ih p h;simp;omega
  ·cases hl:xG c l with
   | nil=>rw [hl,List.mem_singleton] at h;rw [h];simp
   | cons x r=>
    rw [hl] at h
    rcases List.mem_cons.1 h with rfl | h
    ·have:=ih x (by rw [hl];exact List.mem_cons_self);simp;omega
    ·have:=ih p (by rw [hl];exact List.mem_cons_of_mem _ h);simp;omega
theorem zjk:za Tryz.prog zoO (zy (fun b:List UInt8=>b.length≤1000000000) (fun b=>[.sl 1 (b.map zC) none]) fun b=>zuT (xv b)):=by
 refine zf zh Tryz.func65 rfl (by decide) ?_
 intro b hb
 refine ⟨Nat.le_refl _,by simp [Tryz.f65],fun E hE=>?_⟩
 have hR:xv b=if 1200 < b.length then ([],4,0) else zad (xG 10 b) 1 []:=rfl
 have hpl:=zpc 10 b
 have hsl:=zct 10 b
 have hct:=List.count_le_length (a:=10) (l:=b)
 refine ze _ ?_
 (all_goals refine qgp ?_<;>(repeat' first | exact trivial | intro hc | refine And.intro ?_ ?_)<;>refine Lf.mk ?_)
 ·rw [if_pos (by omega)] at hR
  refine zd (VS.mk ?_)
  rw [hR]
  exact .tup (.cons (.nil 2) (.cons (.refl _) .nil))
 rw [if_neg (by omega)] at hR
 refine zb zra (b,10) (by show b.length≤1000000;omega) (VS.mk (LeL.of_eq rfl)) ?_
 dsimp only
 generalize xG 10 b=ps at *
 (all_goals refine qgp (Lf.mk ?_))
 refine x8 (qV 4 2 rfl) ?_
 refine yc (α:=Nat×List xr) (fun p=>p.1≤ps.length∧p.2.length≤p.1∧xv b=zad (ps.drop p.1) (p.1+1) p.2)
  (fun p=>[(3,.loc 0 0),(4,.sl 2 (p.2.map ww) (some 1)),(15,.sl 1 (ps.map .str) none),(16,.int .i64 ps.length),(17,.int .i64 p.1)])
  (fun p=>[.cells [.int .i64 0,.int .i64 0],.spare p.2.length]) (fun p=>ps.length - p.1) (fun _=>by simp [hE]) (0,[]) ⟨Nat.zero_le _,Nat.le_refl _,by rw [hR];rfl⟩ ?_ ?_
 ·(repeat' (first | (refine VS.mk ?_) | exact trivial | exact rfl | refine And.intro ?_ ?_))
 rintro ⟨i,out⟩ ⟨hi,ho,hf⟩
 dsimp only at hi ho hf ⊢
 refine ze _ ?_
 (all_goals refine qgp ?_<;>(repeat' first | exact trivial | intro hc | refine And.intro ?_ ?_)<;>refine Lf.mk ?_)
 ·have hil:i < ps.length:=by omega
  obtain ⟨p,hp⟩:∃ p,ps[i]=p:=⟨_,rfl⟩
  have hpx:ps[i]?=some p:=by rw [List.getElem?_eq_getElem hil,hp]
  have hpm:=hpl p (by rw [← hp];exact List.getElem_mem hil)
  rw [List.drop_eq_getElem_cons hil,hp,zrb] at hf
  refine zl p (by omega) (by simpa using hpx) ?_
  (all_goals refine qgp (Lf.mk ?_))
  refine zb zir p (by omega) (VS.mk (LeL.of_eq rfl)) ?_
  generalize jv p=T at *
  obtain ⟨ts,te⟩:=T
  dsimp only at hf
  (all_goals refine qgp ?_<;>(repeat' first | exact trivial | intro hc | refine And.intro ?_ ?_)<;>refine Lf.mk ?_)
  ·rw [if_pos hc] at hf
   refine zd (VS.mk ?_)
   rw [hf]
   exact .tup (.cons (.nil 2) (.cons (.refl _) .nil))
  ·have ht:te=0:=by assumption
   rw [if_neg (by rw [ht];simp),if_neg (by omega)] at hf
   have hf1:xv b=zad (ps.drop (i+1)) (((i+1:Nat):Int)+1) (out++[⟨(i:Int)+1,ts⟩]):=hf
   refine zF (i+1,out++[⟨(i:Int)+1,ts⟩]) ⟨by dsimp only;omega,by dsimp only;rw [List.length_append,List.length_cons,List.length_nil];omega,hf1⟩ (by dsimp only;omega) ?_
   (repeat' (first | (refine VS.mk ?_) | exact trivial | exact rfl | refine And.intro ?_ ?_))
   all_goals (first | rfl | simp [ww])
  ·have ht:te=0:=by assumption
   rw [if_neg (by rw [ht];simp),if_pos (by omega)] at hf
   have hf1:xv b=zad (ps.drop (i+1)) (((i+1:Nat):Int)+1) out:=hf
   refine zF (i+1,out) ⟨by dsimp only;omega,by dsimp only;omega,hf1⟩ (by dsimp only;omega) ?_
   (repeat' (first | (refine VS.mk ?_) | exact trivial | exact rfl | refine And.intro ?_ ?_))
 ·rw [List.drop_of_length_le (by omega)] at hf
  refine zd (VS.mk ?_)
  rw [hf]
  (first | exact LeL.refl _ | (repeat' (first | exact LeL.nil | exact LeD.refl _ | exact LeD.nil _ | exact LeD.strip _ _ _ | refine LeL.cons ?_ ?_ | refine LeD.tup ?_ | refine LeD.agg ?_)))
end Go.Proofs.YtnkdeacghopkiaaGreatDoor
namespace Go.Proofs.YtnkdeacghopkiaaGreatDoor
open Go Go.Plat
set_option linter.unusedVariables false
set_option linter.unusedSimpArgs false
set_option maxRecDepth 100000
set_option maxHeartbeats 2000000
attribute [local irreducible] AWP zG yn zK zn yA z8 zI zY z6 zw za zN yB zt z7 yx yy yq yt zx zz zD
inductive zi where
 | mk (kind n:Int) (name:List UInt8) (kids:List zi)
def zi.kind:zi→Int | .mk k _ _ _=>k
def zi.n:zi→Int | .mk _ n _ _=>n
def zi.name:zi→List UInt8 | .mk _ _ s _=>s
def zi.kids:zi→List zi | .mk _ _ _ ks=>ks
mutual
def xy:zi→D
 | .mk k n s ks=>.agg [.int .i64 k,.int .i64 n,.str s,.sl 4 (zhk ks) none]
def zhk:List zi→List D
 | []=>[]
 | e::es=>xy e::zhk es
end
mutual
def yM:zi→Nat
 | .mk _ _ s ks=>1+s.length+qg ks
def qg:List zi→Nat
 | []=>0
 | e::es=>yM e+qg es
end
theorem zkA:∀ l:List zi,zhk l=l.map xy
 | []=>by rw [zhk];rfl
 | e::es=>by rw [zhk,zkA es];rfl
def qn (e:zi):D:=.agg [.int .i64 e.kind,.int .i64 e.n,.str e.name,.sl 4 (e.kids.map xy) none]
theorem zrY (k n:Int) (s:List UInt8) (ks:List zi):(zi.mk k n s ks).kind=k:=rfl
theorem zzV (k n:Int) (s:List UInt8) (ks:List zi):(zi.mk k n s ks).n=n:=rfl
theorem zrZ (k n:Int) (s:List UInt8) (ks:List zi):(zi.mk k n s ks).name=s:=rfl
theorem zr0 (k n:Int) (s:List UInt8) (ks:List zi):(zi.mk k n s ks).kids=ks:=rfl
theorem zbE (k n:Int) (s:List UInt8) (ks:List zi):qn (.mk k n s ks)= .agg [.int .i64 k,.int .i64 n,.str s,.sl 4 (ks.map xy) none]:=rfl
theorem zfY (e:zi):xy e=qn e:=by
 cases e with
 | mk k n s ks=>rw [xy,zkA];rfl
theorem zzW (a:zi):[a].map xy=[qn a]:=by rw [List.map_cons,zfY];rfl
theorem zBg (a b:zi):[a,b].map xy=[qn a,qn b]:=by rw [List.map_cons,List.map_cons,zfY,zfY];rfl
theorem zhl (e:zi):0 < yM e:=by cases e;rw [yM];omega
theorem zkB:∀ {l:List zi} {x:zi},x∈l→yM x≤qg l
 | [],_,h=>by simp at h
 | e::es,x,h=>by
  rw [qg]
  rcases List.mem_cons.1 h with rfl | h
  ·omega
  ·have:=zkB h;omega
theorem zkC:∀ l:List zi,l.length≤qg l
 | []=>by rw [qg];simp
 | e::es=>by
  have:=zkC es
  have:=zhl e
  rw [qg,List.length_cons];omega
theorem zuU {e x:zi} (h:x∈e.kids):yM x < yM e:=by
 cases e with
 | mk k n s ks=>have:=zkB (show x∈ks from h);rw [yM];omega
theorem zwO (e:zi):e.kids.length < yM e:=by
 cases e with
 | mk k n s ks=>have:=zkC ks;rw [yM];show ks.length < _;omega
theorem zwP (e:zi):e.name.length < yM e:=by
 cases e with
 | mk k n s ks=>rw [yM];show s.length < _;omega
theorem zyN {l:List zi} {n:Int} {K:D→Prop} (x:zi) (h0:0≤n) (h:l[n.toNat]?=some x) (hK:K (qn x)):zY (l.map xy) n K:=by
 unfold zY
 exact ⟨h0,qn x,by rw [List.getElem?_map,h,← zfY];rfl,hK⟩
attribute [local irreducible] xy yM zi.kind zi.n zi.name zi.kids
end Go.Proofs.YtnkdeacghopkiaaGreatDoor
namespace Go.Proofs.YtnkdeacghopkiaaGreatDoor
open Go Go.Plat
set_option linter.unusedVariables false
set_option linter.unusedSimpArgs false
set_option maxRecDepth 100000
set_option maxHeartbeats 2000000
attribute [local irreducible] AWP zG yn zK zn yA z8 zI zY z6 zw za zN yB zt z7 yx yy yq yt zx zz zD
def zg (n:Int) (k:Nat):Int:=if n % (2:Int) ^ k / 2 ^ (k - 1)=1 then n % (2:Int) ^ k - 2 ^ k else n % (2:Int) ^ k
theorem zdJ:za Tryz.prog zoP (zy (fun ((n,k):Int×Nat)=>(k=8∨k=12∨k=32)) (fun (n,k)=>[.int .i64 n,.int .i64 k]) fun (n,k)=>.int .i64 (zg n k)):=by
 refine zf zh Tryz.func69 rfl (by decide) ?_
 rintro ⟨n,k⟩ hk
 refine ⟨Nat.le_refl _,by simp [Tryz.f69],fun E hE=>?_⟩
 rcases hk with hk | hk | hk<;>(have hk:k=_:=hk;subst hk;refine ze _ ?_)
 ·have h0:=Int.emod_nonneg n (show (256:Int)≠0 by decide)
  have h1:=Int.emod_lt_of_pos n (show (0:Int) < 256 by decide)
  have hd:zg n 8=if n % 256 / 128=1 then n % 256 - 256 else n % 256:=rfl
  (all_goals refine qgo (Lf.mk ?_))
  refine zaG (s:=7) (m:=128) rfl (by decide) (by decide) ?_
  (all_goals refine qgo ?_<;>(repeat' first | exact trivial | intro hc | refine And.intro ?_ ?_)<;>refine Lf.mk ?_)
  ·skip
   refine zd (VS.mk (LeD.of_eq (congrArg (D.int .i64) ?_)))
   rw [hd,if_pos hc]
   omega
  ·refine zd (VS.mk (LeD.of_eq (congrArg (D.int .i64) ?_)))
   rw [hd,if_neg hc]
 ·have h0:=Int.emod_nonneg n (show (4096:Int)≠0 by decide)
  have h1:=Int.emod_lt_of_pos n (show (0:Int) < 4096 by decide)
  have hd:zg n 12=if n % 4096 / 2048=1 then n % 4096 - 4096 else n % 4096:=rfl
  (all_goals refine qgo (Lf.mk ?_))
  refine ki (s:=12) (m:=4096) rfl (by decide) (by decide) (by decide) (by decide) ?_
  (all_goals refine qgo (Lf.mk ?_))
  refine zaG (s:=11) (m:=2048) rfl (by decide) (by decide) ?_
  (all_goals refine qgo ?_<;>(repeat' first | exact trivial | intro hc | refine And.intro ?_ ?_)<;>refine Lf.mk ?_)
  ·refine ki (s:=12) (m:=4096) rfl (by decide) (by decide) (by decide) (by decide) ?_
   (all_goals refine qgo (Lf.mk ?_))
   refine zd (VS.mk (LeD.of_eq (congrArg (D.int .i64) ?_)))
   rw [hd,if_pos hc]
   omega
  ·refine zd (VS.mk (LeD.of_eq (congrArg (D.int .i64) ?_)))
   rw [hd,if_neg hc]
 ·have h0:=Int.emod_nonneg n (show (4294967296:Int)≠0 by decide)
  have h1:=Int.emod_lt_of_pos n (show (0:Int) < 4294967296 by decide)
  have hd:zg n 32=if n % 4294967296 / 2147483648=1 then n % 4294967296 - 4294967296 else n % 4294967296:=rfl
  (all_goals refine qgo (Lf.mk ?_))
  refine ki (s:=32) (m:=4294967296) rfl (by decide) (by decide) (by decide) (by decide) ?_
  (all_goals refine qgo (Lf.mk ?_))
  refine wG (kL (k:=32) (by decide) (by decide)) ?_
  rw [show (2:Int) ^ 32=4294967296 from rfl]
  (all_goals refine qgo (Lf.mk ?_))
  refine zaG (s:=31) (m:=2147483648) rfl (by decide) (by decide) ?_
  (all_goals refine qgo ?_<;>(repeat' first | exact trivial | intro hc | refine And.intro ?_ ?_)<;>refine Lf.mk ?_)
  ·refine ki (s:=32) (m:=4294967296) rfl (by decide) (by decide) (by decide) (by decide) ?_
   (all_goals refine qgo (Lf.mk ?_))
   refine zd (VS.mk (LeD.of_eq (congrArg (D.int .i64) ?_)))
   rw [hd,if_pos hc]
   omega
  ·refine zd (VS.mk (LeD.of_eq (congrArg (D.int .i64) ?_)))
   rw [hd,if_neg hc]
theorem yC:za Tryz.prog zoK (zy (fun _:Int=>True) (fun n=>[.int .i64 n]) fun n=>.int .i64 (zg n 32)):=by
 refine zf zh Tryz.func45 rfl (by decide) fun n _=>?_
 refine ⟨Nat.le_refl _,by simp [Tryz.f45],fun E hE=>?_⟩
 refine ze _ ?_
 (all_goals refine qgo (Lf.mk ?_))
 refine zb zdJ (n,32) (.inr (.inr rfl)) (VS.mk (by (first | exact LeL.refl _ | (repeat' (first | exact LeL.nil | exact LeD.refl _ | exact LeD.nil _ | exact LeD.strip _ _ _ | refine LeL.cons ?_ ?_ | refine LeD.tup ?_ | refine LeD.agg ?_))))) ?_
 (all_goals refine qgo (Lf.mk ?_))
 exact zd (VS.mk (LeD.refl _))
attribute [local irreducible] zi.kids zi.kind zi.n zi.name yw xy yI zL yO yM zg
structure zcS where
 kind:Int
 n:Int
 text:List UInt8
def zwQ (t:zcS):D:=.agg [.int .i64 t.kind,.int .i64 t.n,.str t.text]
structure St where
 rest:List zcS
 err:Int
def noE:zi:=.mk 0 0 [] []
def vU (x:List UInt8):List (List UInt8)→Nat→Int
 | [],_=>-1
 | s::l,k=>if x=s then k else vU x l (k+1)
def yZ (k:Nat):List (List UInt8):=match k with | 0=>[[124]] | 1=>[[38]] | 2=>[[60,60],[62,62]] | 3=>[[43],[45]] | _=>[[42]]
def zh6 (k:Nat):List Int:=match k with | 0=>[11] | 1=>[10] | 2=>[8,9] | 3=>[6,7] | _=>[5]
def zcT (k:Nat):D:=.agg [.sl 1 ((yZ k).map .str) none,.sl 1 ((zh6 k).map (.int .i64)) none]
def zx8:D:=.sl 2 [zcT 0,zcT 1,zcT 2,zcT 3,zcT 4] none
theorem zhm:za Tryz.prog znp (zy (fun _:Unit=>True) (fun _=>[]) fun _=>zx8):=by
 refine zf zh Tryz.func196 rfl (by decide) fun _ _=>?_
 refine ⟨Nat.le_refl _,by simp [Tryz.f196],fun E hE=>?_⟩
 refine ze _ ?_
 (all_goals refine qgo (Lf.mk ?_))
 exact zd (VS.mk (LeD.of_eq rfl))
theorem zrc:za Tryz.prog zbB (zy (fun ((l,x):List (List UInt8)×List UInt8)=>l.length≤1000000000) (fun (l,x)=>[.sl 1 (l.map .str) none,.str x]) fun (l,x)=>.int .i64 (vU x l 0)):=by
 refine zf zh Tryz.func148 rfl (by decide) ?_
 rintro ⟨l,x⟩ hl
 have hl:l.length≤1000000000:=hl
 refine ⟨Nat.le_refl _,by simp [Tryz.f148],fun E hE=>?_⟩
 refine ze _ ?_
 (all_goals refine qgo (Lf.mk ?_))
 refine yc (α:=Nat) (fun k=>k≤l.length∧vU x l 0=vU x (l.drop k) k)
  (fun k=>[(7,.int .i64 l.length),(8,.int .i64 k),(0,.sl 1 (l.map .str) none),(1,.str x)])
  (fun _=>[]) (fun k=>l.length - k) (fun _=>by simp [hE]) 0 ⟨Nat.zero_le _,by simp⟩ ?_ ?_
 ·(repeat' (first | (refine VS.mk ?_) | exact trivial | exact rfl | refine And.intro ?_ ?_))
 rintro k ⟨hk,hf⟩
 refine ze _ ?_
 (all_goals refine qgo ?_<;>(repeat' first | exact trivial | intro hc | refine And.intro ?_ ?_)<;>refine Lf.mk ?_)
 ·obtain ⟨s,hsk⟩:=zP (l:=l) (k:=k) (by omega)
  have hkl:k < l.length:=by omega
  have hget:l[k]=s:=by rw [List.getElem?_eq_getElem hkl] at hsk;exact Option.some.inj hsk
  rw [List.drop_eq_getElem_cons hkl,hget,vU] at hf
  refine zl s (by omega) (by simpa using hsk) ?_
  (all_goals refine qgo ?_<;>(repeat' first | exact trivial | intro hc | refine And.intro ?_ ?_)<;>refine Lf.mk ?_)
  ·rw [if_pos hc] at hf
   exact zd (VS.mk (LeD.of_eq (congrArg (D.int .i64) hf.symm)))
  ·rw [if_neg hc] at hf
   refine zF (k+1) ⟨by omega,hf⟩ (by omega) ?_
   (repeat' (first | (refine VS.mk ?_) | exact trivial | exact rfl | refine And.intro ?_ ?_))
 ·rw [List.drop_of_length_le (by omega),vU] at hf
  exact zd (VS.mk (LeD.of_eq (congrArg (D.int .i64) hf.symm)))
def stO (s:St):List Ob:=[.cells [.sl 3 (s.rest.map zwQ) none,.int .i64 s.err]]
def zA (l:List (List UInt8)) (s:St):Int×St:=match s.rest with
 | []=>(-1,s)
 | t::r=>if t.kind=3 then (if 0≤vU t.text l 0 then (vU t.text l 0,⟨r,s.err⟩) else (-1,s)) else (-1,s)
def qo (s:St) (e:Int):St:=if s.err=0 then ⟨s.rest,e⟩ else s
theorem zr1 (x:List UInt8):∀ (l:List (List UInt8)) (k:Nat),vU x l k < 0→vU x l k= -1
 | [],k,_=>rfl
 | s::l,k,h=>by
  rw [vU] at h ⊢
  split at h
  ·omega
  ·rename_i hn;rw [if_neg hn];exact zr1 x l (k+1) h
theorem zpd:LeD (.agg [.int .i64 0,.int .i64 0,.str [],.nilsl]) (qn noE):=by
 unfold noE
 rw [zbE]
 exact .agg (.cons (.refl _) (.cons (.refl _) (.cons (.refl _) (.cons (.nil 4) .nil))))
theorem zbb:za Tryz.prog zhe (zQ (fun ((s,e):St×Int)=>True) (fun (s,e)=>[.loc 0 0,.int .i64 e]) (fun (s,_)=>stO s) (fun _=>qn noE) fun (s,e)=>stO (qo s e)):=by
 refine zf zh Tryz.func201 rfl (by decide) ?_
 rintro ⟨s,e⟩ -
 refine ⟨Nat.le_refl _,by simp [Tryz.f201],fun E hE=>?_⟩
 refine ze _ ?_
 (all_goals refine qgo ?_<;>(repeat' first | exact trivial | intro hc | refine And.intro ?_ ?_)<;>refine Lf.mk ?_)
 ·refine vH (r1:=qn noE) zpd ?_ (Nat.le_refl _)
  refine ya ?_
  (repeat' (first | (refine VS.mk ?_) | exact trivial | exact rfl | refine And.intro ?_ ?_))
  ·dsimp only;unfold qo stO;rw [if_pos hc]
 ·refine vH (r1:=qn noE) zpd ?_ (Nat.le_refl _)
  refine ya ?_
  (repeat' (first | (refine VS.mk ?_) | exact trivial | exact rfl | refine And.intro ?_ ?_))
  ·dsimp only;unfold qo;rw [if_neg hc];rfl
theorem zfZ:za Tryz.prog zhd (zQ (fun ((s,l):St×List (List UInt8))=>l.length≤1000000000∧s.rest.length≤1000000000) (fun (s,l)=>[.loc 0 0,.sl 1 (l.map .str) none]) (fun (s,_)=>stO s) (fun (s,l)=>.int .i64 (zA l s).1)
  fun (s,l)=>stO (zA l s).2):=by
 refine zf zh Tryz.func198 rfl (by decide) ?_
 rintro ⟨⟨r,e⟩,l⟩ ⟨hl,hr⟩
 have hr:r.length≤1000000000:=hr
 refine ⟨Nat.le_refl _,by simp [Tryz.f198],fun E hE=>?_⟩
 cases r with
 | nil=>
  refine ze _ ?_
  (all_goals refine qgp ?_<;>(repeat' first | exact trivial | intro hc | refine And.intro ?_ ?_)<;>refine Lf.mk ?_)
  refine ya ?_
  (repeat' (first | (refine VS.mk ?_) | exact trivial | exact rfl | refine And.intro ?_ ?_))
 | cons t r=>
  have hr2:r.length+1≤1000000000:=hr
  refine ze _ ?_
  (all_goals refine qgp ?_<;>(repeat' first | exact trivial | intro hc | refine And.intro ?_ ?_)<;>refine Lf.mk ?_)
  ·refine ya ?_
   (repeat' (first | (refine VS.mk ?_) | exact trivial | exact rfl | refine And.intro ?_ ?_))
   all_goals (dsimp only [zA];rw [if_neg hc];try rfl)
  ·refine zb zrc (l,t.text) hl (VS.mk (LeL.of_eq rfl)) ?_
   (all_goals refine qgp ?_<;>(repeat' first | exact trivial | intro hc | refine And.intro ?_ ?_)<;>refine Lf.mk ?_)
   ·refine ya ?_
    (repeat' (first | (refine VS.mk ?_) | exact trivial | exact rfl | refine And.intro ?_ ?_))
    all_goals (dsimp only [zA];rw [if_pos (by assumption),if_pos hc];try rfl)
   ·refine ya ?_
    (repeat' (first | (refine VS.mk ?_) | exact trivial | exact rfl | refine And.intro ?_ ?_))
    all_goals (dsimp only [zA];rw [if_pos (by assumption),if_neg hc])
    ·exact congrArg (D.int .i64) (zr1 _ _ _ (by omega))
    ·rfl
def zcu (k:Nat) (i:Int):Int:=(zh6 k).getD i.toNat 0
def qp (k:Nat) (sub:St→zi×St):Nat→zi→St→zi×St
 | 0,e,s=>(e,s)
 | g+1,e,s=>if s.err=0 then (if (zA (yZ k) s).1 < 0 then (e,(zA (yZ k) s).2)
   else qp k sub g (.mk (zcu k (zA (yZ k) s).1) 0 [] [e,(sub (zA (yZ k) s).2).1]) (sub (zA (yZ k) s).2).2)
  else (e,s)
def zdK (k:Nat) (sub:St→zi×St) (s:St):zi×St:=qp k sub ((sub s).2.rest.length+1) (sub s).1 (sub s).2
def atF (one:St→zi×St):Nat→St→zi×St
 | 0=>one
 | j+1=>zdK (4 - j) (atF one j)
def zeG (s:St):zi×St:=match s.rest with
 | []=>(noE,qo s 9)
 | t::r=>if t.kind=2 then (.mk 1 (zg t.n 32) [] [],⟨r,s.err⟩)
  else if t.kind=1 then (if yO t.text=true then (.mk 2 0 t.text [],⟨r,s.err⟩) else (noE,qo ⟨r,s.err⟩ 7))
  else (noE,qo ⟨r,s.err⟩ 2)
def xa:List (List UInt8):=[[45],[126],[40]]
def kT:List (List UInt8):=[[41]]
def va (one:St→zi×St) (s:St):zi×St:=
 if (zA xa s).1=0 then (.mk 3 0 [] [(one (zA xa s).2).1],(one (zA xa s).2).2)
 else if (zA xa s).1=1 then (.mk 4 0 [] [(one (zA xa s).2).1],(one (zA xa s).2).2)
 else if (zA xa s).1=2 then
  (if (zA kT (atF one 5 (zA xa s).2).2).1 < 0 then (noE,qo (zA kT (atF one 5 (zA xa s).2).2).2 2)
   else ((atF one 5 (zA xa s).2).1,(zA kT (atF one 5 (zA xa s).2).2).2))
 else zeG (zA xa s).2
def kN:Nat→St→zi×St
 | 0,s=>(noE,qo s 10)
 | f+1,s=>va (kN f) s
def qx (p:St→zi×St):Prop:=∀ s,(p s).2.rest.length≤s.rest.length
theorem zbc (l:List (List UInt8)) (s:St):(zA l s).2.rest.length≤s.rest.length∧(0≤(zA l s).1→(zA l s).2.rest.length+1=s.rest.length):=by
 obtain ⟨r,e⟩:=s
 cases r with
 | nil=>exact ⟨Nat.le_refl _,fun h=>by simp [zA] at h⟩
 | cons t r=>
  simp only [zA]
  split
  ·split
   ·exact ⟨by simp,fun _=>by simp⟩
   ·exact ⟨Nat.le_refl _,fun h=>by simp at h⟩
  ·exact ⟨Nat.le_refl _,fun h=>by simp at h⟩
theorem zkD {k:Nat} {sub:St→zi×St} (hs:qx sub):∀ (g:Nat) (e:zi) (s:St),(qp k sub g e s).2.rest.length≤s.rest.length
 | 0,e,s=>Nat.le_refl _
 | g+1,e,s=>by
  rw [qp]
  have h1:=(zbc (yZ k) s).1
  split
  ·split
   ·exact h1
   ·have:=zkD (k:=k) hs g (.mk (zcu k (zA (yZ k) s).1) 0 [] [e,(sub (zA (yZ k) s).2).1]) (sub (zA (yZ k) s).2).2
    have h2:=hs (zA (yZ k) s).2
    omega
  ·exact Nat.le_refl _
theorem zrd {k:Nat} {sub:St→zi×St} (hs:qx sub):qx (zdK k sub):=fun s=>by
 have h1:=hs s
 have h2:=zkD (k:=k) hs ((sub s).2.rest.length+1) (sub s).1 (sub s).2
 unfold zdK;omega
theorem kO {one:St→zi×St} (hs:qx one):∀ j,qx (atF one j)
 | 0=>hs
 | j+1=>zrd (kO hs j)
theorem kA (s:St) (e:Int):(qo s e).rest=s.rest:=by unfold qo;split<;>rfl
theorem zuV:qx zeG:=fun s=>by
 obtain ⟨r,e⟩:=s
 cases r with
 | nil=>simp [zeG,kA]
 | cons t r=>
  simp only [zeG]
  repeat' split
  all_goals (try rw [kA]);simp
theorem ztn {one:St→zi×St} (hs:qx one):qx (va one):=fun s=>by
 have h1:=(zbc xa s).1
 have h2:=hs (zA xa s).2
 have h3:=kO hs 5 (zA xa s).2
 have h4:=(zbc kT (atF one 5 (zA xa s).2).2).1
 have h5:=zuV (zA xa s).2
 unfold va
 repeat' split
 all_goals (try dsimp only);(try rw [kA]);omega
theorem zei:∀ f,qx (kN f)
 | 0=>fun s=>by rw [kN,kA];exact Nat.le_refl _
 | f+1=>fun s=>by rw [kN];exact ztn (zei f) s
theorem zuW {k g:Nat} {sub:St→zi×St} {e:zi} {s:St} (h:¬ s.err=0):qp k sub g e s=(e,s):=by
 cases g with
 | zero=>rfl
 | succ g=>rw [qp,if_neg h]
theorem zto {k g:Nat} {sub:St→zi×St} {e:zi} {s:St} (h:s.err=0) (h2:(zA (yZ k) s).1 < 0):qp k sub (g+1) e s=(e,(zA (yZ k) s).2):=by rw [qp,if_pos h,if_pos h2]
theorem zyO {k g:Nat} {sub:St→zi×St} {e:zi} {s:St} (h:s.err=0) (h2:¬ (zA (yZ k) s).1 < 0):qp k sub (g+1) e s =
  qp k sub g (.mk (zcu k (zA (yZ k) s).1) 0 [] [e,(sub (zA (yZ k) s).2).1]) (sub (zA (yZ k) s).2).2:=by rw [qp,if_pos h,if_neg h2]
theorem zuX {k:Nat} {K:D→Prop} (hk:k < 5) (h:K (zcT k)):zY [zcT 0,zcT 1,zcT 2,zcT 3,zcT 4] (k:Int) K:=by
 unfold zY
 refine ⟨by omega,zcT k,?_,h⟩
 rw [Int.toNat_natCast]
 match k,hk with
 | 0,_=>rfl
 | 1,_=>rfl
 | 2,_=>rfl
 | 3,_=>rfl
 | 4,_=>rfl
theorem zr2 (x:List UInt8):∀ (l:List (List UInt8)) (k:Nat),vU x l k < ((k+l.length:Nat):Int)
 | [],k=>by rw [vU];omega
 | s::l,k=>by
  rw [vU]
  split
  ·simp only [List.length_cons];omega
  ·have:=zr2 x l (k+1)
   simp only [List.length_cons];omega
theorem zyP (l:List (List UInt8)) (s:St):(zA l s).1 < (l.length:Int)∨l.length=0:=by
 obtain ⟨r,e⟩:=s
 cases r with
 | nil=>simp only [zA];omega
 | cons t r=>
  have:=zr2 t.text l 0
  simp only [zA]
  split
  ·split
   ·dsimp only;omega
   ·dsimp only;omega
  ·dsimp only;omega
theorem zmw (k:Nat):(yZ k).length=(zh6 k).length∧0 < (yZ k).length∧(yZ k).length≤2:=by
 unfold yZ zh6
 split<;>exact ⟨rfl,by decide,by decide⟩
theorem zwR {k:Nat} {s:St} (h:¬ (zA (yZ k) s).1 < 0):(zh6 k)[(zA (yZ k) s).1.toNat]?=some (zcu k (zA (yZ k) s).1):=by
 have h1:=zyP (yZ k) s
 obtain ⟨h2,h3,_⟩:=zmw k
 have hlt:(zA (yZ k) s).1.toNat < (zh6 k).length:=by omega
 unfold zcu
 rw [List.getD_eq_getElem?_getD,List.getElem?_eq_getElem hlt]
 rfl
attribute [local irreducible] qo qp kN va zA zeG
def zeH (k:Int) (d:Int) (f:St→zi×St):Prop:=
 za Tryz.prog zjh (zQ (fun s:St=>s.rest.length≤1000000000) (fun _=>[.loc 0 0,.int .i64 k,.int .i64 d]) stO (fun s=>qn (f s).1) fun s=>stO (f s).2)
def zh7 (d:Int) (f:St→zi×St):Prop:=
 za Tryz.prog ziq (zQ (fun s:St=>s.rest.length≤1000000000) (fun _=>[.loc 0 0,.int .i64 d]) stO (fun s=>qn (f s).1) fun s=>stO (f s).2)
theorem zzX {d:Int} {one:St→zi×St} (h:zh7 d one):zeH 5 d (atF one 0):=by
 refine zf zh Tryz.func188 rfl (by decide) ?_
 intro s hs
 refine ⟨Nat.le_refl _,by simp [Tryz.f188],fun E hE=>?_⟩
 refine ze _ ?_
 (all_goals refine qgp (Lf.mk ?_))
 refine zb zhm () trivial (VS.mk (LeL.of_eq rfl)) ?_
 (all_goals refine qgp ?_<;>(repeat' first | exact trivial | intro hc | refine And.intro ?_ ?_)<;>refine Lf.mk ?_)
 refine zu h [0] [0] s hs rfl rfl ?_
 refine And.intro (VS.mk (LeL.of_eq rfl)) (And.intro (VS.mk rfl) ?_)
 (all_goals refine qgp (Lf.mk ?_))
 refine ya ?_
 (repeat' (first | (refine VS.mk ?_) | exact trivial | exact rfl | refine And.intro ?_ ?_))
theorem zdL {d:Int} {k:Nat} {sub:St→zi×St} (hk:k < 5) (hsub:qx sub) (h:zeH ((k:Int)+1) d sub):zeH k d (zdK k sub):=by
 refine zf zh Tryz.func188 rfl (by decide) ?_
 intro s hs
 refine ⟨Nat.le_refl _,by simp [Tryz.f188],fun E hE=>?_⟩
 refine ze _ ?_
 (all_goals refine qgp (Lf.mk ?_))
 refine zb zhm () trivial (VS.mk (LeL.of_eq rfl)) ?_
 (all_goals refine qgp ?_<;>(repeat' first | exact trivial | intro hc | refine And.intro ?_ ?_)<;>refine Lf.mk ?_)
 refine zu h [0] [0] s hs rfl rfl ?_
 refine And.intro (VS.mk (LeL.of_eq rfl)) (And.intro (VS.mk rfl) ?_)
 (all_goals refine qgp (Lf.mk ?_))
 have hs1:=hsub s
 obtain ⟨hsl1,hsl2,hsl3⟩:=zmw k
 generalize hT:zdK k sub s=T at *
 have hT0:qp k sub ((sub s).2.rest.length+1) (sub s).1 (sub s).2=T:=hT
 refine yc (α:=Nat×zi×St) (fun p=>p.2.2.rest.length < p.1∧p.2.2.rest.length≤1000000000∧qp k sub p.1 p.2.1 p.2.2=T)
  (fun p=>[(0,.loc 0 0),(1,.int .i64 k),(2,.int .i64 d),(6,.loc 1 0),(7,zx8),(8,.loc 2 0)])
  (fun p=>stO p.2.2++[.cells [.int .i64 0,.int .i64 0,.str [],.nilsl],.cells [.int .i64 p.2.1.kind,.int .i64 p.2.1.n,.str p.2.1.name,.sl 4 (p.2.1.kids.map xy) none]]) (fun p=>p.1) (fun _=>by simp [hE,stO])
  ((sub s).2.rest.length+1,(sub s).1,(sub s).2) ⟨Nat.lt_succ_self _,Nat.le_trans hs1 hs,hT0⟩ ?_ ?_
 ·(repeat' (first | (refine VS.mk ?_) | exact trivial | exact rfl | refine And.intro ?_ ?_))
 rintro ⟨g,e,s2⟩ ⟨hg,hs2,hl⟩
 dsimp only at hg hs2 hl ⊢
 obtain ⟨g,rfl⟩:∃ g',g=g'+1:=⟨g - 1,by omega⟩
 refine ze _ ?_
 (all_goals refine qgp ?_<;>(repeat' first | exact trivial | intro hc | refine And.intro ?_ ?_)<;>refine Lf.mk ?_)
 ·refine zuX hk ?_
  (all_goals refine qgp (Lf.mk ?_))
  refine zu zfZ [0] [0] (s2,yZ k) ⟨by omega,hs2⟩ rfl rfl ?_
  refine And.intro (VS.mk (LeL.of_eq rfl)) (And.intro (VS.mk rfl) ?_)
  obtain ⟨q1,q2⟩:=zbc (yZ k) s2
  (all_goals refine qgp ?_<;>(repeat' first | exact trivial | intro hc | refine And.intro ?_ ?_)<;>refine Lf.mk ?_)
  ·rw [zto (by assumption) hc] at hl
   subst hl
   refine ya ?_
   (repeat' (first | (refine VS.mk ?_) | exact trivial | exact rfl | refine And.intro ?_ ?_))
  ·rw [zyO (by assumption) hc] at hl
   have hka:=zwR (k:=k) (s:=s2) hc
   refine zuX hk ?_
   (all_goals refine qgp (Lf.mk ?_))
   refine zl (zcu k (zA (yZ k) s2).1) (by omega) (by simpa using hka) ?_
   (all_goals refine qgp (Lf.mk ?_))
   have q3:=hsub (zA (yZ k) s2).2
   refine zu h [0] [0] (zA (yZ k) s2).2 (by omega) rfl rfl ?_
   refine And.intro (VS.mk (LeL.of_eq rfl)) (And.intro (VS.mk rfl) ?_)
   (all_goals refine qgp (Lf.mk ?_))
   refine zF (g,.mk (zcu k (zA (yZ k) s2).1) 0 [] [e,(sub (zA (yZ k) s2).2).1],(sub (zA (yZ k) s2).2).2) ⟨by (dsimp only;omega),by (dsimp only;omega),hl⟩ (by dsimp only;omega) ?_
   dsimp only
   rw [zrY,zzV,zrZ,zr0,zBg]
   (repeat' (first | (refine VS.mk ?_) | exact trivial | exact rfl | refine And.intro ?_ ?_))
 ·rw [zuW hc] at hl
  subst hl
  refine ya ?_
  (repeat' (first | (refine VS.mk ?_) | exact trivial | exact rfl | refine And.intro ?_ ?_))
end Go.Proofs.YtnkdeacghopkiaaGreatDoor
namespace Go.Proofs.YtnkdeacghopkiaaGreatDoor
open Go Go.Plat
set_option linter.unusedVariables false
set_option linter.unusedSimpArgs false
set_option maxRecDepth 100000
set_option maxHeartbeats 2000000
attribute [local irreducible] AWP zG yn zK zn yA z8 zI zY z6 zw za zN yB zt z7 zi.kids zi.kind zi.n zi.name yx yy yq yt zx zz zD yw xy qo yI zL qp yO yM kN zA zg
theorem zuY {d:Int} {one:St→zi×St} (hs:qx one) (h:zh7 d one):zeH 0 d (atF one 5):=by
 have h5:zeH (((4:Nat):Int)+1) d (atF one 0):=zzX h
 have h4:zeH (((3:Nat):Int)+1) d (atF one 1):=zdL (k:=4) (by decide) (kO hs 0) h5
 have h3:zeH (((2:Nat):Int)+1) d (atF one 2):=zdL (k:=3) (by decide) (kO hs 1) h4
 have h2:zeH (((1:Nat):Int)+1) d (atF one 3):=zdL (k:=2) (by decide) (kO hs 2) h3
 have h1:zeH (((0:Nat):Int)+1) d (atF one 4):=zdL (k:=1) (by decide) (kO hs 3) h2
 exact zdL (k:=0) (by decide) (kO hs 4) h1
theorem zwS {d:Int} (h:6 < d):zh7 d (kN 0):=by
 refine zf zh Tryz.func197 rfl (by decide) ?_
 intro s hs
 refine ⟨Nat.le_refl _,by simp [Tryz.f197],fun E hE=>?_⟩
 refine ze _ ?_
 (all_goals refine qgp ?_<;>(repeat' first | exact trivial | intro hc | refine And.intro ?_ ?_)<;>refine Lf.mk ?_)
 refine zu zbb [0] [0] (s,10) trivial rfl rfl ?_
 refine And.intro (VS.mk (LeL.of_eq rfl)) (And.intro (VS.mk rfl) ?_)
 have ho:kN 0 s=(noE,qo s 10):=by rw [kN]
 (all_goals refine qgp (Lf.mk ?_))
 refine ya ?_
 (repeat' (first | (refine VS.mk ?_) | exact trivial | exact rfl | refine And.intro ?_ ?_))
 all_goals (rw [ho];rfl)
theorem zwT {d:Int} {one:St→zi×St} (hd:d≤6) (hd0:0≤d) (hsub:qx one) (h:zh7 (d+1) one):zh7 d (va one):=by
 have hat:=zuY hsub h
 refine zf zh Tryz.func197 rfl (by decide) ?_
 intro s hs
 have q1:=(zbc xa s).1
 refine ⟨Nat.le_refl _,by simp [Tryz.f197],fun E hE=>?_⟩
 refine ze _ ?_
 (all_goals refine qgp ?_<;>(repeat' first | exact trivial | intro hc | refine And.intro ?_ ?_)<;>refine Lf.mk ?_)
 refine zu zfZ [0] [0] (s,xa) ⟨by decide,hs⟩ rfl rfl ?_
 refine And.intro (VS.mk (LeL.of_eq rfl)) (And.intro (VS.mk rfl) ?_)
 dsimp only
 have hstep:va one s=if (zA xa s).1=0 then (.mk 3 0 [] [(one (zA xa s).2).1],(one (zA xa s).2).2)
  else if (zA xa s).1=1 then (.mk 4 0 [] [(one (zA xa s).2).1],(one (zA xa s).2).2)
  else if (zA xa s).1=2 then
   (if (zA kT (atF one 5 (zA xa s).2).2).1 < 0 then (noE,qo (zA kT (atF one 5 (zA xa s).2).2).2 2)
    else ((atF one 5 (zA xa s).2).1,(zA kT (atF one 5 (zA xa s).2).2).2))
  else zeG (zA xa s).2:=rfl
 generalize hS:zA xa s=S at *
 obtain ⟨i,s1⟩:=S
 have q1:s1.rest.length≤s.rest.length:=q1
 (all_goals refine qgp ?_<;>(repeat' first | exact trivial | intro hc | refine And.intro ?_ ?_)<;>refine Lf.mk ?_)
 ·refine zu h [0] [0] s1 (by omega) rfl rfl ?_
  refine And.intro (VS.mk (LeL.of_eq rfl)) (And.intro (VS.mk rfl) ?_)
  (all_goals refine qgp (Lf.mk ?_))
  have ho:va one s=(.mk 3 0 [] [(one s1).1],(one s1).2):=by rw [hstep,if_pos hc]
  refine ya ?_
  (repeat' (first | (refine VS.mk ?_) | exact trivial | exact rfl | refine And.intro ?_ ?_))
  all_goals (rw [ho])
  ·dsimp only;rw [zbE,zzW];rfl
  ·rfl
 ·refine zu h [0] [0] s1 (by omega) rfl rfl ?_
  refine And.intro (VS.mk (LeL.of_eq rfl)) (And.intro (VS.mk rfl) ?_)
  (all_goals refine qgp (Lf.mk ?_))
  have ho:va one s=(.mk 4 0 [] [(one s1).1],(one s1).2):=by rw [hstep,if_neg (by assumption),if_pos hc]
  refine ya ?_
  (repeat' (first | (refine VS.mk ?_) | exact trivial | exact rfl | refine And.intro ?_ ?_))
  all_goals (rw [ho])
  ·dsimp only;rw [zbE,zzW];rfl
  ·rfl
 ·have q2:=kO hsub 5 s1
  refine zu hat [0] [0] s1 (by omega) rfl rfl ?_
  refine And.intro (VS.mk (LeL.of_eq rfl)) (And.intro (VS.mk rfl) ?_)
  (all_goals refine qgp (Lf.mk ?_))
  refine zu zfZ [0] [0] ((atF one 5 s1).2,kT) ⟨by decide,by omega⟩ rfl rfl ?_
  refine And.intro (VS.mk (LeL.of_eq rfl)) (And.intro (VS.mk rfl) ?_)
  (all_goals refine qgp ?_<;>(repeat' first | exact trivial | intro hc | refine And.intro ?_ ?_)<;>refine Lf.mk ?_)
  ·refine zu zbb [0] [0] ((zA kT (atF one 5 s1).2).2,2) trivial rfl rfl ?_
   refine And.intro (VS.mk (LeL.of_eq rfl)) (And.intro (VS.mk rfl) ?_)
   (all_goals refine qgp (Lf.mk ?_))
   have ho:va one s=(noE,qo (zA kT (atF one 5 s1).2).2 2):=by rw [hstep,if_neg (by assumption),if_neg (by assumption),if_pos (by assumption)];dsimp only;rw [if_pos hc]
   refine ya ?_
   (repeat' (first | (refine VS.mk ?_) | exact trivial | exact rfl | refine And.intro ?_ ?_))
   all_goals (rw [ho];rfl)
  ·have ho:va one s=((atF one 5 s1).1,(zA kT (atF one 5 s1).2).2):=by rw [hstep,if_neg (by assumption),if_neg (by assumption),if_pos (by assumption)];dsimp only;rw [if_neg hc]
   refine ya ?_
   (repeat' (first | (refine VS.mk ?_) | exact trivial | exact rfl | refine And.intro ?_ ?_))
   all_goals (rw [ho];rfl)
 ·have hr:s1.rest=[]:=List.eq_nil_of_length_eq_zero (by omega)
  refine zu zbb [0] [0] (s1,9) trivial rfl rfl ?_
  refine And.intro (VS.mk (LeL.of_eq rfl)) (And.intro (VS.mk rfl) ?_)
  (all_goals refine qgp (Lf.mk ?_))
  have ho:va one s=(noE,qo s1 9):=by rw [hstep,if_neg (by assumption),if_neg (by assumption),if_neg (by assumption)];dsimp only;unfold zeG;rw [hr]
  refine ya ?_
  (repeat' (first | (refine VS.mk ?_) | exact trivial | exact rfl | refine And.intro ?_ ?_))
  all_goals (rw [ho];rfl)
 ·obtain ⟨r1,e1⟩:=s1
  cases r1 with
  | nil=>exfalso;exact hc rfl
  | cons t r=>
   have ho:va one s=if t.kind=2 then (.mk 1 (zg t.n 32) [] [],⟨r,e1⟩)
     else if t.kind=1 then (if yO t.text=true then (.mk 2 0 t.text [],⟨r,e1⟩) else (noE,qo ⟨r,e1⟩ 7))
     else (noE,qo ⟨r,e1⟩ 2):=by rw [hstep,if_neg (by assumption),if_neg (by assumption),if_neg (by assumption)];rfl
   clear hstep hS
   (all_goals refine qgp ?_<;>(repeat' first | exact trivial | intro hc | refine And.intro ?_ ?_)<;>refine Lf.mk ?_)
   ·refine zb yC t.n trivial (VS.mk (LeL.of_eq rfl)) ?_
    (all_goals refine qgp (Lf.mk ?_))
    rw [if_pos hc] at ho
    refine vH (r1:=qn (.mk 1 (zg t.n 32) [] [])) (by rw [zbE];exact .agg (.cons (.refl _) (.cons (.refl _) (.cons (.refl _) (.cons (.nil 4) .nil))))) ?_ (Nat.le_refl _)
    refine ya ?_
    (repeat' (first | (refine VS.mk ?_) | exact trivial | exact rfl | refine And.intro ?_ ?_))
    all_goals (rw [ho];rfl)
   ·refine zb zo1 t.text trivial (VS.mk (LeL.of_eq rfl)) ?_
    (all_goals refine qgp ?_<;>(repeat' first | exact trivial | intro hc | refine And.intro ?_ ?_)<;>refine Lf.mk ?_)
    ·rw [if_neg (by assumption),if_pos (by assumption),if_pos hc] at ho
     refine vH (r1:=qn (.mk 2 0 t.text [])) (by rw [zbE];exact .agg (.cons (.refl _) (.cons (.refl _) (.cons (.refl _) (.cons (.nil 4) .nil))))) ?_ (Nat.le_refl _)
     refine ya ?_
     (repeat' (first | (refine VS.mk ?_) | exact trivial | exact rfl | refine And.intro ?_ ?_))
     all_goals (rw [ho];rfl)
    ·refine zu zbb [0] [0] (⟨r,e1⟩,7) trivial rfl rfl ?_
     refine And.intro (VS.mk (LeL.of_eq rfl)) (And.intro (VS.mk rfl) ?_)
     (all_goals refine qgp (Lf.mk ?_))
     rw [if_neg (by assumption),if_pos hc,if_neg (by rw [(by assumption:yO t.text=false)];decide)] at ho
     refine ya ?_
     (repeat' (first | (refine VS.mk ?_) | exact trivial | exact rfl | refine And.intro ?_ ?_))
     all_goals (rw [ho];rfl)
   ·refine zu zbb [0] [0] (⟨r,e1⟩,2) trivial rfl rfl ?_
    refine And.intro (VS.mk (LeL.of_eq rfl)) (And.intro (VS.mk rfl) ?_)
    (all_goals refine qgp (Lf.mk ?_))
    rw [if_neg (by assumption),if_neg (by assumption)] at ho
    refine ya ?_
    (repeat' (first | (refine VS.mk ?_) | exact trivial | exact rfl | refine And.intro ?_ ?_))
    all_goals (rw [ho];rfl)
theorem zwU (f:Nat):kN (f+1)=va (kN f):=by funext s;rw [kN]
theorem zzY:∀ f:Nat,f≤7→zh7 (7 - (f:Int)) (kN f)
 | 0,_=>zwS (by decide)
 | f+1,hf=>by
  have h:=zzY f (by omega)
  rw [zwU]
  have e:(7:Int) - ((f+1:Nat):Int)+1=7 - (f:Int):=by omega
  exact zwT (by omega) (by omega) (zei f) (by rw [e];exact h)
theorem zzZ:zeH 0 0 (atF (kN 7) 5):=zuY (zei 7) (zzY 7 (by decide))
def kn (l:List zcS):zi×St:=atF (kN 7) 5 ⟨l,0⟩
def wg (l:List zcS):zi×Int×Int:=if (kn l).2.err=0 then ((kn l).1,(l.length:Int) - (kn l).2.rest.length,0) else (noE,0,(kn l).2.err)
def zAV (p:zi×Int×Int):D:=.tup [qn p.1,.int .i64 p.2.1,.int .i64 p.2.2]
theorem ziE (l:List zcS):(kn l).2.rest.length≤l.length:=kO (zei 7) 5 ⟨l,0⟩
theorem zre:za Tryz.prog zoV (zy (fun l:List zcS=>l.length≤1000000000) (fun l=>[.sl 3 (l.map zwQ) none]) fun l=>zAV (wg l)):=by
 refine zf zh Tryz.func171 rfl (by decide) ?_
 intro l hl
 refine ⟨Nat.le_refl _,by simp [Tryz.f171],fun E hE=>?_⟩
 refine ze _ ?_
 (all_goals refine qgp (Lf.mk ?_))
 refine zu zzZ [1] [1] ⟨l,0⟩ hl rfl rfl ?_
 refine And.intro (VS.mk (LeL.of_eq rfl)) (And.intro (VS.mk rfl) ?_)
 have hq:=ziE l
 have hp:wg l=if (kn l).2.err=0 then ((kn l).1,(l.length:Int) - (kn l).2.rest.length,0) else (noE,0,(kn l).2.err):=rfl
 have hx:atF (kN 7) 5 ⟨l,0⟩=kn l:=rfl
 rw [hx]
 generalize kn l=T at *
 obtain ⟨e,r,er⟩:=T
 have hq:r.length≤l.length:=hq
 (all_goals refine qgp ?_<;>(repeat' first | exact trivial | intro hc | refine And.intro ?_ ?_)<;>refine Lf.mk ?_)
 ·rw [hp,if_neg hc]
  exact zd (VS.mk (.tup (.cons zpd (.cons (.refl _) (.cons (.refl _) .nil)))))
 ·rw [hp,if_pos hc]
  refine zd (VS.mk (LeD.of_eq ?_))
  show D.tup [.agg [.int .i64 e.kind,.int .i64 e.n,.str e.name,.sl 4 (e.kids.map xy) none],.int .i64 _,.int .i64 0]= .tup [qn e,_,_]
  cases e
  rw [zbE,zrY,zzV,zrZ,zr0]
end Go.Proofs.YtnkdeacghopkiaaGreatDoor
namespace Go.Proofs.YtnkdeacghopkiaaGreatDoor
open Go Go.Plat
set_option linter.unusedVariables false
set_option linter.unusedSimpArgs false
set_option maxRecDepth 100000
set_option maxHeartbeats 2000000
attribute [local irreducible] AWP zG yn zK zn yA z8 zI zY z6 zw za zN yB zt z7 yx yy yq yt zx zz zD
structure zB where
 name:List UInt8
 n:Int
 deriving DecidableEq
structure zo where
 name:List UInt8
 n:Int
def yP (v:zB):D:=.agg [.str v.name,.int .i64 v.n]
def wD (v:zo):D:=.agg [.str v.name,.int .i64 v.n]
def zeI (k a b:Int):Int:=
 if k=5 then zg (a * b) 32 else if k=6 then zg (a+b) 32 else if k=7 then zg (a - b) 32
 else if k=8 then zg (a * 2 ^ (b % 32).toNat) 32 else if k=9 then zg (a % 4294967296 / 2 ^ (b % 32).toNat) 32
 else if k=10 then zg (zD .and .i64 a b) 32 else if k=11 then zg (zD .or .i64 a b) 32 else zg a 32
def S32 (n:Int):Prop:=-2147483648≤n∧n≤2147483647
theorem zuZ (n:Int):zg n 32=if n % 4294967296 / 2147483648=1 then n % 4294967296 - 4294967296 else n % 4294967296:=rfl
theorem zbd (n:Int):S32 (zg n 32):=by
 rw [zuZ];unfold S32
 split<;>omega
theorem zf0 (k a b:Int):S32 (zeI k a b):=by
 unfold zeI
 repeat' split
 all_goals exact zbd _
theorem zu0 {n:Int}:zD .and .i64 n 31=n % 32:=kL (k:=5) (by decide) (by decide)
theorem zz0 {n:Int}:zD .and .i64 n 4294967295=n % 4294967296:=kL (k:=32) (by decide) (by decide)
theorem zyQ {n:Int} (h0: -9223372036854775808≤n) (h1:n≤9223372036854775807):zD .xor .i64 (if IntKind.i64.signed=true then -1 else IntKind.i64.max) n= -n - 1:=by
 unfold zD
 have e:(BitVec.ofInt IntKind.i64.bits (-1) ^^^ BitVec.ofInt IntKind.i64.bits n).toNat=18446744073709551615 - (BitVec.ofInt 64 n).toNat:=by
  show (BitVec.ofInt 64 (-1) ^^^ BitVec.ofInt 64 n).toNat=_
  have:BitVec.ofInt 64 (-1)=BitVec.allOnes 64:=by decide
  rw [this,BitVec.allOnes_xor,BitVec.toNat_not]
 show IntKind.i64.wrap (((BitVec.ofInt IntKind.i64.bits (-1) ^^^ BitVec.ofInt IntKind.i64.bits n).toNat:Nat):Int)=_
 rw [e]
 have h4:=toNat_ofInt n
 generalize (BitVec.ofInt 64 n).toNat=x at *
 have hx:x≤18446744073709551615:=by omega
 unfold IntKind.wrap
 simp [IntKind.bits,IntKind.signed]
 omega
theorem zwV {y:Nat} (h:y≤31):(1:Int)≤2 ^ y∧(2:Int) ^ y≤2147483648:=by
 have h1:(2:Nat) ^ y≤2 ^ 31:=Nat.pow_le_pow_right (by decide) h
 have h2:1≤(2:Nat) ^ y:=Nat.one_le_two_pow
 have e:((2:Int) ^ y)=((2 ^ y:Nat):Int):=by simp
 rw [e]
 exact ⟨by omega, by have : (2 : Nat) ^ 31 = 2147483648 := by decide
                     omega⟩
theorem zz1 {a:Int} {y:Nat} (ha:S32 a) (h:y≤31): -4611686018427387904≤a * 2 ^ y∧a * 2 ^ y≤4611686018427387904:=by
 obtain ⟨h1,h2⟩:=zwV h
 obtain ⟨h3,h4⟩:=ha
 generalize (2:Int) ^ y=p at *
 constructor
 ·have: -2147483648 * 2147483648≤a * p:=by
   rcases Int.le_total 0 a with h | h
   ·have:=Int.mul_nonneg h (by omega:0≤p);omega
   ·have h5: -2147483648 * p≤a * p:=Int.mul_le_mul_of_nonneg_right h3 (by omega)
    omega
  omega
 ·have:a * p≤2147483648 * 2147483648:=by
   rcases Int.le_total 0 a with h | h
   ·have h5:a * p≤a * 2147483648:=Int.mul_le_mul_of_nonneg_left h2 h
    omega
   ·have:=Int.mul_nonneg (by omega:0≤-a) (by omega:0≤p)
    rw [Int.neg_mul] at this;omega
  omega
theorem zz2 {a b:Int} (ha:S32 a) (hb:S32 b): -4611686018427387904≤a * b∧a * b≤4611686018427387904:=by
 obtain ⟨h1,h2⟩:=ha
 obtain ⟨h3,h4⟩:=hb
 have k1:(a * b).natAbs≤2147483648 * 2147483648:=by
  rw [Int.natAbs_mul]
  exact Nat.mul_le_mul (by omega) (by omega)
 omega
theorem zyR {a y:Int} {K:D→Prop} (ha:S32 a) (h0:0≤y) (h1:y≤31) (h:K (.int .i64 (a * 2 ^ y.toNat))):yq .i64 a y K:=by
 unfold yq
 refine ⟨h0,?_⟩
 have e:min y.toNat IntKind.i64.bits=y.toNat:=by simp only [IntKind.bits];omega
 obtain ⟨h2,h3⟩:=zz1 ha (y:=y.toNat) (by omega)
 rw [e,zax (by omega) (by omega)]
 exact h
theorem zyS {x y:Int} {K:D→Prop} (h0:0≤y) (h1:y≤31) (h:K (.int .i64 (x / 2 ^ y.toNat))):yt .i64 x y K:=by
 unfold yt
 refine ⟨h0,?_⟩
 have e:min y.toNat IntKind.i64.bits=y.toNat:=by simp only [IntKind.bits];omega
 have hp:(0:Int)≤2 ^ y.toNat:=Int.le_of_lt (Int.pow_pos (by decide))
 rw [e,Int.fdiv_eq_ediv_of_nonneg _ hp]
 exact h
attribute [local irreducible] zg
theorem zpe:za Tryz.prog znq (zy (fun ((k,a,b):Int×Int×Int)=>S32 a∧S32 b) (fun (k,a,b)=>[.int .i64 k,.int .i64 a,.int .i64 b]) fun (k,a,b)=>.int .i64 (zeI k a b)):=by
 refine zf zh Tryz.func199 rfl (by decide) ?_
 rintro ⟨k,a,b⟩ ⟨ha,hb⟩
 refine ⟨Nat.le_refl _,by simp [Tryz.f199],fun E hE=>?_⟩
 refine ze _ ?_
 have hm:=zz2 ha hb
 have ha1:=ha.1
 have ha2:=ha.2
 have hb1:=hb.1
 have hb2:=hb.2
 (all_goals refine qgo ?_<;>(repeat' first | exact trivial | intro hc | refine And.intro ?_ ?_)<;>refine Lf.mk ?_)
 any_goals (first | (refine wG zu0 ?_) | (refine wG zz0 ?_) | (refine wG rfl ?_) | skip)
 have hb32:0≤b % 32∧b % 32≤31:=by omega
 (all_goals refine qgo (Lf.mk ?_))
 any_goals (first | (refine zyR ha (by omega) (by omega) ?_) | (refine wG zu0 ?_) | skip)
 (all_goals refine qgo (Lf.mk ?_))
 any_goals (first | (refine zyS (by omega) (by omega) ?_) | skip)
 (all_goals refine qgo (Lf.mk ?_))
 all_goals (refine zb yC _ trivial (VS.mk (LeL.of_eq rfl)) ?_)
 (all_goals refine qgo (Lf.mk ?_))
 all_goals
  refine zd (VS.mk (LeD.of_eq (congrArg (D.int .i64) (?_:_=zeI k a b))))
  unfold zeI
  repeat (first | rw [if_pos (by assumption)] | rw [if_neg (by assumption)])
def zhn (k:Int) (a b:zB):zB×Int:=
 if a.name=[]∧b.name=[] then (⟨[],zeI k a.n b.n⟩,0)
 else if k=6∧(a.name=[]∨b.name=[]) then (⟨a.name++b.name,zeI k a.n b.n⟩,0)
 else if k=7∧b.name=[] then (⟨a.name,zeI k a.n b.n⟩,0)
 else if k=7∧a.name=b.name then (⟨[],zeI k a.n b.n⟩,0)
 else (⟨[],0⟩,8)
def zkE (x:zB×Int):D:=.tup [yP x.1,.int .i64 x.2]
attribute [local irreducible] zeI
theorem zu1:za Tryz.prog ztg (zy (fun ((k,a,b):Int×zB×zB)=>S32 a.n∧S32 b.n∧a.name.length≤1000000000∧b.name.length≤1000000000) (fun (k,a,b)=>[.int .i64 k,yP a,yP b]) fun (k,a,b)=>zkE (zhn k a b)):=by
 refine zf zh Tryz.func190 rfl (by decide) ?_
 rintro ⟨k,a,b⟩ ⟨ha,hb,hna,hnb⟩
 refine ⟨Nat.le_refl _,by simp [Tryz.f190],fun E hE=>?_⟩
 refine ze _ ?_
 (all_goals refine qgo ?_<;>(repeat' first | exact trivial | intro hc | refine And.intro ?_ ?_)<;>refine Lf.mk ?_)
 any_goals (first | (exfalso;exact absurd ‹a.name=[]› ‹¬ a.name=[]›) | (exfalso;exact absurd ‹b.name=[]› ‹¬ b.name=[]›) | (exfalso;omega) | skip)
 any_goals (first | (refine zkc (by omega) ?_) | skip)
 (all_goals refine qgo (Lf.mk ?_))
 any_goals (first | (refine zb zpe (k,a.n,b.n) ⟨ha,hb⟩ (VS.mk (LeL.of_eq rfl)) ?_) | skip)
 (all_goals refine qgo (Lf.mk ?_))
 all_goals
  refine zd (VS.mk (LeD.of_eq (?_:_=zkE (zhn k a b))))
  simp_all [zhn,zkE,yP]
def zf1 (n:List UInt8):List zo→Option Int
 | []=>none
 | s::l=>if s.name=n then some s.n else zf1 n l
def zeJ (n:List UInt8):List zo→Nat→Int
 | [],_=>-1
 | s::l,k=>if s.name=n then k else zeJ n l (k+1)
theorem zmx (n:List UInt8):∀ (l:List zo) (k:Nat),(zf1 n l=none∧zeJ n l k= -1)∨∃ (i:Nat) (s:zo),l[i]?=some s∧zeJ n l k=((k+i:Nat):Int)∧zf1 n l=some s.n
 | [],k=>.inl ⟨rfl,rfl⟩
 | s::l,k=>by
  rw [zf1,zeJ]
  by_cases h:s.name=n
  ·rw [if_pos h,if_pos h]
   exact .inr ⟨0,s,rfl,rfl,rfl⟩
  ·rw [if_neg h,if_neg h]
   rcases zmx n l (k+1) with h1 | ⟨i,t,h1,h2,h3⟩
   ·exact .inl h1
   ·exact .inr ⟨i+1,t,h1,by rw [h2];congr 1;omega,h3⟩
def zbe:zB:=⟨[],0⟩
def zaA (k n:Int) (s:List UInt8) (vs:List zB) (l:List zo):zB×Int:=
 if k=1∧vs=[] then (⟨[],zg n 32⟩,0)
 else if k=2∧vs=[] then (match zf1 s l with | some m=>(⟨[],zg m 32⟩,0) | none=>(⟨s,0⟩,0))
 else match vs with
  | [v]=>if k=3∨k=4 then (if v.name=[] then (if k=3 then (⟨[],zg (-v.n) 32⟩,0) else (⟨[],zg (-v.n - 1) 32⟩,0)) else (zbe,8)) else (zbe,1)
  | [a,b]=>if 5≤k∧k≤11 then zhn k a b else (zbe,1)
  | _=>(zbe,1)
mutual
def xD (l:List zo):zi→zB×Int
 | .mk k n s ks=>match evalL l ks with
  | .inl w=>(zbe,w)
  | .inr vs=>zaA k n s vs l
def evalL (l:List zo):List zi→Int ⊕ List zB
 | []=>.inr []
 | e::es=>if (xD l e).2=0 then (match evalL l es with | .inl w=>.inl w | .inr vs=>.inr ((xD l e).1::vs)) else .inl (xD l e).2
end
def evA (l:List zo) (acc:List zB) (es:List zi):Int ⊕ List zB:=match evalL l es with | .inl w=>.inl w | .inr vs=>.inr (acc++vs)
theorem zyT (l:List zo) (acc:List zB):evA l acc []= .inr acc:=by unfold evA;rw [evalL];simp
theorem zwW (l:List zo) (acc:List zB) (e:zi) (es:List zi):evA l acc (e::es)=if (xD l e).2=0 then evA l (acc++[(xD l e).1]) es else .inl (xD l e).2:=by
 unfold evA
 rw [evalL]
 by_cases h:(xD l e).2=0
 ·rw [if_pos h,if_pos h]
  cases evalL l es<;>simp
 ·rw [if_neg h,if_neg h]
theorem zyU (l:List zo) (es:List zi):evA l [] es=evalL l es:=by unfold evA;cases evalL l es<;>simp
theorem zpf (l:List zo) (e:zi):xD l e=match evalL l e.kids with
  | .inl w=>(zbe,w)
  | .inr vs=>zaA e.kind e.n e.name vs l:=by
 cases e with
 | mk k n s ks=>rw [xD];rfl
structure VOk (v:zB) (n:Nat):Prop where
 s32:S32 v.n
 len:v.name.length≤n
theorem zz3 {k:Int} {a b:zB} {m n:Nat} (ha:VOk a m) (hb:VOk b n):VOk (zhn k a b).1 (m+n):=by
 have h1:=ha.len
 have h2:=hb.len
 unfold zhn
 split
 ·exact ⟨zf0 _ _ _,by simp⟩
 split
 ·exact ⟨zf0 _ _ _,by simp;omega⟩
 split
 ·exact ⟨zf0 _ _ _,by dsimp only;omega⟩
 split
 ·exact ⟨zf0 _ _ _,by simp⟩
 ·exact ⟨⟨by decide,by decide⟩,by simp⟩
theorem zh8 {n:Nat}:VOk zbe n:=⟨⟨by decide,by decide⟩,by simp [zbe]⟩
def zbf:List zB→Nat
 | []=>0
 | v::vs=>v.name.length+zbf vs
theorem zpg:∀ (a:List zB) (v:zB),zbf (a++[v])=zbf a+v.name.length
 | [],v=>by simp [zbf]
 | x::a,v=>by rw [List.cons_append,zbf,zbf,zpg];omega
theorem zz4 {k n:Int} {s:List UInt8} {vs:List zB} {l:List zo} {m:Nat} (h:∀ v∈vs,S32 v.n) (hm:zbf vs≤m):VOk (zaA k n s vs l).1 (s.length+m):=by
 unfold zaA
 split
 ·exact ⟨zbd _,by simp⟩
 split
 ·split
  ·exact ⟨zbd _,by simp⟩
  ·exact ⟨⟨show (-2147483648:Int)≤0 by decide,show (0:Int)≤2147483647 by decide⟩,by dsimp only;omega⟩
 rcases vs with _ | ⟨a,_ | ⟨b,_ | ⟨c,r⟩⟩⟩<;>dsimp only
 ·exact zh8
 ·split
  ·split
   ·split
    ·exact ⟨zbd _,by simp⟩
    ·exact ⟨zbd _,by simp⟩
   ·exact zh8
  ·exact zh8
 ·split
  ·have:=zz3 (k:=k) (a:=a) (b:=b) ⟨h a (by simp),Nat.le_refl _⟩ ⟨h b (by simp),Nat.le_refl _⟩
   simp only [zbf] at hm
   exact ⟨this.s32,by have:=this.len;omega⟩
  ·exact zh8
 ·exact zh8
mutual
theorem zr3 (l:List zo):∀ e:zi,VOk (xD l e).1 (yM e)
 | .mk k n s ks=>by
  rw [xD,yM]
  cases h:evalL l ks with
  | inl w=>exact zh8
  | inr vs=>
   obtain ⟨h1,h2⟩:=zph l ks vs h
   have:=zz4 (k:=k) (n:=n) (s:=s) (l:=l) h1 h2
   exact ⟨this.s32,by have:=this.len;dsimp only;omega⟩
theorem zph (l:List zo):∀ (es:List zi) (vs:List zB),evalL l es= .inr vs→(∀ v∈vs,S32 v.n)∧zbf vs≤qg es
 | [],vs,h=>by rw [evalL] at h;cases h;exact ⟨by simp,by simp [zbf]⟩
 | e::es,vs,h=>by
  rw [evalL] at h
  have he:=zr3 l e
  split at h
  ·cases hl:evalL l es with
   | inl w=>rw [hl] at h;cases h
   | inr ws=>
    rw [hl] at h
    cases h
    obtain ⟨h1,h2⟩:=zph l es ws hl
    refine ⟨fun v hv=>?_,?_⟩
    ·rcases List.mem_cons.1 hv with rfl | hv
     ·exact he.s32
     ·exact h1 v hv
    ·rw [zbf,qg]
     have:=he.len
     omega
  ·cases h
end
theorem zr4 {α:Type} {l:List α} (h:l.length=0):l=[]:=List.eq_nil_of_length_eq_zero h
theorem zyV {k n:Int} {s:List UInt8} {vs:List zB} {l:List zo} (h1:k=1) (h2:vs.length=0):zaA k n s vs l=(⟨[],zg n 32⟩,0):=by unfold zaA;rw [if_pos ⟨h1,zr4 h2⟩]
theorem zpi {k n:Int} {s:List UInt8} {vs:List zB} {l:List zo} (h1:k=2) (h2:vs.length=0):zaA k n s vs l=(match zf1 s l with | some m=>(⟨[],zg m 32⟩,0) | none=>(⟨s,0⟩,0)):=by
 unfold zaA;rw [if_neg (by rintro ⟨h,_⟩;omega),if_pos ⟨h1,zr4 h2⟩]
theorem zh9 {k n:Int} {s:List UInt8} {v:zB} {l:List zo} (h1:k=3∨k=4):zaA k n s [v] l=if v.name=[] then (if k=3 then (⟨[],zg (-v.n) 32⟩,0) else (⟨[],zg (-v.n - 1) 32⟩,0)) else (zbe,8):=by
 unfold zaA;rw [if_neg (by rintro ⟨h,_⟩;omega),if_neg (by rintro ⟨h,_⟩;omega)];dsimp only;rw [if_pos h1]
theorem zyW {k n:Int} {s:List UInt8} {a b:zB} {l:List zo} (h1:5≤k∧k≤11):zaA k n s [a,b] l=zhn k a b:=by
 unfold zaA;rw [if_neg (by rintro ⟨h,_⟩;omega),if_neg (by rintro ⟨h,_⟩;omega)];dsimp only;rw [if_pos h1]
theorem zyX {k n:Int} {s:List UInt8} {vs:List zB} {l:List zo} (h0:vs.length=0→k≠1∧k≠2) (h1:vs.length=1→k≠3∧k≠4) (h2:vs.length=2→k < 5∨11 < k):zaA k n s vs l=(zbe,1):=by
 unfold zaA
 rw [if_neg (by rintro ⟨h,h3⟩;exact (h0 (by rw [h3];rfl)).1 h),if_neg (by rintro ⟨h,h3⟩;exact (h0 (by rw [h3];rfl)).2 h)]
 rcases vs with _ | ⟨a,_ | ⟨b,_ | ⟨c,r⟩⟩⟩<;>dsimp only
 ·rw [if_neg (by have:=h1 rfl;omega)]
 ·rw [if_neg (by have:=h2 rfl;omega)]
theorem zr5 {α:Type} {l:List α} (h:l.length=1):∃ a,l=[a]:=by
 rcases l with _ | ⟨a,_ | ⟨b,r⟩⟩<;>simp at h
 exact ⟨a,rfl⟩
theorem zyY {α:Type} {l:List α} (h:l.length=2):∃ a b,l=[a,b]:=by
 rcases l with _ | ⟨a,_ | ⟨b,_ | ⟨c,r⟩⟩⟩<;>simp at h
 exact ⟨a,b,rfl⟩
theorem zpj:za Tryz.prog zcR (zQ (fun _:zo×zi=>True) (fun (s,e)=>[wD s,.loc 0 0]) (fun (s,e)=>[.cells [.int .i64 e.kind,.int .i64 e.n,.str e.name,.sl 4 (e.kids.map xy) none]]) (fun (s,e)=>.bool (s.name==e.name))
  fun (s,e)=>[.cells [.int .i64 e.kind,.int .i64 e.n,.str e.name,.sl 4 (e.kids.map xy) none]]):=by
 refine zf zh Tryz.func189 rfl (by decide) ?_
 rintro ⟨s,e⟩ -
 refine ⟨Nat.le_refl _,by simp [Tryz.f189],fun E hE=>?_⟩
 refine ze _ ?_
 (all_goals refine qgo (Lf.mk ?_))
 refine ya ?_
 (repeat' (first | (refine VS.mk ?_) | exact trivial | exact rfl | refine And.intro ?_ ?_))
theorem znt:za Tryz.prog vK (zQ (fun ((l,e):List zo×zi)=>l.length≤1000000000) (fun (l,e)=>[.sl 2 (l.map wD) none,.fn zcR [.loc 0 0]])
  (fun (l,e)=>[.cells [.int .i64 e.kind,.int .i64 e.n,.str e.name,.sl 4 (e.kids.map xy) none]]) (fun (l,e)=>.int .i64 (zeJ e.name l 0)) fun (l,e)=>[.cells [.int .i64 e.kind,.int .i64 e.n,.str e.name,.sl 4 (e.kids.map xy) none]]):=by
 refine zf zh Tryz.func173 rfl (by decide) ?_
 rintro ⟨l,e⟩ hl
 have hl:l.length≤1000000000:=hl
 refine ⟨Nat.le_refl _,by simp [Tryz.f173],fun E hE=>?_⟩
 refine ze _ ?_
 (all_goals refine qgo (Lf.mk ?_))
 refine yc (α:=Nat) (fun k=>k≤l.length∧zeJ e.name l 0=zeJ e.name (l.drop k) k)
  (fun k=>[(7,.int .i64 l.length),(8,.int .i64 k),(0,.sl 2 (l.map wD) none),(1,.fn zcR [.loc 0 0])])
  (fun _=>[.cells [.int .i64 e.kind,.int .i64 e.n,.str e.name,.sl 4 (e.kids.map xy) none]]) (fun k=>l.length - k) (fun _=>by simp [hE]) 0 ⟨Nat.zero_le _,by simp⟩ ?_ ?_
 ·(repeat' (first | (refine VS.mk ?_) | exact trivial | exact rfl | refine And.intro ?_ ?_))
 rintro k ⟨hk,hf⟩
 refine ze _ ?_
 (all_goals refine qgo ?_<;>(repeat' first | exact trivial | intro hc | refine And.intro ?_ ?_)<;>refine Lf.mk ?_)
 ·obtain ⟨s,hsk⟩:=zP (l:=l) (k:=k) (by omega)
  have hkl:k < l.length:=by omega
  have hget:l[k]=s:=by rw [List.getElem?_eq_getElem hkl] at hsk;exact Option.some.inj hsk
  rw [List.drop_eq_getElem_cons hkl,hget,zeJ] at hf
  refine zl s (by omega) (by simpa using hsk) ?_
  (all_goals refine qgo (Lf.mk ?_))
  refine zu zpj [0] [0] (s,e) trivial rfl rfl ?_
  refine And.intro (VS.mk (LeL.of_eq rfl)) (And.intro (VS.mk rfl) ?_)
  (all_goals refine qgo ?_<;>(repeat' first | exact trivial | intro hc | refine And.intro ?_ ?_)<;>refine Lf.mk ?_)
  ·rw [if_pos hc] at hf
   refine ya ?_
   (repeat' (first | (refine VS.mk ?_) | exact trivial | exact rfl | refine And.intro ?_ ?_))
   exact congrArg (D.int .i64) hf.symm
  ·rw [if_neg hc] at hf
   refine zF (k+1) ⟨by omega,hf⟩ (by omega) ?_
   (repeat' (first | (refine VS.mk ?_) | exact trivial | exact rfl | refine And.intro ?_ ?_))
 ·rw [List.drop_of_length_le (by omega),zeJ] at hf
  refine ya ?_
  (repeat' (first | (refine VS.mk ?_) | exact trivial | exact rfl | refine And.intro ?_ ?_))
  exact congrArg (D.int .i64) hf.symm
attribute [local irreducible] zi.kids zi.kind zi.n zi.name xD evalL xy zf1 zeJ yM zhn
theorem zia {w:Int} {x:zB×Int} (h:x=(zbe,w)):LeD (.tup [.agg [.str [],.int .i64 0],.int .i64 w]) (zkE x):=by subst h;exact .refl _
theorem zkF (l:List zo) (hl:l.length≤1000000000):∀ n:Nat,za Tryz.prog zq5 (zy (fun e:zi=>yM e≤n∧yM e≤4194304) (fun e=>[qn e,.sl 2 (l.map wD) none]) fun e=>zkE (xD l e))
 | 0=>by
  refine zf zh Tryz.func172 rfl (by decide) fun e h=>?_
  have:=zhl e
  omega
 | n+1=>by
  have ih:=zkF l hl n
  refine zf zh Tryz.func172 rfl (by decide) ?_
  rintro e ⟨hn,hN⟩
  have hkl:=zwO e
  have hnl:=zwP e
  refine ⟨Nat.le_refl _,by simp [Tryz.f172],fun E hE=>?_⟩
  refine ze _ ?_
  (all_goals refine qgo (Lf.mk ?_))
  refine x8 (qV 6 2 rfl) ?_
  generalize hEV:evalL l e.kids=EV at *
  have hev0:evA l [] e.kids=EV:=by rw [zyU,hEV]
  refine yc (α:=Nat×List zB) (fun p=>p.1≤e.kids.length∧evA l p.2 (e.kids.drop p.1)=EV∧p.2.length=p.1∧(∀ v∈p.2,S32 v.n)∧zbf p.2≤p.1 * 4194304)
   (fun p=>[(13,.sl 4 (e.kids.map xy) none),(14,.int .i64 e.kids.length),(15,.int .i64 p.1),(1,.sl 2 (l.map wD) none),(2,.loc 0 0),(4,.loc 1 0),(6,.sl 2 (p.2.map yP) (some 2))])
   (fun p=>[.cells [.int .i64 e.kind,.int .i64 e.n,.str e.name,.sl 4 (e.kids.map xy) none],.cells [.str [],.int .i64 0],.spare p.2.length]) (fun p=>e.kids.length - p.1) (fun _=>by simp [hE]) (0,[]) ⟨Nat.zero_le _,by simpa using hev0,rfl,by simp,by simp [zbf]⟩ ?_ ?_
  ·(repeat' (first | (refine VS.mk ?_) | exact trivial | exact rfl | refine And.intro ?_ ?_))
  rintro ⟨k,vs⟩ ⟨hk,hev,hvl,hvs,hns⟩
  dsimp only at hk hev hvl hvs hns ⊢
  refine ze _ ?_
  (all_goals refine qgo ?_<;>(repeat' first | exact trivial | intro hc | refine And.intro ?_ ?_)<;>refine Lf.mk ?_)
  ·obtain ⟨x,hx⟩:=zP (l:=e.kids) (k:=k) (by omega)
   have hxm:=List.mem_of_getElem? hx
   have hxn:=zuU hxm
   have hok:=zr3 l x
   have hkl3:k < e.kids.length:=by omega
   have hget:e.kids[k]=x:=by rw [List.getElem?_eq_getElem hkl3] at hx;exact Option.some.inj hx
   rw [List.drop_eq_getElem_cons hkl3,hget,zwW] at hev
   refine zyN x (by omega) (by simpa using hx) ?_
   (all_goals refine qgo (Lf.mk ?_))
   refine zb ih x ⟨by omega,by omega⟩ (VS.mk (LeL.of_eq rfl)) ?_
   (all_goals refine qgo ?_<;>(repeat' first | exact trivial | intro hc | refine And.intro ?_ ?_)<;>refine Lf.mk ?_)
   ·rw [if_neg hc] at hev
    subst hev
    exact zd (VS.mk (zia (by rw [zpf,hEV])))
   ·rw [if_pos hc] at hev
    have hl1:=hok.len
    refine zF (k+1,vs++[(xD l x).1]) ⟨by (dsimp only;omega),hev,by (dsimp only;rw [List.length_append,hvl];rfl),fun v hv=>?_,by (dsimp only;rw [zpg];omega)⟩ (by dsimp only;omega) ?_
    ·(repeat' (first | (refine VS.mk ?_) | exact trivial | exact rfl | refine And.intro ?_ ?_))
     ·simp [yP]
     ·simp [yP]
    ·rcases List.mem_append.1 hv with h | h
     ·exact hvs v h
     ·rw [List.mem_singleton.1 h];exact hok.s32
  all_goals
   rw [List.drop_of_length_le (by omega),zyT] at hev
   subst hev
   have hT:xD l e=zaA e.kind e.n e.name vs l:=by rw [zpf,hEV]
  any_goals (first | (exfalso;omega) | exact zd (VS.mk (zia (by rw [hT,zyX (by omega) (by omega) (by omega)]))) | skip)
  ·refine zb yC e.n trivial (VS.mk (LeL.of_eq rfl)) ?_
   (all_goals refine qgo (Lf.mk ?_))
   refine zd (VS.mk (LeD.of_eq ?_))
   rw [hT,zyV (by omega) (by omega)]
   rfl
  ·refine zu znt [0] [0] (l,e) hl rfl rfl ?_
   refine And.intro (VS.mk (LeL.of_eq rfl)) (And.intro (VS.mk rfl) ?_)
   rcases zmx e.name l 0 with ⟨h1,h2⟩ | ⟨i,s,h1,h2,h3⟩
   ·dsimp only
    rw [h2]
    (all_goals refine qgo ?_<;>(repeat' first | exact trivial | intro hc | refine And.intro ?_ ?_)<;>refine Lf.mk ?_)
    ·exfalso;omega
    ·refine zd (VS.mk (LeD.of_eq ?_))
     rw [hT,zpi (by omega) (by omega),h1]
     rfl
   ·have hil:i < l.length:=(List.getElem?_eq_some_iff.1 h1).1
    rw [Nat.zero_add] at h2
    dsimp only
    rw [h2]
    (all_goals refine qgo ?_<;>(repeat' first | exact trivial | intro hc | refine And.intro ?_ ?_)<;>refine Lf.mk ?_)
    ·refine zl s (by omega) (by simpa using h1) ?_
     (all_goals refine qgo (Lf.mk ?_))
     refine zb yC s.n trivial (VS.mk (LeL.of_eq rfl)) ?_
     (all_goals refine qgo (Lf.mk ?_))
     refine zd (VS.mk (LeD.of_eq ?_))
     rw [hT,zpi (by omega) (by omega),h3]
     rfl
    ·exfalso;omega
  ·obtain ⟨v,hv1⟩:=zr5 (l:=vs) (by omega)
   subst hv1
   obtain ⟨s1,s2⟩:=hvs v (by simp)
   (all_goals refine qgo ?_<;>(repeat' first | exact trivial | intro hc | refine And.intro ?_ ?_)<;>refine Lf.mk ?_)
   ·exact zd (VS.mk (zia (by rw [hT,zh9 (by omega),if_neg (by assumption)])))
   ·refine zb yC (-v.n) trivial (VS.mk (LeL.of_eq (by rw [Int.zero_sub]))) ?_
    (all_goals refine qgo (Lf.mk ?_))
    refine zd (VS.mk (LeD.of_eq ?_))
    rw [hT,zh9 (by omega),if_pos (by assumption),if_pos (by assumption)]
    rfl
   ·exfalso;omega
  ·obtain ⟨v,hv1⟩:=zr5 (l:=vs) (by omega)
   subst hv1
   obtain ⟨s1,s2⟩:=hvs v (by simp)
   (all_goals refine qgo ?_<;>(repeat' first | exact trivial | intro hc | refine And.intro ?_ ?_)<;>refine Lf.mk ?_)
   ·exact zd (VS.mk (zia (by rw [hT,zh9 (by omega),if_neg (by assumption)])))
   ·exfalso;omega
   ·refine wG (zyQ (by omega) (by omega)) ?_
    (all_goals refine qgo (Lf.mk ?_))
    refine zb yC (-v.n - 1) trivial (VS.mk (LeL.of_eq rfl)) ?_
    (all_goals refine qgo (Lf.mk ?_))
    refine zd (VS.mk (LeD.of_eq ?_))
    rw [hT,zh9 (by omega),if_pos (by assumption),if_neg (by omega)]
    rfl
  ·obtain ⟨a,b,hab⟩:=zyY (l:=vs) (by omega)
   subst hab
   have sa:=hvs a (by simp)
   have sb:=hvs b (by simp)
   simp only [zbf] at hns
   (all_goals refine qgo (Lf.mk ?_))
   refine zb zu1 (e.kind,a,b) ⟨sa,sb,by omega,by omega⟩ (VS.mk (LeL.of_eq rfl)) ?_
   (all_goals refine qgo (Lf.mk ?_))
   refine zd (VS.mk (LeD.of_eq ?_))
   rw [hT,zyW (by omega)]
   rfl
end Go.Proofs.YtnkdeacghopkiaaGreatDoor
namespace Go.Proofs.YtnkdeacghopkiaaGreatDoor
open Go Go.Plat
set_option linter.unusedVariables false
set_option linter.unusedSimpArgs false
set_option maxRecDepth 100000
set_option maxHeartbeats 2000000
attribute [local irreducible] AWP zG yn zK zn yA z8 zI zY z6 zw za zN yB zt z7 yx yy yq yt zx zz zD
structure zbF where
 op:Int
 name:List UInt8
 shape:Int
 bits:Int
def zkG (r:zbF):D:=.agg [.int .i64 r.op,.str r.name,.int .i64 r.shape,.int .i64 r.bits]
def xc:List zbF:=[
 ⟨1,[110,111,112],0,9⟩,
 ⟨2,[114,116,115],0,11⟩,
 ⟨3,[109,111,118],1,57344⟩,
 ⟨4,[97,100,100],1,28672⟩,
 ⟨5,[109,111,118],2,24579⟩,
 ⟨6,[97,100,100],2,12300⟩,
 ⟨7,[115,117,98],2,12296⟩,
 ⟨8,[97,110,100],2,8201⟩,
 ⟨9,[111,114],2,8203⟩,
 ⟨10,[120,111,114],2,8202⟩,
 ⟨11,[116,115,116],2,8200⟩,
 ⟨12,[99,109,112,47,101,113],2,12288⟩,
 ⟨13,[99,109,112,47,103,116],2,12295⟩,
 ⟨14,[115,104,108,108],3,16384⟩,
 ⟨15,[115,104,108,114],3,16385⟩,
 ⟨16,[100,116],3,16400⟩,
 ⟨17,[98,116],4,35072⟩,
 ⟨18,[98,102],4,35584⟩,
 ⟨19,[98,114,97],5,40960⟩,
 ⟨20,[98,115,114],5,45056⟩,
 ⟨21,[106,109,112],6,16427⟩,
 ⟨22,[106,115,114],6,16395⟩,
 ⟨23,[109,111,118,46,119],7,36864⟩,
 ⟨24,[109,111,118,46,108],8,53248⟩,
 ⟨25,[109,111,118,46,108],9,8194⟩,
 ⟨26,[109,111,118,46,108],10,24578⟩,
 ⟨27,[116,114,97,112,97],11,49920⟩]
theorem v8:xc.length=27:=rfl
theorem zc8:za Tryz.prog zta (zy (fun _:Unit=>True) (fun _=>[]) fun _=>.sl 4 (xc.map zkG) none):=by
 refine zf zh Tryz.func93 rfl (by decide) fun _ _=>?_
 refine ⟨Nat.le_refl _,by simp [Tryz.f93],fun E hE=>?_⟩
 refine ze _ ?_
 (all_goals refine qgo (Lf.mk ?_))
 exact zd (VS.mk (LeD.of_eq (by rfl)))
def xE (op:Int):Option zbF:=xc.find? fun r=>r.op==op
def jO (op:Int):D:=match xE op with | some r=>.tup [.str r.name,.int .i64 r.shape] | none=>.tup [.str [],.int .i64 0]
theorem zc9:za Tryz.prog ztd (zy (fun _:Int=>True) (fun op=>[.int .i64 op]) jO):=by
 refine zf zh Tryz.func96 rfl (by decide) fun op _=>?_
 refine ⟨Nat.le_refl _,by simp [Tryz.f96],fun E hE=>?_⟩
 refine ze _ ?_
 (all_goals refine qgo (Lf.mk ?_))
 refine zb zc8 () trivial (VS.mk (by (first | exact LeL.refl _ | (repeat' (first | exact LeL.nil | exact LeD.refl _ | exact LeD.nil _ | exact LeD.strip _ _ _ | refine LeL.cons ?_ ?_ | refine LeD.tup ?_ | refine LeD.agg ?_))))) ?_
 (all_goals refine qgo (Lf.mk ?_))
 refine yc (α:=Nat) (fun k=>k≤27∧∀ (i:Nat) r,i < k→xc[i]?=some r→(r.op==op)=false) (fun k=>[(6,.sl 4 (xc.map zkG) none),(7,.int .i64 27),(8,.int .i64 k),(0,.int .i64 op)]) (fun _=>[]) (fun k=>27 - k) (fun _=>by simp [hE]) 0 ⟨Nat.zero_le _,by simp⟩ ?_ ?_
 ·(repeat' (first | (refine VS.mk ?_) | exact trivial | exact rfl | refine And.intro ?_ ?_))
 rintro k ⟨hk,hno⟩
 refine ze _ ?_
 (all_goals refine qgo ?_<;>(repeat' first | exact trivial | intro hc | refine And.intro ?_ ?_)<;>refine Lf.mk ?_)
 ·obtain ⟨r,hr⟩:=zP (l:=xc) (k:=k) (by rw [v8];omega)
  refine zl r (by omega) (by simpa using hr) ?_
  (all_goals refine qgo ?_<;>(repeat' first | exact trivial | intro hc | refine And.intro ?_ ?_)<;>refine Lf.mk ?_)
  ·refine zd (VS.mk (LeD.of_eq ?_))
   have hf:=zh1 (p:=fun r=>r.op==op) hr (by simpa using hc) hno
   rw [jO,xE,hf]
  ·refine zF (k+1) ⟨by omega,zh2 hno hr (by simpa using hc)⟩ (by omega) ?_
   (repeat' (first | (refine VS.mk ?_) | exact trivial | exact rfl | refine And.intro ?_ ?_))
 ·refine zd (VS.mk (LeD.of_eq ?_))
  have hf:=zou hno (by rw [v8];omega)
  rw [jO,xE,hf]
def ztp (name:List UInt8) (shape:Int):Option zbF:=xc.find? fun r=>r.name==name && r.shape==shape
def vV (name:List UInt8) (shape:Int):Int:=match ztp name shape with | some r=>r.op | none=>0
theorem ztq:za Tryz.prog zkv (zy (fun _:List UInt8×Int=>True) (fun (name,shape)=>[.str name,.int .i64 shape]) fun (name,shape)=>.int .i64 (vV name shape)):=by
 refine zf zh Tryz.func157 rfl (by decide) ?_
 rintro ⟨name,shape⟩ _
 refine ⟨Nat.le_refl _,by simp [Tryz.f157],fun E hE=>?_⟩
 refine ze _ ?_
 (all_goals refine qgo (Lf.mk ?_))
 refine zb zc8 () trivial (VS.mk (by (first | exact LeL.refl _ | (repeat' (first | exact LeL.nil | exact LeD.refl _ | exact LeD.nil _ | exact LeD.strip _ _ _ | refine LeL.cons ?_ ?_ | refine LeD.tup ?_ | refine LeD.agg ?_))))) ?_
 (all_goals refine qgo (Lf.mk ?_))
 refine yc (α:=Nat) (fun k=>k≤27∧∀ (i:Nat) r,i < k→xc[i]?=some r→(r.name==name && r.shape==shape)=false) (fun k=>[(7,.sl 4 (xc.map zkG) none),(8,.int .i64 27),(9,.int .i64 k),(0,.str name),(1,.int .i64 shape)]) (fun _=>[]) (fun k=>27 - k) (fun _=>by simp [hE]) 0 ⟨Nat.zero_le _,by simp⟩ ?_ ?_
 ·(repeat' (first | (refine VS.mk ?_) | exact trivial | exact rfl | refine And.intro ?_ ?_))
 rintro k ⟨hk,hno⟩
 refine ze _ ?_
 (all_goals refine qgo ?_<;>(repeat' first | exact trivial | intro hc | refine And.intro ?_ ?_)<;>refine Lf.mk ?_)
 ·obtain ⟨r,hr⟩:=zP (l:=xc) (k:=k) (by rw [v8];omega)
  refine zl r (by omega) (by simpa using hr) ?_
  (all_goals refine qgo ?_<;>(repeat' first | exact trivial | intro hc | refine And.intro ?_ ?_)<;>refine Lf.mk ?_)
  ·refine zd (VS.mk (LeD.of_eq ?_))
   have hf:=zh1 (p:=fun r=>r.name==name && r.shape==shape) hr (by simp [*]) hno
   simp only [vV,ztp,hf]
  ·refine zF (k+1) ⟨by omega,zh2 hno hr (by simp [*])⟩ (by omega) ?_
   (repeat' (first | (refine VS.mk ?_) | exact trivial | exact rfl | refine And.intro ?_ ?_))
  ·refine zF (k+1) ⟨by omega,zh2 hno hr (by simp [*])⟩ (by omega) ?_
   (repeat' (first | (refine VS.mk ?_) | exact trivial | exact rfl | refine And.intro ?_ ?_))
 ·refine zd (VS.mk (LeD.of_eq ?_))
  have hf:=zou hno (by rw [v8];omega)
  simp only [vV,ztp,hf]
def zda (s:Int):Bool:=s==1 || s==3 || s==6 || s==7 || s==8 || s==2 || s==9 || s==10
def zdb (s:Int):Bool:=s==2 || s==9 || s==10
theorem zkH:za Tryz.prog ztc (zy (fun _:Int=>True) (fun s=>[.int .i64 s]) fun s=>.tup [.bool (zda s),.bool (zdb s)]):=by
 refine zf zh Tryz.func95 rfl (by decide) fun s _=>?_
 refine ⟨Nat.le_refl _,by simp [Tryz.f95],fun E hE=>?_⟩
 refine ze _ ?_
 (all_goals refine qgo ?_<;>(repeat' first | exact trivial | intro hc | refine And.intro ?_ ?_)<;>refine Lf.mk ?_)
 all_goals (refine zd (VS.mk ?_))
 all_goals first | (exfalso;omega) | (refine LeD.tup (.cons ?_ (.cons ?_ .nil))<;>first | exact LeD.tt (by simp_all [zda,zdb]) | exact LeD.ff (by simp_all [zda,zdb]))
def zeK (s:Int):Int:=if s=1∨s=4 then -128 else if s=5 then -2048 else 0
def zbW (s:Int):Int:=if s=1∨s=4 then 127 else if s=5 then 2047 else if s=7∨s=8∨s=11 then 255 else 0
theorem ziF:za Tryz.prog zq4 (zy (fun _:Int=>True) (fun s=>[.int .i64 s]) fun s=>.tup [.int .i64 (zeK s),.int .i64 (zbW s)]):=by
 refine zf zh Tryz.func161 rfl (by decide) fun s _=>?_
 refine ⟨Nat.le_refl _,by simp [Tryz.f161],fun E hE=>?_⟩
 refine ze _ ?_
 (all_goals refine qgo ?_<;>(repeat' first | exact trivial | intro hc | refine And.intro ?_ ?_)<;>refine Lf.mk ?_)
 all_goals (refine zd (VS.mk ?_))
 all_goals (refine LeD.of_eq ?_;unfold zeK zbW;simp;omega)
def zf2 (s:Int):Int:=if s=0 then 65535 else if s=2∨s=9∨s=10 then 61455 else if s=3∨s=6 then 61695 else if s=4∨s=11 then 65280 else 61440
theorem ztr:za Tryz.prog ztb (zy (fun _:Int=>True) (fun s=>[.int .i64 s]) fun s=>.int .i64 (zf2 s)):=by
 refine zf zh Tryz.func94 rfl (by decide) fun s _=>?_
 refine ⟨Nat.le_refl _,by simp [Tryz.f94],fun E hE=>?_⟩
 refine ze _ ?_
 (all_goals refine qgo ?_<;>(repeat' first | exact trivial | intro hc | refine And.intro ?_ ?_)<;>refine Lf.mk ?_)
 all_goals (refine zd (VS.mk (LeD.of_eq (congrArg (D.int .i64) ?_))))
 all_goals (unfold zf2;(repeat' split)<;>first | rfl | omega)
end Go.Proofs.YtnkdeacghopkiaaGreatDoor
