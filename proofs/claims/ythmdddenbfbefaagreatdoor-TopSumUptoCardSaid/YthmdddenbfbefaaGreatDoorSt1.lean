/-
  A part of the proof: what the given program's functions answer, each once; conditions that are enough for it.
-/
import Derived.Test.YthmdddenbfbefaaGreatDoorProg
import Derived.KernelRfl
import Derived.Test.YthmdddenbfbefaaGreatDoorFw3
import Derived.Lib.LaidTab
import Derived.Sort.Grow
import Derived.Deep.Draws
import Derived.Below
import Derived.Shelf.Utf8.RuneCount
import Derived.Shelf.Strconv.Itoa0
import Derived.Shelf.Strconv.Itoa1
import Derived.Shelf.LaysM
import Derived.Shelf.Strconv.Itoa2
import Derived.Shelf.Strconv.Itoa3
import Derived.Shelf.Strconv.Clone
import Derived.Shelf.Strconv.SyntaxError
import Derived.Shelf.Strconv.Lower
import Derived.Shelf.Strconv.ParseUint10
import Derived.Shelf.Strconv.ParseUint10Empty
import Derived.Shelf.Strconv.RangeError
import Derived.Shelf.Strconv.ParseUintEmpty
import Derived.Shelf.Strconv.ParseUint10b64
import Derived.Shelf.Strings.Search1
import Derived.Shelf.Strings.Search2
import Derived.Shelf.Strings.Search3
import Derived.Shelf.Strings.Cut
import Derived.Shelf.Strings.Count
import Derived.Shelf.Strings.Shaped
import Derived.Shelf.Unicode.DecodeSlow
namespace Go.Proofs.YthmdddenbfbefaaGreatDoor
open Go Go.Plat
set_option maxRecDepth 100000
theorem y4.of {P : Program} {t : Nat} {i : TI} (h1 : (P.underlying t).map qM = some i.d) (h2 : (P.info? t).map (fun x => (x.size, x.bytes, x.zero)) = some (i.size, i.bytes, some i.zero)) (h3 : Nat.beq i.size 0 = false) (h3b : Nat.beq i.bytes 0 = false) (h4 : Nat.beq i.zero.cells.size i.size = true)
  (h5 : (match P.underlying t with | some (.struct fs) => fs.toList.all fun f => (P.info? f.type).isSome | _ => true) = true) : y4 P t i where
 under := by
  cases h : P.underlying t with
  | none => rw [h] at h1; cases h1
  | some d => rw [h] at h1; exact ⟨d, rfl, by simpa using h1⟩
 info := by
  cases h : P.info? t with
  | none => rw [h] at h2; cases h2
  | some x => rw [h] at h2; simp at h2; exact ⟨x, rfl, h2.1, h2.2.1, h2.2.2⟩
 pos := by intro h; rw [h] at h3; simp at h3
 bpos := by intro h; rw [h] at h3b; simp at h3b
 szero := Nat.eq_of_beq_eq_true h4
 fin := h5
theorem zU.of {P : Program} : ∀ {l : Tab}, l.map (fun p => ((P.underlying p.1).map qM, (P.info? p.1).map fun x => (x.size, x.bytes, x.zero))) = l.map (fun p => (some p.2.d, some (p.2.size, p.2.bytes, some p.2.zero))) →
  l.all (fun p => !Nat.beq p.2.size 0 && !Nat.beq p.2.bytes 0 && Nat.beq p.2.zero.cells.size p.2.size && (match P.underlying p.1 with | some (.struct fs) => fs.toList.all fun f => (P.info? f.type).isSome | _ => true)) = true → zU P l
 | [], _, _ => .nil _
 | (t, i) :: l, h, g => by
  rw [List.map_cons, List.map_cons] at h
  injection h with h1 h2
  rw [Prod.mk.injEq] at h1
  rw [List.all_cons, Bool.and_eq_true] at g
  obtain ⟨g1, g2⟩ := g
  simp only [Bool.and_eq_true, Bool.not_eq_true'] at g1
  obtain ⟨⟨⟨a, b⟩, c⟩, d⟩ := g1
  exact .cons (y4.of h1.1 h1.2 a b c d) (zU.of h2 g2)
def tab : Tab := [
(3, ⟨(.int .i64), 1, 8, (.int .i64 0)⟩),
(4, ⟨.bool, 1, 1, (.bool false)⟩),
(5, ⟨(.int .u8), 1, 1, (.int .u8 0)⟩),
(9, ⟨.str, 1, 16, (.string ⟨#[]⟩)⟩),
(24, ⟨(.slice 5), 1, 24, (.slice none 0 0)⟩),
(2, ⟨(.int .i64), 1, 8, (.int .i64 0)⟩),
(12, ⟨(.int .u64), 1, 8, (.int .u64 0)⟩),
(20, ⟨.iface, 1, 16, .nilIface⟩),
(21, ⟨(.int .i32), 1, 4, (.int .i32 0)⟩),
(25, ⟨(.slice 35), 1, 24, (.slice none 0 0)⟩),
(26, ⟨(.slice 93), 1, 24, (.slice none 0 0)⟩),
(27, ⟨(.struct [(0, 24), (1, 25), (2, 26)]), 3, 72, (.agg #[(.slice none 0 0), (.slice none 0 0), (.slice none 0 0)])⟩),
(28, ⟨(.struct [(0, 24), (1, 25), (2, 26)]), 3, 72, (.agg #[(.slice none 0 0), (.slice none 0 0), (.slice none 0 0)])⟩),
(29, ⟨(.int .i64), 1, 8, (.int .i64 0)⟩),
(30, ⟨(.struct [(0, 29), (1, 3)]), 2, 16, (.agg #[(.int .i64 0), (.int .i64 0)])⟩),
(31, ⟨(.struct [(0, 29), (1, 3)]), 2, 16, (.agg #[(.int .i64 0), (.int .i64 0)])⟩),
(34, ⟨(.struct [(0, 9), (1, 3)]), 2, 24, (.agg #[(.string ⟨#[]⟩), (.int .i64 0)])⟩),
(35, ⟨(.struct [(0, 9), (1, 3)]), 2, 24, (.agg #[(.string ⟨#[]⟩), (.int .i64 0)])⟩),
(36, ⟨(.struct [(0, 3), (1, 3), (2, 3), (3, 3)]), 4, 32, (.agg #[(.int .i64 0), (.int .i64 0), (.int .i64 0), (.int .i64 0)])⟩),
(37, ⟨(.struct [(0, 3), (1, 3), (2, 3), (3, 3)]), 4, 32, (.agg #[(.int .i64 0), (.int .i64 0), (.int .i64 0), (.int .i64 0)])⟩),
(42, ⟨(.slice 51), 1, 24, (.slice none 0 0)⟩),
(47, ⟨(.struct [(0, 3), (1, 3), (2, 9)]), 3, 32, (.agg #[(.int .i64 0), (.int .i64 0), (.string ⟨#[]⟩)])⟩),
(48, ⟨(.struct [(0, 3), (1, 3), (2, 9)]), 3, 32, (.agg #[(.int .i64 0), (.int .i64 0), (.string ⟨#[]⟩)])⟩),
(49, ⟨(.slice 48), 1, 24, (.slice none 0 0)⟩),
(50, ⟨(.struct [(0, 3), (1, 49)]), 2, 32, (.agg #[(.int .i64 0), (.slice none 0 0)])⟩),
(51, ⟨(.struct [(0, 3), (1, 49)]), 2, 32, (.agg #[(.int .i64 0), (.slice none 0 0)])⟩),
(54, ⟨(.slice 24), 1, 24, (.slice none 0 0)⟩),
(55, ⟨(.slice 67), 1, 24, (.slice none 0 0)⟩),
(56, ⟨(.slice 4), 1, 24, (.slice none 0 0)⟩),
(57, ⟨(.struct [(0, 3), (1, 55), (2, 56), (3, 54)]), 4, 80, (.agg #[(.int .i64 0), (.slice none 0 0), (.slice none 0 0), (.slice none 0 0)])⟩),
(58, ⟨(.struct [(0, 3), (1, 55), (2, 56), (3, 54)]), 4, 80, (.agg #[(.int .i64 0), (.slice none 0 0), (.slice none 0 0), (.slice none 0 0)])⟩),
(62, ⟨(.struct [(0, 3), (1, 3)]), 2, 16, (.agg #[(.int .i64 0), (.int .i64 0)])⟩),
(63, ⟨(.struct [(0, 3), (1, 3)]), 2, 16, (.agg #[(.int .i64 0), (.int .i64 0)])⟩),
(66, ⟨(.struct [(0, 24), (1, 3), (2, 3), (3, 3), (4, 4), (5, 24), (6, 31)]), 8, 96, (.agg #[(.slice none 0 0), (.int .i64 0), (.int .i64 0), (.int .i64 0), (.bool false), (.slice none 0 0), (.int .i64 0), (.int .i64 0)])⟩),
(67, ⟨(.struct [(0, 24), (1, 3), (2, 3), (3, 3), (4, 4), (5, 24), (6, 31)]), 8, 96, (.agg #[(.slice none 0 0), (.int .i64 0), (.int .i64 0), (.int .i64 0), (.bool false), (.slice none 0 0), (.int .i64 0), (.int .i64 0)])⟩),
(69, ⟨(.slice 3), 1, 24, (.slice none 0 0)⟩),
(73, ⟨(.slice 9), 1, 24, (.slice none 0 0)⟩),
(77, ⟨(.slice 63), 1, 24, (.slice none 0 0)⟩),
(78, ⟨(.slice 29), 1, 24, (.slice none 0 0)⟩),
(81, ⟨(.struct [(0, 3), (1, 24), (2, 25)]), 3, 56, (.agg #[(.int .i64 0), (.slice none 0 0), (.slice none 0 0)])⟩),
(82, ⟨(.struct [(0, 3), (1, 24), (2, 25)]), 3, 56, (.agg #[(.int .i64 0), (.slice none 0 0), (.slice none 0 0)])⟩),
(85, ⟨(.arr 16 3), 16, 128, (.agg #[(.int .i64 0), (.int .i64 0), (.int .i64 0), (.int .i64 0), (.int .i64 0), (.int .i64 0), (.int .i64 0), (.int .i64 0), (.int .i64 0), (.int .i64 0), (.int .i64 0), (.int .i64 0), (.int .i64 0), (.int .i64 0), (.int .i64 0), (.int .i64 0)])⟩),
(86, ⟨(.struct [(0, 85), (16, 4), (17, 3), (18, 3), (19, 82), (22, 69), (23, 3)]), 24, 240, (.agg #[(.int .i64 0), (.int .i64 0), (.int .i64 0), (.int .i64 0), (.int .i64 0), (.int .i64 0), (.int .i64 0), (.int .i64 0), (.int .i64 0), (.int .i64 0), (.int .i64 0), (.int .i64 0), (.int .i64 0), (.int .i64 0), (.int .i64 0), (.int .i64 0), (.bool false), (.int .i64 0), (.int .i64 0), (.int .i64 0), (.slice none 0 0), (.slice none 0 0), (.slice none 0 0), (.int .i64 0)])⟩),
(87, ⟨(.struct [(0, 85), (16, 4), (17, 3), (18, 3), (19, 82), (22, 69), (23, 3)]), 24, 240, (.agg #[(.int .i64 0), (.int .i64 0), (.int .i64 0), (.int .i64 0), (.int .i64 0), (.int .i64 0), (.int .i64 0), (.int .i64 0), (.int .i64 0), (.int .i64 0), (.int .i64 0), (.int .i64 0), (.int .i64 0), (.int .i64 0), (.int .i64 0), (.int .i64 0), (.bool false), (.int .i64 0), (.int .i64 0), (.int .i64 0), (.slice none 0 0), (.slice none 0 0), (.slice none 0 0), (.int .i64 0)])⟩),
(92, ⟨(.struct [(0, 3), (1, 3), (2, 9), (3, 3)]), 4, 40, (.agg #[(.int .i64 0), (.int .i64 0), (.string ⟨#[]⟩), (.int .i64 0)])⟩),
(93, ⟨(.struct [(0, 3), (1, 3), (2, 9), (3, 3)]), 4, 40, (.agg #[(.int .i64 0), (.int .i64 0), (.string ⟨#[]⟩), (.int .i64 0)])⟩),
(94, ⟨(.slice 224), 1, 24, (.slice none 0 0)⟩),
(97, ⟨(.struct [(0, 9), (1, 3), (2, 9)]), 3, 40, (.agg #[(.string ⟨#[]⟩), (.int .i64 0), (.string ⟨#[]⟩)])⟩),
(98, ⟨(.struct [(0, 9), (1, 3), (2, 9)]), 3, 40, (.agg #[(.string ⟨#[]⟩), (.int .i64 0), (.string ⟨#[]⟩)])⟩),
(99, ⟨(.map 3 98), 1, 8, (.map none)⟩),
(106, ⟨(.ptr 110), 1, 8, (.pointer none)⟩),
(107, ⟨(.slice 119), 1, 24, (.slice none 0 0)⟩),
(108, ⟨(.slice 164), 1, 24, (.slice none 0 0)⟩),
(109, ⟨(.struct [(0, 94), (1, 107), (2, 25), (3, 69), (4, 108), (5, 3), (6, 28), (9, 31)]), 11, 216, (.agg #[(.slice none 0 0), (.slice none 0 0), (.slice none 0 0), (.slice none 0 0), (.slice none 0 0), (.int .i64 0), (.slice none 0 0), (.slice none 0 0), (.slice none 0 0), (.int .i64 0), (.int .i64 0)])⟩),
(110, ⟨(.struct [(0, 94), (1, 107), (2, 25), (3, 69), (4, 108), (5, 3), (6, 28), (9, 31)]), 11, 216, (.agg #[(.slice none 0 0), (.slice none 0 0), (.slice none 0 0), (.slice none 0 0), (.slice none 0 0), (.int .i64 0), (.slice none 0 0), (.slice none 0 0), (.slice none 0 0), (.int .i64 0), (.int .i64 0)])⟩),
(115, ⟨(.ptr 119), 1, 8, (.pointer none)⟩),
(116, ⟨(.struct [(0, 9), (1, 3)]), 2, 24, (.agg #[(.string ⟨#[]⟩), (.int .i64 0)])⟩),
(117, ⟨(.struct [(0, 9), (1, 3)]), 2, 24, (.agg #[(.string ⟨#[]⟩), (.int .i64 0)])⟩),
(118, ⟨(.struct [(0, 3), (1, 3), (2, 3), (3, 37), (7, 4), (8, 3), (9, 117), (11, 3), (12, 3)]), 13, 112, (.agg #[(.int .i64 0), (.int .i64 0), (.int .i64 0), (.int .i64 0), (.int .i64 0), (.int .i64 0), (.int .i64 0), (.bool false), (.int .i64 0), (.string ⟨#[]⟩), (.int .i64 0), (.int .i64 0), (.int .i64 0)])⟩),
(119, ⟨(.struct [(0, 3), (1, 3), (2, 3), (3, 37), (7, 4), (8, 3), (9, 117), (11, 3), (12, 3)]), 13, 112, (.agg #[(.int .i64 0), (.int .i64 0), (.int .i64 0), (.int .i64 0), (.int .i64 0), (.int .i64 0), (.int .i64 0), (.bool false), (.int .i64 0), (.string ⟨#[]⟩), (.int .i64 0), (.int .i64 0), (.int .i64 0)])⟩),
(124, ⟨(.ptr 58), 1, 8, (.pointer none)⟩),
(130, ⟨(.slice 28), 1, 24, (.slice none 0 0)⟩),
(140, ⟨(.ptr 143), 1, 8, (.pointer none)⟩),
(141, ⟨(.slice 219), 1, 24, (.slice none 0 0)⟩),
(142, ⟨(.struct [(0, 141), (1, 94), (2, 42), (3, 3), (4, 31)]), 6, 96, (.agg #[(.slice none 0 0), (.slice none 0 0), (.slice none 0 0), (.int .i64 0), (.int .i64 0), (.int .i64 0)])⟩),
(143, ⟨(.struct [(0, 141), (1, 94), (2, 42), (3, 3), (4, 31)]), 6, 96, (.agg #[(.slice none 0 0), (.slice none 0 0), (.slice none 0 0), (.int .i64 0), (.int .i64 0), (.int .i64 0)])⟩),
(150, ⟨(.ptr 152), 1, 8, (.pointer none)⟩),
(151, ⟨(.struct [(0, 106), (1, 49), (2, 3)]), 3, 40, (.agg #[(.pointer none), (.slice none 0 0), (.int .i64 0)])⟩),
(152, ⟨(.struct [(0, 106), (1, 49), (2, 3)]), 3, 40, (.agg #[(.pointer none), (.slice none 0 0), (.int .i64 0)])⟩),
(153, ⟨(.slice 227), 1, 24, (.slice none 0 0)⟩),
(164, ⟨(.slice 117), 1, 24, (.slice none 0 0)⟩),
(171, ⟨(.ptr 67), 1, 8, (.pointer none)⟩),
(174, ⟨(.struct [(0, 3), (1, 3), (2, 3), (3, 3), (4, 31), (6, 24)]), 7, 72, (.agg #[(.int .i64 0), (.int .i64 0), (.int .i64 0), (.int .i64 0), (.int .i64 0), (.int .i64 0), (.slice none 0 0)])⟩),
(175, ⟨(.struct [(0, 3), (1, 3), (2, 3), (3, 3), (4, 31), (6, 24)]), 7, 72, (.agg #[(.int .i64 0), (.int .i64 0), (.int .i64 0), (.int .i64 0), (.int .i64 0), (.int .i64 0), (.slice none 0 0)])⟩),
(179, ⟨(.ptr 175), 1, 8, (.pointer none)⟩),
(182, ⟨(.ptr 184), 1, 8, (.pointer none)⟩),
(183, ⟨(.struct [(0, 24), (1, 4)]), 2, 32, (.agg #[(.slice none 0 0), (.bool false)])⟩),
(184, ⟨(.struct [(0, 24), (1, 4)]), 2, 32, (.agg #[(.slice none 0 0), (.bool false)])⟩),
(193, ⟨(.ptr 87), 1, 8, (.pointer none)⟩),
(198, ⟨(.arr 24 5), 24, 24, (.agg #[(.int .u8 0), (.int .u8 0), (.int .u8 0), (.int .u8 0), (.int .u8 0), (.int .u8 0), (.int .u8 0), (.int .u8 0), (.int .u8 0), (.int .u8 0), (.int .u8 0), (.int .u8 0), (.int .u8 0), (.int .u8 0), (.int .u8 0), (.int .u8 0), (.int .u8 0), (.int .u8 0), (.int .u8 0), (.int .u8 0), (.int .u8 0), (.int .u8 0), (.int .u8 0), (.int .u8 0)])⟩),
(199, ⟨(.int .u64), 1, 8, (.int .u64 0)⟩),
(207, ⟨(.ptr 209), 1, 8, (.pointer none)⟩),
(208, ⟨(.struct [(0, 9), (1, 3)]), 2, 24, (.agg #[(.string ⟨#[]⟩), (.int .i64 0)])⟩),
(209, ⟨(.struct [(0, 9), (1, 3)]), 2, 24, (.agg #[(.string ⟨#[]⟩), (.int .i64 0)])⟩),
(218, ⟨(.struct [(0, 9), (1, 73), (2, 42)]), 3, 64, (.agg #[(.string ⟨#[]⟩), (.slice none 0 0), (.slice none 0 0)])⟩),
(219, ⟨(.struct [(0, 9), (1, 73), (2, 42)]), 3, 64, (.agg #[(.string ⟨#[]⟩), (.slice none 0 0), (.slice none 0 0)])⟩),
(224, ⟨(.struct [(0, 9), (1, 3)]), 2, 24, (.agg #[(.string ⟨#[]⟩), (.int .i64 0)])⟩),
(226, ⟨(.struct [(0, 9), (1, 3), (2, 117)]), 4, 48, (.agg #[(.string ⟨#[]⟩), (.int .i64 0), (.string ⟨#[]⟩), (.int .i64 0)])⟩),
(227, ⟨(.struct [(0, 9), (1, 3), (2, 117)]), 4, 48, (.agg #[(.string ⟨#[]⟩), (.int .i64 0), (.string ⟨#[]⟩), (.int .i64 0)])⟩),
(232, ⟨(.map 3 3), 1, 8, (.map none)⟩),
(239, ⟨(.int .u64), 1, 8, (.int .u64 0)⟩),
(245, ⟨(.map 9 4), 1, 8, (.map none)⟩),
(247, ⟨(.ptr 3), 1, 8, (.pointer none)⟩),
(251, ⟨(.arr 20 199), 20, 160, (.agg #[(.int .u64 0), (.int .u64 0), (.int .u64 0), (.int .u64 0), (.int .u64 0), (.int .u64 0), (.int .u64 0), (.int .u64 0), (.int .u64 0), (.int .u64 0), (.int .u64 0), (.int .u64 0), (.int .u64 0), (.int .u64 0), (.int .u64 0), (.int .u64 0), (.int .u64 0), (.int .u64 0), (.int .u64 0), (.int .u64 0)])⟩),
(252, ⟨(.int .u32), 1, 4, (.int .u32 0)⟩),
(257, ⟨.iface, 1, 16, .nilIface⟩),
(258, ⟨.iface, 1, 16, .nilIface⟩),
(268, ⟨(.slice 49), 1, 24, (.slice none 0 0)⟩),
(275, ⟨(.ptr 164), 1, 8, (.pointer none)⟩),
(277, ⟨(.slice 280), 1, 24, (.slice none 0 0)⟩),
(279, ⟨(.struct [(0, 3), (1, 9), (2, 3), (3, 3)]), 4, 40, (.agg #[(.int .i64 0), (.string ⟨#[]⟩), (.int .i64 0), (.int .i64 0)])⟩),
(280, ⟨(.struct [(0, 3), (1, 9), (2, 3), (3, 3)]), 4, 40, (.agg #[(.int .i64 0), (.string ⟨#[]⟩), (.int .i64 0), (.int .i64 0)])⟩),
(291, ⟨(.slice 293), 1, 24, (.slice none 0 0)⟩),
(292, ⟨(.struct [(0, 3), (1, 3), (2, 9), (3, 291)]), 4, 56, (.agg #[(.int .i64 0), (.int .i64 0), (.string ⟨#[]⟩), (.slice none 0 0)])⟩),
(293, ⟨(.struct [(0, 3), (1, 3), (2, 9), (3, 291)]), 4, 56, (.agg #[(.int .i64 0), (.int .i64 0), (.string ⟨#[]⟩), (.slice none 0 0)])⟩),
(300, ⟨(.int .i64), 1, 8, (.int .i64 0)⟩),
(301, ⟨(.ptr 319), 1, 8, (.pointer none)⟩),
(304, ⟨(.ptr 306), 1, 8, (.pointer none)⟩),
(305, ⟨(.struct [(0, 49), (1, 29)]), 2, 32, (.agg #[(.slice none 0 0), (.int .i64 0)])⟩),
(306, ⟨(.struct [(0, 49), (1, 29)]), 2, 32, (.agg #[(.slice none 0 0), (.int .i64 0)])⟩),
(312, ⟨(.struct [(0, 5), (1, 5)]), 2, 2, (.agg #[(.int .u8 0), (.int .u8 0)])⟩),
(313, ⟨(.struct [(0, 5), (1, 5)]), 2, 2, (.agg #[(.int .u8 0), (.int .u8 0)])⟩),
(314, ⟨(.arr 16 313), 32, 32, (.agg #[(.int .u8 0), (.int .u8 0), (.int .u8 0), (.int .u8 0), (.int .u8 0), (.int .u8 0), (.int .u8 0), (.int .u8 0), (.int .u8 0), (.int .u8 0), (.int .u8 0), (.int .u8 0), (.int .u8 0), (.int .u8 0), (.int .u8 0), (.int .u8 0), (.int .u8 0), (.int .u8 0), (.int .u8 0), (.int .u8 0), (.int .u8 0), (.int .u8 0), (.int .u8 0), (.int .u8 0), (.int .u8 0), (.int .u8 0), (.int .u8 0), (.int .u8 0), (.int .u8 0), (.int .u8 0), (.int .u8 0), (.int .u8 0)])⟩),
(318, ⟨(.struct [(0, 9), (1, 9), (2, 258)]), 3, 48, (.agg #[(.string ⟨#[]⟩), (.string ⟨#[]⟩), .nilIface])⟩),
(319, ⟨(.struct [(0, 9), (1, 9), (2, 258)]), 3, 48, (.agg #[(.string ⟨#[]⟩), (.string ⟨#[]⟩), .nilIface])⟩),
(321, ⟨(.slice 326), 1, 24, (.slice none 0 0)⟩),
(325, ⟨(.struct [(0, 73), (1, 69)]), 2, 48, (.agg #[(.slice none 0 0), (.slice none 0 0)])⟩),
(326, ⟨(.struct [(0, 73), (1, 69)]), 2, 48, (.agg #[(.slice none 0 0), (.slice none 0 0)])⟩),
(328, ⟨(.ptr 5), 1, 8, (.pointer none)⟩),
(329, ⟨(.ptr 331), 1, 8, (.pointer none)⟩),
(330, ⟨(.struct [(0, 9)]), 1, 16, (.agg #[(.string ⟨#[]⟩)])⟩),
(331, ⟨(.struct [(0, 9)]), 1, 16, (.agg #[(.string ⟨#[]⟩)])⟩)]
theorem zj : zU Tryz.prog tab := zU.of (by kernel_rfl) (by kernel_rfl)
theorem mixed : Tryz.prog.follows .mixedOrders = true := by kernel_rfl
theorem zf {n : Nat} {E : xj} (c : Code) {Q : Ex → List (Nat × D) → List Ob → Prop} {σ : List (Nat × D)} {L : List Ob} (h : vcK Tryz.prog tab n E c Q σ L) : AWP Tryz.prog n E c Q σ L := zaJ zj mixed c h
abbrev vd : Nat := 6
abbrev zjk : Nat := 12
abbrev zih : Nat := 13
abbrev znO : Nat := 19
abbrev zkL : Nat := 24
abbrev zlZ : Nat := 25
abbrev zq2 : Nat := 28
abbrev zq3 : Nat := 29
abbrev zl0 : Nat := 31
abbrev zjl : Nat := 32
abbrev zaW : Nat := 37
abbrev zaX : Nat := 38
abbrev zez : Nat := 39
abbrev zfj : Nat := 40
abbrev zb3 : Nat := 43
abbrev zl1 : Nat := 48
abbrev znP : Nat := 52
abbrev zq4 : Nat := 53
abbrev zpC : Nat := 54
abbrev znQ : Nat := 55
abbrev zii : Nat := 57
abbrev zkM : Nat := 58
abbrev zeA : Nat := 59
abbrev jY : Nat := 62
abbrev vL : Nat := 63
abbrev zb4 : Nat := 64
abbrev zaY : Nat := 65
abbrev jZ : Nat := 66
abbrev j0 : Nat := 67
abbrev kC : Nat := 68
abbrev j5 : Nat := 69
abbrev w2 : Nat := 70
abbrev zpD : Nat := 71
abbrev zaZ : Nat := 72
abbrev za0 : Nat := 73
abbrev zsZ : Nat := 74
abbrev za1 : Nat := 75
abbrev q8 : Nat := 76
abbrev jK : Nat := 77
abbrev za2 : Nat := 78
abbrev za3 : Nat := 79
abbrev znR : Nat := 85
abbrev zl2 : Nat := 90
abbrev zl3 : Nat := 91
abbrev znS : Nat := 92
abbrev zq5 : Nat := 93
abbrev kM : Nat := 94
abbrev znT : Nat := 95
abbrev znU : Nat := 96
abbrev znV : Nat := 97
abbrev zpE : Nat := 98
abbrev jL : Nat := 99
abbrev zfk : Nat := 104
abbrev zkN : Nat := 105
abbrev zgo : Nat := 106
abbrev zij : Nat := 107
abbrev zkO : Nat := 108
abbrev zik : Nat := 109
abbrev zl4 : Nat := 110
abbrev zdZ : Nat := 111
abbrev zfl : Nat := 112
abbrev zl5 : Nat := 114
abbrev zfm : Nat := 117
abbrev zpF : Nat := 119
abbrev zgF : Nat := 120
abbrev zjm : Nat := 121
abbrev qK : Nat := 122
abbrev jt : Nat := 123
abbrev qL : Nat := 124
abbrev ju : Nat := 125
abbrev zb5 : Nat := 126
abbrev zbq : Nat := 127
abbrev qd : Nat := 128
abbrev zl6 : Nat := 129
abbrev zil : Nat := 130
abbrev znW : Nat := 131
abbrev za4 : Nat := 132
abbrev wZ : Nat := 133
abbrev vV : Nat := 134
abbrev zpG : Nat := 135
abbrev znX : Nat := 136
abbrev zl7 : Nat := 137
abbrev zq6 : Nat := 140
abbrev zl8 : Nat := 144
abbrev zbi : Nat := 145
abbrev zs0 : Nat := 146
abbrev zl9 : Nat := 147
abbrev zpH : Nat := 148
abbrev zq7 : Nat := 149
abbrev zs1 : Nat := 150
abbrev zim : Nat := 157
abbrev zin : Nat := 158
abbrev zbj : Nat := 159
abbrev zc4 : Nat := 160
abbrev zeB : Nat := 161
abbrev zfn : Nat := 162
abbrev zeC : Nat := 163
abbrev zaf : Nat := 172
abbrev zjn : Nat := 173
abbrev w0 : Nat := 174
abbrev za5 : Nat := 175
abbrev kD : Nat := 176
abbrev zpI : Nat := 177
abbrev zpJ : Nat := 178
abbrev zpK : Nat := 181
abbrev zag : Nat := 187
abbrev zah : Nat := 188
abbrev zgp : Nat := 189
abbrev jb : Nat := 190
abbrev zma : Nat := 192
abbrev znY : Nat := 193
abbrev zcm : Nat := 194
abbrev zb6 : Nat := 200
abbrev zdr : Nat := 202
abbrev zd0 : Nat := 203
abbrev zhf : Nat := 206
abbrev zbk : Nat := 207
abbrev zpL : Nat := 208
abbrev zkP : Nat := 214
abbrev zgq : Nat := 215
abbrev zfo : Nat := 216
abbrev zkQ : Nat := 217
abbrev zfp : Nat := 218
end Go.Proofs.YthmdddenbfbefaaGreatDoor
namespace Go.Proofs.YthmdddenbfbefaaGreatDoor
open Go Go.Plat
set_option linter.unusedVariables false
set_option linter.unusedSimpArgs false
set_option maxRecDepth 100000
set_option maxHeartbeats 2000000
attribute [local irreducible] AWP zy ye zF zn yt z6 zE zW zY zp za zN yu zo zZ yp yq yj yl zt zu zw
def zG (c : UInt8) : Bool := decide (97 ≤ c.toNat ∧ c.toNat ≤ 122 ∨ 65 ≤ c.toNat ∧ c.toNat ≤ 90 ∨ c.toNat = 95 ∨ c.toNat = 46)
def yo (c : UInt8) : Bool := decide (48 ≤ c.toNat ∧ c.toNat ≤ 57)
def yk (c : UInt8) : Int := if zG c = true then 97 else if yo c = true then 48 else if c.toNat = 32 ∨ c.toNat = 9 ∨ c.toNat = 13 then 32 else 0
theorem q9 : za Tryz.prog zkO (zA (fun _ : UInt8 => True) (fun c => [zH c]) fun c => .bool (zG c)) := by
 refine zg zj Tryz.func108 rfl (by decide) fun c _ => ?_
 refine ⟨Nat.le_refl _, by simp [Tryz.f108], fun E hE => ?_⟩
 refine zf _ ?_
 (all_goals refine qgo ?_ <;> (repeat' first | exact trivial | intro hc | refine And.intro ?_ ?_) <;> refine Lf.mk ?_)
 all_goals first
  | (refine zb (VS.mk (LeD.tt ?_)); unfold zG; rw [decide_eq_true_eq]; omega)
  | (refine zb (VS.mk (LeD.ff ?_)); unfold zG; rw [decide_eq_false_iff_not]; omega)
  | (refine zb (VS.mk (LeD.of_eq (congrArg D.bool ?_))); unfold zG; rw [Bool.eq_iff_iff]; simp only [beq_iff_eq, decide_eq_true_eq]; omega)
theorem zat : za Tryz.prog zl4 (zA (fun _ : UInt8 => True) (fun c => [zH c]) fun c => .bool (yo c)) := by
 refine zg zj Tryz.func110 rfl (by decide) fun c _ => ?_
 refine ⟨Nat.le_refl _, by simp [Tryz.f110], fun E hE => ?_⟩
 refine zf _ ?_
 (all_goals refine qgo ?_ <;> (repeat' first | exact trivial | intro hc | refine And.intro ?_ ?_) <;> refine Lf.mk ?_)
 all_goals first
  | (refine zb (VS.mk (LeD.tt ?_)); unfold yo; rw [decide_eq_true_eq]; omega)
  | (refine zb (VS.mk (LeD.ff ?_)); unfold yo; rw [decide_eq_false_iff_not]; omega)
  | (refine zb (VS.mk (LeD.of_eq (congrArg D.bool ?_))); unfold yo; rw [Bool.eq_iff_iff]; simp only [beq_iff_eq, decide_eq_true_eq]; omega)
def yH (s : List UInt8) : Bool := decide (1 ≤ s.length ∧ s.length ≤ 10) && zG (s.getD 0 0) && s.all fun c => (zG c || yo c) && !(c == 46)
def okC (c : UInt8) : Bool := (zG c || yo c) && !(c == 46)
attribute [local irreducible] zG yo yk
theorem zs2 {p : UInt8 → Bool} {s : List UInt8} {k : Nat} (hk : k < s.length) : (s.take (k + 1)).all p = ((s.take k).all p && p (s.getD k 0)) := by
 rw [List.take_succ_eq_append_getElem hk, List.all_append]
 simp [List.getD_eq_getElem?_getD, List.getElem?_eq_getElem hk]
theorem zmb {p : UInt8 → Bool} {s : List UInt8} {k : Nat} (hk : k < s.length) (h : p (s.getD k 0) = false) : s.all p = false := by
 rw [← List.take_append_drop k s, List.all_append, List.drop_eq_getElem_cons hk]
 have : s.getD k 0 = s[k] := by simp [List.getD_eq_getElem?_getD, List.getElem?_eq_getElem hk]
 rw [this] at h
 rw [List.all_cons, h, Bool.false_and, Bool.and_false]
theorem zmc : za Tryz.prog zgF (zA (fun _ : List UInt8 => True) (fun s => [.str s]) fun s => .bool (yH s)) := by
 refine zg zj Tryz.func120 rfl (by decide) fun s _ => ?_
 refine ⟨Nat.le_refl _, by simp [Tryz.f120], fun E hE => ?_⟩
 refine zf _ ?_
 (all_goals refine qgo ?_ <;> (repeat' first | exact trivial | intro hc | refine And.intro ?_ ?_) <;> refine Lf.mk ?_)
 ·refine zb (VS.mk (LeD.ff ?_))
  unfold yH
  rw [decide_eq_false (by omega)]
  rfl
 ·refine zb (VS.mk (LeD.ff ?_))
  unfold yH
  rw [decide_eq_false (by omega)]
  rfl
 ·refine zb (VS.mk (LeD.ff ?_))
  have e : okC (s.getD 0 0) = false := by
   have : s.getD 0 0 = 46 := UInt8.toNat_inj.1 (by exact_mod_cast hc)
   rw [this]
   unfold okC
   rw [Bool.and_eq_false_iff]
   exact .inr rfl
  have h2 : s.all okC = false := zmb (k := 0) (by omega) e
  show (_ && _ && s.all okC) = false
  rw [h2, Bool.and_false]
 refine ze q9 (s.getD 0 0) trivial (VS.mk (LeL.of_eq rfl)) ?_
 (all_goals refine qgo ?_ <;> (repeat' first | exact trivial | intro hc | refine And.intro ?_ ?_) <;> refine Lf.mk ?_)
 ·refine zb (VS.mk (LeD.ff ?_))
  show (_ && zG (s.getD 0 0) && _) = false
  rw [hc, Bool.and_false, Bool.false_and]
 have hl0 : zG (s.getD 0 0) = true := by assumption
 refine z8 (α := Nat) (fun k => k ≤ s.length ∧ (s.take k).all okC = true) (fun k => [(0, .str s), (24, .int .i64 s.length), (25, .int .i64 k)]) (fun _ => []) (fun k => s.length - k) (fun _ => by simp [hE]) 0 ⟨Nat.zero_le _, by simp⟩ ?_ ?_
 ·(repeat' (first | (refine VS.mk ?_) | exact trivial | exact rfl | refine And.intro ?_ ?_))
 rintro k ⟨hk, hall⟩
 refine zf _ ?_
 (all_goals refine qgo ?_ <;> (repeat' first | exact trivial | intro hc | refine And.intro ?_ ?_) <;> refine Lf.mk ?_)
 ·have hidx : ((k : Int)).toNat = k := Int.toNat_natCast k
  have hk' : k < s.length := by omega
  have hst := zs2 (p := okC) hk'
  have hsp := zmb (p := okC) hk'
  have hok : okC (s.getD k 0) = ((zG (s.getD k 0) || yo (s.getD k 0)) && !(s.getD k 0 == 46)) := rfl
  have h46 : (((s.getD k 0).toNat : Nat) : Int) = 46 → okC (s.getD k 0) = false := fun h => by
   have : s.getD k 0 = 46 := UInt8.toNat_inj.1 (by exact_mod_cast h)
   rw [hok, this]
   rw [Bool.and_eq_false_iff]
   exact .inr rfl
  have n46 : ¬ (((s.getD k 0).toNat : Nat) : Int) = 46 → (s.getD k 0 == 46) = false := fun h => beq_eq_false_iff_ne.2 fun e => h (by rw [e]; rfl)
  have bad : okC (s.getD k 0) = false → yH s = false := fun h => by
   show (_ && zG (s.getD 0 0) && s.all okC) = false
   rw [hsp h, Bool.and_false]
  refine ze q9 (s.getD k 0) trivial (VS.mk (LeL.of_eq (by rw [hidx]; rfl))) ?_
  (all_goals refine qgo ?_ <;> (repeat' first | exact trivial | intro hc | refine And.intro ?_ ?_) <;> refine Lf.mk ?_)
  ·refine ze zat (s.getD k 0) trivial (VS.mk (LeL.of_eq (by rw [hidx]; rfl))) ?_
   (all_goals refine qgo ?_ <;> (repeat' first | exact trivial | intro hc | refine And.intro ?_ ?_) <;> refine Lf.mk ?_)
   ·refine zb (VS.mk (LeD.ff (bad ?_)))
    rw [hok, (by assumption : zG (s.getD k 0) = false), (by assumption : yo (s.getD k 0) = false)]
    rfl
   ·rw [hidx] at hc
    exact zb (VS.mk (LeD.ff (bad (h46 hc))))
   ·rw [hidx] at hc
    refine zC (k + 1) ⟨by omega, ?_⟩ (by omega) ?_
    rotate_left
    ·rw [hst, hall, hok, (by assumption : yo (s.getD k 0) = true), n46 hc, Bool.or_true]
     rfl
    ·(repeat' (first | (refine VS.mk ?_) | exact trivial | exact rfl | refine And.intro ?_ ?_))
  ·rw [hidx] at hc
   exact zb (VS.mk (LeD.ff (bad (h46 hc))))
  ·rw [hidx] at hc
   refine zC (k + 1) ⟨by omega, ?_⟩ (by omega) ?_
   rotate_left
   ·rw [hst, hall, hok, (by assumption : zG (s.getD k 0) = true), n46 hc]
    rfl
   ·(repeat' (first | (refine VS.mk ?_) | exact trivial | exact rfl | refine And.intro ?_ ?_))
 ·refine zb (VS.mk (LeD.tt ?_))
  rw [List.take_of_length_le (by omega)] at hall
  show (_ && zG (s.getD 0 0) && s.all okC) = true
  rw [hl0, hall, decide_eq_true (by omega)]
  rfl
theorem zq8 {P : Program} {f : Nat} {α : Type} {I J : α → Prop} {A : α → List D} {R : α → D} (h : za P f (zA I A R)) (hJ : ∀ p, J p → I p) : za P f (zA J A R) :=
 by
 unfold za at h ⊢
 exact ⟨h.1, fun av L d M ⟨p, hp, hr⟩ => h.2 av L d M ⟨p, hJ p hp, hr⟩⟩
theorem zd1 : za Tryz.prog zgF (zA (fun s : List UInt8 => s.length ≤ 1000000000) (fun s => [.str s]) fun s => .bool (yH s)) := zq8 zmc fun _ _ => trivial
attribute [local irreducible] okC
def yD (b : Int) (c : UInt8) : Int :=
 if 48 ≤ c.toNat ∧ c.toNat ≤ 57 then (c.toNat : Int) - 48 else if b = 16 ∧ 97 ≤ c.toNat ∧ c.toNat ≤ 102 then (c.toNat : Int) - 97 + 10
 else if b = 16 ∧ 65 ≤ c.toNat ∧ c.toNat ≤ 70 then (c.toNat : Int) - 65 + 10 else -1
theorem zvX (b : Int) (c : UInt8) : -1 ≤ yD b c ∧ yD b c ≤ 15 := by
 unfold yD
 repeat' split
 all_goals omega
def jM (b : Int) : List UInt8 → Int → Option Int
 | [], n => some n
 | c :: r, n => if yD b c < 0 ∨ 4294967295 < n then none else jM b r (n * b + yD b c)
def zq9 (ds : List UInt8) : Option Int → Int × Bool
 | none => (0, false)
 | some n => (n, decide (n < 4294967296 ∧ ds ≠ []))
def zcH (b : Int) (ds : List UInt8) : Int × Bool := zq9 ds (jM b ds 0)
def xE (w : List UInt8) : Int × Bool := if 2 < w.length ∧ w.take 2 = [48, 120] then zcH 16 (w.drop 2) else zcH 10 w
theorem zcI {α : Type} {l : List α} {k : Nat} {d : α} (h : k < l.length) : l.drop k = l.getD k d :: l.drop (k + 1) := by
 rw [List.drop_eq_getElem_cons h, List.getD_eq_getElem?_getD, List.getElem?_eq_getElem h]; rfl
attribute [local irreducible] yD
theorem zuJ (b : Int) (c : UInt8) : (48 ≤ c.toNat ∧ c.toNat ≤ 57 → yD b c = (c.toNat : Int) - 48) ∧ (b = 16 ∧ 97 ≤ c.toNat ∧ c.toNat ≤ 102 → yD b c = (c.toNat : Int) - 87)
  ∧ (b = 16 ∧ 65 ≤ c.toNat ∧ c.toNat ≤ 70 → yD b c = (c.toNat : Int) - 55) ∧ (¬ (48 ≤ c.toNat ∧ c.toNat ≤ 57) ∧ ¬ (b = 16 ∧ 97 ≤ c.toNat ∧ c.toNat ≤ 102) ∧ ¬ (b = 16 ∧ 65 ≤ c.toNat ∧ c.toNat ≤ 70) → yD b c = -1) := by
 unfold yD
 refine ⟨fun h => by rw [if_pos h], fun h => by rw [if_neg (by omega), if_pos h]; omega, fun h => by rw [if_neg (by omega), if_neg (by omega), if_pos h]; omega, fun h => by rw [if_neg h.1, if_neg h.2.1, if_neg h.2.2]⟩
structure yB where
 kind : Int
 n : Int
 text : List UInt8
def wN (t : yB) : D := .agg [.int .i64 t.kind, .int .i64 t.n, .str t.text]
def xR (c : UInt8) : Bool := decide (yk c = 97) || decide (yk c = 48) || c == 47
def xH (c : UInt8) : Bool := (decide (yk c = 97) && !(c == 46)) || decide (yk c = 48)
def zI (p : UInt8 → Bool) : List UInt8 → Nat
 | [] => 0
 | c :: r => if p c = true then zI p r + 1 else 0
def zds : List UInt8 := [58, 44, 35, 64, 40, 41, 43, 45, 42, 38, 124, 126, 61]
def w3 : Nat → List UInt8 → List yB → Option (List yB)
 | 0, _, out => some out
 | _ + 1, [], out => some out
 | f + 1, c :: r, out =>
  if yk c = 32 then w3 f r out
  else if yk c = 97 then w3 f ((c :: r).drop (zI xR (c :: r))) (out ++ [⟨1, 0, (c :: r).take (zI xR (c :: r))⟩])
  else if yk c = 48 then (if (xE ((c :: r).take (zI xH (c :: r)))).2 = true then
    w3 f ((c :: r).drop (zI xH (c :: r))) (out ++ [⟨2, (xE ((c :: r).take (zI xH (c :: r)))).1, []⟩]) else none)
  else if c = 59 then some out
  else if (c :: r).take 2 = [60, 60] ∨ (c :: r).take 2 = [62, 62] then w3 f (r.drop 1) (out ++ [⟨3, 0, (c :: r).take 2⟩])
  else if zds.contains c = true then w3 f r (out ++ [⟨3, 0, [c]⟩]) else none
def qe (s : List UInt8) : List yB × Int := if 80 < s.length then ([], 4) else match w3 (s.length + 1) s [] with
 | some l => (l, 0)
 | none => ([], 2)
theorem zdt (p : UInt8 → Bool) : ∀ l, zI p l ≤ l.length
 | [] => Nat.le_refl _
 | c :: r => by
  rw [zI]
  have := zdt p r
  split
  ·simp; omega
  ·simp
theorem zox (p : UInt8 → Bool) : ∀ l (k : Nat), k < zI p l → p (l.getD k 0) = true
 | [], k, h => by rw [zI] at h; omega
 | c :: r, k, h => by
  rw [zI] at h
  split at h
  ·cases k with
   | zero => assumption
   | succ k => exact zox p r k (by omega)
  ·omega
theorem zhg (p : UInt8 → Bool) : ∀ l, zI p l < l.length → p (l.getD (zI p l) 0) = false
 | [], h => by simp at h
 | c :: r, h => by
  rw [zI] at h ⊢
  split
  ·rename_i hp
   rw [if_pos hp] at h
   exact zhg p r (by simpa using h)
  ·rename_i hp
   simpa using hp
theorem zoy {p : UInt8 → Bool} {l : List UInt8} {k : Nat} (hk : k ≤ l.length) (h : ∀ j, j < k → p (l.getD j 0) = true) (he : k < l.length → p (l.getD k 0) = false) : k = zI p l := by
 have h1 := zdt p l
 have h2 := zhg p l
 rcases Nat.lt_trichotomy k (zI p l) with hlt | heq | hgt
 ·have := zox p l k hlt
  rw [he (by omega)] at this
  cases this
 ·exact heq
 ·have := h _ hgt
  rw [h2 (by omega)] at this
  cases this
attribute [local irreducible] xE xR xH
theorem zbw {c : UInt8} {r : List UInt8} (h : yk c = 97) : 1 ≤ zI xR (c :: r) := by
 have e : xR c = true := by unfold xR; rw [decide_eq_true h]; rfl
 rw [zI, if_pos e]; omega
theorem zcJ {c : UInt8} {r : List UInt8} (h : yk c = 48) : 1 ≤ zI xH (c :: r) := by
 have e : xH c = true := by unfold xH; rw [decide_eq_true h, Bool.or_true]
 rw [zI, if_pos e]; omega
theorem zd2 : ∀ (f g : Nat) (l : List UInt8) (out : List yB), l.length < f → l.length < g → w3 f l out = w3 g l out
 | 0, _, _, _, h, _ => absurd h (Nat.not_lt_zero _)
 | _ + 1, 0, _, _, _, h => absurd h (Nat.not_lt_zero _)
 | f + 1, g + 1, [], out, _, _ => rfl
 | f + 1, g + 1, c :: r, out, hf, hg => by
  have hf : r.length < f := by simpa using hf
  have hg : r.length < g := by simpa using hg
  have ih := zd2 f g
  have hd : ∀ n, 1 ≤ n → ((c :: r).drop n).length ≤ r.length := fun n hn => by rw [List.length_drop, List.length_cons]; omega
  rw [w3, w3]
  split
  ·exact ih _ _ hf hg
  split
  ·rename_i h
   have := hd _ (zbw (r := r) h)
   exact ih _ _ (by omega) (by omega)
  split
  ·rename_i h
   have := hd _ (zcJ (r := r) h)
   split
   ·exact ih _ _ (by omega) (by omega)
   ·rfl
  split
  ·rfl
  split
  ·have : (r.drop 1).length ≤ r.length := by rw [List.length_drop]; omega
   exact ih _ _ (by omega) (by omega)
  split
  ·exact ih _ _ hf hg
  ·rfl
def xo (l : List UInt8) (out : List yB) : Option (List yB) := w3 (l.length + 1) l out
theorem zhh (out : List yB) : xo [] out = some out := rfl
theorem wq (c : UInt8) (r : List UInt8) (out : List yB) : xo (c :: r) out =
  if yk c = 32 then xo r out
  else if yk c = 97 then xo ((c :: r).drop (zI xR (c :: r))) (out ++ [⟨1, 0, (c :: r).take (zI xR (c :: r))⟩])
  else if yk c = 48 then (if (xE ((c :: r).take (zI xH (c :: r)))).2 = true then
    xo ((c :: r).drop (zI xH (c :: r))) (out ++ [⟨2, (xE ((c :: r).take (zI xH (c :: r)))).1, []⟩]) else none)
  else if c = 59 then some out
  else if (c :: r).take 2 = [60, 60] ∨ (c :: r).take 2 = [62, 62] then xo (r.drop 1) (out ++ [⟨3, 0, (c :: r).take 2⟩])
  else if zds.contains c = true then xo r (out ++ [⟨3, 0, [c]⟩]) else none := by
 have hd : ∀ n, 1 ≤ n → ((c :: r).drop n).length ≤ r.length := fun n hn => by rw [List.length_drop, List.length_cons]; omega
 unfold xo
 rw [List.length_cons, w3]
 split
 ·rfl
 split
 ·rename_i h
  have := hd _ (zbw (r := r) h)
  exact zd2 _ _ _ _ (by omega) (by omega)
 split
 ·rename_i h
  have := hd _ (zcJ (r := r) h)
  split
  ·exact zd2 _ _ _ _ (by omega) (by omega)
  ·rfl
 split
 ·rfl
 split
 ·have : (r.drop 1).length ≤ r.length := by rw [List.length_drop]; omega
  exact zd2 _ _ _ _ (by omega) (by omega)
 ·rfl
def zra : Option (List yB) → List yB × Int
 | some l => (l, 0)
 | none => ([], 2)
theorem zoz (s : List UInt8) : qe s = if 80 < s.length then ([], 4) else zra (xo s []) := by
 unfold qe xo zra; rfl
def zwS (p : List yB × Int) : D := .tup [.sl 3 (p.1.map wN) none, .int .i64 p.2]
attribute [local irreducible] w3 xo zI
theorem zuK {c : UInt8} (h : (yk c = 97 ∧ ¬ ((c.toNat : Nat) : Int) = 46) ∨ yk c = 48) : xH c = true := by
 unfold xH
 rcases h with ⟨h, h3⟩ | h
 ·rw [decide_eq_true h, beq_eq_false_iff_ne.2 fun e => h3 (by rw [e]; rfl)]; rfl
 ·rw [decide_eq_true h, Bool.or_true]
end Go.Proofs.YthmdddenbfbefaaGreatDoor
namespace Go.Plat
open Go Go.Sort
set_option linter.unusedVariables false
set_option linter.unusedSimpArgs false
theorem Ext.growL (w : World) : ∀ (l : List Obj), Ext F0 w (Sort.grow w l.toArray)
 | [] => by rw [show (([] : List Obj).toArray) = #[] from rfl, grow_empty]; exact .refl _ _
 | o :: l => by
  have e : Sort.grow w (o :: l).toArray = Sort.grow (w.alloc o) l.toArray := by
   rw [alloc_eq_grow, grow_grow]
   congr 1
   simp
  rw [e]
  exact (Ext.alloc w o).trans0 (Ext.growL _ l)
theorem Ext.growD (w : World) (k : Nat) (os : Array Obj) : Ext F0 w (Sort.grow (w.drewN k) os) := by
 have h1 : Ext F0 w (w.drewN k) := ⟨rfl, rfl, rfl, Nat.le_refl _, fun _ _ _ => rfl, fun _ _ _ _ => rfl, fun _ _ _ _ _ h => h⟩
 have h2 := Ext.growL (w.drewN k) os.toList
 simp only [Array.toArray_toList] at h2
 exact h1.trans0 h2
theorem Ext.below {w w' : World} (h : Go.RowKit.Below w.heap.size w w') : Ext F0 w w' :=
 ⟨h.os, h.tape, h.output, h.size, fun b hb _ => h.block b hb, fun b off hb _ => by simp only [World.cell?, h.block b hb], fun b off v _ hv hs => by
   have hb := h.block b (zbM hv)
   unfold xO World.frozen? zk1 at hs ⊢
   rw [hb]
   exact hs⟩
theorem GOk.tab {w : World} {F : Nat → Nat → Prop} (h : GOk w F) {P : Program} {name : String} {g : Nat} {ns : List Nat} {k : IntKind} {zs : List Int}
  (hn : P.globalNamed name = some g) (hg : zdy zfS g = some (ns.map fun n => D.int k (n : Nat))) (hz : zs = ns.map fun n => ((n : Nat) : Int)) (h2 : ns ≠ []) : Lib.TabIs P w name k zs := by
 obtain ⟨h1, _, ⟨row, t, z, h3, h4⟩, _⟩ := h g _ hg
 have hs : row.size = ns.length := by
  rcases h4 with h4 | h4
  ·rw [h4, List.length_map]
  ·match ns, h2 with
   | n :: r, _ => cases h4
 unfold Lib.TabIs World.var?
 rw [hn]
 show (match w.heap[g]? with
  | some (.cells cs _ _) => some cs
  | _ => none) = _
 rw [h3]
 dsimp only
 congr 1
 apply Array.ext_getElem?
 intro j
 subst hz
 by_cases hj : j < ns.length
 ·have hc : (ns.map fun n => D.int k (n : Nat))[j]? = some (.int k (ns[j] : Nat)) := by rw [List.getElem?_map, List.getElem?_eq_getElem hj]; rfl
  obtain ⟨b, off, e, hv⟩ := (Rep.pure (ρ := ⟨fun _ => ⟨0, 0, 0⟩, fun _ _ => False⟩) (L := []) _ _ h1).ptr_inv
  cases e
  obtain ⟨u, h5, _, h6⟩ := hv j _ hc
  cases h6
  rw [Nat.zero_add] at h5
  simp only [World.cell?, h3] at h5
  have h5 : row[j]? = _ := h5
  rw [h5]
  simp [hj]
 ·rw [Array.getElem?_eq_none (by omega)]
  simp [Nat.le_of_not_lt hj]
theorem zbR.le {w : World} {F : Nat → Nat → Prop} {ρ : Pl} {L : List Ob} {ds ds' : List D} {vs : List Value} (has : LeL ds ds') (hr : zbR w F ρ L ds vs) : zbR w F ρ L ds' vs := by
 refine ⟨hr.1.trans has.1, fun i d v h1 h2 => ?_⟩
 have hlt : i < ds.length := by rw [has.1]; exact (List.getElem?_eq_some_iff.1 h1).1
 exact has.2 i _ d (List.getElem?_eq_getElem hlt) h1 _ _ _ _ _ (hr.2 i _ v (List.getElem?_eq_getElem hlt) h2)
theorem jv {P : Program} {f : Nat} {α : Type} {I : α → Prop} {A : α → List D} {R : α → D} (hc : zab P f)
  (h : ∀ p, I p → ∀ (w : World) (F : Nat → Nat → Prop), GOk w F → ∀ vs : List Value, vs.length = (A p).length → (∀ (i : Nat) d v, (A p)[i]? = some d → vs[i]? = some v → zB w F d v) →
    Calls P f vs.toArray w fun e w' => ∃ v, e = .returned v ∧ Ext F0 w w' ∧ zB w' F (R p) v) : za P f (zA I A R) := by
 refine ⟨hc, ?_⟩
 rintro av L d L' ⟨p, hI, has, rfl, rfl, rfl⟩ w ρ vs hf hr
 have hr := hr.le has
 refine (h p hI w _ hf.glob vs hr.1 fun i d v h1 h2 => zi4 (hr.2 i d v h1 h2)).mono ?_
 rintro e w' ⟨v, rfl, he, hv⟩
 exact ⟨v, ρ, rfl, hf.grow he, .pure _ _ hv, he.grow, .refl _ _, .refl _ _⟩
end Go.Plat
namespace Go.Proofs
open Go.Shelf
def Tryz.laysM171_ren : Go.Shelf.Ren := ⟨fun | 171 => 12 | 243 => 30 | 246 => 56 | 283 => 100 | 284 => 101 | 285 => 102 | 286 => 103 | 129 => 152 | 317 => 151 | 318 => 153 | 319 => 154 | 320 => 155 | 337 => 182 | 338 => 183 | n => n, fun | 3 => 3 | 9 => 9 | 2 => 2 | 4 => 4 | 171 => 198 | 0 => 0 | 53 => 199 | 37 => 24 | 5 => 5 | 173 => 202 | 212 => 251 | 51 => 252 | 20 => 20 | 213 => 253 | 46 => 239 | 232 => 298 | 233 => 299 | n => n, fun | 17 => 0 | 18 => 1 | 19 => 2 | n => n⟩
theorem Tryz.laysM171 : Go.Proofs.LaysM.n171 Tryz.prog Tryz.laysM171_ren := {
 mixed := by kernel_rfl
 f129 := Tryz.func152.trans (congrArg some (by kernel_rfl))
 f171 := Tryz.func12.trans (congrArg some (by kernel_rfl))
 f243 := Tryz.func30.trans (congrArg some (by kernel_rfl))
 f246 := Tryz.func56.trans (congrArg some (by kernel_rfl))
 f283 := Tryz.func100.trans (congrArg some (by kernel_rfl))
 f284 := Tryz.func101.trans (congrArg some (by kernel_rfl))
 f285 := Tryz.func102.trans (congrArg some (by kernel_rfl))
 f286 := Tryz.func103.trans (congrArg some (by kernel_rfl))
 f317 := Tryz.func151.trans (congrArg some (by kernel_rfl))
 f318 := Tryz.func153.trans (congrArg some (by kernel_rfl))
 f319 := Tryz.func154.trans (congrArg some (by kernel_rfl))
 f320 := Tryz.func155.trans (congrArg some (by kernel_rfl))
 f337 := Tryz.func182.trans (congrArg some (by kernel_rfl))
 f338 := Tryz.func183.trans (congrArg some (by kernel_rfl))
 t0 := Tryz.underlying0
 a0 := Tryz.isAgg0
 z0 := Tryz.sizeOf0
 v0 := Tryz.zeroValue0
 t2 := Tryz.underlying2
 a2 := Tryz.isAgg2
 z2 := Tryz.sizeOf2
 v2 := Tryz.zeroValue2
 t3 := Tryz.underlying3
 a3 := Tryz.isAgg3
 z3 := Tryz.sizeOf3
 v3 := Tryz.zeroValue3
 t4 := Tryz.underlying4
 a4 := Tryz.isAgg4
 z4 := Tryz.sizeOf4
 v4 := Tryz.zeroValue4
 t5 := Tryz.underlying5
 a5 := Tryz.isAgg5
 z5 := Tryz.sizeOf5
 v5 := Tryz.zeroValue5
 t9 := Tryz.underlying9
 a9 := Tryz.isAgg9
 z9 := Tryz.sizeOf9
 v9 := Tryz.zeroValue9
 t20 := Tryz.underlying20
 a20 := Tryz.isAgg20
 z20 := Tryz.sizeOf20
 v20 := Tryz.zeroValue20
 t37 := Tryz.underlying24
 a37 := Tryz.isAgg24
 z37 := Tryz.sizeOf24
 v37 := Tryz.zeroValue24
 t46 := Tryz.underlying239
 a46 := Tryz.isAgg239
 z46 := Tryz.sizeOf239
 v46 := Tryz.zeroValue239
 t51 := Tryz.underlying252
 a51 := Tryz.isAgg252
 z51 := Tryz.sizeOf252
 v51 := Tryz.zeroValue252
 t53 := Tryz.underlying199
 a53 := Tryz.isAgg199
 z53 := Tryz.sizeOf199
 v53 := Tryz.zeroValue199
 t171 := Tryz.underlying198
 a171 := Tryz.isAgg198
 z171 := Tryz.sizeOf198
 v171 := Tryz.zeroValue198
 t173 := Tryz.underlying202
 a173 := Tryz.isAgg202
 z173 := Tryz.sizeOf202
 v173 := Tryz.zeroValue202
 t212 := Tryz.underlying251
 a212 := Tryz.isAgg251
 z212 := Tryz.sizeOf251
 v212 := Tryz.zeroValue251
 t213 := Tryz.underlying253
 a213 := Tryz.isAgg253
 z213 := Tryz.sizeOf253
 t232 := Tryz.underlying298
 a232 := Tryz.isAgg298
 z232 := Tryz.sizeOf298
 v232 := Tryz.zeroValue298
 t233 := Tryz.underlying299
 a233 := Tryz.isAgg299
 z233 := Tryz.sizeOf299
 v233 := Tryz.zeroValue299
 g17 := by kernel_rfl
 g18 := by kernel_rfl
 g19 := by kernel_rfl
 i0 := by kernel_rfl
 i2 := by kernel_rfl
 i3 := by kernel_rfl
 i4 := by kernel_rfl
 i5 := by kernel_rfl
 i9 := by kernel_rfl
 i20 := by kernel_rfl
 i37 := by kernel_rfl
 i46 := by kernel_rfl
 i51 := by kernel_rfl
 i53 := by kernel_rfl
 i171 := by kernel_rfl
 i173 := by kernel_rfl
 i212 := by kernel_rfl
 i232 := by kernel_rfl
 i233 := by kernel_rfl
 m17 := by kernel_rfl
 m18 := by kernel_rfl
 m19 := by kernel_rfl }
open Go.RowKit Go.Sort Go.Lib in
theorem Tryz.strconv_Itoa (n : Int) (h0 : -9223372036854775808 ≤ n) (h1 : n ≤ 9223372036854775807) (w : World) (htab : Lib.TabIs Tryz.prog w "internal/strconv.uint64pow10" .u64 Lib.pow10Tab) :
  Calls Tryz.prog 12 #[.int .i64 n] w fun e w' => e = .returned (.string ⟨(Lib.itoa n).toArray⟩) ∧ ∃ k os, w' = grow (w.drewN k) os := Any.strconv_Itoa Tryz.laysM171 n h0 h1 w htab
def Tryz.laysM279_ren : Go.Shelf.Ren := ⟨fun | 279 => 202 | 316 => 212 | n => n, fun | 9 => 9 | 168 => 301 | 75 => 258 | 210 => 319 | 3 => 3 | 4 => 4 | 37 => 24 | 0 => 0 | 127 => 328 | 80 => 333 | 5 => 5 | n => n, fun | 15 => 6 | n => n⟩
theorem Tryz.laysM279 : Go.Proofs.LaysM.n279 Tryz.prog Tryz.laysM279_ren := {
 mixed := by kernel_rfl
 f279 := Tryz.func202.trans (congrArg some (by kernel_rfl))
 f316 := Tryz.func212.trans (congrArg some (by kernel_rfl))
 t0 := Tryz.underlying0
 a0 := Tryz.isAgg0
 z0 := Tryz.sizeOf0
 v0 := Tryz.zeroValue0
 t3 := Tryz.underlying3
 a3 := Tryz.isAgg3
 z3 := Tryz.sizeOf3
 v3 := Tryz.zeroValue3
 t4 := Tryz.underlying4
 a4 := Tryz.isAgg4
 z4 := Tryz.sizeOf4
 v4 := Tryz.zeroValue4
 t9 := Tryz.underlying9
 a9 := Tryz.isAgg9
 z9 := Tryz.sizeOf9
 v9 := Tryz.zeroValue9
 t37 := Tryz.underlying24
 a37 := Tryz.isAgg24
 z37 := Tryz.sizeOf24
 v37 := Tryz.zeroValue24
 t75 := Tryz.underlying258
 a75 := Tryz.isAgg258
 z75 := Tryz.sizeOf258
 v75 := Tryz.zeroValue258
 t127 := Tryz.underlying328
 a127 := Tryz.isAgg328
 z127 := Tryz.sizeOf328
 v127 := Tryz.zeroValue328
 t168 := Tryz.underlying301
 a168 := Tryz.isAgg301
 z168 := Tryz.sizeOf301
 v168 := Tryz.zeroValue301
 t210 := Tryz.underlying319
 a210 := Tryz.isAgg319
 z210 := Tryz.sizeOf319
 v210 := Tryz.zeroValue319
 g15 := by kernel_rfl
 t5 := Tryz.underlying5
 a5 := Tryz.isAgg5
 z5 := Tryz.sizeOf5
 v5 := Tryz.zeroValue5
 t80 := Tryz.underlying333
 a80 := Tryz.isAgg333
 z80 := Tryz.sizeOf333
 v80 := Tryz.zeroValue333
 i0 := by kernel_rfl
 i3 := by kernel_rfl
 i4 := by kernel_rfl
 i5 := by kernel_rfl
 i9 := by kernel_rfl
 i37 := by kernel_rfl
 i75 := by kernel_rfl
 i80 := by kernel_rfl
 i127 := by kernel_rfl
 i168 := by kernel_rfl
 i210 := by kernel_rfl
 m15 := by kernel_rfl }
open Go.RowKit in
theorem Tryz.strconv_syntaxError (fn s : ByteArray) (ev : Value) (w : World) (hlim : s.size ≤ 281474976710656) (hv : w.cell? ⟨6, 0, none⟩ = some ev) (hev : ev = .nilIface ∨ ∃ te pe, ev = .iface te pe) :
  Calls Tryz.prog 202 #[.string fn, .string s] w fun e w' => ∃ N, e = .returned (.pointer (some ⟨N, 0, none⟩)) ∧ w.heap.size ≤ N ∧ w'.heap[N]? = some (.cells #[.string fn, .string s, ev] 319 (0, 0)) ∧ Below w.heap.size w w' := Any.strconv_syntaxError Tryz.laysM279 fn s ev w hlim hv hev
def Tryz.laysM280_ren : Go.Shelf.Ren := ⟨fun | 280 => 203 | 316 => 212 | n => n, fun | 9 => 9 | 168 => 301 | 75 => 258 | 210 => 319 | 3 => 3 | 4 => 4 | 37 => 24 | 0 => 0 | 127 => 328 | 80 => 333 | 5 => 5 | n => n, fun | 16 => 7 | n => n⟩
theorem Tryz.laysM280 : Go.Proofs.LaysM.n280 Tryz.prog Tryz.laysM280_ren := {
 mixed := by kernel_rfl
 f280 := Tryz.func203.trans (congrArg some (by kernel_rfl))
 f316 := Tryz.func212.trans (congrArg some (by kernel_rfl))
 t0 := Tryz.underlying0
 a0 := Tryz.isAgg0
 z0 := Tryz.sizeOf0
 v0 := Tryz.zeroValue0
 t3 := Tryz.underlying3
 a3 := Tryz.isAgg3
 z3 := Tryz.sizeOf3
 v3 := Tryz.zeroValue3
 t4 := Tryz.underlying4
 a4 := Tryz.isAgg4
 z4 := Tryz.sizeOf4
 v4 := Tryz.zeroValue4
 t9 := Tryz.underlying9
 a9 := Tryz.isAgg9
 z9 := Tryz.sizeOf9
 v9 := Tryz.zeroValue9
 t37 := Tryz.underlying24
 a37 := Tryz.isAgg24
 z37 := Tryz.sizeOf24
 v37 := Tryz.zeroValue24
 t75 := Tryz.underlying258
 a75 := Tryz.isAgg258
 z75 := Tryz.sizeOf258
 v75 := Tryz.zeroValue258
 t127 := Tryz.underlying328
 a127 := Tryz.isAgg328
 z127 := Tryz.sizeOf328
 v127 := Tryz.zeroValue328
 t168 := Tryz.underlying301
 a168 := Tryz.isAgg301
 z168 := Tryz.sizeOf301
 v168 := Tryz.zeroValue301
 t210 := Tryz.underlying319
 a210 := Tryz.isAgg319
 z210 := Tryz.sizeOf319
 v210 := Tryz.zeroValue319
 g16 := by kernel_rfl
 t5 := Tryz.underlying5
 a5 := Tryz.isAgg5
 z5 := Tryz.sizeOf5
 v5 := Tryz.zeroValue5
 t80 := Tryz.underlying333
 a80 := Tryz.isAgg333
 z80 := Tryz.sizeOf333
 v80 := Tryz.zeroValue333
 i0 := by kernel_rfl
 i3 := by kernel_rfl
 i4 := by kernel_rfl
 i5 := by kernel_rfl
 i9 := by kernel_rfl
 i37 := by kernel_rfl
 i75 := by kernel_rfl
 i80 := by kernel_rfl
 i127 := by kernel_rfl
 i168 := by kernel_rfl
 i210 := by kernel_rfl
 m16 := by kernel_rfl }
open Go.RowKit in
theorem Tryz.strconv_rangeError (fn s : ByteArray) (ev : Value) (w : World) (hlim : s.size ≤ 281474976710656) (hv : w.cell? ⟨7, 0, none⟩ = some ev) (hev : ev = .nilIface ∨ ∃ te pe, ev = .iface te pe) :
  Calls Tryz.prog 203 #[.string fn, .string s] w fun e w' => ∃ N, e = .returned (.pointer (some ⟨N, 0, none⟩)) ∧ w.heap.size ≤ N ∧ w'.heap[N]? = some (.cells #[.string fn, .string s, ev] 319 (0, 0)) ∧ Below w.heap.size w w' := Any.strconv_rangeError Tryz.laysM280 fn s ev w hlim hv hev
def Tryz.lays219_ren : Go.Shelf.Ren := ⟨fun | 219 => 187 | 217 => 196 | 225 => 197 | 224 => 198 | 267 => 199 | 266 => 210 | 314 => 211 | n => n, fun | 9 => 9 | 3 => 3 | 4 => 4 | 5 => 5 | 46 => 239 | 146 => 315 | 51 => 252 | n => n, fun | 1 => 3 | n => n⟩
theorem Tryz.lays219 : Go.Proofs.Lays.n219 Tryz.prog Tryz.lays219_ren := {
 mixed := by kernel_rfl
 f217 := Tryz.func196.trans (congrArg some (by kernel_rfl))
 f219 := Tryz.func187.trans (congrArg some (by kernel_rfl))
 f224 := Tryz.func198.trans (congrArg some (by kernel_rfl))
 f225 := Tryz.func197.trans (congrArg some (by kernel_rfl))
 f266 := Tryz.func210.trans (congrArg some (by kernel_rfl))
 f267 := Tryz.func199.trans (congrArg some (by kernel_rfl))
 f314 := Tryz.func211.trans (congrArg some (by kernel_rfl))
 t3 := Tryz.underlying3
 a3 := Tryz.isAgg3
 z3 := Tryz.sizeOf3
 v3 := Tryz.zeroValue3
 t4 := Tryz.underlying4
 a4 := Tryz.isAgg4
 z4 := Tryz.sizeOf4
 v4 := Tryz.zeroValue4
 t5 := Tryz.underlying5
 a5 := Tryz.isAgg5
 z5 := Tryz.sizeOf5
 v5 := Tryz.zeroValue5
 t9 := Tryz.underlying9
 a9 := Tryz.isAgg9
 z9 := Tryz.sizeOf9
 v9 := Tryz.zeroValue9
 t46 := Tryz.underlying239
 a46 := Tryz.isAgg239
 z46 := Tryz.sizeOf239
 v46 := Tryz.zeroValue239
 t51 := Tryz.underlying252
 a51 := Tryz.isAgg252
 z51 := Tryz.sizeOf252
 v51 := Tryz.zeroValue252
 t146 := Tryz.underlying315
 a146 := Tryz.isAgg315
 z146 := Tryz.sizeOf315
 v146 := Tryz.zeroValue315
 g1 := by kernel_rfl }
open Go.RowKit Go.Lib in
theorem Tryz.stringslite_Index_one (s : ByteArray) (c : UInt8) (w : World) :
  Calls Tryz.prog 187 #[.string s, .string ⟨#[c]⟩] w fun e w' => e = .returned (.int .i64 (Lib.indexByte s.data.toList c)) ∧ w' = w := Any.stringslite_Index_one Tryz.lays219 s c w
def Tryz.lays144_ren : Go.Shelf.Ren := ⟨fun | 144 => 162 | 143 => 158 | 219 => 187 | 217 => 196 | 225 => 197 | 224 => 198 | 267 => 199 | 266 => 210 | 314 => 211 | n => n, fun | 9 => 9 | 4 => 4 | 3 => 3 | 5 => 5 | 46 => 239 | 146 => 315 | 51 => 252 | n => n, fun | 1 => 3 | n => n⟩
theorem Tryz.lays144 : Go.Proofs.Lays.n144 Tryz.prog Tryz.lays144_ren := {
 mixed := by kernel_rfl
 f143 := Tryz.func158.trans (congrArg some (by kernel_rfl))
 f144 := Tryz.func162.trans (congrArg some (by kernel_rfl))
 f217 := Tryz.func196.trans (congrArg some (by kernel_rfl))
 f219 := Tryz.func187.trans (congrArg some (by kernel_rfl))
 f224 := Tryz.func198.trans (congrArg some (by kernel_rfl))
 f225 := Tryz.func197.trans (congrArg some (by kernel_rfl))
 f266 := Tryz.func210.trans (congrArg some (by kernel_rfl))
 f267 := Tryz.func199.trans (congrArg some (by kernel_rfl))
 f314 := Tryz.func211.trans (congrArg some (by kernel_rfl))
 t3 := Tryz.underlying3
 a3 := Tryz.isAgg3
 z3 := Tryz.sizeOf3
 v3 := Tryz.zeroValue3
 t4 := Tryz.underlying4
 a4 := Tryz.isAgg4
 z4 := Tryz.sizeOf4
 v4 := Tryz.zeroValue4
 t5 := Tryz.underlying5
 a5 := Tryz.isAgg5
 z5 := Tryz.sizeOf5
 v5 := Tryz.zeroValue5
 t9 := Tryz.underlying9
 a9 := Tryz.isAgg9
 z9 := Tryz.sizeOf9
 v9 := Tryz.zeroValue9
 t46 := Tryz.underlying239
 a46 := Tryz.isAgg239
 z46 := Tryz.sizeOf239
 v46 := Tryz.zeroValue239
 t51 := Tryz.underlying252
 a51 := Tryz.isAgg252
 z51 := Tryz.sizeOf252
 v51 := Tryz.zeroValue252
 t146 := Tryz.underlying315
 a146 := Tryz.isAgg315
 z146 := Tryz.sizeOf315
 v146 := Tryz.zeroValue315
 g1 := by kernel_rfl }
open Go.RowKit Go.Lib in
theorem Tryz.strings_Contains_one (s : ByteArray) (c : UInt8) (w : World) :
  Calls Tryz.prog 162 #[.string s, .string ⟨#[c]⟩] w fun e w' => e = .returned (.bool (decide (0 ≤ Lib.indexByte s.data.toList c))) ∧ w' = w := Any.strings_Contains_one Tryz.lays144 s c w
def Tryz.lays138_ren : Go.Shelf.Ren := ⟨fun | 138 => 157 | 195 => 184 | 218 => 186 | 143 => 158 | 219 => 187 | 217 => 196 | 225 => 197 | 224 => 198 | 267 => 199 | 266 => 210 | 314 => 211 | n => n, fun | 9 => 9 | 3 => 3 | 4 => 4 | 5 => 5 | 0 => 0 | 46 => 239 | 146 => 315 | 51 => 252 | n => n, fun | 1 => 3 | n => n⟩
theorem Tryz.lays138 : Go.Proofs.Lays.n138 Tryz.prog Tryz.lays138_ren := {
 mixed := by kernel_rfl
 f138 := Tryz.func157.trans (congrArg some (by kernel_rfl))
 f143 := Tryz.func158.trans (congrArg some (by kernel_rfl))
 f195 := Tryz.func184.trans (congrArg some (by kernel_rfl))
 f217 := Tryz.func196.trans (congrArg some (by kernel_rfl))
 f218 := Tryz.func186.trans (congrArg some (by kernel_rfl))
 f219 := Tryz.func187.trans (congrArg some (by kernel_rfl))
 f224 := Tryz.func198.trans (congrArg some (by kernel_rfl))
 f225 := Tryz.func197.trans (congrArg some (by kernel_rfl))
 f266 := Tryz.func210.trans (congrArg some (by kernel_rfl))
 f267 := Tryz.func199.trans (congrArg some (by kernel_rfl))
 f314 := Tryz.func211.trans (congrArg some (by kernel_rfl))
 t0 := Tryz.underlying0
 a0 := Tryz.isAgg0
 z0 := Tryz.sizeOf0
 v0 := Tryz.zeroValue0
 t3 := Tryz.underlying3
 a3 := Tryz.isAgg3
 z3 := Tryz.sizeOf3
 v3 := Tryz.zeroValue3
 t4 := Tryz.underlying4
 a4 := Tryz.isAgg4
 z4 := Tryz.sizeOf4
 v4 := Tryz.zeroValue4
 t5 := Tryz.underlying5
 a5 := Tryz.isAgg5
 z5 := Tryz.sizeOf5
 v5 := Tryz.zeroValue5
 t9 := Tryz.underlying9
 a9 := Tryz.isAgg9
 z9 := Tryz.sizeOf9
 v9 := Tryz.zeroValue9
 t46 := Tryz.underlying239
 a46 := Tryz.isAgg239
 z46 := Tryz.sizeOf239
 v46 := Tryz.zeroValue239
 t51 := Tryz.underlying252
 a51 := Tryz.isAgg252
 z51 := Tryz.sizeOf252
 v51 := Tryz.zeroValue252
 t146 := Tryz.underlying315
 a146 := Tryz.isAgg315
 z146 := Tryz.sizeOf315
 v146 := Tryz.zeroValue315
 g1 := by kernel_rfl }
open Go.RowKit Go.Lib in
theorem Tryz.strings_Count_one (s : ByteArray) (c : UInt8) (w : World) :
  Calls Tryz.prog 157 #[.string s, .string ⟨#[c]⟩] w fun e w' => e = .returned (.int .i64 (Lib.countByte s.data.toList c)) ∧ w' = w := Any.strings_Count_one Tryz.lays138 s c w
end Go.Proofs
namespace Go.Proofs.YthmdddenbfbefaaGreatDoor
open Go Go.Plat
set_option linter.unusedVariables false
set_option linter.unusedSimpArgs false
set_option maxRecDepth 100000
set_option maxHeartbeats 2000000
attribute [local irreducible] AWP zy ye zF zn yt z6 zE zW zY zp za zN yu zo zZ yp yq yj yl zt zu zw yo yk zG w3 xo xH xE okC zI xR
theorem zcK (c : UInt8) : ∀ s : List UInt8, (Lib.indexByte s c = -1 ∧ s.contains c = false ∧ (s.takeWhile (· != c)) = s) ∨
  (0 ≤ Lib.indexByte s c ∧ s.contains c = true ∧ Lib.indexByte s c = ((s.takeWhile (· != c)).length : Int) ∧ s.drop ((s.takeWhile (· != c)).length + 1) = (s.dropWhile (· != c)).drop 1 ∧ (s.takeWhile (· != c)).length < s.length)
 | [] => .inl ⟨rfl, rfl, rfl⟩
 | b :: l => by
  rw [Lib.indexByte]
  by_cases h : b = c
  ·subst h
   right
   rw [if_pos (by simp)]
   simp
  ·have e : (b == c) = false := beq_eq_false_iff_ne.2 h
   have e1 : (c == b) = false := beq_eq_false_iff_ne.2 fun q => h q.symm
   have e2 : (b != c) = true := by simp [bne, e]
   rw [e, List.contains_cons, e1, Bool.false_or, List.takeWhile_cons, List.dropWhile_cons, e2]
   rw [if_neg (by decide), if_pos rfl, if_pos rfl]
   rcases zcK c l with ⟨h1, h2, h3⟩ | ⟨h1, h2, h3, h4, h5⟩
   ·left
    rw [h1, h3]
    exact ⟨rfl, h2, rfl⟩
   ·right
    have e3 : (Lib.indexByte l c == -1) = false := beq_eq_false_iff_ne.2 (by omega)
    rw [e3, if_neg (by decide)]
    refine ⟨by omega, h2, ?_, ?_, ?_⟩
    ·rw [List.length_cons]; omega
    ·rw [List.length_cons, List.drop_succ_cons, h4]
    ·rw [List.length_cons, List.length_cons]; omega
theorem zrb (c : UInt8) (s : List UInt8) : decide (0 ≤ Lib.indexByte s c) = s.contains c := by
 rcases zcK c s with ⟨h1, h2, _⟩ | ⟨h1, h2, _⟩
 ·rw [h1, h2]; rfl
 ·rw [h2, decide_eq_true h1]
theorem ku : za Tryz.prog zfn (zA (fun _ : List UInt8 × UInt8 => True) (fun (s, c) => [.str s, .str [c]]) fun (s, c) => .bool (s.contains c)) := by
 refine jv ⟨_, Tryz.func162, by decide, rfl⟩ ?_
 rintro ⟨s, c⟩ - w F hg vs hl hv
 match vs, hl with
 | [a, b], _ =>
  cases hv 0 _ a rfl rfl
  cases hv 1 _ b rfl rfl
  refine (Go.Proofs.Tryz.strings_Contains_one ⟨s.toArray⟩ c w).mono ?_
  rintro e w' ⟨rfl, rfl⟩
  refine ⟨_, rfl, .refl _ _, ?_⟩
  show zB w' F (.bool (s.contains c)) _
  rw [← zrb c s]
  exact .bool _
theorem zev : za Tryz.prog zag (zA (fun _ : List UInt8 × UInt8 => True) (fun (s, c) => [.str s, .str [c]]) fun (s, c) => .int .i64 (Lib.indexByte s c)) := by
 refine jv ⟨_, Tryz.func187, by decide, rfl⟩ ?_
 rintro ⟨s, c⟩ - w F hg vs hl hv
 match vs, hl with
 | [a, b], _ =>
  cases hv 0 _ a rfl rfl
  cases hv 1 _ b rfl rfl
  refine (Go.Proofs.Tryz.stringslite_Index_one ⟨s.toArray⟩ c w).mono ?_
  rintro e w' ⟨rfl, rfl⟩
  exact ⟨_, rfl, .refl _ _, .int _ _⟩
theorem zmd : za Tryz.prog zin (zA (fun _ : List UInt8 × UInt8 => True) (fun (s, c) => [.str s, .str [c]]) fun (s, c) => .int .i64 (Lib.indexByte s c)) := by
 refine zg zj Tryz.func158 rfl (by decide) ?_
 rintro ⟨s, c⟩ -
 refine ⟨Nat.le_refl _, by simp [Tryz.f158], fun E hE => ?_⟩
 refine zf _ ?_
 (all_goals refine qgp (Lf.mk ?_))
 refine ze zev (s, c) trivial (VS.mk (LeL.of_eq rfl)) ?_
 (all_goals refine qgp (Lf.mk ?_))
 exact zb (VS.mk (LeD.of_eq rfl))
theorem znZ : za Tryz.prog zim (zA (fun _ : List UInt8 × UInt8 => True) (fun (s, c) => [.str s, .str [c]]) fun (s, c) => .int .i64 ((s.count c : Nat) : Int)) := by
 refine jv ⟨_, Tryz.func157, by decide, rfl⟩ ?_
 rintro ⟨s, c⟩ - w F hg vs hl hv
 match vs, hl with
 | [a, b], _ =>
  cases hv 0 _ a rfl rfl
  cases hv 1 _ b rfl rfl
  refine (Go.Proofs.Tryz.strings_Count_one ⟨s.toArray⟩ c w).mono ?_
  rintro e w' ⟨rfl, rfl⟩
  exact ⟨_, rfl, .refl _ _, .int _ _⟩
def zs3 (c : UInt8) (s : List UInt8) : List UInt8 × List UInt8 × Bool := (s.takeWhile (· != c), (s.dropWhile (· != c)).drop 1, s.contains c)
def zs4 (p : List UInt8 × List UInt8 × Bool) : D := .tup [.str p.1, .str p.2.1, .bool p.2.2]
theorem zme {α : Type} (p : α → Bool) (s : List α) : s.take (s.takeWhile p).length = s.takeWhile p := by
 induction s with
 | nil => rfl
 | cons a l ih =>
  rw [List.takeWhile_cons]
  split
  ·rw [List.length_cons, List.take_succ_cons, ih]
  ·rfl
theorem zdu {c : UInt8} : ∀ {s : List UInt8}, s.contains c = false → s.dropWhile (· != c) = []
 | [], _ => rfl
 | b :: l, h => by
  rw [List.contains_cons, Bool.or_eq_false_iff] at h
  have e : (b != c) = true := by
   rw [bne_iff_ne]
   intro q
   rw [q] at h
   simp at h
  rw [List.dropWhile_cons, e, if_pos rfl]
  exact zdu h.2
attribute [local irreducible] Lib.indexByte
theorem zpM : za Tryz.prog zbj (zA (fun ((s, c) : List UInt8 × UInt8) => s.length ≤ 1000000000) (fun (s, c) => [.str s, .str [c]]) fun (s, c) => zs4 (zs3 c s)) := by
 refine zg zj Tryz.func159 rfl (by decide) ?_
 rintro ⟨s, c⟩ hs
 have hs : s.length ≤ 1000000000 := hs
 refine ⟨Nat.le_refl _, by simp [Tryz.f159], fun E hE => ?_⟩
 have hi := zcK c s
 have hl1 : ([c] : List UInt8).length = 1 := rfl
 have hb : -1 ≤ Lib.indexByte s c ∧ Lib.indexByte s c ≤ s.length ∧ (0 ≤ Lib.indexByte s c → Lib.indexByte s c < s.length) := by omega
 refine zf _ ?_
 (all_goals refine qgp (Lf.mk ?_))
 refine ze zev (s, c) trivial (VS.mk (LeL.of_eq rfl)) ?_
 (all_goals refine qgp ?_ <;> (repeat' first | exact trivial | intro hc | refine And.intro ?_ ?_) <;> refine Lf.mk ?_)
 ·rcases hi with ⟨h1, _⟩ | ⟨h1, h2, h3, h4, h5⟩
  ·omega
  refine zb (VS.mk (.tup (.cons (LeD.of_eq ?_) (.cons (LeD.of_eq ?_) (.cons (LeD.tt h2) .nil)))))
  ·rw [h3, Int.toNat_natCast]
   exact congrArg D.str (zme _ s)
  ·rw [h3]
   exact congrArg D.str (by rw [hl1, Int.toNat_natCast, List.take_length, show (((s.takeWhile (· != c)).length : Int) + ((1 : Nat) : Int)).toNat = (s.takeWhile (· != c)).length + 1 by omega]; exact h4)
 ·rcases hi with ⟨h1, h2, h3⟩ | ⟨h1, h2, h3, h4, h5⟩
  ·refine zb (VS.mk (.tup (.cons (LeD.of_eq ?_) (.cons (LeD.of_eq ?_) (.cons (LeD.ff h2) .nil)))))
   ·exact congrArg D.str h3.symm
   ·exact congrArg D.str (by show [] = (s.dropWhile _).drop 1; rw [zdu h2]; rfl)
  ·omega
theorem zrc : za Tryz.prog zkN (zA (fun ((s, c) : List UInt8 × UInt8) => s.length ≤ 1000000000) (fun (s, c) => [.str s, .str [c]]) fun (s, c) => zs4 (zs3 c s)) := by
 refine zg zj Tryz.func105 rfl (by decide) ?_
 rintro ⟨s, c⟩ hs
 refine ⟨Nat.le_refl _, by simp [Tryz.f105], fun E hE => ?_⟩
 refine zf _ ?_
 (all_goals refine qgp (Lf.mk ?_))
 refine ze zpM (s, c) hs (VS.mk (LeL.of_eq rfl)) ?_
 (all_goals refine qgp (Lf.mk ?_))
 exact zb (VS.mk (LeD.of_eq rfl))
theorem zuL (a b : List UInt8) : (a == b) = decide (a = b) := by
 by_cases h : a = b
 ·rw [decide_eq_true h, h]; exact beq_self_eq_true _
 ·rw [decide_eq_false h, beq_eq_false_iff_ne.2 h]
theorem zkR : za Tryz.prog jb (zA (fun ((s, p) : List UInt8 × List UInt8) => s.length ≤ 1000000000 ∧ p.length ≤ 1000000000) (fun (s, p) => [.str s, .str p]) fun (s, p) => .bool (decide (s.take p.length = p))) := by
 refine zg zj Tryz.func190 rfl (by decide) ?_
 rintro ⟨s, p⟩ ⟨hs, hp⟩
 refine ⟨Nat.le_refl _, by simp [Tryz.f190], fun E hE => ?_⟩
 refine zf _ ?_
 (all_goals refine qgp ?_ <;> (repeat' first | exact trivial | intro hc | refine And.intro ?_ ?_) <;> refine Lf.mk ?_)
 ·exact zb (VS.mk (LeD.of_eq (congrArg D.bool (zuL _ _))))
 ·refine zb (VS.mk (LeD.ff (decide_eq_false fun h => ?_)))
  have := congrArg List.length h
  rw [List.length_take] at this
  omega
theorem zfq : za Tryz.prog zeC (zA (fun ((s, p) : List UInt8 × List UInt8) => s.length ≤ 1000000000 ∧ p.length ≤ 1000000000) (fun (s, p) => [.str s, .str p]) fun (s, p) => .bool (decide (s.take p.length = p))) := by
 refine zg zj Tryz.func163 rfl (by decide) ?_
 rintro ⟨s, p⟩ h
 refine ⟨Nat.le_refl _, by simp [Tryz.f163], fun E hE => ?_⟩
 refine zf _ ?_
 (all_goals refine qgp (Lf.mk ?_))
 refine ze zkR (s, p) h (VS.mk (LeL.of_eq rfl)) ?_
 (all_goals refine qgp (Lf.mk ?_))
 exact zb (VS.mk (LeD.of_eq rfl))
end Go.Proofs.YthmdddenbfbefaaGreatDoor
namespace Go.Proofs.YthmdddenbfbefaaGreatDoor
open Go Go.Plat
set_option linter.unusedVariables false
set_option linter.unusedSimpArgs false
set_option maxRecDepth 100000
set_option maxHeartbeats 2000000
attribute [local irreducible] AWP zy ye zF zn yt z6 zE zW zY zp za zN yu zo zZ yp yq yj yl zt zu zw yD yo yk zG w3 xo xH xE okC zI xR
def puF (b : Int) : List UInt8 → Int → Int × Int
 | [], n => (n, 0)
 | c :: r, n => if yD b c < 0 then (0, 2) else if 4294967295 < n * b + yD b c then (4294967295, 1) else puF b r (n * b + yD b c)
def puR (b : Int) (s : List UInt8) : Int × Int := if s = [] then (0, 2) else puF b s 0
theorem zvY {b : Int} (hb : b = 10 ∨ b = 16) : ∀ (s : List UInt8) (n : Int), 4294967295 < n → ∀ m, jM b s n = some m → 4294967295 < m
 | [], n, h, m, hm => by rw [jM] at hm; cases hm; exact h
 | c :: r, n, h, m, hm => by rw [jM, if_pos (.inr h)] at hm; cases hm
theorem zrd {b : Int} (hb : b = 10 ∨ b = 16) : ∀ (s : List UInt8) (n : Int), 0 ≤ n → n ≤ 4294967295 →
  ((puF b s n).2 = 0 ∧ jM b s n = some (puF b s n).1 ∧ 0 ≤ (puF b s n).1 ∧ (puF b s n).1 ≤ 4294967295) ∨ ((puF b s n).2 ≠ 0 ∧ ∀ m, jM b s n = some m → 4294967295 < m)
 | [], n, h0, h1 => .inl ⟨rfl, rfl, h0, h1⟩
 | c :: r, n, h0, h1 => by
  rw [puF, jM]
  by_cases hd : yD b c < 0
  ·rw [if_pos hd, if_pos (.inl hd)]
   exact .inr ⟨by decide, fun m hm => by cases hm⟩
  ·rw [if_neg hd, if_neg (show ¬ (yD b c < 0 ∨ 4294967295 < n) by omega)]
   have := zvX b c
   by_cases hn : 4294967295 < n * b + yD b c
   ·rw [if_pos hn]
    exact .inr ⟨by decide, zvY hb r _ hn⟩
   ·rw [if_neg hn]
    exact zrd hb r _ (by rcases hb with rfl | rfl <;> omega) (by omega)
theorem zoA {b : Int} (hb : b = 10 ∨ b = 16) (s : List UInt8) : ((puR b s).2 = 0 ∧ zcH b s = ((puR b s).1, true) ∧ 0 ≤ (puR b s).1 ∧ (puR b s).1 ≤ 4294967295) ∨ ((puR b s).2 ≠ 0 ∧ (zcH b s).2 = false) := by
 unfold puR zcH
 by_cases h : s = []
 ·subst h
  right
  rw [if_pos rfl]
  exact ⟨by decide, by simp [jM, zq9]⟩
 rw [if_neg h]
 rcases zrd hb s 0 (by decide) (by decide) with ⟨h1, h2, h3, h4⟩ | ⟨h1, h2⟩
 ·left
  rw [h2]
  refine ⟨h1, ?_, h3, h4⟩
  show ((puF b s 0).1, decide ((puF b s 0).1 < 4294967296 ∧ s ≠ [])) = _
  rw [decide_eq_true ⟨by omega, h⟩]
 ·right
  refine ⟨h1, ?_⟩
  cases hm : jM b s 0 with
  | none => rfl
  | some m =>
   have := h2 m hm
   show decide (m < 4294967296 ∧ s ≠ []) = false
   rw [decide_eq_false (by rintro ⟨q, _⟩; omega)]
theorem zmf (b : Int) : ∀ (s : List UInt8) (n : Int), (puF b s n).2 = 0 ∨ (puF b s n).2 = 1 ∨ (puF b s n).2 = 2
 | [], n => .inl rfl
 | c :: r, n => by
  rw [puF]
  split
  ·exact .inr (.inr rfl)
  split
  ·exact .inr (.inl rfl)
  ·exact zmf b r _
theorem zuM (b : Int) (s : List UInt8) : (puR b s).2 = 0 ∨ (puR b s).2 = 1 ∨ (puR b s).2 = 2 := by
 unfold puR
 split
 ·exact .inr (.inr rfl)
 ·exact zmf b s 0
def w4 (c : UInt8) : UInt8 := c ||| 32
theorem zuN : ∀ k : Fin 256, (97 ≤ (w4 (UInt8.ofNat k.val)).toNat ∧ (w4 (UInt8.ofNat k.val)).toNat ≤ 122 → ¬ (48 ≤ k.val ∧ k.val ≤ 57) ∧ ((w4 (UInt8.ofNat k.val)).toNat ≤ 102 ∧ yD 16 (UInt8.ofNat k.val) = (w4 (UInt8.ofNat k.val)).toNat - 87 ∨ (103 ≤ (w4 (UInt8.ofNat k.val)).toNat ∧ yD 16 (UInt8.ofNat k.val) = -1)) ∧ yD 10 (UInt8.ofNat k.val) = -1) ∧
  (48 ≤ k.val ∧ k.val ≤ 57 → yD 16 (UInt8.ofNat k.val) = k.val - 48 ∧ yD 10 (UInt8.ofNat k.val) = k.val - 48) ∧
  (¬ (97 ≤ (w4 (UInt8.ofNat k.val)).toNat ∧ (w4 (UInt8.ofNat k.val)).toNat ≤ 122) → ¬ (48 ≤ k.val ∧ k.val ≤ 57) → yD 16 (UInt8.ofNat k.val) = -1 ∧ yD 10 (UInt8.ofNat k.val) = -1) := by decide +kernel
theorem zoB (c : UInt8) : (97 ≤ (w4 c).toNat ∧ (w4 c).toNat ≤ 122 → ¬ (48 ≤ c.toNat ∧ c.toNat ≤ 57) ∧ ((w4 c).toNat ≤ 102 ∧ yD 16 c = (w4 c).toNat - 87 ∨ (103 ≤ (w4 c).toNat ∧ yD 16 c = -1)) ∧ yD 10 c = -1) ∧
  (48 ≤ c.toNat ∧ c.toNat ≤ 57 → yD 16 c = c.toNat - 48 ∧ yD 10 c = c.toNat - 48) ∧
  (¬ (97 ≤ (w4 c).toNat ∧ (w4 c).toNat ≤ 122) → ¬ (48 ≤ c.toNat ∧ c.toNat ≤ 57) → yD 16 c = -1 ∧ yD 10 c = -1) := by
 have := zuN ⟨c.toNat, c.toNat_lt⟩
 simp only [UInt8.ofNat_toNat] at this
 exact this
theorem zwT (c : UInt8) : zw .or .u8 (c.toNat : Int) 32 = ((w4 c).toNat : Int) := by
 have : ∀ k : Fin 256, zw .or .u8 ((UInt8.ofNat k.val).toNat : Int) 32 = ((w4 (UInt8.ofNat k.val)).toNat : Int) := by decide +kernel
 have := this ⟨c.toNat, c.toNat_lt⟩
 simp only [UInt8.ofNat_toNat] at this
 exact this
theorem qE : za Tryz.prog zb6 (zA (fun _ : UInt8 => True) (fun c => [zH c]) fun c => zH (w4 c)) := by
 refine zg zj Tryz.func200 rfl (by decide) fun c _ => ?_
 refine ⟨Nat.le_refl _, by simp [Tryz.f200], fun E hE => ?_⟩
 refine zf _ ?_
 (all_goals refine qgp (Lf.mk ?_))
 refine wb (zwT c) ?_
 (all_goals refine qgp (Lf.mk ?_))
 exact zb (VS.mk (LeD.of_eq rfl))
attribute [local irreducible] w4
def puD (p : Int × Int) : D := .tup [.int .u64 p.1, if p.2 = 0 then .nilif else .iface 300 (.int .i64 p.2)]
theorem zio {K : D → Prop} (h : K (.int .u64 4294967296)) : yj .u64 1 32 K := by
 unfold yj
 refine ⟨by decide, ?_⟩
 have e : IntKind.u64.wrap (1 * 2 ^ (min (32 : Int).toNat IntKind.u64.bits)) = 4294967296 := by decide
 rw [e]; exact h
theorem zjo : za Tryz.prog zah (zA (fun ((s, b) : List UInt8 × Int) => s.length ≤ 1000000000 ∧ (b = 10 ∨ b = 16)) (fun (s, b) => [.str s, .int .i64 b, .int .i64 32]) fun (s, b) => puD (puR b s)) := by
 refine zg zj Tryz.func188 rfl (by decide) ?_
 rintro ⟨s, b⟩ ⟨hs, hb⟩
 refine ⟨Nat.le_refl _, by simp [Tryz.f188], fun E hE => ?_⟩
 rcases hb with rfl | rfl
 ·refine zf _ ?_
  have hP : s ≠ [] → puR 10 s = puF 10 (s.drop 0) 0 := fun h => by unfold puR; rw [if_neg h]; rfl
  (all_goals refine qgp ?_ <;> (repeat' first | exact trivial | intro hc | refine And.intro ?_ ?_) <;> refine Lf.mk ?_)
  all_goals first
   | (exfalso; refine absurd trivial ?_; assumption)
   | (exact zb (VS.mk (LeD.of_eq (by show _ = puD (puR _ _); unfold puR; rw [if_pos hc]; rfl))))
   | skip
  refine qy (by decide) (by decide) ?_
  (all_goals refine qgp (Lf.mk ?_))
  refine zio ?_
  (all_goals refine qgp (Lf.mk ?_))
  refine qy (by decide) (by decide) ?_
  (all_goals refine qgp (Lf.mk ?_))
  have hP := hP (by assumption)
  refine z8 (α := Nat × Int) (fun p => p.1 ≤ s.length ∧ puR 10 s = puF 10 (s.drop p.1) p.2 ∧ 0 ≤ p.2 ∧ p.2 ≤ 4294967295)
   (fun p => [(1, .int .i64 10), (8, .bool false), (9, .str s), (10, .int .u64 1844674407370955162), (11, .int .u64 4294967295), (12, .ff), (13, .int .u64 p.2), (99, .sl 1 (s.map zH) none), (100, .int .i64 s.length), (101, .int .i64 p.1)])
   (fun _ => []) (fun p => s.length - p.1) (fun _ => by simp [hE]) (0, 0) ⟨Nat.zero_le _, hP, by decide, by decide⟩ ?_ ?_
  ·(repeat' (first | (refine VS.mk ?_) | exact trivial | exact rfl | refine And.intro ?_ ?_))
  rintro ⟨k, n⟩ ⟨hk, hf, hn0, hn1⟩
  dsimp only at hk hf hn0 hn1 ⊢
  have hlast : k = s.length → puD (puR 10 s) = .tup [.int .u64 n, .nilif] := fun h => by rw [hf, h, List.drop_length]; rfl
  have hstep : k < s.length → puR 10 s = if yD 10 (s.getD k 0) < 0 then (0, 2) else if 4294967295 < n * 10 + yD 10 (s.getD k 0) then (4294967295, 1) else puF 10 (s.drop (k + 1)) (n * 10 + yD 10 (s.getD k 0)) := fun h => by
   rw [hf, zcI (d := 0) h, puF]
  have hd := zoB (s.getD k 0)
  have hq := (s.getD k 0).toNat_lt
  have hq2 := (w4 (s.getD k 0)).toNat_lt
  have hbB : (ym 10).toNat = 10 := by decide
  have h48 := xY (((s.getD k 0).toNat : Int) - 48)
  have h97 := xY (((w4 (s.getD k 0)).toNat : Int) - 97)
  have h10 := xY (((ym (((w4 (s.getD k 0)).toNat : Int) - 97)).toNat : Int) + 10)
  generalize yD 10 (s.getD k 0) = dv at *
  generalize yD 16 (s.getD k 0) = dx at *
  refine zf _ ?_
  (all_goals refine qgp ?_ <;> (repeat' first | exact trivial | intro hc | refine And.intro ?_ ?_) <;> refine Lf.mk ?_)
  all_goals (try refine ze qE (s.getD k 0) trivial (VS.mk (LeL.of_eq rfl)) ?_)
  (all_goals refine qgp ?_ <;> (repeat' first | exact trivial | intro hc | refine And.intro ?_ ?_) <;> refine Lf.mk ?_)
  all_goals (try refine ze qE (s.getD k 0) trivial (VS.mk (LeL.of_eq rfl)) ?_)
  (all_goals refine qgp ?_ <;> (repeat' first | exact trivial | intro hc | refine And.intro ?_ ?_) <;> refine Lf.mk ?_)
  all_goals (try refine ze qE (s.getD k 0) trivial (VS.mk (LeL.of_eq rfl)) ?_)
  (all_goals refine qgp ?_ <;> (repeat' first | exact trivial | intro hc | refine And.intro ?_ ?_) <;> refine Lf.mk ?_)
  all_goals first
   | (refine absurd hc ?_; decide)
   | (refine zb (VS.mk (LeD.of_eq ?_)); rw [hstep (by omega), if_pos (by omega)]; rfl)
   | skip
  all_goals (try refine qy (by omega) (by omega) ?_)
  (all_goals refine qgp (Lf.mk ?_))
  all_goals (try refine qy (by omega) (by omega) ?_)
  (all_goals refine qgp (Lf.mk ?_))
  all_goals (try refine qy (by omega) (by omega) ?_)
  (all_goals refine qgp (Lf.mk ?_))
  all_goals (try refine qy (by omega) (by omega) ?_)
  (all_goals refine qgp ?_ <;> (repeat' first | exact trivial | intro hc | refine And.intro ?_ ?_) <;> refine Lf.mk ?_)
  all_goals first
   | (refine zb (VS.mk (LeD.of_eq ?_)); rw [hstep (by omega), if_neg (by omega), if_pos (by omega)]; rfl)
   | (exact zb (VS.mk (LeD.of_eq (hlast (by omega)).symm)))
   | skip
  all_goals
   have hk1 := hstep (by omega)
   rw [if_neg (by omega), if_neg (by omega)] at hk1
   refine zC (k + 1, n * 10 + dv) ⟨by dsimp only; omega, hk1, by dsimp only; omega, by dsimp only; omega⟩ (by dsimp only; omega) ?_
   (repeat' (first | (refine VS.mk ?_) | exact trivial | exact rfl | refine And.intro ?_ ?_))
   all_goals (first | rfl | (refine congrArg (D.int .u64) ?_; omega))
 ·refine zf _ ?_
  have hP : s ≠ [] → puR 16 s = puF 16 (s.drop 0) 0 := fun h => by unfold puR; rw [if_neg h]; rfl
  (all_goals refine qgp ?_ <;> (repeat' first | exact trivial | intro hc | refine And.intro ?_ ?_) <;> refine Lf.mk ?_)
  all_goals first
   | (exfalso; refine absurd trivial ?_; assumption)
   | (exact zb (VS.mk (LeD.of_eq (by show _ = puD (puR _ _); unfold puR; rw [if_pos hc]; rfl))))
   | skip
  refine qy (by decide) (by decide) ?_
  (all_goals refine qgp (Lf.mk ?_))
  refine zio ?_
  (all_goals refine qgp (Lf.mk ?_))
  refine qy (by decide) (by decide) ?_
  (all_goals refine qgp (Lf.mk ?_))
  have hP := hP (by assumption)
  refine z8 (α := Nat × Int) (fun p => p.1 ≤ s.length ∧ puR 16 s = puF 16 (s.drop p.1) p.2 ∧ 0 ≤ p.2 ∧ p.2 ≤ 4294967295)
   (fun p => [(1, .int .i64 16), (8, .bool false), (9, .str s), (10, .int .u64 1152921504606846976), (11, .int .u64 4294967295), (12, .ff), (13, .int .u64 p.2), (99, .sl 1 (s.map zH) none), (100, .int .i64 s.length), (101, .int .i64 p.1)])
   (fun _ => []) (fun p => s.length - p.1) (fun _ => by simp [hE]) (0, 0) ⟨Nat.zero_le _, hP, by decide, by decide⟩ ?_ ?_
  ·(repeat' (first | (refine VS.mk ?_) | exact trivial | exact rfl | refine And.intro ?_ ?_))
  rintro ⟨k, n⟩ ⟨hk, hf, hn0, hn1⟩
  dsimp only at hk hf hn0 hn1 ⊢
  have hlast : k = s.length → puD (puR 16 s) = .tup [.int .u64 n, .nilif] := fun h => by rw [hf, h, List.drop_length]; rfl
  have hstep : k < s.length → puR 16 s = if yD 16 (s.getD k 0) < 0 then (0, 2) else if 4294967295 < n * 16 + yD 16 (s.getD k 0) then (4294967295, 1) else puF 16 (s.drop (k + 1)) (n * 16 + yD 16 (s.getD k 0)) := fun h => by
   rw [hf, zcI (d := 0) h, puF]
  have hd := zoB (s.getD k 0)
  have hq := (s.getD k 0).toNat_lt
  have hq2 := (w4 (s.getD k 0)).toNat_lt
  have hbB : (ym 16).toNat = 16 := by decide
  have h48 := xY (((s.getD k 0).toNat : Int) - 48)
  have h97 := xY (((w4 (s.getD k 0)).toNat : Int) - 97)
  have h10 := xY (((ym (((w4 (s.getD k 0)).toNat : Int) - 97)).toNat : Int) + 10)
  generalize yD 10 (s.getD k 0) = dv at *
  generalize yD 16 (s.getD k 0) = dx at *
  refine zf _ ?_
  (all_goals refine qgp ?_ <;> (repeat' first | exact trivial | intro hc | refine And.intro ?_ ?_) <;> refine Lf.mk ?_)
  all_goals (try refine ze qE (s.getD k 0) trivial (VS.mk (LeL.of_eq rfl)) ?_)
  (all_goals refine qgp ?_ <;> (repeat' first | exact trivial | intro hc | refine And.intro ?_ ?_) <;> refine Lf.mk ?_)
  all_goals (try refine ze qE (s.getD k 0) trivial (VS.mk (LeL.of_eq rfl)) ?_)
  (all_goals refine qgp ?_ <;> (repeat' first | exact trivial | intro hc | refine And.intro ?_ ?_) <;> refine Lf.mk ?_)
  all_goals (try refine ze qE (s.getD k 0) trivial (VS.mk (LeL.of_eq rfl)) ?_)
  (all_goals refine qgp ?_ <;> (repeat' first | exact trivial | intro hc | refine And.intro ?_ ?_) <;> refine Lf.mk ?_)
  all_goals first
   | (refine absurd hc ?_; decide)
   | (refine zb (VS.mk (LeD.of_eq ?_)); rw [hstep (by omega), if_pos (by omega)]; rfl)
   | skip
  all_goals (try refine qy (by omega) (by omega) ?_)
  (all_goals refine qgp (Lf.mk ?_))
  all_goals (try refine qy (by omega) (by omega) ?_)
  (all_goals refine qgp (Lf.mk ?_))
  all_goals (try refine qy (by omega) (by omega) ?_)
  (all_goals refine qgp (Lf.mk ?_))
  all_goals (try refine qy (by omega) (by omega) ?_)
  (all_goals refine qgp ?_ <;> (repeat' first | exact trivial | intro hc | refine And.intro ?_ ?_) <;> refine Lf.mk ?_)
  all_goals first
   | (refine zb (VS.mk (LeD.of_eq ?_)); rw [hstep (by omega), if_neg (by omega), if_pos (by omega)]; rfl)
   | (exact zb (VS.mk (LeD.of_eq (hlast (by omega)).symm)))
   | skip
  all_goals
   have hk1 := hstep (by omega)
   rw [if_neg (by omega), if_neg (by omega)] at hk1
   refine zC (k + 1, n * 16 + dx) ⟨by dsimp only; omega, hk1, by dsimp only; omega, by dsimp only; omega⟩ (by dsimp only; omega) ?_
   (repeat' (first | (refine VS.mk ?_) | exact trivial | exact rfl | refine And.intro ?_ ?_))
   all_goals (first | rfl | (refine congrArg (D.int .u64) ?_; omega))
end Go.Proofs.YthmdddenbfbefaaGreatDoor
namespace Go.Proofs.YthmdddenbfbefaaGreatDoor
open Go Go.Plat
set_option linter.unusedVariables false
set_option linter.unusedSimpArgs false
set_option maxRecDepth 100000
set_option maxHeartbeats 2000000
attribute [local irreducible] AWP zy ye zF zn yt z6 zE zW zY zp za zN yu zo zZ yp yq yj yl zt zu zw yo yk zG w3 xo xH xE okC xR
def rdO (s : List UInt8) (i : Nat) : List Ob := [.cells [.str s, .int .i64 (i : Nat)]]
theorem zd3 {g : Nat} {p : UInt8 → Bool} (hg : za Tryz.prog g (zA (fun _ : UInt8 => True) (fun c => [zH c]) fun c => .bool (p c))) :
  za Tryz.prog zgo (yh (fun ((s, i) : List UInt8 × Nat) => i ≤ s.length ∧ s.length ≤ 1000000000) (fun _ => [.loc 0 0, .fn g []]) (fun (s, i) => rdO s i)
   (fun (s, i) => .str ((s.take (i + zI p (s.drop i))).drop i)) fun (s, i) => rdO s (i + zI p (s.drop i))) := by
 refine zg zj Tryz.func106 rfl (by decide) ?_
 rintro ⟨s, i⟩ ⟨hi, hs⟩
 refine ⟨Nat.le_refl _, by simp [Tryz.f106], fun E hE => ?_⟩
 refine zf _ ?_
 (all_goals refine qgp (Lf.mk ?_))
 refine z8 (α := Nat) (fun k => i ≤ k ∧ k ≤ s.length ∧ ∀ j, j < k - i → p ((s.drop i).getD j 0) = true)
  (fun k => [(0, .loc 0 0), (1, .fn g []), (5, .int .i64 i)])
  (fun k => rdO s k) (fun k => s.length - k) (fun _ => by simp [hE, rdO]) i ⟨Nat.le_refl _, by omega, fun j h => absurd h (by omega)⟩ ?_ ?_
 ·(repeat' (first | (refine VS.mk ?_) | exact trivial | exact rfl | refine And.intro ?_ ?_))
 rintro k ⟨hik, hks, hall⟩
 have hget : (s.drop i).getD (k - i) 0 = s.getD k 0 := by rw [List.getD_eq_getElem?_getD, List.getElem?_drop, List.getD_eq_getElem?_getD, show i + (k - i) = k by omega]
 have hend : (k < s.length → p (s.getD k 0) = false) → k = i + zI p (s.drop i) := fun h => by
  have := zoy (p := p) (l := s.drop i) (k := k - i) (by rw [List.length_drop]; omega) hall fun hl => by rw [hget]; exact h (by rw [List.length_drop] at hl; omega)
  omega
 have hmore : p (s.getD k 0) = true → ∀ j, j < k + 1 - i → p ((s.drop i).getD j 0) = true := fun h j hj => by
  by_cases e : j = k - i
  ·rw [e, hget]; exact h
  ·exact hall j (by omega)
 refine zf _ ?_
 (all_goals refine qgp ?_ <;> (repeat' first | exact trivial | intro hc | refine And.intro ?_ ?_) <;> refine Lf.mk ?_)
 ·refine ze hg (s.getD k 0) trivial (VS.mk (LeL.of_eq (by rw [Int.toNat_natCast]; rfl))) ?_
  (all_goals refine qgp ?_ <;> (repeat' first | exact trivial | intro hc | refine And.intro ?_ ?_) <;> refine Lf.mk ?_)
  ·have hm := hmore hc
   refine zC (k + 1) ⟨by omega, by omega, hm⟩ (by omega) ?_
   (repeat' (first | (refine VS.mk ?_) | exact trivial | exact rfl | refine And.intro ?_ ?_))
  ·have e := hend fun _ => by simpa using hc
   refine yn (And.intro (VS.mk ?_) (VS.mk ?_))
   ·show D.str _ = D.str ((s.take (i + zI p (s.drop i))).drop i)
    rw [← e, Int.toNat_natCast, Int.toNat_natCast]
   ·show rdO s k = rdO s (i + zI p (s.drop i))
    rw [← e]
 ·have e := hend fun h => absurd h (by omega)
  refine yn (And.intro (VS.mk ?_) (VS.mk ?_))
  ·show D.str _ = D.str ((s.take (i + zI p (s.drop i))).drop i)
   rw [← e, Int.toNat_natCast, Int.toNat_natCast]
  ·show rdO s k = rdO s (i + zI p (s.drop i))
   rw [← e]
attribute [local irreducible] yD puF puR zI
theorem zmg : za Tryz.prog zdr (zA (fun ((a, s) : List UInt8 × List UInt8) => s.length ≤ 1000000000) (fun (a, s) => [.str a, .str s]) fun _ => .any) := by
 refine jv ⟨_, Tryz.func202, by decide, rfl⟩ ?_
 rintro ⟨a, s⟩ hs w F hg vs hl hv
 have hs : s.length ≤ 1000000000 := hs
 match vs, hl with
 | [x, y], _ =>
  cases hv 0 _ x rfl rfl
  cases hv 1 _ y rfl rfl
  obtain ⟨u, v, hcell⟩ := (hg 6 _ (by kernel_rfl)).2.2.2 rfl
  refine (Go.Proofs.Tryz.strconv_syntaxError ⟨a.toArray⟩ ⟨s.toArray⟩ _ w (by show s.toArray.size ≤ _; simp; omega) hcell (.inr ⟨_, _, rfl⟩)).mono ?_
  rintro e w' ⟨N, rfl, _, _, hb⟩
  exact ⟨_, rfl, .below hb, .any _⟩
theorem zmh : za Tryz.prog zd0 (zA (fun ((a, s) : List UInt8 × List UInt8) => s.length ≤ 1000000000) (fun (a, s) => [.str a, .str s]) fun _ => .any) := by
 refine jv ⟨_, Tryz.func203, by decide, rfl⟩ ?_
 rintro ⟨a, s⟩ hs w F hg vs hl hv
 have hs : s.length ≤ 1000000000 := hs
 match vs, hl with
 | [x, y], _ =>
  cases hv 0 _ x rfl rfl
  cases hv 1 _ y rfl rfl
  obtain ⟨u, v, hcell⟩ := (hg 7 _ (by kernel_rfl)).2.2.2 rfl
  refine (Go.Proofs.Tryz.strconv_rangeError ⟨a.toArray⟩ ⟨s.toArray⟩ _ w (by show s.toArray.size ≤ _; simp; omega) hcell (.inr ⟨_, _, rfl⟩)).mono ?_
  rintro e w' ⟨N, rfl, _, _, hb⟩
  exact ⟨_, rfl, .below hb, .any _⟩
theorem zgG : za Tryz.prog zgp (zA (fun ((a, s, b, c, e) : List UInt8 × List UInt8 × Int × Int × Int) => s.length ≤ 1000000000 ∧ (e = 1 ∨ e = 2)) (fun (a, s, b, c, e) => [.str a, .str s, .int .i64 b, .int .i64 c, .iface 300 (.int .i64 e)])
  fun _ => .iface 301 .any) := by
 refine zg zj Tryz.func189 rfl (by decide) ?_
 rintro ⟨a, s, b, c, e⟩ ⟨hs, he⟩
 refine ⟨Nat.le_refl _, by simp [Tryz.f189], fun E hE => ?_⟩
 rcases he with rfl | rfl
 all_goals
  refine zf _ ?_
  (all_goals refine qgp (Lf.mk ?_))
  all_goals (try refine zon (by kernel_rfl) ?_)
  (all_goals refine qgp ?_ <;> (repeat' first | exact trivial | intro hc | refine And.intro ?_ ?_) <;> refine Lf.mk ?_)
  all_goals first
   | (exfalso; refine absurd trivial ?_; assumption)
   | skip
  all_goals (try refine zon (by kernel_rfl) ?_)
  (all_goals refine qgp ?_ <;> (repeat' first | exact trivial | intro hc | refine And.intro ?_ ?_) <;> refine Lf.mk ?_)
  all_goals first
   | (exfalso; refine absurd trivial ?_; assumption)
   | skip
  all_goals first
   | (refine ze zmg (a, s) hs (VS.mk (LeL.of_eq rfl)) ?_)
   | (refine ze zmh (a, s) hs (VS.mk (LeL.of_eq rfl)) ?_)
   | skip
  (all_goals refine qgp (Lf.mk ?_))
  all_goals first
   | exact zb (VS.mk (LeD.of_eq rfl))
   | (exfalso; refine absurd hc ?_; decide)
   | skip
theorem jc : za Tryz.prog zeB (zA (fun ((s, b) : List UInt8 × Int) => s.length ≤ 1000000000 ∧ (b = 10 ∨ b = 16)) (fun (s, b) => [.str s, .int .i64 b, .int .i64 32])
  fun (s, b) => .tup [.int .u64 (puR b s).1, if (puR b s).2 = 0 then .nilif else .iface 301 .any]) := by
 refine zg zj Tryz.func161 rfl (by decide) ?_
 rintro ⟨s, b⟩ ⟨hs, hb⟩
 refine ⟨Nat.le_refl _, by simp [Tryz.f161], fun E hE => ?_⟩
 have hcode := zuM b s
 refine zf _ ?_
 (all_goals refine qgp (Lf.mk ?_))
 refine ze zjo (s, b) ⟨hs, hb⟩ (VS.mk (LeL.of_eq rfl)) ?_
 dsimp only
 generalize puR b s = R at *
 obtain ⟨n, e⟩ := R
 dsimp only at hcode
 unfold puD
 dsimp only
 by_cases he : e = 0
 ·rw [if_pos he, if_pos he]
  (all_goals refine qgp ?_ <;> (repeat' first | exact trivial | intro hc | refine And.intro ?_ ?_) <;> refine Lf.mk ?_)
  all_goals first
   | (exfalso; exact Bool.noConfusion hc)
   | skip
  exact zb (VS.mk (LeD.of_eq rfl))
 ·rw [if_neg he, if_neg he]
  (all_goals refine qgp ?_ <;> (repeat' first | exact trivial | intro hc | refine And.intro ?_ ?_) <;> refine Lf.mk ?_)
  all_goals first
   | (exfalso; exact Bool.noConfusion hc)
   | (exfalso; refine absurd hc ?_; decide)
   | skip
  refine ze zgG ([80, 97, 114, 115, 101, 85, 105, 110, 116], s, b, 32, e) ⟨hs, by omega⟩ (VS.mk (LeL.of_eq rfl)) ?_
  (all_goals refine qgp (Lf.mk ?_))
  exact zb (VS.mk (LeD.of_eq rfl))
end Go.Proofs.YthmdddenbfbefaaGreatDoor
namespace Go.Proofs.YthmdddenbfbefaaGreatDoor
open Go Go.Plat
set_option linter.unusedVariables false
set_option linter.unusedSimpArgs false
set_option maxRecDepth 100000
set_option maxHeartbeats 2000000
attribute [local irreducible] AWP zy ye zF zn yt z6 zE zW zY zp za zN yu zo zZ yp yq yj yl zt zu zw yH
def zmi : List UInt8 → Prop
 | [] => True
 | c :: _ => c = 32
theorem zs5 : ∀ k : Fin 256, (48 ≤ k.val ∧ k.val ≤ 57 → yk (UInt8.ofNat k.val) = 48) ∧ (zG (UInt8.ofNat k.val) = true → yk (UInt8.ofNat k.val) = 97) ∧
  (yo (UInt8.ofNat k.val) = true → yk (UInt8.ofNat k.val) = 48) := by decide +kernel
theorem zmj {c : UInt8} (h : 48 ≤ c.toNat ∧ c.toNat ≤ 57) : yk c = 48 := by
 have := (zs5 ⟨c.toNat, c.toNat_lt⟩).1 h
 simpa using this
theorem zjp {d : Nat} (h : d < 10) : (UInt8.ofNat (48 + d)).toNat = 48 + d := by rw [UInt8.toNat_ofNat']; omega
attribute [local irreducible] zG yo yk okC
theorem zmk {p : UInt8 → Bool} {s rest : List UInt8} (h : ∀ c ∈ s, p c = true) (hr : zmi rest) (h32 : p 32 = false) : s.length = zI p (s ++ rest) := by
 refine zoy (by rw [List.length_append]; omega) (fun j hj => ?_) (fun hl => ?_)
 ·rw [List.getD_eq_getElem?_getD, List.getElem?_append_left hj, List.getElem?_eq_getElem hj]
  exact h _ (List.getElem_mem hj)
 ·rw [List.getD_eq_getElem?_getD, List.getElem?_append_right (Nat.le_refl _), Nat.sub_self]
  match rest, hr with
  | [], _ => rw [List.length_append] at hl; simp at hl
  | c :: r, hr => obtain rfl : c = 32 := hr; exact h32
theorem zre (r : List UInt8) (out : List yB) : xo (32 :: r) out = xo r out := by
 rw [wq, if_pos (by decide +kernel)]
theorem zs6 {c : UInt8} {s rest : List UInt8} (h0 : yk c = 97) (h : ∀ x ∈ c :: s, xR x = true) (hr : zmi rest) (out : List yB) :
  xo (c :: s ++ rest) out = xo rest (out ++ [⟨1, 0, c :: s⟩]) := by
 have e := zmk h hr (by decide +kernel)
 rw [List.cons_append, wq, if_neg (by rw [h0]; decide), if_pos h0]
 rw [← List.cons_append, ← e, List.drop_left, List.take_left]
theorem zuO {c : UInt8} {s rest : List UInt8} {n : Int} (h0 : yk c = 48) (h : ∀ x ∈ c :: s, xH x = true) (hn : xE (c :: s) = (n, true)) (hr : zmi rest) (out : List yB) :
  xo (c :: s ++ rest) out = xo rest (out ++ [⟨2, n, []⟩]) := by
 have e := zmk h hr (by decide +kernel)
 rw [List.cons_append, wq, if_neg (by rw [h0]; decide), if_neg (by rw [h0]; decide), if_pos h0]
 rw [← List.cons_append, ← e, List.drop_left, List.take_left, hn]
 rw [if_pos rfl]
theorem zjq : ∀ u : Nat, ∀ c ∈ Lib.decDigits u, 48 ≤ c.toNat ∧ c.toNat ≤ 57 := fun u => by
 induction u using Nat.strongRecOn with
 | _ u ih =>
  intro c hc
  rw [Lib.decDigits] at hc
  split at hc
  ·rw [List.mem_singleton] at hc
   rw [hc, zjp (by omega)]; omega
  ·rcases List.mem_append.1 hc with h | h
   ·exact ih _ (by omega) c h
   ·rw [List.mem_singleton] at h
    rw [h, zjp (by omega)]; omega
theorem zj7 {d : Nat} (h : d < 10) : yD 10 (UInt8.ofNat (48 + d)) = d := by
 have e : (UInt8.ofNat (48 + d)).toNat = 48 + d := zjp h
 rw [(zuJ 10 _).1 (by rw [e]; omega), e]; omega
theorem zuP : ∀ (u : Nat), u < 4294967296 → ∀ r : List UInt8, jM 10 (Lib.decDigits u ++ r) 0 = jM 10 r u := fun u => by
 induction u using Nat.strongRecOn with
 | _ u ih =>
  intro hu r
  rw [Lib.decDigits]
  split
  ·rename_i h
   rw [List.cons_append, List.nil_append, jM, zj7 h, if_neg (by omega)]
   congr 1; omega
  ·rename_i h
   rw [List.append_assoc, ih (u / 10) (by omega) (by omega), List.cons_append, List.nil_append, jM, zj7 (by omega), if_neg (by omega)]
   congr 1; omega
theorem zrf (u : Nat) : Lib.decDigits u ≠ [] := by
 rw [Lib.decDigits]
 split <;> simp
theorem zpN {u : Nat} (hu : u < 4294967296) : xE (Lib.decDigits u) = ((u : Int), true) := by
 have h1 := zuP u hu []
 rw [List.append_nil] at h1
 have h2 : ¬ (2 < (Lib.decDigits u).length ∧ (Lib.decDigits u).take 2 = [48, 120]) := by
  rintro ⟨h, h3⟩
  have : (120 : UInt8) ∈ (Lib.decDigits u).take 2 := by rw [h3]; simp
  have := zjq u _ (List.mem_of_mem_take this)
  exact absurd this.2 (by decide)
 unfold xE zcH
 rw [if_neg h2, h1]
 show ((u : Int), decide (((u : Int)) < 4294967296 ∧ Lib.decDigits u ≠ [])) = _
 rw [decide_eq_true ⟨by omega, zrf u⟩]
theorem zuQ {u : Nat} (hu : u < 4294967296) {rest : List UInt8} (hr : zmi rest) (out : List yB) : xo (Lib.decDigits u ++ rest) out = xo rest (out ++ [⟨2, u, []⟩]) := by
 have hn := zpN hu
 have hd := zjq u
 have hne := zrf u
 generalize Lib.decDigits u = l at *
 cases l with
 | nil => exact absurd rfl hne
 | cons c s =>
  refine zuO (zmj (hd c List.mem_cons_self)) (fun x hx => zuK (.inr (zmj (hd x hx)))) hn hr out
end Go.Proofs.YthmdddenbfbefaaGreatDoor
namespace Go.Proofs.YthmdddenbfbefaaGreatDoor
open Go Go.Plat
set_option linter.unusedVariables false
set_option linter.unusedSimpArgs false
set_option maxRecDepth 100000
set_option maxHeartbeats 2000000
attribute [local irreducible] AWP zy ye zF zn yt z6 zE zW zY zp za zN yu zo zZ yp yq yj yl zt zu zw yo yk zG w3 xo xH xE okC xR
def xF (c : UInt8) : Bool := decide (yk c = 32)
theorem zml : ∀ (l : List UInt8) (out : List yB), xo l out = xo (l.drop (zI xF l)) out
 | [], out => rfl
 | c :: r, out => by
  rw [zI]
  by_cases h : xF c = true
  ·rw [if_pos h, List.drop_succ_cons, wq, if_pos (of_decide_eq_true h)]
   exact zml r out
  ·rw [if_neg h, List.drop_zero]
theorem zhi {p q : UInt8 → Bool} (h : ∀ c, p c = true → q c = true) : ∀ l : List UInt8, zI p (l.takeWhile q) = zI p l ∧ (l.takeWhile q).drop (zI p l) = (l.drop (zI p l)).takeWhile q ∧ (l.takeWhile q).take (zI p l) = l.take (zI p l)
 | [] => ⟨rfl, rfl, rfl⟩
 | c :: r => by
  obtain ⟨h1, h2, h3⟩ := zhi h r
  rw [List.takeWhile_cons]
  by_cases hp : p c = true
  ·rw [h c hp, if_pos rfl]
   have e : ∀ x : List UInt8, zI p (c :: x) = zI p x + 1 := fun x => by rw [zI, if_pos hp]
   rw [e, e, h1]
   refine ⟨rfl, ?_, ?_⟩
   ·rw [List.drop_succ_cons, List.drop_succ_cons, h2]
   ·rw [List.take_succ_cons, List.take_succ_cons, h3]
  ·have e : ∀ x : List UInt8, zI p (c :: x) = 0 := fun x => by rw [zI, if_neg hp]
   rw [e]
   refine ⟨?_, ?_, ?_⟩
   ·split
    ·exact e _
    ·rfl
   ·rw [List.drop_zero, List.drop_zero, List.takeWhile_cons]
   ·rw [List.take_zero, List.take_zero]
theorem zuR (c : UInt8) (h : xR c = true) : (c != 59) = true := by
 rw [bne_iff_ne]
 rintro rfl
 exact absurd h (by decide +kernel)
theorem zvZ (c : UInt8) (h : xH c = true) : (c != 59) = true := by
 rw [bne_iff_ne]
 rintro rfl
 exact absurd h (by decide +kernel)
theorem zoC : ∀ (n : Nat) (l : List UInt8) (out : List yB), l.length ≤ n → xo l out = xo (l.takeWhile (· != 59)) out
 | _, [], out, _ => rfl
 | 0, _ :: _, out, h => by simp at h
 | n + 1, c :: r, out, h => by
  have h : r.length ≤ n := by simpa using h
  have ih := zoC n
  have hd : ∀ k, 1 ≤ k → ((c :: r).drop k).length ≤ n := fun k hk => by rw [List.length_drop, List.length_cons]; omega
  by_cases h59 : c = 59
  ·subst h59
   rw [List.takeWhile_cons, if_neg (by decide), wq, if_neg (by decide +kernel), if_neg (by decide +kernel), if_neg (by decide +kernel), if_pos rfl, zhh]
  have e : (c :: r).takeWhile (· != 59) = c :: r.takeWhile (· != 59) := by rw [List.takeWhile_cons, if_pos (by rw [bne_iff_ne]; exact h59)]
  rw [wq]
  by_cases h1 : yk c = 32
  ·rw [if_pos h1, e, wq, if_pos h1]
   exact ih _ _ h
  rw [if_neg h1]
  by_cases h2 : yk c = 97
  ·obtain ⟨q1, q2, q3⟩ := zhi zuR (c :: r)
   rw [if_pos h2, ih _ _ (hd _ (zbw h2)), ← q2, ← q3, ← q1, e]
   rw [wq, if_neg h1, if_pos h2]
  rw [if_neg h2]
  by_cases h3 : yk c = 48
  ·obtain ⟨q1, q2, q3⟩ := zhi zvZ (c :: r)
   rw [if_pos h3, ih _ _ (hd _ (zcJ h3)), ← q2, ← q3, ← q1, e]
   rw [wq c (r.takeWhile _), if_neg h1, if_neg h2, if_pos h3]
  rw [if_neg h3, if_neg h59]
  have hs : ∀ x : UInt8, x ≠ 59 → ((c :: r).take 2 = [x, x] ↔ (c :: r.takeWhile (· != 59)).take 2 = [x, x]) ∧ ((c :: r).take 2 = [x, x] → (r.drop 1).takeWhile (· != 59) = (r.takeWhile (· != 59)).drop 1) := fun x hx => by
   cases r with
   | nil => exact ⟨Iff.rfl, fun _ => rfl⟩
   | cons b r =>
    rw [List.takeWhile_cons]
    by_cases hb : b = 59
    ·subst hb
     refine ⟨⟨fun h => ?_, fun h => ?_⟩, fun h => ?_⟩
     ·exact absurd (List.cons.inj (List.cons.inj h).2).1.symm hx
     ·rw [if_neg (by decide)] at h; cases (List.cons.inj h).2
     ·exact absurd (List.cons.inj (List.cons.inj h).2).1.symm hx
    ·rw [if_pos (by rw [bne_iff_ne]; exact hb)]
     exact ⟨Iff.rfl, fun _ => rfl⟩
  obtain ⟨s1, s2⟩ := hs 60 (by decide)
  obtain ⟨s3, s4⟩ := hs 62 (by decide)
  have hr1 : (r.drop 1).length ≤ n := by rw [List.length_drop]; omega
  by_cases h4 : (c :: r).take 2 = [60, 60] ∨ (c :: r).take 2 = [62, 62]
  ·have e2 : (r.drop 1).takeWhile (· != 59) = (r.takeWhile (· != 59)).drop 1 := h4.elim s2 s4
   have h5 : (c :: r.takeWhile (· != 59)).take 2 = [60, 60] ∨ (c :: r.takeWhile (· != 59)).take 2 = [62, 62] := h4.imp s1.1 s3.1
   have e3 : (c :: r).take 2 = (c :: r.takeWhile (· != 59)).take 2 := by
    rcases h4 with h | h
    ·rw [h, s1.1 h]
    ·rw [h, s3.1 h]
   rw [if_pos h4, ih _ _ hr1, e2, e3, e, wq, if_neg h1, if_neg h2, if_neg h3, if_neg h59, if_pos h5]
  ·have h5 : ¬ ((c :: r.takeWhile (· != 59)).take 2 = [60, 60] ∨ (c :: r.takeWhile (· != 59)).take 2 = [62, 62]) := fun h => h4 (h.imp s1.2 s3.2)
   rw [if_neg h4, e, wq, if_neg h1, if_neg h2, if_neg h3, if_neg h59, if_neg h5]
   split
   ·exact ih _ _ h
   ·rfl
theorem zuS (l : List UInt8) (out : List yB) : xo l out = xo (l.takeWhile (· != 59)) out := zoC _ l out (Nat.le_refl _)
attribute [local irreducible] xF yD puF puR zI
theorem zrg : ∀ k : Fin 256, xH (UInt8.ofNat k.val) = (yo (UInt8.ofNat k.val) || (zG (UInt8.ofNat k.val) && UInt8.ofNat k.val != 46)) ∧
  xR (UInt8.ofNat k.val) = (zG (UInt8.ofNat k.val) || yo (UInt8.ofNat k.val) || UInt8.ofNat k.val == 47) ∧
  xF (UInt8.ofNat k.val) = (UInt8.ofNat k.val == 32 || UInt8.ofNat k.val == 9 || UInt8.ofNat k.val == 13) ∧
  (zG (UInt8.ofNat k.val) = true → yk (UInt8.ofNat k.val) = 97) ∧
  (zG (UInt8.ofNat k.val) = false → yo (UInt8.ofNat k.val) = true → yk (UInt8.ofNat k.val) = 48) ∧
  (zG (UInt8.ofNat k.val) = false → yo (UInt8.ofNat k.val) = false → xF (UInt8.ofNat k.val) = false → yk (UInt8.ofNat k.val) ≠ 97 ∧ yk (UInt8.ofNat k.val) ≠ 48 ∧ yk (UInt8.ofNat k.val) ≠ 32) := by decide +kernel
theorem zd4 (c : UInt8) : xH c = (yo c || (zG c && c != 46)) ∧ xR c = (zG c || yo c || c == 47) ∧ xF c = (c == 32 || c == 9 || c == 13) ∧ (zG c = true → yk c = 97) ∧
  (zG c = false → yo c = true → yk c = 48) ∧ (zG c = false → yo c = false → xF c = false → yk c ≠ 97 ∧ yk c ≠ 48 ∧ yk c ≠ 32) := by
 have := zrg ⟨c.toNat, c.toNat_lt⟩
 simp only [UInt8.ofNat_toNat] at this
 exact this
theorem zd5 (c d : UInt8) : (((c.toNat : Nat) : Int) == ((d.toNat : Nat) : Int)) = (c == d) := by
 by_cases h : c = d
 ·rw [h]; simp
 ·rw [beq_eq_false_iff_ne.2 h, beq_eq_false_iff_ne]
  intro e
  exact h (UInt8.toNat_inj.1 (by exact_mod_cast e))
theorem zoD {c d : UInt8} (h : ¬ ((c.toNat : Nat) : Int) = ((d.toNat : Nat) : Int)) : (c == d) = false := by
 rw [← zd5]; exact beq_eq_false_iff_ne.2 h
theorem zmm {c d : UInt8} (h : ((c.toNat : Nat) : Int) = ((d.toNat : Nat) : Int)) : c = d := UInt8.toNat_inj.1 (by exact_mod_cast h)
theorem zn0 : za Tryz.prog zij (zA (fun _ : UInt8 => True) (fun c => [zH c]) fun c => .bool (xF c)) := by
 refine zg zj Tryz.func107 rfl (by decide) fun c _ => ?_
 refine ⟨Nat.le_refl _, by simp [Tryz.f107], fun E hE => ?_⟩
 have hk := (zd4 c).2.2.1
 rw [hk]
 refine zf _ ?_
 (all_goals refine qgp ?_ <;> (repeat' first | exact trivial | intro hc | refine And.intro ?_ ?_) <;> refine Lf.mk ?_)
 ·obtain rfl : c = 32 := zmm hc
  exact zb (VS.mk (LeD.tt rfl))
 ·obtain rfl : c = 9 := zmm hc
  exact zb (VS.mk (LeD.tt rfl))
 ·have h1 : (c == 32) = false := zoD (by assumption)
  have h2 : (c == 9) = false := zoD hc
  exact zb (VS.mk (LeD.of_eq (congrArg D.bool (by rw [h1, h2]; exact zd5 c 13))))
theorem zpO : za Tryz.prog zik (zA (fun _ : UInt8 => True) (fun c => [zH c]) fun c => .bool (xR c)) := by
 refine zg zj Tryz.func109 rfl (by decide) fun c _ => ?_
 refine ⟨Nat.le_refl _, by simp [Tryz.f109], fun E hE => ?_⟩
 have hk := (zd4 c).2.1
 refine zf _ ?_
 (all_goals refine qgp (Lf.mk ?_))
 refine ze q9 c trivial (VS.mk (LeL.of_eq rfl)) ?_
 generalize zG c = x at *
 (all_goals refine qgp ?_ <;> (repeat' first | exact trivial | intro hc | refine And.intro ?_ ?_) <;> refine Lf.mk ?_)
 all_goals (try refine ze zat c trivial (VS.mk (LeL.of_eq rfl)) ?_)
 generalize yo c = y at *
 (all_goals refine qgp ?_ <;> (repeat' first | exact trivial | intro hc | refine And.intro ?_ ?_) <;> refine Lf.mk ?_)
 ·exact zb (VS.mk (LeD.tt (by rw [hk, hc]; rfl)))
 ·exact zb (VS.mk (LeD.tt (by rw [hk, hc, Bool.or_true]; rfl)))
 ·have h1 : x = false := by assumption
  exact zb (VS.mk (LeD.of_eq (congrArg D.bool (by rw [hk, hc, h1]; exact zd5 c 47))))
theorem zpP : za Tryz.prog zc4 (zA (fun _ : UInt8 => True) (fun c => [zH c]) fun c => .bool (xH c)) := by
 refine zg zj Tryz.func160 rfl (by decide) fun c _ => ?_
 refine ⟨Nat.le_refl _, by simp [Tryz.f160], fun E hE => ?_⟩
 have hk := (zd4 c).1
 refine zf _ ?_
 (all_goals refine qgp (Lf.mk ?_))
 refine ze zat c trivial (VS.mk (LeL.of_eq rfl)) ?_
 generalize yo c = x at *
 (all_goals refine qgp ?_ <;> (repeat' first | exact trivial | intro hc | refine And.intro ?_ ?_) <;> refine Lf.mk ?_)
 all_goals (try refine ze q9 c trivial (VS.mk (LeL.of_eq rfl)) ?_)
 generalize zG c = y at *
 (all_goals refine qgp ?_ <;> (repeat' first | exact trivial | intro hc | refine And.intro ?_ ?_) <;> refine Lf.mk ?_)
 ·exact zb (VS.mk (LeD.tt (by rw [hk, hc]; rfl)))
 ·have h1 : x = false := by assumption
  refine zb (VS.mk (LeD.of_eq (congrArg D.bool ?_)))
  rw [hk, hc, h1]
  show (!(((c.toNat : Nat) : Int) == 46)) = !(c == 46)
  exact congrArg (!·) (zd5 c 46)
 ·have h1 : x = false := by assumption
  exact zb (VS.mk (LeD.ff (by rw [hk, hc, h1]; rfl)))
theorem zv0 : yD 10 95 = -1 ∧ yD 16 95 = -1 := by unfold yD; decide
theorem zug {b : Int} (hb : b = 10 ∨ b = 16) : ∀ (s : List UInt8) (n : Int), (puF b s n).2 = 0 → s.contains 95 = false
 | [], n, h => rfl
 | c :: r, n, h => by
  have hu := zv0
  rw [puF] at h
  split at h
  ·cases h
  rename_i hd
  split at h
  ·cases h
  have ih := zug hb r _ h
  rw [List.contains_cons, ih, Bool.or_false, beq_eq_false_iff_ne]
  rintro rfl
  rcases hb with rfl | rfl <;> omega
def wd (w : List UInt8) : yB × Int := if (xE w).2 = true then (⟨2, (xE w).1, []⟩, 0) else (⟨0, 0, []⟩, 2)
def zd6 (p : yB × Int) : D := .tup [wN p.1, .int .i64 p.2]
theorem zuT (w : List UInt8) : (2 < w.length ∧ w.take 2 = [48, 120] → ((puR 16 (w.drop 2)).2 = 0 ∧ xE w = ((puR 16 (w.drop 2)).1, true) ∧ 0 ≤ (puR 16 (w.drop 2)).1 ∧ (puR 16 (w.drop 2)).1 ≤ 4294967295 ∧ w.contains 95 = false) ∨ ((puR 16 (w.drop 2)).2 ≠ 0 ∧ (xE w).2 = false)) ∧
  (¬ (2 < w.length ∧ w.take 2 = [48, 120]) → ((puR 10 w).2 = 0 ∧ xE w = ((puR 10 w).1, true) ∧ 0 ≤ (puR 10 w).1 ∧ (puR 10 w).1 ≤ 4294967295 ∧ w.contains 95 = false) ∨ ((puR 10 w).2 ≠ 0 ∧ (xE w).2 = false)) := by
 have us : ∀ {b : Int}, (b = 10 ∨ b = 16) → ∀ s, (puR b s).2 = 0 → s.contains 95 = false := fun {b} hb s h => by
  unfold puR at h
  split at h
  ·cases h
  ·exact zug hb s 0 h
 constructor
 ·intro h
  have e : xE w = zcH 16 (w.drop 2) := by unfold xE; rw [if_pos h]
  rw [e]
  rcases zoA (.inr rfl) (w.drop 2) with ⟨h1, h2, h3, h4⟩ | h1
  ·left
   refine ⟨h1, h2, h3, h4, ?_⟩
   have h5 := us (.inr rfl) _ h1
   rw [← List.take_append_drop 2 w, h.2, List.cons_append, List.cons_append, List.nil_append, List.contains_cons, List.contains_cons, h5]
   rfl
  ·exact .inr h1
 ·intro h
  have e : xE w = zcH 10 w := by unfold xE; rw [if_neg h]
  rw [e]
  rcases zoA (.inl rfl) w with ⟨h1, h2, h3, h4⟩ | h1
  ·exact .inl ⟨h1, h2, h3, h4, us (.inl rfl) _ h1⟩
  ·exact .inr h1
theorem zkS : za Tryz.prog zdZ (yh (fun ((s, i) : List UInt8 × Nat) => i ≤ s.length ∧ s.length ≤ 1000000000) (fun _ => [.loc 0 0]) (fun (s, i) => rdO s i)
  (fun (s, i) => zd6 (wd ((s.take (i + zI xH (s.drop i))).drop i))) fun (s, i) => rdO s (i + zI xH (s.drop i))) := by
 refine zg zj Tryz.func111 rfl (by decide) ?_
 rintro ⟨s, i⟩ ⟨hi, hs⟩
 refine ⟨Nat.le_refl _, by simp [Tryz.f111], fun E hE => ?_⟩
 refine zf _ ?_
 (all_goals refine qgp (Lf.mk ?_))
 refine zX (zd3 zpP) [0] [0] (s, i) ⟨hi, hs⟩ rfl rfl ?_
 refine And.intro (VS.mk (LeL.of_eq rfl)) (And.intro (VS.mk rfl) ?_)
 dsimp only
 have hw : ((s.take (i + zI xH (s.drop i))).drop i).length ≤ 1000000000 := by rw [List.length_drop, List.length_take]; omega
 generalize (s.take (i + zI xH (s.drop i))).drop i = w at *
 have hN := zuT w
 (all_goals refine qgp (Lf.mk ?_))
 refine ze jc (w, 10) ⟨hw, .inl rfl⟩ (VS.mk (LeL.of_eq rfl)) ?_
 dsimp only
 generalize puR 10 w = R10 at *
 obtain ⟨n10, e10⟩ := R10
 dsimp only at hN ⊢
 have hbad : (xE w).2 = false → wd w = (⟨0, 0, []⟩, 2) := fun h => by unfold wd; rw [h, if_neg (by decide)]
 have hgood : ∀ n, xE w = (n, true) → wd w = (⟨2, n, []⟩, 0) := fun n h => by unfold wd; rw [h]; rfl
 have hdd : List.drop (Int.toNat 2) (List.take ((w.length : Int)).toNat w) = w.drop 2 := by rw [Int.toNat_natCast, List.take_length]; rfl
 have hx : 2 < w.length → List.drop (Int.toNat 0) (List.take (Int.toNat 2) w) = [48, 120] → 2 < w.length ∧ w.take 2 = [48, 120] := fun h1 h2 => ⟨h1, h2⟩
 by_cases hxx : 2 < w.length ∧ w.take 2 = [48, 120]
 ·have hN := hN.1 hxx
  have hx1 := hxx.1
  have hx2 : List.drop (Int.toNat 0) (List.take (Int.toNat 2) w) = [48, 120] := hxx.2
  by_cases he : e10 = 0
  ·rw [if_pos he]
   (all_goals refine qgp ?_ <;> (repeat' first | exact trivial | intro hc | refine And.intro ?_ ?_) <;> refine Lf.mk ?_)
   all_goals first
    | (exfalso; exact absurd hx2 (by assumption))
    | skip
   refine ze jc (w.drop 2, 16) ⟨by rw [List.length_drop]; omega, .inr rfl⟩ (VS.mk (LeL.of_eq (by rw [hdd]; try rfl))) ?_
   dsimp only
   generalize puR 16 (w.drop 2) = R16 at *
   obtain ⟨n16, e16⟩ := R16
   dsimp only at hN ⊢
   rcases hN with ⟨h1, h2, h3, h4, h5⟩ | ⟨h1, h2⟩
   ·rw [if_pos h1]
    (all_goals refine qgp ?_ <;> (repeat' first | exact trivial | intro hc | refine And.intro ?_ ?_) <;> refine Lf.mk ?_)
    all_goals first
     | (exfalso; refine absurd trivial ?_; assumption)
     | (exfalso; exact Bool.noConfusion hc)
     | (exfalso; refine absurd hc ?_; decide)
     | skip
    refine ze ku (w, 95) trivial (VS.mk (LeL.of_eq rfl)) ?_
    dsimp only
    rw [h5]
    (all_goals refine qgp ?_ <;> (repeat' first | exact trivial | intro hc | refine And.intro ?_ ?_) <;> refine Lf.mk ?_)
    all_goals first
     | (exfalso; refine absurd trivial ?_; assumption)
     | (exfalso; exact Bool.noConfusion hc)
     | (exfalso; refine absurd hc ?_; decide)
     | skip
    refine yn (And.intro (VS.mk ?_) (VS.mk rfl))
    show _ = zd6 (wd w)
    rw [hgood _ h2]; rfl
   ·rw [if_neg h1]
    (all_goals refine qgp ?_ <;> (repeat' first | exact trivial | intro hc | refine And.intro ?_ ?_) <;> refine Lf.mk ?_)
    all_goals first
     | (exfalso; refine absurd trivial ?_; assumption)
     | (exfalso; exact Bool.noConfusion hc)
     | (exfalso; refine absurd hc ?_; decide)
     | skip
    refine yn (And.intro (VS.mk ?_) (VS.mk rfl))
    show _ = zd6 (wd w)
    rw [hbad h2]; rfl
  ·rw [if_neg he]
   (all_goals refine qgp ?_ <;> (repeat' first | exact trivial | intro hc | refine And.intro ?_ ?_) <;> refine Lf.mk ?_)
   all_goals first
    | (exfalso; exact absurd hx2 (by assumption))
    | skip
   refine ze jc (w.drop 2, 16) ⟨by rw [List.length_drop]; omega, .inr rfl⟩ (VS.mk (LeL.of_eq (by rw [hdd]; try rfl))) ?_
   dsimp only
   generalize puR 16 (w.drop 2) = R16 at *
   obtain ⟨n16, e16⟩ := R16
   dsimp only at hN ⊢
   rcases hN with ⟨h1, h2, h3, h4, h5⟩ | ⟨h1, h2⟩
   ·rw [if_pos h1]
    (all_goals refine qgp ?_ <;> (repeat' first | exact trivial | intro hc | refine And.intro ?_ ?_) <;> refine Lf.mk ?_)
    all_goals first
     | (exfalso; refine absurd trivial ?_; assumption)
     | (exfalso; exact Bool.noConfusion hc)
     | (exfalso; refine absurd hc ?_; decide)
     | skip
    refine ze ku (w, 95) trivial (VS.mk (LeL.of_eq rfl)) ?_
    dsimp only
    rw [h5]
    (all_goals refine qgp ?_ <;> (repeat' first | exact trivial | intro hc | refine And.intro ?_ ?_) <;> refine Lf.mk ?_)
    all_goals first
     | (exfalso; refine absurd trivial ?_; assumption)
     | (exfalso; exact Bool.noConfusion hc)
     | (exfalso; refine absurd hc ?_; decide)
     | skip
    refine yn (And.intro (VS.mk ?_) (VS.mk rfl))
    show _ = zd6 (wd w)
    rw [hgood _ h2]; rfl
   ·rw [if_neg h1]
    (all_goals refine qgp ?_ <;> (repeat' first | exact trivial | intro hc | refine And.intro ?_ ?_) <;> refine Lf.mk ?_)
    all_goals first
     | (exfalso; refine absurd trivial ?_; assumption)
     | (exfalso; exact Bool.noConfusion hc)
     | (exfalso; refine absurd hc ?_; decide)
     | skip
    refine yn (And.intro (VS.mk ?_) (VS.mk rfl))
    show _ = zd6 (wd w)
    rw [hbad h2]; rfl
 ·rcases hN.2 hxx with ⟨h1, h2, h3, h4, h5⟩ | ⟨h1, h2⟩
  ·rw [if_pos h1]
   (all_goals refine qgp ?_ <;> (repeat' first | exact trivial | intro hc | refine And.intro ?_ ?_) <;> refine Lf.mk ?_)
   all_goals first
    | (exfalso; exact hxx (hx (by omega) (by assumption)))
    | (exfalso; refine absurd trivial ?_; assumption)
    | (exfalso; exact Bool.noConfusion hc)
    | (exfalso; refine absurd hc ?_; decide)
    | skip
   all_goals
    refine ze ku (w, 95) trivial (VS.mk (LeL.of_eq rfl)) ?_
    dsimp only
    rw [h5]
   (all_goals refine qgp ?_ <;> (repeat' first | exact trivial | intro hc | refine And.intro ?_ ?_) <;> refine Lf.mk ?_)
   all_goals first
    | (exfalso; refine absurd trivial ?_; assumption)
    | (exfalso; exact Bool.noConfusion hc)
    | skip
   all_goals
    refine yn (And.intro (VS.mk ?_) (VS.mk rfl))
    show _ = zd6 (wd w)
    rw [hgood _ h2]; rfl
  ·rw [if_neg h1]
   (all_goals refine qgp ?_ <;> (repeat' first | exact trivial | intro hc | refine And.intro ?_ ?_) <;> refine Lf.mk ?_)
   all_goals first
    | (exfalso; exact hxx (hx (by omega) (by assumption)))
    | (exfalso; refine absurd trivial ?_; assumption)
    | (exfalso; exact Bool.noConfusion hc)
    | (exfalso; refine absurd hc ?_; decide)
    | skip
   all_goals
    refine yn (And.intro (VS.mk ?_) (VS.mk rfl))
    show _ = zd6 (wd w)
    rw [hbad h2]; rfl
end Go.Proofs.YthmdddenbfbefaaGreatDoor
namespace Go.Proofs.YthmdddenbfbefaaGreatDoor
open Go Go.Plat
set_option linter.unusedVariables false
set_option linter.unusedSimpArgs false
set_option maxRecDepth 100000
set_option maxHeartbeats 2000000
attribute [local irreducible] AWP zy ye zF zn yt z6 zE zW zY zp za zN yu zo zZ yp yq yj yl zt zu zw xF yo yk zG w3 xo xH xE okC zI xR
def xS (s : List UInt8) (i : Nat) : (yB × Int) × Nat :=
 if (s.drop i).take 2 = [60, 60] then ((⟨3, 0, [60, 60]⟩, 0), i + 2) else if (s.drop i).take 2 = [62, 62] then ((⟨3, 0, [62, 62]⟩, 0), i + 2)
 else if zds.contains (s.getD i 0) = true then ((⟨3, 0, [s.getD i 0]⟩, 0), i + 1) else ((⟨0, 0, []⟩, 2), i)
def zfr (p : yB × Int) : D := .tup [wN p.1, .int .i64 p.2]
theorem zn1 : za Tryz.prog zfl (yh (fun ((s, i) : List UInt8 × Nat) => i < s.length ∧ s.length ≤ 1000000000) (fun _ => [.loc 0 0]) (fun (s, i) => rdO s i)
  (fun (s, i) => zfr (xS s i).1) fun (s, i) => rdO s (xS s i).2) := by
 refine zg zj Tryz.func112 rfl (by decide) ?_
 rintro ⟨s, i⟩ ⟨hi, hs⟩
 refine ⟨Nat.le_refl _, by simp [Tryz.f112], fun E hE => ?_⟩
 have hi : i < s.length := hi
 have hs : s.length ≤ 1000000000 := hs
 refine zf _ ?_
 (all_goals refine qgp (Lf.mk ?_))
 refine z8 (α := Nat) (fun k => k ≤ 2 ∧ (1 ≤ k → (s.drop i).take 2 ≠ [60, 60]) ∧ (2 ≤ k → (s.drop i).take 2 ≠ [62, 62]))
  (fun k => [(0, .loc 0 0), (2, .loc 1 0), (7, .sl 1 [.str [60, 60], .str [62, 62]] none), (8, .int .i64 2), (9, .int .i64 k)])
  (fun k => rdO s i ++ [.cells [.int .i64 0, .int .i64 0, .str []]]) (fun k => 2 - k) (fun _ => by simp [hE, rdO]) 0 ⟨by decide, fun h => absurd h (by decide), fun h => absurd h (by decide)⟩ ?_ ?_
 ·(repeat' (first | (refine VS.mk ?_) | exact trivial | exact rfl | refine And.intro ?_ ?_))
 rintro k ⟨hk, h1, h2⟩
 have hd : ∀ x : List UInt8, x.length = 2 → (decide ((s.drop i).take x.length = x) = true ↔ (s.drop i).take 2 = x) := fun x hx => by rw [hx, decide_eq_true_iff]
 have hk3 : k = 0 ∨ k = 1 ∨ k = 2 := by omega
 rcases hk3 with rfl | rfl | rfl
 all_goals refine zf _ ?_
 (all_goals refine qgp ?_ <;> (repeat' first | exact trivial | intro hc | refine And.intro ?_ ?_) <;> refine Lf.mk ?_)
 ·refine ze zfq (s.drop i, [60, 60]) ⟨by rw [List.length_drop]; omega, by decide⟩ (VS.mk (LeL.of_eq (by rw [Int.toNat_natCast, Int.toNat_natCast, List.take_length]))) ?_
  (all_goals refine qgp ?_ <;> (repeat' first | exact trivial | intro hc | refine And.intro ?_ ?_) <;> refine Lf.mk ?_)
  ·have h := (hd [60, 60] rfl).1 (by simpa using hc)
   have e : xS s i = ((⟨3, 0, [60, 60]⟩, 0), i + 2) := by unfold xS; rw [if_pos h]
   refine yn (And.intro (VS.mk ?_) (VS.mk ?_))
   ·show _ = zfr (xS s i).1
    rw [e]; rfl
   ·show _ = rdO s (xS s i).2
    rw [e]; rfl
  ·have h : (s.drop i).take 2 ≠ [60, 60] := fun h => absurd ((hd [60, 60] rfl).2 h) (by simpa using hc)
   refine zC 1 ⟨by decide, fun _ => h, fun h => absurd h (by decide)⟩ (by decide) ?_
   (repeat' (first | (refine VS.mk ?_) | exact trivial | exact rfl | refine And.intro ?_ ?_))
 ·refine ze zfq (s.drop i, [62, 62]) ⟨by rw [List.length_drop]; omega, by decide⟩ (VS.mk (LeL.of_eq (by rw [Int.toNat_natCast, Int.toNat_natCast, List.take_length]))) ?_
  (all_goals refine qgp ?_ <;> (repeat' first | exact trivial | intro hc | refine And.intro ?_ ?_) <;> refine Lf.mk ?_)
  ·have h := (hd [62, 62] rfl).1 (by simpa using hc)
   have e : xS s i = ((⟨3, 0, [62, 62]⟩, 0), i + 2) := by unfold xS; rw [if_neg (h1 (by decide)), if_pos h]
   refine yn (And.intro (VS.mk ?_) (VS.mk ?_))
   ·show _ = zfr (xS s i).1
    rw [e]; rfl
   ·show _ = rdO s (xS s i).2
    rw [e]; rfl
  ·have h : (s.drop i).take 2 ≠ [62, 62] := fun h => absurd ((hd [62, 62] rfl).2 h) (by simpa using hc)
   refine zC 2 ⟨by decide, fun _ => h1 (by decide), fun _ => h⟩ (by decide) ?_
   (repeat' (first | (refine VS.mk ?_) | exact trivial | exact rfl | refine And.intro ?_ ?_))
 ·have hone : List.drop ((i : Int)).toNat (List.take ((i : Int) + 1).toNat s) = [s.getD i 0] := by
   rw [Int.toNat_natCast, show ((i : Int) + 1).toNat = i + 1 by omega, List.drop_take, zcI (d := 0) hi, show i + 1 - i = 1 by omega]; rfl
  refine ze ku (zds, s.getD i 0) trivial (VS.mk (LeL.of_eq (by rw [hone]; rfl))) ?_
  (all_goals refine qgp ?_ <;> (repeat' first | exact trivial | intro hc | refine And.intro ?_ ?_) <;> refine Lf.mk ?_)
  ·have e : xS s i = ((⟨0, 0, []⟩, 2), i) := by unfold xS; rw [if_neg (h1 (by decide)), if_neg (h2 (by decide)), if_neg (by rw [hc]; decide)]
   refine yn (And.intro (VS.mk ?_) (VS.mk ?_))
   ·show _ = zfr (xS s i).1
    rw [e]; rfl
   ·show _ = rdO s (xS s i).2
    rw [e]; rfl
  ·have e : xS s i = ((⟨3, 0, [s.getD i 0]⟩, 0), i + 1) := by unfold xS; rw [if_neg (h1 (by decide)), if_neg (h2 (by decide)), if_pos hc]
   refine yn (And.intro (VS.mk ?_) (VS.mk ?_))
   ·show _ = zfr (xS s i).1
    rw [e, hone]; rfl
   ·show _ = rdO s (xS s i).2
    rw [e]; rfl
attribute [local irreducible] yD wd puF puR xS
theorem zrh {p : UInt8 → Bool} : ∀ {l : List UInt8} {x : UInt8}, x ∈ l.takeWhile p → p x = true
 | [], x, h => by simp at h
 | a :: l, x, h => by
  rw [List.takeWhile_cons] at h
  split at h
  ·rename_i ha
   rcases List.mem_cons.1 h with rfl | h
   ·exact ha
   ·exact zrh h
  ·simp at h
theorem zgr : za Tryz.prog zkM (zA (fun s : List UInt8 => s.length ≤ 1000000000) (fun s => [.str s]) fun s => zwS (qe s)) := by
 refine zg zj Tryz.func58 rfl (by decide) ?_
 intro s hs
 refine ⟨Nat.le_refl _, by simp [Tryz.f58], fun E hE => ?_⟩
 have hR := zoz s
 refine zf _ ?_
 (all_goals refine qgp ?_ <;> (repeat' first | exact trivial | intro hc | refine And.intro ?_ ?_) <;> refine Lf.mk ?_)
 ·rw [if_pos (by omega)] at hR
  refine zb (VS.mk ?_)
  rw [hR]
  exact .tup (.cons (.nil 3) (.cons (.refl _) .nil))
 rw [if_neg (by omega)] at hR
 refine ze zrc (s, 59) hs (VS.mk (LeL.of_eq rfl)) ?_
 unfold zs4 zs3
 dsimp only
 have hno : ∀ x ∈ s.takeWhile (· != 59), x ≠ 59 := fun x hx => by
  have := zrh hx
  simpa using this
 have hul : (s.takeWhile (· != 59)).length ≤ s.length := (List.takeWhile_prefix _).length_le
 rw [zuS] at hR
 generalize s.takeWhile (· != 59) = u at *
 (all_goals refine qgp (Lf.mk ?_))
 refine wW (qX 5 3 rfl) ?_
 refine z8 (α := Nat × List yB) (fun p => p.1 ≤ u.length ∧ p.2.length ≤ p.1 ∧ xo u [] = xo (u.drop p.1) p.2)
  (fun p => [(4, .loc 0 0), (5, .sl 3 (p.2.map wN) (some 1))])
  (fun p => rdO u p.1 ++ [.spare p.2.length]) (fun p => u.length - p.1) (fun _ => by simp [hE]) (0, []) ⟨Nat.zero_le _, Nat.le_refl _, rfl⟩ ?_ ?_
 ·(repeat' (first | (refine VS.mk ?_) | exact trivial | exact rfl | refine And.intro ?_ ?_))
 rintro ⟨i, out⟩ ⟨hi, ho, hf⟩
 dsimp only at hi ho hf ⊢
 have hj1 : i + zI xF (u.drop i) ≤ u.length := by have := zdt xF (u.drop i); rw [List.length_drop] at this; omega
 have hj2 : xo u [] = xo (u.drop (i + zI xF (u.drop i))) out := by rw [hf, zml, List.drop_drop]
 have hj3 : i + zI xF (u.drop i) < u.length → xF (u.getD (i + zI xF (u.drop i)) 0) = false := fun h => by
  have := zhg xF (u.drop i) (by rw [List.length_drop]; omega)
  rwa [List.getD_eq_getElem?_getD, List.getElem?_drop, ← List.getD_eq_getElem?_getD] at this
 have hj4 : i ≤ i + zI xF (u.drop i) := Nat.le_add_right _ _
 refine zf _ ?_
 (all_goals refine qgp (Lf.mk ?_))
 refine zX (zd3 zn0) [0] [0] (u, i) ⟨hi, by omega⟩ rfl rfl ?_
 refine And.intro (VS.mk (LeL.of_eq rfl)) (And.intro (VS.mk rfl) ?_)
 dsimp only
 generalize i + zI xF (u.drop i) = j at *
 (all_goals refine qgp ?_ <;> (repeat' first | exact trivial | intro hc | refine And.intro ?_ ?_) <;> refine Lf.mk ?_)
 ·rw [List.drop_of_length_le (by omega), zhh] at hj2
  rw [hj2] at hR
  refine zb (VS.mk ?_)
  rw [hR]
  (first | exact LeL.refl _ | (repeat' (first | exact LeL.nil | exact LeD.refl _ | exact LeD.nil _ | exact LeD.strip _ _ _ | refine LeL.cons ?_ ?_ | refine LeD.tup ?_ | refine LeD.agg ?_)))
 have hjl : j < u.length := by omega
 obtain ⟨c, hcx⟩ : ∃ c, u.getD j 0 = c := ⟨_, rfl⟩
 obtain ⟨r, hr⟩ : ∃ r, u.drop (j + 1) = r := ⟨_, rfl⟩
 have hd : u.drop j = c :: r := by rw [zcI (d := 0) hjl, hcx, hr]
 have h59 : c ≠ 59 := hno c (by rw [← hcx, List.getD_eq_getElem?_getD, List.getElem?_eq_getElem hjl]; exact List.getElem_mem hjl)
 have hK := zd4 c
 have hbl := hj3 hjl
 rw [hcx] at hbl
 rw [hd, wq] at hj2
 refine ze q9 c trivial (VS.mk (LeL.of_eq (by rw [Int.toNat_natCast, hcx]; rfl))) ?_
 (all_goals refine qgp ?_ <;> (repeat' first | exact trivial | intro hc | refine And.intro ?_ ?_) <;> refine Lf.mk ?_)
 ·have hk97 := hK.2.2.2.1 hc
  have h1 := zbw (r := r) hk97
  have h2 := zdt xR (c :: r)
  rw [if_neg (by rw [hk97]; decide), if_pos hk97, ← hd, List.drop_drop] at hj2
  rw [← hd] at h1 h2
  rw [List.length_drop] at h2
  refine zX (zd3 zpO) [0] [0] (u, j) ⟨hj1, by omega⟩ rfl rfl ?_
  refine And.intro (VS.mk (LeL.of_eq rfl)) (And.intro (VS.mk rfl) ?_)
  dsimp only
  rw [List.drop_take, Nat.add_sub_cancel_left]
  generalize zI xR (u.drop j) = sp at *
  (all_goals refine qgp ?_ <;> (repeat' first | exact trivial | intro hc | refine And.intro ?_ ?_) <;> refine Lf.mk ?_)
  all_goals first
   | (exfalso; refine absurd hc ?_; decide)
   | skip
  refine zC (j + sp, out ++ [⟨1, 0, (u.drop j).take sp⟩]) ⟨by dsimp only; omega, by dsimp only; rw [List.length_append, List.length_cons, List.length_nil]; omega, hj2⟩ (by dsimp only; omega) ?_
  (repeat' (first | (refine VS.mk ?_) | exact trivial | exact rfl | refine And.intro ?_ ?_))
  all_goals (first | rfl | simp [wN, rdO])
 refine ze zat c trivial (VS.mk (LeL.of_eq (by rw [Int.toNat_natCast, hcx]; rfl))) ?_
 have hl : zG c = false := hc
 (all_goals refine qgp ?_ <;> (repeat' first | exact trivial | intro hc | refine And.intro ?_ ?_) <;> refine Lf.mk ?_)
 ·have hk48 := hK.2.2.2.2.1 hl hc
  have h1 := zcJ (r := r) hk48
  have h2 := zdt xH (c :: r)
  rw [if_neg (by rw [hk48]; decide), if_neg (by rw [hk48]; decide), if_pos hk48, ← hd, List.drop_drop] at hj2
  rw [← hd] at h1 h2
  rw [List.length_drop] at h2
  refine zX zkS [0] [0] (u, j) ⟨hj1, by omega⟩ rfl rfl ?_
  refine And.intro (VS.mk (LeL.of_eq rfl)) (And.intro (VS.mk rfl) ?_)
  dsimp only
  rw [List.drop_take, Nat.add_sub_cancel_left]
  generalize zI xH (u.drop j) = sp at *
  generalize (u.drop j).take sp = w at *
  have hT : wd w = if (xE w).2 = true then (⟨2, (xE w).1, []⟩, 0) else (⟨0, 0, []⟩, 2) := by unfold wd; rfl
  by_cases hn : (xE w).2 = true
  ·rw [if_pos hn] at hj2 hT
   rw [hT]
   (all_goals refine qgp ?_ <;> (repeat' first | exact trivial | intro hc | refine And.intro ?_ ?_) <;> refine Lf.mk ?_)
   all_goals first
    | (exfalso; refine absurd hc ?_; decide)
    | skip
   refine zC (j + sp, out ++ [⟨2, (xE w).1, []⟩]) ⟨by dsimp only; omega, by dsimp only; rw [List.length_append, List.length_cons, List.length_nil]; omega, hj2⟩ (by dsimp only; omega) ?_
   (repeat' (first | (refine VS.mk ?_) | exact trivial | exact rfl | refine And.intro ?_ ?_))
   all_goals (first | rfl | simp [wN, rdO])
  ·rw [if_neg hn] at hj2 hT
   rw [hT]
   rw [hj2] at hR
   (all_goals refine qgp ?_ <;> (repeat' first | exact trivial | intro hc | refine And.intro ?_ ?_) <;> refine Lf.mk ?_)
   all_goals first
    | (exfalso; refine absurd hc ?_; decide)
    | skip
   refine zb (VS.mk ?_)
   rw [hR]
   exact .tup (.cons (.nil 3) (.cons (.refl _) .nil))
 ·obtain ⟨k1, k2, k3⟩ := hK.2.2.2.2.2 hl hc hbl
  rw [if_neg k3, if_neg k1, if_neg k2, if_neg h59] at hj2
  refine zX zn1 [0] [0] (u, j) ⟨hjl, by omega⟩ rfl rfl ?_
  refine And.intro (VS.mk (LeL.of_eq rfl)) (And.intro (VS.mk rfl) ?_)
  dsimp only
  have hS : xS u j = if (u.drop j).take 2 = [60, 60] then ((⟨3, 0, [60, 60]⟩, 0), j + 2) else if (u.drop j).take 2 = [62, 62] then ((⟨3, 0, [62, 62]⟩, 0), j + 2)
    else if zds.contains (u.getD j 0) = true then ((⟨3, 0, [u.getD j 0]⟩, 0), j + 1) else ((⟨0, 0, []⟩, 2), j) := by unfold xS; rfl
  rw [hcx, hd] at hS
  have hr1 : r.drop 1 = u.drop (j + 2) := by rw [← hr, List.drop_drop]
  have two : ∀ x : UInt8, (c :: r).take 2 = [x, x] → j + 2 ≤ u.length := fun x h => by
   have := congrArg List.length h
   rw [← hd, List.length_take, List.length_drop] at this
   simp at this
   omega
  by_cases q1 : (c :: r).take 2 = [60, 60]
  ·have := two 60 q1
   rw [if_pos (.inl q1), hr1, q1] at hj2
   rw [if_pos q1] at hS
   rw [hS]
   (all_goals refine qgp ?_ <;> (repeat' first | exact trivial | intro hc | refine And.intro ?_ ?_) <;> refine Lf.mk ?_)
   all_goals first
    | (exfalso; refine absurd hc ?_; decide)
    | skip
   refine zC (j + 2, out ++ [⟨3, 0, [60, 60]⟩]) ⟨by dsimp only; omega, by dsimp only; rw [List.length_append, List.length_cons, List.length_nil]; omega, hj2⟩ (by dsimp only; omega) ?_
   (repeat' (first | (refine VS.mk ?_) | exact trivial | exact rfl | refine And.intro ?_ ?_))
   all_goals (first | rfl | simp [wN, rdO])
  by_cases q2 : (c :: r).take 2 = [62, 62]
  ·have := two 62 q2
   rw [if_pos (.inr q2), hr1, q2] at hj2
   rw [if_neg q1, if_pos q2] at hS
   rw [hS]
   (all_goals refine qgp ?_ <;> (repeat' first | exact trivial | intro hc | refine And.intro ?_ ?_) <;> refine Lf.mk ?_)
   all_goals first
    | (exfalso; refine absurd hc ?_; decide)
    | skip
   refine zC (j + 2, out ++ [⟨3, 0, [62, 62]⟩]) ⟨by dsimp only; omega, by dsimp only; rw [List.length_append, List.length_cons, List.length_nil]; omega, hj2⟩ (by dsimp only; omega) ?_
   (repeat' (first | (refine VS.mk ?_) | exact trivial | exact rfl | refine And.intro ?_ ?_))
   all_goals (first | rfl | simp [wN, rdO])
  rw [if_neg (fun h => h.elim q1 q2)] at hj2
  rw [if_neg q1, if_neg q2] at hS
  by_cases q3 : zds.contains c = true
  ·rw [if_pos q3, ← hr] at hj2
   rw [if_pos q3] at hS
   rw [hS]
   (all_goals refine qgp ?_ <;> (repeat' first | exact trivial | intro hc | refine And.intro ?_ ?_) <;> refine Lf.mk ?_)
   all_goals first
    | (exfalso; refine absurd hc ?_; decide)
    | skip
   refine zC (j + 1, out ++ [⟨3, 0, [c]⟩]) ⟨by dsimp only; omega, by dsimp only; rw [List.length_append, List.length_cons, List.length_nil]; omega, hj2⟩ (by dsimp only; omega) ?_
   (repeat' (first | (refine VS.mk ?_) | exact trivial | exact rfl | refine And.intro ?_ ?_))
   all_goals (first | rfl | simp [wN, rdO])
  ·rw [if_neg q3] at hj2 hS
   rw [hS]
   rw [hj2] at hR
   (all_goals refine qgp ?_ <;> (repeat' first | exact trivial | intro hc | refine And.intro ?_ ?_) <;> refine Lf.mk ?_)
   all_goals first
    | (exfalso; refine absurd hc ?_; decide)
    | skip
   refine zb (VS.mk ?_)
   rw [hR]
   exact .tup (.cons (.nil 3) (.cons (.refl _) .nil))
end Go.Proofs.YthmdddenbfbefaaGreatDoor
namespace Go.Proofs.YthmdddenbfbefaaGreatDoor
open Go Go.Plat
set_option linter.unusedVariables false
set_option linter.unusedSimpArgs false
set_option maxRecDepth 100000
set_option maxHeartbeats 2000000
attribute [local irreducible] AWP zy ye zF zn yt z6 zE zW zY zp za zN yu zo zZ yp yq yj yl zt zu zw yo yk zG w3 xo xH xE okC zI xR
def yx (c : UInt8) : List UInt8 → List (List UInt8)
 | [] => [[]]
 | b :: l => if b = c then [] :: yx c l else match yx c l with
  | [] => [[b]]
  | x :: r => (b :: x) :: r
theorem jw (c : UInt8) : ∀ s, (yx c s).length = s.count c + 1
 | [] => rfl
 | b :: l => by
  have ih := jw c l
  rw [yx, List.count_cons]
  by_cases h : b = c
  ·rw [if_pos h, h]; simp; omega
  ·rw [if_neg h]
   have e : (b == c) = false := beq_eq_false_iff_ne.2 h
   rw [e]
   cases hl : yx c l with
   | nil => rw [hl] at ih; simp at ih
   | cons x r => rw [hl] at ih; simpa using ih
theorem zcL (c : UInt8) : ∀ s : List UInt8, (s.contains c = false → yx c s = [s]) ∧ (s.contains c = true → yx c s = s.takeWhile (· != c) :: yx c ((s.dropWhile (· != c)).drop 1))
 | [] => ⟨fun _ => rfl, fun h => by simp at h⟩
 | b :: l => by
  obtain ⟨h1, h2⟩ := zcL c l
  rw [yx, List.contains_cons, List.takeWhile_cons, List.dropWhile_cons]
  by_cases h : b = c
  ·subst h
   refine ⟨fun h => by simp at h, fun _ => ?_⟩
   rw [if_pos rfl]
   simp
  ·have e : (b == c) = false := beq_eq_false_iff_ne.2 h
   have e1 : (c == b) = false := beq_eq_false_iff_ne.2 fun q => h q.symm
   have e2 : (b != c) = true := by simp [bne, e]
   rw [if_neg h, e1, Bool.false_or, e2, if_pos rfl, if_pos rfl]
   refine ⟨fun h => by rw [h1 h], fun h => by rw [h2 h]⟩
theorem zpQ (c : UInt8) (s : List UInt8) (h : s.contains c = true) : s.count c = ((s.dropWhile (· != c)).drop 1).count c + 1 := by
 have h1 := jw c s
 rw [(zcL c s).2 h, List.length_cons, jw] at h1
 omega
theorem zri {c : UInt8} {s : List UInt8} (h : 0 < s.count c) : s.contains c = true := by
 rw [List.contains_iff_mem]
 exact List.count_pos_iff.1 h
theorem zpR {c : UInt8} {s : List UInt8} (h : s.count c = 0) : s.contains c = false := by
 cases e : s.contains c with
 | false => rfl
 | true =>
  rw [List.contains_iff_mem] at e
  have := List.count_pos_iff.2 e
  omega
theorem zs7 {n : Nat} {x : D} {K : List D → Nat → Prop} (h : K (List.replicate n x) n) : zo (List.replicate n x) K := by unfold zo; rw [List.length_replicate]; exact h
def kE (pre : List (List UInt8)) (m : Nat) : List D := (pre ++ List.replicate m []).map D.str
theorem zs8 (pre : List (List UInt8)) (m : Nat) (x : List UInt8) : (kE pre (m + 1)).set pre.length (.str x) = kE (pre ++ [x]) m := by
 unfold kE
 rw [← List.map_set, List.set_append_right _ _ (Nat.le_refl _), Nat.sub_self, List.replicate_succ, List.set_cons_zero, List.append_assoc]
 rfl
theorem zmn (pre : List (List UInt8)) (m : Nat) : (kE pre m).length = pre.length + m := by unfold kE; simp
theorem zj8 {m : Nat → Option Nat} {ds : List D} {K : List D → Prop} (l : List (List UInt8)) (h : ds = l.map D.str) (hK : K (l.map D.str)) : zsO m ds K := by
 subst h
 have hp : ∀ (c : List UInt8), xw m (D.str c) (D.str c) := fun c => xh trivial
 refine ⟨l.map D.str, ⟨rfl, fun i d d' h1 h2 => ?_⟩, fun i d d' h1 h2 => ?_, hK⟩
 all_goals
  rw [h1] at h2
  cases h2
  simp only [List.getElem?_map, Option.map_eq_some_iff] at h1
  obtain ⟨c, _, rfl⟩ := h1
 ·exact hp c
 ·refine ⟨rfl, rfl, fun j x x' h3 h4 => ?_⟩
  rw [h3] at h4
  cases h4
  cases j with
  | zero => simp [D.cells] at h3; subst h3; exact hp c
  | succ j => simp [D.cells] at h3
theorem zpS (l : List (List UInt8)) : zbX (l.map D.str) (l.map D.str) := by
 refine ⟨rfl, fun i d d' h1 h2 => ?_⟩
 rw [h1] at h2
 cases h2
 simp only [List.getElem?_map, Option.map_eq_some_iff] at h1
 obtain ⟨c, _, rfl⟩ := h1
 refine ⟨rfl, rfl, fun j x x' h3 h4 => ?_⟩
 rw [h3] at h4
 cases h4
 cases j with
 | zero =>
  simp [D.cells] at h3
  subst h3
  intro w F ρ L v h
  cases h with | pure _ _ h => exact h
 | succ j => simp [D.cells] at h3
theorem zoE {ds ds' : List D} {n : Nat} {K : List D → Nat → Prop} (h : ds = ds') (hn : ds'.length = n) (hK : K ds' n) : zo ds K := by unfold zo; subst h; rw [hn]; exact hK
theorem zoF {pre : List (List UInt8)} {m : Nat} {n : Int} {K : D → Prop} (hn : n = pre.length) (h : K (.str [])) : zW (kE pre (m + 1)) n K :=
 zl (enc := D.str) [] (by omega) (by rw [hn, Int.toNat_natCast, List.getElem?_append_right (Nat.le_refl _), Nat.sub_self]; rfl) h
attribute [local irreducible] kE
theorem zmo : za Tryz.prog zfk (zA (fun ((s, c) : List UInt8 × UInt8) => s.length ≤ 1000000) (fun (s, c) => [.str s, .str [c], .int .i64 0, .int .i64 (-1)]) fun (s, c) => .sl 1 ((yx c s).map .str) none) := by
 refine zg zj Tryz.func104 rfl (by decide) ?_
 rintro ⟨s, c⟩ hs
 have hs : s.length ≤ 1000000 := hs
 have hcl := List.count_le_length (a := c) (l := s)
 refine ⟨Nat.le_refl _, by simp [Tryz.f104], fun E hE => ?_⟩
 refine zf _ ?_
 (all_goals refine qgp ?_ <;> (repeat' first | exact trivial | intro hc | refine And.intro ?_ ?_) <;> refine Lf.mk ?_)
 all_goals first
  | (exfalso; exact List.cons_ne_nil _ _ hc)
  | skip
 refine ze znZ (s, c) trivial (VS.mk (LeL.of_eq rfl)) ?_
 have hmin : min ((s.count c : Int) + 1) ((s.length : Int) + 1) = ((s.count c + 1 : Nat) : Int) := by omega
 (all_goals refine qgs (Lf.mk ?_))
 refine zli ?_
 refine VS.mk (xa ?_ (VS.mk ?_))
 ·dsimp only
  refine ⟨by omega, rfl, ?_, by omega⟩
  show min ((s.count c : Int) + 1) ((s.length : Int) + 1) * ((16 : Nat) : Int) ≤ _
  omega
 dsimp only
 rw [hmin, Int.toNat_natCast]
 refine zs7 ?_
 (all_goals refine qgo (Lf.mk ?_))
 refine z8 (α := List (List UInt8) × List UInt8) (fun p => yx c s = p.1 ++ yx c p.2 ∧ p.2.length ≤ s.length ∧ p.1.length + p.2.count c = s.count c)
  (fun p => [(0, .str p.2), (1, .str [c]), (2, .int .i64 0), (3, .int .i64 (s.count c)), (9, .osl 1 0 (s.count c + 1) 0 (s.count c + 1)), (10, .int .i64 p.1.length)])
  (fun p => [.arr 1 (kE p.1 (s.count c + 1 - p.1.length))]) (fun p => p.2.count c) (fun _ => by simp [hE]) ([], s) ⟨rfl, Nat.le_refl _, by simp⟩ ?_ ?_
 ·(repeat' (first | (refine VS.mk ?_) | exact trivial | exact rfl | refine And.intro ?_ ?_))
  ·refine zj8 (List.replicate (s.count c + 1) []) (by rw [List.map_replicate]; rfl) ?_
   (repeat' (first | (refine VS.mk ?_) | exact trivial | exact rfl | refine And.intro ?_ ?_))
   unfold kE
   rfl
  ·exact congrArg (D.int .i64) (by omega)
 rintro ⟨pre, rest⟩ ⟨hsp, hrl, hct⟩
 dsimp only at hsp hrl hct ⊢
 have hsl := zmn pre (s.count c - pre.length + 1)
 have hm1 : s.count c + 1 - pre.length = s.count c - pre.length + 1 := by omega
 have hset := fun x => zs8 pre (s.count c - pre.length) x
 have hsl2 := fun x => zmn (pre ++ [x]) (s.count c - pre.length)
 rw [hm1]
 refine zf _ ?_
 (all_goals refine qgo ?_ <;> (repeat' first | exact trivial | intro hc | refine And.intro ?_ ?_) <;> refine Lf.mk ?_)
 ·have hct2 : rest.contains c = true := zri (by omega)
  have hcd := zpQ c rest hct2
  have hi := zcK c rest
  have hb : -1 ≤ Lib.indexByte rest c ∧ Lib.indexByte rest c ≤ rest.length ∧ (0 ≤ Lib.indexByte rest c → Lib.indexByte rest c < rest.length) := by omega
  have hl1 : ([c] : List UInt8).length = 1 := rfl
  have hpos : 0 ≤ Lib.indexByte rest c := by
   rcases hi with ⟨_, h2, _⟩ | ⟨h1, _⟩
   ·rw [hct2] at h2; cases h2
   ·exact h1
  refine ze zmd (rest, c) trivial (VS.mk (LeL.of_eq rfl)) ?_
  (all_goals refine qgp ?_ <;> (repeat' first | exact trivial | intro hc | refine And.intro ?_ ?_) <;> refine Lf.mk ?_)
  refine zoF (by omega) ?_
  refine VS.mk ?_
  rcases hi with ⟨h1, _⟩ | ⟨_, _, h3, h4, h5⟩
  ·omega
  have hsp2 := (zcL c rest).2 hct2
  rw [← h4] at hsp2 hcd
  generalize Lib.indexByte rest c = ix at *
  generalize hT : rest.takeWhile (· != c) = tw at *
  have htw : rest.take tw.length = tw := by rw [← hT]; exact zme _ rest
  subst h3
  have hdl : (rest.drop (tw.length + 1)).length ≤ rest.length := by rw [List.length_drop]; omega
  refine zoE (ds' := kE (pre ++ [tw]) (s.count c - pre.length)) (n := s.count c + 1) ?_ ?_ ?_
  ·rw [← hset tw, Nat.zero_add, Int.toNat_natCast, show ((tw.length : Int) + 0).toNat = tw.length by omega, htw]
   rfl
  ·rw [hsl2 tw, List.length_append, List.length_cons, List.length_nil]; omega
  (all_goals refine qgp (Lf.mk ?_))
  have g1 : yx c s = (pre ++ [tw]) ++ yx c (rest.drop (tw.length + 1)) := by rw [hsp, hsp2, List.append_assoc]; rfl
  have g2 : (pre ++ [tw]).length + (rest.drop (tw.length + 1)).count c = s.count c := by rw [List.length_append, List.length_cons, List.length_nil]; omega
  refine zC (pre ++ [tw], rest.drop (tw.length + 1)) ⟨g1, by dsimp only; omega, g2⟩ (by dsimp only; omega) ?_
  (repeat' (first | (refine VS.mk ?_) | exact trivial | exact rfl | refine And.intro ?_ ?_))
  ·refine zj8 ((pre ++ [tw]) ++ List.replicate (s.count c - pre.length) []) (by unfold kE; rfl) ?_
   (repeat' (first | (refine VS.mk ?_) | exact trivial | exact rfl | refine And.intro ?_ ?_))
   show _ = [Ob.arr 1 (kE (pre ++ [tw]) (s.count c + 1 - (pre ++ [tw]).length))]
   rw [show s.count c + 1 - (pre ++ [tw]).length = s.count c - pre.length by rw [List.length_append, List.length_cons, List.length_nil]; omega]
   unfold kE
   rfl
  ·refine congrArg D.str ?_
   dsimp only
   rw [hl1, Int.toNat_natCast, List.take_length, show ((tw.length : Int) + ((1 : Nat) : Int)).toNat = tw.length + 1 by omega]
  ·refine congrArg (D.int .i64) ?_
   dsimp only
   rw [List.length_append, List.length_cons, List.length_nil]; omega
 ·refine zoF (by omega) ?_
  refine VS.mk ?_
  have hno := (zcL c rest).1 (zpR (by omega))
  refine zoE (ds' := kE (pre ++ [rest]) (s.count c - pre.length)) (n := s.count c + 1) ?_ ?_ ?_
  ·rw [← hset rest, Nat.zero_add, Int.toNat_natCast]
  ·rw [hsl2 rest, List.length_append, List.length_cons, List.length_nil]; omega
  (all_goals refine qgp (Lf.mk ?_))
  have hfin : kE (pre ++ [rest]) (s.count c - pre.length) = (yx c s).map D.str := by
   rw [hsp, hno, show s.count c - pre.length = 0 by omega]
   unfold kE
   rw [List.replicate_zero, List.append_nil]
  rw [hfin]
  have hfl : ((yx c s).map D.str).length = s.count c + 1 := by rw [List.length_map, jw]
  rw [show ((pre.length : Int) + 1).toNat - Int.toNat 0 = s.count c + 1 by simp only [Int.toNat_zero]; omega]
  show zE 0 (.osl 1 0 (s.count c + 1) 0 (s.count c + 1)) _ _ []
  refine zdT (k := 0) (e := 1) (els := (yx c s).map D.str) (els' := (yx c s).map D.str) rfl (Nat.le_refl _) (zpS _) (.here _ _ hfl.symm hfl.symm) ?_ (Nat.le_refl _)
  exact zb (VS.mk (LeD.of_eq rfl))
theorem zn2 : za Tryz.prog zii (zA (fun ((s, c) : List UInt8 × UInt8) => s.length ≤ 1000000) (fun (s, c) => [.str s, .str [c]]) fun (s, c) => .sl 1 ((yx c s).map .str) none) := by
 refine zg zj Tryz.func57 rfl (by decide) ?_
 rintro ⟨s, c⟩ hs
 refine ⟨Nat.le_refl _, by simp [Tryz.f57], fun E hE => ?_⟩
 refine zf _ ?_
 (all_goals refine qgp (Lf.mk ?_))
 refine ze zmo (s, c) hs (VS.mk (LeL.of_eq rfl)) ?_
 (all_goals refine qgp (Lf.mk ?_))
 exact zb (VS.mk (LeD.of_eq rfl))
end Go.Proofs.YthmdddenbfbefaaGreatDoor
namespace Go.Proofs.YthmdddenbfbefaaGreatDoor
open Go Go.Plat
set_option linter.unusedVariables false
set_option linter.unusedSimpArgs false
set_option maxRecDepth 100000
set_option maxHeartbeats 2000000
attribute [local irreducible] AWP zy ye zF zn yt z6 zE zW zY zp za zN yu zo zZ yp yq yj yl zt zu zw yD yo yk zG okC
end Go.Proofs.YthmdddenbfbefaaGreatDoor
namespace Go.Proofs.YthmdddenbfbefaaGreatDoor
open Go Go.Plat
set_option linter.unusedVariables false
set_option linter.unusedSimpArgs false
set_option maxRecDepth 100000
set_option maxHeartbeats 2000000
attribute [local irreducible] AWP zy ye zF zn yt z6 zE zW zY zp za zN yu zo zZ yp yq yj yl zt zu zw yo yk zG okC
attribute [local irreducible] w3 xo xH xE zI xR
attribute [local irreducible] xF yD qe wd puF puR xS
structure yI where
 pos : Int
 toks : List yB
def x3 (l : yI) : D := .agg [.int .i64 l.pos, .sl 3 (l.toks.map wN) none]
def we : List (List UInt8) → Int → List yI → List yI × Int × Int
 | [], _, out => (out, 0, 0)
 | p :: r, k, out => if (qe p).2 ≠ 0 then ([], (qe p).2, k) else if (qe p).1.length = 0 then we r (k + 1) out else we r (k + 1) (out ++ [⟨k, (qe p).1⟩])
def yP (b : List UInt8) : List yI × Int × Int := if 1200 < b.length then ([], 4, 0) else we (yx 10 b) 1 []
def zrj (p : List yI × Int × Int) : D := .tup [.sl 2 (p.1.map x3) none, .agg [.int .i64 p.2.1, .int .i64 p.2.2]]
theorem kN (p : List UInt8) (r : List (List UInt8)) (k : Int) (out : List yI) : we (p :: r) k out =
  if (qe p).2 ≠ 0 then ([], (qe p).2, k) else if (qe p).1.length = 0 then we r (k + 1) out else we r (k + 1) (out ++ [⟨k, (qe p).1⟩]) := rfl
theorem zmp (c : UInt8) : ∀ (s : List UInt8) (p : List UInt8), p ∈ yx c s → p.length ≤ s.length
 | [], p, h => by rw [yx, List.mem_singleton] at h; rw [h]; exact Nat.le_refl _
 | b :: l, p, h => by
  have ih := zmp c l
  rw [yx] at h
  split at h
  ·rcases List.mem_cons.1 h with rfl | h
   ·simp
   ·have := ih p h; simp; omega
  ·cases hl : yx c l with
   | nil => rw [hl, List.mem_singleton] at h; rw [h]; simp
   | cons x r =>
    rw [hl] at h
    rcases List.mem_cons.1 h with rfl | h
    ·have := ih x (by rw [hl]; exact List.mem_cons_self); simp; omega
    ·have := ih p (by rw [hl]; exact List.mem_cons_of_mem _ h); simp; omega
theorem zhj : za Tryz.prog zl0 (zA (fun b : List UInt8 => b.length ≤ 1000000000) (fun b => [.sl 1 (b.map zH) none]) fun b => zrj (yP b)) := by
 refine zg zj Tryz.func31 rfl (by decide) ?_
 intro b hb
 refine ⟨Nat.le_refl _, by simp [Tryz.f31], fun E hE => ?_⟩
 have hR : yP b = if 1200 < b.length then ([], 4, 0) else we (yx 10 b) 1 [] := rfl
 have hpl := zmp 10 b
 have hsl := jw 10 b
 have hct := List.count_le_length (a := 10) (l := b)
 refine zf _ ?_
 (all_goals refine qgp ?_ <;> (repeat' first | exact trivial | intro hc | refine And.intro ?_ ?_) <;> refine Lf.mk ?_)
 ·rw [if_pos (by omega)] at hR
  refine zb (VS.mk ?_)
  rw [hR]
  exact .tup (.cons (.nil 2) (.cons (.refl _) .nil))
 rw [if_neg (by omega)] at hR
 refine ze zn2 (b, 10) (by show b.length ≤ 1000000; omega) (VS.mk (LeL.of_eq rfl)) ?_
 dsimp only
 generalize yx 10 b = ps at *
 (all_goals refine qgp (Lf.mk ?_))
 refine wW (qX 4 2 rfl) ?_
 refine z8 (α := Nat × List yI) (fun p => p.1 ≤ ps.length ∧ p.2.length ≤ p.1 ∧ yP b = we (ps.drop p.1) (p.1 + 1) p.2)
  (fun p => [(3, .loc 0 0), (4, .sl 2 (p.2.map x3) (some 1)), (15, .sl 1 (ps.map .str) none), (16, .int .i64 ps.length), (17, .int .i64 p.1)])
  (fun p => [.cells [.int .i64 0, .int .i64 0], .spare p.2.length]) (fun p => ps.length - p.1) (fun _ => by simp [hE]) (0, []) ⟨Nat.zero_le _, Nat.le_refl _, by rw [hR]; rfl⟩ ?_ ?_
 ·(repeat' (first | (refine VS.mk ?_) | exact trivial | exact rfl | refine And.intro ?_ ?_))
 rintro ⟨i, out⟩ ⟨hi, ho, hf⟩
 dsimp only at hi ho hf ⊢
 refine zf _ ?_
 (all_goals refine qgp ?_ <;> (repeat' first | exact trivial | intro hc | refine And.intro ?_ ?_) <;> refine Lf.mk ?_)
 ·have hil : i < ps.length := by omega
  obtain ⟨p, hp⟩ : ∃ p, ps[i] = p := ⟨_, rfl⟩
  have hpx : ps[i]? = some p := by rw [List.getElem?_eq_getElem hil, hp]
  have hpm := hpl p (by rw [← hp]; exact List.getElem_mem hil)
  rw [List.drop_eq_getElem_cons hil, hp, kN] at hf
  refine zl p (by omega) (by simpa using hpx) ?_
  (all_goals refine qgp (Lf.mk ?_))
  refine ze zgr p (by omega) (VS.mk (LeL.of_eq rfl)) ?_
  generalize qe p = T at *
  obtain ⟨ts, te⟩ := T
  dsimp only at hf
  (all_goals refine qgp ?_ <;> (repeat' first | exact trivial | intro hc | refine And.intro ?_ ?_) <;> refine Lf.mk ?_)
  ·rw [if_pos hc] at hf
   refine zb (VS.mk ?_)
   rw [hf]
   exact .tup (.cons (.nil 2) (.cons (.refl _) .nil))
  ·have ht : te = 0 := by assumption
   rw [if_neg (by rw [ht]; simp), if_neg (by omega)] at hf
   have hf1 : yP b = we (ps.drop (i + 1)) (((i + 1 : Nat) : Int) + 1) (out ++ [⟨(i : Int) + 1, ts⟩]) := hf
   refine zC (i + 1, out ++ [⟨(i : Int) + 1, ts⟩]) ⟨by dsimp only; omega, by dsimp only; rw [List.length_append, List.length_cons, List.length_nil]; omega, hf1⟩ (by dsimp only; omega) ?_
   (repeat' (first | (refine VS.mk ?_) | exact trivial | exact rfl | refine And.intro ?_ ?_))
   all_goals (first | rfl | simp [x3])
  ·have ht : te = 0 := by assumption
   rw [if_neg (by rw [ht]; simp), if_pos (by omega)] at hf
   have hf1 : yP b = we (ps.drop (i + 1)) (((i + 1 : Nat) : Int) + 1) out := hf
   refine zC (i + 1, out) ⟨by dsimp only; omega, by dsimp only; omega, hf1⟩ (by dsimp only; omega) ?_
   (repeat' (first | (refine VS.mk ?_) | exact trivial | exact rfl | refine And.intro ?_ ?_))
 ·rw [List.drop_of_length_le (by omega)] at hf
  refine zb (VS.mk ?_)
  rw [hf]
  (first | exact LeL.refl _ | (repeat' (first | exact LeL.nil | exact LeD.refl _ | exact LeD.nil _ | exact LeD.strip _ _ _ | refine LeL.cons ?_ ?_ | refine LeD.tup ?_ | refine LeD.agg ?_)))
end Go.Proofs.YthmdddenbfbefaaGreatDoor
namespace Go.Proofs.YthmdddenbfbefaaGreatDoor
open Go Go.Plat
set_option linter.unusedVariables false
set_option linter.unusedSimpArgs false
set_option maxRecDepth 100000
set_option maxHeartbeats 2000000
attribute [local irreducible] AWP zy ye zF zn yt z6 zE zW zY zp za zN yu zo zZ yp yq yj yl zt zu zw
inductive zh where
 | mk (kind n : Int) (name : List UInt8) (kids : List zh)
def zh.kind : zh → Int | .mk k _ _ _ => k
def zh.n : zh → Int | .mk _ n _ _ => n
def zh.name : zh → List UInt8 | .mk _ _ s _ => s
def zh.kids : zh → List zh | .mk _ _ _ ks => ks
mutual
def xb : zh → D
 | .mk k n s ks => .agg [.int .i64 k, .int .i64 n, .str s, .sl 4 (zfs ks) none]
def zfs : List zh → List D
 | [] => []
 | e :: es => xb e :: zfs es
end
mutual
def yy : zh → Nat
 | .mk _ _ s ks => 1 + s.length + vk ks
def vk : List zh → Nat
 | [] => 0
 | e :: es => yy e + vk es
end
theorem zip : ∀ l : List zh, zfs l = l.map xb
 | [] => by rw [zfs]; rfl
 | e :: es => by rw [zfs, zip es]; rfl
def vu (e : zh) : D := .agg [.int .i64 e.kind, .int .i64 e.n, .str e.name, .sl 4 (e.kids.map xb) none]
theorem zoG (k n : Int) (s : List UInt8) (ks : List zh) : (zh.mk k n s ks).kind = k := rfl
theorem zv1 (k n : Int) (s : List UInt8) (ks : List zh) : (zh.mk k n s ks).n = n := rfl
theorem zoH (k n : Int) (s : List UInt8) (ks : List zh) : (zh.mk k n s ks).name = s := rfl
theorem zoI (k n : Int) (s : List UInt8) (ks : List zh) : (zh.mk k n s ks).kids = ks := rfl
theorem zai (k n : Int) (s : List UInt8) (ks : List zh) : vu (.mk k n s ks) = .agg [.int .i64 k, .int .i64 n, .str s, .sl 4 (ks.map xb) none] := rfl
theorem zd7 (e : zh) : xb e = vu e := by
 cases e with
 | mk k n s ks => rw [xb, zip]; rfl
theorem zv2 (a : zh) : [a].map xb = [vu a] := by rw [List.map_cons, zd7]; rfl
theorem zxd (a b : zh) : [a, b].map xb = [vu a, vu b] := by rw [List.map_cons, List.map_cons, zd7, zd7]; rfl
theorem zft (e : zh) : 0 < yy e := by cases e; rw [yy]; omega
theorem ziq : ∀ {l : List zh} {x : zh}, x ∈ l → yy x ≤ vk l
 | [], _, h => by simp at h
 | e :: es, x, h => by
  rw [vk]
  rcases List.mem_cons.1 h with rfl | h
  ·omega
  ·have := ziq h; omega
theorem zir : ∀ l : List zh, l.length ≤ vk l
 | [] => by rw [vk]; simp
 | e :: es => by
  have := zir es
  have := zft e
  rw [vk, List.length_cons]; omega
theorem zrk {e x : zh} (h : x ∈ e.kids) : yy x < yy e := by
 cases e with
 | mk k n s ks => have := ziq (show x ∈ ks from h); rw [yy]; omega
theorem zs9 (e : zh) : e.kids.length < yy e := by
 cases e with
 | mk k n s ks => have := zir ks; rw [yy]; show ks.length < _; omega
theorem zta (e : zh) : e.name.length < yy e := by
 cases e with
 | mk k n s ks => rw [yy]; show s.length < _; omega
theorem zuU {l : List zh} {n : Int} {K : D → Prop} (x : zh) (h0 : 0 ≤ n) (h : l[n.toNat]? = some x) (hK : K (vu x)) : zW (l.map xb) n K := by
 unfold zW
 exact ⟨h0, vu x, by rw [List.getElem?_map, h, ← zd7]; rfl, hK⟩
attribute [local irreducible] xb yy zh.kind zh.n zh.name zh.kids
end Go.Proofs.YthmdddenbfbefaaGreatDoor
namespace Go.Proofs.YthmdddenbfbefaaGreatDoor
open Go Go.Plat
set_option linter.unusedVariables false
set_option linter.unusedSimpArgs false
set_option maxRecDepth 100000
set_option maxHeartbeats 2000000
attribute [local irreducible] AWP zy ye zF zn yt z6 zE zW zY zp za zN yu zo zZ yp yq yj yl zt zu zw
def zd (n : Int) (k : Nat) : Int := if n % (2 : Int) ^ k / 2 ^ (k - 1) = 1 then n % (2 : Int) ^ k - 2 ^ k else n % (2 : Int) ^ k
theorem zb7 : za Tryz.prog zl8 (zA (fun ((n, k) : Int × Nat) => (k = 8 ∨ k = 12 ∨ k = 32)) (fun (n, k) => [.int .i64 n, .int .i64 k]) fun (n, k) => .int .i64 (zd n k)) := by
 refine zg zj Tryz.func144 rfl (by decide) ?_
 rintro ⟨n, k⟩ hk
 refine ⟨Nat.le_refl _, by simp [Tryz.f144], fun E hE => ?_⟩
 rcases hk with hk | hk | hk <;> (have hk : k = _ := hk; subst hk; refine zf _ ?_)
 ·have h0 := Int.emod_nonneg n (show (256 : Int) ≠ 0 by decide)
  have h1 := Int.emod_lt_of_pos n (show (0 : Int) < 256 by decide)
  have hd : zd n 8 = if n % 256 / 128 = 1 then n % 256 - 256 else n % 256 := rfl
  (all_goals refine qgo (Lf.mk ?_))
  refine jp (s := 7) (m := 128) rfl (by decide) (by decide) ?_
  (all_goals refine qgo ?_ <;> (repeat' first | exact trivial | intro hc | refine And.intro ?_ ?_) <;> refine Lf.mk ?_)
  ·skip
   refine zb (VS.mk (LeD.of_eq (congrArg (D.int .i64) ?_)))
   rw [hd, if_pos hc]
   omega
  ·refine zb (VS.mk (LeD.of_eq (congrArg (D.int .i64) ?_)))
   rw [hd, if_neg hc]
 ·have h0 := Int.emod_nonneg n (show (4096 : Int) ≠ 0 by decide)
  have h1 := Int.emod_lt_of_pos n (show (0 : Int) < 4096 by decide)
  have hd : zd n 12 = if n % 4096 / 2048 = 1 then n % 4096 - 4096 else n % 4096 := rfl
  (all_goals refine qgo (Lf.mk ?_))
  refine qb (s := 12) (m := 4096) rfl (by decide) (by decide) (by decide) (by decide) ?_
  (all_goals refine qgo (Lf.mk ?_))
  refine jp (s := 11) (m := 2048) rfl (by decide) (by decide) ?_
  (all_goals refine qgo ?_ <;> (repeat' first | exact trivial | intro hc | refine And.intro ?_ ?_) <;> refine Lf.mk ?_)
  ·refine qb (s := 12) (m := 4096) rfl (by decide) (by decide) (by decide) (by decide) ?_
   (all_goals refine qgo (Lf.mk ?_))
   refine zb (VS.mk (LeD.of_eq (congrArg (D.int .i64) ?_)))
   rw [hd, if_pos hc]
   omega
  ·refine zb (VS.mk (LeD.of_eq (congrArg (D.int .i64) ?_)))
   rw [hd, if_neg hc]
 ·have h0 := Int.emod_nonneg n (show (4294967296 : Int) ≠ 0 by decide)
  have h1 := Int.emod_lt_of_pos n (show (0 : Int) < 4294967296 by decide)
  have hd : zd n 32 = if n % 4294967296 / 2147483648 = 1 then n % 4294967296 - 4294967296 else n % 4294967296 := rfl
  (all_goals refine qgo (Lf.mk ?_))
  refine qb (s := 32) (m := 4294967296) rfl (by decide) (by decide) (by decide) (by decide) ?_
  (all_goals refine qgo (Lf.mk ?_))
  refine wb (qr (k := 32) (by decide) (by decide)) ?_
  rw [show (2 : Int) ^ 32 = 4294967296 from rfl]
  (all_goals refine qgo (Lf.mk ?_))
  refine jp (s := 31) (m := 2147483648) rfl (by decide) (by decide) ?_
  (all_goals refine qgo ?_ <;> (repeat' first | exact trivial | intro hc | refine And.intro ?_ ?_) <;> refine Lf.mk ?_)
  ·refine qb (s := 32) (m := 4294967296) rfl (by decide) (by decide) (by decide) (by decide) ?_
   (all_goals refine qgo (Lf.mk ?_))
   refine zb (VS.mk (LeD.of_eq (congrArg (D.int .i64) ?_)))
   rw [hd, if_pos hc]
   omega
  ·refine zb (VS.mk (LeD.of_eq (congrArg (D.int .i64) ?_)))
   rw [hd, if_neg hc]
theorem yw : za Tryz.prog zl2 (zA (fun _ : Int => True) (fun n => [.int .i64 n]) fun n => .int .i64 (zd n 32)) := by
 refine zg zj Tryz.func90 rfl (by decide) fun n _ => ?_
 refine ⟨Nat.le_refl _, by simp [Tryz.f90], fun E hE => ?_⟩
 refine zf _ ?_
 (all_goals refine qgo (Lf.mk ?_))
 refine ze zb7 (n, 32) (.inr (.inr rfl)) (VS.mk (by (first | exact LeL.refl _ | (repeat' (first | exact LeL.nil | exact LeD.refl _ | exact LeD.nil _ | exact LeD.strip _ _ _ | refine LeL.cons ?_ ?_ | refine LeD.tup ?_ | refine LeD.agg ?_))))) ?_
 (all_goals refine qgo (Lf.mk ?_))
 exact zb (VS.mk (LeD.refl _))
attribute [local irreducible] zh.kids zh.kind zh.n zh.name yo xb yk zG yH yy zd
structure zbl where
 kind : Int
 n : Int
 text : List UInt8
def ztb (t : zbl) : D := .agg [.int .i64 t.kind, .int .i64 t.n, .str t.text]
structure St where
 rest : List zbl
 err : Int
def noE : zh := .mk 0 0 [] []
def w5 (x : List UInt8) : List (List UInt8) → Nat → Int
 | [], _ => -1
 | s :: l, k => if x = s then k else w5 x l (k + 1)
def yO (k : Nat) : List (List UInt8) := match k with | 0 => [[124]] | 1 => [[38]] | 2 => [[60, 60], [62, 62]] | 3 => [[43], [45]] | _ => [[42]]
def zgc (k : Nat) : List Int := match k with | 0 => [11] | 1 => [10] | 2 => [8, 9] | 3 => [6, 7] | _ => [5]
def zbm (k : Nat) : D := .agg [.sl 1 ((yO k).map .str) none, .sl 1 ((zgc k).map (.int .i64)) none]
def zuh : D := .sl 2 [zbm 0, zbm 1, zbm 2, zbm 3, zbm 4] none
theorem zfu : za Tryz.prog zkP (zA (fun _ : Unit => True) (fun _ => []) fun _ => zuh) := by
 refine zg zj Tryz.func214 rfl (by decide) fun _ _ => ?_
 refine ⟨Nat.le_refl _, by simp [Tryz.f214], fun E hE => ?_⟩
 refine zf _ ?_
 (all_goals refine qgo (Lf.mk ?_))
 exact zb (VS.mk (LeD.of_eq rfl))
theorem zn3 : za Tryz.prog zaf (zA (fun ((l, x) : List (List UInt8) × List UInt8) => l.length ≤ 1000000000) (fun (l, x) => [.sl 1 (l.map .str) none, .str x]) fun (l, x) => .int .i64 (w5 x l 0)) := by
 refine zg zj Tryz.func172 rfl (by decide) ?_
 rintro ⟨l, x⟩ hl
 have hl : l.length ≤ 1000000000 := hl
 refine ⟨Nat.le_refl _, by simp [Tryz.f172], fun E hE => ?_⟩
 refine zf _ ?_
 (all_goals refine qgo (Lf.mk ?_))
 refine z8 (α := Nat) (fun k => k ≤ l.length ∧ w5 x l 0 = w5 x (l.drop k) k)
  (fun k => [(7, .int .i64 l.length), (8, .int .i64 k), (0, .sl 1 (l.map .str) none), (1, .str x)])
  (fun _ => []) (fun k => l.length - k) (fun _ => by simp [hE]) 0 ⟨Nat.zero_le _, by simp⟩ ?_ ?_
 ·(repeat' (first | (refine VS.mk ?_) | exact trivial | exact rfl | refine And.intro ?_ ?_))
 rintro k ⟨hk, hf⟩
 refine zf _ ?_
 (all_goals refine qgo ?_ <;> (repeat' first | exact trivial | intro hc | refine And.intro ?_ ?_) <;> refine Lf.mk ?_)
 ·obtain ⟨s, hsk⟩ := ya (l := l) (k := k) (by omega)
  have hkl : k < l.length := by omega
  have hget : l[k] = s := by rw [List.getElem?_eq_getElem hkl] at hsk; exact Option.some.inj hsk
  rw [List.drop_eq_getElem_cons hkl, hget, w5] at hf
  refine zl s (by omega) (by simpa using hsk) ?_
  (all_goals refine qgo ?_ <;> (repeat' first | exact trivial | intro hc | refine And.intro ?_ ?_) <;> refine Lf.mk ?_)
  ·rw [if_pos hc] at hf
   exact zb (VS.mk (LeD.of_eq (congrArg (D.int .i64) hf.symm)))
  ·rw [if_neg hc] at hf
   refine zC (k + 1) ⟨by omega, hf⟩ (by omega) ?_
   (repeat' (first | (refine VS.mk ?_) | exact trivial | exact rfl | refine And.intro ?_ ?_))
 ·rw [List.drop_of_length_le (by omega), w5] at hf
  exact zb (VS.mk (LeD.of_eq (congrArg (D.int .i64) hf.symm)))
def stO (s : St) : List Ob := [.cells [.sl 3 (s.rest.map ztb) none, .int .i64 s.err]]
def zr (l : List (List UInt8)) (s : St) : Int × St := match s.rest with
 | [] => (-1, s)
 | t :: r => if t.kind = 3 then (if 0 ≤ w5 t.text l 0 then (w5 t.text l 0, ⟨r, s.err⟩) else (-1, s)) else (-1, s)
def vv (s : St) (e : Int) : St := if s.err = 0 then ⟨s.rest, e⟩ else s
theorem zoJ (x : List UInt8) : ∀ (l : List (List UInt8)) (k : Nat), w5 x l k < 0 → w5 x l k = -1
 | [], k, _ => rfl
 | s :: l, k, h => by
  rw [w5] at h ⊢
  split at h
  ·omega
  ·rename_i hn; rw [if_neg hn]; exact zoJ x l (k + 1) h
theorem zmq : LeD (.agg [.int .i64 0, .int .i64 0, .str [], .nilsl]) (vu noE) := by
 unfold noE
 rw [zai]
 exact .agg (.cons (.refl _) (.cons (.refl _) (.cons (.refl _) (.cons (.nil 4) .nil))))
theorem jN : za Tryz.prog zfp (yh (fun ((s, e) : St × Int) => True) (fun (s, e) => [.loc 0 0, .int .i64 e]) (fun (s, _) => stO s) (fun _ => vu noE) fun (s, e) => stO (vv s e)) := by
 refine zg zj Tryz.func218 rfl (by decide) ?_
 rintro ⟨s, e⟩ -
 refine ⟨Nat.le_refl _, by simp [Tryz.f218], fun E hE => ?_⟩
 refine zf _ ?_
 (all_goals refine qgo ?_ <;> (repeat' first | exact trivial | intro hc | refine And.intro ?_ ?_) <;> refine Lf.mk ?_)
 ·refine vI (r1 := vu noE) zmq ?_ (Nat.le_refl _)
  refine yn ?_
  (repeat' (first | (refine VS.mk ?_) | exact trivial | exact rfl | refine And.intro ?_ ?_))
  ·dsimp only; unfold vv stO; rw [if_pos hc]
 ·refine vI (r1 := vu noE) zmq ?_ (Nat.le_refl _)
  refine yn ?_
  (repeat' (first | (refine VS.mk ?_) | exact trivial | exact rfl | refine And.intro ?_ ?_))
  ·dsimp only; unfold vv; rw [if_neg hc]; rfl
theorem zd8 : za Tryz.prog zfo (yh (fun ((s, l) : St × List (List UInt8)) => l.length ≤ 1000000000 ∧ s.rest.length ≤ 1000000000) (fun (s, l) => [.loc 0 0, .sl 1 (l.map .str) none]) (fun (s, _) => stO s) (fun (s, l) => .int .i64 (zr l s).1)
  fun (s, l) => stO (zr l s).2) := by
 refine zg zj Tryz.func216 rfl (by decide) ?_
 rintro ⟨⟨r, e⟩, l⟩ ⟨hl, hr⟩
 have hr : r.length ≤ 1000000000 := hr
 refine ⟨Nat.le_refl _, by simp [Tryz.f216], fun E hE => ?_⟩
 cases r with
 | nil =>
  refine zf _ ?_
  (all_goals refine qgp ?_ <;> (repeat' first | exact trivial | intro hc | refine And.intro ?_ ?_) <;> refine Lf.mk ?_)
  refine yn ?_
  (repeat' (first | (refine VS.mk ?_) | exact trivial | exact rfl | refine And.intro ?_ ?_))
 | cons t r =>
  have hr2 : r.length + 1 ≤ 1000000000 := hr
  refine zf _ ?_
  (all_goals refine qgp ?_ <;> (repeat' first | exact trivial | intro hc | refine And.intro ?_ ?_) <;> refine Lf.mk ?_)
  ·refine yn ?_
   (repeat' (first | (refine VS.mk ?_) | exact trivial | exact rfl | refine And.intro ?_ ?_))
   all_goals (dsimp only [zr]; rw [if_neg hc]; try rfl)
  ·refine ze zn3 (l, t.text) hl (VS.mk (LeL.of_eq rfl)) ?_
   (all_goals refine qgp ?_ <;> (repeat' first | exact trivial | intro hc | refine And.intro ?_ ?_) <;> refine Lf.mk ?_)
   ·refine yn ?_
    (repeat' (first | (refine VS.mk ?_) | exact trivial | exact rfl | refine And.intro ?_ ?_))
    all_goals (dsimp only [zr]; rw [if_pos (by assumption), if_pos hc]; try rfl)
   ·refine yn ?_
    (repeat' (first | (refine VS.mk ?_) | exact trivial | exact rfl | refine And.intro ?_ ?_))
    all_goals (dsimp only [zr]; rw [if_pos (by assumption), if_neg hc])
    ·exact congrArg (D.int .i64) (zoJ _ _ _ (by omega))
    ·rfl
def za6 (k : Nat) (i : Int) : Int := (zgc k).getD i.toNat 0
def vw (k : Nat) (sub : St → zh × St) : Nat → zh → St → zh × St
 | 0, e, s => (e, s)
 | g + 1, e, s => if s.err = 0 then (if (zr (yO k) s).1 < 0 then (e, (zr (yO k) s).2)
   else vw k sub g (.mk (za6 k (zr (yO k) s).1) 0 [] [e, (sub (zr (yO k) s).2).1]) (sub (zr (yO k) s).2).2)
  else (e, s)
def zb8 (k : Nat) (sub : St → zh × St) (s : St) : zh × St := vw k sub ((sub s).2.rest.length + 1) (sub s).1 (sub s).2
def atF (one : St → zh × St) : Nat → St → zh × St
 | 0 => one
 | j + 1 => zb8 (4 - j) (atF one j)
def zc5 (s : St) : zh × St := match s.rest with
 | [] => (noE, vv s 9)
 | t :: r => if t.kind = 2 then (.mk 1 (zd t.n 32) [] [], ⟨r, s.err⟩)
  else if t.kind = 1 then (if yH t.text = true then (.mk 2 0 t.text [], ⟨r, s.err⟩) else (noE, vv ⟨r, s.err⟩ 7))
  else (noE, vv ⟨r, s.err⟩ 2)
def yS : List (List UInt8) := [[45], [126], [40]]
def qA : List (List UInt8) := [[41]]
def ww (one : St → zh × St) (s : St) : zh × St :=
 if (zr yS s).1 = 0 then (.mk 3 0 [] [(one (zr yS s).2).1], (one (zr yS s).2).2)
 else if (zr yS s).1 = 1 then (.mk 4 0 [] [(one (zr yS s).2).1], (one (zr yS s).2).2)
 else if (zr yS s).1 = 2 then
  (if (zr qA (atF one 5 (zr yS s).2).2).1 < 0 then (noE, vv (zr qA (atF one 5 (zr yS s).2).2).2 2)
   else ((atF one 5 (zr yS s).2).1, (zr qA (atF one 5 (zr yS s).2).2).2))
 else zc5 (zr yS s).2
def qu : Nat → St → zh × St
 | 0, s => (noE, vv s 10)
 | f + 1, s => ww (qu f) s
def vD (p : St → zh × St) : Prop := ∀ s, (p s).2.rest.length ≤ s.rest.length
theorem jO (l : List (List UInt8)) (s : St) : (zr l s).2.rest.length ≤ s.rest.length ∧ (0 ≤ (zr l s).1 → (zr l s).2.rest.length + 1 = s.rest.length) := by
 obtain ⟨r, e⟩ := s
 cases r with
 | nil => exact ⟨Nat.le_refl _, fun h => by simp [zr] at h⟩
 | cons t r =>
  simp only [zr]
  split
  ·split
   ·exact ⟨by simp, fun _ => by simp⟩
   ·exact ⟨Nat.le_refl _, fun h => by simp at h⟩
  ·exact ⟨Nat.le_refl _, fun h => by simp at h⟩
theorem zis {k : Nat} {sub : St → zh × St} (hs : vD sub) : ∀ (g : Nat) (e : zh) (s : St), (vw k sub g e s).2.rest.length ≤ s.rest.length
 | 0, e, s => Nat.le_refl _
 | g + 1, e, s => by
  rw [vw]
  have h1 := (jO (yO k) s).1
  split
  ·split
   ·exact h1
   ·have := zis (k := k) hs g (.mk (za6 k (zr (yO k) s).1) 0 [] [e, (sub (zr (yO k) s).2).1]) (sub (zr (yO k) s).2).2
    have h2 := hs (zr (yO k) s).2
    omega
  ·exact Nat.le_refl _
theorem zn4 {k : Nat} {sub : St → zh × St} (hs : vD sub) : vD (zb8 k sub) := fun s => by
 have h1 := hs s
 have h2 := zis (k := k) hs ((sub s).2.rest.length + 1) (sub s).1 (sub s).2
 unfold zb8; omega
theorem qv {one : St → zh × St} (hs : vD one) : ∀ j, vD (atF one j)
 | 0 => hs
 | j + 1 => zn4 (qv hs j)
theorem qm (s : St) (e : Int) : (vv s e).rest = s.rest := by unfold vv; split <;> rfl
theorem zrl : vD zc5 := fun s => by
 obtain ⟨r, e⟩ := s
 cases r with
 | nil => simp [zc5, qm]
 | cons t r =>
  simp only [zc5]
  repeat' split
  all_goals (try rw [qm]); simp
theorem zpT {one : St → zh × St} (hs : vD one) : vD (ww one) := fun s => by
 have h1 := (jO yS s).1
 have h2 := hs (zr yS s).2
 have h3 := qv hs 5 (zr yS s).2
 have h4 := (jO qA (atF one 5 (zr yS s).2).2).1
 have h5 := zrl (zr yS s).2
 unfold ww
 repeat' split
 all_goals (try dsimp only); (try rw [qm]); omega
theorem zcM : ∀ f, vD (qu f)
 | 0 => fun s => by rw [qu, qm]; exact Nat.le_refl _
 | f + 1 => fun s => by rw [qu]; exact zpT (zcM f) s
theorem zrm {k g : Nat} {sub : St → zh × St} {e : zh} {s : St} (h : ¬ s.err = 0) : vw k sub g e s = (e, s) := by
 cases g with
 | zero => rfl
 | succ g => rw [vw, if_neg h]
theorem zpU {k g : Nat} {sub : St → zh × St} {e : zh} {s : St} (h : s.err = 0) (h2 : (zr (yO k) s).1 < 0) : vw k sub (g + 1) e s = (e, (zr (yO k) s).2) := by rw [vw, if_pos h, if_pos h2]
theorem zuV {k g : Nat} {sub : St → zh × St} {e : zh} {s : St} (h : s.err = 0) (h2 : ¬ (zr (yO k) s).1 < 0) : vw k sub (g + 1) e s =
  vw k sub g (.mk (za6 k (zr (yO k) s).1) 0 [] [e, (sub (zr (yO k) s).2).1]) (sub (zr (yO k) s).2).2 := by rw [vw, if_pos h, if_neg h2]
theorem zrn {k : Nat} {K : D → Prop} (hk : k < 5) (h : K (zbm k)) : zW [zbm 0, zbm 1, zbm 2, zbm 3, zbm 4] (k : Int) K := by
 unfold zW
 refine ⟨by omega, zbm k, ?_, h⟩
 rw [Int.toNat_natCast]
 match k, hk with
 | 0, _ => rfl
 | 1, _ => rfl
 | 2, _ => rfl
 | 3, _ => rfl
 | 4, _ => rfl
theorem zoK (x : List UInt8) : ∀ (l : List (List UInt8)) (k : Nat), w5 x l k < ((k + l.length : Nat) : Int)
 | [], k => by rw [w5]; omega
 | s :: l, k => by
  rw [w5]
  split
  ·simp only [List.length_cons]; omega
  ·have := zoK x l (k + 1)
   simp only [List.length_cons]; omega
theorem zuW (l : List (List UInt8)) (s : St) : (zr l s).1 < (l.length : Int) ∨ l.length = 0 := by
 obtain ⟨r, e⟩ := s
 cases r with
 | nil => simp only [zr]; omega
 | cons t r =>
  have := zoK t.text l 0
  simp only [zr]
  split
  ·split
   ·dsimp only; omega
   ·dsimp only; omega
  ·dsimp only; omega
theorem zj9 (k : Nat) : (yO k).length = (zgc k).length ∧ 0 < (yO k).length ∧ (yO k).length ≤ 2 := by
 unfold yO zgc
 split <;> exact ⟨rfl, by decide, by decide⟩
theorem ztc {k : Nat} {s : St} (h : ¬ (zr (yO k) s).1 < 0) : (zgc k)[(zr (yO k) s).1.toNat]? = some (za6 k (zr (yO k) s).1) := by
 have h1 := zuW (yO k) s
 obtain ⟨h2, h3, _⟩ := zj9 k
 have hlt : (zr (yO k) s).1.toNat < (zgc k).length := by omega
 unfold za6
 rw [List.getD_eq_getElem?_getD, List.getElem?_eq_getElem hlt]
 rfl
attribute [local irreducible] vv vw qu ww zr zc5
def zc6 (k : Int) (d : Int) (f : St → zh × St) : Prop :=
 za Tryz.prog zhf (yh (fun s : St => s.rest.length ≤ 1000000000) (fun _ => [.loc 0 0, .int .i64 k, .int .i64 d]) stO (fun s => vu (f s).1) fun s => stO (f s).2)
def zgd (d : Int) (f : St → zh × St) : Prop :=
 za Tryz.prog zgq (yh (fun s : St => s.rest.length ≤ 1000000000) (fun _ => [.loc 0 0, .int .i64 d]) stO (fun s => vu (f s).1) fun s => stO (f s).2)
theorem zv3 {d : Int} {one : St → zh × St} (h : zgd d one) : zc6 5 d (atF one 0) := by
 refine zg zj Tryz.func206 rfl (by decide) ?_
 intro s hs
 refine ⟨Nat.le_refl _, by simp [Tryz.f206], fun E hE => ?_⟩
 refine zf _ ?_
 (all_goals refine qgp (Lf.mk ?_))
 refine ze zfu () trivial (VS.mk (LeL.of_eq rfl)) ?_
 (all_goals refine qgp ?_ <;> (repeat' first | exact trivial | intro hc | refine And.intro ?_ ?_) <;> refine Lf.mk ?_)
 refine zX h [0] [0] s hs rfl rfl ?_
 refine And.intro (VS.mk (LeL.of_eq rfl)) (And.intro (VS.mk rfl) ?_)
 (all_goals refine qgp (Lf.mk ?_))
 refine yn ?_
 (repeat' (first | (refine VS.mk ?_) | exact trivial | exact rfl | refine And.intro ?_ ?_))
theorem zb9 {d : Int} {k : Nat} {sub : St → zh × St} (hk : k < 5) (hsub : vD sub) (h : zc6 ((k : Int) + 1) d sub) : zc6 k d (zb8 k sub) := by
 refine zg zj Tryz.func206 rfl (by decide) ?_
 intro s hs
 refine ⟨Nat.le_refl _, by simp [Tryz.f206], fun E hE => ?_⟩
 refine zf _ ?_
 (all_goals refine qgp (Lf.mk ?_))
 refine ze zfu () trivial (VS.mk (LeL.of_eq rfl)) ?_
 (all_goals refine qgp ?_ <;> (repeat' first | exact trivial | intro hc | refine And.intro ?_ ?_) <;> refine Lf.mk ?_)
 refine zX h [0] [0] s hs rfl rfl ?_
 refine And.intro (VS.mk (LeL.of_eq rfl)) (And.intro (VS.mk rfl) ?_)
 (all_goals refine qgp (Lf.mk ?_))
 have hs1 := hsub s
 obtain ⟨hsl1, hsl2, hsl3⟩ := zj9 k
 generalize hT : zb8 k sub s = T at *
 have hT0 : vw k sub ((sub s).2.rest.length + 1) (sub s).1 (sub s).2 = T := hT
 refine z8 (α := Nat × zh × St) (fun p => p.2.2.rest.length < p.1 ∧ p.2.2.rest.length ≤ 1000000000 ∧ vw k sub p.1 p.2.1 p.2.2 = T)
  (fun p => [(0, .loc 0 0), (1, .int .i64 k), (2, .int .i64 d), (6, .loc 1 0), (7, zuh), (8, .loc 2 0)])
  (fun p => stO p.2.2 ++ [.cells [.int .i64 0, .int .i64 0, .str [], .nilsl], .cells [.int .i64 p.2.1.kind, .int .i64 p.2.1.n, .str p.2.1.name, .sl 4 (p.2.1.kids.map xb) none]]) (fun p => p.1) (fun _ => by simp [hE, stO])
  ((sub s).2.rest.length + 1, (sub s).1, (sub s).2) ⟨Nat.lt_succ_self _, Nat.le_trans hs1 hs, hT0⟩ ?_ ?_
 ·(repeat' (first | (refine VS.mk ?_) | exact trivial | exact rfl | refine And.intro ?_ ?_))
 rintro ⟨g, e, s2⟩ ⟨hg, hs2, hl⟩
 dsimp only at hg hs2 hl ⊢
 obtain ⟨g, rfl⟩ : ∃ g', g = g' + 1 := ⟨g - 1, by omega⟩
 refine zf _ ?_
 (all_goals refine qgp ?_ <;> (repeat' first | exact trivial | intro hc | refine And.intro ?_ ?_) <;> refine Lf.mk ?_)
 ·refine zrn hk ?_
  (all_goals refine qgp (Lf.mk ?_))
  refine zX zd8 [0] [0] (s2, yO k) ⟨by omega, hs2⟩ rfl rfl ?_
  refine And.intro (VS.mk (LeL.of_eq rfl)) (And.intro (VS.mk rfl) ?_)
  obtain ⟨q1, q2⟩ := jO (yO k) s2
  (all_goals refine qgp ?_ <;> (repeat' first | exact trivial | intro hc | refine And.intro ?_ ?_) <;> refine Lf.mk ?_)
  ·rw [zpU (by assumption) hc] at hl
   subst hl
   refine yn ?_
   (repeat' (first | (refine VS.mk ?_) | exact trivial | exact rfl | refine And.intro ?_ ?_))
  ·rw [zuV (by assumption) hc] at hl
   have hka := ztc (k := k) (s := s2) hc
   refine zrn hk ?_
   (all_goals refine qgp (Lf.mk ?_))
   refine zl (za6 k (zr (yO k) s2).1) (by omega) (by simpa using hka) ?_
   (all_goals refine qgp (Lf.mk ?_))
   have q3 := hsub (zr (yO k) s2).2
   refine zX h [0] [0] (zr (yO k) s2).2 (by omega) rfl rfl ?_
   refine And.intro (VS.mk (LeL.of_eq rfl)) (And.intro (VS.mk rfl) ?_)
   (all_goals refine qgp (Lf.mk ?_))
   refine zC (g, .mk (za6 k (zr (yO k) s2).1) 0 [] [e, (sub (zr (yO k) s2).2).1], (sub (zr (yO k) s2).2).2) ⟨by (dsimp only; omega), by (dsimp only; omega), hl⟩ (by dsimp only; omega) ?_
   dsimp only
   rw [zoG, zv1, zoH, zoI, zxd]
   (repeat' (first | (refine VS.mk ?_) | exact trivial | exact rfl | refine And.intro ?_ ?_))
 ·rw [zrm hc] at hl
  subst hl
  refine yn ?_
  (repeat' (first | (refine VS.mk ?_) | exact trivial | exact rfl | refine And.intro ?_ ?_))
end Go.Proofs.YthmdddenbfbefaaGreatDoor
namespace Go.Proofs.YthmdddenbfbefaaGreatDoor
open Go Go.Plat
set_option linter.unusedVariables false
set_option linter.unusedSimpArgs false
set_option maxRecDepth 100000
set_option maxHeartbeats 2000000
attribute [local irreducible] AWP zy ye zF zn yt z6 zE zW zY zp za zN yu zo zZ zh.kids zh.kind zh.n zh.name yp yq yj yl zt zu zw yo xb vv yk zG vw yH yy qu zr zd
theorem zro {d : Int} {one : St → zh × St} (hs : vD one) (h : zgd d one) : zc6 0 d (atF one 5) := by
 have h5 : zc6 (((4 : Nat) : Int) + 1) d (atF one 0) := zv3 h
 have h4 : zc6 (((3 : Nat) : Int) + 1) d (atF one 1) := zb9 (k := 4) (by decide) (qv hs 0) h5
 have h3 : zc6 (((2 : Nat) : Int) + 1) d (atF one 2) := zb9 (k := 3) (by decide) (qv hs 1) h4
 have h2 : zc6 (((1 : Nat) : Int) + 1) d (atF one 3) := zb9 (k := 2) (by decide) (qv hs 2) h3
 have h1 : zc6 (((0 : Nat) : Int) + 1) d (atF one 4) := zb9 (k := 1) (by decide) (qv hs 3) h2
 exact zb9 (k := 0) (by decide) (qv hs 4) h1
theorem ztd {d : Int} (h : 6 < d) : zgd d (qu 0) := by
 refine zg zj Tryz.func215 rfl (by decide) ?_
 intro s hs
 refine ⟨Nat.le_refl _, by simp [Tryz.f215], fun E hE => ?_⟩
 refine zf _ ?_
 (all_goals refine qgp ?_ <;> (repeat' first | exact trivial | intro hc | refine And.intro ?_ ?_) <;> refine Lf.mk ?_)
 refine zX jN [0] [0] (s, 10) trivial rfl rfl ?_
 refine And.intro (VS.mk (LeL.of_eq rfl)) (And.intro (VS.mk rfl) ?_)
 have ho : qu 0 s = (noE, vv s 10) := by rw [qu]
 (all_goals refine qgp (Lf.mk ?_))
 refine yn ?_
 (repeat' (first | (refine VS.mk ?_) | exact trivial | exact rfl | refine And.intro ?_ ?_))
 all_goals (rw [ho]; rfl)
theorem zte {d : Int} {one : St → zh × St} (hd : d ≤ 6) (hd0 : 0 ≤ d) (hsub : vD one) (h : zgd (d + 1) one) : zgd d (ww one) := by
 have hat := zro hsub h
 refine zg zj Tryz.func215 rfl (by decide) ?_
 intro s hs
 have q1 := (jO yS s).1
 refine ⟨Nat.le_refl _, by simp [Tryz.f215], fun E hE => ?_⟩
 refine zf _ ?_
 (all_goals refine qgp ?_ <;> (repeat' first | exact trivial | intro hc | refine And.intro ?_ ?_) <;> refine Lf.mk ?_)
 refine zX zd8 [0] [0] (s, yS) ⟨by decide, hs⟩ rfl rfl ?_
 refine And.intro (VS.mk (LeL.of_eq rfl)) (And.intro (VS.mk rfl) ?_)
 dsimp only
 have hstep : ww one s = if (zr yS s).1 = 0 then (.mk 3 0 [] [(one (zr yS s).2).1], (one (zr yS s).2).2)
  else if (zr yS s).1 = 1 then (.mk 4 0 [] [(one (zr yS s).2).1], (one (zr yS s).2).2)
  else if (zr yS s).1 = 2 then
   (if (zr qA (atF one 5 (zr yS s).2).2).1 < 0 then (noE, vv (zr qA (atF one 5 (zr yS s).2).2).2 2)
    else ((atF one 5 (zr yS s).2).1, (zr qA (atF one 5 (zr yS s).2).2).2))
  else zc5 (zr yS s).2 := rfl
 generalize hS : zr yS s = S at *
 obtain ⟨i, s1⟩ := S
 have q1 : s1.rest.length ≤ s.rest.length := q1
 (all_goals refine qgp ?_ <;> (repeat' first | exact trivial | intro hc | refine And.intro ?_ ?_) <;> refine Lf.mk ?_)
 ·refine zX h [0] [0] s1 (by omega) rfl rfl ?_
  refine And.intro (VS.mk (LeL.of_eq rfl)) (And.intro (VS.mk rfl) ?_)
  (all_goals refine qgp (Lf.mk ?_))
  have ho : ww one s = (.mk 3 0 [] [(one s1).1], (one s1).2) := by rw [hstep, if_pos hc]
  refine yn ?_
  (repeat' (first | (refine VS.mk ?_) | exact trivial | exact rfl | refine And.intro ?_ ?_))
  all_goals (rw [ho])
  ·dsimp only; rw [zai, zv2]; rfl
  ·rfl
 ·refine zX h [0] [0] s1 (by omega) rfl rfl ?_
  refine And.intro (VS.mk (LeL.of_eq rfl)) (And.intro (VS.mk rfl) ?_)
  (all_goals refine qgp (Lf.mk ?_))
  have ho : ww one s = (.mk 4 0 [] [(one s1).1], (one s1).2) := by rw [hstep, if_neg (by assumption), if_pos hc]
  refine yn ?_
  (repeat' (first | (refine VS.mk ?_) | exact trivial | exact rfl | refine And.intro ?_ ?_))
  all_goals (rw [ho])
  ·dsimp only; rw [zai, zv2]; rfl
  ·rfl
 ·have q2 := qv hsub 5 s1
  refine zX hat [0] [0] s1 (by omega) rfl rfl ?_
  refine And.intro (VS.mk (LeL.of_eq rfl)) (And.intro (VS.mk rfl) ?_)
  (all_goals refine qgp (Lf.mk ?_))
  refine zX zd8 [0] [0] ((atF one 5 s1).2, qA) ⟨by decide, by omega⟩ rfl rfl ?_
  refine And.intro (VS.mk (LeL.of_eq rfl)) (And.intro (VS.mk rfl) ?_)
  (all_goals refine qgp ?_ <;> (repeat' first | exact trivial | intro hc | refine And.intro ?_ ?_) <;> refine Lf.mk ?_)
  ·refine zX jN [0] [0] ((zr qA (atF one 5 s1).2).2, 2) trivial rfl rfl ?_
   refine And.intro (VS.mk (LeL.of_eq rfl)) (And.intro (VS.mk rfl) ?_)
   (all_goals refine qgp (Lf.mk ?_))
   have ho : ww one s = (noE, vv (zr qA (atF one 5 s1).2).2 2) := by rw [hstep, if_neg (by assumption), if_neg (by assumption), if_pos (by assumption)]; dsimp only; rw [if_pos hc]
   refine yn ?_
   (repeat' (first | (refine VS.mk ?_) | exact trivial | exact rfl | refine And.intro ?_ ?_))
   all_goals (rw [ho]; rfl)
  ·have ho : ww one s = ((atF one 5 s1).1, (zr qA (atF one 5 s1).2).2) := by rw [hstep, if_neg (by assumption), if_neg (by assumption), if_pos (by assumption)]; dsimp only; rw [if_neg hc]
   refine yn ?_
   (repeat' (first | (refine VS.mk ?_) | exact trivial | exact rfl | refine And.intro ?_ ?_))
   all_goals (rw [ho]; rfl)
 ·have hr : s1.rest = [] := List.eq_nil_of_length_eq_zero (by omega)
  refine zX jN [0] [0] (s1, 9) trivial rfl rfl ?_
  refine And.intro (VS.mk (LeL.of_eq rfl)) (And.intro (VS.mk rfl) ?_)
  (all_goals refine qgp (Lf.mk ?_))
  have ho : ww one s = (noE, vv s1 9) := by rw [hstep, if_neg (by assumption), if_neg (by assumption), if_neg (by assumption)]; dsimp only; unfold zc5; rw [hr]
  refine yn ?_
  (repeat' (first | (refine VS.mk ?_) | exact trivial | exact rfl | refine And.intro ?_ ?_))
  all_goals (rw [ho]; rfl)
 ·obtain ⟨r1, e1⟩ := s1
  cases r1 with
  | nil => exfalso; exact hc rfl
  | cons t r =>
   have ho : ww one s = if t.kind = 2 then (.mk 1 (zd t.n 32) [] [], ⟨r, e1⟩)
     else if t.kind = 1 then (if yH t.text = true then (.mk 2 0 t.text [], ⟨r, e1⟩) else (noE, vv ⟨r, e1⟩ 7))
     else (noE, vv ⟨r, e1⟩ 2) := by rw [hstep, if_neg (by assumption), if_neg (by assumption), if_neg (by assumption)]; rfl
   clear hstep hS
   (all_goals refine qgp ?_ <;> (repeat' first | exact trivial | intro hc | refine And.intro ?_ ?_) <;> refine Lf.mk ?_)
   ·refine ze yw t.n trivial (VS.mk (LeL.of_eq rfl)) ?_
    (all_goals refine qgp (Lf.mk ?_))
    rw [if_pos hc] at ho
    refine vI (r1 := vu (.mk 1 (zd t.n 32) [] [])) (by rw [zai]; exact .agg (.cons (.refl _) (.cons (.refl _) (.cons (.refl _) (.cons (.nil 4) .nil))))) ?_ (Nat.le_refl _)
    refine yn ?_
    (repeat' (first | (refine VS.mk ?_) | exact trivial | exact rfl | refine And.intro ?_ ?_))
    all_goals (rw [ho]; rfl)
   ·refine ze zmc t.text trivial (VS.mk (LeL.of_eq rfl)) ?_
    (all_goals refine qgp ?_ <;> (repeat' first | exact trivial | intro hc | refine And.intro ?_ ?_) <;> refine Lf.mk ?_)
    ·rw [if_neg (by assumption), if_pos (by assumption), if_pos hc] at ho
     refine vI (r1 := vu (.mk 2 0 t.text [])) (by rw [zai]; exact .agg (.cons (.refl _) (.cons (.refl _) (.cons (.refl _) (.cons (.nil 4) .nil))))) ?_ (Nat.le_refl _)
     refine yn ?_
     (repeat' (first | (refine VS.mk ?_) | exact trivial | exact rfl | refine And.intro ?_ ?_))
     all_goals (rw [ho]; rfl)
    ·refine zX jN [0] [0] (⟨r, e1⟩, 7) trivial rfl rfl ?_
     refine And.intro (VS.mk (LeL.of_eq rfl)) (And.intro (VS.mk rfl) ?_)
     (all_goals refine qgp (Lf.mk ?_))
     rw [if_neg (by assumption), if_pos hc, if_neg (by rw [(by assumption : yH t.text = false)]; decide)] at ho
     refine yn ?_
     (repeat' (first | (refine VS.mk ?_) | exact trivial | exact rfl | refine And.intro ?_ ?_))
     all_goals (rw [ho]; rfl)
   ·refine zX jN [0] [0] (⟨r, e1⟩, 2) trivial rfl rfl ?_
    refine And.intro (VS.mk (LeL.of_eq rfl)) (And.intro (VS.mk rfl) ?_)
    (all_goals refine qgp (Lf.mk ?_))
    rw [if_neg (by assumption), if_neg (by assumption)] at ho
    refine yn ?_
    (repeat' (first | (refine VS.mk ?_) | exact trivial | exact rfl | refine And.intro ?_ ?_))
    all_goals (rw [ho]; rfl)
theorem ztf (f : Nat) : qu (f + 1) = ww (qu f) := by funext s; rw [qu]
theorem zv4 : ∀ f : Nat, f ≤ 7 → zgd (7 - (f : Int)) (qu f)
 | 0, _ => ztd (by decide)
 | f + 1, hf => by
  have h := zv4 f (by omega)
  rw [ztf]
  have e : (7 : Int) - ((f + 1 : Nat) : Int) + 1 = 7 - (f : Int) := by omega
  exact zte (by omega) (by omega) (zcM f) (by rw [e]; exact h)
theorem zv5 : zc6 0 0 (atF (qu 7) 5) := zro (zcM 7) (zv4 7 (by decide))
def qf (l : List zbl) : zh × St := atF (qu 7) 5 ⟨l, 0⟩
def xQ (l : List zbl) : zh × Int × Int := if (qf l).2.err = 0 then ((qf l).1, (l.length : Int) - (qf l).2.rest.length, 0) else (noE, 0, (qf l).2.err)
def zwU (p : zh × Int × Int) : D := .tup [vu p.1, .int .i64 p.2.1, .int .i64 p.2.2]
theorem zgH (l : List zbl) : (qf l).2.rest.length ≤ l.length := qv (zcM 7) 5 ⟨l, 0⟩
theorem zn5 : za Tryz.prog zma (zA (fun l : List zbl => l.length ≤ 1000000000) (fun l => [.sl 3 (l.map ztb) none]) fun l => zwU (xQ l)) := by
 refine zg zj Tryz.func192 rfl (by decide) ?_
 intro l hl
 refine ⟨Nat.le_refl _, by simp [Tryz.f192], fun E hE => ?_⟩
 refine zf _ ?_
 (all_goals refine qgp (Lf.mk ?_))
 refine zX zv5 [1] [1] ⟨l, 0⟩ hl rfl rfl ?_
 refine And.intro (VS.mk (LeL.of_eq rfl)) (And.intro (VS.mk rfl) ?_)
 have hq := zgH l
 have hp : xQ l = if (qf l).2.err = 0 then ((qf l).1, (l.length : Int) - (qf l).2.rest.length, 0) else (noE, 0, (qf l).2.err) := rfl
 have hx : atF (qu 7) 5 ⟨l, 0⟩ = qf l := rfl
 rw [hx]
 generalize qf l = T at *
 obtain ⟨e, r, er⟩ := T
 have hq : r.length ≤ l.length := hq
 (all_goals refine qgp ?_ <;> (repeat' first | exact trivial | intro hc | refine And.intro ?_ ?_) <;> refine Lf.mk ?_)
 ·rw [hp, if_neg hc]
  exact zb (VS.mk (.tup (.cons zmq (.cons (.refl _) (.cons (.refl _) .nil)))))
 ·rw [hp, if_pos hc]
  refine zb (VS.mk (LeD.of_eq ?_))
  show D.tup [.agg [.int .i64 e.kind, .int .i64 e.n, .str e.name, .sl 4 (e.kids.map xb) none], .int .i64 _, .int .i64 0] = .tup [vu e, _, _]
  cases e
  rw [zai, zoG, zv1, zoH, zoI]
end Go.Proofs.YthmdddenbfbefaaGreatDoor
namespace Go.Proofs.YthmdddenbfbefaaGreatDoor
open Go Go.Plat
set_option linter.unusedVariables false
set_option linter.unusedSimpArgs false
set_option maxRecDepth 100000
set_option maxHeartbeats 2000000
attribute [local irreducible] AWP zy ye zF zn yt z6 zE zW zY zp za zN yu zo zZ yp yq yj yl zt zu zw
structure zq where
 name : List UInt8
 n : Int
 deriving DecidableEq
structure zk where
 name : List UInt8
 n : Int
def yE (v : zq) : D := .agg [.str v.name, .int .i64 v.n]
def x9 (v : zk) : D := .agg [.str v.name, .int .i64 v.n]
def zc7 (k a b : Int) : Int :=
 if k = 5 then zd (a * b) 32 else if k = 6 then zd (a + b) 32 else if k = 7 then zd (a - b) 32
 else if k = 8 then zd (a * 2 ^ (b % 32).toNat) 32 else if k = 9 then zd (a % 4294967296 / 2 ^ (b % 32).toNat) 32
 else if k = 10 then zd (zw .and .i64 a b) 32 else if k = 11 then zd (zw .or .i64 a b) 32 else zd a 32
def S32 (n : Int) : Prop := -2147483648 ≤ n ∧ n ≤ 2147483647
theorem zrp (n : Int) : zd n 32 = if n % 4294967296 / 2147483648 = 1 then n % 4294967296 - 4294967296 else n % 4294967296 := rfl
theorem jP (n : Int) : S32 (zd n 32) := by
 rw [zrp]; unfold S32
 split <;> omega
theorem zd9 (k a b : Int) : S32 (zc7 k a b) := by
 unfold zc7
 repeat' split
 all_goals exact jP _
theorem zrq {n : Int} : zw .and .i64 n 31 = n % 32 := qr (k := 5) (by decide) (by decide)
theorem zv6 {n : Int} : zw .and .i64 n 4294967295 = n % 4294967296 := qr (k := 32) (by decide) (by decide)
theorem zuX {n : Int} (h0 : -9223372036854775808 ≤ n) (h1 : n ≤ 9223372036854775807) : zw .xor .i64 (if IntKind.i64.signed = true then -1 else IntKind.i64.max) n = -n - 1 := by
 unfold zw
 have e : (BitVec.ofInt IntKind.i64.bits (-1) ^^^ BitVec.ofInt IntKind.i64.bits n).toNat = 18446744073709551615 - (BitVec.ofInt 64 n).toNat := by
  show (BitVec.ofInt 64 (-1) ^^^ BitVec.ofInt 64 n).toNat = _
  have : BitVec.ofInt 64 (-1) = BitVec.allOnes 64 := by decide
  rw [this, BitVec.allOnes_xor, BitVec.toNat_not]
 show IntKind.i64.wrap (((BitVec.ofInt IntKind.i64.bits (-1) ^^^ BitVec.ofInt IntKind.i64.bits n).toNat : Nat) : Int) = _
 rw [e]
 have h4 := toNat_ofInt n
 generalize (BitVec.ofInt 64 n).toNat = x at *
 have hx : x ≤ 18446744073709551615 := by omega
 unfold IntKind.wrap
 simp [IntKind.bits, IntKind.signed]
 omega
theorem ztg {y : Nat} (h : y ≤ 31) : (1 : Int) ≤ 2 ^ y ∧ (2 : Int) ^ y ≤ 2147483648 := by
 have h1 : (2 : Nat) ^ y ≤ 2 ^ 31 := Nat.pow_le_pow_right (by decide) h
 have h2 : 1 ≤ (2 : Nat) ^ y := Nat.one_le_two_pow
 have e : ((2 : Int) ^ y) = ((2 ^ y : Nat) : Int) := by simp
 rw [e]
 exact ⟨by omega, by have : (2 : Nat) ^ 31 = 2147483648 := by decide
                     omega⟩
theorem zv7 {a : Int} {y : Nat} (ha : S32 a) (h : y ≤ 31) : -4611686018427387904 ≤ a * 2 ^ y ∧ a * 2 ^ y ≤ 4611686018427387904 := by
 obtain ⟨h1, h2⟩ := ztg h
 obtain ⟨h3, h4⟩ := ha
 generalize (2 : Int) ^ y = p at *
 constructor
 ·have : -2147483648 * 2147483648 ≤ a * p := by
   rcases Int.le_total 0 a with h | h
   ·have := Int.mul_nonneg h (by omega : 0 ≤ p); omega
   ·have h5 : -2147483648 * p ≤ a * p := Int.mul_le_mul_of_nonneg_right h3 (by omega)
    omega
  omega
 ·have : a * p ≤ 2147483648 * 2147483648 := by
   rcases Int.le_total 0 a with h | h
   ·have h5 : a * p ≤ a * 2147483648 := Int.mul_le_mul_of_nonneg_left h2 h
    omega
   ·have := Int.mul_nonneg (by omega : 0 ≤ -a) (by omega : 0 ≤ p)
    rw [Int.neg_mul] at this; omega
  omega
theorem zv8 {a b : Int} (ha : S32 a) (hb : S32 b) : -4611686018427387904 ≤ a * b ∧ a * b ≤ 4611686018427387904 := by
 obtain ⟨h1, h2⟩ := ha
 obtain ⟨h3, h4⟩ := hb
 have k1 : (a * b).natAbs ≤ 2147483648 * 2147483648 := by
  rw [Int.natAbs_mul]
  exact Nat.mul_le_mul (by omega) (by omega)
 omega
theorem zuY {a y : Int} {K : D → Prop} (ha : S32 a) (h0 : 0 ≤ y) (h1 : y ≤ 31) (h : K (.int .i64 (a * 2 ^ y.toNat))) : yj .i64 a y K := by
 unfold yj
 refine ⟨h0, ?_⟩
 have e : min y.toNat IntKind.i64.bits = y.toNat := by simp only [IntKind.bits]; omega
 obtain ⟨h2, h3⟩ := zv7 ha (y := y.toNat) (by omega)
 rw [e, ja (by omega) (by omega)]
 exact h
theorem zuZ {x y : Int} {K : D → Prop} (h0 : 0 ≤ y) (h1 : y ≤ 31) (h : K (.int .i64 (x / 2 ^ y.toNat))) : yl .i64 x y K := by
 unfold yl
 refine ⟨h0, ?_⟩
 have e : min y.toNat IntKind.i64.bits = y.toNat := by simp only [IntKind.bits]; omega
 have hp : (0 : Int) ≤ 2 ^ y.toNat := Int.le_of_lt (Int.pow_pos (by decide))
 rw [e, Int.fdiv_eq_ediv_of_nonneg _ hp]
 exact h
attribute [local irreducible] zd
theorem zmr : za Tryz.prog zkQ (zA (fun ((k, a, b) : Int × Int × Int) => S32 a ∧ S32 b) (fun (k, a, b) => [.int .i64 k, .int .i64 a, .int .i64 b]) fun (k, a, b) => .int .i64 (zc7 k a b)) := by
 refine zg zj Tryz.func217 rfl (by decide) ?_
 rintro ⟨k, a, b⟩ ⟨ha, hb⟩
 refine ⟨Nat.le_refl _, by simp [Tryz.f217], fun E hE => ?_⟩
 refine zf _ ?_
 have hm := zv8 ha hb
 have ha1 := ha.1
 have ha2 := ha.2
 have hb1 := hb.1
 have hb2 := hb.2
 (all_goals refine qgo ?_ <;> (repeat' first | exact trivial | intro hc | refine And.intro ?_ ?_) <;> refine Lf.mk ?_)
 any_goals (first | (refine wb zrq ?_) | (refine wb zv6 ?_) | (refine wb rfl ?_) | skip)
 have hb32 : 0 ≤ b % 32 ∧ b % 32 ≤ 31 := by omega
 (all_goals refine qgo (Lf.mk ?_))
 any_goals (first | (refine zuY ha (by omega) (by omega) ?_) | (refine wb zrq ?_) | skip)
 (all_goals refine qgo (Lf.mk ?_))
 any_goals (first | (refine zuZ (by omega) (by omega) ?_) | skip)
 (all_goals refine qgo (Lf.mk ?_))
 all_goals (refine ze yw _ trivial (VS.mk (LeL.of_eq rfl)) ?_)
 (all_goals refine qgo (Lf.mk ?_))
 all_goals
  refine zb (VS.mk (LeD.of_eq (congrArg (D.int .i64) (?_ : _ = zc7 k a b))))
  unfold zc7
  repeat (first | rw [if_pos (by assumption)] | rw [if_neg (by assumption)])
def zfv (k : Int) (a b : zq) : zq × Int :=
 if a.name = [] ∧ b.name = [] then (⟨[], zc7 k a.n b.n⟩, 0)
 else if k = 6 ∧ (a.name = [] ∨ b.name = []) then (⟨a.name ++ b.name, zc7 k a.n b.n⟩, 0)
 else if k = 7 ∧ b.name = [] then (⟨a.name, zc7 k a.n b.n⟩, 0)
 else if k = 7 ∧ a.name = b.name then (⟨[], zc7 k a.n b.n⟩, 0)
 else (⟨[], 0⟩, 8)
def zit (x : zq × Int) : D := .tup [yE x.1, .int .i64 x.2]
attribute [local irreducible] zc7
theorem zrr : za Tryz.prog zpL (zA (fun ((k, a, b) : Int × zq × zq) => S32 a.n ∧ S32 b.n ∧ a.name.length ≤ 1000000000 ∧ b.name.length ≤ 1000000000) (fun (k, a, b) => [.int .i64 k, yE a, yE b]) fun (k, a, b) => zit (zfv k a b)) := by
 refine zg zj Tryz.func208 rfl (by decide) ?_
 rintro ⟨k, a, b⟩ ⟨ha, hb, hna, hnb⟩
 refine ⟨Nat.le_refl _, by simp [Tryz.f208], fun E hE => ?_⟩
 refine zf _ ?_
 (all_goals refine qgo ?_ <;> (repeat' first | exact trivial | intro hc | refine And.intro ?_ ?_) <;> refine Lf.mk ?_)
 any_goals (first | (exfalso; exact absurd ‹a.name = []› ‹¬ a.name = []›) | (exfalso; exact absurd ‹b.name = []› ‹¬ b.name = []›) | (exfalso; omega) | skip)
 any_goals (first | (refine zh4 (by omega) ?_) | skip)
 (all_goals refine qgo (Lf.mk ?_))
 any_goals (first | (refine ze zmr (k, a.n, b.n) ⟨ha, hb⟩ (VS.mk (LeL.of_eq rfl)) ?_) | skip)
 (all_goals refine qgo (Lf.mk ?_))
 all_goals
  refine zb (VS.mk (LeD.of_eq (?_ : _ = zit (zfv k a b))))
  simp_all [zfv, zit, yE]
def zea (n : List UInt8) : List zk → Option Int
 | [] => none
 | s :: l => if s.name = n then some s.n else zea n l
def zc8 (n : List UInt8) : List zk → Nat → Int
 | [], _ => -1
 | s :: l, k => if s.name = n then k else zc8 n l (k + 1)
theorem zka (n : List UInt8) : ∀ (l : List zk) (k : Nat), (zea n l = none ∧ zc8 n l k = -1) ∨ ∃ (i : Nat) (s : zk), l[i]? = some s ∧ zc8 n l k = ((k + i : Nat) : Int) ∧ zea n l = some s.n
 | [], k => .inl ⟨rfl, rfl⟩
 | s :: l, k => by
  rw [zea, zc8]
  by_cases h : s.name = n
  ·rw [if_pos h, if_pos h]
   exact .inr ⟨0, s, rfl, rfl, rfl⟩
  ·rw [if_neg h, if_neg h]
   rcases zka n l (k + 1) with h1 | ⟨i, t, h1, h2, h3⟩
   ·exact .inl h1
   ·exact .inr ⟨i + 1, t, h1, by rw [h2]; congr 1; omega, h3⟩
def jQ : zq := ⟨[], 0⟩
def jd (k n : Int) (s : List UInt8) (vs : List zq) (l : List zk) : zq × Int :=
 if k = 1 ∧ vs = [] then (⟨[], zd n 32⟩, 0)
 else if k = 2 ∧ vs = [] then (match zea s l with | some m => (⟨[], zd m 32⟩, 0) | none => (⟨s, 0⟩, 0))
 else match vs with
  | [v] => if k = 3 ∨ k = 4 then (if v.name = [] then (if k = 3 then (⟨[], zd (-v.n) 32⟩, 0) else (⟨[], zd (-v.n - 1) 32⟩, 0)) else (jQ, 8)) else (jQ, 1)
  | [a, b] => if 5 ≤ k ∧ k ≤ 11 then zfv k a b else (jQ, 1)
  | _ => (jQ, 1)
mutual
def xk (l : List zk) : zh → zq × Int
 | .mk k n s ks => match evalL l ks with
  | .inl w => (jQ, w)
  | .inr vs => jd k n s vs l
def evalL (l : List zk) : List zh → Int ⊕ List zq
 | [] => .inr []
 | e :: es => if (xk l e).2 = 0 then (match evalL l es with | .inl w => .inl w | .inr vs => .inr ((xk l e).1 :: vs)) else .inl (xk l e).2
end
def evA (l : List zk) (acc : List zq) (es : List zh) : Int ⊕ List zq := match evalL l es with | .inl w => .inl w | .inr vs => .inr (acc ++ vs)
theorem zu0 (l : List zk) (acc : List zq) : evA l acc [] = .inr acc := by unfold evA; rw [evalL]; simp
theorem zth (l : List zk) (acc : List zq) (e : zh) (es : List zh) : evA l acc (e :: es) = if (xk l e).2 = 0 then evA l (acc ++ [(xk l e).1]) es else .inl (xk l e).2 := by
 unfold evA
 rw [evalL]
 by_cases h : (xk l e).2 = 0
 ·rw [if_pos h, if_pos h]
  cases evalL l es <;> simp
 ·rw [if_neg h, if_neg h]
theorem zu1 (l : List zk) (es : List zh) : evA l [] es = evalL l es := by unfold evA; cases evalL l es <;> simp
theorem zms (l : List zk) (e : zh) : xk l e = match evalL l e.kids with
  | .inl w => (jQ, w)
  | .inr vs => jd e.kind e.n e.name vs l := by
 cases e with
 | mk k n s ks => rw [xk]; rfl
structure VOk (v : zq) (n : Nat) : Prop where
 s32 : S32 v.n
 len : v.name.length ≤ n
theorem zv9 {k : Int} {a b : zq} {m n : Nat} (ha : VOk a m) (hb : VOk b n) : VOk (zfv k a b).1 (m + n) := by
 have h1 := ha.len
 have h2 := hb.len
 unfold zfv
 split
 ·exact ⟨zd9 _ _ _, by simp⟩
 split
 ·exact ⟨zd9 _ _ _, by simp; omega⟩
 split
 ·exact ⟨zd9 _ _ _, by dsimp only; omega⟩
 split
 ·exact ⟨zd9 _ _ _, by simp⟩
 ·exact ⟨⟨by decide, by decide⟩, by simp⟩
theorem zge {n : Nat} : VOk jQ n := ⟨⟨by decide, by decide⟩, by simp [jQ]⟩
def jR : List zq → Nat
 | [] => 0
 | v :: vs => v.name.length + jR vs
theorem zmt : ∀ (a : List zq) (v : zq), jR (a ++ [v]) = jR a + v.name.length
 | [], v => by simp [jR]
 | x :: a, v => by rw [List.cons_append, jR, jR, zmt]; omega
theorem zwa {k n : Int} {s : List UInt8} {vs : List zq} {l : List zk} {m : Nat} (h : ∀ v ∈ vs, S32 v.n) (hm : jR vs ≤ m) : VOk (jd k n s vs l).1 (s.length + m) := by
 unfold jd
 split
 ·exact ⟨jP _, by simp⟩
 split
 ·split
  ·exact ⟨jP _, by simp⟩
  ·exact ⟨⟨show (-2147483648 : Int) ≤ 0 by decide, show (0 : Int) ≤ 2147483647 by decide⟩, by dsimp only; omega⟩
 rcases vs with _ | ⟨a, _ | ⟨b, _ | ⟨c, r⟩⟩⟩ <;> dsimp only
 ·exact zge
 ·split
  ·split
   ·split
    ·exact ⟨jP _, by simp⟩
    ·exact ⟨jP _, by simp⟩
   ·exact zge
  ·exact zge
 ·split
  ·have := zv9 (k := k) (a := a) (b := b) ⟨h a (by simp), Nat.le_refl _⟩ ⟨h b (by simp), Nat.le_refl _⟩
   simp only [jR] at hm
   exact ⟨this.s32, by have := this.len; omega⟩
  ·exact zge
 ·exact zge
mutual
theorem zoL (l : List zk) : ∀ e : zh, VOk (xk l e).1 (yy e)
 | .mk k n s ks => by
  rw [xk, yy]
  cases h : evalL l ks with
  | inl w => exact zge
  | inr vs =>
   obtain ⟨h1, h2⟩ := zmu l ks vs h
   have := zwa (k := k) (n := n) (s := s) (l := l) h1 h2
   exact ⟨this.s32, by have := this.len; dsimp only; omega⟩
theorem zmu (l : List zk) : ∀ (es : List zh) (vs : List zq), evalL l es = .inr vs → (∀ v ∈ vs, S32 v.n) ∧ jR vs ≤ vk es
 | [], vs, h => by rw [evalL] at h; cases h; exact ⟨by simp, by simp [jR]⟩
 | e :: es, vs, h => by
  rw [evalL] at h
  have he := zoL l e
  split at h
  ·cases hl : evalL l es with
   | inl w => rw [hl] at h; cases h
   | inr ws =>
    rw [hl] at h
    cases h
    obtain ⟨h1, h2⟩ := zmu l es ws hl
    refine ⟨fun v hv => ?_, ?_⟩
    ·rcases List.mem_cons.1 hv with rfl | hv
     ·exact he.s32
     ·exact h1 v hv
    ·rw [jR, vk]
     have := he.len
     omega
  ·cases h
end
theorem zoM {α : Type} {l : List α} (h : l.length = 0) : l = [] := List.eq_nil_of_length_eq_zero h
theorem zu2 {k n : Int} {s : List UInt8} {vs : List zq} {l : List zk} (h1 : k = 1) (h2 : vs.length = 0) : jd k n s vs l = (⟨[], zd n 32⟩, 0) := by unfold jd; rw [if_pos ⟨h1, zoM h2⟩]
theorem zmv {k n : Int} {s : List UInt8} {vs : List zq} {l : List zk} (h1 : k = 2) (h2 : vs.length = 0) : jd k n s vs l = (match zea s l with | some m => (⟨[], zd m 32⟩, 0) | none => (⟨s, 0⟩, 0)) := by
 unfold jd; rw [if_neg (by rintro ⟨h, _⟩; omega), if_pos ⟨h1, zoM h2⟩]
theorem zgf {k n : Int} {s : List UInt8} {v : zq} {l : List zk} (h1 : k = 3 ∨ k = 4) : jd k n s [v] l = if v.name = [] then (if k = 3 then (⟨[], zd (-v.n) 32⟩, 0) else (⟨[], zd (-v.n - 1) 32⟩, 0)) else (jQ, 8) := by
 unfold jd; rw [if_neg (by rintro ⟨h, _⟩; omega), if_neg (by rintro ⟨h, _⟩; omega)]; dsimp only; rw [if_pos h1]
theorem zu3 {k n : Int} {s : List UInt8} {a b : zq} {l : List zk} (h1 : 5 ≤ k ∧ k ≤ 11) : jd k n s [a, b] l = zfv k a b := by
 unfold jd; rw [if_neg (by rintro ⟨h, _⟩; omega), if_neg (by rintro ⟨h, _⟩; omega)]; dsimp only; rw [if_pos h1]
theorem zu4 {k n : Int} {s : List UInt8} {vs : List zq} {l : List zk} (h0 : vs.length = 0 → k ≠ 1 ∧ k ≠ 2) (h1 : vs.length = 1 → k ≠ 3 ∧ k ≠ 4) (h2 : vs.length = 2 → k < 5 ∨ 11 < k) : jd k n s vs l = (jQ, 1) := by
 unfold jd
 rw [if_neg (by rintro ⟨h, h3⟩; exact (h0 (by rw [h3]; rfl)).1 h), if_neg (by rintro ⟨h, h3⟩; exact (h0 (by rw [h3]; rfl)).2 h)]
 rcases vs with _ | ⟨a, _ | ⟨b, _ | ⟨c, r⟩⟩⟩ <;> dsimp only
 ·rw [if_neg (by have := h1 rfl; omega)]
 ·rw [if_neg (by have := h2 rfl; omega)]
theorem zoN {α : Type} {l : List α} (h : l.length = 1) : ∃ a, l = [a] := by
 rcases l with _ | ⟨a, _ | ⟨b, r⟩⟩ <;> simp at h
 exact ⟨a, rfl⟩
theorem zu5 {α : Type} {l : List α} (h : l.length = 2) : ∃ a b, l = [a, b] := by
 rcases l with _ | ⟨a, _ | ⟨b, _ | ⟨c, r⟩⟩⟩ <;> simp at h
 exact ⟨a, b, rfl⟩
theorem zmw : za Tryz.prog zbk (yh (fun _ : zk × zh => True) (fun (s, e) => [x9 s, .loc 0 0]) (fun (s, e) => [.cells [.int .i64 e.kind, .int .i64 e.n, .str e.name, .sl 4 (e.kids.map xb) none]]) (fun (s, e) => .bool (s.name == e.name))
  fun (s, e) => [.cells [.int .i64 e.kind, .int .i64 e.n, .str e.name, .sl 4 (e.kids.map xb) none]]) := by
 refine zg zj Tryz.func207 rfl (by decide) ?_
 rintro ⟨s, e⟩ -
 refine ⟨Nat.le_refl _, by simp [Tryz.f207], fun E hE => ?_⟩
 refine zf _ ?_
 (all_goals refine qgo (Lf.mk ?_))
 refine yn ?_
 (repeat' (first | (refine VS.mk ?_) | exact trivial | exact rfl | refine And.intro ?_ ?_))
theorem zkT : za Tryz.prog w0 (yh (fun ((l, e) : List zk × zh) => l.length ≤ 1000000000) (fun (l, e) => [.sl 2 (l.map x9) none, .fn zbk [.loc 0 0]])
  (fun (l, e) => [.cells [.int .i64 e.kind, .int .i64 e.n, .str e.name, .sl 4 (e.kids.map xb) none]]) (fun (l, e) => .int .i64 (zc8 e.name l 0)) fun (l, e) => [.cells [.int .i64 e.kind, .int .i64 e.n, .str e.name, .sl 4 (e.kids.map xb) none]]) := by
 refine zg zj Tryz.func174 rfl (by decide) ?_
 rintro ⟨l, e⟩ hl
 have hl : l.length ≤ 1000000000 := hl
 refine ⟨Nat.le_refl _, by simp [Tryz.f174], fun E hE => ?_⟩
 refine zf _ ?_
 (all_goals refine qgo (Lf.mk ?_))
 refine z8 (α := Nat) (fun k => k ≤ l.length ∧ zc8 e.name l 0 = zc8 e.name (l.drop k) k)
  (fun k => [(7, .int .i64 l.length), (8, .int .i64 k), (0, .sl 2 (l.map x9) none), (1, .fn zbk [.loc 0 0])])
  (fun _ => [.cells [.int .i64 e.kind, .int .i64 e.n, .str e.name, .sl 4 (e.kids.map xb) none]]) (fun k => l.length - k) (fun _ => by simp [hE]) 0 ⟨Nat.zero_le _, by simp⟩ ?_ ?_
 ·(repeat' (first | (refine VS.mk ?_) | exact trivial | exact rfl | refine And.intro ?_ ?_))
 rintro k ⟨hk, hf⟩
 refine zf _ ?_
 (all_goals refine qgo ?_ <;> (repeat' first | exact trivial | intro hc | refine And.intro ?_ ?_) <;> refine Lf.mk ?_)
 ·obtain ⟨s, hsk⟩ := ya (l := l) (k := k) (by omega)
  have hkl : k < l.length := by omega
  have hget : l[k] = s := by rw [List.getElem?_eq_getElem hkl] at hsk; exact Option.some.inj hsk
  rw [List.drop_eq_getElem_cons hkl, hget, zc8] at hf
  refine zl s (by omega) (by simpa using hsk) ?_
  (all_goals refine qgo (Lf.mk ?_))
  refine zX zmw [0] [0] (s, e) trivial rfl rfl ?_
  refine And.intro (VS.mk (LeL.of_eq rfl)) (And.intro (VS.mk rfl) ?_)
  (all_goals refine qgo ?_ <;> (repeat' first | exact trivial | intro hc | refine And.intro ?_ ?_) <;> refine Lf.mk ?_)
  ·rw [if_pos hc] at hf
   refine yn ?_
   (repeat' (first | (refine VS.mk ?_) | exact trivial | exact rfl | refine And.intro ?_ ?_))
   exact congrArg (D.int .i64) hf.symm
  ·rw [if_neg hc] at hf
   refine zC (k + 1) ⟨by omega, hf⟩ (by omega) ?_
   (repeat' (first | (refine VS.mk ?_) | exact trivial | exact rfl | refine And.intro ?_ ?_))
 ·rw [List.drop_of_length_le (by omega), zc8] at hf
  refine yn ?_
  (repeat' (first | (refine VS.mk ?_) | exact trivial | exact rfl | refine And.intro ?_ ?_))
  exact congrArg (D.int .i64) hf.symm
attribute [local irreducible] zh.kids zh.kind zh.n zh.name xk evalL xb zea zc8 yy zfv
theorem zgg {w : Int} {x : zq × Int} (h : x = (jQ, w)) : LeD (.tup [.agg [.str [], .int .i64 0], .int .i64 w]) (zit x) := by subst h; exact .refl _
theorem ziu (l : List zk) (hl : l.length ≤ 1000000000) : ∀ n : Nat, za Tryz.prog znY (zA (fun e : zh => yy e ≤ n ∧ yy e ≤ 4194304) (fun e => [vu e, .sl 2 (l.map x9) none]) fun e => zit (xk l e))
 | 0 => by
  refine zg zj Tryz.func193 rfl (by decide) fun e h => ?_
  have := zft e
  omega
 | n + 1 => by
  have ih := ziu l hl n
  refine zg zj Tryz.func193 rfl (by decide) ?_
  rintro e ⟨hn, hN⟩
  have hkl := zs9 e
  have hnl := zta e
  refine ⟨Nat.le_refl _, by simp [Tryz.f193], fun E hE => ?_⟩
  refine zf _ ?_
  (all_goals refine qgo (Lf.mk ?_))
  refine wW (qX 6 2 rfl) ?_
  generalize hEV : evalL l e.kids = EV at *
  have hev0 : evA l [] e.kids = EV := by rw [zu1, hEV]
  refine z8 (α := Nat × List zq) (fun p => p.1 ≤ e.kids.length ∧ evA l p.2 (e.kids.drop p.1) = EV ∧ p.2.length = p.1 ∧ (∀ v ∈ p.2, S32 v.n) ∧ jR p.2 ≤ p.1 * 4194304)
   (fun p => [(13, .sl 4 (e.kids.map xb) none), (14, .int .i64 e.kids.length), (15, .int .i64 p.1), (1, .sl 2 (l.map x9) none), (2, .loc 0 0), (4, .loc 1 0), (6, .sl 2 (p.2.map yE) (some 2))])
   (fun p => [.cells [.int .i64 e.kind, .int .i64 e.n, .str e.name, .sl 4 (e.kids.map xb) none], .cells [.str [], .int .i64 0], .spare p.2.length]) (fun p => e.kids.length - p.1) (fun _ => by simp [hE]) (0, []) ⟨Nat.zero_le _, by simpa using hev0, rfl, by simp, by simp [jR]⟩ ?_ ?_
  ·(repeat' (first | (refine VS.mk ?_) | exact trivial | exact rfl | refine And.intro ?_ ?_))
  rintro ⟨k, vs⟩ ⟨hk, hev, hvl, hvs, hns⟩
  dsimp only at hk hev hvl hvs hns ⊢
  refine zf _ ?_
  (all_goals refine qgo ?_ <;> (repeat' first | exact trivial | intro hc | refine And.intro ?_ ?_) <;> refine Lf.mk ?_)
  ·obtain ⟨x, hx⟩ := ya (l := e.kids) (k := k) (by omega)
   have hxm := List.mem_of_getElem? hx
   have hxn := zrk hxm
   have hok := zoL l x
   have hkl3 : k < e.kids.length := by omega
   have hget : e.kids[k] = x := by rw [List.getElem?_eq_getElem hkl3] at hx; exact Option.some.inj hx
   rw [List.drop_eq_getElem_cons hkl3, hget, zth] at hev
   refine zuU x (by omega) (by simpa using hx) ?_
   (all_goals refine qgo (Lf.mk ?_))
   refine ze ih x ⟨by omega, by omega⟩ (VS.mk (LeL.of_eq rfl)) ?_
   (all_goals refine qgo ?_ <;> (repeat' first | exact trivial | intro hc | refine And.intro ?_ ?_) <;> refine Lf.mk ?_)
   ·rw [if_neg hc] at hev
    subst hev
    exact zb (VS.mk (zgg (by rw [zms, hEV])))
   ·rw [if_pos hc] at hev
    have hl1 := hok.len
    refine zC (k + 1, vs ++ [(xk l x).1]) ⟨by (dsimp only; omega), hev, by (dsimp only; rw [List.length_append, hvl]; rfl), fun v hv => ?_, by (dsimp only; rw [zmt]; omega)⟩ (by dsimp only; omega) ?_
    ·(repeat' (first | (refine VS.mk ?_) | exact trivial | exact rfl | refine And.intro ?_ ?_))
     ·simp [yE]
     ·simp [yE]
    ·rcases List.mem_append.1 hv with h | h
     ·exact hvs v h
     ·rw [List.mem_singleton.1 h]; exact hok.s32
  all_goals
   rw [List.drop_of_length_le (by omega), zu0] at hev
   subst hev
   have hT : xk l e = jd e.kind e.n e.name vs l := by rw [zms, hEV]
  any_goals (first | (exfalso; omega) | exact zb (VS.mk (zgg (by rw [hT, zu4 (by omega) (by omega) (by omega)]))) | skip)
  ·refine ze yw e.n trivial (VS.mk (LeL.of_eq rfl)) ?_
   (all_goals refine qgo (Lf.mk ?_))
   refine zb (VS.mk (LeD.of_eq ?_))
   rw [hT, zu2 (by omega) (by omega)]
   rfl
  ·refine zX zkT [0] [0] (l, e) hl rfl rfl ?_
   refine And.intro (VS.mk (LeL.of_eq rfl)) (And.intro (VS.mk rfl) ?_)
   rcases zka e.name l 0 with ⟨h1, h2⟩ | ⟨i, s, h1, h2, h3⟩
   ·dsimp only
    rw [h2]
    (all_goals refine qgo ?_ <;> (repeat' first | exact trivial | intro hc | refine And.intro ?_ ?_) <;> refine Lf.mk ?_)
    ·exfalso; omega
    ·refine zb (VS.mk (LeD.of_eq ?_))
     rw [hT, zmv (by omega) (by omega), h1]
     rfl
   ·have hil : i < l.length := (List.getElem?_eq_some_iff.1 h1).1
    rw [Nat.zero_add] at h2
    dsimp only
    rw [h2]
    (all_goals refine qgo ?_ <;> (repeat' first | exact trivial | intro hc | refine And.intro ?_ ?_) <;> refine Lf.mk ?_)
    ·refine zl s (by omega) (by simpa using h1) ?_
     (all_goals refine qgo (Lf.mk ?_))
     refine ze yw s.n trivial (VS.mk (LeL.of_eq rfl)) ?_
     (all_goals refine qgo (Lf.mk ?_))
     refine zb (VS.mk (LeD.of_eq ?_))
     rw [hT, zmv (by omega) (by omega), h3]
     rfl
    ·exfalso; omega
  ·obtain ⟨v, hv1⟩ := zoN (l := vs) (by omega)
   subst hv1
   obtain ⟨s1, s2⟩ := hvs v (by simp)
   (all_goals refine qgo ?_ <;> (repeat' first | exact trivial | intro hc | refine And.intro ?_ ?_) <;> refine Lf.mk ?_)
   ·exact zb (VS.mk (zgg (by rw [hT, zgf (by omega), if_neg (by assumption)])))
   ·refine ze yw (-v.n) trivial (VS.mk (LeL.of_eq (by rw [Int.zero_sub]))) ?_
    (all_goals refine qgo (Lf.mk ?_))
    refine zb (VS.mk (LeD.of_eq ?_))
    rw [hT, zgf (by omega), if_pos (by assumption), if_pos (by assumption)]
    rfl
   ·exfalso; omega
  ·obtain ⟨v, hv1⟩ := zoN (l := vs) (by omega)
   subst hv1
   obtain ⟨s1, s2⟩ := hvs v (by simp)
   (all_goals refine qgo ?_ <;> (repeat' first | exact trivial | intro hc | refine And.intro ?_ ?_) <;> refine Lf.mk ?_)
   ·exact zb (VS.mk (zgg (by rw [hT, zgf (by omega), if_neg (by assumption)])))
   ·exfalso; omega
   ·refine wb (zuX (by omega) (by omega)) ?_
    (all_goals refine qgo (Lf.mk ?_))
    refine ze yw (-v.n - 1) trivial (VS.mk (LeL.of_eq rfl)) ?_
    (all_goals refine qgo (Lf.mk ?_))
    refine zb (VS.mk (LeD.of_eq ?_))
    rw [hT, zgf (by omega), if_pos (by assumption), if_neg (by omega)]
    rfl
  ·obtain ⟨a, b, hab⟩ := zu5 (l := vs) (by omega)
   subst hab
   have sa := hvs a (by simp)
   have sb := hvs b (by simp)
   simp only [jR] at hns
   (all_goals refine qgo (Lf.mk ?_))
   refine ze zrr (e.kind, a, b) ⟨sa, sb, by omega, by omega⟩ (VS.mk (LeL.of_eq rfl)) ?_
   (all_goals refine qgo (Lf.mk ?_))
   refine zb (VS.mk (LeD.of_eq ?_))
   rw [hT, zu3 (by omega)]
   rfl
end Go.Proofs.YthmdddenbfbefaaGreatDoor
namespace Go.Proofs.YthmdddenbfbefaaGreatDoor
open Go Go.Plat
set_option linter.unusedVariables false
set_option linter.unusedSimpArgs false
set_option maxRecDepth 100000
set_option maxHeartbeats 2000000
attribute [local irreducible] AWP zy ye zF zn yt z6 zE zW zY zp za zN yu zo zZ yp yq yj yl zt zu zw
structure zaj where
 op : Int
 name : List UInt8
 shape : Int
 bits : Int
def ziv (r : zaj) : D := .agg [.int .i64 r.op, .str r.name, .int .i64 r.shape, .int .i64 r.bits]
def yY : List zaj := [
 ⟨1, [110, 111, 112], 0, 9⟩,
 ⟨2, [114, 116, 115], 0, 11⟩,
 ⟨3, [109, 111, 118], 1, 57344⟩,
 ⟨4, [97, 100, 100], 1, 28672⟩,
 ⟨5, [109, 111, 118], 2, 24579⟩,
 ⟨6, [97, 100, 100], 2, 12300⟩,
 ⟨7, [115, 117, 98], 2, 12296⟩,
 ⟨8, [97, 110, 100], 2, 8201⟩,
 ⟨9, [111, 114], 2, 8203⟩,
 ⟨10, [120, 111, 114], 2, 8202⟩,
 ⟨11, [116, 115, 116], 2, 8200⟩,
 ⟨12, [99, 109, 112, 47, 101, 113], 2, 12288⟩,
 ⟨13, [99, 109, 112, 47, 103, 116], 2, 12295⟩,
 ⟨14, [115, 104, 108, 108], 3, 16384⟩,
 ⟨15, [115, 104, 108, 114], 3, 16385⟩,
 ⟨16, [100, 116], 3, 16400⟩,
 ⟨17, [98, 116], 4, 35072⟩,
 ⟨18, [98, 102], 4, 35584⟩,
 ⟨19, [98, 114, 97], 5, 40960⟩,
 ⟨20, [98, 115, 114], 5, 45056⟩,
 ⟨21, [106, 109, 112], 6, 16427⟩,
 ⟨22, [106, 115, 114], 6, 16395⟩,
 ⟨23, [109, 111, 118, 46, 119], 7, 36864⟩,
 ⟨24, [109, 111, 118, 46, 108], 8, 53248⟩,
 ⟨25, [109, 111, 118, 46, 108], 9, 8194⟩,
 ⟨26, [109, 111, 118, 46, 108], 10, 24578⟩,
 ⟨27, [116, 114, 97, 112, 97], 11, 49920⟩]
theorem vb : yY.length = 27 := rfl
theorem zbx : za Tryz.prog zpI (zA (fun _ : Unit => True) (fun _ => []) fun _ => .sl 4 (yY.map ziv) none) := by
 refine zg zj Tryz.func177 rfl (by decide) fun _ _ => ?_
 refine ⟨Nat.le_refl _, by simp [Tryz.f177], fun E hE => ?_⟩
 refine zf _ ?_
 (all_goals refine qgo (Lf.mk ?_))
 exact zb (VS.mk (LeD.of_eq (by rfl)))
def xl (op : Int) : Option zaj := yY.find? fun r => r.op == op
def kv (op : Int) : D := match xl op with | some r => .tup [.str r.name, .int .i64 r.shape] | none => .tup [.str [], .int .i64 0]
theorem zby : za Tryz.prog zpG (zA (fun _ : Int => True) (fun op => [.int .i64 op]) kv) := by
 refine zg zj Tryz.func135 rfl (by decide) fun op _ => ?_
 refine ⟨Nat.le_refl _, by simp [Tryz.f135], fun E hE => ?_⟩
 refine zf _ ?_
 (all_goals refine qgo (Lf.mk ?_))
 refine ze zbx () trivial (VS.mk (by (first | exact LeL.refl _ | (repeat' (first | exact LeL.nil | exact LeD.refl _ | exact LeD.nil _ | exact LeD.strip _ _ _ | refine LeL.cons ?_ ?_ | refine LeD.tup ?_ | refine LeD.agg ?_))))) ?_
 (all_goals refine qgo (Lf.mk ?_))
 refine z8 (α := Nat) (fun k => k ≤ 27 ∧ ∀ (i : Nat) r, i < k → yY[i]? = some r → (r.op == op) = false) (fun k => [(6, .sl 4 (yY.map ziv) none), (7, .int .i64 27), (8, .int .i64 k), (0, .int .i64 op)]) (fun _ => []) (fun k => 27 - k) (fun _ => by simp [hE]) 0 ⟨Nat.zero_le _, by simp⟩ ?_ ?_
 ·(repeat' (first | (refine VS.mk ?_) | exact trivial | exact rfl | refine And.intro ?_ ?_))
 rintro k ⟨hk, hno⟩
 refine zf _ ?_
 (all_goals refine qgo ?_ <;> (repeat' first | exact trivial | intro hc | refine And.intro ?_ ?_) <;> refine Lf.mk ?_)
 ·obtain ⟨r, hr⟩ := ya (l := yY) (k := k) (by rw [vb]; omega)
  refine zl r (by omega) (by simpa using hr) ?_
  (all_goals refine qgo ?_ <;> (repeat' first | exact trivial | intro hc | refine And.intro ?_ ?_) <;> refine Lf.mk ?_)
  ·refine zb (VS.mk (LeD.of_eq ?_))
   have hf := zf9 (p := fun r => r.op == op) hr (by simpa using hc) hno
   rw [kv, xl, hf]
  ·refine zC (k + 1) ⟨by omega, zga hno hr (by simpa using hc)⟩ (by omega) ?_
   (repeat' (first | (refine VS.mk ?_) | exact trivial | exact rfl | refine And.intro ?_ ?_))
 ·refine zb (VS.mk (LeD.of_eq ?_))
  have hf := zlM hno (by rw [vb]; omega)
  rw [kv, xl, hf]
def zpV (name : List UInt8) (shape : Int) : Option zaj := yY.find? fun r => r.name == name && r.shape == shape
def wO (name : List UInt8) (shape : Int) : Int := match zpV name shape with | some r => r.op | none => 0
theorem zpW : za Tryz.prog zil (zA (fun _ : List UInt8 × Int => True) (fun (name, shape) => [.str name, .int .i64 shape]) fun (name, shape) => .int .i64 (wO name shape)) := by
 refine zg zj Tryz.func130 rfl (by decide) ?_
 rintro ⟨name, shape⟩ _
 refine ⟨Nat.le_refl _, by simp [Tryz.f130], fun E hE => ?_⟩
 refine zf _ ?_
 (all_goals refine qgo (Lf.mk ?_))
 refine ze zbx () trivial (VS.mk (by (first | exact LeL.refl _ | (repeat' (first | exact LeL.nil | exact LeD.refl _ | exact LeD.nil _ | exact LeD.strip _ _ _ | refine LeL.cons ?_ ?_ | refine LeD.tup ?_ | refine LeD.agg ?_))))) ?_
 (all_goals refine qgo (Lf.mk ?_))
 refine z8 (α := Nat) (fun k => k ≤ 27 ∧ ∀ (i : Nat) r, i < k → yY[i]? = some r → (r.name == name && r.shape == shape) = false) (fun k => [(7, .sl 4 (yY.map ziv) none), (8, .int .i64 27), (9, .int .i64 k), (0, .str name), (1, .int .i64 shape)]) (fun _ => []) (fun k => 27 - k) (fun _ => by simp [hE]) 0 ⟨Nat.zero_le _, by simp⟩ ?_ ?_
 ·(repeat' (first | (refine VS.mk ?_) | exact trivial | exact rfl | refine And.intro ?_ ?_))
 rintro k ⟨hk, hno⟩
 refine zf _ ?_
 (all_goals refine qgo ?_ <;> (repeat' first | exact trivial | intro hc | refine And.intro ?_ ?_) <;> refine Lf.mk ?_)
 ·obtain ⟨r, hr⟩ := ya (l := yY) (k := k) (by rw [vb]; omega)
  refine zl r (by omega) (by simpa using hr) ?_
  (all_goals refine qgo ?_ <;> (repeat' first | exact trivial | intro hc | refine And.intro ?_ ?_) <;> refine Lf.mk ?_)
  ·refine zb (VS.mk (LeD.of_eq ?_))
   have hf := zf9 (p := fun r => r.name == name && r.shape == shape) hr (by simp [*]) hno
   simp only [wO, zpV, hf]
  ·refine zC (k + 1) ⟨by omega, zga hno hr (by simp [*])⟩ (by omega) ?_
   (repeat' (first | (refine VS.mk ?_) | exact trivial | exact rfl | refine And.intro ?_ ?_))
  ·refine zC (k + 1) ⟨by omega, zga hno hr (by simp [*])⟩ (by omega) ?_
   (repeat' (first | (refine VS.mk ?_) | exact trivial | exact rfl | refine And.intro ?_ ?_))
 ·refine zb (VS.mk (LeD.of_eq ?_))
  have hf := zlM hno (by rw [vb]; omega)
  simp only [wO, zpV, hf]
def zbz (s : Int) : Bool := s == 1 || s == 3 || s == 6 || s == 7 || s == 8 || s == 2 || s == 9 || s == 10
def zbA (s : Int) : Bool := s == 2 || s == 9 || s == 10
theorem ziw : za Tryz.prog zpJ (zA (fun _ : Int => True) (fun s => [.int .i64 s]) fun s => .tup [.bool (zbz s), .bool (zbA s)]) := by
 refine zg zj Tryz.func178 rfl (by decide) fun s _ => ?_
 refine ⟨Nat.le_refl _, by simp [Tryz.f178], fun E hE => ?_⟩
 refine zf _ ?_
 (all_goals refine qgo ?_ <;> (repeat' first | exact trivial | intro hc | refine And.intro ?_ ?_) <;> refine Lf.mk ?_)
 all_goals (refine zb (VS.mk ?_))
 all_goals first | (exfalso; omega) | (refine LeD.tup (.cons ?_ (.cons ?_ .nil)) <;> first | exact LeD.tt (by simp_all [zbz, zbA]) | exact LeD.ff (by simp_all [zbz, zbA]))
def zc9 (s : Int) : Int := if s = 1 ∨ s = 4 then -128 else if s = 5 then -2048 else 0
def zau (s : Int) : Int := if s = 1 ∨ s = 4 then 127 else if s = 5 then 2047 else if s = 7 ∨ s = 8 ∨ s = 11 then 255 else 0
theorem zgI : za Tryz.prog znX (zA (fun _ : Int => True) (fun s => [.int .i64 s]) fun s => .tup [.int .i64 (zc9 s), .int .i64 (zau s)]) := by
 refine zg zj Tryz.func136 rfl (by decide) fun s _ => ?_
 refine ⟨Nat.le_refl _, by simp [Tryz.f136], fun E hE => ?_⟩
 refine zf _ ?_
 (all_goals refine qgo ?_ <;> (repeat' first | exact trivial | intro hc | refine And.intro ?_ ?_) <;> refine Lf.mk ?_)
 all_goals (refine zb (VS.mk ?_))
 all_goals (refine LeD.of_eq ?_; unfold zc9 zau; simp; omega)
def zeb (s : Int) : Int := if s = 0 then 65535 else if s = 2 ∨ s = 9 ∨ s = 10 then 61455 else if s = 3 ∨ s = 6 then 61695 else if s = 4 ∨ s = 11 then 65280 else 61440
theorem zpX : za Tryz.prog zpK (zA (fun _ : Int => True) (fun s => [.int .i64 s]) fun s => .int .i64 (zeb s)) := by
 refine zg zj Tryz.func181 rfl (by decide) fun s _ => ?_
 refine ⟨Nat.le_refl _, by simp [Tryz.f181], fun E hE => ?_⟩
 refine zf _ ?_
 (all_goals refine qgo ?_ <;> (repeat' first | exact trivial | intro hc | refine And.intro ?_ ?_) <;> refine Lf.mk ?_)
 all_goals (refine zb (VS.mk (LeD.of_eq (congrArg (D.int .i64) ?_))))
 all_goals (unfold zeb; (repeat' split) <;> first | rfl | omega)
attribute [local irreducible] zau xl yY zc9 zeb zd zbz zbA
structure Ins where
 op : Int
 n : Int
 m : Int
 imm : Int
def je (i : Ins) : D := .agg [.int .i64 i.op, .int .i64 i.n, .int .i64 i.m, .int .i64 i.imm]
def za7 (r : zaj) (i : Ins) : Prop := i.n < 0 ∨ 15 < i.n ∨ (zbz r.shape = false ∧ i.n ≠ 0) ∨ i.m < 0 ∨ 15 < i.m ∨ (zbA r.shape = false ∧ i.m ≠ 0) ∨ i.imm < zc9 r.shape ∨ zau r.shape < i.imm
instance (r : zaj) (i : Ins) : Decidable (za7 r i) := by unfold za7; infer_instance
def yU (i : Ins) : Int := match xl i.op with
 | none => 1
 | some r => if za7 r i then 3 else 0
theorem zrs : ∀ r ∈ yY, r.name ≠ [] := by unfold yY; decide
theorem zkb {op : Int} {r : zaj} (h : xl op = some r) : r ∈ yY ∧ r.op = op := by
 unfold xl at h
 exact ⟨List.mem_of_find?_eq_some h, by simpa using List.find?_some h⟩
theorem vl : za Tryz.prog znW (zA (fun _ : Ins => True) (fun i => [je i]) fun i => .int .i64 (yU i)) := by
 refine zg zj Tryz.func131 rfl (by decide) fun i _ => ?_
 refine ⟨Nat.le_refl _, by simp [Tryz.f131], fun E hE => ?_⟩
 refine zf _ ?_
 (all_goals refine qgo (Lf.mk ?_))
 refine ze zby i.op trivial (VS.mk (by (first | exact LeL.refl _ | (repeat' (first | exact LeL.nil | exact LeD.refl _ | exact LeD.nil _ | exact LeD.strip _ _ _ | refine LeL.cons ?_ ?_ | refine LeD.tup ?_ | refine LeD.agg ?_))))) ?_
 cases hi : xl i.op with
 | none =>
  have hw : yU i = 1 := by unfold yU; rw [hi]
  rw [show kv i.op = .tup [.str [], .int .i64 0] by unfold kv; rw [hi]]
  (all_goals refine qgo ?_ <;> (repeat' first | exact trivial | intro hc | refine And.intro ?_ ?_) <;> refine Lf.mk ?_)
  ·refine zb (VS.mk (LeD.of_eq ?_))
   rw [hw]
  ·exfalso; exact hc trivial
 | some r =>
  have hn : r.name ≠ [] := zrs r (zkb hi).1
  have hw : yU i = if za7 r i then 3 else 0 := by unfold yU; rw [hi]
  rw [show kv i.op = .tup [.str r.name, .int .i64 r.shape] by unfold kv; rw [hi]]
  (all_goals refine qgo ?_ <;> (repeat' first | exact trivial | intro hc | refine And.intro ?_ ?_) <;> refine Lf.mk ?_)
  ·exfalso; exact hn hc
  refine ze ziw r.shape trivial (VS.mk (by (first | exact LeL.refl _ | (repeat' (first | exact LeL.nil | exact LeD.refl _ | exact LeD.nil _ | exact LeD.strip _ _ _ | refine LeL.cons ?_ ?_ | refine LeD.tup ?_ | refine LeD.agg ?_))))) ?_
  (all_goals refine qgo (Lf.mk ?_))
  refine ze zgI r.shape trivial (VS.mk (by (first | exact LeL.refl _ | (repeat' (first | exact LeL.nil | exact LeD.refl _ | exact LeD.nil _ | exact LeD.strip _ _ _ | refine LeL.cons ?_ ?_ | refine LeD.tup ?_ | refine LeD.agg ?_))))) ?_
  (all_goals refine qgo ?_ <;> (repeat' first | exact trivial | intro hc | refine And.intro ?_ ?_) <;> refine Lf.mk ?_)
  all_goals (refine zb (VS.mk (LeD.of_eq (congrArg (D.int .i64) ?_))); rw [hw])
  all_goals first | (rw [if_pos]; unfold za7; simp_all; done) | (rw [if_neg]; unfold za7; simp_all; done) | (rw [if_neg]; unfold za7; simp_all; omega)
def zrt (op : Int) : Int := yY.foldl (fun b r => if r.op = op then r.bits else b) 0
theorem zru : ∀ r ∈ yY, zrt r.op = r.bits ∧ 0 ≤ r.bits ∧ r.bits ≤ 65535 := by unfold zrt yY; decide
def zxe (b n m v : Nat) : Nat := b ||| n * 256 ||| m * 16 ||| v
def zmx (r : zaj) (i : Ins) : Int := (zxe r.bits.toNat i.n.toNat i.m.toNat (i.imm % (if r.shape = 5 then 4096 else 256)).toNat : Nat)
def vA (i : Ins) : Int := match xl i.op with | some r => zmx r i | none => 0
theorem zti {i : Ins} (h : yU i = 0) : ∃ r, xl i.op = some r ∧ 0 ≤ i.n ∧ i.n ≤ 15 ∧ 0 ≤ i.m ∧ i.m ≤ 15 ∧ (zbz r.shape = false → i.n = 0) ∧ (zbA r.shape = false → i.m = 0) ∧ zc9 r.shape ≤ i.imm ∧ i.imm ≤ zau r.shape := by
 unfold yU at h
 split at h
 ·exact absurd h (by decide)
 ·rename_i r hr
  split at h
  ·exact absurd h (by decide)
  ·rename_i hb
   unfold za7 at hb
   refine ⟨r, hr, by omega, by omega, by omega, by omega, fun h => ?_, fun h => ?_, by omega, by omega⟩
   ·exact Classical.byContradiction fun h' => hb (.inr (.inr (.inl ⟨h, h'⟩)))
   ·exact Classical.byContradiction fun h' => hb (.inr (.inr (.inr (.inr (.inr (.inl ⟨h, h'⟩))))))
theorem zrv {op : Int} {k : Nat} {r : zaj} (h : yY[k]? = some r) : (yY.take (k + 1)).foldl (fun b r => if r.op = op then r.bits else b) 0 = if r.op = op then r.bits else (yY.take k).foldl (fun b r => if r.op = op then r.bits else b) 0 := by
 obtain ⟨hk, rfl⟩ := List.getElem?_eq_some_iff.1 h
 rw [List.take_succ_eq_append_getElem hk, List.foldl_append]
 rfl
theorem zmy : za Tryz.prog zl7 (zA (fun _ : Ins => True) (fun i => [je i]) fun i => .tup [.int .i64 (if yU i = 0 then vA i else 0), .int .i64 (yU i)]) := by
 refine zg zj Tryz.func137 rfl (by decide) fun i _ => ?_
 refine ⟨Nat.le_refl _, by simp [Tryz.f137], fun E hE => ?_⟩
 refine zf _ ?_
 (all_goals refine qgo (Lf.mk ?_))
 refine ze vl i trivial (VS.mk (by (first | exact LeL.refl _ | (repeat' (first | exact LeL.nil | exact LeD.refl _ | exact LeD.nil _ | exact LeD.strip _ _ _ | refine LeL.cons ?_ ?_ | refine LeD.tup ?_ | refine LeD.agg ?_))))) ?_
 (all_goals refine qgo ?_ <;> (repeat' first | exact trivial | intro hc | refine And.intro ?_ ?_) <;> refine Lf.mk ?_)
 ·refine zb (VS.mk (LeD.of_eq ?_))
  rw [if_neg hc]
 obtain ⟨r, hi, h1, h2, h3, h4, h5, h6, h7, h8⟩ := zti hc
 refine ze zby i.op trivial (VS.mk (by (first | exact LeL.refl _ | (repeat' (first | exact LeL.nil | exact LeD.refl _ | exact LeD.nil _ | exact LeD.strip _ _ _ | refine LeL.cons ?_ ?_ | refine LeD.tup ?_ | refine LeD.agg ?_))))) ?_
 rw [show kv i.op = .tup [.str r.name, .int .i64 r.shape] by unfold kv; rw [hi]]
 (all_goals refine qgo (Lf.mk ?_))
 refine ze zbx () trivial (VS.mk (by (first | exact LeL.refl _ | (repeat' (first | exact LeL.nil | exact LeD.refl _ | exact LeD.nil _ | exact LeD.strip _ _ _ | refine LeL.cons ?_ ?_ | refine LeD.tup ?_ | refine LeD.agg ?_))))) ?_
 (all_goals refine qgo (Lf.mk ?_))
 refine z8 (α := Nat) (fun k => k ≤ 27) (fun k => [(22, .sl 4 (yY.map ziv) none), (23, .int .i64 27), (24, .int .i64 k), (1, .loc 0 0), (6, .int .i64 r.shape),
  (7, .int .i64 ((yY.take k).foldl (fun b r => if r.op = i.op then r.bits else b) 0))]) (fun _ => [.cells [.int .i64 i.op, .int .i64 i.n, .int .i64 i.m, .int .i64 i.imm]]) (fun k => 27 - k) (fun _ => by simp [hE]) 0 (Nat.zero_le _) ?_ ?_
 ·(repeat' (first | (refine VS.mk ?_) | exact trivial | exact rfl | refine And.intro ?_ ?_))
  all_goals (rw [vb]; rfl)
 intro k hk
 refine zf _ ?_
 (all_goals refine qgo ?_ <;> (repeat' first | exact trivial | intro hc | refine And.intro ?_ ?_) <;> refine Lf.mk ?_)
 ·obtain ⟨q, hq⟩ := ya (l := yY) (k := k) (by rw [vb]; omega)
  have hst := zrv (op := i.op) hq
  refine zl q (by omega) (by simpa using hq) ?_
  (all_goals refine qgo ?_ <;> (repeat' first | exact trivial | intro hc | refine And.intro ?_ ?_) <;> refine Lf.mk ?_)
  ·refine zC (k + 1) (by omega) (by omega) ?_
   rw [hst, if_pos hc]
   (repeat' (first | (refine VS.mk ?_) | exact trivial | exact rfl | refine And.intro ?_ ?_))
  ·refine zC (k + 1) (by omega) (by omega) ?_
   rw [hst, if_neg hc]
   (repeat' (first | (refine VS.mk ?_) | exact trivial | exact rfl | refine And.intro ?_ ?_))
 all_goals
  obtain rfl : k = 27 := by omega
  obtain ⟨hm, ho⟩ := zkb hi
  obtain ⟨b1, b2, b3⟩ := zru r hm
  rw [ho] at b1
  obtain ⟨B, hB⟩ := Int.eq_ofNat_of_zero_le b2
  obtain ⟨N, hN⟩ := Int.eq_ofNat_of_zero_le h1
  obtain ⟨M, hM⟩ := Int.eq_ofNat_of_zero_le h3
  have hfold : (yY.take 27).foldl (fun b r => if r.op = i.op then r.bits else b) 0 = (B : Int) := by
   rw [List.take_of_length_le (by rw [vb]; exact Nat.le_refl _), ← hB, ← b1]
   rfl
  have hl1 : B ||| N * 256 < 2 ^ 16 := Nat.or_lt_two_pow (by omega) (by omega)
  have hl2 : B ||| N * 256 ||| M * 16 < 2 ^ 16 := Nat.or_lt_two_pow hl1 (by omega)
  rw [hfold]
  refine wb (zk8 (a := B) (b := N * 256) rfl (by omega) (by omega) (by omega)) ?_
  (all_goals refine qgo (Lf.mk ?_))
  refine wb (zk8 (a := B ||| N * 256) (b := M * 16) rfl (by omega) (by omega) (by omega)) ?_
  refine VS.mk ?_
 ·obtain ⟨V, hV⟩ := Int.eq_ofNat_of_zero_le (Int.emod_nonneg i.imm (show (4096 : Int) ≠ 0 by decide))
  refine wb qt ?_
  rw [hV]
  (all_goals refine qgo (Lf.mk ?_))
  refine wb (zk8 (a := B ||| N * 256 ||| M * 16) (b := V) rfl rfl (by omega) (by omega)) ?_
  (all_goals refine qgo (Lf.mk ?_))
  refine zb (VS.mk (LeD.of_eq ?_))
  rw [if_pos (by assumption), show vA i = zmx r i by unfold vA; rw [hi], zmx, if_pos (by assumption : r.shape = 5), hV, hB, hN, hM, (by assumption : yU i = 0)]
  rfl
 ·obtain ⟨V, hV⟩ := Int.eq_ofNat_of_zero_le (Int.emod_nonneg i.imm (show (256 : Int) ≠ 0 by decide))
  refine wb ko ?_
  rw [hV]
  (all_goals refine qgo (Lf.mk ?_))
  refine wb (zk8 (a := B ||| N * 256 ||| M * 16) (b := V) rfl rfl (by omega) (by omega)) ?_
  (all_goals refine qgo (Lf.mk ?_))
  refine zb (VS.mk (LeD.of_eq ?_))
  rw [if_pos (by assumption), show vA i = zmx r i by unfold vA; rw [hi], zmx, if_neg (by assumption : ¬ r.shape = 5), hV, hB, hN, hM, (by assumption : yU i = 0)]
  rfl
theorem zu6 (s : Int) : 0 ≤ zeb s ∧ zeb s ≤ 65535 := by unfold zeb; (repeat' split) <;> omega
def zla (w : Nat) (r : zaj) : Bool := ((w &&& (zeb r.shape).toNat : Nat) : Int) == r.bits
def zfw (w : Nat) : Option zaj := yY.find? (zla w)
def zix (w : Int) (s : Int) : Int := if s = 1 ∨ s = 4 then zd w 8 else if s = 5 then zd w 12 else if s = 7 ∨ s = 8 ∨ s = 11 then w % 256 else 0
def zpY (w : Int) (r : zaj) : Ins := ⟨r.op, if zbz r.shape = true then w / 256 % 16 else 0, if zbA r.shape = true then w / 16 % 16 else 0, zix w r.shape⟩
def zhk : Ins := ⟨0, 0, 0, 0⟩
def xe (w : Int) : Ins × Int := if w < 0 ∨ 65535 < w then (zhk, 3) else match zfw w.toNat with
 | some r => (zpY w r, 0)
 | none => (zhk, 12)
theorem zmz : za Tryz.prog zl9 (zA (fun _ : Int => True) (fun w => [.int .i64 w]) fun w => .tup [je (xe w).1, .int .i64 (xe w).2]) := by
 refine zg zj Tryz.func147 rfl (by decide) fun w _ => ?_
 refine ⟨Nat.le_refl _, by simp [Tryz.f147], fun E hE => ?_⟩
 refine zf _ ?_
 (all_goals refine qgo ?_ <;> (repeat' first | exact trivial | intro hc | refine And.intro ?_ ?_) <;> refine Lf.mk ?_)
 ·refine zb (VS.mk (LeD.of_eq ?_))
  rw [show xe w = (zhk, 3) by unfold xe; rw [if_pos (by omega)]]
  rfl
 ·refine zb (VS.mk (LeD.of_eq ?_))
  rw [show xe w = (zhk, 3) by unfold xe; rw [if_pos (by omega)]]
  rfl
 refine ze zbx () trivial (VS.mk (by (first | exact LeL.refl _ | (repeat' (first | exact LeL.nil | exact LeD.refl _ | exact LeD.nil _ | exact LeD.strip _ _ _ | refine LeL.cons ?_ ?_ | refine LeD.tup ?_ | refine LeD.agg ?_))))) ?_
 (all_goals refine qgo (Lf.mk ?_))
 obtain ⟨W, hW⟩ := Int.eq_ofNat_of_zero_le (show 0 ≤ w by omega)
 subst hW
 refine z8 (α := Nat) (fun k => k ≤ 27 ∧ ∀ (i : Nat) r, i < k → yY[i]? = some r → zla W r = false) (fun k => [(16, .sl 4 (yY.map ziv) none), (17, .int .i64 27), (18, .int .i64 k), (0, .int .i64 W), (2, .loc 0 0)])
  (fun _ => [.cells [.int .i64 0, .int .i64 0, .int .i64 0, .int .i64 0]]) (fun k => 27 - k) (fun _ => by simp [hE]) 0 ⟨Nat.zero_le _, by simp⟩ ?_ ?_
 ·(repeat' (first | (refine VS.mk ?_) | exact trivial | exact rfl | refine And.intro ?_ ?_))
  all_goals (rw [vb]; rfl)
 rintro k ⟨hk, hno⟩
 refine zf _ ?_
 (all_goals refine qgo ?_ <;> (repeat' first | exact trivial | intro hc | refine And.intro ?_ ?_) <;> refine Lf.mk ?_)
 ·obtain ⟨r, hr⟩ := ya (l := yY) (k := k) (by rw [vb]; omega)
  refine zl r (by omega) (by simpa using hr) ?_
  (all_goals refine qgo (Lf.mk ?_))
  refine ze zpX r.shape trivial (VS.mk (by (first | exact LeL.refl _ | (repeat' (first | exact LeL.nil | exact LeD.refl _ | exact LeD.nil _ | exact LeD.strip _ _ _ | refine LeL.cons ?_ ?_ | refine LeD.tup ?_ | refine LeD.agg ?_))))) ?_
  have hmb := zu6 r.shape
  obtain ⟨X, hX⟩ := Int.eq_ofNat_of_zero_le hmb.1
  rw [hX]
  (all_goals refine qgo (Lf.mk ?_))
  refine wb (zvU (a := W) (b := X) rfl rfl (by omega) (by omega)) ?_
  have hfit : zla W r = (((W &&& X : Nat) : Int) == r.bits) := by unfold zla; rw [hX]; rfl
  (all_goals refine qgo ?_ <;> (repeat' first | exact trivial | intro hc | refine And.intro ?_ ?_) <;> refine Lf.mk ?_)
  ·refine zC (k + 1) ⟨by omega, zga hno hr (by rw [hfit]; simpa using hc)⟩ (by omega) ?_
   (repeat' (first | (refine VS.mk ?_) | exact trivial | exact rfl | refine And.intro ?_ ?_))
  have hf := zf9 hr (by rw [hfit]; simpa using hc) hno
  have hd : xe (W : Int) = (zpY W r, 0) := by
   unfold xe
   rw [if_neg (by omega)]
   simp only [Int.toNat_natCast, zfw, hf]
  refine ze ziw r.shape trivial (VS.mk (by (first | exact LeL.refl _ | (repeat' (first | exact LeL.nil | exact LeD.refl _ | exact LeD.nil _ | exact LeD.strip _ _ _ | refine LeL.cons ?_ ?_ | refine LeD.tup ?_ | refine LeD.agg ?_))))) ?_
  (all_goals refine qgo ?_ <;> (repeat' first | exact trivial | intro hc | refine And.intro ?_ ?_) <;> refine Lf.mk ?_)
  any_goals (first | (exfalso; clear hd hf hno hX hmb hfit; contradiction) | skip)
  any_goals (first | (refine ze zb7 (W, 8) (.inl rfl) (VS.mk (LeL.of_eq rfl)) ?_) | (refine ze zb7 (W, 12) (.inr (.inl rfl)) (VS.mk (LeL.of_eq rfl)) ?_) | skip)
  (all_goals refine qgo (Lf.mk ?_))
  all_goals (refine zb (VS.mk (LeD.of_eq ?_)); rw [hd])
  all_goals (clear hf hno hX hmb hfit hd; simp_all [je, zpY, zix])
 ·have hf := zlM hno (by rw [vb]; omega)
  have hd : xe (W : Int) = (zhk, 12) := by
   unfold xe
   rw [if_neg (by omega)]
   simp only [Int.toNat_natCast, zfw, hf]
  refine zb (VS.mk (LeD.of_eq ?_))
  rw [hd]
  rfl
end Go.Proofs.YthmdddenbfbefaaGreatDoor
namespace Go.Proofs.YthmdddenbfbefaaGreatDoor
open Go Go.Plat
set_option linter.unusedVariables false
set_option linter.unusedSimpArgs false
set_option maxRecDepth 100000
set_option maxHeartbeats 2000000
attribute [local irreducible] AWP zy ye zF zn yt z6 zE zW zY zp za zN yu zo zZ yp yq yj yl zt zu zw
theorem zmA : za Tryz.prog zb3 (zA (fun ds : List D => ds.length ≤ 100000000 ∧ ∀ (i : Nat) d, ds[i]? = some d → d.cells.length = 1) (fun ds => [.sl 1 ds none]) fun ds => .sl 1 ds none) := by
 refine zg zj Tryz.func43 rfl (by decide) ?_
 rintro ds ⟨hds, hlen⟩
 refine ⟨Nat.le_refl _, by simp [Tryz.f43], fun E hE => ?_⟩
 refine zf _ ?_
 (all_goals refine qgo (Lf.mk ?_))
 refine zhR (fun h => ?_) ?_
 ·subst h
  (all_goals refine qgo (Lf.mk ?_))
  exact zb (VS.mk (LeD.nil _))
 (all_goals refine qgo (Lf.mk ?_))
 exact zb (VS.mk (LeD.refl _))
theorem zmB : za Tryz.prog kM (zA (fun ds : List D => ds.length ≤ 100000000 ∧ ∀ (i : Nat) d, ds[i]? = some d → d.cells.length = 1) (fun ds => [.sl 1 ds none]) fun ds => .sl 1 ds none) := by
 refine zg zj Tryz.func94 rfl (by decide) ?_
 rintro ds ⟨hds, hlen⟩
 refine ⟨Nat.le_refl _, by simp [Tryz.f94], fun E hE => ?_⟩
 refine zf _ ?_
 (all_goals refine qgo (Lf.mk ?_))
 refine zhR (fun h => ?_) ?_
 ·subst h
  (all_goals refine qgo (Lf.mk ?_))
  exact zb (VS.mk (LeD.nil _))
 (all_goals refine qgo (Lf.mk ?_))
 exact zb (VS.mk (LeD.refl _))
theorem zmC : za Tryz.prog jL (zA (fun ds : List D => ds.length ≤ 100000000 ∧ ∀ (i : Nat) d, ds[i]? = some d → d.cells.length = 2) (fun ds => [.sl 2 ds none]) fun ds => .sl 2 ds none) := by
 refine zg zj Tryz.func99 rfl (by decide) ?_
 rintro ds ⟨hds, hlen⟩
 refine ⟨Nat.le_refl _, by simp [Tryz.f99], fun E hE => ?_⟩
 refine zf _ ?_
 (all_goals refine qgo (Lf.mk ?_))
 refine zhR (fun h => ?_) ?_
 ·subst h
  (all_goals refine qgo (Lf.mk ?_))
  exact zb (VS.mk (LeD.nil _))
 (all_goals refine qgo (Lf.mk ?_))
 exact zb (VS.mk (LeD.refl _))
def xd (b : List UInt8) (i : Int) : Int := if 0 ≤ i ∧ i < b.length then ((b.getD i.toNat 0).toNat : Int) else 0
def yv (b : List UInt8) (at_ : Int) : Nat → Int
 | 0 => 0
 | k + 1 => yv b at_ k * 256 + xd b (at_ + k)
theorem ka (b : List UInt8) (i : Int) : 0 ≤ xd b i ∧ xd b i < 256 := by
 unfold xd; split
 ·have := zue (b.getD i.toNat 0); omega
 ·omega
theorem zoO (b : List UInt8) (at_ : Int) : ∀ k, 0 ≤ yv b at_ k
 | 0 => by simp [yv]
 | k + 1 => by have := zoO b at_ k; have := ka b (at_ + k); simp only [yv]; omega
theorem zu7 (b : List UInt8) (at_ : Int) (k : Nat) (hk : k ≤ 4) : yv b at_ k ≤ 4294967295 := by
 have h0 := ka b (at_ + (0 : Nat)); have h1 := ka b (at_ + (1 : Nat)); have h2 := ka b (at_ + (2 : Nat)); have h3 := ka b (at_ + (3 : Nat))
 match k, hk with
 | 0, _ => simp [yv]
 | 1, _ => simp only [yv]; omega
 | 2, _ => simp only [yv]; omega
 | 3, _ => simp only [yv]; omega
 | 4, _ => simp only [yv]; omega
theorem zcN : za Tryz.prog zq6 (zA (fun ((b, at_, size) : List UInt8 × Int × Nat) => -1000000000000 ≤ at_ ∧ at_ ≤ 1000000000000 ∧ size ≤ 4) (fun (b, at_, size) => [vh b, .int .i64 at_, .int .i64 size])
  fun (b, at_, size) => .int .i64 (yv b at_ size)) := by
 refine zg zj Tryz.func140 rfl (by decide) ?_
 rintro ⟨b, at_, size⟩ ⟨h1, h2, h4⟩
 refine ⟨Nat.le_refl _, by simp [Tryz.f140], fun E hE => ?_⟩
 refine zf _ ?_
 (all_goals refine qgo (Lf.mk ?_))
 refine z8 (α := Nat) (fun k => k ≤ size) (fun k => [(11, .int .i64 k), (10, .int .i64 size), (7, .int .i64 (yv b at_ k)), (0, vh b), (1, .int .i64 at_)]) (fun _ => []) (fun k => size - k) (fun _ => by simp [hE]) 0 (Nat.zero_le _) ?_ ?_
 ·(repeat' (first | (refine VS.mk ?_) | exact trivial | exact rfl | refine And.intro ?_ ?_))
 intro k hk
 have g0 := zoO b at_ k
 have g1 := zu7 b at_ k (by omega)
 refine zf _ ?_
 (all_goals refine qgo ?_ <;> (repeat' first | exact trivial | intro hc | refine And.intro ?_ ?_) <;> refine Lf.mk ?_)
 ·have hb : xd b (at_ + k) = ((b.getD (at_ + (k : Int)).toNat 0).toNat : Int) := by unfold xd; rw [if_pos ⟨by omega, by omega⟩]
  have := zue (b.getD (at_ + (k : Int)).toNat 0)
  refine wb (zvS (s := 8) rfl g0 (by omega) (by omega) (by omega)) ?_
  (all_goals refine qgo (Lf.mk ?_))
  refine zC (k + 1) (by omega) (by omega) ?_
  (repeat' (first | (refine VS.mk ?_) | exact trivial | exact rfl | refine And.intro ?_ ?_))
  simp [yv, hb]
 ·refine zC (k + 1) (by omega) (by omega) ?_
  have hb : xd b (at_ + k) = 0 := by unfold xd; rw [if_neg (by omega)]
  (repeat' (first | (refine VS.mk ?_) | exact trivial | exact rfl | refine And.intro ?_ ?_))
  simp [yv, hb]
 ·refine zC (k + 1) (by omega) (by omega) ?_
  have hb : xd b (at_ + k) = 0 := by unfold xd; rw [if_neg (by omega)]
  (repeat' (first | (refine VS.mk ?_) | exact trivial | exact rfl | refine And.intro ?_ ?_))
  simp [yv, hb]
 ·obtain rfl : k = size := by omega
  refine yn ?_
  (repeat' (first | (refine VS.mk ?_) | exact trivial | exact rfl | refine And.intro ?_ ?_))
def yX (l : List UInt8) (i : Int) (c : UInt8) : List UInt8 := if 0 ≤ i ∧ i < l.length then l.set i.toNat c else l
def yb (l : List UInt8) (at_ : Int) : Nat → Int → List UInt8
 | 0, _ => l
 | k + 1, n => yb (yX l (at_ + k) (ym n)) at_ k (n / 256)
theorem zfx (l : List UInt8) (i : Int) (c : UInt8) : (yX l i c).length = l.length := by unfold yX; split <;> simp
theorem vW (at_ : Int) : ∀ (k : Nat) (l : List UInt8) (n : Int), (yb l at_ k n).length = l.length
 | 0, l, n => rfl
 | k + 1, l, n => by rw [yb, vW, zfx]
theorem zcO : za Tryz.prog zq5 (yh (fun ((b, at_, size, n) : List UInt8 × Int × Nat × Int) => -1000000000000 ≤ at_ ∧ at_ ≤ 1000000000000 ∧ size ≤ 1000000000000 ∧ b.length ≤ 1000000000)
  (fun (b, at_, size, n) => [vh b, .int .i64 at_, .int .i64 size, .int .i64 n]) (fun _ => []) (fun (b, at_, size, n) => .sl 1 ((yb b at_ size n).map zH) (some 0)) fun (b, _) => [.spare b.length]) := by
 refine zg zj Tryz.func93 rfl (by decide) ?_
 rintro ⟨b, at_, size, n⟩ ⟨h1, h2, h4, h5⟩
 refine ⟨by simp, by simp [Tryz.f93], fun E hE => ?_⟩
 refine zf _ ?_
 (all_goals refine qga (Lf.mk ?_))
 refine z8 (α := Nat × List UInt8 × Int) (fun p => p.1 ≤ size ∧ p.2.1.length = b.length ∧ yb p.2.1 at_ p.1 p.2.2 = yb b at_ size n) (fun p => [(10, .int .i64 ((p.1 : Int) - 1)), (1, .int .i64 at_), (3, .int .i64 p.2.2), (9, .osl 1 0 p.2.1.length 0 p.2.1.length)]) (fun p => [.arr 1 (p.2.1.map zH)]) (fun p => p.1) (fun _ => by simp [hE]) (size, b, n) ⟨Nat.le_refl _, rfl, rfl⟩ ?_ ?_
 ·(repeat' (first | (refine VS.mk ?_) | exact trivial | exact rfl | refine And.intro ?_ ?_))
  ·refine vH b rfl ?_
   (repeat' (first | (refine VS.mk ?_) | exact trivial | exact rfl | refine And.intro ?_ ?_))
 rintro ⟨k, l, m⟩ ⟨hk, hl, hp⟩
 generalize hj : ((k : Int) - 1) = j at *
 dsimp only at hk hl hp ⊢
 refine zf _ ?_
 have hm8 : (0 : Int) < 256 := by decide
 have hn : 0 ≤ j → yb (yX l (at_ + j) (ym m)) at_ (k - 1) (m / 256) = yb b at_ size n := fun h => by
  rw [← hp]
  obtain ⟨k', rfl⟩ : ∃ k', k = k' + 1 := ⟨k - 1, by omega⟩
  obtain rfl : j = k' := by omega
  rfl
 have hset : ∀ x, (yX l x (ym m)).length = b.length := fun x => by rw [zfx]; exact hl
 (all_goals refine qgo ?_ <;> (repeat' first | exact trivial | intro hc | refine And.intro ?_ ?_) <;> refine Lf.mk ?_)
 ·have hs : yX l (at_ + j) (ym m) = l.set (at_ + j).toNat (ym m) := by unfold yX; rw [if_pos ⟨by omega, by omega⟩]
  refine zC (k - 1, yX l (at_ + j) (ym m), m / 256) ⟨by (dsimp only; omega), hset _, hn (by assumption)⟩ (by dsimp only; omega) ?_
  (repeat' (first | (refine VS.mk ?_) | exact trivial | exact rfl | refine And.intro ?_ ?_))
  ·refine vH (yX l (at_ + j) (ym m)) ?_ ?_
   ·rw [hs, List.map_set]; simp [zH]
   ·(repeat' (first | (refine VS.mk ?_) | exact trivial | exact rfl | refine And.intro ?_ ?_))
  (all_goals (first | rfl | (dsimp only; congr 1; omega) | (dsimp only; simp; done) | (dsimp only; simp; omega) | skip))
  all_goals (dsimp only; rw [hset, hl])
 ·have hs : yX l (at_ + j) (ym m) = l := by unfold yX; rw [if_neg (by omega)]
  refine zC (k - 1, yX l (at_ + j) (ym m), m / 256) ⟨by (dsimp only; omega), hset _, hn (by assumption)⟩ (by dsimp only; omega) ?_
  (repeat' (first | (refine VS.mk ?_) | exact trivial | exact rfl | refine And.intro ?_ ?_))
  ·refine vH (yX l (at_ + j) (ym m)) (by rw [hs]) ?_
   (repeat' (first | (refine VS.mk ?_) | exact trivial | exact rfl | refine And.intro ?_ ?_))
  (all_goals (first | rfl | (dsimp only; congr 1; omega) | (dsimp only; simp; done) | (dsimp only; simp; omega) | skip))
  all_goals (dsimp only; rw [hset, hl])
 ·have hs : yX l (at_ + j) (ym m) = l := by unfold yX; rw [if_neg (by omega)]
  refine zC (k - 1, yX l (at_ + j) (ym m), m / 256) ⟨by (dsimp only; omega), hset _, hn (by assumption)⟩ (by dsimp only; omega) ?_
  (repeat' (first | (refine VS.mk ?_) | exact trivial | exact rfl | refine And.intro ?_ ?_))
  ·refine vH (yX l (at_ + j) (ym m)) (by rw [hs]) ?_
   (repeat' (first | (refine VS.mk ?_) | exact trivial | exact rfl | refine And.intro ?_ ?_))
  (all_goals (first | rfl | (dsimp only; congr 1; omega) | (dsimp only; simp; done) | (dsimp only; simp; omega) | skip))
  all_goals (dsimp only; rw [hset, hl])
 ·obtain rfl : k = 0 := by omega
  have hp : l = yb b at_ size n := hp
  refine zg9 (k := 0) l rfl rfl (Nat.le_refl _) (Nat.zero_le _) (r1 := .sl 1 (l.map zH) (some 1)) (.here _ _ (by simp) (by simp)) ?_
  refine yN [1] rfl rfl ?_
  (repeat' (first | (refine VS.mk ?_) | exact trivial | exact rfl | refine And.intro ?_ ?_))
  ·rw [hp]
  ·rw [hl]
structure zz where
 name : List UInt8
 at_ : Int
 deriving DecidableEq
def yF (s : zz) : D := .agg [.str s.name, .int .i64 s.at_]
structure qF where
 base : Int
 bytes : List UInt8
 syms : List zz
 deriving DecidableEq
def zjr (i : qF) : D := .agg [.int .i64 i.base, vh i.bytes, .sl 2 (i.syms.map yF) none]
def zav : qF := ⟨0, [], []⟩
end Go.Proofs.YthmdddenbfbefaaGreatDoor
