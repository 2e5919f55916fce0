/-
  A part of the proof: what the given program's functions answer, each once; conditions that are enough for it.
-/
import Derived.Test.YthmdddenbfbefaaGreatDoorProg
import Derived.KernelRfl
import Derived.Test.YthmdddenbfbefaaGreatDoorFw3
import Derived.Lib.LaidTab
import Derived.Sort.Grow
import Derived.Deep.Draws
import Derived.Below
import Derived.Shelf.Utf8.RuneCount
import Derived.Shelf.Strconv.Itoa0
import Derived.Shelf.Strconv.Itoa1
import Derived.Shelf.LaysM
import Derived.Shelf.Strconv.Itoa2
import Derived.Shelf.Strconv.Itoa3
import Derived.Shelf.Strconv.Clone
import Derived.Shelf.Strconv.SyntaxError
import Derived.Shelf.Strconv.Lower
import Derived.Shelf.Strconv.ParseUint10
import Derived.Shelf.Strconv.ParseUint10Empty
import Derived.Shelf.Strconv.RangeError
import Derived.Shelf.Strconv.ParseUintEmpty
import Derived.Shelf.Strconv.ParseUint10b64
import Derived.Shelf.Strings.Search1
import Derived.Shelf.Strings.Search2
import Derived.Shelf.Strings.Search3
import Derived.Shelf.Strings.Cut
import Derived.Shelf.Strings.Count
import Derived.Shelf.Strings.Shaped
import Derived.Shelf.Unicode.DecodeSlow
namespace Go.Proofs.YthmdddenbfbefaaGreatDoor
open Go Go.Plat
set_option maxRecDepth 100000
theorem TIOk.of {P : Program} {t : Nat} {i : TI} (h1 : (P.underlying t).map tdOf = some i.d) (h2 : (P.info? t).map (fun x => (x.size, x.bytes, x.zero)) = some (i.size, i.bytes, some i.zero)) (h3 : Nat.beq i.size 0 = false) (h3b : Nat.beq i.bytes 0 = false) (h4 : Nat.beq i.zero.cells.size i.size = true)
  (h5 : (match P.underlying t with | some (.struct fs) => fs.toList.all fun f => (P.info? f.type).isSome | _ => true) = true) : TIOk P t i where
 under := by
  cases h : P.underlying t with
  | none => rw [h] at h1; cases h1
  | some d => rw [h] at h1; exact ⟨d, rfl, by simpa using h1⟩
 info := by
  cases h : P.info? t with
  | none => rw [h] at h2; cases h2
  | some x => rw [h] at h2; simp at h2; exact ⟨x, rfl, h2.1, h2.2.1, h2.2.2⟩
 pos := by intro h; rw [h] at h3; simp at h3
 bpos := by intro h; rw [h] at h3b; simp at h3b
 szero := Nat.eq_of_beq_eq_true h4
 fin := h5
theorem TabOk.of {P : Program} : ∀ {l : Tab}, l.map (fun p => ((P.underlying p.1).map tdOf, (P.info? p.1).map fun x => (x.size, x.bytes, x.zero))) = l.map (fun p => (some p.2.d, some (p.2.size, p.2.bytes, some p.2.zero))) →
  l.all (fun p => !Nat.beq p.2.size 0 && !Nat.beq p.2.bytes 0 && Nat.beq p.2.zero.cells.size p.2.size && (match P.underlying p.1 with | some (.struct fs) => fs.toList.all fun f => (P.info? f.type).isSome | _ => true)) = true → TabOk P l
 | [], _, _ => .nil _
 | (t, i) :: l, h, g => by
  rw [List.map_cons, List.map_cons] at h
  injection h with h1 h2
  rw [Prod.mk.injEq] at h1
  rw [List.all_cons, Bool.and_eq_true] at g
  obtain ⟨g1, g2⟩ := g
  simp only [Bool.and_eq_true, Bool.not_eq_true'] at g1
  obtain ⟨⟨⟨a, b⟩, c⟩, d⟩ := g1
  exact .cons (TIOk.of h1.1 h1.2 a b c d) (TabOk.of h2 g2)
def tab : Tab := [
(3, ⟨(.int .i64), 1, 8, (.int .i64 0)⟩),
(4, ⟨.bool, 1, 1, (.bool false)⟩),
(5, ⟨(.int .u8), 1, 1, (.int .u8 0)⟩),
(9, ⟨.str, 1, 16, (.string ⟨#[]⟩)⟩),
(24, ⟨(.slice 5), 1, 24, (.slice none 0 0)⟩),
(2, ⟨(.int .i64), 1, 8, (.int .i64 0)⟩),
(12, ⟨(.int .u64), 1, 8, (.int .u64 0)⟩),
(20, ⟨.iface, 1, 16, .nilIface⟩),
(21, ⟨(.int .i32), 1, 4, (.int .i32 0)⟩),
(25, ⟨(.slice 35), 1, 24, (.slice none 0 0)⟩),
(26, ⟨(.slice 93), 1, 24, (.slice none 0 0)⟩),
(27, ⟨(.struct [(0, 24), (1, 25), (2, 26)]), 3, 72, (.agg #[(.slice none 0 0), (.slice none 0 0), (.slice none 0 0)])⟩),
(28, ⟨(.struct [(0, 24), (1, 25), (2, 26)]), 3, 72, (.agg #[(.slice none 0 0), (.slice none 0 0), (.slice none 0 0)])⟩),
(29, ⟨(.int .i64), 1, 8, (.int .i64 0)⟩),
(30, ⟨(.struct [(0, 29), (1, 3)]), 2, 16, (.agg #[(.int .i64 0), (.int .i64 0)])⟩),
(31, ⟨(.struct [(0, 29), (1, 3)]), 2, 16, (.agg #[(.int .i64 0), (.int .i64 0)])⟩),
(34, ⟨(.struct [(0, 9), (1, 3)]), 2, 24, (.agg #[(.string ⟨#[]⟩), (.int .i64 0)])⟩),
(35, ⟨(.struct [(0, 9), (1, 3)]), 2, 24, (.agg #[(.string ⟨#[]⟩), (.int .i64 0)])⟩),
(36, ⟨(.struct [(0, 3), (1, 3), (2, 3), (3, 3)]), 4, 32, (.agg #[(.int .i64 0), (.int .i64 0), (.int .i64 0), (.int .i64 0)])⟩),
(37, ⟨(.struct [(0, 3), (1, 3), (2, 3), (3, 3)]), 4, 32, (.agg #[(.int .i64 0), (.int .i64 0), (.int .i64 0), (.int .i64 0)])⟩),
(42, ⟨(.slice 51), 1, 24, (.slice none 0 0)⟩),
(47, ⟨(.struct [(0, 3), (1, 3), (2, 9)]), 3, 32, (.agg #[(.int .i64 0), (.int .i64 0), (.string ⟨#[]⟩)])⟩),
(48, ⟨(.struct [(0, 3), (1, 3), (2, 9)]), 3, 32, (.agg #[(.int .i64 0), (.int .i64 0), (.string ⟨#[]⟩)])⟩),
(49, ⟨(.slice 48), 1, 24, (.slice none 0 0)⟩),
(50, ⟨(.struct [(0, 3), (1, 49)]), 2, 32, (.agg #[(.int .i64 0), (.slice none 0 0)])⟩),
(51, ⟨(.struct [(0, 3), (1, 49)]), 2, 32, (.agg #[(.int .i64 0), (.slice none 0 0)])⟩),
(54, ⟨(.slice 24), 1, 24, (.slice none 0 0)⟩),
(55, ⟨(.slice 67), 1, 24, (.slice none 0 0)⟩),
(56, ⟨(.slice 4), 1, 24, (.slice none 0 0)⟩),
(57, ⟨(.struct [(0, 3), (1, 55), (2, 56), (3, 54)]), 4, 80, (.agg #[(.int .i64 0), (.slice none 0 0), (.slice none 0 0), (.slice none 0 0)])⟩),
(58, ⟨(.struct [(0, 3), (1, 55), (2, 56), (3, 54)]), 4, 80, (.agg #[(.int .i64 0), (.slice none 0 0), (.slice none 0 0), (.slice none 0 0)])⟩),
(62, ⟨(.struct [(0, 3), (1, 3)]), 2, 16, (.agg #[(.int .i64 0), (.int .i64 0)])⟩),
(63, ⟨(.struct [(0, 3), (1, 3)]), 2, 16, (.agg #[(.int .i64 0), (.int .i64 0)])⟩),
(66, ⟨(.struct [(0, 24), (1, 3), (2, 3), (3, 3), (4, 4), (5, 24), (6, 31)]), 8, 96, (.agg #[(.slice none 0 0), (.int .i64 0), (.int .i64 0), (.int .i64 0), (.bool false), (.slice none 0 0), (.int .i64 0), (.int .i64 0)])⟩),
(67, ⟨(.struct [(0, 24), (1, 3), (2, 3), (3, 3), (4, 4), (5, 24), (6, 31)]), 8, 96, (.agg #[(.slice none 0 0), (.int .i64 0), (.int .i64 0), (.int .i64 0), (.bool false), (.slice none 0 0), (.int .i64 0), (.int .i64 0)])⟩),
(69, ⟨(.slice 3), 1, 24, (.slice none 0 0)⟩),
(73, ⟨(.slice 9), 1, 24, (.slice none 0 0)⟩),
(77, ⟨(.slice 63), 1, 24, (.slice none 0 0)⟩),
(78, ⟨(.slice 29), 1, 24, (.slice none 0 0)⟩),
(81, ⟨(.struct [(0, 3), (1, 24), (2, 25)]), 3, 56, (.agg #[(.int .i64 0), (.slice none 0 0), (.slice none 0 0)])⟩),
(82, ⟨(.struct [(0, 3), (1, 24), (2, 25)]), 3, 56, (.agg #[(.int .i64 0), (.slice none 0 0), (.slice none 0 0)])⟩),
(85, ⟨(.arr 16 3), 16, 128, (.agg #[(.int .i64 0), (.int .i64 0), (.int .i64 0), (.int .i64 0), (.int .i64 0), (.int .i64 0), (.int .i64 0), (.int .i64 0), (.int .i64 0), (.int .i64 0), (.int .i64 0), (.int .i64 0), (.int .i64 0), (.int .i64 0), (.int .i64 0), (.int .i64 0)])⟩),
(86, ⟨(.struct [(0, 85), (16, 4), (17, 3), (18, 3), (19, 82), (22, 69), (23, 3)]), 24, 240, (.agg #[(.int .i64 0), (.int .i64 0), (.int .i64 0), (.int .i64 0), (.int .i64 0), (.int .i64 0), (.int .i64 0), (.int .i64 0), (.int .i64 0), (.int .i64 0), (.int .i64 0), (.int .i64 0), (.int .i64 0), (.int .i64 0), (.int .i64 0), (.int .i64 0), (.bool false), (.int .i64 0), (.int .i64 0), (.int .i64 0), (.slice none 0 0), (.slice none 0 0), (.slice none 0 0), (.int .i64 0)])⟩),
(87, ⟨(.struct [(0, 85), (16, 4), (17, 3), (18, 3), (19, 82), (22, 69), (23, 3)]), 24, 240, (.agg #[(.int .i64 0), (.int .i64 0), (.int .i64 0), (.int .i64 0), (.int .i64 0), (.int .i64 0), (.int .i64 0), (.int .i64 0), (.int .i64 0), (.int .i64 0), (.int .i64 0), (.int .i64 0), (.int .i64 0), (.int .i64 0), (.int .i64 0), (.int .i64 0), (.bool false), (.int .i64 0), (.int .i64 0), (.int .i64 0), (.slice none 0 0), (.slice none 0 0), (.slice none 0 0), (.int .i64 0)])⟩),
(92, ⟨(.struct [(0, 3), (1, 3), (2, 9), (3, 3)]), 4, 40, (.agg #[(.int .i64 0), (.int .i64 0), (.string ⟨#[]⟩), (.int .i64 0)])⟩),
(93, ⟨(.struct [(0, 3), (1, 3), (2, 9), (3, 3)]), 4, 40, (.agg #[(.int .i64 0), (.int .i64 0), (.string ⟨#[]⟩), (.int .i64 0)])⟩),
(94, ⟨(.slice 224), 1, 24, (.slice none 0 0)⟩),
(97, ⟨(.struct [(0, 9), (1, 3), (2, 9)]), 3, 40, (.agg #[(.string ⟨#[]⟩), (.int .i64 0), (.string ⟨#[]⟩)])⟩),
(98, ⟨(.struct [(0, 9), (1, 3), (2, 9)]), 3, 40, (.agg #[(.string ⟨#[]⟩), (.int .i64 0), (.string ⟨#[]⟩)])⟩),
(99, ⟨(.map 3 98), 1, 8, (.map none)⟩),
(106, ⟨(.ptr 110), 1, 8, (.pointer none)⟩),
(107, ⟨(.slice 119), 1, 24, (.slice none 0 0)⟩),
(108, ⟨(.slice 164), 1, 24, (.slice none 0 0)⟩),
(109, ⟨(.struct [(0, 94), (1, 107), (2, 25), (3, 69), (4, 108), (5, 3), (6, 28), (9, 31)]), 11, 216, (.agg #[(.slice none 0 0), (.slice none 0 0), (.slice none 0 0), (.slice none 0 0), (.slice none 0 0), (.int .i64 0), (.slice none 0 0), (.slice none 0 0), (.slice none 0 0), (.int .i64 0), (.int .i64 0)])⟩),
(110, ⟨(.struct [(0, 94), (1, 107), (2, 25), (3, 69), (4, 108), (5, 3), (6, 28), (9, 31)]), 11, 216, (.agg #[(.slice none 0 0), (.slice none 0 0), (.slice none 0 0), (.slice none 0 0), (.slice none 0 0), (.int .i64 0), (.slice none 0 0), (.slice none 0 0), (.slice none 0 0), (.int .i64 0), (.int .i64 0)])⟩),
(115, ⟨(.ptr 119), 1, 8, (.pointer none)⟩),
(116, ⟨(.struct [(0, 9), (1, 3)]), 2, 24, (.agg #[(.string ⟨#[]⟩), (.int .i64 0)])⟩),
(117, ⟨(.struct [(0, 9), (1, 3)]), 2, 24, (.agg #[(.string ⟨#[]⟩), (.int .i64 0)])⟩),
(118, ⟨(.struct [(0, 3), (1, 3), (2, 3), (3, 37), (7, 4), (8, 3), (9, 117), (11, 3), (12, 3)]), 13, 112, (.agg #[(.int .i64 0), (.int .i64 0), (.int .i64 0), (.int .i64 0), (.int .i64 0), (.int .i64 0), (.int .i64 0), (.bool false), (.int .i64 0), (.string ⟨#[]⟩), (.int .i64 0), (.int .i64 0), (.int .i64 0)])⟩),
(119, ⟨(.struct [(0, 3), (1, 3), (2, 3), (3, 37), (7, 4), (8, 3), (9, 117), (11, 3), (12, 3)]), 13, 112, (.agg #[(.int .i64 0), (.int .i64 0), (.int .i64 0), (.int .i64 0), (.int .i64 0), (.int .i64 0), (.int .i64 0), (.bool false), (.int .i64 0), (.string ⟨#[]⟩), (.int .i64 0), (.int .i64 0), (.int .i64 0)])⟩),
(124, ⟨(.ptr 58), 1, 8, (.pointer none)⟩),
(130, ⟨(.slice 28), 1, 24, (.slice none 0 0)⟩),
(140, ⟨(.ptr 143), 1, 8, (.pointer none)⟩),
(141, ⟨(.slice 219), 1, 24, (.slice none 0 0)⟩),
(142, ⟨(.struct [(0, 141), (1, 94), (2, 42), (3, 3), (4, 31)]), 6, 96, (.agg #[(.slice none 0 0), (.slice none 0 0), (.slice none 0 0), (.int .i64 0), (.int .i64 0), (.int .i64 0)])⟩),
(143, ⟨(.struct [(0, 141), (1, 94), (2, 42), (3, 3), (4, 31)]), 6, 96, (.agg #[(.slice none 0 0), (.slice none 0 0), (.slice none 0 0), (.int .i64 0), (.int .i64 0), (.int .i64 0)])⟩),
(150, ⟨(.ptr 152), 1, 8, (.pointer none)⟩),
(151, ⟨(.struct [(0, 106), (1, 49), (2, 3)]), 3, 40, (.agg #[(.pointer none), (.slice none 0 0), (.int .i64 0)])⟩),
(152, ⟨(.struct [(0, 106), (1, 49), (2, 3)]), 3, 40, (.agg #[(.pointer none), (.slice none 0 0), (.int .i64 0)])⟩),
(153, ⟨(.slice 227), 1, 24, (.slice none 0 0)⟩),
(164, ⟨(.slice 117), 1, 24, (.slice none 0 0)⟩),
(171, ⟨(.ptr 67), 1, 8, (.pointer none)⟩),
(174, ⟨(.struct [(0, 3), (1, 3), (2, 3), (3, 3), (4, 31), (6, 24)]), 7, 72, (.agg #[(.int .i64 0), (.int .i64 0), (.int .i64 0), (.int .i64 0), (.int .i64 0), (.int .i64 0), (.slice none 0 0)])⟩),
(175, ⟨(.struct [(0, 3), (1, 3), (2, 3), (3, 3), (4, 31), (6, 24)]), 7, 72, (.agg #[(.int .i64 0), (.int .i64 0), (.int .i64 0), (.int .i64 0), (.int .i64 0), (.int .i64 0), (.slice none 0 0)])⟩),
(179, ⟨(.ptr 175), 1, 8, (.pointer none)⟩),
(182, ⟨(.ptr 184), 1, 8, (.pointer none)⟩),
(183, ⟨(.struct [(0, 24), (1, 4)]), 2, 32, (.agg #[(.slice none 0 0), (.bool false)])⟩),
(184, ⟨(.struct [(0, 24), (1, 4)]), 2, 32, (.agg #[(.slice none 0 0), (.bool false)])⟩),
(193, ⟨(.ptr 87), 1, 8, (.pointer none)⟩),
(198, ⟨(.arr 24 5), 24, 24, (.agg #[(.int .u8 0), (.int .u8 0), (.int .u8 0), (.int .u8 0), (.int .u8 0), (.int .u8 0), (.int .u8 0), (.int .u8 0), (.int .u8 0), (.int .u8 0), (.int .u8 0), (.int .u8 0), (.int .u8 0), (.int .u8 0), (.int .u8 0), (.int .u8 0), (.int .u8 0), (.int .u8 0), (.int .u8 0), (.int .u8 0), (.int .u8 0), (.int .u8 0), (.int .u8 0), (.int .u8 0)])⟩),
(199, ⟨(.int .u64), 1, 8, (.int .u64 0)⟩),
(207, ⟨(.ptr 209), 1, 8, (.pointer none)⟩),
(208, ⟨(.struct [(0, 9), (1, 3)]), 2, 24, (.agg #[(.string ⟨#[]⟩), (.int .i64 0)])⟩),
(209, ⟨(.struct [(0, 9), (1, 3)]), 2, 24, (.agg #[(.string ⟨#[]⟩), (.int .i64 0)])⟩),
(218, ⟨(.struct [(0, 9), (1, 73), (2, 42)]), 3, 64, (.agg #[(.string ⟨#[]⟩), (.slice none 0 0), (.slice none 0 0)])⟩),
(219, ⟨(.struct [(0, 9), (1, 73), (2, 42)]), 3, 64, (.agg #[(.string ⟨#[]⟩), (.slice none 0 0), (.slice none 0 0)])⟩),
(224, ⟨(.struct [(0, 9), (1, 3)]), 2, 24, (.agg #[(.string ⟨#[]⟩), (.int .i64 0)])⟩),
(226, ⟨(.struct [(0, 9), (1, 3), (2, 117)]), 4, 48, (.agg #[(.string ⟨#[]⟩), (.int .i64 0), (.string ⟨#[]⟩), (.int .i64 0)])⟩),
(227, ⟨(.struct [(0, 9), (1, 3), (2, 117)]), 4, 48, (.agg #[(.string ⟨#[]⟩), (.int .i64 0), (.string ⟨#[]⟩), (.int .i64 0)])⟩),
(232, ⟨(.map 3 3), 1, 8, (.map none)⟩),
(239, ⟨(.int .u64), 1, 8, (.int .u64 0)⟩),
(245, ⟨(.map 9 4), 1, 8, (.map none)⟩),
(247, ⟨(.ptr 3), 1, 8, (.pointer none)⟩),
(251, ⟨(.arr 20 199), 20, 160, (.agg #[(.int .u64 0), (.int .u64 0), (.int .u64 0), (.int .u64 0), (.int .u64 0), (.int .u64 0), (.int .u64 0), (.int .u64 0), (.int .u64 0), (.int .u64 0), (.int .u64 0), (.int .u64 0), (.int .u64 0), (.int .u64 0), (.int .u64 0), (.int .u64 0), (.int .u64 0), (.int .u64 0), (.int .u64 0), (.int .u64 0)])⟩),
(252, ⟨(.int .u32), 1, 4, (.int .u32 0)⟩),
(257, ⟨.iface, 1, 16, .nilIface⟩),
(258, ⟨.iface, 1, 16, .nilIface⟩),
(268, ⟨(.slice 49), 1, 24, (.slice none 0 0)⟩),
(275, ⟨(.ptr 164), 1, 8, (.pointer none)⟩),
(277, ⟨(.slice 280), 1, 24, (.slice none 0 0)⟩),
(279, ⟨(.struct [(0, 3), (1, 9), (2, 3), (3, 3)]), 4, 40, (.agg #[(.int .i64 0), (.string ⟨#[]⟩), (.int .i64 0), (.int .i64 0)])⟩),
(280, ⟨(.struct [(0, 3), (1, 9), (2, 3), (3, 3)]), 4, 40, (.agg #[(.int .i64 0), (.string ⟨#[]⟩), (.int .i64 0), (.int .i64 0)])⟩),
(291, ⟨(.slice 293), 1, 24, (.slice none 0 0)⟩),
(292, ⟨(.struct [(0, 3), (1, 3), (2, 9), (3, 291)]), 4, 56, (.agg #[(.int .i64 0), (.int .i64 0), (.string ⟨#[]⟩), (.slice none 0 0)])⟩),
(293, ⟨(.struct [(0, 3), (1, 3), (2, 9), (3, 291)]), 4, 56, (.agg #[(.int .i64 0), (.int .i64 0), (.string ⟨#[]⟩), (.slice none 0 0)])⟩),
(300, ⟨(.int .i64), 1, 8, (.int .i64 0)⟩),
(301, ⟨(.ptr 319), 1, 8, (.pointer none)⟩),
(304, ⟨(.ptr 306), 1, 8, (.pointer none)⟩),
(305, ⟨(.struct [(0, 49), (1, 29)]), 2, 32, (.agg #[(.slice none 0 0), (.int .i64 0)])⟩),
(306, ⟨(.struct [(0, 49), (1, 29)]), 2, 32, (.agg #[(.slice none 0 0), (.int .i64 0)])⟩),
(312, ⟨(.struct [(0, 5), (1, 5)]), 2, 2, (.agg #[(.int .u8 0), (.int .u8 0)])⟩),
(313, ⟨(.struct [(0, 5), (1, 5)]), 2, 2, (.agg #[(.int .u8 0), (.int .u8 0)])⟩),
(314, ⟨(.arr 16 313), 32, 32, (.agg #[(.int .u8 0), (.int .u8 0), (.int .u8 0), (.int .u8 0), (.int .u8 0), (.int .u8 0), (.int .u8 0), (.int .u8 0), (.int .u8 0), (.int .u8 0), (.int .u8 0), (.int .u8 0), (.int .u8 0), (.int .u8 0), (.int .u8 0), (.int .u8 0), (.int .u8 0), (.int .u8 0), (.int .u8 0), (.int .u8 0), (.int .u8 0), (.int .u8 0), (.int .u8 0), (.int .u8 0), (.int .u8 0), (.int .u8 0), (.int .u8 0), (.int .u8 0), (.int .u8 0), (.int .u8 0), (.int .u8 0), (.int .u8 0)])⟩),
(318, ⟨(.struct [(0, 9), (1, 9), (2, 258)]), 3, 48, (.agg #[(.string ⟨#[]⟩), (.string ⟨#[]⟩), .nilIface])⟩),
(319, ⟨(.struct [(0, 9), (1, 9), (2, 258)]), 3, 48, (.agg #[(.string ⟨#[]⟩), (.string ⟨#[]⟩), .nilIface])⟩),
(321, ⟨(.slice 326), 1, 24, (.slice none 0 0)⟩),
(325, ⟨(.struct [(0, 73), (1, 69)]), 2, 48, (.agg #[(.slice none 0 0), (.slice none 0 0)])⟩),
(326, ⟨(.struct [(0, 73), (1, 69)]), 2, 48, (.agg #[(.slice none 0 0), (.slice none 0 0)])⟩),
(328, ⟨(.ptr 5), 1, 8, (.pointer none)⟩),
(329, ⟨(.ptr 331), 1, 8, (.pointer none)⟩),
(330, ⟨(.struct [(0, 9)]), 1, 16, (.agg #[(.string ⟨#[]⟩)])⟩),
(331, ⟨(.struct [(0, 9)]), 1, 16, (.agg #[(.string ⟨#[]⟩)])⟩)]
theorem tabOk : TabOk Tryz.prog tab := TabOk.of (by kernel_rfl) (by kernel_rfl)
theorem mixed : Tryz.prog.follows .mixedOrders = true := by kernel_rfl
theorem vcOk {n : Nat} {E : Entry} (c : Code) {Q : Ex → List (Nat × D) → List Ob → Prop} {σ : List (Nat × D)} {L : List Ob} (h : vcK Tryz.prog tab n E c Q σ L) : AWP Tryz.prog n E c Q σ L := awp_vc tabOk mixed c h
abbrev n_pltop_TopCall : Nat := 7
abbrev n_strconv_Itoa : Nat := 12
abbrev n_asm_Unit : Nat := 13
abbrev n_asm_Build : Nat := 19
abbrev n_pltop_alive : Nat := 24
abbrev n_pltop_told : Nat := 25
abbrev n_sim_Run : Nat := 28
abbrev n_sim_New : Nat := 29
abbrev n_scan_Lines : Nat := 31
abbrev n_macro_Expand : Nat := 32
abbrev n_asm_builder_line : Nat := 37
abbrev n_asm_builder_pool : Nat := 38
abbrev n_asm_builder_relax : Nat := 39
abbrev n_asm_builder_emit : Nat := 40
abbrev n_slices_Clone_byte_byte : Nat := 43
abbrev n_farm_Build : Nat := 48
abbrev n_link_Link : Nat := 52
abbrev n_sim_Own : Nat := 53
abbrev n_sim_Step : Nat := 54
abbrev n_sim_Image : Nat := 55
abbrev n_strings_Split : Nat := 57
abbrev n_scan_Tokens : Nat := 58
abbrev n_macro_maker_lines : Nat := 59
abbrev n_asm_builder_label : Nat := 62
abbrev n_asm_builder_fail : Nat := 63
abbrev n_asm_reader_all : Nat := 64
abbrev n_asm_builder_data : Nat := 65
abbrev n_asm_builder_align : Nat := 66
abbrev n_asm_builder_instr : Nat := 67
abbrev n_asm_builder_put : Nat := 68
abbrev n_asm_builder_place : Nat := 69
abbrev n_asm_builder_target : Nat := 70
abbrev n_asm_away : Nat := 71
abbrev n_asm_builder_word : Nat := 72
abbrev n_asm_builder_fill : Nat := 73
abbrev n_asm_up : Nat := 74
abbrev n_asm_builder_half : Nat := 75
abbrev n_slices_IndexFunc_asm_item_asm_item : Nat := 76
abbrev n_asm_builder_emit_1 : Nat := 77
abbrev n_asm_builder_lead : Nat := 78
abbrev n_asm_builder_near : Nat := 79
abbrev n_obj_Wrong : Nat := 85
abbrev n_isa_Signed : Nat := 90
abbrev n_link_Bases : Nat := 91
abbrev n_link_find : Nat := 92
abbrev n_isa_Put : Nat := 93
abbrev n_slices_Clone_int_int : Nat := 94
abbrev n_sim_fetch : Nat := 95
abbrev n_sim_leads : Nat := 96
abbrev n_sim_plain : Nat := 97
abbrev n_sim_leap : Nat := 98
abbrev n_slices_Clone_api_Sym_api_Sym : Nat := 99
abbrev n_strings_genSplit : Nat := 104
abbrev n_strings_Cut : Nat := 105
abbrev n_scan_reader_run : Nat := 106
abbrev n_scan_Tokens_1 : Nat := 107
abbrev n_scan_letter : Nat := 108
abbrev n_scan_Tokens_2 : Nat := 109
abbrev n_scan_digit : Nat := 110
abbrev n_scan_reader_number : Nat := 111
abbrev n_scan_reader_sign : Nat := 112
abbrev n_macro_head : Nat := 114
abbrev n_macro_maker_find : Nat := 117
abbrev n_scan_Own : Nat := 119
abbrev n_scan_Name : Nat := 120
abbrev n_asm_register : Nat := 121
abbrev n_slices_ContainsFunc_api_Sym_api_Sym : Nat := 122
abbrev n_asm_builder_label_1 : Nat := 123
abbrev n_slices_ContainsFunc_api_Equ_api_Equ : Nat := 124
abbrev n_asm_builder_label_2 : Nat := 125
abbrev n_asm_reader_one : Nat := 126
abbrev n_asm_reader_take : Nat := 127
abbrev n_asm_builder_literal : Nat := 128
abbrev n_asm_shapes : Nat := 129
abbrev n_isa_Find : Nat := 130
abbrev n_isa_Wrong : Nat := 131
abbrev n_asm_builder_size : Nat := 132
abbrev n_slices_IndexFunc_api_Sym_api_Sym : Nat := 133
abbrev n_asm_builder_target_1 : Nat := 134
abbrev n_isa_Info : Nat := 135
abbrev n_isa_Range : Nat := 136
abbrev n_isa_Encode : Nat := 137
abbrev n_isa_Get : Nat := 140
abbrev n_isa_signed : Nat := 144
abbrev n_link_find_1 : Nat := 145
abbrev n_sim_in : Nat := 146
abbrev n_isa_Decode : Nat := 147
abbrev n_sim_load : Nat := 148
abbrev n_sim_sum : Nat := 149
abbrev n_dis_To : Nat := 150
abbrev n_strings_Count : Nat := 157
abbrev n_strings_Index : Nat := 158
abbrev n_internal_stringslite_Cut : Nat := 159
abbrev n_scan_reader_number_1 : Nat := 160
abbrev n_strconv_ParseUint : Nat := 161
abbrev n_strings_Contains : Nat := 162
abbrev n_strings_HasPrefix : Nat := 163
abbrev n_slices_Index_string_string : Nat := 172
abbrev n_strconv_Atoi : Nat := 173
abbrev n_slices_IndexFunc_api_Equ_api_Equ : Nat := 174
abbrev n_asm_reader_value : Nat := 175
abbrev n_slices_Index_api_Value_api_Value : Nat := 176
abbrev n_isa_rows : Nat := 177
abbrev n_isa_uses : Nat := 178
abbrev n_isa_mask : Nat := 181
abbrev n_internal_stringslite_Index : Nat := 187
abbrev n_internal_strconv_ParseUint : Nat := 188
abbrev n_strconv_toError : Nat := 189
abbrev n_internal_stringslite_HasPrefix : Nat := 190
abbrev n_expr_Parse : Nat := 192
abbrev n_expr_Eval : Nat := 193
abbrev n_internal_strconv_Atoi : Nat := 194
abbrev n_internal_strconv_lower : Nat := 200
abbrev n_strconv_syntaxError : Nat := 202
abbrev n_strconv_rangeError : Nat := 203
abbrev n_expr_reader_at : Nat := 206
abbrev n_expr_Eval_1 : Nat := 207
abbrev n_expr_two : Nat := 208
abbrev n_expr_levels : Nat := 214
abbrev n_expr_reader_one : Nat := 215
abbrev n_expr_reader_sign : Nat := 216
abbrev n_expr_number : Nat := 217
abbrev n_expr_reader_fail : Nat := 218
end Go.Proofs.YthmdddenbfbefaaGreatDoor
namespace Go.Proofs.YthmdddenbfbefaaGreatDoor
open Go Go.Plat
set_option linter.unusedVariables false
set_option linter.unusedSimpArgs false
set_option maxRecDepth 100000
set_option maxHeartbeats 2000000
attribute [local irreducible] AWP Arith BitS BytesS CallS CatS DrawS EndS IdxS LookS LoopEnd Meets ModeS NilS NormL NormM QuoS RemS ShlS ShrS SideS SplitS bitI
def letterB (c : UInt8) : Bool := decide (97 ≤ c.toNat ∧ c.toNat ≤ 122 ∨ 65 ≤ c.toNat ∧ c.toNat ≤ 90 ∨ c.toNat = 95 ∨ c.toNat = 46)
def digitB (c : UInt8) : Bool := decide (48 ≤ c.toNat ∧ c.toNat ≤ 57)
def kindB (c : UInt8) : Int := if letterB c = true then 97 else if digitB c = true then 48 else if c.toNat = 32 ∨ c.toNat = 9 ∨ c.toNat = 13 then 32 else 0
theorem letter_meets : Meets Tryz.prog n_scan_letter (SpecP (fun _ : UInt8 => True) (fun c => [byteD c]) fun c => .bool (letterB c)) := by
 refine meets_f tabOk Tryz.func108 rfl (by decide) fun c _ => ?_
 refine ⟨Nat.le_refl _, by simp [Tryz.f108], fun E hE => ?_⟩
 refine vcOk _ ?_
 (all_goals refine qgo ?_ <;> (repeat' first | exact trivial | intro hc | refine And.intro ?_ ?_) <;> refine Lf.mk ?_)
 all_goals first
  | (refine end_p (VS.mk (LeD.tt ?_)); unfold letterB; rw [decide_eq_true_eq]; omega)
  | (refine end_p (VS.mk (LeD.ff ?_)); unfold letterB; rw [decide_eq_false_iff_not]; omega)
  | (refine end_p (VS.mk (LeD.of_eq (congrArg D.bool ?_))); unfold letterB; rw [Bool.eq_iff_iff]; simp only [beq_iff_eq, decide_eq_true_eq]; omega)
theorem digit_meets : Meets Tryz.prog n_scan_digit (SpecP (fun _ : UInt8 => True) (fun c => [byteD c]) fun c => .bool (digitB c)) := by
 refine meets_f tabOk Tryz.func110 rfl (by decide) fun c _ => ?_
 refine ⟨Nat.le_refl _, by simp [Tryz.f110], fun E hE => ?_⟩
 refine vcOk _ ?_
 (all_goals refine qgo ?_ <;> (repeat' first | exact trivial | intro hc | refine And.intro ?_ ?_) <;> refine Lf.mk ?_)
 all_goals first
  | (refine end_p (VS.mk (LeD.tt ?_)); unfold digitB; rw [decide_eq_true_eq]; omega)
  | (refine end_p (VS.mk (LeD.ff ?_)); unfold digitB; rw [decide_eq_false_iff_not]; omega)
  | (refine end_p (VS.mk (LeD.of_eq (congrArg D.bool ?_))); unfold digitB; rw [Bool.eq_iff_iff]; simp only [beq_iff_eq, decide_eq_true_eq]; omega)
def nameB (s : List UInt8) : Bool := decide (1 ≤ s.length ∧ s.length ≤ 10) && letterB (s.getD 0 0) && s.all fun c => (letterB c || digitB c) && !(c == 46)
def okC (c : UInt8) : Bool := (letterB c || digitB c) && !(c == 46)
attribute [local irreducible] letterB digitB kindB
theorem all_take {p : UInt8 → Bool} {s : List UInt8} {k : Nat} (hk : k < s.length) : (s.take (k + 1)).all p = ((s.take k).all p && p (s.getD k 0)) := by
 rw [List.take_succ_eq_append_getElem hk, List.all_append]
 simp [List.getD_eq_getElem?_getD, List.getElem?_eq_getElem hk]
theorem all_stop {p : UInt8 → Bool} {s : List UInt8} {k : Nat} (hk : k < s.length) (h : p (s.getD k 0) = false) : s.all p = false := by
 rw [← List.take_append_drop k s, List.all_append, List.drop_eq_getElem_cons hk]
 have : s.getD k 0 = s[k] := by simp [List.getD_eq_getElem?_getD, List.getElem?_eq_getElem hk]
 rw [this] at h
 rw [List.all_cons, h, Bool.false_and, Bool.and_false]
theorem name_any : Meets Tryz.prog n_scan_Name (SpecP (fun _ : List UInt8 => True) (fun s => [.str s]) fun s => .bool (nameB s)) := by
 refine meets_f tabOk Tryz.func120 rfl (by decide) fun s _ => ?_
 refine ⟨Nat.le_refl _, by simp [Tryz.f120], fun E hE => ?_⟩
 refine vcOk _ ?_
 (all_goals refine qgo ?_ <;> (repeat' first | exact trivial | intro hc | refine And.intro ?_ ?_) <;> refine Lf.mk ?_)
 ·refine end_p (VS.mk (LeD.ff ?_))
  unfold nameB
  rw [decide_eq_false (by omega)]
  rfl
 ·refine end_p (VS.mk (LeD.ff ?_))
  unfold nameB
  rw [decide_eq_false (by omega)]
  rfl
 ·refine end_p (VS.mk (LeD.ff ?_))
  have e : okC (s.getD 0 0) = false := by
   have : s.getD 0 0 = 46 := UInt8.toNat_inj.1 (by exact_mod_cast hc)
   rw [this]
   unfold okC
   rw [Bool.and_eq_false_iff]
   exact .inr rfl
  have h2 : s.all okC = false := all_stop (k := 0) (by omega) e
  show (_ && _ && s.all okC) = false
  rw [h2, Bool.and_false]
 refine call_p letter_meets (s.getD 0 0) trivial (VS.mk (LeL.of_eq rfl)) ?_
 (all_goals refine qgo ?_ <;> (repeat' first | exact trivial | intro hc | refine And.intro ?_ ?_) <;> refine Lf.mk ?_)
 ·refine end_p (VS.mk (LeD.ff ?_))
  show (_ && letterB (s.getD 0 0) && _) = false
  rw [hc, Bool.and_false, Bool.false_and]
 have hl0 : letterB (s.getD 0 0) = true := by assumption
 refine awp_loop (α := Nat) (fun k => k ≤ s.length ∧ (s.take k).all okC = true) (fun k => [(0, .str s), (24, .int .i64 s.length), (25, .int .i64 k)]) (fun _ => []) (fun k => s.length - k) (fun _ => by simp [hE]) 0 ⟨Nat.zero_le _, by simp⟩ ?_ ?_
 ·(repeat' (first | (refine VS.mk ?_) | exact trivial | exact rfl | refine And.intro ?_ ?_))
 rintro k ⟨hk, hall⟩
 refine vcOk _ ?_
 (all_goals refine qgo ?_ <;> (repeat' first | exact trivial | intro hc | refine And.intro ?_ ?_) <;> refine Lf.mk ?_)
 ·have hidx : ((k : Int)).toNat = k := Int.toNat_natCast k
  have hk' : k < s.length := by omega
  have hst := all_take (p := okC) hk'
  have hsp := all_stop (p := okC) hk'
  have hok : okC (s.getD k 0) = ((letterB (s.getD k 0) || digitB (s.getD k 0)) && !(s.getD k 0 == 46)) := rfl
  have h46 : (((s.getD k 0).toNat : Nat) : Int) = 46 → okC (s.getD k 0) = false := fun h => by
   have : s.getD k 0 = 46 := UInt8.toNat_inj.1 (by exact_mod_cast h)
   rw [hok, this]
   rw [Bool.and_eq_false_iff]
   exact .inr rfl
  have n46 : ¬ (((s.getD k 0).toNat : Nat) : Int) = 46 → (s.getD k 0 == 46) = false := fun h => beq_eq_false_iff_ne.2 fun e => h (by rw [e]; rfl)
  have bad : okC (s.getD k 0) = false → nameB s = false := fun h => by
   show (_ && letterB (s.getD 0 0) && s.all okC) = false
   rw [hsp h, Bool.and_false]
  refine call_p letter_meets (s.getD k 0) trivial (VS.mk (LeL.of_eq (by rw [hidx]; rfl))) ?_
  (all_goals refine qgo ?_ <;> (repeat' first | exact trivial | intro hc | refine And.intro ?_ ?_) <;> refine Lf.mk ?_)
  ·refine call_p digit_meets (s.getD k 0) trivial (VS.mk (LeL.of_eq (by rw [hidx]; rfl))) ?_
   (all_goals refine qgo ?_ <;> (repeat' first | exact trivial | intro hc | refine And.intro ?_ ?_) <;> refine Lf.mk ?_)
   ·refine end_p (VS.mk (LeD.ff (bad ?_)))
    rw [hok, (by assumption : letterB (s.getD k 0) = false), (by assumption : digitB (s.getD k 0) = false)]
    rfl
   ·rw [hidx] at hc
    exact end_p (VS.mk (LeD.ff (bad (h46 hc))))
   ·rw [hidx] at hc
    refine loop_end (k + 1) ⟨by omega, ?_⟩ (by omega) ?_
    rotate_left
    ·rw [hst, hall, hok, (by assumption : digitB (s.getD k 0) = true), n46 hc, Bool.or_true]
     rfl
    ·(repeat' (first | (refine VS.mk ?_) | exact trivial | exact rfl | refine And.intro ?_ ?_))
  ·rw [hidx] at hc
   exact end_p (VS.mk (LeD.ff (bad (h46 hc))))
  ·rw [hidx] at hc
   refine loop_end (k + 1) ⟨by omega, ?_⟩ (by omega) ?_
   rotate_left
   ·rw [hst, hall, hok, (by assumption : letterB (s.getD k 0) = true), n46 hc]
    rfl
   ·(repeat' (first | (refine VS.mk ?_) | exact trivial | exact rfl | refine And.intro ?_ ?_))
 ·refine end_p (VS.mk (LeD.tt ?_))
  rw [List.take_of_length_le (by omega)] at hall
  show (_ && letterB (s.getD 0 0) && s.all okC) = true
  rw [hl0, hall, decide_eq_true (by omega)]
  rfl
theorem meets_sub {P : Program} {f : Nat} {α : Type} {I J : α → Prop} {A : α → List D} {R : α → D} (h : Meets P f (SpecP I A R)) (hJ : ∀ p, J p → I p) : Meets P f (SpecP J A R) :=
 by
 unfold Meets at h ⊢
 exact ⟨h.1, fun av L d M ⟨p, hp, hr⟩ => h.2 av L d M ⟨p, hJ p hp, hr⟩⟩
theorem name_meets : Meets Tryz.prog n_scan_Name (SpecP (fun s : List UInt8 => s.length ≤ 1000000000) (fun s => [.str s]) fun s => .bool (nameB s)) := meets_sub name_any fun _ _ => trivial
attribute [local irreducible] okC
def digV (b : Int) (c : UInt8) : Int :=
 if 48 ≤ c.toNat ∧ c.toNat ≤ 57 then (c.toNat : Int) - 48 else if b = 16 ∧ 97 ≤ c.toNat ∧ c.toNat ≤ 102 then (c.toNat : Int) - 97 + 10
 else if b = 16 ∧ 65 ≤ c.toNat ∧ c.toNat ≤ 70 then (c.toNat : Int) - 65 + 10 else -1
theorem dig_lt (b : Int) (c : UInt8) : -1 ≤ digV b c ∧ digV b c ≤ 15 := by
 unfold digV
 repeat' split
 all_goals omega
def numF (b : Int) : List UInt8 → Int → Option Int
 | [], n => some n
 | c :: r, n => if digV b c < 0 ∨ 4294967295 < n then none else numF b r (n * b + digV b c)
def numFin (ds : List UInt8) : Option Int → Int × Bool
 | none => (0, false)
 | some n => (n, decide (n < 4294967296 ∧ ds ≠ []))
def numRb (b : Int) (ds : List UInt8) : Int × Bool := numFin ds (numF b ds 0)
def numR (w : List UInt8) : Int × Bool := if 2 < w.length ∧ w.take 2 = [48, 120] then numRb 16 (w.drop 2) else numRb 10 w
theorem drop_cons {α : Type} {l : List α} {k : Nat} {d : α} (h : k < l.length) : l.drop k = l.getD k d :: l.drop (k + 1) := by
 rw [List.drop_eq_getElem_cons h, List.getD_eq_getElem?_getD, List.getElem?_eq_getElem h]; rfl
attribute [local irreducible] digV
structure LTok where
 kind : Int
 n : Int
 text : List UInt8
def ltokD (t : LTok) : D := .agg [.int .i64 t.kind, .int .i64 t.n, .str t.text]
def wordC (c : UInt8) : Bool := decide (kindB c = 97) || decide (kindB c = 48) || c == 47
def numC (c : UInt8) : Bool := (decide (kindB c = 97) && !(c == 46)) || decide (kindB c = 48)
def spanF (p : UInt8 → Bool) : List UInt8 → Nat
 | [] => 0
 | c :: r => if p c = true then spanF p r + 1 else 0
def signsB : List UInt8 := [58, 44, 35, 64, 40, 41, 43, 45, 42, 38, 124, 126, 61]
def lexF : Nat → List UInt8 → List LTok → Option (List LTok)
 | 0, _, out => some out
 | _ + 1, [], out => some out
 | f + 1, c :: r, out =>
  if kindB c = 32 then lexF f r out
  else if kindB c = 97 then lexF f ((c :: r).drop (spanF wordC (c :: r))) (out ++ [⟨1, 0, (c :: r).take (spanF wordC (c :: r))⟩])
  else if kindB c = 48 then (if (numR ((c :: r).take (spanF numC (c :: r)))).2 = true then
    lexF f ((c :: r).drop (spanF numC (c :: r))) (out ++ [⟨2, (numR ((c :: r).take (spanF numC (c :: r)))).1, []⟩]) else none)
  else if c = 59 then some out
  else if (c :: r).take 2 = [60, 60] ∨ (c :: r).take 2 = [62, 62] then lexF f (r.drop 1) (out ++ [⟨3, 0, (c :: r).take 2⟩])
  else if signsB.contains c = true then lexF f r (out ++ [⟨3, 0, [c]⟩]) else none
def lexR (s : List UInt8) : List LTok × Int := if 80 < s.length then ([], 4) else match lexF (s.length + 1) s [] with
 | some l => (l, 0)
 | none => ([], 2)
theorem span_le (p : UInt8 → Bool) : ∀ l, spanF p l ≤ l.length
 | [] => Nat.le_refl _
 | c :: r => by
  rw [spanF]
  have := span_le p r
  split
  ·simp; omega
  ·simp
theorem span_at (p : UInt8 → Bool) : ∀ l (k : Nat), k < spanF p l → p (l.getD k 0) = true
 | [], k, h => by rw [spanF] at h; omega
 | c :: r, k, h => by
  rw [spanF] at h
  split at h
  ·cases k with
   | zero => assumption
   | succ k => exact span_at p r k (by omega)
  ·omega
theorem span_end (p : UInt8 → Bool) : ∀ l, spanF p l < l.length → p (l.getD (spanF p l) 0) = false
 | [], h => by simp at h
 | c :: r, h => by
  rw [spanF] at h ⊢
  split
  ·rename_i hp
   rw [if_pos hp] at h
   exact span_end p r (by simpa using h)
  ·rename_i hp
   simpa using hp
theorem span_eq {p : UInt8 → Bool} {l : List UInt8} {k : Nat} (hk : k ≤ l.length) (h : ∀ j, j < k → p (l.getD j 0) = true) (he : k < l.length → p (l.getD k 0) = false) : k = spanF p l := by
 have h1 := span_le p l
 have h2 := span_end p l
 rcases Nat.lt_trichotomy k (spanF p l) with hlt | heq | hgt
 ·have := span_at p l k hlt
  rw [he (by omega)] at this
  cases this
 ·exact heq
 ·have := h _ hgt
  rw [h2 (by omega)] at this
  cases this
attribute [local irreducible] numR wordC numC
theorem word_first {c : UInt8} {r : List UInt8} (h : kindB c = 97) : 1 ≤ spanF wordC (c :: r) := by
 have e : wordC c = true := by unfold wordC; rw [decide_eq_true h]; rfl
 rw [spanF, if_pos e]; omega
theorem num_first {c : UInt8} {r : List UInt8} (h : kindB c = 48) : 1 ≤ spanF numC (c :: r) := by
 have e : numC c = true := by unfold numC; rw [decide_eq_true h, Bool.or_true]
 rw [spanF, if_pos e]; omega
theorem lex_fuel : ∀ (f g : Nat) (l : List UInt8) (out : List LTok), l.length < f → l.length < g → lexF f l out = lexF g l out
 | 0, _, _, _, h, _ => absurd h (Nat.not_lt_zero _)
 | _ + 1, 0, _, _, _, h => absurd h (Nat.not_lt_zero _)
 | f + 1, g + 1, [], out, _, _ => rfl
 | f + 1, g + 1, c :: r, out, hf, hg => by
  have hf : r.length < f := by simpa using hf
  have hg : r.length < g := by simpa using hg
  have ih := lex_fuel f g
  have hd : ∀ n, 1 ≤ n → ((c :: r).drop n).length ≤ r.length := fun n hn => by rw [List.length_drop, List.length_cons]; omega
  rw [lexF, lexF]
  split
  ·exact ih _ _ hf hg
  split
  ·rename_i h
   have := hd _ (word_first (r := r) h)
   exact ih _ _ (by omega) (by omega)
  split
  ·rename_i h
   have := hd _ (num_first (r := r) h)
   split
   ·exact ih _ _ (by omega) (by omega)
   ·rfl
  split
  ·rfl
  split
  ·have : (r.drop 1).length ≤ r.length := by rw [List.length_drop]; omega
   exact ih _ _ (by omega) (by omega)
  split
  ·exact ih _ _ hf hg
  ·rfl
def lexL (l : List UInt8) (out : List LTok) : Option (List LTok) := lexF (l.length + 1) l out
theorem lexL_nil (out : List LTok) : lexL [] out = some out := rfl
theorem lexL_cons (c : UInt8) (r : List UInt8) (out : List LTok) : lexL (c :: r) out =
  if kindB c = 32 then lexL r out
  else if kindB c = 97 then lexL ((c :: r).drop (spanF wordC (c :: r))) (out ++ [⟨1, 0, (c :: r).take (spanF wordC (c :: r))⟩])
  else if kindB c = 48 then (if (numR ((c :: r).take (spanF numC (c :: r)))).2 = true then
    lexL ((c :: r).drop (spanF numC (c :: r))) (out ++ [⟨2, (numR ((c :: r).take (spanF numC (c :: r)))).1, []⟩]) else none)
  else if c = 59 then some out
  else if (c :: r).take 2 = [60, 60] ∨ (c :: r).take 2 = [62, 62] then lexL (r.drop 1) (out ++ [⟨3, 0, (c :: r).take 2⟩])
  else if signsB.contains c = true then lexL r (out ++ [⟨3, 0, [c]⟩]) else none := by
 have hd : ∀ n, 1 ≤ n → ((c :: r).drop n).length ≤ r.length := fun n hn => by rw [List.length_drop, List.length_cons]; omega
 unfold lexL
 rw [List.length_cons, lexF]
 split
 ·rfl
 split
 ·rename_i h
  have := hd _ (word_first (r := r) h)
  exact lex_fuel _ _ _ _ (by omega) (by omega)
 split
 ·rename_i h
  have := hd _ (num_first (r := r) h)
  split
  ·exact lex_fuel _ _ _ _ (by omega) (by omega)
  ·rfl
 split
 ·rfl
 split
 ·have : (r.drop 1).length ≤ r.length := by rw [List.length_drop]; omega
  exact lex_fuel _ _ _ _ (by omega) (by omega)
 ·rfl
def lexFin : Option (List LTok) → List LTok × Int
 | some l => (l, 0)
 | none => ([], 2)
theorem lexR_eq (s : List UInt8) : lexR s = if 80 < s.length then ([], 4) else lexFin (lexL s []) := by
 unfold lexR lexL lexFin; rfl
def lexRD (p : List LTok × Int) : D := .tup [.sl 3 (p.1.map ltokD) none, .int .i64 p.2]
attribute [local irreducible] lexF lexL spanF
end Go.Proofs.YthmdddenbfbefaaGreatDoor
namespace Go.Plat
open Go Go.Sort
set_option linter.unusedVariables false
set_option linter.unusedSimpArgs false
theorem Ext.growL (w : World) : ∀ (l : List Obj), Ext F0 w (Sort.grow w l.toArray)
 | [] => by rw [show (([] : List Obj).toArray) = #[] from rfl, grow_empty]; exact .refl _ _
 | o :: l => by
  have e : Sort.grow w (o :: l).toArray = Sort.grow (w.alloc o) l.toArray := by
   rw [alloc_eq_grow, grow_grow]
   congr 1
   simp
  rw [e]
  exact (Ext.alloc w o).trans0 (Ext.growL _ l)
theorem Ext.growD (w : World) (k : Nat) (os : Array Obj) : Ext F0 w (Sort.grow (w.drewN k) os) := by
 have h1 : Ext F0 w (w.drewN k) := ⟨rfl, rfl, rfl, Nat.le_refl _, fun _ _ _ => rfl, fun _ _ _ _ => rfl, fun _ _ _ _ _ h => h⟩
 have h2 := Ext.growL (w.drewN k) os.toList
 simp only [Array.toArray_toList] at h2
 exact h1.trans0 h2
theorem Ext.below {w w' : World} (h : Go.RowKit.Below w.heap.size w w') : Ext F0 w w' :=
 ⟨h.os, h.tape, h.output, h.size, fun b hb _ => h.block b hb, fun b off hb _ => by simp only [World.cell?, h.block b hb], fun b off v _ hv hs => by
   have hb := h.block b (block_lt hv)
   unfold Soft World.frozen? Clean at hs ⊢
   rw [hb]
   exact hs⟩
theorem GOk.tab {w : World} {F : Nat → Nat → Prop} (h : GOk w F) {P : Program} {name : String} {g : Nat} {ns : List Nat} {k : IntKind} {zs : List Int}
  (hn : P.globalNamed name = some g) (hg : findG globs g = some (ns.map fun n => D.int k (n : Nat))) (hz : zs = ns.map fun n => ((n : Nat) : Int)) (h2 : ns ≠ []) : Lib.TabIs P w name k zs := by
 obtain ⟨h1, _, ⟨row, t, z, h3, h4⟩, _⟩ := h g _ hg
 have hs : row.size = ns.length := by
  rcases h4 with h4 | h4
  ·rw [h4, List.length_map]
  ·match ns, h2 with
   | n :: r, _ => cases h4
 unfold Lib.TabIs World.var?
 rw [hn]
 show (match w.heap[g]? with
  | some (.cells cs _ _) => some cs
  | _ => none) = _
 rw [h3]
 dsimp only
 congr 1
 apply Array.ext_getElem?
 intro j
 subst hz
 by_cases hj : j < ns.length
 ·have hc : (ns.map fun n => D.int k (n : Nat))[j]? = some (.int k (ns[j] : Nat)) := by rw [List.getElem?_map, List.getElem?_eq_getElem hj]; rfl
  obtain ⟨b, off, e, hv⟩ := (Rep.pure (ρ := ⟨fun _ => ⟨0, 0, 0⟩, fun _ _ => False⟩) (L := []) _ _ h1).ptr_inv
  cases e
  obtain ⟨u, h5, _, h6⟩ := hv j _ hc
  cases h6
  rw [Nat.zero_add] at h5
  simp only [World.cell?, h3] at h5
  have h5 : row[j]? = _ := h5
  rw [h5]
  simp [hj]
 ·rw [Array.getElem?_eq_none (by omega)]
  simp [Nat.le_of_not_lt hj]
theorem RepL.le {w : World} {F : Nat → Nat → Prop} {ρ : Pl} {L : List Ob} {ds ds' : List D} {vs : List Value} (has : LeL ds ds') (hr : RepL w F ρ L ds vs) : RepL w F ρ L ds' vs := by
 refine ⟨hr.1.trans has.1, fun i d v h1 h2 => ?_⟩
 have hlt : i < ds.length := by rw [has.1]; exact (List.getElem?_eq_some_iff.1 h1).1
 exact has.2 i _ d (List.getElem?_eq_getElem hlt) h1 _ _ _ _ _ (hr.2 i _ v (List.getElem?_eq_getElem hlt) h2)
theorem meets_lib {P : Program} {f : Nat} {α : Type} {I : α → Prop} {A : α → List D} {R : α → D} (hc : Callable P f)
  (h : ∀ p, I p → ∀ (w : World) (F : Nat → Nat → Prop), GOk w F → ∀ vs : List Value, vs.length = (A p).length → (∀ (i : Nat) d v, (A p)[i]? = some d → vs[i]? = some v → RepP w F d v) →
    Calls P f vs.toArray w fun e w' => ∃ v, e = .returned v ∧ Ext F0 w w' ∧ RepP w' F (R p) v) : Meets P f (SpecP I A R) := by
 refine ⟨hc, ?_⟩
 rintro av L d L' ⟨p, hI, has, rfl, rfl, rfl⟩ w ρ vs hf hr
 have hr := hr.le has
 refine (h p hI w _ hf.glob vs hr.1 fun i d v h1 h2 => rep_nil (hr.2 i d v h1 h2)).mono ?_
 rintro e w' ⟨v, rfl, he, hv⟩
 exact ⟨v, ρ, rfl, hf.grow he, .pure _ _ hv, he.grow, .refl _ _, .refl _ _⟩
end Go.Plat
namespace Go.Proofs
open Go.Shelf
def Tryz.laysM171_ren : Go.Shelf.Ren := ⟨fun | 171 => 12 | 243 => 30 | 246 => 56 | 283 => 100 | 284 => 101 | 285 => 102 | 286 => 103 | 129 => 152 | 317 => 151 | 318 => 153 | 319 => 154 | 320 => 155 | 337 => 182 | 338 => 183 | n => n, fun | 3 => 3 | 9 => 9 | 2 => 2 | 4 => 4 | 171 => 198 | 0 => 0 | 53 => 199 | 37 => 24 | 5 => 5 | 173 => 202 | 212 => 251 | 51 => 252 | 20 => 20 | 213 => 253 | 46 => 239 | 232 => 298 | 233 => 299 | n => n, fun | 17 => 0 | 18 => 1 | 19 => 2 | n => n⟩
theorem Tryz.laysM171 : Go.Proofs.LaysM.n171 Tryz.prog Tryz.laysM171_ren := {
 mixed := by kernel_rfl
 f129 := Tryz.func152.trans (congrArg some (by kernel_rfl))
 f171 := Tryz.func12.trans (congrArg some (by kernel_rfl))
 f243 := Tryz.func30.trans (congrArg some (by kernel_rfl))
 f246 := Tryz.func56.trans (congrArg some (by kernel_rfl))
 f283 := Tryz.func100.trans (congrArg some (by kernel_rfl))
 f284 := Tryz.func101.trans (congrArg some (by kernel_rfl))
 f285 := Tryz.func102.trans (congrArg some (by kernel_rfl))
 f286 := Tryz.func103.trans (congrArg some (by kernel_rfl))
 f317 := Tryz.func151.trans (congrArg some (by kernel_rfl))
 f318 := Tryz.func153.trans (congrArg some (by kernel_rfl))
 f319 := Tryz.func154.trans (congrArg some (by kernel_rfl))
 f320 := Tryz.func155.trans (congrArg some (by kernel_rfl))
 f337 := Tryz.func182.trans (congrArg some (by kernel_rfl))
 f338 := Tryz.func183.trans (congrArg some (by kernel_rfl))
 t0 := Tryz.underlying0
 a0 := Tryz.isAgg0
 z0 := Tryz.sizeOf0
 v0 := Tryz.zeroValue0
 t2 := Tryz.underlying2
 a2 := Tryz.isAgg2
 z2 := Tryz.sizeOf2
 v2 := Tryz.zeroValue2
 t3 := Tryz.underlying3
 a3 := Tryz.isAgg3
 z3 := Tryz.sizeOf3
 v3 := Tryz.zeroValue3
 t4 := Tryz.underlying4
 a4 := Tryz.isAgg4
 z4 := Tryz.sizeOf4
 v4 := Tryz.zeroValue4
 t5 := Tryz.underlying5
 a5 := Tryz.isAgg5
 z5 := Tryz.sizeOf5
 v5 := Tryz.zeroValue5
 t9 := Tryz.underlying9
 a9 := Tryz.isAgg9
 z9 := Tryz.sizeOf9
 v9 := Tryz.zeroValue9
 t20 := Tryz.underlying20
 a20 := Tryz.isAgg20
 z20 := Tryz.sizeOf20
 v20 := Tryz.zeroValue20
 t37 := Tryz.underlying24
 a37 := Tryz.isAgg24
 z37 := Tryz.sizeOf24
 v37 := Tryz.zeroValue24
 t46 := Tryz.underlying239
 a46 := Tryz.isAgg239
 z46 := Tryz.sizeOf239
 v46 := Tryz.zeroValue239
 t51 := Tryz.underlying252
 a51 := Tryz.isAgg252
 z51 := Tryz.sizeOf252
 v51 := Tryz.zeroValue252
 t53 := Tryz.underlying199
 a53 := Tryz.isAgg199
 z53 := Tryz.sizeOf199
 v53 := Tryz.zeroValue199
 t171 := Tryz.underlying198
 a171 := Tryz.isAgg198
 z171 := Tryz.sizeOf198
 v171 := Tryz.zeroValue198
 t173 := Tryz.underlying202
 a173 := Tryz.isAgg202
 z173 := Tryz.sizeOf202
 v173 := Tryz.zeroValue202
 t212 := Tryz.underlying251
 a212 := Tryz.isAgg251
 z212 := Tryz.sizeOf251
 v212 := Tryz.zeroValue251
 t213 := Tryz.underlying253
 a213 := Tryz.isAgg253
 z213 := Tryz.sizeOf253
 t232 := Tryz.underlying298
 a232 := Tryz.isAgg298
 z232 := Tryz.sizeOf298
 v232 := Tryz.zeroValue298
 t233 := Tryz.underlying299
 a233 := Tryz.isAgg299
 z233 := Tryz.sizeOf299
 v233 := Tryz.zeroValue299
 g17 := by kernel_rfl
 g18 := by kernel_rfl
 g19 := by kernel_rfl
 i0 := by kernel_rfl
 i2 := by kernel_rfl
 i3 := by kernel_rfl
 i4 := by kernel_rfl
 i5 := by kernel_rfl
 i9 := by kernel_rfl
 i20 := by kernel_rfl
 i37 := by kernel_rfl
 i46 := by kernel_rfl
 i51 := by kernel_rfl
 i53 := by kernel_rfl
 i171 := by kernel_rfl
 i173 := by kernel_rfl
 i212 := by kernel_rfl
 i232 := by kernel_rfl
 i233 := by kernel_rfl
 m17 := by kernel_rfl
 m18 := by kernel_rfl
 m19 := by kernel_rfl }
open Go.RowKit Go.Sort Go.Lib in
theorem Tryz.strconv_Itoa (n : Int) (h0 : -9223372036854775808 ≤ n) (h1 : n ≤ 9223372036854775807) (w : World) (htab : Lib.TabIs Tryz.prog w "internal/strconv.uint64pow10" .u64 Lib.pow10Tab) :
  Calls Tryz.prog 12 #[.int .i64 n] w fun e w' => e = .returned (.string ⟨(Lib.itoa n).toArray⟩) ∧ ∃ k os, w' = grow (w.drewN k) os := Any.strconv_Itoa Tryz.laysM171 n h0 h1 w htab
def Tryz.laysM279_ren : Go.Shelf.Ren := ⟨fun | 279 => 202 | 316 => 212 | n => n, fun | 9 => 9 | 168 => 301 | 75 => 258 | 210 => 319 | 3 => 3 | 4 => 4 | 37 => 24 | 0 => 0 | 127 => 328 | 80 => 333 | 5 => 5 | n => n, fun | 15 => 6 | n => n⟩
theorem Tryz.laysM279 : Go.Proofs.LaysM.n279 Tryz.prog Tryz.laysM279_ren := {
 mixed := by kernel_rfl
 f279 := Tryz.func202.trans (congrArg some (by kernel_rfl))
 f316 := Tryz.func212.trans (congrArg some (by kernel_rfl))
 t0 := Tryz.underlying0
 a0 := Tryz.isAgg0
 z0 := Tryz.sizeOf0
 v0 := Tryz.zeroValue0
 t3 := Tryz.underlying3
 a3 := Tryz.isAgg3
 z3 := Tryz.sizeOf3
 v3 := Tryz.zeroValue3
 t4 := Tryz.underlying4
 a4 := Tryz.isAgg4
 z4 := Tryz.sizeOf4
 v4 := Tryz.zeroValue4
 t9 := Tryz.underlying9
 a9 := Tryz.isAgg9
 z9 := Tryz.sizeOf9
 v9 := Tryz.zeroValue9
 t37 := Tryz.underlying24
 a37 := Tryz.isAgg24
 z37 := Tryz.sizeOf24
 v37 := Tryz.zeroValue24
 t75 := Tryz.underlying258
 a75 := Tryz.isAgg258
 z75 := Tryz.sizeOf258
 v75 := Tryz.zeroValue258
 t127 := Tryz.underlying328
 a127 := Tryz.isAgg328
 z127 := Tryz.sizeOf328
 v127 := Tryz.zeroValue328
 t168 := Tryz.underlying301
 a168 := Tryz.isAgg301
 z168 := Tryz.sizeOf301
 v168 := Tryz.zeroValue301
 t210 := Tryz.underlying319
 a210 := Tryz.isAgg319
 z210 := Tryz.sizeOf319
 v210 := Tryz.zeroValue319
 g15 := by kernel_rfl
 t5 := Tryz.underlying5
 a5 := Tryz.isAgg5
 z5 := Tryz.sizeOf5
 v5 := Tryz.zeroValue5
 t80 := Tryz.underlying333
 a80 := Tryz.isAgg333
 z80 := Tryz.sizeOf333
 v80 := Tryz.zeroValue333
 i0 := by kernel_rfl
 i3 := by kernel_rfl
 i4 := by kernel_rfl
 i5 := by kernel_rfl
 i9 := by kernel_rfl
 i37 := by kernel_rfl
 i75 := by kernel_rfl
 i80 := by kernel_rfl
 i127 := by kernel_rfl
 i168 := by kernel_rfl
 i210 := by kernel_rfl
 m15 := by kernel_rfl }
open Go.RowKit in
theorem Tryz.strconv_syntaxError (fn s : ByteArray) (ev : Value) (w : World) (hlim : s.size ≤ 281474976710656) (hv : w.cell? ⟨6, 0, none⟩ = some ev) (hev : ev = .nilIface ∨ ∃ te pe, ev = .iface te pe) :
  Calls Tryz.prog 202 #[.string fn, .string s] w fun e w' => ∃ N, e = .returned (.pointer (some ⟨N, 0, none⟩)) ∧ w.heap.size ≤ N ∧ w'.heap[N]? = some (.cells #[.string fn, .string s, ev] 319 (0, 0)) ∧ Below w.heap.size w w' := Any.strconv_syntaxError Tryz.laysM279 fn s ev w hlim hv hev
def Tryz.laysM280_ren : Go.Shelf.Ren := ⟨fun | 280 => 203 | 316 => 212 | n => n, fun | 9 => 9 | 168 => 301 | 75 => 258 | 210 => 319 | 3 => 3 | 4 => 4 | 37 => 24 | 0 => 0 | 127 => 328 | 80 => 333 | 5 => 5 | n => n, fun | 16 => 7 | n => n⟩
theorem Tryz.laysM280 : Go.Proofs.LaysM.n280 Tryz.prog Tryz.laysM280_ren := {
 mixed := by kernel_rfl
 f280 := Tryz.func203.trans (congrArg some (by kernel_rfl))
 f316 := Tryz.func212.trans (congrArg some (by kernel_rfl))
 t0 := Tryz.underlying0
 a0 := Tryz.isAgg0
 z0 := Tryz.sizeOf0
 v0 := Tryz.zeroValue0
 t3 := Tryz.underlying3
 a3 := Tryz.isAgg3
 z3 := Tryz.sizeOf3
 v3 := Tryz.zeroValue3
 t4 := Tryz.underlying4
 a4 := Tryz.isAgg4
 z4 := Tryz.sizeOf4
 v4 := Tryz.zeroValue4
 t9 := Tryz.underlying9
 a9 := Tryz.isAgg9
 z9 := Tryz.sizeOf9
 v9 := Tryz.zeroValue9
 t37 := Tryz.underlying24
 a37 := Tryz.isAgg24
 z37 := Tryz.sizeOf24
 v37 := Tryz.zeroValue24
 t75 := Tryz.underlying258
 a75 := Tryz.isAgg258
 z75 := Tryz.sizeOf258
 v75 := Tryz.zeroValue258
 t127 := Tryz.underlying328
 a127 := Tryz.isAgg328
 z127 := Tryz.sizeOf328
 v127 := Tryz.zeroValue328
 t168 := Tryz.underlying301
 a168 := Tryz.isAgg301
 z168 := Tryz.sizeOf301
 v168 := Tryz.zeroValue301
 t210 := Tryz.underlying319
 a210 := Tryz.isAgg319
 z210 := Tryz.sizeOf319
 v210 := Tryz.zeroValue319
 g16 := by kernel_rfl
 t5 := Tryz.underlying5
 a5 := Tryz.isAgg5
 z5 := Tryz.sizeOf5
 v5 := Tryz.zeroValue5
 t80 := Tryz.underlying333
 a80 := Tryz.isAgg333
 z80 := Tryz.sizeOf333
 v80 := Tryz.zeroValue333
 i0 := by kernel_rfl
 i3 := by kernel_rfl
 i4 := by kernel_rfl
 i5 := by kernel_rfl
 i9 := by kernel_rfl
 i37 := by kernel_rfl
 i75 := by kernel_rfl
 i80 := by kernel_rfl
 i127 := by kernel_rfl
 i168 := by kernel_rfl
 i210 := by kernel_rfl
 m16 := by kernel_rfl }
open Go.RowKit in
theorem Tryz.strconv_rangeError (fn s : ByteArray) (ev : Value) (w : World) (hlim : s.size ≤ 281474976710656) (hv : w.cell? ⟨7, 0, none⟩ = some ev) (hev : ev = .nilIface ∨ ∃ te pe, ev = .iface te pe) :
  Calls Tryz.prog 203 #[.string fn, .string s] w fun e w' => ∃ N, e = .returned (.pointer (some ⟨N, 0, none⟩)) ∧ w.heap.size ≤ N ∧ w'.heap[N]? = some (.cells #[.string fn, .string s, ev] 319 (0, 0)) ∧ Below w.heap.size w w' := Any.strconv_rangeError Tryz.laysM280 fn s ev w hlim hv hev
def Tryz.lays219_ren : Go.Shelf.Ren := ⟨fun | 219 => 187 | 217 => 196 | 225 => 197 | 224 => 198 | 267 => 199 | 266 => 210 | 314 => 211 | n => n, fun | 9 => 9 | 3 => 3 | 4 => 4 | 5 => 5 | 46 => 239 | 146 => 315 | 51 => 252 | n => n, fun | 1 => 3 | n => n⟩
theorem Tryz.lays219 : Go.Proofs.Lays.n219 Tryz.prog Tryz.lays219_ren := {
 mixed := by kernel_rfl
 f217 := Tryz.func196.trans (congrArg some (by kernel_rfl))
 f219 := Tryz.func187.trans (congrArg some (by kernel_rfl))
 f224 := Tryz.func198.trans (congrArg some (by kernel_rfl))
 f225 := Tryz.func197.trans (congrArg some (by kernel_rfl))
 f266 := Tryz.func210.trans (congrArg some (by kernel_rfl))
 f267 := Tryz.func199.trans (congrArg some (by kernel_rfl))
 f314 := Tryz.func211.trans (congrArg some (by kernel_rfl))
 t3 := Tryz.underlying3
 a3 := Tryz.isAgg3
 z3 := Tryz.sizeOf3
 v3 := Tryz.zeroValue3
 t4 := Tryz.underlying4
 a4 := Tryz.isAgg4
 z4 := Tryz.sizeOf4
 v4 := Tryz.zeroValue4
 t5 := Tryz.underlying5
 a5 := Tryz.isAgg5
 z5 := Tryz.sizeOf5
 v5 := Tryz.zeroValue5
 t9 := Tryz.underlying9
 a9 := Tryz.isAgg9
 z9 := Tryz.sizeOf9
 v9 := Tryz.zeroValue9
 t46 := Tryz.underlying239
 a46 := Tryz.isAgg239
 z46 := Tryz.sizeOf239
 v46 := Tryz.zeroValue239
 t51 := Tryz.underlying252
 a51 := Tryz.isAgg252
 z51 := Tryz.sizeOf252
 v51 := Tryz.zeroValue252
 t146 := Tryz.underlying315
 a146 := Tryz.isAgg315
 z146 := Tryz.sizeOf315
 v146 := Tryz.zeroValue315
 g1 := by kernel_rfl }
open Go.RowKit Go.Lib in
theorem Tryz.stringslite_Index_one (s : ByteArray) (c : UInt8) (w : World) :
  Calls Tryz.prog 187 #[.string s, .string ⟨#[c]⟩] w fun e w' => e = .returned (.int .i64 (Lib.indexByte s.data.toList c)) ∧ w' = w := Any.stringslite_Index_one Tryz.lays219 s c w
def Tryz.lays144_ren : Go.Shelf.Ren := ⟨fun | 144 => 162 | 143 => 158 | 219 => 187 | 217 => 196 | 225 => 197 | 224 => 198 | 267 => 199 | 266 => 210 | 314 => 211 | n => n, fun | 9 => 9 | 4 => 4 | 3 => 3 | 5 => 5 | 46 => 239 | 146 => 315 | 51 => 252 | n => n, fun | 1 => 3 | n => n⟩
theorem Tryz.lays144 : Go.Proofs.Lays.n144 Tryz.prog Tryz.lays144_ren := {
 mixed := by kernel_rfl
 f143 := Tryz.func158.trans (congrArg some (by kernel_rfl))
 f144 := Tryz.func162.trans (congrArg some (by kernel_rfl))
 f217 := Tryz.func196.trans (congrArg some (by kernel_rfl))
 f219 := Tryz.func187.trans (congrArg some (by kernel_rfl))
 f224 := Tryz.func198.trans (congrArg some (by kernel_rfl))
 f225 := Tryz.func197.trans (congrArg some (by kernel_rfl))
 f266 := Tryz.func210.trans (congrArg some (by kernel_rfl))
 f267 := Tryz.func199.trans (congrArg some (by kernel_rfl))
 f314 := Tryz.func211.trans (congrArg some (by kernel_rfl))
 t3 := Tryz.underlying3
 a3 := Tryz.isAgg3
 z3 := Tryz.sizeOf3
 v3 := Tryz.zeroValue3
 t4 := Tryz.underlying4
 a4 := Tryz.isAgg4
 z4 := Tryz.sizeOf4
 v4 := Tryz.zeroValue4
 t5 := Tryz.underlying5
 a5 := Tryz.isAgg5
 z5 := Tryz.sizeOf5
 v5 := Tryz.zeroValue5
 t9 := Tryz.underlying9
 a9 := Tryz.isAgg9
 z9 := Tryz.sizeOf9
 v9 := Tryz.zeroValue9
 t46 := Tryz.underlying239
 a46 := Tryz.isAgg239
 z46 := Tryz.sizeOf239
 v46 := Tryz.zeroValue239
 t51 := Tryz.underlying252
 a51 := Tryz.isAgg252
 z51 := Tryz.sizeOf252
 v51 := Tryz.zeroValue252
 t146 := Tryz.underlying315
 a146 := Tryz.isAgg315
 z146 := Tryz.sizeOf315
 v146 := Tryz.zeroValue315
 g1 := by kernel_rfl }
open Go.RowKit Go.Lib in
theorem Tryz.strings_Contains_one (s : ByteArray) (c : UInt8) (w : World) :
  Calls Tryz.prog 162 #[.string s, .string ⟨#[c]⟩] w fun e w' => e = .returned (.bool (decide (0 ≤ Lib.indexByte s.data.toList c))) ∧ w' = w := Any.strings_Contains_one Tryz.lays144 s c w
def Tryz.lays138_ren : Go.Shelf.Ren := ⟨fun | 138 => 157 | 195 => 184 | 218 => 186 | 143 => 158 | 219 => 187 | 217 => 196 | 225 => 197 | 224 => 198 | 267 => 199 | 266 => 210 | 314 => 211 | n => n, fun | 9 => 9 | 3 => 3 | 4 => 4 | 5 => 5 | 0 => 0 | 46 => 239 | 146 => 315 | 51 => 252 | n => n, fun | 1 => 3 | n => n⟩
theorem Tryz.lays138 : Go.Proofs.Lays.n138 Tryz.prog Tryz.lays138_ren := {
 mixed := by kernel_rfl
 f138 := Tryz.func157.trans (congrArg some (by kernel_rfl))
 f143 := Tryz.func158.trans (congrArg some (by kernel_rfl))
 f195 := Tryz.func184.trans (congrArg some (by kernel_rfl))
 f217 := Tryz.func196.trans (congrArg some (by kernel_rfl))
 f218 := Tryz.func186.trans (congrArg some (by kernel_rfl))
 f219 := Tryz.func187.trans (congrArg some (by kernel_rfl))
 f224 := Tryz.func198.trans (congrArg some (by kernel_rfl))
 f225 := Tryz.func197.trans (congrArg some (by kernel_rfl))
 f266 := Tryz.func210.trans (congrArg some (by kernel_rfl))
 f267 := Tryz.func199.trans (congrArg some (by kernel_rfl))
 f314 := Tryz.func211.trans (congrArg some (by kernel_rfl))
 t0 := Tryz.underlying0
 a0 := Tryz.isAgg0
 z0 := Tryz.sizeOf0
 v0 := Tryz.zeroValue0
 t3 := Tryz.underlying3
 a3 := Tryz.isAgg3
 z3 := Tryz.sizeOf3
 v3 := Tryz.zeroValue3
 t4 := Tryz.underlying4
 a4 := Tryz.isAgg4
 z4 := Tryz.sizeOf4
 v4 := Tryz.zeroValue4
 t5 := Tryz.underlying5
 a5 := Tryz.isAgg5
 z5 := Tryz.sizeOf5
 v5 := Tryz.zeroValue5
 t9 := Tryz.underlying9
 a9 := Tryz.isAgg9
 z9 := Tryz.sizeOf9
 v9 := Tryz.zeroValue9
 t46 := Tryz.underlying239
 a46 := Tryz.isAgg239
 z46 := Tryz.sizeOf239
 v46 := Tryz.zeroValue239
 t51 := Tryz.underlying252
 a51 := Tryz.isAgg252
 z51 := Tryz.sizeOf252
 v51 := Tryz.zeroValue252
 t146 := Tryz.underlying315
 a146 := Tryz.isAgg315
 z146 := Tryz.sizeOf315
 v146 := Tryz.zeroValue315
 g1 := by kernel_rfl }
open Go.RowKit Go.Lib in
theorem Tryz.strings_Count_one (s : ByteArray) (c : UInt8) (w : World) :
  Calls Tryz.prog 157 #[.string s, .string ⟨#[c]⟩] w fun e w' => e = .returned (.int .i64 (Lib.countByte s.data.toList c)) ∧ w' = w := Any.strings_Count_one Tryz.lays138 s c w
end Go.Proofs
namespace Go.Proofs.YthmdddenbfbefaaGreatDoor
open Go Go.Plat
set_option linter.unusedVariables false
set_option linter.unusedSimpArgs false
set_option maxRecDepth 100000
set_option maxHeartbeats 2000000
attribute [local irreducible] AWP Arith BitS BytesS CallS CatS DrawS EndS IdxS LookS LoopEnd Meets ModeS NilS NormL NormM QuoS RemS ShlS ShrS SideS SplitS bitI digitB kindB letterB lexF lexL numC numR okC spanF wordC
theorem index_has (c : UInt8) : ∀ s : List UInt8, (Lib.indexByte s c = -1 ∧ s.contains c = false ∧ (s.takeWhile (· != c)) = s) ∨
  (0 ≤ Lib.indexByte s c ∧ s.contains c = true ∧ Lib.indexByte s c = ((s.takeWhile (· != c)).length : Int) ∧ s.drop ((s.takeWhile (· != c)).length + 1) = (s.dropWhile (· != c)).drop 1 ∧ (s.takeWhile (· != c)).length < s.length)
 | [] => .inl ⟨rfl, rfl, rfl⟩
 | b :: l => by
  rw [Lib.indexByte]
  by_cases h : b = c
  ·subst h
   right
   rw [if_pos (by simp)]
   simp
  ·have e : (b == c) = false := beq_eq_false_iff_ne.2 h
   have e1 : (c == b) = false := beq_eq_false_iff_ne.2 fun q => h q.symm
   have e2 : (b != c) = true := by simp [bne, e]
   rw [e, List.contains_cons, e1, Bool.false_or, List.takeWhile_cons, List.dropWhile_cons, e2]
   rw [if_neg (by decide), if_pos rfl, if_pos rfl]
   rcases index_has c l with ⟨h1, h2, h3⟩ | ⟨h1, h2, h3, h4, h5⟩
   ·left
    rw [h1, h3]
    exact ⟨rfl, h2, rfl⟩
   ·right
    have e3 : (Lib.indexByte l c == -1) = false := beq_eq_false_iff_ne.2 (by omega)
    rw [e3, if_neg (by decide)]
    refine ⟨by omega, h2, ?_, ?_, ?_⟩
    ·rw [List.length_cons]; omega
    ·rw [List.length_cons, List.drop_succ_cons, h4]
    ·rw [List.length_cons, List.length_cons]; omega
theorem has_index (c : UInt8) (s : List UInt8) : decide (0 ≤ Lib.indexByte s c) = s.contains c := by
 rcases index_has c s with ⟨h1, h2, _⟩ | ⟨h1, h2, _⟩
 ·rw [h1, h2]; rfl
 ·rw [h2, decide_eq_true h1]
theorem contains_meets : Meets Tryz.prog n_strings_Contains (SpecP (fun _ : List UInt8 × UInt8 => True) (fun (s, c) => [.str s, .str [c]]) fun (s, c) => .bool (s.contains c)) := by
 refine meets_lib ⟨_, Tryz.func162, by decide, rfl⟩ ?_
 rintro ⟨s, c⟩ - w F hg vs hl hv
 match vs, hl with
 | [a, b], _ =>
  cases hv 0 _ a rfl rfl
  cases hv 1 _ b rfl rfl
  refine (Go.Proofs.Tryz.strings_Contains_one ⟨s.toArray⟩ c w).mono ?_
  rintro e w' ⟨rfl, rfl⟩
  refine ⟨_, rfl, .refl _ _, ?_⟩
  show RepP w' F (.bool (s.contains c)) _
  rw [← has_index c s]
  exact .bool _
theorem slindex_meets : Meets Tryz.prog n_internal_stringslite_Index (SpecP (fun _ : List UInt8 × UInt8 => True) (fun (s, c) => [.str s, .str [c]]) fun (s, c) => .int .i64 (Lib.indexByte s c)) := by
 refine meets_lib ⟨_, Tryz.func187, by decide, rfl⟩ ?_
 rintro ⟨s, c⟩ - w F hg vs hl hv
 match vs, hl with
 | [a, b], _ =>
  cases hv 0 _ a rfl rfl
  cases hv 1 _ b rfl rfl
  refine (Go.Proofs.Tryz.stringslite_Index_one ⟨s.toArray⟩ c w).mono ?_
  rintro e w' ⟨rfl, rfl⟩
  exact ⟨_, rfl, .refl _ _, .int _ _⟩
theorem sindex_meets : Meets Tryz.prog n_strings_Index (SpecP (fun _ : List UInt8 × UInt8 => True) (fun (s, c) => [.str s, .str [c]]) fun (s, c) => .int .i64 (Lib.indexByte s c)) := by
 refine meets_f tabOk Tryz.func158 rfl (by decide) ?_
 rintro ⟨s, c⟩ -
 refine ⟨Nat.le_refl _, by simp [Tryz.f158], fun E hE => ?_⟩
 refine vcOk _ ?_
 (all_goals refine qgp (Lf.mk ?_))
 refine call_p slindex_meets (s, c) trivial (VS.mk (LeL.of_eq rfl)) ?_
 (all_goals refine qgp (Lf.mk ?_))
 exact end_p (VS.mk (LeD.of_eq rfl))
theorem count_meets : Meets Tryz.prog n_strings_Count (SpecP (fun _ : List UInt8 × UInt8 => True) (fun (s, c) => [.str s, .str [c]]) fun (s, c) => .int .i64 ((s.count c : Nat) : Int)) := by
 refine meets_lib ⟨_, Tryz.func157, by decide, rfl⟩ ?_
 rintro ⟨s, c⟩ - w F hg vs hl hv
 match vs, hl with
 | [a, b], _ =>
  cases hv 0 _ a rfl rfl
  cases hv 1 _ b rfl rfl
  refine (Go.Proofs.Tryz.strings_Count_one ⟨s.toArray⟩ c w).mono ?_
  rintro e w' ⟨rfl, rfl⟩
  exact ⟨_, rfl, .refl _ _, .int _ _⟩
def cutT (c : UInt8) (s : List UInt8) : List UInt8 × List UInt8 × Bool := (s.takeWhile (· != c), (s.dropWhile (· != c)).drop 1, s.contains c)
def cutD (p : List UInt8 × List UInt8 × Bool) : D := .tup [.str p.1, .str p.2.1, .bool p.2.2]
theorem take_len {α : Type} (p : α → Bool) (s : List α) : s.take (s.takeWhile p).length = s.takeWhile p := by
 induction s with
 | nil => rfl
 | cons a l ih =>
  rw [List.takeWhile_cons]
  split
  ·rw [List.length_cons, List.take_succ_cons, ih]
  ·rfl
theorem drop_while_nil {c : UInt8} : ∀ {s : List UInt8}, s.contains c = false → s.dropWhile (· != c) = []
 | [], _ => rfl
 | b :: l, h => by
  rw [List.contains_cons, Bool.or_eq_false_iff] at h
  have e : (b != c) = true := by
   rw [bne_iff_ne]
   intro q
   rw [q] at h
   simp at h
  rw [List.dropWhile_cons, e, if_pos rfl]
  exact drop_while_nil h.2
attribute [local irreducible] Lib.indexByte
theorem lcut_meets : Meets Tryz.prog n_internal_stringslite_Cut (SpecP (fun ((s, c) : List UInt8 × UInt8) => s.length ≤ 1000000000) (fun (s, c) => [.str s, .str [c]]) fun (s, c) => cutD (cutT c s)) := by
 refine meets_f tabOk Tryz.func159 rfl (by decide) ?_
 rintro ⟨s, c⟩ hs
 have hs : s.length ≤ 1000000000 := hs
 refine ⟨Nat.le_refl _, by simp [Tryz.f159], fun E hE => ?_⟩
 have hi := index_has c s
 have hl1 : ([c] : List UInt8).length = 1 := rfl
 have hb : -1 ≤ Lib.indexByte s c ∧ Lib.indexByte s c ≤ s.length ∧ (0 ≤ Lib.indexByte s c → Lib.indexByte s c < s.length) := by omega
 refine vcOk _ ?_
 (all_goals refine qgp (Lf.mk ?_))
 refine call_p slindex_meets (s, c) trivial (VS.mk (LeL.of_eq rfl)) ?_
 (all_goals refine qgp ?_ <;> (repeat' first | exact trivial | intro hc | refine And.intro ?_ ?_) <;> refine Lf.mk ?_)
 ·rcases hi with ⟨h1, _⟩ | ⟨h1, h2, h3, h4, h5⟩
  ·omega
  refine end_p (VS.mk (.tup (.cons (LeD.of_eq ?_) (.cons (LeD.of_eq ?_) (.cons (LeD.tt h2) .nil)))))
  ·rw [h3, Int.toNat_natCast]
   exact congrArg D.str (take_len _ s)
  ·rw [h3]
   exact congrArg D.str (by rw [hl1, Int.toNat_natCast, List.take_length, show (((s.takeWhile (· != c)).length : Int) + ((1 : Nat) : Int)).toNat = (s.takeWhile (· != c)).length + 1 by omega]; exact h4)
 ·rcases hi with ⟨h1, h2, h3⟩ | ⟨h1, h2, h3, h4, h5⟩
  ·refine end_p (VS.mk (.tup (.cons (LeD.of_eq ?_) (.cons (LeD.of_eq ?_) (.cons (LeD.ff h2) .nil)))))
   ·exact congrArg D.str h3.symm
   ·exact congrArg D.str (by show [] = (s.dropWhile _).drop 1; rw [drop_while_nil h2]; rfl)
  ·omega
theorem cut_meets : Meets Tryz.prog n_strings_Cut (SpecP (fun ((s, c) : List UInt8 × UInt8) => s.length ≤ 1000000000) (fun (s, c) => [.str s, .str [c]]) fun (s, c) => cutD (cutT c s)) := by
 refine meets_f tabOk Tryz.func105 rfl (by decide) ?_
 rintro ⟨s, c⟩ hs
 refine ⟨Nat.le_refl _, by simp [Tryz.f105], fun E hE => ?_⟩
 refine vcOk _ ?_
 (all_goals refine qgp (Lf.mk ?_))
 refine call_p lcut_meets (s, c) hs (VS.mk (LeL.of_eq rfl)) ?_
 (all_goals refine qgp (Lf.mk ?_))
 exact end_p (VS.mk (LeD.of_eq rfl))
theorem beq_dec (a b : List UInt8) : (a == b) = decide (a = b) := by
 by_cases h : a = b
 ·rw [decide_eq_true h, h]; exact beq_self_eq_true _
 ·rw [decide_eq_false h, beq_eq_false_iff_ne.2 h]
theorem lprefix_meets : Meets Tryz.prog n_internal_stringslite_HasPrefix (SpecP (fun ((s, p) : List UInt8 × List UInt8) => s.length ≤ 1000000000 ∧ p.length ≤ 1000000000) (fun (s, p) => [.str s, .str p]) fun (s, p) => .bool (decide (s.take p.length = p))) := by
 refine meets_f tabOk Tryz.func190 rfl (by decide) ?_
 rintro ⟨s, p⟩ ⟨hs, hp⟩
 refine ⟨Nat.le_refl _, by simp [Tryz.f190], fun E hE => ?_⟩
 refine vcOk _ ?_
 (all_goals refine qgp ?_ <;> (repeat' first | exact trivial | intro hc | refine And.intro ?_ ?_) <;> refine Lf.mk ?_)
 ·exact end_p (VS.mk (LeD.of_eq (congrArg D.bool (beq_dec _ _))))
 ·refine end_p (VS.mk (LeD.ff (decide_eq_false fun h => ?_)))
  have := congrArg List.length h
  rw [List.length_take] at this
  omega
theorem prefix_meets : Meets Tryz.prog n_strings_HasPrefix (SpecP (fun ((s, p) : List UInt8 × List UInt8) => s.length ≤ 1000000000 ∧ p.length ≤ 1000000000) (fun (s, p) => [.str s, .str p]) fun (s, p) => .bool (decide (s.take p.length = p))) := by
 refine meets_f tabOk Tryz.func163 rfl (by decide) ?_
 rintro ⟨s, p⟩ h
 refine ⟨Nat.le_refl _, by simp [Tryz.f163], fun E hE => ?_⟩
 refine vcOk _ ?_
 (all_goals refine qgp (Lf.mk ?_))
 refine call_p lprefix_meets (s, p) h (VS.mk (LeL.of_eq rfl)) ?_
 (all_goals refine qgp (Lf.mk ?_))
 exact end_p (VS.mk (LeD.of_eq rfl))
end Go.Proofs.YthmdddenbfbefaaGreatDoor
namespace Go.Proofs.YthmdddenbfbefaaGreatDoor
open Go Go.Plat
set_option linter.unusedVariables false
set_option linter.unusedSimpArgs false
set_option maxRecDepth 100000
set_option maxHeartbeats 2000000
attribute [local irreducible] AWP Arith BitS BytesS CallS CatS DrawS EndS IdxS LookS LoopEnd Meets ModeS NilS NormL NormM QuoS RemS ShlS ShrS SideS SplitS bitI digV digitB kindB letterB lexF lexL numC numR okC spanF wordC
def puF (b : Int) : List UInt8 → Int → Int × Int
 | [], n => (n, 0)
 | c :: r, n => if digV b c < 0 then (0, 2) else if 4294967295 < n * b + digV b c then (4294967295, 1) else puF b r (n * b + digV b c)
def puR (b : Int) (s : List UInt8) : Int × Int := if s = [] then (0, 2) else puF b s 0
theorem pu_big {b : Int} (hb : b = 10 ∨ b = 16) : ∀ (s : List UInt8) (n : Int), 4294967295 < n → ∀ m, numF b s n = some m → 4294967295 < m
 | [], n, h, m, hm => by rw [numF] at hm; cases hm; exact h
 | c :: r, n, h, m, hm => by rw [numF, if_pos (.inr h)] at hm; cases hm
theorem pu_num {b : Int} (hb : b = 10 ∨ b = 16) : ∀ (s : List UInt8) (n : Int), 0 ≤ n → n ≤ 4294967295 →
  ((puF b s n).2 = 0 ∧ numF b s n = some (puF b s n).1 ∧ 0 ≤ (puF b s n).1 ∧ (puF b s n).1 ≤ 4294967295) ∨ ((puF b s n).2 ≠ 0 ∧ ∀ m, numF b s n = some m → 4294967295 < m)
 | [], n, h0, h1 => .inl ⟨rfl, rfl, h0, h1⟩
 | c :: r, n, h0, h1 => by
  rw [puF, numF]
  by_cases hd : digV b c < 0
  ·rw [if_pos hd, if_pos (.inl hd)]
   exact .inr ⟨by decide, fun m hm => by cases hm⟩
  ·rw [if_neg hd, if_neg (show ¬ (digV b c < 0 ∨ 4294967295 < n) by omega)]
   have := dig_lt b c
   by_cases hn : 4294967295 < n * b + digV b c
   ·rw [if_pos hn]
    exact .inr ⟨by decide, pu_big hb r _ hn⟩
   ·rw [if_neg hn]
    exact pu_num hb r _ (by rcases hb with rfl | rfl <;> omega) (by omega)
theorem pu_numR {b : Int} (hb : b = 10 ∨ b = 16) (s : List UInt8) : ((puR b s).2 = 0 ∧ numRb b s = ((puR b s).1, true) ∧ 0 ≤ (puR b s).1 ∧ (puR b s).1 ≤ 4294967295) ∨ ((puR b s).2 ≠ 0 ∧ (numRb b s).2 = false) := by
 unfold puR numRb
 by_cases h : s = []
 ·subst h
  right
  rw [if_pos rfl]
  exact ⟨by decide, by simp [numF, numFin]⟩
 rw [if_neg h]
 rcases pu_num hb s 0 (by decide) (by decide) with ⟨h1, h2, h3, h4⟩ | ⟨h1, h2⟩
 ·left
  rw [h2]
  refine ⟨h1, ?_, h3, h4⟩
  show ((puF b s 0).1, decide ((puF b s 0).1 < 4294967296 ∧ s ≠ [])) = _
  rw [decide_eq_true ⟨by omega, h⟩]
 ·right
  refine ⟨h1, ?_⟩
  cases hm : numF b s 0 with
  | none => rfl
  | some m =>
   have := h2 m hm
   show decide (m < 4294967296 ∧ s ≠ []) = false
   rw [decide_eq_false (by rintro ⟨q, _⟩; omega)]
theorem puF_code (b : Int) : ∀ (s : List UInt8) (n : Int), (puF b s n).2 = 0 ∨ (puF b s n).2 = 1 ∨ (puF b s n).2 = 2
 | [], n => .inl rfl
 | c :: r, n => by
  rw [puF]
  split
  ·exact .inr (.inr rfl)
  split
  ·exact .inr (.inl rfl)
  ·exact puF_code b r _
theorem pu_code (b : Int) (s : List UInt8) : (puR b s).2 = 0 ∨ (puR b s).2 = 1 ∨ (puR b s).2 = 2 := by
 unfold puR
 split
 ·exact .inr (.inr rfl)
 ·exact puF_code b s 0
def lowC (c : UInt8) : UInt8 := c ||| 32
theorem low_all : ∀ k : Fin 256, (97 ≤ (lowC (UInt8.ofNat k.val)).toNat ∧ (lowC (UInt8.ofNat k.val)).toNat ≤ 122 → ¬ (48 ≤ k.val ∧ k.val ≤ 57) ∧ ((lowC (UInt8.ofNat k.val)).toNat ≤ 102 ∧ digV 16 (UInt8.ofNat k.val) = (lowC (UInt8.ofNat k.val)).toNat - 87 ∨ (103 ≤ (lowC (UInt8.ofNat k.val)).toNat ∧ digV 16 (UInt8.ofNat k.val) = -1)) ∧ digV 10 (UInt8.ofNat k.val) = -1) ∧
  (48 ≤ k.val ∧ k.val ≤ 57 → digV 16 (UInt8.ofNat k.val) = k.val - 48 ∧ digV 10 (UInt8.ofNat k.val) = k.val - 48) ∧
  (¬ (97 ≤ (lowC (UInt8.ofNat k.val)).toNat ∧ (lowC (UInt8.ofNat k.val)).toNat ≤ 122) → ¬ (48 ≤ k.val ∧ k.val ≤ 57) → digV 16 (UInt8.ofNat k.val) = -1 ∧ digV 10 (UInt8.ofNat k.val) = -1) := by decide +kernel
theorem low_dig (c : UInt8) : (97 ≤ (lowC c).toNat ∧ (lowC c).toNat ≤ 122 → ¬ (48 ≤ c.toNat ∧ c.toNat ≤ 57) ∧ ((lowC c).toNat ≤ 102 ∧ digV 16 c = (lowC c).toNat - 87 ∨ (103 ≤ (lowC c).toNat ∧ digV 16 c = -1)) ∧ digV 10 c = -1) ∧
  (48 ≤ c.toNat ∧ c.toNat ≤ 57 → digV 16 c = c.toNat - 48 ∧ digV 10 c = c.toNat - 48) ∧
  (¬ (97 ≤ (lowC c).toNat ∧ (lowC c).toNat ≤ 122) → ¬ (48 ≤ c.toNat ∧ c.toNat ≤ 57) → digV 16 c = -1 ∧ digV 10 c = -1) := by
 have := low_all ⟨c.toNat, c.toNat_lt⟩
 simp only [UInt8.ofNat_toNat] at this
 exact this
theorem or_32 (c : UInt8) : bitI .or .u8 (c.toNat : Int) 32 = ((lowC c).toNat : Int) := by
 have : ∀ k : Fin 256, bitI .or .u8 ((UInt8.ofNat k.val).toNat : Int) 32 = ((lowC (UInt8.ofNat k.val)).toNat : Int) := by decide +kernel
 have := this ⟨c.toNat, c.toNat_lt⟩
 simp only [UInt8.ofNat_toNat] at this
 exact this
theorem lower_meets : Meets Tryz.prog n_internal_strconv_lower (SpecP (fun _ : UInt8 => True) (fun c => [byteD c]) fun c => byteD (lowC c)) := by
 refine meets_f tabOk Tryz.func200 rfl (by decide) fun c _ => ?_
 refine ⟨Nat.le_refl _, by simp [Tryz.f200], fun E hE => ?_⟩
 refine vcOk _ ?_
 (all_goals refine qgp (Lf.mk ?_))
 refine bit_mk (or_32 c) ?_
 (all_goals refine qgp (Lf.mk ?_))
 exact end_p (VS.mk (LeD.of_eq rfl))
attribute [local irreducible] lowC
def puD (p : Int × Int) : D := .tup [.int .u64 p.1, if p.2 = 0 then .nilif else .iface 300 (.int .i64 p.2)]
theorem shl_u64_32 {K : D → Prop} (h : K (.int .u64 4294967296)) : ShlS .u64 1 32 K := by
 unfold ShlS
 refine ⟨by decide, ?_⟩
 have e : IntKind.u64.wrap (1 * 2 ^ (min (32 : Int).toNat IntKind.u64.bits)) = 4294967296 := by decide
 rw [e]; exact h
theorem parse_in_meets : Meets Tryz.prog n_internal_strconv_ParseUint (SpecP (fun ((s, b) : List UInt8 × Int) => s.length ≤ 1000000000 ∧ (b = 10 ∨ b = 16)) (fun (s, b) => [.str s, .int .i64 b, .int .i64 32]) fun (s, b) => puD (puR b s)) := by
 refine meets_f tabOk Tryz.func188 rfl (by decide) ?_
 rintro ⟨s, b⟩ ⟨hs, hb⟩
 refine ⟨Nat.le_refl _, by simp [Tryz.f188], fun E hE => ?_⟩
 rcases hb with rfl | rfl
 ·refine vcOk _ ?_
  have hP : s ≠ [] → puR 10 s = puF 10 (s.drop 0) 0 := fun h => by unfold puR; rw [if_neg h]; rfl
  (all_goals refine qgp ?_ <;> (repeat' first | exact trivial | intro hc | refine And.intro ?_ ?_) <;> refine Lf.mk ?_)
  all_goals first
   | (exfalso; refine absurd trivial ?_; assumption)
   | (exact end_p (VS.mk (LeD.of_eq (by show _ = puD (puR _ _); unfold puR; rw [if_pos hc]; rfl))))
   | skip
  refine ar_u64 (by decide) (by decide) ?_
  (all_goals refine qgp (Lf.mk ?_))
  refine shl_u64_32 ?_
  (all_goals refine qgp (Lf.mk ?_))
  refine ar_u64 (by decide) (by decide) ?_
  (all_goals refine qgp (Lf.mk ?_))
  have hP := hP (by assumption)
  refine awp_loop (α := Nat × Int) (fun p => p.1 ≤ s.length ∧ puR 10 s = puF 10 (s.drop p.1) p.2 ∧ 0 ≤ p.2 ∧ p.2 ≤ 4294967295)
   (fun p => [(1, .int .i64 10), (8, .bool false), (9, .str s), (10, .int .u64 1844674407370955162), (11, .int .u64 4294967295), (12, .ff), (13, .int .u64 p.2), (99, .sl 1 (s.map byteD) none), (100, .int .i64 s.length), (101, .int .i64 p.1)])
   (fun _ => []) (fun p => s.length - p.1) (fun _ => by simp [hE]) (0, 0) ⟨Nat.zero_le _, hP, by decide, by decide⟩ ?_ ?_
  ·(repeat' (first | (refine VS.mk ?_) | exact trivial | exact rfl | refine And.intro ?_ ?_))
  rintro ⟨k, n⟩ ⟨hk, hf, hn0, hn1⟩
  dsimp only at hk hf hn0 hn1 ⊢
  have hlast : k = s.length → puD (puR 10 s) = .tup [.int .u64 n, .nilif] := fun h => by rw [hf, h, List.drop_length]; rfl
  have hstep : k < s.length → puR 10 s = if digV 10 (s.getD k 0) < 0 then (0, 2) else if 4294967295 < n * 10 + digV 10 (s.getD k 0) then (4294967295, 1) else puF 10 (s.drop (k + 1)) (n * 10 + digV 10 (s.getD k 0)) := fun h => by
   rw [hf, drop_cons (d := 0) h, puF]
  have hd := low_dig (s.getD k 0)
  have hq := (s.getD k 0).toNat_lt
  have hq2 := (lowC (s.getD k 0)).toNat_lt
  have hbB : (lowByte 10).toNat = 10 := by decide
  have h48 := lowByte_toNat (((s.getD k 0).toNat : Int) - 48)
  have h97 := lowByte_toNat (((lowC (s.getD k 0)).toNat : Int) - 97)
  have h10 := lowByte_toNat (((lowByte (((lowC (s.getD k 0)).toNat : Int) - 97)).toNat : Int) + 10)
  generalize digV 10 (s.getD k 0) = dv at *
  generalize digV 16 (s.getD k 0) = dx at *
  refine vcOk _ ?_
  (all_goals refine qgp ?_ <;> (repeat' first | exact trivial | intro hc | refine And.intro ?_ ?_) <;> refine Lf.mk ?_)
  all_goals (try refine call_p lower_meets (s.getD k 0) trivial (VS.mk (LeL.of_eq rfl)) ?_)
  (all_goals refine qgp ?_ <;> (repeat' first | exact trivial | intro hc | refine And.intro ?_ ?_) <;> refine Lf.mk ?_)
  all_goals (try refine call_p lower_meets (s.getD k 0) trivial (VS.mk (LeL.of_eq rfl)) ?_)
  (all_goals refine qgp ?_ <;> (repeat' first | exact trivial | intro hc | refine And.intro ?_ ?_) <;> refine Lf.mk ?_)
  all_goals (try refine call_p lower_meets (s.getD k 0) trivial (VS.mk (LeL.of_eq rfl)) ?_)
  (all_goals refine qgp ?_ <;> (repeat' first | exact trivial | intro hc | refine And.intro ?_ ?_) <;> refine Lf.mk ?_)
  all_goals first
   | (refine absurd hc ?_; decide)
   | (refine end_p (VS.mk (LeD.of_eq ?_)); rw [hstep (by omega), if_pos (by omega)]; rfl)
   | skip
  all_goals (try refine ar_u64 (by omega) (by omega) ?_)
  (all_goals refine qgp (Lf.mk ?_))
  all_goals (try refine ar_u64 (by omega) (by omega) ?_)
  (all_goals refine qgp (Lf.mk ?_))
  all_goals (try refine ar_u64 (by omega) (by omega) ?_)
  (all_goals refine qgp (Lf.mk ?_))
  all_goals (try refine ar_u64 (by omega) (by omega) ?_)
  (all_goals refine qgp ?_ <;> (repeat' first | exact trivial | intro hc | refine And.intro ?_ ?_) <;> refine Lf.mk ?_)
  all_goals first
   | (refine end_p (VS.mk (LeD.of_eq ?_)); rw [hstep (by omega), if_neg (by omega), if_pos (by omega)]; rfl)
   | (exact end_p (VS.mk (LeD.of_eq (hlast (by omega)).symm)))
   | skip
  all_goals
   have hk1 := hstep (by omega)
   rw [if_neg (by omega), if_neg (by omega)] at hk1
   refine loop_end (k + 1, n * 10 + dv) ⟨by dsimp only; omega, hk1, by dsimp only; omega, by dsimp only; omega⟩ (by dsimp only; omega) ?_
   (repeat' (first | (refine VS.mk ?_) | exact trivial | exact rfl | refine And.intro ?_ ?_))
   all_goals (first | rfl | (refine congrArg (D.int .u64) ?_; omega))
 ·refine vcOk _ ?_
  have hP : s ≠ [] → puR 16 s = puF 16 (s.drop 0) 0 := fun h => by unfold puR; rw [if_neg h]; rfl
  (all_goals refine qgp ?_ <;> (repeat' first | exact trivial | intro hc | refine And.intro ?_ ?_) <;> refine Lf.mk ?_)
  all_goals first
   | (exfalso; refine absurd trivial ?_; assumption)
   | (exact end_p (VS.mk (LeD.of_eq (by show _ = puD (puR _ _); unfold puR; rw [if_pos hc]; rfl))))
   | skip
  refine ar_u64 (by decide) (by decide) ?_
  (all_goals refine qgp (Lf.mk ?_))
  refine shl_u64_32 ?_
  (all_goals refine qgp (Lf.mk ?_))
  refine ar_u64 (by decide) (by decide) ?_
  (all_goals refine qgp (Lf.mk ?_))
  have hP := hP (by assumption)
  refine awp_loop (α := Nat × Int) (fun p => p.1 ≤ s.length ∧ puR 16 s = puF 16 (s.drop p.1) p.2 ∧ 0 ≤ p.2 ∧ p.2 ≤ 4294967295)
   (fun p => [(1, .int .i64 16), (8, .bool false), (9, .str s), (10, .int .u64 1152921504606846976), (11, .int .u64 4294967295), (12, .ff), (13, .int .u64 p.2), (99, .sl 1 (s.map byteD) none), (100, .int .i64 s.length), (101, .int .i64 p.1)])
   (fun _ => []) (fun p => s.length - p.1) (fun _ => by simp [hE]) (0, 0) ⟨Nat.zero_le _, hP, by decide, by decide⟩ ?_ ?_
  ·(repeat' (first | (refine VS.mk ?_) | exact trivial | exact rfl | refine And.intro ?_ ?_))
  rintro ⟨k, n⟩ ⟨hk, hf, hn0, hn1⟩
  dsimp only at hk hf hn0 hn1 ⊢
  have hlast : k = s.length → puD (puR 16 s) = .tup [.int .u64 n, .nilif] := fun h => by rw [hf, h, List.drop_length]; rfl
  have hstep : k < s.length → puR 16 s = if digV 16 (s.getD k 0) < 0 then (0, 2) else if 4294967295 < n * 16 + digV 16 (s.getD k 0) then (4294967295, 1) else puF 16 (s.drop (k + 1)) (n * 16 + digV 16 (s.getD k 0)) := fun h => by
   rw [hf, drop_cons (d := 0) h, puF]
  have hd := low_dig (s.getD k 0)
  have hq := (s.getD k 0).toNat_lt
  have hq2 := (lowC (s.getD k 0)).toNat_lt
  have hbB : (lowByte 16).toNat = 16 := by decide
  have h48 := lowByte_toNat (((s.getD k 0).toNat : Int) - 48)
  have h97 := lowByte_toNat (((lowC (s.getD k 0)).toNat : Int) - 97)
  have h10 := lowByte_toNat (((lowByte (((lowC (s.getD k 0)).toNat : Int) - 97)).toNat : Int) + 10)
  generalize digV 10 (s.getD k 0) = dv at *
  generalize digV 16 (s.getD k 0) = dx at *
  refine vcOk _ ?_
  (all_goals refine qgp ?_ <;> (repeat' first | exact trivial | intro hc | refine And.intro ?_ ?_) <;> refine Lf.mk ?_)
  all_goals (try refine call_p lower_meets (s.getD k 0) trivial (VS.mk (LeL.of_eq rfl)) ?_)
  (all_goals refine qgp ?_ <;> (repeat' first | exact trivial | intro hc | refine And.intro ?_ ?_) <;> refine Lf.mk ?_)
  all_goals (try refine call_p lower_meets (s.getD k 0) trivial (VS.mk (LeL.of_eq rfl)) ?_)
  (all_goals refine qgp ?_ <;> (repeat' first | exact trivial | intro hc | refine And.intro ?_ ?_) <;> refine Lf.mk ?_)
  all_goals (try refine call_p lower_meets (s.getD k 0) trivial (VS.mk (LeL.of_eq rfl)) ?_)
  (all_goals refine qgp ?_ <;> (repeat' first | exact trivial | intro hc | refine And.intro ?_ ?_) <;> refine Lf.mk ?_)
  all_goals first
   | (refine absurd hc ?_; decide)
   | (refine end_p (VS.mk (LeD.of_eq ?_)); rw [hstep (by omega), if_pos (by omega)]; rfl)
   | skip
  all_goals (try refine ar_u64 (by omega) (by omega) ?_)
  (all_goals refine qgp (Lf.mk ?_))
  all_goals (try refine ar_u64 (by omega) (by omega) ?_)
  (all_goals refine qgp (Lf.mk ?_))
  all_goals (try refine ar_u64 (by omega) (by omega) ?_)
  (all_goals refine qgp (Lf.mk ?_))
  all_goals (try refine ar_u64 (by omega) (by omega) ?_)
  (all_goals refine qgp ?_ <;> (repeat' first | exact trivial | intro hc | refine And.intro ?_ ?_) <;> refine Lf.mk ?_)
  all_goals first
   | (refine end_p (VS.mk (LeD.of_eq ?_)); rw [hstep (by omega), if_neg (by omega), if_pos (by omega)]; rfl)
   | (exact end_p (VS.mk (LeD.of_eq (hlast (by omega)).symm)))
   | skip
  all_goals
   have hk1 := hstep (by omega)
   rw [if_neg (by omega), if_neg (by omega)] at hk1
   refine loop_end (k + 1, n * 16 + dx) ⟨by dsimp only; omega, hk1, by dsimp only; omega, by dsimp only; omega⟩ (by dsimp only; omega) ?_
   (repeat' (first | (refine VS.mk ?_) | exact trivial | exact rfl | refine And.intro ?_ ?_))
   all_goals (first | rfl | (refine congrArg (D.int .u64) ?_; omega))
end Go.Proofs.YthmdddenbfbefaaGreatDoor
namespace Go.Proofs.YthmdddenbfbefaaGreatDoor
open Go Go.Plat
set_option linter.unusedVariables false
set_option linter.unusedSimpArgs false
set_option maxRecDepth 100000
set_option maxHeartbeats 2000000
attribute [local irreducible] AWP Arith BitS BytesS CallS CatS DrawS EndS IdxS LookS LoopEnd Meets ModeS NilS NormL NormM QuoS RemS ShlS ShrS SideS SplitS bitI digitB kindB letterB lexF lexL numC numR okC wordC
def rdO (s : List UInt8) (i : Nat) : List Ob := [.cells [.str s, .int .i64 (i : Nat)]]
theorem srun_meets {g : Nat} {p : UInt8 → Bool} (hg : Meets Tryz.prog g (SpecP (fun _ : UInt8 => True) (fun c => [byteD c]) fun c => .bool (p c))) :
  Meets Tryz.prog n_scan_reader_run (SpecF (fun ((s, i) : List UInt8 × Nat) => i ≤ s.length ∧ s.length ≤ 1000000000) (fun _ => [.loc 0 0, .fn g []]) (fun (s, i) => rdO s i)
   (fun (s, i) => .str ((s.take (i + spanF p (s.drop i))).drop i)) fun (s, i) => rdO s (i + spanF p (s.drop i))) := by
 refine meets_f tabOk Tryz.func106 rfl (by decide) ?_
 rintro ⟨s, i⟩ ⟨hi, hs⟩
 refine ⟨Nat.le_refl _, by simp [Tryz.f106], fun E hE => ?_⟩
 refine vcOk _ ?_
 (all_goals refine qgp (Lf.mk ?_))
 refine awp_loop (α := Nat) (fun k => i ≤ k ∧ k ≤ s.length ∧ ∀ j, j < k - i → p ((s.drop i).getD j 0) = true)
  (fun k => [(0, .loc 0 0), (1, .fn g []), (5, .int .i64 i)])
  (fun k => rdO s k) (fun k => s.length - k) (fun _ => by simp [hE, rdO]) i ⟨Nat.le_refl _, by omega, fun j h => absurd h (by omega)⟩ ?_ ?_
 ·(repeat' (first | (refine VS.mk ?_) | exact trivial | exact rfl | refine And.intro ?_ ?_))
 rintro k ⟨hik, hks, hall⟩
 have hget : (s.drop i).getD (k - i) 0 = s.getD k 0 := by rw [List.getD_eq_getElem?_getD, List.getElem?_drop, List.getD_eq_getElem?_getD, show i + (k - i) = k by omega]
 have hend : (k < s.length → p (s.getD k 0) = false) → k = i + spanF p (s.drop i) := fun h => by
  have := span_eq (p := p) (l := s.drop i) (k := k - i) (by rw [List.length_drop]; omega) hall fun hl => by rw [hget]; exact h (by rw [List.length_drop] at hl; omega)
  omega
 have hmore : p (s.getD k 0) = true → ∀ j, j < k + 1 - i → p ((s.drop i).getD j 0) = true := fun h j hj => by
  by_cases e : j = k - i
  ·rw [e, hget]; exact h
  ·exact hall j (by omega)
 refine vcOk _ ?_
 (all_goals refine qgp ?_ <;> (repeat' first | exact trivial | intro hc | refine And.intro ?_ ?_) <;> refine Lf.mk ?_)
 ·refine call_p hg (s.getD k 0) trivial (VS.mk (LeL.of_eq (by rw [Int.toNat_natCast]; rfl))) ?_
  (all_goals refine qgp ?_ <;> (repeat' first | exact trivial | intro hc | refine And.intro ?_ ?_) <;> refine Lf.mk ?_)
  ·have hm := hmore hc
   refine loop_end (k + 1) ⟨by omega, by omega, hm⟩ (by omega) ?_
   (repeat' (first | (refine VS.mk ?_) | exact trivial | exact rfl | refine And.intro ?_ ?_))
  ·have e := hend fun _ => by simpa using hc
   refine end_mk (And.intro (VS.mk ?_) (VS.mk ?_))
   ·show D.str _ = D.str ((s.take (i + spanF p (s.drop i))).drop i)
    rw [← e, Int.toNat_natCast, Int.toNat_natCast]
   ·show rdO s k = rdO s (i + spanF p (s.drop i))
    rw [← e]
 ·have e := hend fun h => absurd h (by omega)
  refine end_mk (And.intro (VS.mk ?_) (VS.mk ?_))
  ·show D.str _ = D.str ((s.take (i + spanF p (s.drop i))).drop i)
   rw [← e, Int.toNat_natCast, Int.toNat_natCast]
  ·show rdO s k = rdO s (i + spanF p (s.drop i))
   rw [← e]
attribute [local irreducible] digV puF puR spanF
theorem syntax_meets : Meets Tryz.prog n_strconv_syntaxError (SpecP (fun ((a, s) : List UInt8 × List UInt8) => s.length ≤ 1000000000) (fun (a, s) => [.str a, .str s]) fun _ => .any) := by
 refine meets_lib ⟨_, Tryz.func202, by decide, rfl⟩ ?_
 rintro ⟨a, s⟩ hs w F hg vs hl hv
 have hs : s.length ≤ 1000000000 := hs
 match vs, hl with
 | [x, y], _ =>
  cases hv 0 _ x rfl rfl
  cases hv 1 _ y rfl rfl
  obtain ⟨u, v, hcell⟩ := (hg 6 _ (by kernel_rfl)).2.2.2 rfl
  refine (Go.Proofs.Tryz.strconv_syntaxError ⟨a.toArray⟩ ⟨s.toArray⟩ _ w (by show s.toArray.size ≤ _; simp; omega) hcell (.inr ⟨_, _, rfl⟩)).mono ?_
  rintro e w' ⟨N, rfl, _, _, hb⟩
  exact ⟨_, rfl, .below hb, .any _⟩
theorem rngerr_meets : Meets Tryz.prog n_strconv_rangeError (SpecP (fun ((a, s) : List UInt8 × List UInt8) => s.length ≤ 1000000000) (fun (a, s) => [.str a, .str s]) fun _ => .any) := by
 refine meets_lib ⟨_, Tryz.func203, by decide, rfl⟩ ?_
 rintro ⟨a, s⟩ hs w F hg vs hl hv
 have hs : s.length ≤ 1000000000 := hs
 match vs, hl with
 | [x, y], _ =>
  cases hv 0 _ x rfl rfl
  cases hv 1 _ y rfl rfl
  obtain ⟨u, v, hcell⟩ := (hg 7 _ (by kernel_rfl)).2.2.2 rfl
  refine (Go.Proofs.Tryz.strconv_rangeError ⟨a.toArray⟩ ⟨s.toArray⟩ _ w (by show s.toArray.size ≤ _; simp; omega) hcell (.inr ⟨_, _, rfl⟩)).mono ?_
  rintro e w' ⟨N, rfl, _, _, hb⟩
  exact ⟨_, rfl, .below hb, .any _⟩
theorem toerr_meets : Meets Tryz.prog n_strconv_toError (SpecP (fun ((a, s, b, c, e) : List UInt8 × List UInt8 × Int × Int × Int) => s.length ≤ 1000000000 ∧ (e = 1 ∨ e = 2)) (fun (a, s, b, c, e) => [.str a, .str s, .int .i64 b, .int .i64 c, .iface 300 (.int .i64 e)])
  fun _ => .iface 301 .any) := by
 refine meets_f tabOk Tryz.func189 rfl (by decide) ?_
 rintro ⟨a, s, b, c, e⟩ ⟨hs, he⟩
 refine ⟨Nat.le_refl _, by simp [Tryz.f189], fun E hE => ?_⟩
 rcases he with rfl | rfl
 all_goals
  refine vcOk _ ?_
  (all_goals refine qgp (Lf.mk ?_))
  all_goals (try refine ifeq_mk (by kernel_rfl) ?_)
  (all_goals refine qgp ?_ <;> (repeat' first | exact trivial | intro hc | refine And.intro ?_ ?_) <;> refine Lf.mk ?_)
  all_goals first
   | (exfalso; refine absurd trivial ?_; assumption)
   | skip
  all_goals (try refine ifeq_mk (by kernel_rfl) ?_)
  (all_goals refine qgp ?_ <;> (repeat' first | exact trivial | intro hc | refine And.intro ?_ ?_) <;> refine Lf.mk ?_)
  all_goals first
   | (exfalso; refine absurd trivial ?_; assumption)
   | skip
  all_goals first
   | (refine call_p syntax_meets (a, s) hs (VS.mk (LeL.of_eq rfl)) ?_)
   | (refine call_p rngerr_meets (a, s) hs (VS.mk (LeL.of_eq rfl)) ?_)
   | skip
  (all_goals refine qgp (Lf.mk ?_))
  all_goals first
   | exact end_p (VS.mk (LeD.of_eq rfl))
   | (exfalso; refine absurd hc ?_; decide)
   | skip
theorem parse_uint_meets : Meets Tryz.prog n_strconv_ParseUint (SpecP (fun ((s, b) : List UInt8 × Int) => s.length ≤ 1000000000 ∧ (b = 10 ∨ b = 16)) (fun (s, b) => [.str s, .int .i64 b, .int .i64 32])
  fun (s, b) => .tup [.int .u64 (puR b s).1, if (puR b s).2 = 0 then .nilif else .iface 301 .any]) := by
 refine meets_f tabOk Tryz.func161 rfl (by decide) ?_
 rintro ⟨s, b⟩ ⟨hs, hb⟩
 refine ⟨Nat.le_refl _, by simp [Tryz.f161], fun E hE => ?_⟩
 have hcode := pu_code b s
 refine vcOk _ ?_
 (all_goals refine qgp (Lf.mk ?_))
 refine call_p parse_in_meets (s, b) ⟨hs, hb⟩ (VS.mk (LeL.of_eq rfl)) ?_
 dsimp only
 generalize puR b s = R at *
 obtain ⟨n, e⟩ := R
 dsimp only at hcode
 unfold puD
 dsimp only
 by_cases he : e = 0
 ·rw [if_pos he, if_pos he]
  (all_goals refine qgp ?_ <;> (repeat' first | exact trivial | intro hc | refine And.intro ?_ ?_) <;> refine Lf.mk ?_)
  all_goals first
   | (exfalso; exact Bool.noConfusion hc)
   | skip
  exact end_p (VS.mk (LeD.of_eq rfl))
 ·rw [if_neg he, if_neg he]
  (all_goals refine qgp ?_ <;> (repeat' first | exact trivial | intro hc | refine And.intro ?_ ?_) <;> refine Lf.mk ?_)
  all_goals first
   | (exfalso; exact Bool.noConfusion hc)
   | (exfalso; refine absurd hc ?_; decide)
   | skip
  refine call_p toerr_meets ([80, 97, 114, 115, 101, 85, 105, 110, 116], s, b, 32, e) ⟨hs, by omega⟩ (VS.mk (LeL.of_eq rfl)) ?_
  (all_goals refine qgp (Lf.mk ?_))
  exact end_p (VS.mk (LeD.of_eq rfl))
end Go.Proofs.YthmdddenbfbefaaGreatDoor
namespace Go.Proofs.YthmdddenbfbefaaGreatDoor
open Go Go.Plat
set_option linter.unusedVariables false
set_option linter.unusedSimpArgs false
set_option maxRecDepth 100000
set_option maxHeartbeats 2000000
attribute [local irreducible] AWP Arith BitS BytesS CallS CatS DrawS EndS IdxS LookS LoopEnd Meets ModeS NilS NormL NormM QuoS RemS ShlS ShrS SideS SplitS bitI digitB kindB letterB nameB okC
end Go.Proofs.YthmdddenbfbefaaGreatDoor
namespace Go.Proofs.YthmdddenbfbefaaGreatDoor
open Go Go.Plat
set_option linter.unusedVariables false
set_option linter.unusedSimpArgs false
set_option maxRecDepth 100000
set_option maxHeartbeats 2000000
attribute [local irreducible] AWP Arith BitS BytesS CallS CatS DrawS EndS IdxS LookS LoopEnd Meets ModeS NilS NormL NormM QuoS RemS ShlS ShrS SideS SplitS bitI digitB kindB letterB lexF lexL numC numR okC wordC
def blankC (c : UInt8) : Bool := decide (kindB c = 32)
theorem lex_skip : ∀ (l : List UInt8) (out : List LTok), lexL l out = lexL (l.drop (spanF blankC l)) out
 | [], out => rfl
 | c :: r, out => by
  rw [spanF]
  by_cases h : blankC c = true
  ·rw [if_pos h, List.drop_succ_cons, lexL_cons, if_pos (of_decide_eq_true h)]
   exact lex_skip r out
  ·rw [if_neg h, List.drop_zero]
theorem span_sub {p q : UInt8 → Bool} (h : ∀ c, p c = true → q c = true) : ∀ l : List UInt8, spanF p (l.takeWhile q) = spanF p l ∧ (l.takeWhile q).drop (spanF p l) = (l.drop (spanF p l)).takeWhile q ∧ (l.takeWhile q).take (spanF p l) = l.take (spanF p l)
 | [] => ⟨rfl, rfl, rfl⟩
 | c :: r => by
  obtain ⟨h1, h2, h3⟩ := span_sub h r
  rw [List.takeWhile_cons]
  by_cases hp : p c = true
  ·rw [h c hp, if_pos rfl]
   have e : ∀ x : List UInt8, spanF p (c :: x) = spanF p x + 1 := fun x => by rw [spanF, if_pos hp]
   rw [e, e, h1]
   refine ⟨rfl, ?_, ?_⟩
   ·rw [List.drop_succ_cons, List.drop_succ_cons, h2]
   ·rw [List.take_succ_cons, List.take_succ_cons, h3]
  ·have e : ∀ x : List UInt8, spanF p (c :: x) = 0 := fun x => by rw [spanF, if_neg hp]
   rw [e]
   refine ⟨?_, ?_, ?_⟩
   ·split
    ·exact e _
    ·rfl
   ·rw [List.drop_zero, List.drop_zero, List.takeWhile_cons]
   ·rw [List.take_zero, List.take_zero]
theorem word_59 (c : UInt8) (h : wordC c = true) : (c != 59) = true := by
 rw [bne_iff_ne]
 rintro rfl
 exact absurd h (by decide +kernel)
theorem num_59 (c : UInt8) (h : numC c = true) : (c != 59) = true := by
 rw [bne_iff_ne]
 rintro rfl
 exact absurd h (by decide +kernel)
theorem lex_cut : ∀ (n : Nat) (l : List UInt8) (out : List LTok), l.length ≤ n → lexL l out = lexL (l.takeWhile (· != 59)) out
 | _, [], out, _ => rfl
 | 0, _ :: _, out, h => by simp at h
 | n + 1, c :: r, out, h => by
  have h : r.length ≤ n := by simpa using h
  have ih := lex_cut n
  have hd : ∀ k, 1 ≤ k → ((c :: r).drop k).length ≤ n := fun k hk => by rw [List.length_drop, List.length_cons]; omega
  by_cases h59 : c = 59
  ·subst h59
   rw [List.takeWhile_cons, if_neg (by decide), lexL_cons, if_neg (by decide +kernel), if_neg (by decide +kernel), if_neg (by decide +kernel), if_pos rfl, lexL_nil]
  have e : (c :: r).takeWhile (· != 59) = c :: r.takeWhile (· != 59) := by rw [List.takeWhile_cons, if_pos (by rw [bne_iff_ne]; exact h59)]
  rw [lexL_cons]
  by_cases h1 : kindB c = 32
  ·rw [if_pos h1, e, lexL_cons, if_pos h1]
   exact ih _ _ h
  rw [if_neg h1]
  by_cases h2 : kindB c = 97
  ·obtain ⟨q1, q2, q3⟩ := span_sub word_59 (c :: r)
   rw [if_pos h2, ih _ _ (hd _ (word_first h2)), ← q2, ← q3, ← q1, e]
   rw [lexL_cons, if_neg h1, if_pos h2]
  rw [if_neg h2]
  by_cases h3 : kindB c = 48
  ·obtain ⟨q1, q2, q3⟩ := span_sub num_59 (c :: r)
   rw [if_pos h3, ih _ _ (hd _ (num_first h3)), ← q2, ← q3, ← q1, e]
   rw [lexL_cons c (r.takeWhile _), if_neg h1, if_neg h2, if_pos h3]
  rw [if_neg h3, if_neg h59]
  have hs : ∀ x : UInt8, x ≠ 59 → ((c :: r).take 2 = [x, x] ↔ (c :: r.takeWhile (· != 59)).take 2 = [x, x]) ∧ ((c :: r).take 2 = [x, x] → (r.drop 1).takeWhile (· != 59) = (r.takeWhile (· != 59)).drop 1) := fun x hx => by
   cases r with
   | nil => exact ⟨Iff.rfl, fun _ => rfl⟩
   | cons b r =>
    rw [List.takeWhile_cons]
    by_cases hb : b = 59
    ·subst hb
     refine ⟨⟨fun h => ?_, fun h => ?_⟩, fun h => ?_⟩
     ·exact absurd (List.cons.inj (List.cons.inj h).2).1.symm hx
     ·rw [if_neg (by decide)] at h; cases (List.cons.inj h).2
     ·exact absurd (List.cons.inj (List.cons.inj h).2).1.symm hx
    ·rw [if_pos (by rw [bne_iff_ne]; exact hb)]
     exact ⟨Iff.rfl, fun _ => rfl⟩
  obtain ⟨s1, s2⟩ := hs 60 (by decide)
  obtain ⟨s3, s4⟩ := hs 62 (by decide)
  have hr1 : (r.drop 1).length ≤ n := by rw [List.length_drop]; omega
  by_cases h4 : (c :: r).take 2 = [60, 60] ∨ (c :: r).take 2 = [62, 62]
  ·have e2 : (r.drop 1).takeWhile (· != 59) = (r.takeWhile (· != 59)).drop 1 := h4.elim s2 s4
   have h5 : (c :: r.takeWhile (· != 59)).take 2 = [60, 60] ∨ (c :: r.takeWhile (· != 59)).take 2 = [62, 62] := h4.imp s1.1 s3.1
   have e3 : (c :: r).take 2 = (c :: r.takeWhile (· != 59)).take 2 := by
    rcases h4 with h | h
    ·rw [h, s1.1 h]
    ·rw [h, s3.1 h]
   rw [if_pos h4, ih _ _ hr1, e2, e3, e, lexL_cons, if_neg h1, if_neg h2, if_neg h3, if_neg h59, if_pos h5]
  ·have h5 : ¬ ((c :: r.takeWhile (· != 59)).take 2 = [60, 60] ∨ (c :: r.takeWhile (· != 59)).take 2 = [62, 62]) := fun h => h4 (h.imp s1.2 s3.2)
   rw [if_neg h4, e, lexL_cons, if_neg h1, if_neg h2, if_neg h3, if_neg h59, if_neg h5]
   split
   ·exact ih _ _ h
   ·rfl
theorem cut_lex (l : List UInt8) (out : List LTok) : lexL l out = lexL (l.takeWhile (· != 59)) out := lex_cut _ l out (Nat.le_refl _)
attribute [local irreducible] blankC digV puF puR spanF
theorem kinds_all : ∀ k : Fin 256, numC (UInt8.ofNat k.val) = (digitB (UInt8.ofNat k.val) || (letterB (UInt8.ofNat k.val) && UInt8.ofNat k.val != 46)) ∧
  wordC (UInt8.ofNat k.val) = (letterB (UInt8.ofNat k.val) || digitB (UInt8.ofNat k.val) || UInt8.ofNat k.val == 47) ∧
  blankC (UInt8.ofNat k.val) = (UInt8.ofNat k.val == 32 || UInt8.ofNat k.val == 9 || UInt8.ofNat k.val == 13) ∧
  (letterB (UInt8.ofNat k.val) = true → kindB (UInt8.ofNat k.val) = 97) ∧
  (letterB (UInt8.ofNat k.val) = false → digitB (UInt8.ofNat k.val) = true → kindB (UInt8.ofNat k.val) = 48) ∧
  (letterB (UInt8.ofNat k.val) = false → digitB (UInt8.ofNat k.val) = false → blankC (UInt8.ofNat k.val) = false → kindB (UInt8.ofNat k.val) ≠ 97 ∧ kindB (UInt8.ofNat k.val) ≠ 48 ∧ kindB (UInt8.ofNat k.val) ≠ 32) := by decide +kernel
theorem kinds_of (c : UInt8) : numC c = (digitB c || (letterB c && c != 46)) ∧ wordC c = (letterB c || digitB c || c == 47) ∧ blankC c = (c == 32 || c == 9 || c == 13) ∧ (letterB c = true → kindB c = 97) ∧
  (letterB c = false → digitB c = true → kindB c = 48) ∧ (letterB c = false → digitB c = false → blankC c = false → kindB c ≠ 97 ∧ kindB c ≠ 48 ∧ kindB c ≠ 32) := by
 have := kinds_all ⟨c.toNat, c.toNat_lt⟩
 simp only [UInt8.ofNat_toNat] at this
 exact this
theorem byte_beq (c d : UInt8) : (((c.toNat : Nat) : Int) == ((d.toNat : Nat) : Int)) = (c == d) := by
 by_cases h : c = d
 ·rw [h]; simp
 ·rw [beq_eq_false_iff_ne.2 h, beq_eq_false_iff_ne]
  intro e
  exact h (UInt8.toNat_inj.1 (by exact_mod_cast e))
theorem byte_no {c d : UInt8} (h : ¬ ((c.toNat : Nat) : Int) = ((d.toNat : Nat) : Int)) : (c == d) = false := by
 rw [← byte_beq]; exact beq_eq_false_iff_ne.2 h
theorem byte_yes {c d : UInt8} (h : ((c.toNat : Nat) : Int) = ((d.toNat : Nat) : Int)) : c = d := UInt8.toNat_inj.1 (by exact_mod_cast h)
theorem blank_meets : Meets Tryz.prog n_scan_Tokens_1 (SpecP (fun _ : UInt8 => True) (fun c => [byteD c]) fun c => .bool (blankC c)) := by
 refine meets_f tabOk Tryz.func107 rfl (by decide) fun c _ => ?_
 refine ⟨Nat.le_refl _, by simp [Tryz.f107], fun E hE => ?_⟩
 have hk := (kinds_of c).2.2.1
 rw [hk]
 refine vcOk _ ?_
 (all_goals refine qgp ?_ <;> (repeat' first | exact trivial | intro hc | refine And.intro ?_ ?_) <;> refine Lf.mk ?_)
 ·obtain rfl : c = 32 := byte_yes hc
  exact end_p (VS.mk (LeD.tt rfl))
 ·obtain rfl : c = 9 := byte_yes hc
  exact end_p (VS.mk (LeD.tt rfl))
 ·have h1 : (c == 32) = false := byte_no (by assumption)
  have h2 : (c == 9) = false := byte_no hc
  exact end_p (VS.mk (LeD.of_eq (congrArg D.bool (by rw [h1, h2]; exact byte_beq c 13))))
theorem word_meets : Meets Tryz.prog n_scan_Tokens_2 (SpecP (fun _ : UInt8 => True) (fun c => [byteD c]) fun c => .bool (wordC c)) := by
 refine meets_f tabOk Tryz.func109 rfl (by decide) fun c _ => ?_
 refine ⟨Nat.le_refl _, by simp [Tryz.f109], fun E hE => ?_⟩
 have hk := (kinds_of c).2.1
 refine vcOk _ ?_
 (all_goals refine qgp (Lf.mk ?_))
 refine call_p letter_meets c trivial (VS.mk (LeL.of_eq rfl)) ?_
 generalize letterB c = x at *
 (all_goals refine qgp ?_ <;> (repeat' first | exact trivial | intro hc | refine And.intro ?_ ?_) <;> refine Lf.mk ?_)
 all_goals (try refine call_p digit_meets c trivial (VS.mk (LeL.of_eq rfl)) ?_)
 generalize digitB c = y at *
 (all_goals refine qgp ?_ <;> (repeat' first | exact trivial | intro hc | refine And.intro ?_ ?_) <;> refine Lf.mk ?_)
 ·exact end_p (VS.mk (LeD.tt (by rw [hk, hc]; rfl)))
 ·exact end_p (VS.mk (LeD.tt (by rw [hk, hc, Bool.or_true]; rfl)))
 ·have h1 : x = false := by assumption
  exact end_p (VS.mk (LeD.of_eq (congrArg D.bool (by rw [hk, hc, h1]; exact byte_beq c 47))))
theorem numc_meets : Meets Tryz.prog n_scan_reader_number_1 (SpecP (fun _ : UInt8 => True) (fun c => [byteD c]) fun c => .bool (numC c)) := by
 refine meets_f tabOk Tryz.func160 rfl (by decide) fun c _ => ?_
 refine ⟨Nat.le_refl _, by simp [Tryz.f160], fun E hE => ?_⟩
 have hk := (kinds_of c).1
 refine vcOk _ ?_
 (all_goals refine qgp (Lf.mk ?_))
 refine call_p digit_meets c trivial (VS.mk (LeL.of_eq rfl)) ?_
 generalize digitB c = x at *
 (all_goals refine qgp ?_ <;> (repeat' first | exact trivial | intro hc | refine And.intro ?_ ?_) <;> refine Lf.mk ?_)
 all_goals (try refine call_p letter_meets c trivial (VS.mk (LeL.of_eq rfl)) ?_)
 generalize letterB c = y at *
 (all_goals refine qgp ?_ <;> (repeat' first | exact trivial | intro hc | refine And.intro ?_ ?_) <;> refine Lf.mk ?_)
 ·exact end_p (VS.mk (LeD.tt (by rw [hk, hc]; rfl)))
 ·have h1 : x = false := by assumption
  refine end_p (VS.mk (LeD.of_eq (congrArg D.bool ?_)))
  rw [hk, hc, h1]
  show (!(((c.toNat : Nat) : Int) == 46)) = !(c == 46)
  exact congrArg (!·) (byte_beq c 46)
 ·have h1 : x = false := by assumption
  exact end_p (VS.mk (LeD.ff (by rw [hk, hc, h1]; rfl)))
theorem us_dig : digV 10 95 = -1 ∧ digV 16 95 = -1 := by unfold digV; decide
theorem pu_us {b : Int} (hb : b = 10 ∨ b = 16) : ∀ (s : List UInt8) (n : Int), (puF b s n).2 = 0 → s.contains 95 = false
 | [], n, h => rfl
 | c :: r, n, h => by
  have hu := us_dig
  rw [puF] at h
  split at h
  ·cases h
  rename_i hd
  split at h
  ·cases h
  have ih := pu_us hb r _ h
  rw [List.contains_cons, ih, Bool.or_false, beq_eq_false_iff_ne]
  rintro rfl
  rcases hb with rfl | rfl <;> omega
def numTok (w : List UInt8) : LTok × Int := if (numR w).2 = true then (⟨2, (numR w).1, []⟩, 0) else (⟨0, 0, []⟩, 2)
def tokRD (p : LTok × Int) : D := .tup [ltokD p.1, .int .i64 p.2]
theorem numR_pu (w : List UInt8) : (2 < w.length ∧ w.take 2 = [48, 120] → ((puR 16 (w.drop 2)).2 = 0 ∧ numR w = ((puR 16 (w.drop 2)).1, true) ∧ 0 ≤ (puR 16 (w.drop 2)).1 ∧ (puR 16 (w.drop 2)).1 ≤ 4294967295 ∧ w.contains 95 = false) ∨ ((puR 16 (w.drop 2)).2 ≠ 0 ∧ (numR w).2 = false)) ∧
  (¬ (2 < w.length ∧ w.take 2 = [48, 120]) → ((puR 10 w).2 = 0 ∧ numR w = ((puR 10 w).1, true) ∧ 0 ≤ (puR 10 w).1 ∧ (puR 10 w).1 ≤ 4294967295 ∧ w.contains 95 = false) ∨ ((puR 10 w).2 ≠ 0 ∧ (numR w).2 = false)) := by
 have us : ∀ {b : Int}, (b = 10 ∨ b = 16) → ∀ s, (puR b s).2 = 0 → s.contains 95 = false := fun {b} hb s h => by
  unfold puR at h
  split at h
  ·cases h
  ·exact pu_us hb s 0 h
 constructor
 ·intro h
  have e : numR w = numRb 16 (w.drop 2) := by unfold numR; rw [if_pos h]
  rw [e]
  rcases pu_numR (.inr rfl) (w.drop 2) with ⟨h1, h2, h3, h4⟩ | h1
  ·left
   refine ⟨h1, h2, h3, h4, ?_⟩
   have h5 := us (.inr rfl) _ h1
   rw [← List.take_append_drop 2 w, h.2, List.cons_append, List.cons_append, List.nil_append, List.contains_cons, List.contains_cons, h5]
   rfl
  ·exact .inr h1
 ·intro h
  have e : numR w = numRb 10 w := by unfold numR; rw [if_neg h]
  rw [e]
  rcases pu_numR (.inl rfl) w with ⟨h1, h2, h3, h4⟩ | h1
  ·exact .inl ⟨h1, h2, h3, h4, us (.inl rfl) _ h1⟩
  ·exact .inr h1
theorem snumber_meets : Meets Tryz.prog n_scan_reader_number (SpecF (fun ((s, i) : List UInt8 × Nat) => i ≤ s.length ∧ s.length ≤ 1000000000) (fun _ => [.loc 0 0]) (fun (s, i) => rdO s i)
  (fun (s, i) => tokRD (numTok ((s.take (i + spanF numC (s.drop i))).drop i))) fun (s, i) => rdO s (i + spanF numC (s.drop i))) := by
 refine meets_f tabOk Tryz.func111 rfl (by decide) ?_
 rintro ⟨s, i⟩ ⟨hi, hs⟩
 refine ⟨Nat.le_refl _, by simp [Tryz.f111], fun E hE => ?_⟩
 refine vcOk _ ?_
 (all_goals refine qgp (Lf.mk ?_))
 refine call_f (srun_meets numc_meets) [0] [0] (s, i) ⟨hi, hs⟩ rfl rfl ?_
 refine And.intro (VS.mk (LeL.of_eq rfl)) (And.intro (VS.mk rfl) ?_)
 dsimp only
 have hw : ((s.take (i + spanF numC (s.drop i))).drop i).length ≤ 1000000000 := by rw [List.length_drop, List.length_take]; omega
 generalize (s.take (i + spanF numC (s.drop i))).drop i = w at *
 have hN := numR_pu w
 (all_goals refine qgp (Lf.mk ?_))
 refine call_p parse_uint_meets (w, 10) ⟨hw, .inl rfl⟩ (VS.mk (LeL.of_eq rfl)) ?_
 dsimp only
 generalize puR 10 w = R10 at *
 obtain ⟨n10, e10⟩ := R10
 dsimp only at hN ⊢
 have hbad : (numR w).2 = false → numTok w = (⟨0, 0, []⟩, 2) := fun h => by unfold numTok; rw [h, if_neg (by decide)]
 have hgood : ∀ n, numR w = (n, true) → numTok w = (⟨2, n, []⟩, 0) := fun n h => by unfold numTok; rw [h]; rfl
 have hdd : List.drop (Int.toNat 2) (List.take ((w.length : Int)).toNat w) = w.drop 2 := by rw [Int.toNat_natCast, List.take_length]; rfl
 have hx : 2 < w.length → List.drop (Int.toNat 0) (List.take (Int.toNat 2) w) = [48, 120] → 2 < w.length ∧ w.take 2 = [48, 120] := fun h1 h2 => ⟨h1, h2⟩
 by_cases hxx : 2 < w.length ∧ w.take 2 = [48, 120]
 ·have hN := hN.1 hxx
  have hx1 := hxx.1
  have hx2 : List.drop (Int.toNat 0) (List.take (Int.toNat 2) w) = [48, 120] := hxx.2
  by_cases he : e10 = 0
  ·rw [if_pos he]
   (all_goals refine qgp ?_ <;> (repeat' first | exact trivial | intro hc | refine And.intro ?_ ?_) <;> refine Lf.mk ?_)
   all_goals first
    | (exfalso; exact absurd hx2 (by assumption))
    | skip
   refine call_p parse_uint_meets (w.drop 2, 16) ⟨by rw [List.length_drop]; omega, .inr rfl⟩ (VS.mk (LeL.of_eq (by rw [hdd]; try rfl))) ?_
   dsimp only
   generalize puR 16 (w.drop 2) = R16 at *
   obtain ⟨n16, e16⟩ := R16
   dsimp only at hN ⊢
   rcases hN with ⟨h1, h2, h3, h4, h5⟩ | ⟨h1, h2⟩
   ·rw [if_pos h1]
    (all_goals refine qgp ?_ <;> (repeat' first | exact trivial | intro hc | refine And.intro ?_ ?_) <;> refine Lf.mk ?_)
    all_goals first
     | (exfalso; refine absurd trivial ?_; assumption)
     | (exfalso; exact Bool.noConfusion hc)
     | (exfalso; refine absurd hc ?_; decide)
     | skip
    refine call_p contains_meets (w, 95) trivial (VS.mk (LeL.of_eq rfl)) ?_
    dsimp only
    rw [h5]
    (all_goals refine qgp ?_ <;> (repeat' first | exact trivial | intro hc | refine And.intro ?_ ?_) <;> refine Lf.mk ?_)
    all_goals first
     | (exfalso; refine absurd trivial ?_; assumption)
     | (exfalso; exact Bool.noConfusion hc)
     | (exfalso; refine absurd hc ?_; decide)
     | skip
    refine end_mk (And.intro (VS.mk ?_) (VS.mk rfl))
    show _ = tokRD (numTok w)
    rw [hgood _ h2]; rfl
   ·rw [if_neg h1]
    (all_goals refine qgp ?_ <;> (repeat' first | exact trivial | intro hc | refine And.intro ?_ ?_) <;> refine Lf.mk ?_)
    all_goals first
     | (exfalso; refine absurd trivial ?_; assumption)
     | (exfalso; exact Bool.noConfusion hc)
     | (exfalso; refine absurd hc ?_; decide)
     | skip
    refine end_mk (And.intro (VS.mk ?_) (VS.mk rfl))
    show _ = tokRD (numTok w)
    rw [hbad h2]; rfl
  ·rw [if_neg he]
   (all_goals refine qgp ?_ <;> (repeat' first | exact trivial | intro hc | refine And.intro ?_ ?_) <;> refine Lf.mk ?_)
   all_goals first
    | (exfalso; exact absurd hx2 (by assumption))
    | skip
   refine call_p parse_uint_meets (w.drop 2, 16) ⟨by rw [List.length_drop]; omega, .inr rfl⟩ (VS.mk (LeL.of_eq (by rw [hdd]; try rfl))) ?_
   dsimp only
   generalize puR 16 (w.drop 2) = R16 at *
   obtain ⟨n16, e16⟩ := R16
   dsimp only at hN ⊢
   rcases hN with ⟨h1, h2, h3, h4, h5⟩ | ⟨h1, h2⟩
   ·rw [if_pos h1]
    (all_goals refine qgp ?_ <;> (repeat' first | exact trivial | intro hc | refine And.intro ?_ ?_) <;> refine Lf.mk ?_)
    all_goals first
     | (exfalso; refine absurd trivial ?_; assumption)
     | (exfalso; exact Bool.noConfusion hc)
     | (exfalso; refine absurd hc ?_; decide)
     | skip
    refine call_p contains_meets (w, 95) trivial (VS.mk (LeL.of_eq rfl)) ?_
    dsimp only
    rw [h5]
    (all_goals refine qgp ?_ <;> (repeat' first | exact trivial | intro hc | refine And.intro ?_ ?_) <;> refine Lf.mk ?_)
    all_goals first
     | (exfalso; refine absurd trivial ?_; assumption)
     | (exfalso; exact Bool.noConfusion hc)
     | (exfalso; refine absurd hc ?_; decide)
     | skip
    refine end_mk (And.intro (VS.mk ?_) (VS.mk rfl))
    show _ = tokRD (numTok w)
    rw [hgood _ h2]; rfl
   ·rw [if_neg h1]
    (all_goals refine qgp ?_ <;> (repeat' first | exact trivial | intro hc | refine And.intro ?_ ?_) <;> refine Lf.mk ?_)
    all_goals first
     | (exfalso; refine absurd trivial ?_; assumption)
     | (exfalso; exact Bool.noConfusion hc)
     | (exfalso; refine absurd hc ?_; decide)
     | skip
    refine end_mk (And.intro (VS.mk ?_) (VS.mk rfl))
    show _ = tokRD (numTok w)
    rw [hbad h2]; rfl
 ·rcases hN.2 hxx with ⟨h1, h2, h3, h4, h5⟩ | ⟨h1, h2⟩
  ·rw [if_pos h1]
   (all_goals refine qgp ?_ <;> (repeat' first | exact trivial | intro hc | refine And.intro ?_ ?_) <;> refine Lf.mk ?_)
   all_goals first
    | (exfalso; exact hxx (hx (by omega) (by assumption)))
    | (exfalso; refine absurd trivial ?_; assumption)
    | (exfalso; exact Bool.noConfusion hc)
    | (exfalso; refine absurd hc ?_; decide)
    | skip
   all_goals
    refine call_p contains_meets (w, 95) trivial (VS.mk (LeL.of_eq rfl)) ?_
    dsimp only
    rw [h5]
   (all_goals refine qgp ?_ <;> (repeat' first | exact trivial | intro hc | refine And.intro ?_ ?_) <;> refine Lf.mk ?_)
   all_goals first
    | (exfalso; refine absurd trivial ?_; assumption)
    | (exfalso; exact Bool.noConfusion hc)
    | skip
   all_goals
    refine end_mk (And.intro (VS.mk ?_) (VS.mk rfl))
    show _ = tokRD (numTok w)
    rw [hgood _ h2]; rfl
  ·rw [if_neg h1]
   (all_goals refine qgp ?_ <;> (repeat' first | exact trivial | intro hc | refine And.intro ?_ ?_) <;> refine Lf.mk ?_)
   all_goals first
    | (exfalso; exact hxx (hx (by omega) (by assumption)))
    | (exfalso; refine absurd trivial ?_; assumption)
    | (exfalso; exact Bool.noConfusion hc)
    | (exfalso; refine absurd hc ?_; decide)
    | skip
   all_goals
    refine end_mk (And.intro (VS.mk ?_) (VS.mk rfl))
    show _ = tokRD (numTok w)
    rw [hbad h2]; rfl
end Go.Proofs.YthmdddenbfbefaaGreatDoor
namespace Go.Proofs.YthmdddenbfbefaaGreatDoor
open Go Go.Plat
set_option linter.unusedVariables false
set_option linter.unusedSimpArgs false
set_option maxRecDepth 100000
set_option maxHeartbeats 2000000
attribute [local irreducible] AWP Arith BitS BytesS CallS CatS DrawS EndS IdxS LookS LoopEnd Meets ModeS NilS NormL NormM QuoS RemS ShlS ShrS SideS SplitS bitI blankC digitB kindB letterB lexF lexL numC numR okC spanF wordC
def signT (s : List UInt8) (i : Nat) : (LTok × Int) × Nat :=
 if (s.drop i).take 2 = [60, 60] then ((⟨3, 0, [60, 60]⟩, 0), i + 2) else if (s.drop i).take 2 = [62, 62] then ((⟨3, 0, [62, 62]⟩, 0), i + 2)
 else if signsB.contains (s.getD i 0) = true then ((⟨3, 0, [s.getD i 0]⟩, 0), i + 1) else ((⟨0, 0, []⟩, 2), i)
def tokRD' (p : LTok × Int) : D := .tup [ltokD p.1, .int .i64 p.2]
theorem ssign_meets : Meets Tryz.prog n_scan_reader_sign (SpecF (fun ((s, i) : List UInt8 × Nat) => i < s.length ∧ s.length ≤ 1000000000) (fun _ => [.loc 0 0]) (fun (s, i) => rdO s i)
  (fun (s, i) => tokRD' (signT s i).1) fun (s, i) => rdO s (signT s i).2) := by
 refine meets_f tabOk Tryz.func112 rfl (by decide) ?_
 rintro ⟨s, i⟩ ⟨hi, hs⟩
 refine ⟨Nat.le_refl _, by simp [Tryz.f112], fun E hE => ?_⟩
 have hi : i < s.length := hi
 have hs : s.length ≤ 1000000000 := hs
 refine vcOk _ ?_
 (all_goals refine qgp (Lf.mk ?_))
 refine awp_loop (α := Nat) (fun k => k ≤ 2 ∧ (1 ≤ k → (s.drop i).take 2 ≠ [60, 60]) ∧ (2 ≤ k → (s.drop i).take 2 ≠ [62, 62]))
  (fun k => [(0, .loc 0 0), (2, .loc 1 0), (7, .sl 1 [.str [60, 60], .str [62, 62]] none), (8, .int .i64 2), (9, .int .i64 k)])
  (fun k => rdO s i ++ [.cells [.int .i64 0, .int .i64 0, .str []]]) (fun k => 2 - k) (fun _ => by simp [hE, rdO]) 0 ⟨by decide, fun h => absurd h (by decide), fun h => absurd h (by decide)⟩ ?_ ?_
 ·(repeat' (first | (refine VS.mk ?_) | exact trivial | exact rfl | refine And.intro ?_ ?_))
 rintro k ⟨hk, h1, h2⟩
 have hd : ∀ x : List UInt8, x.length = 2 → (decide ((s.drop i).take x.length = x) = true ↔ (s.drop i).take 2 = x) := fun x hx => by rw [hx, decide_eq_true_iff]
 have hk3 : k = 0 ∨ k = 1 ∨ k = 2 := by omega
 rcases hk3 with rfl | rfl | rfl
 all_goals refine vcOk _ ?_
 (all_goals refine qgp ?_ <;> (repeat' first | exact trivial | intro hc | refine And.intro ?_ ?_) <;> refine Lf.mk ?_)
 ·refine call_p prefix_meets (s.drop i, [60, 60]) ⟨by rw [List.length_drop]; omega, by decide⟩ (VS.mk (LeL.of_eq (by rw [Int.toNat_natCast, Int.toNat_natCast, List.take_length]))) ?_
  (all_goals refine qgp ?_ <;> (repeat' first | exact trivial | intro hc | refine And.intro ?_ ?_) <;> refine Lf.mk ?_)
  ·have h := (hd [60, 60] rfl).1 (by simpa using hc)
   have e : signT s i = ((⟨3, 0, [60, 60]⟩, 0), i + 2) := by unfold signT; rw [if_pos h]
   refine end_mk (And.intro (VS.mk ?_) (VS.mk ?_))
   ·show _ = tokRD' (signT s i).1
    rw [e]; rfl
   ·show _ = rdO s (signT s i).2
    rw [e]; rfl
  ·have h : (s.drop i).take 2 ≠ [60, 60] := fun h => absurd ((hd [60, 60] rfl).2 h) (by simpa using hc)
   refine loop_end 1 ⟨by decide, fun _ => h, fun h => absurd h (by decide)⟩ (by decide) ?_
   (repeat' (first | (refine VS.mk ?_) | exact trivial | exact rfl | refine And.intro ?_ ?_))
 ·refine call_p prefix_meets (s.drop i, [62, 62]) ⟨by rw [List.length_drop]; omega, by decide⟩ (VS.mk (LeL.of_eq (by rw [Int.toNat_natCast, Int.toNat_natCast, List.take_length]))) ?_
  (all_goals refine qgp ?_ <;> (repeat' first | exact trivial | intro hc | refine And.intro ?_ ?_) <;> refine Lf.mk ?_)
  ·have h := (hd [62, 62] rfl).1 (by simpa using hc)
   have e : signT s i = ((⟨3, 0, [62, 62]⟩, 0), i + 2) := by unfold signT; rw [if_neg (h1 (by decide)), if_pos h]
   refine end_mk (And.intro (VS.mk ?_) (VS.mk ?_))
   ·show _ = tokRD' (signT s i).1
    rw [e]; rfl
   ·show _ = rdO s (signT s i).2
    rw [e]; rfl
  ·have h : (s.drop i).take 2 ≠ [62, 62] := fun h => absurd ((hd [62, 62] rfl).2 h) (by simpa using hc)
   refine loop_end 2 ⟨by decide, fun _ => h1 (by decide), fun _ => h⟩ (by decide) ?_
   (repeat' (first | (refine VS.mk ?_) | exact trivial | exact rfl | refine And.intro ?_ ?_))
 ·have hone : List.drop ((i : Int)).toNat (List.take ((i : Int) + 1).toNat s) = [s.getD i 0] := by
   rw [Int.toNat_natCast, show ((i : Int) + 1).toNat = i + 1 by omega, List.drop_take, drop_cons (d := 0) hi, show i + 1 - i = 1 by omega]; rfl
  refine call_p contains_meets (signsB, s.getD i 0) trivial (VS.mk (LeL.of_eq (by rw [hone]; rfl))) ?_
  (all_goals refine qgp ?_ <;> (repeat' first | exact trivial | intro hc | refine And.intro ?_ ?_) <;> refine Lf.mk ?_)
  ·have e : signT s i = ((⟨0, 0, []⟩, 2), i) := by unfold signT; rw [if_neg (h1 (by decide)), if_neg (h2 (by decide)), if_neg (by rw [hc]; decide)]
   refine end_mk (And.intro (VS.mk ?_) (VS.mk ?_))
   ·show _ = tokRD' (signT s i).1
    rw [e]; rfl
   ·show _ = rdO s (signT s i).2
    rw [e]; rfl
  ·have e : signT s i = ((⟨3, 0, [s.getD i 0]⟩, 0), i + 1) := by unfold signT; rw [if_neg (h1 (by decide)), if_neg (h2 (by decide)), if_pos hc]
   refine end_mk (And.intro (VS.mk ?_) (VS.mk ?_))
   ·show _ = tokRD' (signT s i).1
    rw [e, hone]; rfl
   ·show _ = rdO s (signT s i).2
    rw [e]; rfl
attribute [local irreducible] digV numTok puF puR signT
theorem tw_mem {p : UInt8 → Bool} : ∀ {l : List UInt8} {x : UInt8}, x ∈ l.takeWhile p → p x = true
 | [], x, h => by simp at h
 | a :: l, x, h => by
  rw [List.takeWhile_cons] at h
  split at h
  ·rename_i ha
   rcases List.mem_cons.1 h with rfl | h
   ·exact ha
   ·exact tw_mem h
  ·simp at h
theorem scan_tokens_meets : Meets Tryz.prog n_scan_Tokens (SpecP (fun s : List UInt8 => s.length ≤ 1000000000) (fun s => [.str s]) fun s => lexRD (lexR s)) := by
 refine meets_f tabOk Tryz.func58 rfl (by decide) ?_
 intro s hs
 refine ⟨Nat.le_refl _, by simp [Tryz.f58], fun E hE => ?_⟩
 have hR := lexR_eq s
 refine vcOk _ ?_
 (all_goals refine qgp ?_ <;> (repeat' first | exact trivial | intro hc | refine And.intro ?_ ?_) <;> refine Lf.mk ?_)
 ·rw [if_pos (by omega)] at hR
  refine end_p (VS.mk ?_)
  rw [hR]
  exact .tup (.cons (.nil 3) (.cons (.refl _) .nil))
 rw [if_neg (by omega)] at hR
 refine call_p cut_meets (s, 59) hs (VS.mk (LeL.of_eq rfl)) ?_
 unfold cutD cutT
 dsimp only
 have hno : ∀ x ∈ s.takeWhile (· != 59), x ≠ 59 := fun x hx => by
  have := tw_mem hx
  simpa using this
 have hul : (s.takeWhile (· != 59)).length ≤ s.length := (List.takeWhile_prefix _).length_le
 rw [cut_lex] at hR
 generalize s.takeWhile (· != 59) = u at *
 (all_goals refine qgp (Lf.mk ?_))
 refine awp_weak (weak_nil 5 3 rfl) ?_
 refine awp_loop (α := Nat × List LTok) (fun p => p.1 ≤ u.length ∧ p.2.length ≤ p.1 ∧ lexL u [] = lexL (u.drop p.1) p.2)
  (fun p => [(4, .loc 0 0), (5, .sl 3 (p.2.map ltokD) (some 1))])
  (fun p => rdO u p.1 ++ [.spare p.2.length]) (fun p => u.length - p.1) (fun _ => by simp [hE]) (0, []) ⟨Nat.zero_le _, Nat.le_refl _, rfl⟩ ?_ ?_
 ·(repeat' (first | (refine VS.mk ?_) | exact trivial | exact rfl | refine And.intro ?_ ?_))
 rintro ⟨i, out⟩ ⟨hi, ho, hf⟩
 dsimp only at hi ho hf ⊢
 have hj1 : i + spanF blankC (u.drop i) ≤ u.length := by have := span_le blankC (u.drop i); rw [List.length_drop] at this; omega
 have hj2 : lexL u [] = lexL (u.drop (i + spanF blankC (u.drop i))) out := by rw [hf, lex_skip, List.drop_drop]
 have hj3 : i + spanF blankC (u.drop i) < u.length → blankC (u.getD (i + spanF blankC (u.drop i)) 0) = false := fun h => by
  have := span_end blankC (u.drop i) (by rw [List.length_drop]; omega)
  rwa [List.getD_eq_getElem?_getD, List.getElem?_drop, ← List.getD_eq_getElem?_getD] at this
 have hj4 : i ≤ i + spanF blankC (u.drop i) := Nat.le_add_right _ _
 refine vcOk _ ?_
 (all_goals refine qgp (Lf.mk ?_))
 refine call_f (srun_meets blank_meets) [0] [0] (u, i) ⟨hi, by omega⟩ rfl rfl ?_
 refine And.intro (VS.mk (LeL.of_eq rfl)) (And.intro (VS.mk rfl) ?_)
 dsimp only
 generalize i + spanF blankC (u.drop i) = j at *
 (all_goals refine qgp ?_ <;> (repeat' first | exact trivial | intro hc | refine And.intro ?_ ?_) <;> refine Lf.mk ?_)
 ·rw [List.drop_of_length_le (by omega), lexL_nil] at hj2
  rw [hj2] at hR
  refine end_p (VS.mk ?_)
  rw [hR]
  (first | exact LeL.refl _ | (repeat' (first | exact LeL.nil | exact LeD.refl _ | exact LeD.nil _ | exact LeD.strip _ _ _ | refine LeL.cons ?_ ?_ | refine LeD.tup ?_ | refine LeD.agg ?_)))
 have hjl : j < u.length := by omega
 obtain ⟨c, hcx⟩ : ∃ c, u.getD j 0 = c := ⟨_, rfl⟩
 obtain ⟨r, hr⟩ : ∃ r, u.drop (j + 1) = r := ⟨_, rfl⟩
 have hd : u.drop j = c :: r := by rw [drop_cons (d := 0) hjl, hcx, hr]
 have h59 : c ≠ 59 := hno c (by rw [← hcx, List.getD_eq_getElem?_getD, List.getElem?_eq_getElem hjl]; exact List.getElem_mem hjl)
 have hK := kinds_of c
 have hbl := hj3 hjl
 rw [hcx] at hbl
 rw [hd, lexL_cons] at hj2
 refine call_p letter_meets c trivial (VS.mk (LeL.of_eq (by rw [Int.toNat_natCast, hcx]; rfl))) ?_
 (all_goals refine qgp ?_ <;> (repeat' first | exact trivial | intro hc | refine And.intro ?_ ?_) <;> refine Lf.mk ?_)
 ·have hk97 := hK.2.2.2.1 hc
  have h1 := word_first (r := r) hk97
  have h2 := span_le wordC (c :: r)
  rw [if_neg (by rw [hk97]; decide), if_pos hk97, ← hd, List.drop_drop] at hj2
  rw [← hd] at h1 h2
  rw [List.length_drop] at h2
  refine call_f (srun_meets word_meets) [0] [0] (u, j) ⟨hj1, by omega⟩ rfl rfl ?_
  refine And.intro (VS.mk (LeL.of_eq rfl)) (And.intro (VS.mk rfl) ?_)
  dsimp only
  rw [List.drop_take, Nat.add_sub_cancel_left]
  generalize spanF wordC (u.drop j) = sp at *
  (all_goals refine qgp ?_ <;> (repeat' first | exact trivial | intro hc | refine And.intro ?_ ?_) <;> refine Lf.mk ?_)
  all_goals first
   | (exfalso; refine absurd hc ?_; decide)
   | skip
  refine loop_end (j + sp, out ++ [⟨1, 0, (u.drop j).take sp⟩]) ⟨by dsimp only; omega, by dsimp only; rw [List.length_append, List.length_cons, List.length_nil]; omega, hj2⟩ (by dsimp only; omega) ?_
  (repeat' (first | (refine VS.mk ?_) | exact trivial | exact rfl | refine And.intro ?_ ?_))
  all_goals (first | rfl | simp [ltokD, rdO])
 refine call_p digit_meets c trivial (VS.mk (LeL.of_eq (by rw [Int.toNat_natCast, hcx]; rfl))) ?_
 have hl : letterB c = false := hc
 (all_goals refine qgp ?_ <;> (repeat' first | exact trivial | intro hc | refine And.intro ?_ ?_) <;> refine Lf.mk ?_)
 ·have hk48 := hK.2.2.2.2.1 hl hc
  have h1 := num_first (r := r) hk48
  have h2 := span_le numC (c :: r)
  rw [if_neg (by rw [hk48]; decide), if_neg (by rw [hk48]; decide), if_pos hk48, ← hd, List.drop_drop] at hj2
  rw [← hd] at h1 h2
  rw [List.length_drop] at h2
  refine call_f snumber_meets [0] [0] (u, j) ⟨hj1, by omega⟩ rfl rfl ?_
  refine And.intro (VS.mk (LeL.of_eq rfl)) (And.intro (VS.mk rfl) ?_)
  dsimp only
  rw [List.drop_take, Nat.add_sub_cancel_left]
  generalize spanF numC (u.drop j) = sp at *
  generalize (u.drop j).take sp = w at *
  have hT : numTok w = if (numR w).2 = true then (⟨2, (numR w).1, []⟩, 0) else (⟨0, 0, []⟩, 2) := by unfold numTok; rfl
  by_cases hn : (numR w).2 = true
  ·rw [if_pos hn] at hj2 hT
   rw [hT]
   (all_goals refine qgp ?_ <;> (repeat' first | exact trivial | intro hc | refine And.intro ?_ ?_) <;> refine Lf.mk ?_)
   all_goals first
    | (exfalso; refine absurd hc ?_; decide)
    | skip
   refine loop_end (j + sp, out ++ [⟨2, (numR w).1, []⟩]) ⟨by dsimp only; omega, by dsimp only; rw [List.length_append, List.length_cons, List.length_nil]; omega, hj2⟩ (by dsimp only; omega) ?_
   (repeat' (first | (refine VS.mk ?_) | exact trivial | exact rfl | refine And.intro ?_ ?_))
   all_goals (first | rfl | simp [ltokD, rdO])
  ·rw [if_neg hn] at hj2 hT
   rw [hT]
   rw [hj2] at hR
   (all_goals refine qgp ?_ <;> (repeat' first | exact trivial | intro hc | refine And.intro ?_ ?_) <;> refine Lf.mk ?_)
   all_goals first
    | (exfalso; refine absurd hc ?_; decide)
    | skip
   refine end_p (VS.mk ?_)
   rw [hR]
   exact .tup (.cons (.nil 3) (.cons (.refl _) .nil))
 ·obtain ⟨k1, k2, k3⟩ := hK.2.2.2.2.2 hl hc hbl
  rw [if_neg k3, if_neg k1, if_neg k2, if_neg h59] at hj2
  refine call_f ssign_meets [0] [0] (u, j) ⟨hjl, by omega⟩ rfl rfl ?_
  refine And.intro (VS.mk (LeL.of_eq rfl)) (And.intro (VS.mk rfl) ?_)
  dsimp only
  have hS : signT u j = if (u.drop j).take 2 = [60, 60] then ((⟨3, 0, [60, 60]⟩, 0), j + 2) else if (u.drop j).take 2 = [62, 62] then ((⟨3, 0, [62, 62]⟩, 0), j + 2)
    else if signsB.contains (u.getD j 0) = true then ((⟨3, 0, [u.getD j 0]⟩, 0), j + 1) else ((⟨0, 0, []⟩, 2), j) := by unfold signT; rfl
  rw [hcx, hd] at hS
  have hr1 : r.drop 1 = u.drop (j + 2) := by rw [← hr, List.drop_drop]
  have two : ∀ x : UInt8, (c :: r).take 2 = [x, x] → j + 2 ≤ u.length := fun x h => by
   have := congrArg List.length h
   rw [← hd, List.length_take, List.length_drop] at this
   simp at this
   omega
  by_cases q1 : (c :: r).take 2 = [60, 60]
  ·have := two 60 q1
   rw [if_pos (.inl q1), hr1, q1] at hj2
   rw [if_pos q1] at hS
   rw [hS]
   (all_goals refine qgp ?_ <;> (repeat' first | exact trivial | intro hc | refine And.intro ?_ ?_) <;> refine Lf.mk ?_)
   all_goals first
    | (exfalso; refine absurd hc ?_; decide)
    | skip
   refine loop_end (j + 2, out ++ [⟨3, 0, [60, 60]⟩]) ⟨by dsimp only; omega, by dsimp only; rw [List.length_append, List.length_cons, List.length_nil]; omega, hj2⟩ (by dsimp only; omega) ?_
   (repeat' (first | (refine VS.mk ?_) | exact trivial | exact rfl | refine And.intro ?_ ?_))
   all_goals (first | rfl | simp [ltokD, rdO])
  by_cases q2 : (c :: r).take 2 = [62, 62]
  ·have := two 62 q2
   rw [if_pos (.inr q2), hr1, q2] at hj2
   rw [if_neg q1, if_pos q2] at hS
   rw [hS]
   (all_goals refine qgp ?_ <;> (repeat' first | exact trivial | intro hc | refine And.intro ?_ ?_) <;> refine Lf.mk ?_)
   all_goals first
    | (exfalso; refine absurd hc ?_; decide)
    | skip
   refine loop_end (j + 2, out ++ [⟨3, 0, [62, 62]⟩]) ⟨by dsimp only; omega, by dsimp only; rw [List.length_append, List.length_cons, List.length_nil]; omega, hj2⟩ (by dsimp only; omega) ?_
   (repeat' (first | (refine VS.mk ?_) | exact trivial | exact rfl | refine And.intro ?_ ?_))
   all_goals (first | rfl | simp [ltokD, rdO])
  rw [if_neg (fun h => h.elim q1 q2)] at hj2
  rw [if_neg q1, if_neg q2] at hS
  by_cases q3 : signsB.contains c = true
  ·rw [if_pos q3, ← hr] at hj2
   rw [if_pos q3] at hS
   rw [hS]
   (all_goals refine qgp ?_ <;> (repeat' first | exact trivial | intro hc | refine And.intro ?_ ?_) <;> refine Lf.mk ?_)
   all_goals first
    | (exfalso; refine absurd hc ?_; decide)
    | skip
   refine loop_end (j + 1, out ++ [⟨3, 0, [c]⟩]) ⟨by dsimp only; omega, by dsimp only; rw [List.length_append, List.length_cons, List.length_nil]; omega, hj2⟩ (by dsimp only; omega) ?_
   (repeat' (first | (refine VS.mk ?_) | exact trivial | exact rfl | refine And.intro ?_ ?_))
   all_goals (first | rfl | simp [ltokD, rdO])
  ·rw [if_neg q3] at hj2 hS
   rw [hS]
   rw [hj2] at hR
   (all_goals refine qgp ?_ <;> (repeat' first | exact trivial | intro hc | refine And.intro ?_ ?_) <;> refine Lf.mk ?_)
   all_goals first
    | (exfalso; refine absurd hc ?_; decide)
    | skip
   refine end_p (VS.mk ?_)
   rw [hR]
   exact .tup (.cons (.nil 3) (.cons (.refl _) .nil))
end Go.Proofs.YthmdddenbfbefaaGreatDoor
namespace Go.Proofs.YthmdddenbfbefaaGreatDoor
open Go Go.Plat
set_option linter.unusedVariables false
set_option linter.unusedSimpArgs false
set_option maxRecDepth 100000
set_option maxHeartbeats 2000000
attribute [local irreducible] AWP Arith BitS BytesS CallS CatS DrawS EndS IdxS LookS LoopEnd Meets ModeS NilS NormL NormM QuoS RemS ShlS ShrS SideS SplitS bitI digitB kindB letterB lexF lexL numC numR okC spanF wordC
def splitC (c : UInt8) : List UInt8 → List (List UInt8)
 | [] => [[]]
 | b :: l => if b = c then [] :: splitC c l else match splitC c l with
  | [] => [[b]]
  | x :: r => (b :: x) :: r
theorem split_len (c : UInt8) : ∀ s, (splitC c s).length = s.count c + 1
 | [] => rfl
 | b :: l => by
  have ih := split_len c l
  rw [splitC, List.count_cons]
  by_cases h : b = c
  ·rw [if_pos h, h]; simp; omega
  ·rw [if_neg h]
   have e : (b == c) = false := beq_eq_false_iff_ne.2 h
   rw [e]
   cases hl : splitC c l with
   | nil => rw [hl] at ih; simp at ih
   | cons x r => rw [hl] at ih; simpa using ih
theorem split_has (c : UInt8) : ∀ s : List UInt8, (s.contains c = false → splitC c s = [s]) ∧ (s.contains c = true → splitC c s = s.takeWhile (· != c) :: splitC c ((s.dropWhile (· != c)).drop 1))
 | [] => ⟨fun _ => rfl, fun h => by simp at h⟩
 | b :: l => by
  obtain ⟨h1, h2⟩ := split_has c l
  rw [splitC, List.contains_cons, List.takeWhile_cons, List.dropWhile_cons]
  by_cases h : b = c
  ·subst h
   refine ⟨fun h => by simp at h, fun _ => ?_⟩
   rw [if_pos rfl]
   simp
  ·have e : (b == c) = false := beq_eq_false_iff_ne.2 h
   have e1 : (c == b) = false := beq_eq_false_iff_ne.2 fun q => h q.symm
   have e2 : (b != c) = true := by simp [bne, e]
   rw [if_neg h, e1, Bool.false_or, e2, if_pos rfl, if_pos rfl]
   refine ⟨fun h => by rw [h1 h], fun h => by rw [h2 h]⟩
theorem count_drop (c : UInt8) (s : List UInt8) (h : s.contains c = true) : s.count c = ((s.dropWhile (· != c)).drop 1).count c + 1 := by
 have h1 := split_len c s
 rw [(split_has c s).2 h, List.length_cons, split_len] at h1
 omega
theorem count_pos {c : UInt8} {s : List UInt8} (h : 0 < s.count c) : s.contains c = true := by
 rw [List.contains_iff_mem]
 exact List.count_pos_iff.1 h
theorem count_none {c : UInt8} {s : List UInt8} (h : s.count c = 0) : s.contains c = false := by
 cases e : s.contains c with
 | false => rfl
 | true =>
  rw [List.contains_iff_mem] at e
  have := List.count_pos_iff.2 e
  omega
theorem norm_rep {n : Nat} {x : D} {K : List D → Nat → Prop} (h : K (List.replicate n x) n) : NormL (List.replicate n x) K := by unfold NormL; rw [List.length_replicate]; exact h
def splA (pre : List (List UInt8)) (m : Nat) : List D := (pre ++ List.replicate m []).map D.str
theorem splA_set (pre : List (List UInt8)) (m : Nat) (x : List UInt8) : (splA pre (m + 1)).set pre.length (.str x) = splA (pre ++ [x]) m := by
 unfold splA
 rw [← List.map_set, List.set_append_right _ _ (Nat.le_refl _), Nat.sub_self, List.replicate_succ, List.set_cons_zero, List.append_assoc]
 rfl
theorem splA_len (pre : List (List UInt8)) (m : Nat) : (splA pre m).length = pre.length + m := by unfold splA; simp
theorem rens_strs {m : Nat → Option Nat} {ds : List D} {K : List D → Prop} (l : List (List UInt8)) (h : ds = l.map D.str) (hK : K (l.map D.str)) : RenS m ds K := by
 subst h
 have hp : ∀ (c : List UInt8), RenOf m (D.str c) (D.str c) := fun c => renOf_pure trivial
 refine ⟨l.map D.str, ⟨rfl, fun i d d' h1 h2 => ?_⟩, fun i d d' h1 h2 => ?_, hK⟩
 all_goals
  rw [h1] at h2
  cases h2
  simp only [List.getElem?_map, Option.map_eq_some_iff] at h1
  obtain ⟨c, _, rfl⟩ := h1
 ·exact hp c
 ·refine ⟨rfl, rfl, fun j x x' h3 h4 => ?_⟩
  rw [h3] at h4
  cases h4
  cases j with
  | zero => simp [D.cells] at h3; subst h3; exact hp c
  | succ j => simp [D.cells] at h3
theorem strip_strs (l : List (List UInt8)) : StripEls (l.map D.str) (l.map D.str) := by
 refine ⟨rfl, fun i d d' h1 h2 => ?_⟩
 rw [h1] at h2
 cases h2
 simp only [List.getElem?_map, Option.map_eq_some_iff] at h1
 obtain ⟨c, _, rfl⟩ := h1
 refine ⟨rfl, rfl, fun j x x' h3 h4 => ?_⟩
 rw [h3] at h4
 cases h4
 cases j with
 | zero =>
  simp [D.cells] at h3
  subst h3
  intro w F ρ L v h
  cases h with | pure _ _ h => exact h
 | succ j => simp [D.cells] at h3
theorem norm_to {ds ds' : List D} {n : Nat} {K : List D → Nat → Prop} (h : ds = ds') (hn : ds'.length = n) (hK : K ds' n) : NormL ds K := by unfold NormL; subst h; rw [hn]; exact hK
theorem ix_splA {pre : List (List UInt8)} {m : Nat} {n : Int} {K : D → Prop} (hn : n = pre.length) (h : K (.str [])) : IdxS (splA pre (m + 1)) n K :=
 ix_map (enc := D.str) [] (by omega) (by rw [hn, Int.toNat_natCast, List.getElem?_append_right (Nat.le_refl _), Nat.sub_self]; rfl) h
attribute [local irreducible] splA
theorem gsplit_meets : Meets Tryz.prog n_strings_genSplit (SpecP (fun ((s, c) : List UInt8 × UInt8) => s.length ≤ 1000000) (fun (s, c) => [.str s, .str [c], .int .i64 0, .int .i64 (-1)]) fun (s, c) => .sl 1 ((splitC c s).map .str) none) := by
 refine meets_f tabOk Tryz.func104 rfl (by decide) ?_
 rintro ⟨s, c⟩ hs
 have hs : s.length ≤ 1000000 := hs
 have hcl := List.count_le_length (a := c) (l := s)
 refine ⟨Nat.le_refl _, by simp [Tryz.f104], fun E hE => ?_⟩
 refine vcOk _ ?_
 (all_goals refine qgp ?_ <;> (repeat' first | exact trivial | intro hc | refine And.intro ?_ ?_) <;> refine Lf.mk ?_)
 all_goals first
  | (exfalso; exact List.cons_ne_nil _ _ hc)
  | skip
 refine call_p count_meets (s, c) trivial (VS.mk (LeL.of_eq rfl)) ?_
 have hmin : min ((s.count c : Int) + 1) ((s.length : Int) + 1) = ((s.count c + 1 : Nat) : Int) := by omega
 (all_goals refine qgs (Lf.mk ?_))
 refine md_r ?_
 refine VS.mk (sd_mk ?_ (VS.mk ?_))
 ·dsimp only
  refine ⟨by omega, rfl, ?_, by omega⟩
  show min ((s.count c : Int) + 1) ((s.length : Int) + 1) * ((16 : Nat) : Int) ≤ _
  omega
 dsimp only
 rw [hmin, Int.toNat_natCast]
 refine norm_rep ?_
 (all_goals refine qgo (Lf.mk ?_))
 refine awp_loop (α := List (List UInt8) × List UInt8) (fun p => splitC c s = p.1 ++ splitC c p.2 ∧ p.2.length ≤ s.length ∧ p.1.length + p.2.count c = s.count c)
  (fun p => [(0, .str p.2), (1, .str [c]), (2, .int .i64 0), (3, .int .i64 (s.count c)), (9, .osl 1 0 (s.count c + 1) 0 (s.count c + 1)), (10, .int .i64 p.1.length)])
  (fun p => [.arr 1 (splA p.1 (s.count c + 1 - p.1.length))]) (fun p => p.2.count c) (fun _ => by simp [hE]) ([], s) ⟨rfl, Nat.le_refl _, by simp⟩ ?_ ?_
 ·(repeat' (first | (refine VS.mk ?_) | exact trivial | exact rfl | refine And.intro ?_ ?_))
  ·refine rens_strs (List.replicate (s.count c + 1) []) (by rw [List.map_replicate]; rfl) ?_
   (repeat' (first | (refine VS.mk ?_) | exact trivial | exact rfl | refine And.intro ?_ ?_))
   unfold splA
   rfl
  ·exact congrArg (D.int .i64) (by omega)
 rintro ⟨pre, rest⟩ ⟨hsp, hrl, hct⟩
 dsimp only at hsp hrl hct ⊢
 have hsl := splA_len pre (s.count c - pre.length + 1)
 have hm1 : s.count c + 1 - pre.length = s.count c - pre.length + 1 := by omega
 have hset := fun x => splA_set pre (s.count c - pre.length) x
 have hsl2 := fun x => splA_len (pre ++ [x]) (s.count c - pre.length)
 rw [hm1]
 refine vcOk _ ?_
 (all_goals refine qgo ?_ <;> (repeat' first | exact trivial | intro hc | refine And.intro ?_ ?_) <;> refine Lf.mk ?_)
 ·have hct2 : rest.contains c = true := count_pos (by omega)
  have hcd := count_drop c rest hct2
  have hi := index_has c rest
  have hb : -1 ≤ Lib.indexByte rest c ∧ Lib.indexByte rest c ≤ rest.length ∧ (0 ≤ Lib.indexByte rest c → Lib.indexByte rest c < rest.length) := by omega
  have hl1 : ([c] : List UInt8).length = 1 := rfl
  have hpos : 0 ≤ Lib.indexByte rest c := by
   rcases hi with ⟨_, h2, _⟩ | ⟨h1, _⟩
   ·rw [hct2] at h2; cases h2
   ·exact h1
  refine call_p sindex_meets (rest, c) trivial (VS.mk (LeL.of_eq rfl)) ?_
  (all_goals refine qgp ?_ <;> (repeat' first | exact trivial | intro hc | refine And.intro ?_ ?_) <;> refine Lf.mk ?_)
  refine ix_splA (by omega) ?_
  refine VS.mk ?_
  rcases hi with ⟨h1, _⟩ | ⟨_, _, h3, h4, h5⟩
  ·omega
  have hsp2 := (split_has c rest).2 hct2
  rw [← h4] at hsp2 hcd
  generalize Lib.indexByte rest c = ix at *
  generalize hT : rest.takeWhile (· != c) = tw at *
  have htw : rest.take tw.length = tw := by rw [← hT]; exact take_len _ rest
  subst h3
  have hdl : (rest.drop (tw.length + 1)).length ≤ rest.length := by rw [List.length_drop]; omega
  refine norm_to (ds' := splA (pre ++ [tw]) (s.count c - pre.length)) (n := s.count c + 1) ?_ ?_ ?_
  ·rw [← hset tw, Nat.zero_add, Int.toNat_natCast, show ((tw.length : Int) + 0).toNat = tw.length by omega, htw]
   rfl
  ·rw [hsl2 tw, List.length_append, List.length_cons, List.length_nil]; omega
  (all_goals refine qgp (Lf.mk ?_))
  have g1 : splitC c s = (pre ++ [tw]) ++ splitC c (rest.drop (tw.length + 1)) := by rw [hsp, hsp2, List.append_assoc]; rfl
  have g2 : (pre ++ [tw]).length + (rest.drop (tw.length + 1)).count c = s.count c := by rw [List.length_append, List.length_cons, List.length_nil]; omega
  refine loop_end (pre ++ [tw], rest.drop (tw.length + 1)) ⟨g1, by dsimp only; omega, g2⟩ (by dsimp only; omega) ?_
  (repeat' (first | (refine VS.mk ?_) | exact trivial | exact rfl | refine And.intro ?_ ?_))
  ·refine rens_strs ((pre ++ [tw]) ++ List.replicate (s.count c - pre.length) []) (by unfold splA; rfl) ?_
   (repeat' (first | (refine VS.mk ?_) | exact trivial | exact rfl | refine And.intro ?_ ?_))
   show _ = [Ob.arr 1 (splA (pre ++ [tw]) (s.count c + 1 - (pre ++ [tw]).length))]
   rw [show s.count c + 1 - (pre ++ [tw]).length = s.count c - pre.length by rw [List.length_append, List.length_cons, List.length_nil]; omega]
   unfold splA
   rfl
  ·refine congrArg D.str ?_
   dsimp only
   rw [hl1, Int.toNat_natCast, List.take_length, show ((tw.length : Int) + ((1 : Nat) : Int)).toNat = tw.length + 1 by omega]
  ·refine congrArg (D.int .i64) ?_
   dsimp only
   rw [List.length_append, List.length_cons, List.length_nil]; omega
 ·refine ix_splA (by omega) ?_
  refine VS.mk ?_
  have hno := (split_has c rest).1 (count_none (by omega))
  refine norm_to (ds' := splA (pre ++ [rest]) (s.count c - pre.length)) (n := s.count c + 1) ?_ ?_ ?_
  ·rw [← hset rest, Nat.zero_add, Int.toNat_natCast]
  ·rw [hsl2 rest, List.length_append, List.length_cons, List.length_nil]; omega
  (all_goals refine qgp (Lf.mk ?_))
  have hfin : splA (pre ++ [rest]) (s.count c - pre.length) = (splitC c s).map D.str := by
   rw [hsp, hno, show s.count c - pre.length = 0 by omega]
   unfold splA
   rw [List.replicate_zero, List.append_nil]
  rw [hfin]
  have hfl : ((splitC c s).map D.str).length = s.count c + 1 := by rw [List.length_map, split_len]
  rw [show ((pre.length : Int) + 1).toNat - Int.toNat 0 = s.count c + 1 by simp only [Int.toNat_zero]; omega]
  show EndS 0 (.osl 1 0 (s.count c + 1) 0 (s.count c + 1)) _ _ []
  refine end_freeze (k := 0) (e := 1) (els := (splitC c s).map D.str) (els' := (splitC c s).map D.str) rfl (Nat.le_refl _) (strip_strs _) (.here _ _ hfl.symm hfl.symm) ?_ (Nat.le_refl _)
  exact end_p (VS.mk (LeD.of_eq rfl))
theorem split_meets : Meets Tryz.prog n_strings_Split (SpecP (fun ((s, c) : List UInt8 × UInt8) => s.length ≤ 1000000) (fun (s, c) => [.str s, .str [c]]) fun (s, c) => .sl 1 ((splitC c s).map .str) none) := by
 refine meets_f tabOk Tryz.func57 rfl (by decide) ?_
 rintro ⟨s, c⟩ hs
 refine ⟨Nat.le_refl _, by simp [Tryz.f57], fun E hE => ?_⟩
 refine vcOk _ ?_
 (all_goals refine qgp (Lf.mk ?_))
 refine call_p gsplit_meets (s, c) hs (VS.mk (LeL.of_eq rfl)) ?_
 (all_goals refine qgp (Lf.mk ?_))
 exact end_p (VS.mk (LeD.of_eq rfl))
end Go.Proofs.YthmdddenbfbefaaGreatDoor
namespace Go.Proofs.YthmdddenbfbefaaGreatDoor
open Go Go.Plat
set_option linter.unusedVariables false
set_option linter.unusedSimpArgs false
set_option maxRecDepth 100000
set_option maxHeartbeats 2000000
attribute [local irreducible] AWP Arith BitS BytesS CallS CatS DrawS EndS IdxS LookS LoopEnd Meets ModeS NilS NormL NormM QuoS RemS ShlS ShrS SideS SplitS bitI digV digitB kindB letterB okC
end Go.Proofs.YthmdddenbfbefaaGreatDoor
namespace Go.Proofs.YthmdddenbfbefaaGreatDoor
open Go Go.Plat
set_option linter.unusedVariables false
set_option linter.unusedSimpArgs false
set_option maxRecDepth 100000
set_option maxHeartbeats 2000000
attribute [local irreducible] AWP Arith BitS BytesS CallS CatS DrawS EndS IdxS LookS LoopEnd Meets ModeS NilS NormL NormM QuoS RemS ShlS ShrS SideS SplitS bitI digitB kindB letterB okC
attribute [local irreducible] lexF lexL numC numR spanF wordC
attribute [local irreducible] blankC digV lexR numTok puF puR signT
structure LLine where
 pos : Int
 toks : List LTok
def llineD (l : LLine) : D := .agg [.int .i64 l.pos, .sl 3 (l.toks.map ltokD) none]
def linesF : List (List UInt8) → Int → List LLine → List LLine × Int × Int
 | [], _, out => (out, 0, 0)
 | p :: r, k, out => if (lexR p).2 ≠ 0 then ([], (lexR p).2, k) else if (lexR p).1.length = 0 then linesF r (k + 1) out else linesF r (k + 1) (out ++ [⟨k, (lexR p).1⟩])
def linesR (b : List UInt8) : List LLine × Int × Int := if 1200 < b.length then ([], 4, 0) else linesF (splitC 10 b) 1 []
def linesD (p : List LLine × Int × Int) : D := .tup [.sl 2 (p.1.map llineD) none, .agg [.int .i64 p.2.1, .int .i64 p.2.2]]
theorem linesF_cons (p : List UInt8) (r : List (List UInt8)) (k : Int) (out : List LLine) : linesF (p :: r) k out =
  if (lexR p).2 ≠ 0 then ([], (lexR p).2, k) else if (lexR p).1.length = 0 then linesF r (k + 1) out else linesF r (k + 1) (out ++ [⟨k, (lexR p).1⟩]) := rfl
theorem part_len (c : UInt8) : ∀ (s : List UInt8) (p : List UInt8), p ∈ splitC c s → p.length ≤ s.length
 | [], p, h => by rw [splitC, List.mem_singleton] at h; rw [h]; exact Nat.le_refl _
 | b :: l, p, h => by
  have ih := part_len c l
  rw [splitC] at h
  split at h
  ·rcases List.mem_cons.1 h with rfl | h
   ·simp
   ·have := ih p h; simp; omega
  ·cases hl : splitC c l with
   | nil => rw [hl, List.mem_singleton] at h; rw [h]; simp
   | cons x r =>
    rw [hl] at h
    rcases List.mem_cons.1 h with rfl | h
    ·have := ih x (by rw [hl]; exact List.mem_cons_self); simp; omega
    ·have := ih p (by rw [hl]; exact List.mem_cons_of_mem _ h); simp; omega
theorem scan_lines_meets : Meets Tryz.prog n_scan_Lines (SpecP (fun b : List UInt8 => b.length ≤ 1000000000) (fun b => [.sl 1 (b.map byteD) none]) fun b => linesD (linesR b)) := by
 refine meets_f tabOk Tryz.func31 rfl (by decide) ?_
 intro b hb
 refine ⟨Nat.le_refl _, by simp [Tryz.f31], fun E hE => ?_⟩
 have hR : linesR b = if 1200 < b.length then ([], 4, 0) else linesF (splitC 10 b) 1 [] := rfl
 have hpl := part_len 10 b
 have hsl := split_len 10 b
 have hct := List.count_le_length (a := 10) (l := b)
 refine vcOk _ ?_
 (all_goals refine qgp ?_ <;> (repeat' first | exact trivial | intro hc | refine And.intro ?_ ?_) <;> refine Lf.mk ?_)
 ·rw [if_pos (by omega)] at hR
  refine end_p (VS.mk ?_)
  rw [hR]
  exact .tup (.cons (.nil 2) (.cons (.refl _) .nil))
 rw [if_neg (by omega)] at hR
 refine call_p split_meets (b, 10) (by show b.length ≤ 1000000; omega) (VS.mk (LeL.of_eq rfl)) ?_
 dsimp only
 generalize splitC 10 b = ps at *
 (all_goals refine qgp (Lf.mk ?_))
 refine awp_weak (weak_nil 4 2 rfl) ?_
 refine awp_loop (α := Nat × List LLine) (fun p => p.1 ≤ ps.length ∧ p.2.length ≤ p.1 ∧ linesR b = linesF (ps.drop p.1) (p.1 + 1) p.2)
  (fun p => [(3, .loc 0 0), (4, .sl 2 (p.2.map llineD) (some 1)), (15, .sl 1 (ps.map .str) none), (16, .int .i64 ps.length), (17, .int .i64 p.1)])
  (fun p => [.cells [.int .i64 0, .int .i64 0], .spare p.2.length]) (fun p => ps.length - p.1) (fun _ => by simp [hE]) (0, []) ⟨Nat.zero_le _, Nat.le_refl _, by rw [hR]; rfl⟩ ?_ ?_
 ·(repeat' (first | (refine VS.mk ?_) | exact trivial | exact rfl | refine And.intro ?_ ?_))
 rintro ⟨i, out⟩ ⟨hi, ho, hf⟩
 dsimp only at hi ho hf ⊢
 refine vcOk _ ?_
 (all_goals refine qgp ?_ <;> (repeat' first | exact trivial | intro hc | refine And.intro ?_ ?_) <;> refine Lf.mk ?_)
 ·have hil : i < ps.length := by omega
  obtain ⟨p, hp⟩ : ∃ p, ps[i] = p := ⟨_, rfl⟩
  have hpx : ps[i]? = some p := by rw [List.getElem?_eq_getElem hil, hp]
  have hpm := hpl p (by rw [← hp]; exact List.getElem_mem hil)
  rw [List.drop_eq_getElem_cons hil, hp, linesF_cons] at hf
  refine ix_map p (by omega) (by simpa using hpx) ?_
  (all_goals refine qgp (Lf.mk ?_))
  refine call_p scan_tokens_meets p (by omega) (VS.mk (LeL.of_eq rfl)) ?_
  generalize lexR p = T at *
  obtain ⟨ts, te⟩ := T
  dsimp only at hf
  (all_goals refine qgp ?_ <;> (repeat' first | exact trivial | intro hc | refine And.intro ?_ ?_) <;> refine Lf.mk ?_)
  ·rw [if_pos hc] at hf
   refine end_p (VS.mk ?_)
   rw [hf]
   exact .tup (.cons (.nil 2) (.cons (.refl _) .nil))
  ·have ht : te = 0 := by assumption
   rw [if_neg (by rw [ht]; simp), if_neg (by omega)] at hf
   have hf1 : linesR b = linesF (ps.drop (i + 1)) (((i + 1 : Nat) : Int) + 1) (out ++ [⟨(i : Int) + 1, ts⟩]) := hf
   refine loop_end (i + 1, out ++ [⟨(i : Int) + 1, ts⟩]) ⟨by dsimp only; omega, by dsimp only; rw [List.length_append, List.length_cons, List.length_nil]; omega, hf1⟩ (by dsimp only; omega) ?_
   (repeat' (first | (refine VS.mk ?_) | exact trivial | exact rfl | refine And.intro ?_ ?_))
   all_goals (first | rfl | simp [llineD])
  ·have ht : te = 0 := by assumption
   rw [if_neg (by rw [ht]; simp), if_pos (by omega)] at hf
   have hf1 : linesR b = linesF (ps.drop (i + 1)) (((i + 1 : Nat) : Int) + 1) out := hf
   refine loop_end (i + 1, out) ⟨by dsimp only; omega, by dsimp only; omega, hf1⟩ (by dsimp only; omega) ?_
   (repeat' (first | (refine VS.mk ?_) | exact trivial | exact rfl | refine And.intro ?_ ?_))
 ·rw [List.drop_of_length_le (by omega)] at hf
  refine end_p (VS.mk ?_)
  rw [hf]
  (first | exact LeL.refl _ | (repeat' (first | exact LeL.nil | exact LeD.refl _ | exact LeD.nil _ | exact LeD.strip _ _ _ | refine LeL.cons ?_ ?_ | refine LeD.tup ?_ | refine LeD.agg ?_)))
end Go.Proofs.YthmdddenbfbefaaGreatDoor
namespace Go.Proofs.YthmdddenbfbefaaGreatDoor
open Go Go.Plat
set_option linter.unusedVariables false
set_option linter.unusedSimpArgs false
set_option maxRecDepth 100000
set_option maxHeartbeats 2000000
attribute [local irreducible] AWP Arith BitS BytesS CallS CatS DrawS EndS IdxS LookS LoopEnd Meets ModeS NilS NormL NormM QuoS RemS ShlS ShrS SideS SplitS bitI
inductive OExpr where
 | mk (kind n : Int) (name : List UInt8) (kids : List OExpr)
def OExpr.kind : OExpr → Int | .mk k _ _ _ => k
def OExpr.n : OExpr → Int | .mk _ n _ _ => n
def OExpr.name : OExpr → List UInt8 | .mk _ _ s _ => s
def OExpr.kids : OExpr → List OExpr | .mk _ _ _ ks => ks
mutual
def exprD : OExpr → D
 | .mk k n s ks => .agg [.int .i64 k, .int .i64 n, .str s, .sl 4 (exprDs ks) none]
def exprDs : List OExpr → List D
 | [] => []
 | e :: es => exprD e :: exprDs es
end
mutual
def nodes : OExpr → Nat
 | .mk _ _ s ks => 1 + s.length + nodesL ks
def nodesL : List OExpr → Nat
 | [] => 0
 | e :: es => nodes e + nodesL es
end
theorem exprDs_map : ∀ l : List OExpr, exprDs l = l.map exprD
 | [] => by rw [exprDs]; rfl
 | e :: es => by rw [exprDs, exprDs_map es]; rfl
def exprU (e : OExpr) : D := .agg [.int .i64 e.kind, .int .i64 e.n, .str e.name, .sl 4 (e.kids.map exprD) none]
theorem mk_kind (k n : Int) (s : List UInt8) (ks : List OExpr) : (OExpr.mk k n s ks).kind = k := rfl
theorem mk_n (k n : Int) (s : List UInt8) (ks : List OExpr) : (OExpr.mk k n s ks).n = n := rfl
theorem mk_name (k n : Int) (s : List UInt8) (ks : List OExpr) : (OExpr.mk k n s ks).name = s := rfl
theorem mk_kids (k n : Int) (s : List UInt8) (ks : List OExpr) : (OExpr.mk k n s ks).kids = ks := rfl
theorem exprU_mk (k n : Int) (s : List UInt8) (ks : List OExpr) : exprU (.mk k n s ks) = .agg [.int .i64 k, .int .i64 n, .str s, .sl 4 (ks.map exprD) none] := rfl
theorem exprD_eq (e : OExpr) : exprD e = exprU e := by
 cases e with
 | mk k n s ks => rw [exprD, exprDs_map]; rfl
theorem map1 (a : OExpr) : [a].map exprD = [exprU a] := by rw [List.map_cons, exprD_eq]; rfl
theorem map2 (a b : OExpr) : [a, b].map exprD = [exprU a, exprU b] := by rw [List.map_cons, List.map_cons, exprD_eq, exprD_eq]; rfl
theorem nodes_pos (e : OExpr) : 0 < nodes e := by cases e; rw [nodes]; omega
theorem nodesL_mem : ∀ {l : List OExpr} {x : OExpr}, x ∈ l → nodes x ≤ nodesL l
 | [], _, h => by simp at h
 | e :: es, x, h => by
  rw [nodesL]
  rcases List.mem_cons.1 h with rfl | h
  ·omega
  ·have := nodesL_mem h; omega
theorem nodesL_len : ∀ l : List OExpr, l.length ≤ nodesL l
 | [] => by rw [nodesL]; simp
 | e :: es => by
  have := nodesL_len es
  have := nodes_pos e
  rw [nodesL, List.length_cons]; omega
theorem nodes_kid {e x : OExpr} (h : x ∈ e.kids) : nodes x < nodes e := by
 cases e with
 | mk k n s ks => have := nodesL_mem (show x ∈ ks from h); rw [nodes]; omega
theorem kids_len (e : OExpr) : e.kids.length < nodes e := by
 cases e with
 | mk k n s ks => have := nodesL_len ks; rw [nodes]; show ks.length < _; omega
theorem name_len (e : OExpr) : e.name.length < nodes e := by
 cases e with
 | mk k n s ks => rw [nodes]; show s.length < _; omega
theorem ix_expr {l : List OExpr} {n : Int} {K : D → Prop} (x : OExpr) (h0 : 0 ≤ n) (h : l[n.toNat]? = some x) (hK : K (exprU x)) : IdxS (l.map exprD) n K := by
 unfold IdxS
 exact ⟨h0, exprU x, by rw [List.getElem?_map, h, ← exprD_eq]; rfl, hK⟩
attribute [local irreducible] exprD nodes OExpr.kind OExpr.n OExpr.name OExpr.kids
end Go.Proofs.YthmdddenbfbefaaGreatDoor
namespace Go.Proofs.YthmdddenbfbefaaGreatDoor
open Go Go.Plat
set_option linter.unusedVariables false
set_option linter.unusedSimpArgs false
set_option maxRecDepth 100000
set_option maxHeartbeats 2000000
attribute [local irreducible] AWP Arith BitS BytesS CallS CatS DrawS EndS IdxS LookS LoopEnd Meets ModeS NilS NormL NormM QuoS RemS ShlS ShrS SideS SplitS bitI
def signedI (n : Int) (k : Nat) : Int := if n % (2 : Int) ^ k / 2 ^ (k - 1) = 1 then n % (2 : Int) ^ k - 2 ^ k else n % (2 : Int) ^ k
theorem signed_meets : Meets Tryz.prog n_isa_signed (SpecP (fun ((n, k) : Int × Nat) => (k = 8 ∨ k = 12 ∨ k = 32)) (fun (n, k) => [.int .i64 n, .int .i64 k]) fun (n, k) => .int .i64 (signedI n k)) := by
 refine meets_f tabOk Tryz.func144 rfl (by decide) ?_
 rintro ⟨n, k⟩ hk
 refine ⟨Nat.le_refl _, by simp [Tryz.f144], fun E hE => ?_⟩
 rcases hk with hk | hk | hk <;> (have hk : k = _ := hk; subst hk; refine vcOk _ ?_)
 ·have h0 := Int.emod_nonneg n (show (256 : Int) ≠ 0 by decide)
  have h1 := Int.emod_lt_of_pos n (show (0 : Int) < 256 by decide)
  have hd : signedI n 8 = if n % 256 / 128 = 1 then n % 256 - 256 else n % 256 := rfl
  (all_goals refine qgo (Lf.mk ?_))
  refine shr_lit (s := 7) (m := 128) rfl (by decide) (by decide) ?_
  (all_goals refine qgo ?_ <;> (repeat' first | exact trivial | intro hc | refine And.intro ?_ ?_) <;> refine Lf.mk ?_)
  ·skip
   refine end_p (VS.mk (LeD.of_eq (congrArg (D.int .i64) ?_)))
   rw [hd, if_pos hc]
   omega
  ·refine end_p (VS.mk (LeD.of_eq (congrArg (D.int .i64) ?_)))
   rw [hd, if_neg hc]
 ·have h0 := Int.emod_nonneg n (show (4096 : Int) ≠ 0 by decide)
  have h1 := Int.emod_lt_of_pos n (show (0 : Int) < 4096 by decide)
  have hd : signedI n 12 = if n % 4096 / 2048 = 1 then n % 4096 - 4096 else n % 4096 := rfl
  (all_goals refine qgo (Lf.mk ?_))
  refine shl_lit (s := 12) (m := 4096) rfl (by decide) (by decide) (by decide) (by decide) ?_
  (all_goals refine qgo (Lf.mk ?_))
  refine shr_lit (s := 11) (m := 2048) rfl (by decide) (by decide) ?_
  (all_goals refine qgo ?_ <;> (repeat' first | exact trivial | intro hc | refine And.intro ?_ ?_) <;> refine Lf.mk ?_)
  ·refine shl_lit (s := 12) (m := 4096) rfl (by decide) (by decide) (by decide) (by decide) ?_
   (all_goals refine qgo (Lf.mk ?_))
   refine end_p (VS.mk (LeD.of_eq (congrArg (D.int .i64) ?_)))
   rw [hd, if_pos hc]
   omega
  ·refine end_p (VS.mk (LeD.of_eq (congrArg (D.int .i64) ?_)))
   rw [hd, if_neg hc]
 ·have h0 := Int.emod_nonneg n (show (4294967296 : Int) ≠ 0 by decide)
  have h1 := Int.emod_lt_of_pos n (show (0 : Int) < 4294967296 by decide)
  have hd : signedI n 32 = if n % 4294967296 / 2147483648 = 1 then n % 4294967296 - 4294967296 else n % 4294967296 := rfl
  (all_goals refine qgo (Lf.mk ?_))
  refine shl_lit (s := 32) (m := 4294967296) rfl (by decide) (by decide) (by decide) (by decide) ?_
  (all_goals refine qgo (Lf.mk ?_))
  refine bit_mk (and_mask (k := 32) (by decide) (by decide)) ?_
  rw [show (2 : Int) ^ 32 = 4294967296 from rfl]
  (all_goals refine qgo (Lf.mk ?_))
  refine shr_lit (s := 31) (m := 2147483648) rfl (by decide) (by decide) ?_
  (all_goals refine qgo ?_ <;> (repeat' first | exact trivial | intro hc | refine And.intro ?_ ?_) <;> refine Lf.mk ?_)
  ·refine shl_lit (s := 32) (m := 4294967296) rfl (by decide) (by decide) (by decide) (by decide) ?_
   (all_goals refine qgo (Lf.mk ?_))
   refine end_p (VS.mk (LeD.of_eq (congrArg (D.int .i64) ?_)))
   rw [hd, if_pos hc]
   omega
  ·refine end_p (VS.mk (LeD.of_eq (congrArg (D.int .i64) ?_)))
   rw [hd, if_neg hc]
theorem signed_meets2 : Meets Tryz.prog n_isa_Signed (SpecP (fun _ : Int => True) (fun n => [.int .i64 n]) fun n => .int .i64 (signedI n 32)) := by
 refine meets_f tabOk Tryz.func90 rfl (by decide) fun n _ => ?_
 refine ⟨Nat.le_refl _, by simp [Tryz.f90], fun E hE => ?_⟩
 refine vcOk _ ?_
 (all_goals refine qgo (Lf.mk ?_))
 refine call_p signed_meets (n, 32) (.inr (.inr rfl)) (VS.mk (by (first | exact LeL.refl _ | (repeat' (first | exact LeL.nil | exact LeD.refl _ | exact LeD.nil _ | exact LeD.strip _ _ _ | refine LeL.cons ?_ ?_ | refine LeD.tup ?_ | refine LeD.agg ?_))))) ?_
 (all_goals refine qgo (Lf.mk ?_))
 exact end_p (VS.mk (LeD.refl _))
attribute [local irreducible] OExpr.kids OExpr.kind OExpr.n OExpr.name digitB exprD kindB letterB nameB nodes signedI
structure OTok where
 kind : Int
 n : Int
 text : List UInt8
def tokD (t : OTok) : D := .agg [.int .i64 t.kind, .int .i64 t.n, .str t.text]
structure St where
 rest : List OTok
 err : Int
def noE : OExpr := .mk 0 0 [] []
def idxT (x : List UInt8) : List (List UInt8) → Nat → Int
 | [], _ => -1
 | s :: l, k => if x = s then k else idxT x l (k + 1)
def signs (k : Nat) : List (List UInt8) := match k with | 0 => [[124]] | 1 => [[38]] | 2 => [[60, 60], [62, 62]] | 3 => [[43], [45]] | _ => [[42]]
def kinds (k : Nat) : List Int := match k with | 0 => [11] | 1 => [10] | 2 => [8, 9] | 3 => [6, 7] | _ => [5]
def levD (k : Nat) : D := .agg [.sl 1 ((signs k).map .str) none, .sl 1 ((kinds k).map (.int .i64)) none]
def levsD : D := .sl 2 [levD 0, levD 1, levD 2, levD 3, levD 4] none
theorem levels_meets : Meets Tryz.prog n_expr_levels (SpecP (fun _ : Unit => True) (fun _ => []) fun _ => levsD) := by
 refine meets_f tabOk Tryz.func214 rfl (by decide) fun _ _ => ?_
 refine ⟨Nat.le_refl _, by simp [Tryz.f214], fun E hE => ?_⟩
 refine vcOk _ ?_
 (all_goals refine qgo (Lf.mk ?_))
 exact end_p (VS.mk (LeD.of_eq rfl))
theorem index_meets : Meets Tryz.prog n_slices_Index_string_string (SpecP (fun ((l, x) : List (List UInt8) × List UInt8) => l.length ≤ 1000000000) (fun (l, x) => [.sl 1 (l.map .str) none, .str x]) fun (l, x) => .int .i64 (idxT x l 0)) := by
 refine meets_f tabOk Tryz.func172 rfl (by decide) ?_
 rintro ⟨l, x⟩ hl
 have hl : l.length ≤ 1000000000 := hl
 refine ⟨Nat.le_refl _, by simp [Tryz.f172], fun E hE => ?_⟩
 refine vcOk _ ?_
 (all_goals refine qgo (Lf.mk ?_))
 refine awp_loop (α := Nat) (fun k => k ≤ l.length ∧ idxT x l 0 = idxT x (l.drop k) k)
  (fun k => [(7, .int .i64 l.length), (8, .int .i64 k), (0, .sl 1 (l.map .str) none), (1, .str x)])
  (fun _ => []) (fun k => l.length - k) (fun _ => by simp [hE]) 0 ⟨Nat.zero_le _, by simp⟩ ?_ ?_
 ·(repeat' (first | (refine VS.mk ?_) | exact trivial | exact rfl | refine And.intro ?_ ?_))
 rintro k ⟨hk, hf⟩
 refine vcOk _ ?_
 (all_goals refine qgo ?_ <;> (repeat' first | exact trivial | intro hc | refine And.intro ?_ ?_) <;> refine Lf.mk ?_)
 ·obtain ⟨s, hsk⟩ := at_of_lt (l := l) (k := k) (by omega)
  have hkl : k < l.length := by omega
  have hget : l[k] = s := by rw [List.getElem?_eq_getElem hkl] at hsk; exact Option.some.inj hsk
  rw [List.drop_eq_getElem_cons hkl, hget, idxT] at hf
  refine ix_map s (by omega) (by simpa using hsk) ?_
  (all_goals refine qgo ?_ <;> (repeat' first | exact trivial | intro hc | refine And.intro ?_ ?_) <;> refine Lf.mk ?_)
  ·rw [if_pos hc] at hf
   exact end_p (VS.mk (LeD.of_eq (congrArg (D.int .i64) hf.symm)))
  ·rw [if_neg hc] at hf
   refine loop_end (k + 1) ⟨by omega, hf⟩ (by omega) ?_
   (repeat' (first | (refine VS.mk ?_) | exact trivial | exact rfl | refine And.intro ?_ ?_))
 ·rw [List.drop_of_length_le (by omega), idxT] at hf
  exact end_p (VS.mk (LeD.of_eq (congrArg (D.int .i64) hf.symm)))
def stO (s : St) : List Ob := [.cells [.sl 3 (s.rest.map tokD) none, .int .i64 s.err]]
def signI (l : List (List UInt8)) (s : St) : Int × St := match s.rest with
 | [] => (-1, s)
 | t :: r => if t.kind = 3 then (if 0 ≤ idxT t.text l 0 then (idxT t.text l 0, ⟨r, s.err⟩) else (-1, s)) else (-1, s)
def failS (s : St) (e : Int) : St := if s.err = 0 then ⟨s.rest, e⟩ else s
theorem idxT_lt (x : List UInt8) : ∀ (l : List (List UInt8)) (k : Nat), idxT x l k < 0 → idxT x l k = -1
 | [], k, _ => rfl
 | s :: l, k, h => by
  rw [idxT] at h ⊢
  split at h
  ·omega
  ·rename_i hn; rw [if_neg hn]; exact idxT_lt x l (k + 1) h
theorem noE_le : LeD (.agg [.int .i64 0, .int .i64 0, .str [], .nilsl]) (exprU noE) := by
 unfold noE
 rw [exprU_mk]
 exact .agg (.cons (.refl _) (.cons (.refl _) (.cons (.refl _) (.cons (.nil 4) .nil))))
theorem fail_meets : Meets Tryz.prog n_expr_reader_fail (SpecF (fun ((s, e) : St × Int) => True) (fun (s, e) => [.loc 0 0, .int .i64 e]) (fun (s, _) => stO s) (fun _ => exprU noE) fun (s, e) => stO (failS s e)) := by
 refine meets_f tabOk Tryz.func218 rfl (by decide) ?_
 rintro ⟨s, e⟩ -
 refine ⟨Nat.le_refl _, by simp [Tryz.f218], fun E hE => ?_⟩
 refine vcOk _ ?_
 (all_goals refine qgo ?_ <;> (repeat' first | exact trivial | intro hc | refine And.intro ?_ ?_) <;> refine Lf.mk ?_)
 ·refine end_le (r1 := exprU noE) noE_le ?_ (Nat.le_refl _)
  refine end_mk ?_
  (repeat' (first | (refine VS.mk ?_) | exact trivial | exact rfl | refine And.intro ?_ ?_))
  ·dsimp only; unfold failS stO; rw [if_pos hc]
 ·refine end_le (r1 := exprU noE) noE_le ?_ (Nat.le_refl _)
  refine end_mk ?_
  (repeat' (first | (refine VS.mk ?_) | exact trivial | exact rfl | refine And.intro ?_ ?_))
  ·dsimp only; unfold failS; rw [if_neg hc]; rfl
theorem sign_meets : Meets Tryz.prog n_expr_reader_sign (SpecF (fun ((s, l) : St × List (List UInt8)) => l.length ≤ 1000000000 ∧ s.rest.length ≤ 1000000000) (fun (s, l) => [.loc 0 0, .sl 1 (l.map .str) none]) (fun (s, _) => stO s) (fun (s, l) => .int .i64 (signI l s).1)
  fun (s, l) => stO (signI l s).2) := by
 refine meets_f tabOk Tryz.func216 rfl (by decide) ?_
 rintro ⟨⟨r, e⟩, l⟩ ⟨hl, hr⟩
 have hr : r.length ≤ 1000000000 := hr
 refine ⟨Nat.le_refl _, by simp [Tryz.f216], fun E hE => ?_⟩
 cases r with
 | nil =>
  refine vcOk _ ?_
  (all_goals refine qgp ?_ <;> (repeat' first | exact trivial | intro hc | refine And.intro ?_ ?_) <;> refine Lf.mk ?_)
  refine end_mk ?_
  (repeat' (first | (refine VS.mk ?_) | exact trivial | exact rfl | refine And.intro ?_ ?_))
 | cons t r =>
  have hr2 : r.length + 1 ≤ 1000000000 := hr
  refine vcOk _ ?_
  (all_goals refine qgp ?_ <;> (repeat' first | exact trivial | intro hc | refine And.intro ?_ ?_) <;> refine Lf.mk ?_)
  ·refine end_mk ?_
   (repeat' (first | (refine VS.mk ?_) | exact trivial | exact rfl | refine And.intro ?_ ?_))
   all_goals (dsimp only [signI]; rw [if_neg hc]; try rfl)
  ·refine call_p index_meets (l, t.text) hl (VS.mk (LeL.of_eq rfl)) ?_
   (all_goals refine qgp ?_ <;> (repeat' first | exact trivial | intro hc | refine And.intro ?_ ?_) <;> refine Lf.mk ?_)
   ·refine end_mk ?_
    (repeat' (first | (refine VS.mk ?_) | exact trivial | exact rfl | refine And.intro ?_ ?_))
    all_goals (dsimp only [signI]; rw [if_pos (by assumption), if_pos hc]; try rfl)
   ·refine end_mk ?_
    (repeat' (first | (refine VS.mk ?_) | exact trivial | exact rfl | refine And.intro ?_ ?_))
    all_goals (dsimp only [signI]; rw [if_pos (by assumption), if_neg hc])
    ·exact congrArg (D.int .i64) (idxT_lt _ _ _ (by omega))
    ·rfl
def kindOf (k : Nat) (i : Int) : Int := (kinds k).getD i.toNat 0
def loopF (k : Nat) (sub : St → OExpr × St) : Nat → OExpr → St → OExpr × St
 | 0, e, s => (e, s)
 | g + 1, e, s => if s.err = 0 then (if (signI (signs k) s).1 < 0 then (e, (signI (signs k) s).2)
   else loopF k sub g (.mk (kindOf k (signI (signs k) s).1) 0 [] [e, (sub (signI (signs k) s).2).1]) (sub (signI (signs k) s).2).2)
  else (e, s)
def levelF (k : Nat) (sub : St → OExpr × St) (s : St) : OExpr × St := loopF k sub ((sub s).2.rest.length + 1) (sub s).1 (sub s).2
def atF (one : St → OExpr × St) : Nat → St → OExpr × St
 | 0 => one
 | j + 1 => levelF (4 - j) (atF one j)
def tokI (s : St) : OExpr × St := match s.rest with
 | [] => (noE, failS s 9)
 | t :: r => if t.kind = 2 then (.mk 1 (signedI t.n 32) [] [], ⟨r, s.err⟩)
  else if t.kind = 1 then (if nameB t.text = true then (.mk 2 0 t.text [], ⟨r, s.err⟩) else (noE, failS ⟨r, s.err⟩ 7))
  else (noE, failS ⟨r, s.err⟩ 2)
def opens : List (List UInt8) := [[45], [126], [40]]
def closes : List (List UInt8) := [[41]]
def oneStep (one : St → OExpr × St) (s : St) : OExpr × St :=
 if (signI opens s).1 = 0 then (.mk 3 0 [] [(one (signI opens s).2).1], (one (signI opens s).2).2)
 else if (signI opens s).1 = 1 then (.mk 4 0 [] [(one (signI opens s).2).1], (one (signI opens s).2).2)
 else if (signI opens s).1 = 2 then
  (if (signI closes (atF one 5 (signI opens s).2).2).1 < 0 then (noE, failS (signI closes (atF one 5 (signI opens s).2).2).2 2)
   else ((atF one 5 (signI opens s).2).1, (signI closes (atF one 5 (signI opens s).2).2).2))
 else tokI (signI opens s).2
def oneI : Nat → St → OExpr × St
 | 0, s => (noE, failS s 10)
 | f + 1, s => oneStep (oneI f) s
def Shorter (p : St → OExpr × St) : Prop := ∀ s, (p s).2.rest.length ≤ s.rest.length
theorem sign_short (l : List (List UInt8)) (s : St) : (signI l s).2.rest.length ≤ s.rest.length ∧ (0 ≤ (signI l s).1 → (signI l s).2.rest.length + 1 = s.rest.length) := by
 obtain ⟨r, e⟩ := s
 cases r with
 | nil => exact ⟨Nat.le_refl _, fun h => by simp [signI] at h⟩
 | cons t r =>
  simp only [signI]
  split
  ·split
   ·exact ⟨by simp, fun _ => by simp⟩
   ·exact ⟨Nat.le_refl _, fun h => by simp at h⟩
  ·exact ⟨Nat.le_refl _, fun h => by simp at h⟩
theorem loop_short {k : Nat} {sub : St → OExpr × St} (hs : Shorter sub) : ∀ (g : Nat) (e : OExpr) (s : St), (loopF k sub g e s).2.rest.length ≤ s.rest.length
 | 0, e, s => Nat.le_refl _
 | g + 1, e, s => by
  rw [loopF]
  have h1 := (sign_short (signs k) s).1
  split
  ·split
   ·exact h1
   ·have := loop_short (k := k) hs g (.mk (kindOf k (signI (signs k) s).1) 0 [] [e, (sub (signI (signs k) s).2).1]) (sub (signI (signs k) s).2).2
    have h2 := hs (signI (signs k) s).2
    omega
  ·exact Nat.le_refl _
theorem level_short {k : Nat} {sub : St → OExpr × St} (hs : Shorter sub) : Shorter (levelF k sub) := fun s => by
 have h1 := hs s
 have h2 := loop_short (k := k) hs ((sub s).2.rest.length + 1) (sub s).1 (sub s).2
 unfold levelF; omega
theorem at_short {one : St → OExpr × St} (hs : Shorter one) : ∀ j, Shorter (atF one j)
 | 0 => hs
 | j + 1 => level_short (at_short hs j)
theorem fail_rest (s : St) (e : Int) : (failS s e).rest = s.rest := by unfold failS; split <;> rfl
theorem tok_short : Shorter tokI := fun s => by
 obtain ⟨r, e⟩ := s
 cases r with
 | nil => simp [tokI, fail_rest]
 | cons t r =>
  simp only [tokI]
  repeat' split
  all_goals (try rw [fail_rest]); simp
theorem step_short {one : St → OExpr × St} (hs : Shorter one) : Shorter (oneStep one) := fun s => by
 have h1 := (sign_short opens s).1
 have h2 := hs (signI opens s).2
 have h3 := at_short hs 5 (signI opens s).2
 have h4 := (sign_short closes (atF one 5 (signI opens s).2).2).1
 have h5 := tok_short (signI opens s).2
 unfold oneStep
 repeat' split
 all_goals (try dsimp only); (try rw [fail_rest]); omega
theorem one_short : ∀ f, Shorter (oneI f)
 | 0 => fun s => by rw [oneI, fail_rest]; exact Nat.le_refl _
 | f + 1 => fun s => by rw [oneI]; exact step_short (one_short f) s
theorem loop_stop {k g : Nat} {sub : St → OExpr × St} {e : OExpr} {s : St} (h : ¬ s.err = 0) : loopF k sub g e s = (e, s) := by
 cases g with
 | zero => rfl
 | succ g => rw [loopF, if_neg h]
theorem loop_break {k g : Nat} {sub : St → OExpr × St} {e : OExpr} {s : St} (h : s.err = 0) (h2 : (signI (signs k) s).1 < 0) : loopF k sub (g + 1) e s = (e, (signI (signs k) s).2) := by rw [loopF, if_pos h, if_pos h2]
theorem loop_go {k g : Nat} {sub : St → OExpr × St} {e : OExpr} {s : St} (h : s.err = 0) (h2 : ¬ (signI (signs k) s).1 < 0) : loopF k sub (g + 1) e s =
  loopF k sub g (.mk (kindOf k (signI (signs k) s).1) 0 [] [e, (sub (signI (signs k) s).2).1]) (sub (signI (signs k) s).2).2 := by rw [loopF, if_pos h, if_neg h2]
theorem ix_lev {k : Nat} {K : D → Prop} (hk : k < 5) (h : K (levD k)) : IdxS [levD 0, levD 1, levD 2, levD 3, levD 4] (k : Int) K := by
 unfold IdxS
 refine ⟨by omega, levD k, ?_, h⟩
 rw [Int.toNat_natCast]
 match k, hk with
 | 0, _ => rfl
 | 1, _ => rfl
 | 2, _ => rfl
 | 3, _ => rfl
 | 4, _ => rfl
theorem idxT_bd (x : List UInt8) : ∀ (l : List (List UInt8)) (k : Nat), idxT x l k < ((k + l.length : Nat) : Int)
 | [], k => by rw [idxT]; omega
 | s :: l, k => by
  rw [idxT]
  split
  ·simp only [List.length_cons]; omega
  ·have := idxT_bd x l (k + 1)
   simp only [List.length_cons]; omega
theorem sign_bd (l : List (List UInt8)) (s : St) : (signI l s).1 < (l.length : Int) ∨ l.length = 0 := by
 obtain ⟨r, e⟩ := s
 cases r with
 | nil => simp only [signI]; omega
 | cons t r =>
  have := idxT_bd t.text l 0
  simp only [signI]
  split
  ·split
   ·dsimp only; omega
   ·dsimp only; omega
  ·dsimp only; omega
theorem signs_len (k : Nat) : (signs k).length = (kinds k).length ∧ 0 < (signs k).length ∧ (signs k).length ≤ 2 := by
 unfold signs kinds
 split <;> exact ⟨rfl, by decide, by decide⟩
theorem kinds_at {k : Nat} {s : St} (h : ¬ (signI (signs k) s).1 < 0) : (kinds k)[(signI (signs k) s).1.toNat]? = some (kindOf k (signI (signs k) s).1) := by
 have h1 := sign_bd (signs k) s
 obtain ⟨h2, h3, _⟩ := signs_len k
 have hlt : (signI (signs k) s).1.toNat < (kinds k).length := by omega
 unfold kindOf
 rw [List.getD_eq_getElem?_getD, List.getElem?_eq_getElem hlt]
 rfl
attribute [local irreducible] failS loopF oneI oneStep signI tokI
def AtOk (k : Int) (d : Int) (f : St → OExpr × St) : Prop :=
 Meets Tryz.prog n_expr_reader_at (SpecF (fun s : St => s.rest.length ≤ 1000000000) (fun _ => [.loc 0 0, .int .i64 k, .int .i64 d]) stO (fun s => exprU (f s).1) fun s => stO (f s).2)
def OneOk (d : Int) (f : St → OExpr × St) : Prop :=
 Meets Tryz.prog n_expr_reader_one (SpecF (fun s : St => s.rest.length ≤ 1000000000) (fun _ => [.loc 0 0, .int .i64 d]) stO (fun s => exprU (f s).1) fun s => stO (f s).2)
theorem at_top {d : Int} {one : St → OExpr × St} (h : OneOk d one) : AtOk 5 d (atF one 0) := by
 refine meets_f tabOk Tryz.func206 rfl (by decide) ?_
 intro s hs
 refine ⟨Nat.le_refl _, by simp [Tryz.f206], fun E hE => ?_⟩
 refine vcOk _ ?_
 (all_goals refine qgp (Lf.mk ?_))
 refine call_p levels_meets () trivial (VS.mk (LeL.of_eq rfl)) ?_
 (all_goals refine qgp ?_ <;> (repeat' first | exact trivial | intro hc | refine And.intro ?_ ?_) <;> refine Lf.mk ?_)
 refine call_f h [0] [0] s hs rfl rfl ?_
 refine And.intro (VS.mk (LeL.of_eq rfl)) (And.intro (VS.mk rfl) ?_)
 (all_goals refine qgp (Lf.mk ?_))
 refine end_mk ?_
 (repeat' (first | (refine VS.mk ?_) | exact trivial | exact rfl | refine And.intro ?_ ?_))
theorem at_level {d : Int} {k : Nat} {sub : St → OExpr × St} (hk : k < 5) (hsub : Shorter sub) (h : AtOk ((k : Int) + 1) d sub) : AtOk k d (levelF k sub) := by
 refine meets_f tabOk Tryz.func206 rfl (by decide) ?_
 intro s hs
 refine ⟨Nat.le_refl _, by simp [Tryz.f206], fun E hE => ?_⟩
 refine vcOk _ ?_
 (all_goals refine qgp (Lf.mk ?_))
 refine call_p levels_meets () trivial (VS.mk (LeL.of_eq rfl)) ?_
 (all_goals refine qgp ?_ <;> (repeat' first | exact trivial | intro hc | refine And.intro ?_ ?_) <;> refine Lf.mk ?_)
 refine call_f h [0] [0] s hs rfl rfl ?_
 refine And.intro (VS.mk (LeL.of_eq rfl)) (And.intro (VS.mk rfl) ?_)
 (all_goals refine qgp (Lf.mk ?_))
 have hs1 := hsub s
 obtain ⟨hsl1, hsl2, hsl3⟩ := signs_len k
 generalize hT : levelF k sub s = T at *
 have hT0 : loopF k sub ((sub s).2.rest.length + 1) (sub s).1 (sub s).2 = T := hT
 refine awp_loop (α := Nat × OExpr × St) (fun p => p.2.2.rest.length < p.1 ∧ p.2.2.rest.length ≤ 1000000000 ∧ loopF k sub p.1 p.2.1 p.2.2 = T)
  (fun p => [(0, .loc 0 0), (1, .int .i64 k), (2, .int .i64 d), (6, .loc 1 0), (7, levsD), (8, .loc 2 0)])
  (fun p => stO p.2.2 ++ [.cells [.int .i64 0, .int .i64 0, .str [], .nilsl], .cells [.int .i64 p.2.1.kind, .int .i64 p.2.1.n, .str p.2.1.name, .sl 4 (p.2.1.kids.map exprD) none]]) (fun p => p.1) (fun _ => by simp [hE, stO])
  ((sub s).2.rest.length + 1, (sub s).1, (sub s).2) ⟨Nat.lt_succ_self _, Nat.le_trans hs1 hs, hT0⟩ ?_ ?_
 ·(repeat' (first | (refine VS.mk ?_) | exact trivial | exact rfl | refine And.intro ?_ ?_))
 rintro ⟨g, e, s2⟩ ⟨hg, hs2, hl⟩
 dsimp only at hg hs2 hl ⊢
 obtain ⟨g, rfl⟩ : ∃ g', g = g' + 1 := ⟨g - 1, by omega⟩
 refine vcOk _ ?_
 (all_goals refine qgp ?_ <;> (repeat' first | exact trivial | intro hc | refine And.intro ?_ ?_) <;> refine Lf.mk ?_)
 ·refine ix_lev hk ?_
  (all_goals refine qgp (Lf.mk ?_))
  refine call_f sign_meets [0] [0] (s2, signs k) ⟨by omega, hs2⟩ rfl rfl ?_
  refine And.intro (VS.mk (LeL.of_eq rfl)) (And.intro (VS.mk rfl) ?_)
  obtain ⟨q1, q2⟩ := sign_short (signs k) s2
  (all_goals refine qgp ?_ <;> (repeat' first | exact trivial | intro hc | refine And.intro ?_ ?_) <;> refine Lf.mk ?_)
  ·rw [loop_break (by assumption) hc] at hl
   subst hl
   refine end_mk ?_
   (repeat' (first | (refine VS.mk ?_) | exact trivial | exact rfl | refine And.intro ?_ ?_))
  ·rw [loop_go (by assumption) hc] at hl
   have hka := kinds_at (k := k) (s := s2) hc
   refine ix_lev hk ?_
   (all_goals refine qgp (Lf.mk ?_))
   refine ix_map (kindOf k (signI (signs k) s2).1) (by omega) (by simpa using hka) ?_
   (all_goals refine qgp (Lf.mk ?_))
   have q3 := hsub (signI (signs k) s2).2
   refine call_f h [0] [0] (signI (signs k) s2).2 (by omega) rfl rfl ?_
   refine And.intro (VS.mk (LeL.of_eq rfl)) (And.intro (VS.mk rfl) ?_)
   (all_goals refine qgp (Lf.mk ?_))
   refine loop_end (g, .mk (kindOf k (signI (signs k) s2).1) 0 [] [e, (sub (signI (signs k) s2).2).1], (sub (signI (signs k) s2).2).2) ⟨by (dsimp only; omega), by (dsimp only; omega), hl⟩ (by dsimp only; omega) ?_
   dsimp only
   rw [mk_kind, mk_n, mk_name, mk_kids, map2]
   (repeat' (first | (refine VS.mk ?_) | exact trivial | exact rfl | refine And.intro ?_ ?_))
 ·rw [loop_stop hc] at hl
  subst hl
  refine end_mk ?_
  (repeat' (first | (refine VS.mk ?_) | exact trivial | exact rfl | refine And.intro ?_ ?_))
end Go.Proofs.YthmdddenbfbefaaGreatDoor
namespace Go.Proofs.YthmdddenbfbefaaGreatDoor
open Go Go.Plat
set_option linter.unusedVariables false
set_option linter.unusedSimpArgs false
set_option maxRecDepth 100000
set_option maxHeartbeats 2000000
attribute [local irreducible] AWP Arith BitS BytesS CallS CatS DrawS EndS IdxS LookS LoopEnd Meets ModeS NilS NormL NormM OExpr.kids OExpr.kind OExpr.n OExpr.name QuoS RemS ShlS ShrS SideS SplitS bitI digitB exprD failS kindB letterB loopF nameB nodes oneI signI signedI
theorem at_all {d : Int} {one : St → OExpr × St} (hs : Shorter one) (h : OneOk d one) : AtOk 0 d (atF one 5) := by
 have h5 : AtOk (((4 : Nat) : Int) + 1) d (atF one 0) := at_top h
 have h4 : AtOk (((3 : Nat) : Int) + 1) d (atF one 1) := at_level (k := 4) (by decide) (at_short hs 0) h5
 have h3 : AtOk (((2 : Nat) : Int) + 1) d (atF one 2) := at_level (k := 3) (by decide) (at_short hs 1) h4
 have h2 : AtOk (((1 : Nat) : Int) + 1) d (atF one 3) := at_level (k := 2) (by decide) (at_short hs 2) h3
 have h1 : AtOk (((0 : Nat) : Int) + 1) d (atF one 4) := at_level (k := 1) (by decide) (at_short hs 3) h2
 exact at_level (k := 0) (by decide) (at_short hs 4) h1
theorem one_deep {d : Int} (h : 6 < d) : OneOk d (oneI 0) := by
 refine meets_f tabOk Tryz.func215 rfl (by decide) ?_
 intro s hs
 refine ⟨Nat.le_refl _, by simp [Tryz.f215], fun E hE => ?_⟩
 refine vcOk _ ?_
 (all_goals refine qgp ?_ <;> (repeat' first | exact trivial | intro hc | refine And.intro ?_ ?_) <;> refine Lf.mk ?_)
 refine call_f fail_meets [0] [0] (s, 10) trivial rfl rfl ?_
 refine And.intro (VS.mk (LeL.of_eq rfl)) (And.intro (VS.mk rfl) ?_)
 have ho : oneI 0 s = (noE, failS s 10) := by rw [oneI]
 (all_goals refine qgp (Lf.mk ?_))
 refine end_mk ?_
 (repeat' (first | (refine VS.mk ?_) | exact trivial | exact rfl | refine And.intro ?_ ?_))
 all_goals (rw [ho]; rfl)
theorem one_step {d : Int} {one : St → OExpr × St} (hd : d ≤ 6) (hd0 : 0 ≤ d) (hsub : Shorter one) (h : OneOk (d + 1) one) : OneOk d (oneStep one) := by
 have hat := at_all hsub h
 refine meets_f tabOk Tryz.func215 rfl (by decide) ?_
 intro s hs
 have q1 := (sign_short opens s).1
 refine ⟨Nat.le_refl _, by simp [Tryz.f215], fun E hE => ?_⟩
 refine vcOk _ ?_
 (all_goals refine qgp ?_ <;> (repeat' first | exact trivial | intro hc | refine And.intro ?_ ?_) <;> refine Lf.mk ?_)
 refine call_f sign_meets [0] [0] (s, opens) ⟨by decide, hs⟩ rfl rfl ?_
 refine And.intro (VS.mk (LeL.of_eq rfl)) (And.intro (VS.mk rfl) ?_)
 dsimp only
 have hstep : oneStep one s = if (signI opens s).1 = 0 then (.mk 3 0 [] [(one (signI opens s).2).1], (one (signI opens s).2).2)
  else if (signI opens s).1 = 1 then (.mk 4 0 [] [(one (signI opens s).2).1], (one (signI opens s).2).2)
  else if (signI opens s).1 = 2 then
   (if (signI closes (atF one 5 (signI opens s).2).2).1 < 0 then (noE, failS (signI closes (atF one 5 (signI opens s).2).2).2 2)
    else ((atF one 5 (signI opens s).2).1, (signI closes (atF one 5 (signI opens s).2).2).2))
  else tokI (signI opens s).2 := rfl
 generalize hS : signI opens s = S at *
 obtain ⟨i, s1⟩ := S
 have q1 : s1.rest.length ≤ s.rest.length := q1
 (all_goals refine qgp ?_ <;> (repeat' first | exact trivial | intro hc | refine And.intro ?_ ?_) <;> refine Lf.mk ?_)
 ·refine call_f h [0] [0] s1 (by omega) rfl rfl ?_
  refine And.intro (VS.mk (LeL.of_eq rfl)) (And.intro (VS.mk rfl) ?_)
  (all_goals refine qgp (Lf.mk ?_))
  have ho : oneStep one s = (.mk 3 0 [] [(one s1).1], (one s1).2) := by rw [hstep, if_pos hc]
  refine end_mk ?_
  (repeat' (first | (refine VS.mk ?_) | exact trivial | exact rfl | refine And.intro ?_ ?_))
  all_goals (rw [ho])
  ·dsimp only; rw [exprU_mk, map1]; rfl
  ·rfl
 ·refine call_f h [0] [0] s1 (by omega) rfl rfl ?_
  refine And.intro (VS.mk (LeL.of_eq rfl)) (And.intro (VS.mk rfl) ?_)
  (all_goals refine qgp (Lf.mk ?_))
  have ho : oneStep one s = (.mk 4 0 [] [(one s1).1], (one s1).2) := by rw [hstep, if_neg (by assumption), if_pos hc]
  refine end_mk ?_
  (repeat' (first | (refine VS.mk ?_) | exact trivial | exact rfl | refine And.intro ?_ ?_))
  all_goals (rw [ho])
  ·dsimp only; rw [exprU_mk, map1]; rfl
  ·rfl
 ·have q2 := at_short hsub 5 s1
  refine call_f hat [0] [0] s1 (by omega) rfl rfl ?_
  refine And.intro (VS.mk (LeL.of_eq rfl)) (And.intro (VS.mk rfl) ?_)
  (all_goals refine qgp (Lf.mk ?_))
  refine call_f sign_meets [0] [0] ((atF one 5 s1).2, closes) ⟨by decide, by omega⟩ rfl rfl ?_
  refine And.intro (VS.mk (LeL.of_eq rfl)) (And.intro (VS.mk rfl) ?_)
  (all_goals refine qgp ?_ <;> (repeat' first | exact trivial | intro hc | refine And.intro ?_ ?_) <;> refine Lf.mk ?_)
  ·refine call_f fail_meets [0] [0] ((signI closes (atF one 5 s1).2).2, 2) trivial rfl rfl ?_
   refine And.intro (VS.mk (LeL.of_eq rfl)) (And.intro (VS.mk rfl) ?_)
   (all_goals refine qgp (Lf.mk ?_))
   have ho : oneStep one s = (noE, failS (signI closes (atF one 5 s1).2).2 2) := by rw [hstep, if_neg (by assumption), if_neg (by assumption), if_pos (by assumption)]; dsimp only; rw [if_pos hc]
   refine end_mk ?_
   (repeat' (first | (refine VS.mk ?_) | exact trivial | exact rfl | refine And.intro ?_ ?_))
   all_goals (rw [ho]; rfl)
  ·have ho : oneStep one s = ((atF one 5 s1).1, (signI closes (atF one 5 s1).2).2) := by rw [hstep, if_neg (by assumption), if_neg (by assumption), if_pos (by assumption)]; dsimp only; rw [if_neg hc]
   refine end_mk ?_
   (repeat' (first | (refine VS.mk ?_) | exact trivial | exact rfl | refine And.intro ?_ ?_))
   all_goals (rw [ho]; rfl)
 ·have hr : s1.rest = [] := List.eq_nil_of_length_eq_zero (by omega)
  refine call_f fail_meets [0] [0] (s1, 9) trivial rfl rfl ?_
  refine And.intro (VS.mk (LeL.of_eq rfl)) (And.intro (VS.mk rfl) ?_)
  (all_goals refine qgp (Lf.mk ?_))
  have ho : oneStep one s = (noE, failS s1 9) := by rw [hstep, if_neg (by assumption), if_neg (by assumption), if_neg (by assumption)]; dsimp only; unfold tokI; rw [hr]
  refine end_mk ?_
  (repeat' (first | (refine VS.mk ?_) | exact trivial | exact rfl | refine And.intro ?_ ?_))
  all_goals (rw [ho]; rfl)
 ·obtain ⟨r1, e1⟩ := s1
  cases r1 with
  | nil => exfalso; exact hc rfl
  | cons t r =>
   have ho : oneStep one s = if t.kind = 2 then (.mk 1 (signedI t.n 32) [] [], ⟨r, e1⟩)
     else if t.kind = 1 then (if nameB t.text = true then (.mk 2 0 t.text [], ⟨r, e1⟩) else (noE, failS ⟨r, e1⟩ 7))
     else (noE, failS ⟨r, e1⟩ 2) := by rw [hstep, if_neg (by assumption), if_neg (by assumption), if_neg (by assumption)]; rfl
   clear hstep hS
   (all_goals refine qgp ?_ <;> (repeat' first | exact trivial | intro hc | refine And.intro ?_ ?_) <;> refine Lf.mk ?_)
   ·refine call_p signed_meets2 t.n trivial (VS.mk (LeL.of_eq rfl)) ?_
    (all_goals refine qgp (Lf.mk ?_))
    rw [if_pos hc] at ho
    refine end_le (r1 := exprU (.mk 1 (signedI t.n 32) [] [])) (by rw [exprU_mk]; exact .agg (.cons (.refl _) (.cons (.refl _) (.cons (.refl _) (.cons (.nil 4) .nil))))) ?_ (Nat.le_refl _)
    refine end_mk ?_
    (repeat' (first | (refine VS.mk ?_) | exact trivial | exact rfl | refine And.intro ?_ ?_))
    all_goals (rw [ho]; rfl)
   ·refine call_p name_any t.text trivial (VS.mk (LeL.of_eq rfl)) ?_
    (all_goals refine qgp ?_ <;> (repeat' first | exact trivial | intro hc | refine And.intro ?_ ?_) <;> refine Lf.mk ?_)
    ·rw [if_neg (by assumption), if_pos (by assumption), if_pos hc] at ho
     refine end_le (r1 := exprU (.mk 2 0 t.text [])) (by rw [exprU_mk]; exact .agg (.cons (.refl _) (.cons (.refl _) (.cons (.refl _) (.cons (.nil 4) .nil))))) ?_ (Nat.le_refl _)
     refine end_mk ?_
     (repeat' (first | (refine VS.mk ?_) | exact trivial | exact rfl | refine And.intro ?_ ?_))
     all_goals (rw [ho]; rfl)
    ·refine call_f fail_meets [0] [0] (⟨r, e1⟩, 7) trivial rfl rfl ?_
     refine And.intro (VS.mk (LeL.of_eq rfl)) (And.intro (VS.mk rfl) ?_)
     (all_goals refine qgp (Lf.mk ?_))
     rw [if_neg (by assumption), if_pos hc, if_neg (by rw [(by assumption : nameB t.text = false)]; decide)] at ho
     refine end_mk ?_
     (repeat' (first | (refine VS.mk ?_) | exact trivial | exact rfl | refine And.intro ?_ ?_))
     all_goals (rw [ho]; rfl)
   ·refine call_f fail_meets [0] [0] (⟨r, e1⟩, 2) trivial rfl rfl ?_
    refine And.intro (VS.mk (LeL.of_eq rfl)) (And.intro (VS.mk rfl) ?_)
    (all_goals refine qgp (Lf.mk ?_))
    rw [if_neg (by assumption), if_neg (by assumption)] at ho
    refine end_mk ?_
    (repeat' (first | (refine VS.mk ?_) | exact trivial | exact rfl | refine And.intro ?_ ?_))
    all_goals (rw [ho]; rfl)
theorem one_succ (f : Nat) : oneI (f + 1) = oneStep (oneI f) := by funext s; rw [oneI]
theorem ones : ∀ f : Nat, f ≤ 7 → OneOk (7 - (f : Int)) (oneI f)
 | 0, _ => one_deep (by decide)
 | f + 1, hf => by
  have h := ones f (by omega)
  rw [one_succ]
  have e : (7 : Int) - ((f + 1 : Nat) : Int) + 1 = 7 - (f : Int) := by omega
  exact one_step (by omega) (by omega) (one_short f) (by rw [e]; exact h)
theorem at_one : AtOk 0 0 (atF (oneI 7) 5) := at_all (one_short 7) (ones 7 (by decide))
def parseI (l : List OTok) : OExpr × St := atF (oneI 7) 5 ⟨l, 0⟩
def pRes (l : List OTok) : OExpr × Int × Int := if (parseI l).2.err = 0 then ((parseI l).1, (l.length : Int) - (parseI l).2.rest.length, 0) else (noE, 0, (parseI l).2.err)
def pResD (p : OExpr × Int × Int) : D := .tup [exprU p.1, .int .i64 p.2.1, .int .i64 p.2.2]
theorem parse_short (l : List OTok) : (parseI l).2.rest.length ≤ l.length := at_short (one_short 7) 5 ⟨l, 0⟩
theorem parse_meets : Meets Tryz.prog n_expr_Parse (SpecP (fun l : List OTok => l.length ≤ 1000000000) (fun l => [.sl 3 (l.map tokD) none]) fun l => pResD (pRes l)) := by
 refine meets_f tabOk Tryz.func192 rfl (by decide) ?_
 intro l hl
 refine ⟨Nat.le_refl _, by simp [Tryz.f192], fun E hE => ?_⟩
 refine vcOk _ ?_
 (all_goals refine qgp (Lf.mk ?_))
 refine call_f at_one [1] [1] ⟨l, 0⟩ hl rfl rfl ?_
 refine And.intro (VS.mk (LeL.of_eq rfl)) (And.intro (VS.mk rfl) ?_)
 have hq := parse_short l
 have hp : pRes l = if (parseI l).2.err = 0 then ((parseI l).1, (l.length : Int) - (parseI l).2.rest.length, 0) else (noE, 0, (parseI l).2.err) := rfl
 have hx : atF (oneI 7) 5 ⟨l, 0⟩ = parseI l := rfl
 rw [hx]
 generalize parseI l = T at *
 obtain ⟨e, r, er⟩ := T
 have hq : r.length ≤ l.length := hq
 (all_goals refine qgp ?_ <;> (repeat' first | exact trivial | intro hc | refine And.intro ?_ ?_) <;> refine Lf.mk ?_)
 ·rw [hp, if_neg hc]
  exact end_p (VS.mk (.tup (.cons noE_le (.cons (.refl _) (.cons (.refl _) .nil)))))
 ·rw [hp, if_pos hc]
  refine end_p (VS.mk (LeD.of_eq ?_))
  show D.tup [.agg [.int .i64 e.kind, .int .i64 e.n, .str e.name, .sl 4 (e.kids.map exprD) none], .int .i64 _, .int .i64 0] = .tup [exprU e, _, _]
  cases e
  rw [exprU_mk, mk_kind, mk_n, mk_name, mk_kids]
end Go.Proofs.YthmdddenbfbefaaGreatDoor
namespace Go.Proofs.YthmdddenbfbefaaGreatDoor
open Go Go.Plat
set_option linter.unusedVariables false
set_option linter.unusedSimpArgs false
set_option maxRecDepth 100000
set_option maxHeartbeats 2000000
attribute [local irreducible] AWP Arith BitS BytesS CallS CatS DrawS EndS IdxS LookS LoopEnd Meets ModeS NilS NormL NormM QuoS RemS ShlS ShrS SideS SplitS bitI
structure OVal where
 name : List UInt8
 n : Int
 deriving DecidableEq
structure OEqu where
 name : List UInt8
 n : Int
def valD (v : OVal) : D := .agg [.str v.name, .int .i64 v.n]
def equD (v : OEqu) : D := .agg [.str v.name, .int .i64 v.n]
def numV (k a b : Int) : Int :=
 if k = 5 then signedI (a * b) 32 else if k = 6 then signedI (a + b) 32 else if k = 7 then signedI (a - b) 32
 else if k = 8 then signedI (a * 2 ^ (b % 32).toNat) 32 else if k = 9 then signedI (a % 4294967296 / 2 ^ (b % 32).toNat) 32
 else if k = 10 then signedI (bitI .and .i64 a b) 32 else if k = 11 then signedI (bitI .or .i64 a b) 32 else signedI a 32
def S32 (n : Int) : Prop := -2147483648 ≤ n ∧ n ≤ 2147483647
theorem signed_eq (n : Int) : signedI n 32 = if n % 4294967296 / 2147483648 = 1 then n % 4294967296 - 4294967296 else n % 4294967296 := rfl
theorem signed_s32 (n : Int) : S32 (signedI n 32) := by
 rw [signed_eq]; unfold S32
 split <;> omega
theorem numV_s32 (k a b : Int) : S32 (numV k a b) := by
 unfold numV
 repeat' split
 all_goals exact signed_s32 _
theorem and_31 {n : Int} : bitI .and .i64 n 31 = n % 32 := and_mask (k := 5) (by decide) (by decide)
theorem and_32 {n : Int} : bitI .and .i64 n 4294967295 = n % 4294967296 := and_mask (k := 32) (by decide) (by decide)
theorem not_i64 {n : Int} (h0 : -9223372036854775808 ≤ n) (h1 : n ≤ 9223372036854775807) : bitI .xor .i64 (if IntKind.i64.signed = true then -1 else IntKind.i64.max) n = -n - 1 := by
 unfold bitI
 have e : (BitVec.ofInt IntKind.i64.bits (-1) ^^^ BitVec.ofInt IntKind.i64.bits n).toNat = 18446744073709551615 - (BitVec.ofInt 64 n).toNat := by
  show (BitVec.ofInt 64 (-1) ^^^ BitVec.ofInt 64 n).toNat = _
  have : BitVec.ofInt 64 (-1) = BitVec.allOnes 64 := by decide
  rw [this, BitVec.allOnes_xor, BitVec.toNat_not]
 show IntKind.i64.wrap (((BitVec.ofInt IntKind.i64.bits (-1) ^^^ BitVec.ofInt IntKind.i64.bits n).toNat : Nat) : Int) = _
 rw [e]
 have h4 := toNat_ofInt n
 generalize (BitVec.ofInt 64 n).toNat = x at *
 have hx : x ≤ 18446744073709551615 := by omega
 unfold IntKind.wrap
 simp [IntKind.bits, IntKind.signed]
 omega
theorem pow_le31 {y : Nat} (h : y ≤ 31) : (1 : Int) ≤ 2 ^ y ∧ (2 : Int) ^ y ≤ 2147483648 := by
 have h1 : (2 : Nat) ^ y ≤ 2 ^ 31 := Nat.pow_le_pow_right (by decide) h
 have h2 : 1 ≤ (2 : Nat) ^ y := Nat.one_le_two_pow
 have e : ((2 : Int) ^ y) = ((2 ^ y : Nat) : Int) := by simp
 rw [e]
 exact ⟨by omega, by have : (2 : Nat) ^ 31 = 2147483648 := by decide
                     omega⟩
theorem shl_bd {a : Int} {y : Nat} (ha : S32 a) (h : y ≤ 31) : -4611686018427387904 ≤ a * 2 ^ y ∧ a * 2 ^ y ≤ 4611686018427387904 := by
 obtain ⟨h1, h2⟩ := pow_le31 h
 obtain ⟨h3, h4⟩ := ha
 generalize (2 : Int) ^ y = p at *
 constructor
 ·have : -2147483648 * 2147483648 ≤ a * p := by
   rcases Int.le_total 0 a with h | h
   ·have := Int.mul_nonneg h (by omega : 0 ≤ p); omega
   ·have h5 : -2147483648 * p ≤ a * p := Int.mul_le_mul_of_nonneg_right h3 (by omega)
    omega
  omega
 ·have : a * p ≤ 2147483648 * 2147483648 := by
   rcases Int.le_total 0 a with h | h
   ·have h5 : a * p ≤ a * 2147483648 := Int.mul_le_mul_of_nonneg_left h2 h
    omega
   ·have := Int.mul_nonneg (by omega : 0 ≤ -a) (by omega : 0 ≤ p)
    rw [Int.neg_mul] at this; omega
  omega
theorem mul_bd {a b : Int} (ha : S32 a) (hb : S32 b) : -4611686018427387904 ≤ a * b ∧ a * b ≤ 4611686018427387904 := by
 obtain ⟨h1, h2⟩ := ha
 obtain ⟨h3, h4⟩ := hb
 have k1 : (a * b).natAbs ≤ 2147483648 * 2147483648 := by
  rw [Int.natAbs_mul]
  exact Nat.mul_le_mul (by omega) (by omega)
 omega
theorem shl_var {a y : Int} {K : D → Prop} (ha : S32 a) (h0 : 0 ≤ y) (h1 : y ≤ 31) (h : K (.int .i64 (a * 2 ^ y.toNat))) : ShlS .i64 a y K := by
 unfold ShlS
 refine ⟨h0, ?_⟩
 have e : min y.toNat IntKind.i64.bits = y.toNat := by simp only [IntKind.bits]; omega
 obtain ⟨h2, h3⟩ := shl_bd ha (y := y.toNat) (by omega)
 rw [e, wrap_i64 (by omega) (by omega)]
 exact h
theorem shr_var {x y : Int} {K : D → Prop} (h0 : 0 ≤ y) (h1 : y ≤ 31) (h : K (.int .i64 (x / 2 ^ y.toNat))) : ShrS .i64 x y K := by
 unfold ShrS
 refine ⟨h0, ?_⟩
 have e : min y.toNat IntKind.i64.bits = y.toNat := by simp only [IntKind.bits]; omega
 have hp : (0 : Int) ≤ 2 ^ y.toNat := Int.le_of_lt (Int.pow_pos (by decide))
 rw [e, Int.fdiv_eq_ediv_of_nonneg _ hp]
 exact h
attribute [local irreducible] signedI
theorem number_meets : Meets Tryz.prog n_expr_number (SpecP (fun ((k, a, b) : Int × Int × Int) => S32 a ∧ S32 b) (fun (k, a, b) => [.int .i64 k, .int .i64 a, .int .i64 b]) fun (k, a, b) => .int .i64 (numV k a b)) := by
 refine meets_f tabOk Tryz.func217 rfl (by decide) ?_
 rintro ⟨k, a, b⟩ ⟨ha, hb⟩
 refine ⟨Nat.le_refl _, by simp [Tryz.f217], fun E hE => ?_⟩
 refine vcOk _ ?_
 have hm := mul_bd ha hb
 have ha1 := ha.1
 have ha2 := ha.2
 have hb1 := hb.1
 have hb2 := hb.2
 (all_goals refine qgo ?_ <;> (repeat' first | exact trivial | intro hc | refine And.intro ?_ ?_) <;> refine Lf.mk ?_)
 any_goals (first | (refine bit_mk and_31 ?_) | (refine bit_mk and_32 ?_) | (refine bit_mk rfl ?_) | skip)
 have hb32 : 0 ≤ b % 32 ∧ b % 32 ≤ 31 := by omega
 (all_goals refine qgo (Lf.mk ?_))
 any_goals (first | (refine shl_var ha (by omega) (by omega) ?_) | (refine bit_mk and_31 ?_) | skip)
 (all_goals refine qgo (Lf.mk ?_))
 any_goals (first | (refine shr_var (by omega) (by omega) ?_) | skip)
 (all_goals refine qgo (Lf.mk ?_))
 all_goals (refine call_p signed_meets2 _ trivial (VS.mk (LeL.of_eq rfl)) ?_)
 (all_goals refine qgo (Lf.mk ?_))
 all_goals
  refine end_p (VS.mk (LeD.of_eq (congrArg (D.int .i64) (?_ : _ = numV k a b))))
  unfold numV
  repeat (first | rw [if_pos (by assumption)] | rw [if_neg (by assumption)])
def twoV (k : Int) (a b : OVal) : OVal × Int :=
 if a.name = [] ∧ b.name = [] then (⟨[], numV k a.n b.n⟩, 0)
 else if k = 6 ∧ (a.name = [] ∨ b.name = []) then (⟨a.name ++ b.name, numV k a.n b.n⟩, 0)
 else if k = 7 ∧ b.name = [] then (⟨a.name, numV k a.n b.n⟩, 0)
 else if k = 7 ∧ a.name = b.name then (⟨[], numV k a.n b.n⟩, 0)
 else (⟨[], 0⟩, 8)
def vresD (x : OVal × Int) : D := .tup [valD x.1, .int .i64 x.2]
attribute [local irreducible] numV
theorem two_meets : Meets Tryz.prog n_expr_two (SpecP (fun ((k, a, b) : Int × OVal × OVal) => S32 a.n ∧ S32 b.n ∧ a.name.length ≤ 1000000000 ∧ b.name.length ≤ 1000000000) (fun (k, a, b) => [.int .i64 k, valD a, valD b]) fun (k, a, b) => vresD (twoV k a b)) := by
 refine meets_f tabOk Tryz.func208 rfl (by decide) ?_
 rintro ⟨k, a, b⟩ ⟨ha, hb, hna, hnb⟩
 refine ⟨Nat.le_refl _, by simp [Tryz.f208], fun E hE => ?_⟩
 refine vcOk _ ?_
 (all_goals refine qgo ?_ <;> (repeat' first | exact trivial | intro hc | refine And.intro ?_ ?_) <;> refine Lf.mk ?_)
 any_goals (first | (exfalso; exact absurd ‹a.name = []› ‹¬ a.name = []›) | (exfalso; exact absurd ‹b.name = []› ‹¬ b.name = []›) | (exfalso; omega) | skip)
 any_goals (first | (refine cat_mk (by omega) ?_) | skip)
 (all_goals refine qgo (Lf.mk ?_))
 any_goals (first | (refine call_p number_meets (k, a.n, b.n) ⟨ha, hb⟩ (VS.mk (LeL.of_eq rfl)) ?_) | skip)
 (all_goals refine qgo (Lf.mk ?_))
 all_goals
  refine end_p (VS.mk (LeD.of_eq (?_ : _ = vresD (twoV k a b))))
  simp_all [twoV, vresD, valD]
def findQ (n : List UInt8) : List OEqu → Option Int
 | [] => none
 | s :: l => if s.name = n then some s.n else findQ n l
def idxQ (n : List UInt8) : List OEqu → Nat → Int
 | [], _ => -1
 | s :: l, k => if s.name = n then k else idxQ n l (k + 1)
theorem idxQ_spec (n : List UInt8) : ∀ (l : List OEqu) (k : Nat), (findQ n l = none ∧ idxQ n l k = -1) ∨ ∃ (i : Nat) (s : OEqu), l[i]? = some s ∧ idxQ n l k = ((k + i : Nat) : Int) ∧ findQ n l = some s.n
 | [], k => .inl ⟨rfl, rfl⟩
 | s :: l, k => by
  rw [findQ, idxQ]
  by_cases h : s.name = n
  ·rw [if_pos h, if_pos h]
   exact .inr ⟨0, s, rfl, rfl, rfl⟩
  ·rw [if_neg h, if_neg h]
   rcases idxQ_spec n l (k + 1) with h1 | ⟨i, t, h1, h2, h3⟩
   ·exact .inl h1
   ·exact .inr ⟨i + 1, t, h1, by rw [h2]; congr 1; omega, h3⟩
def noVal : OVal := ⟨[], 0⟩
def topV (k n : Int) (s : List UInt8) (vs : List OVal) (l : List OEqu) : OVal × Int :=
 if k = 1 ∧ vs = [] then (⟨[], signedI n 32⟩, 0)
 else if k = 2 ∧ vs = [] then (match findQ s l with | some m => (⟨[], signedI m 32⟩, 0) | none => (⟨s, 0⟩, 0))
 else match vs with
  | [v] => if k = 3 ∨ k = 4 then (if v.name = [] then (if k = 3 then (⟨[], signedI (-v.n) 32⟩, 0) else (⟨[], signedI (-v.n - 1) 32⟩, 0)) else (noVal, 8)) else (noVal, 1)
  | [a, b] => if 5 ≤ k ∧ k ≤ 11 then twoV k a b else (noVal, 1)
  | _ => (noVal, 1)
mutual
def evalE (l : List OEqu) : OExpr → OVal × Int
 | .mk k n s ks => match evalL l ks with
  | .inl w => (noVal, w)
  | .inr vs => topV k n s vs l
def evalL (l : List OEqu) : List OExpr → Int ⊕ List OVal
 | [] => .inr []
 | e :: es => if (evalE l e).2 = 0 then (match evalL l es with | .inl w => .inl w | .inr vs => .inr ((evalE l e).1 :: vs)) else .inl (evalE l e).2
end
def evA (l : List OEqu) (acc : List OVal) (es : List OExpr) : Int ⊕ List OVal := match evalL l es with | .inl w => .inl w | .inr vs => .inr (acc ++ vs)
theorem evA_nil (l : List OEqu) (acc : List OVal) : evA l acc [] = .inr acc := by unfold evA; rw [evalL]; simp
theorem evA_cons (l : List OEqu) (acc : List OVal) (e : OExpr) (es : List OExpr) : evA l acc (e :: es) = if (evalE l e).2 = 0 then evA l (acc ++ [(evalE l e).1]) es else .inl (evalE l e).2 := by
 unfold evA
 rw [evalL]
 by_cases h : (evalE l e).2 = 0
 ·rw [if_pos h, if_pos h]
  cases evalL l es <;> simp
 ·rw [if_neg h, if_neg h]
theorem evA_all (l : List OEqu) (es : List OExpr) : evA l [] es = evalL l es := by unfold evA; cases evalL l es <;> simp
theorem evalE_eq (l : List OEqu) (e : OExpr) : evalE l e = match evalL l e.kids with
  | .inl w => (noVal, w)
  | .inr vs => topV e.kind e.n e.name vs l := by
 cases e with
 | mk k n s ks => rw [evalE]; rfl
structure VOk (v : OVal) (n : Nat) : Prop where
 s32 : S32 v.n
 len : v.name.length ≤ n
theorem two_ok {k : Int} {a b : OVal} {m n : Nat} (ha : VOk a m) (hb : VOk b n) : VOk (twoV k a b).1 (m + n) := by
 have h1 := ha.len
 have h2 := hb.len
 unfold twoV
 split
 ·exact ⟨numV_s32 _ _ _, by simp⟩
 split
 ·exact ⟨numV_s32 _ _ _, by simp; omega⟩
 split
 ·exact ⟨numV_s32 _ _ _, by dsimp only; omega⟩
 split
 ·exact ⟨numV_s32 _ _ _, by simp⟩
 ·exact ⟨⟨by decide, by decide⟩, by simp⟩
theorem no_ok {n : Nat} : VOk noVal n := ⟨⟨by decide, by decide⟩, by simp [noVal]⟩
def nsum : List OVal → Nat
 | [] => 0
 | v :: vs => v.name.length + nsum vs
theorem nsum_app : ∀ (a : List OVal) (v : OVal), nsum (a ++ [v]) = nsum a + v.name.length
 | [], v => by simp [nsum]
 | x :: a, v => by rw [List.cons_append, nsum, nsum, nsum_app]; omega
theorem top_ok {k n : Int} {s : List UInt8} {vs : List OVal} {l : List OEqu} {m : Nat} (h : ∀ v ∈ vs, S32 v.n) (hm : nsum vs ≤ m) : VOk (topV k n s vs l).1 (s.length + m) := by
 unfold topV
 split
 ·exact ⟨signed_s32 _, by simp⟩
 split
 ·split
  ·exact ⟨signed_s32 _, by simp⟩
  ·exact ⟨⟨show (-2147483648 : Int) ≤ 0 by decide, show (0 : Int) ≤ 2147483647 by decide⟩, by dsimp only; omega⟩
 rcases vs with _ | ⟨a, _ | ⟨b, _ | ⟨c, r⟩⟩⟩ <;> dsimp only
 ·exact no_ok
 ·split
  ·split
   ·split
    ·exact ⟨signed_s32 _, by simp⟩
    ·exact ⟨signed_s32 _, by simp⟩
   ·exact no_ok
  ·exact no_ok
 ·split
  ·have := two_ok (k := k) (a := a) (b := b) ⟨h a (by simp), Nat.le_refl _⟩ ⟨h b (by simp), Nat.le_refl _⟩
   simp only [nsum] at hm
   exact ⟨this.s32, by have := this.len; omega⟩
  ·exact no_ok
 ·exact no_ok
mutual
theorem eval_ok (l : List OEqu) : ∀ e : OExpr, VOk (evalE l e).1 (nodes e)
 | .mk k n s ks => by
  rw [evalE, nodes]
  cases h : evalL l ks with
  | inl w => exact no_ok
  | inr vs =>
   obtain ⟨h1, h2⟩ := evalL_ok l ks vs h
   have := top_ok (k := k) (n := n) (s := s) (l := l) h1 h2
   exact ⟨this.s32, by have := this.len; dsimp only; omega⟩
theorem evalL_ok (l : List OEqu) : ∀ (es : List OExpr) (vs : List OVal), evalL l es = .inr vs → (∀ v ∈ vs, S32 v.n) ∧ nsum vs ≤ nodesL es
 | [], vs, h => by rw [evalL] at h; cases h; exact ⟨by simp, by simp [nsum]⟩
 | e :: es, vs, h => by
  rw [evalL] at h
  have he := eval_ok l e
  split at h
  ·cases hl : evalL l es with
   | inl w => rw [hl] at h; cases h
   | inr ws =>
    rw [hl] at h
    cases h
    obtain ⟨h1, h2⟩ := evalL_ok l es ws hl
    refine ⟨fun v hv => ?_, ?_⟩
    ·rcases List.mem_cons.1 hv with rfl | hv
     ·exact he.s32
     ·exact h1 v hv
    ·rw [nsum, nodesL]
     have := he.len
     omega
  ·cases h
end
theorem nil_len {α : Type} {l : List α} (h : l.length = 0) : l = [] := List.eq_nil_of_length_eq_zero h
theorem top_num {k n : Int} {s : List UInt8} {vs : List OVal} {l : List OEqu} (h1 : k = 1) (h2 : vs.length = 0) : topV k n s vs l = (⟨[], signedI n 32⟩, 0) := by unfold topV; rw [if_pos ⟨h1, nil_len h2⟩]
theorem top_name {k n : Int} {s : List UInt8} {vs : List OVal} {l : List OEqu} (h1 : k = 2) (h2 : vs.length = 0) : topV k n s vs l = (match findQ s l with | some m => (⟨[], signedI m 32⟩, 0) | none => (⟨s, 0⟩, 0)) := by
 unfold topV; rw [if_neg (by rintro ⟨h, _⟩; omega), if_pos ⟨h1, nil_len h2⟩]
theorem top_one {k n : Int} {s : List UInt8} {v : OVal} {l : List OEqu} (h1 : k = 3 ∨ k = 4) : topV k n s [v] l = if v.name = [] then (if k = 3 then (⟨[], signedI (-v.n) 32⟩, 0) else (⟨[], signedI (-v.n - 1) 32⟩, 0)) else (noVal, 8) := by
 unfold topV; rw [if_neg (by rintro ⟨h, _⟩; omega), if_neg (by rintro ⟨h, _⟩; omega)]; dsimp only; rw [if_pos h1]
theorem top_two {k n : Int} {s : List UInt8} {a b : OVal} {l : List OEqu} (h1 : 5 ≤ k ∧ k ≤ 11) : topV k n s [a, b] l = twoV k a b := by
 unfold topV; rw [if_neg (by rintro ⟨h, _⟩; omega), if_neg (by rintro ⟨h, _⟩; omega)]; dsimp only; rw [if_pos h1]
theorem top_bad {k n : Int} {s : List UInt8} {vs : List OVal} {l : List OEqu} (h0 : vs.length = 0 → k ≠ 1 ∧ k ≠ 2) (h1 : vs.length = 1 → k ≠ 3 ∧ k ≠ 4) (h2 : vs.length = 2 → k < 5 ∨ 11 < k) : topV k n s vs l = (noVal, 1) := by
 unfold topV
 rw [if_neg (by rintro ⟨h, h3⟩; exact (h0 (by rw [h3]; rfl)).1 h), if_neg (by rintro ⟨h, h3⟩; exact (h0 (by rw [h3]; rfl)).2 h)]
 rcases vs with _ | ⟨a, _ | ⟨b, _ | ⟨c, r⟩⟩⟩ <;> dsimp only
 ·rw [if_neg (by have := h1 rfl; omega)]
 ·rw [if_neg (by have := h2 rfl; omega)]
theorem len_one {α : Type} {l : List α} (h : l.length = 1) : ∃ a, l = [a] := by
 rcases l with _ | ⟨a, _ | ⟨b, r⟩⟩ <;> simp at h
 exact ⟨a, rfl⟩
theorem len_two {α : Type} {l : List α} (h : l.length = 2) : ∃ a b, l = [a, b] := by
 rcases l with _ | ⟨a, _ | ⟨b, _ | ⟨c, r⟩⟩⟩ <;> simp at h
 exact ⟨a, b, rfl⟩
theorem evclos_meets : Meets Tryz.prog n_expr_Eval_1 (SpecF (fun _ : OEqu × OExpr => True) (fun (s, e) => [equD s, .loc 0 0]) (fun (s, e) => [.cells [.int .i64 e.kind, .int .i64 e.n, .str e.name, .sl 4 (e.kids.map exprD) none]]) (fun (s, e) => .bool (s.name == e.name))
  fun (s, e) => [.cells [.int .i64 e.kind, .int .i64 e.n, .str e.name, .sl 4 (e.kids.map exprD) none]]) := by
 refine meets_f tabOk Tryz.func207 rfl (by decide) ?_
 rintro ⟨s, e⟩ -
 refine ⟨Nat.le_refl _, by simp [Tryz.f207], fun E hE => ?_⟩
 refine vcOk _ ?_
 (all_goals refine qgo (Lf.mk ?_))
 refine end_mk ?_
 (repeat' (first | (refine VS.mk ?_) | exact trivial | exact rfl | refine And.intro ?_ ?_))
theorem evindex_meets : Meets Tryz.prog n_slices_IndexFunc_api_Equ_api_Equ (SpecF (fun ((l, e) : List OEqu × OExpr) => l.length ≤ 1000000000) (fun (l, e) => [.sl 2 (l.map equD) none, .fn n_expr_Eval_1 [.loc 0 0]])
  (fun (l, e) => [.cells [.int .i64 e.kind, .int .i64 e.n, .str e.name, .sl 4 (e.kids.map exprD) none]]) (fun (l, e) => .int .i64 (idxQ e.name l 0)) fun (l, e) => [.cells [.int .i64 e.kind, .int .i64 e.n, .str e.name, .sl 4 (e.kids.map exprD) none]]) := by
 refine meets_f tabOk Tryz.func174 rfl (by decide) ?_
 rintro ⟨l, e⟩ hl
 have hl : l.length ≤ 1000000000 := hl
 refine ⟨Nat.le_refl _, by simp [Tryz.f174], fun E hE => ?_⟩
 refine vcOk _ ?_
 (all_goals refine qgo (Lf.mk ?_))
 refine awp_loop (α := Nat) (fun k => k ≤ l.length ∧ idxQ e.name l 0 = idxQ e.name (l.drop k) k)
  (fun k => [(7, .int .i64 l.length), (8, .int .i64 k), (0, .sl 2 (l.map equD) none), (1, .fn n_expr_Eval_1 [.loc 0 0])])
  (fun _ => [.cells [.int .i64 e.kind, .int .i64 e.n, .str e.name, .sl 4 (e.kids.map exprD) none]]) (fun k => l.length - k) (fun _ => by simp [hE]) 0 ⟨Nat.zero_le _, by simp⟩ ?_ ?_
 ·(repeat' (first | (refine VS.mk ?_) | exact trivial | exact rfl | refine And.intro ?_ ?_))
 rintro k ⟨hk, hf⟩
 refine vcOk _ ?_
 (all_goals refine qgo ?_ <;> (repeat' first | exact trivial | intro hc | refine And.intro ?_ ?_) <;> refine Lf.mk ?_)
 ·obtain ⟨s, hsk⟩ := at_of_lt (l := l) (k := k) (by omega)
  have hkl : k < l.length := by omega
  have hget : l[k] = s := by rw [List.getElem?_eq_getElem hkl] at hsk; exact Option.some.inj hsk
  rw [List.drop_eq_getElem_cons hkl, hget, idxQ] at hf
  refine ix_map s (by omega) (by simpa using hsk) ?_
  (all_goals refine qgo (Lf.mk ?_))
  refine call_f evclos_meets [0] [0] (s, e) trivial rfl rfl ?_
  refine And.intro (VS.mk (LeL.of_eq rfl)) (And.intro (VS.mk rfl) ?_)
  (all_goals refine qgo ?_ <;> (repeat' first | exact trivial | intro hc | refine And.intro ?_ ?_) <;> refine Lf.mk ?_)
  ·rw [if_pos hc] at hf
   refine end_mk ?_
   (repeat' (first | (refine VS.mk ?_) | exact trivial | exact rfl | refine And.intro ?_ ?_))
   exact congrArg (D.int .i64) hf.symm
  ·rw [if_neg hc] at hf
   refine loop_end (k + 1) ⟨by omega, hf⟩ (by omega) ?_
   (repeat' (first | (refine VS.mk ?_) | exact trivial | exact rfl | refine And.intro ?_ ?_))
 ·rw [List.drop_of_length_le (by omega), idxQ] at hf
  refine end_mk ?_
  (repeat' (first | (refine VS.mk ?_) | exact trivial | exact rfl | refine And.intro ?_ ?_))
  exact congrArg (D.int .i64) hf.symm
attribute [local irreducible] OExpr.kids OExpr.kind OExpr.n OExpr.name evalE evalL exprD findQ idxQ nodes twoV
theorem no_vres {w : Int} {x : OVal × Int} (h : x = (noVal, w)) : LeD (.tup [.agg [.str [], .int .i64 0], .int .i64 w]) (vresD x) := by subst h; exact .refl _
theorem eval_meets (l : List OEqu) (hl : l.length ≤ 1000000000) : ∀ n : Nat, Meets Tryz.prog n_expr_Eval (SpecP (fun e : OExpr => nodes e ≤ n ∧ nodes e ≤ 4194304) (fun e => [exprU e, .sl 2 (l.map equD) none]) fun e => vresD (evalE l e))
 | 0 => by
  refine meets_f tabOk Tryz.func193 rfl (by decide) fun e h => ?_
  have := nodes_pos e
  omega
 | n + 1 => by
  have ih := eval_meets l hl n
  refine meets_f tabOk Tryz.func193 rfl (by decide) ?_
  rintro e ⟨hn, hN⟩
  have hkl := kids_len e
  have hnl := name_len e
  refine ⟨Nat.le_refl _, by simp [Tryz.f193], fun E hE => ?_⟩
  refine vcOk _ ?_
  (all_goals refine qgo (Lf.mk ?_))
  refine awp_weak (weak_nil 6 2 rfl) ?_
  generalize hEV : evalL l e.kids = EV at *
  have hev0 : evA l [] e.kids = EV := by rw [evA_all, hEV]
  refine awp_loop (α := Nat × List OVal) (fun p => p.1 ≤ e.kids.length ∧ evA l p.2 (e.kids.drop p.1) = EV ∧ p.2.length = p.1 ∧ (∀ v ∈ p.2, S32 v.n) ∧ nsum p.2 ≤ p.1 * 4194304)
   (fun p => [(13, .sl 4 (e.kids.map exprD) none), (14, .int .i64 e.kids.length), (15, .int .i64 p.1), (1, .sl 2 (l.map equD) none), (2, .loc 0 0), (4, .loc 1 0), (6, .sl 2 (p.2.map valD) (some 2))])
   (fun p => [.cells [.int .i64 e.kind, .int .i64 e.n, .str e.name, .sl 4 (e.kids.map exprD) none], .cells [.str [], .int .i64 0], .spare p.2.length]) (fun p => e.kids.length - p.1) (fun _ => by simp [hE]) (0, []) ⟨Nat.zero_le _, by simpa using hev0, rfl, by simp, by simp [nsum]⟩ ?_ ?_
  ·(repeat' (first | (refine VS.mk ?_) | exact trivial | exact rfl | refine And.intro ?_ ?_))
  rintro ⟨k, vs⟩ ⟨hk, hev, hvl, hvs, hns⟩
  dsimp only at hk hev hvl hvs hns ⊢
  refine vcOk _ ?_
  (all_goals refine qgo ?_ <;> (repeat' first | exact trivial | intro hc | refine And.intro ?_ ?_) <;> refine Lf.mk ?_)
  ·obtain ⟨x, hx⟩ := at_of_lt (l := e.kids) (k := k) (by omega)
   have hxm := List.mem_of_getElem? hx
   have hxn := nodes_kid hxm
   have hok := eval_ok l x
   have hkl3 : k < e.kids.length := by omega
   have hget : e.kids[k] = x := by rw [List.getElem?_eq_getElem hkl3] at hx; exact Option.some.inj hx
   rw [List.drop_eq_getElem_cons hkl3, hget, evA_cons] at hev
   refine ix_expr x (by omega) (by simpa using hx) ?_
   (all_goals refine qgo (Lf.mk ?_))
   refine call_p ih x ⟨by omega, by omega⟩ (VS.mk (LeL.of_eq rfl)) ?_
   (all_goals refine qgo ?_ <;> (repeat' first | exact trivial | intro hc | refine And.intro ?_ ?_) <;> refine Lf.mk ?_)
   ·rw [if_neg hc] at hev
    subst hev
    exact end_p (VS.mk (no_vres (by rw [evalE_eq, hEV])))
   ·rw [if_pos hc] at hev
    have hl1 := hok.len
    refine loop_end (k + 1, vs ++ [(evalE l x).1]) ⟨by (dsimp only; omega), hev, by (dsimp only; rw [List.length_append, hvl]; rfl), fun v hv => ?_, by (dsimp only; rw [nsum_app]; omega)⟩ (by dsimp only; omega) ?_
    ·(repeat' (first | (refine VS.mk ?_) | exact trivial | exact rfl | refine And.intro ?_ ?_))
     ·simp [valD]
     ·simp [valD]
    ·rcases List.mem_append.1 hv with h | h
     ·exact hvs v h
     ·rw [List.mem_singleton.1 h]; exact hok.s32
  all_goals
   rw [List.drop_of_length_le (by omega), evA_nil] at hev
   subst hev
   have hT : evalE l e = topV e.kind e.n e.name vs l := by rw [evalE_eq, hEV]
  any_goals (first | (exfalso; omega) | exact end_p (VS.mk (no_vres (by rw [hT, top_bad (by omega) (by omega) (by omega)]))) | skip)
  ·refine call_p signed_meets2 e.n trivial (VS.mk (LeL.of_eq rfl)) ?_
   (all_goals refine qgo (Lf.mk ?_))
   refine end_p (VS.mk (LeD.of_eq ?_))
   rw [hT, top_num (by omega) (by omega)]
   rfl
  ·refine call_f evindex_meets [0] [0] (l, e) hl rfl rfl ?_
   refine And.intro (VS.mk (LeL.of_eq rfl)) (And.intro (VS.mk rfl) ?_)
   rcases idxQ_spec e.name l 0 with ⟨h1, h2⟩ | ⟨i, s, h1, h2, h3⟩
   ·dsimp only
    rw [h2]
    (all_goals refine qgo ?_ <;> (repeat' first | exact trivial | intro hc | refine And.intro ?_ ?_) <;> refine Lf.mk ?_)
    ·exfalso; omega
    ·refine end_p (VS.mk (LeD.of_eq ?_))
     rw [hT, top_name (by omega) (by omega), h1]
     rfl
   ·have hil : i < l.length := (List.getElem?_eq_some_iff.1 h1).1
    rw [Nat.zero_add] at h2
    dsimp only
    rw [h2]
    (all_goals refine qgo ?_ <;> (repeat' first | exact trivial | intro hc | refine And.intro ?_ ?_) <;> refine Lf.mk ?_)
    ·refine ix_map s (by omega) (by simpa using h1) ?_
     (all_goals refine qgo (Lf.mk ?_))
     refine call_p signed_meets2 s.n trivial (VS.mk (LeL.of_eq rfl)) ?_
     (all_goals refine qgo (Lf.mk ?_))
     refine end_p (VS.mk (LeD.of_eq ?_))
     rw [hT, top_name (by omega) (by omega), h3]
     rfl
    ·exfalso; omega
  ·obtain ⟨v, hv1⟩ := len_one (l := vs) (by omega)
   subst hv1
   obtain ⟨s1, s2⟩ := hvs v (by simp)
   (all_goals refine qgo ?_ <;> (repeat' first | exact trivial | intro hc | refine And.intro ?_ ?_) <;> refine Lf.mk ?_)
   ·exact end_p (VS.mk (no_vres (by rw [hT, top_one (by omega), if_neg (by assumption)])))
   ·refine call_p signed_meets2 (-v.n) trivial (VS.mk (LeL.of_eq (by rw [Int.zero_sub]))) ?_
    (all_goals refine qgo (Lf.mk ?_))
    refine end_p (VS.mk (LeD.of_eq ?_))
    rw [hT, top_one (by omega), if_pos (by assumption), if_pos (by assumption)]
    rfl
   ·exfalso; omega
  ·obtain ⟨v, hv1⟩ := len_one (l := vs) (by omega)
   subst hv1
   obtain ⟨s1, s2⟩ := hvs v (by simp)
   (all_goals refine qgo ?_ <;> (repeat' first | exact trivial | intro hc | refine And.intro ?_ ?_) <;> refine Lf.mk ?_)
   ·exact end_p (VS.mk (no_vres (by rw [hT, top_one (by omega), if_neg (by assumption)])))
   ·exfalso; omega
   ·refine bit_mk (not_i64 (by omega) (by omega)) ?_
    (all_goals refine qgo (Lf.mk ?_))
    refine call_p signed_meets2 (-v.n - 1) trivial (VS.mk (LeL.of_eq rfl)) ?_
    (all_goals refine qgo (Lf.mk ?_))
    refine end_p (VS.mk (LeD.of_eq ?_))
    rw [hT, top_one (by omega), if_pos (by assumption), if_neg (by omega)]
    rfl
  ·obtain ⟨a, b, hab⟩ := len_two (l := vs) (by omega)
   subst hab
   have sa := hvs a (by simp)
   have sb := hvs b (by simp)
   simp only [nsum] at hns
   (all_goals refine qgo (Lf.mk ?_))
   refine call_p two_meets (e.kind, a, b) ⟨sa, sb, by omega, by omega⟩ (VS.mk (LeL.of_eq rfl)) ?_
   (all_goals refine qgo (Lf.mk ?_))
   refine end_p (VS.mk (LeD.of_eq ?_))
   rw [hT, top_two (by omega)]
   rfl
end Go.Proofs.YthmdddenbfbefaaGreatDoor
namespace Go.Proofs.YthmdddenbfbefaaGreatDoor
open Go Go.Plat
set_option linter.unusedVariables false
set_option linter.unusedSimpArgs false
set_option maxRecDepth 100000
set_option maxHeartbeats 2000000
attribute [local irreducible] AWP Arith BitS BytesS CallS CatS DrawS EndS IdxS LookS LoopEnd Meets ModeS NilS NormL NormM QuoS RemS ShlS ShrS SideS SplitS bitI
structure IRow where
 op : Int
 name : List UInt8
 shape : Int
 bits : Int
def irowD (r : IRow) : D := .agg [.int .i64 r.op, .str r.name, .int .i64 r.shape, .int .i64 r.bits]
def irows : List IRow := [
 ⟨1, [110, 111, 112], 0, 9⟩,
 ⟨2, [114, 116, 115], 0, 11⟩,
 ⟨3, [109, 111, 118], 1, 57344⟩,
 ⟨4, [97, 100, 100], 1, 28672⟩,
 ⟨5, [109, 111, 118], 2, 24579⟩,
 ⟨6, [97, 100, 100], 2, 12300⟩,
 ⟨7, [115, 117, 98], 2, 12296⟩,
 ⟨8, [97, 110, 100], 2, 8201⟩,
 ⟨9, [111, 114], 2, 8203⟩,
 ⟨10, [120, 111, 114], 2, 8202⟩,
 ⟨11, [116, 115, 116], 2, 8200⟩,
 ⟨12, [99, 109, 112, 47, 101, 113], 2, 12288⟩,
 ⟨13, [99, 109, 112, 47, 103, 116], 2, 12295⟩,
 ⟨14, [115, 104, 108, 108], 3, 16384⟩,
 ⟨15, [115, 104, 108, 114], 3, 16385⟩,
 ⟨16, [100, 116], 3, 16400⟩,
 ⟨17, [98, 116], 4, 35072⟩,
 ⟨18, [98, 102], 4, 35584⟩,
 ⟨19, [98, 114, 97], 5, 40960⟩,
 ⟨20, [98, 115, 114], 5, 45056⟩,
 ⟨21, [106, 109, 112], 6, 16427⟩,
 ⟨22, [106, 115, 114], 6, 16395⟩,
 ⟨23, [109, 111, 118, 46, 119], 7, 36864⟩,
 ⟨24, [109, 111, 118, 46, 108], 8, 53248⟩,
 ⟨25, [109, 111, 118, 46, 108], 9, 8194⟩,
 ⟨26, [109, 111, 118, 46, 108], 10, 24578⟩,
 ⟨27, [116, 114, 97, 112, 97], 11, 49920⟩]
theorem irows_len : irows.length = 27 := rfl
theorem rows_meets : Meets Tryz.prog n_isa_rows (SpecP (fun _ : Unit => True) (fun _ => []) fun _ => .sl 4 (irows.map irowD) none) := by
 refine meets_f tabOk Tryz.func177 rfl (by decide) fun _ _ => ?_
 refine ⟨Nat.le_refl _, by simp [Tryz.f177], fun E hE => ?_⟩
 refine vcOk _ ?_
 (all_goals refine qgo (Lf.mk ?_))
 exact end_p (VS.mk (LeD.of_eq (by rfl)))
def infoR (op : Int) : Option IRow := irows.find? fun r => r.op == op
def infoD (op : Int) : D := match infoR op with | some r => .tup [.str r.name, .int .i64 r.shape] | none => .tup [.str [], .int .i64 0]
theorem info_meets : Meets Tryz.prog n_isa_Info (SpecP (fun _ : Int => True) (fun op => [.int .i64 op]) infoD) := by
 refine meets_f tabOk Tryz.func135 rfl (by decide) fun op _ => ?_
 refine ⟨Nat.le_refl _, by simp [Tryz.f135], fun E hE => ?_⟩
 refine vcOk _ ?_
 (all_goals refine qgo (Lf.mk ?_))
 refine call_p rows_meets () trivial (VS.mk (by (first | exact LeL.refl _ | (repeat' (first | exact LeL.nil | exact LeD.refl _ | exact LeD.nil _ | exact LeD.strip _ _ _ | refine LeL.cons ?_ ?_ | refine LeD.tup ?_ | refine LeD.agg ?_))))) ?_
 (all_goals refine qgo (Lf.mk ?_))
 refine awp_loop (α := Nat) (fun k => k ≤ 27 ∧ ∀ (i : Nat) r, i < k → irows[i]? = some r → (r.op == op) = false) (fun k => [(6, .sl 4 (irows.map irowD) none), (7, .int .i64 27), (8, .int .i64 k), (0, .int .i64 op)]) (fun _ => []) (fun k => 27 - k) (fun _ => by simp [hE]) 0 ⟨Nat.zero_le _, by simp⟩ ?_ ?_
 ·(repeat' (first | (refine VS.mk ?_) | exact trivial | exact rfl | refine And.intro ?_ ?_))
 rintro k ⟨hk, hno⟩
 refine vcOk _ ?_
 (all_goals refine qgo ?_ <;> (repeat' first | exact trivial | intro hc | refine And.intro ?_ ?_) <;> refine Lf.mk ?_)
 ·obtain ⟨r, hr⟩ := at_of_lt (l := irows) (k := k) (by rw [irows_len]; omega)
  refine ix_map r (by omega) (by simpa using hr) ?_
  (all_goals refine qgo ?_ <;> (repeat' first | exact trivial | intro hc | refine And.intro ?_ ?_) <;> refine Lf.mk ?_)
  ·refine end_p (VS.mk (LeD.of_eq ?_))
   have hf := find_at (p := fun r => r.op == op) hr (by simpa using hc) hno
   rw [infoD, infoR, hf]
  ·refine loop_end (k + 1) ⟨by omega, no_step hno hr (by simpa using hc)⟩ (by omega) ?_
   (repeat' (first | (refine VS.mk ?_) | exact trivial | exact rfl | refine And.intro ?_ ?_))
 ·refine end_p (VS.mk (LeD.of_eq ?_))
  have hf := no_end hno (by rw [irows_len]; omega)
  rw [infoD, infoR, hf]
def findR (name : List UInt8) (shape : Int) : Option IRow := irows.find? fun r => r.name == name && r.shape == shape
def findI (name : List UInt8) (shape : Int) : Int := match findR name shape with | some r => r.op | none => 0
theorem find_meets : Meets Tryz.prog n_isa_Find (SpecP (fun _ : List UInt8 × Int => True) (fun (name, shape) => [.str name, .int .i64 shape]) fun (name, shape) => .int .i64 (findI name shape)) := by
 refine meets_f tabOk Tryz.func130 rfl (by decide) ?_
 rintro ⟨name, shape⟩ _
 refine ⟨Nat.le_refl _, by simp [Tryz.f130], fun E hE => ?_⟩
 refine vcOk _ ?_
 (all_goals refine qgo (Lf.mk ?_))
 refine call_p rows_meets () trivial (VS.mk (by (first | exact LeL.refl _ | (repeat' (first | exact LeL.nil | exact LeD.refl _ | exact LeD.nil _ | exact LeD.strip _ _ _ | refine LeL.cons ?_ ?_ | refine LeD.tup ?_ | refine LeD.agg ?_))))) ?_
 (all_goals refine qgo (Lf.mk ?_))
 refine awp_loop (α := Nat) (fun k => k ≤ 27 ∧ ∀ (i : Nat) r, i < k → irows[i]? = some r → (r.name == name && r.shape == shape) = false) (fun k => [(7, .sl 4 (irows.map irowD) none), (8, .int .i64 27), (9, .int .i64 k), (0, .str name), (1, .int .i64 shape)]) (fun _ => []) (fun k => 27 - k) (fun _ => by simp [hE]) 0 ⟨Nat.zero_le _, by simp⟩ ?_ ?_
 ·(repeat' (first | (refine VS.mk ?_) | exact trivial | exact rfl | refine And.intro ?_ ?_))
 rintro k ⟨hk, hno⟩
 refine vcOk _ ?_
 (all_goals refine qgo ?_ <;> (repeat' first | exact trivial | intro hc | refine And.intro ?_ ?_) <;> refine Lf.mk ?_)
 ·obtain ⟨r, hr⟩ := at_of_lt (l := irows) (k := k) (by rw [irows_len]; omega)
  refine ix_map r (by omega) (by simpa using hr) ?_
  (all_goals refine qgo ?_ <;> (repeat' first | exact trivial | intro hc | refine And.intro ?_ ?_) <;> refine Lf.mk ?_)
  ·refine end_p (VS.mk (LeD.of_eq ?_))
   have hf := find_at (p := fun r => r.name == name && r.shape == shape) hr (by simp [*]) hno
   simp only [findI, findR, hf]
  ·refine loop_end (k + 1) ⟨by omega, no_step hno hr (by simp [*])⟩ (by omega) ?_
   (repeat' (first | (refine VS.mk ?_) | exact trivial | exact rfl | refine And.intro ?_ ?_))
  ·refine loop_end (k + 1) ⟨by omega, no_step hno hr (by simp [*])⟩ (by omega) ?_
   (repeat' (first | (refine VS.mk ?_) | exact trivial | exact rfl | refine And.intro ?_ ?_))
 ·refine end_p (VS.mk (LeD.of_eq ?_))
  have hf := no_end hno (by rw [irows_len]; omega)
  simp only [findI, findR, hf]
def uses1 (s : Int) : Bool := s == 1 || s == 3 || s == 6 || s == 7 || s == 8 || s == 2 || s == 9 || s == 10
def uses2 (s : Int) : Bool := s == 2 || s == 9 || s == 10
theorem uses_meets : Meets Tryz.prog n_isa_uses (SpecP (fun _ : Int => True) (fun s => [.int .i64 s]) fun s => .tup [.bool (uses1 s), .bool (uses2 s)]) := by
 refine meets_f tabOk Tryz.func178 rfl (by decide) fun s _ => ?_
 refine ⟨Nat.le_refl _, by simp [Tryz.f178], fun E hE => ?_⟩
 refine vcOk _ ?_
 (all_goals refine qgo ?_ <;> (repeat' first | exact trivial | intro hc | refine And.intro ?_ ?_) <;> refine Lf.mk ?_)
 all_goals (refine end_p (VS.mk ?_))
 all_goals first | (exfalso; omega) | (refine LeD.tup (.cons ?_ (.cons ?_ .nil)) <;> first | exact LeD.tt (by simp_all [uses1, uses2]) | exact LeD.ff (by simp_all [uses1, uses2]))
def lowI (s : Int) : Int := if s = 1 ∨ s = 4 then -128 else if s = 5 then -2048 else 0
def highI (s : Int) : Int := if s = 1 ∨ s = 4 then 127 else if s = 5 then 2047 else if s = 7 ∨ s = 8 ∨ s = 11 then 255 else 0
theorem range_meets : Meets Tryz.prog n_isa_Range (SpecP (fun _ : Int => True) (fun s => [.int .i64 s]) fun s => .tup [.int .i64 (lowI s), .int .i64 (highI s)]) := by
 refine meets_f tabOk Tryz.func136 rfl (by decide) fun s _ => ?_
 refine ⟨Nat.le_refl _, by simp [Tryz.f136], fun E hE => ?_⟩
 refine vcOk _ ?_
 (all_goals refine qgo ?_ <;> (repeat' first | exact trivial | intro hc | refine And.intro ?_ ?_) <;> refine Lf.mk ?_)
 all_goals (refine end_p (VS.mk ?_))
 all_goals (refine LeD.of_eq ?_; unfold lowI highI; simp; omega)
def maskI (s : Int) : Int := if s = 0 then 65535 else if s = 2 ∨ s = 9 ∨ s = 10 then 61455 else if s = 3 ∨ s = 6 then 61695 else if s = 4 ∨ s = 11 then 65280 else 61440
theorem mask_meets : Meets Tryz.prog n_isa_mask (SpecP (fun _ : Int => True) (fun s => [.int .i64 s]) fun s => .int .i64 (maskI s)) := by
 refine meets_f tabOk Tryz.func181 rfl (by decide) fun s _ => ?_
 refine ⟨Nat.le_refl _, by simp [Tryz.f181], fun E hE => ?_⟩
 refine vcOk _ ?_
 (all_goals refine qgo ?_ <;> (repeat' first | exact trivial | intro hc | refine And.intro ?_ ?_) <;> refine Lf.mk ?_)
 all_goals (refine end_p (VS.mk (LeD.of_eq (congrArg (D.int .i64) ?_))))
 all_goals (unfold maskI; (repeat' split) <;> first | rfl | omega)
attribute [local irreducible] highI infoR irows lowI maskI signedI uses1 uses2
structure Ins where
 op : Int
 n : Int
 m : Int
 imm : Int
def insD (i : Ins) : D := .agg [.int .i64 i.op, .int .i64 i.n, .int .i64 i.m, .int .i64 i.imm]
def badReg (r : IRow) (i : Ins) : Prop := i.n < 0 ∨ 15 < i.n ∨ (uses1 r.shape = false ∧ i.n ≠ 0) ∨ i.m < 0 ∨ 15 < i.m ∨ (uses2 r.shape = false ∧ i.m ≠ 0) ∨ i.imm < lowI r.shape ∨ highI r.shape < i.imm
instance (r : IRow) (i : Ins) : Decidable (badReg r i) := by unfold badReg; infer_instance
def wrongI (i : Ins) : Int := match infoR i.op with
 | none => 1
 | some r => if badReg r i then 3 else 0
theorem irow_name : ∀ r ∈ irows, r.name ≠ [] := by unfold irows; decide
theorem infoR_mem {op : Int} {r : IRow} (h : infoR op = some r) : r ∈ irows ∧ r.op = op := by
 unfold infoR at h
 exact ⟨List.mem_of_find?_eq_some h, by simpa using List.find?_some h⟩
theorem iwrong_meets : Meets Tryz.prog n_isa_Wrong (SpecP (fun _ : Ins => True) (fun i => [insD i]) fun i => .int .i64 (wrongI i)) := by
 refine meets_f tabOk Tryz.func131 rfl (by decide) fun i _ => ?_
 refine ⟨Nat.le_refl _, by simp [Tryz.f131], fun E hE => ?_⟩
 refine vcOk _ ?_
 (all_goals refine qgo (Lf.mk ?_))
 refine call_p info_meets i.op trivial (VS.mk (by (first | exact LeL.refl _ | (repeat' (first | exact LeL.nil | exact LeD.refl _ | exact LeD.nil _ | exact LeD.strip _ _ _ | refine LeL.cons ?_ ?_ | refine LeD.tup ?_ | refine LeD.agg ?_))))) ?_
 cases hi : infoR i.op with
 | none =>
  have hw : wrongI i = 1 := by unfold wrongI; rw [hi]
  rw [show infoD i.op = .tup [.str [], .int .i64 0] by unfold infoD; rw [hi]]
  (all_goals refine qgo ?_ <;> (repeat' first | exact trivial | intro hc | refine And.intro ?_ ?_) <;> refine Lf.mk ?_)
  ·refine end_p (VS.mk (LeD.of_eq ?_))
   rw [hw]
  ·exfalso; exact hc trivial
 | some r =>
  have hn : r.name ≠ [] := irow_name r (infoR_mem hi).1
  have hw : wrongI i = if badReg r i then 3 else 0 := by unfold wrongI; rw [hi]
  rw [show infoD i.op = .tup [.str r.name, .int .i64 r.shape] by unfold infoD; rw [hi]]
  (all_goals refine qgo ?_ <;> (repeat' first | exact trivial | intro hc | refine And.intro ?_ ?_) <;> refine Lf.mk ?_)
  ·exfalso; exact hn hc
  refine call_p uses_meets r.shape trivial (VS.mk (by (first | exact LeL.refl _ | (repeat' (first | exact LeL.nil | exact LeD.refl _ | exact LeD.nil _ | exact LeD.strip _ _ _ | refine LeL.cons ?_ ?_ | refine LeD.tup ?_ | refine LeD.agg ?_))))) ?_
  (all_goals refine qgo (Lf.mk ?_))
  refine call_p range_meets r.shape trivial (VS.mk (by (first | exact LeL.refl _ | (repeat' (first | exact LeL.nil | exact LeD.refl _ | exact LeD.nil _ | exact LeD.strip _ _ _ | refine LeL.cons ?_ ?_ | refine LeD.tup ?_ | refine LeD.agg ?_))))) ?_
  (all_goals refine qgo ?_ <;> (repeat' first | exact trivial | intro hc | refine And.intro ?_ ?_) <;> refine Lf.mk ?_)
  all_goals (refine end_p (VS.mk (LeD.of_eq (congrArg (D.int .i64) ?_))); rw [hw])
  all_goals first | (rw [if_pos]; unfold badReg; simp_all; done) | (rw [if_neg]; unfold badReg; simp_all; done) | (rw [if_neg]; unfold badReg; simp_all; omega)
def bitsOf (op : Int) : Int := irows.foldl (fun b r => if r.op = op then r.bits else b) 0
theorem irow_bits : ∀ r ∈ irows, bitsOf r.op = r.bits ∧ 0 ≤ r.bits ∧ r.bits ≤ 65535 := by unfold bitsOf irows; decide
def encN (b n m v : Nat) : Nat := b ||| n * 256 ||| m * 16 ||| v
def encI (r : IRow) (i : Ins) : Int := (encN r.bits.toNat i.n.toNat i.m.toNat (i.imm % (if r.shape = 5 then 4096 else 256)).toNat : Nat)
def encV (i : Ins) : Int := match infoR i.op with | some r => encI r i | none => 0
theorem wrongI_0 {i : Ins} (h : wrongI i = 0) : ∃ r, infoR i.op = some r ∧ 0 ≤ i.n ∧ i.n ≤ 15 ∧ 0 ≤ i.m ∧ i.m ≤ 15 ∧ (uses1 r.shape = false → i.n = 0) ∧ (uses2 r.shape = false → i.m = 0) ∧ lowI r.shape ≤ i.imm ∧ i.imm ≤ highI r.shape := by
 unfold wrongI at h
 split at h
 ·exact absurd h (by decide)
 ·rename_i r hr
  split at h
  ·exact absurd h (by decide)
  ·rename_i hb
   unfold badReg at hb
   refine ⟨r, hr, by omega, by omega, by omega, by omega, fun h => ?_, fun h => ?_, by omega, by omega⟩
   ·exact Classical.byContradiction fun h' => hb (.inr (.inr (.inl ⟨h, h'⟩)))
   ·exact Classical.byContradiction fun h' => hb (.inr (.inr (.inr (.inr (.inr (.inl ⟨h, h'⟩))))))
theorem bits_step {op : Int} {k : Nat} {r : IRow} (h : irows[k]? = some r) : (irows.take (k + 1)).foldl (fun b r => if r.op = op then r.bits else b) 0 = if r.op = op then r.bits else (irows.take k).foldl (fun b r => if r.op = op then r.bits else b) 0 := by
 obtain ⟨hk, rfl⟩ := List.getElem?_eq_some_iff.1 h
 rw [List.take_succ_eq_append_getElem hk, List.foldl_append]
 rfl
theorem encode_meets : Meets Tryz.prog n_isa_Encode (SpecP (fun _ : Ins => True) (fun i => [insD i]) fun i => .tup [.int .i64 (if wrongI i = 0 then encV i else 0), .int .i64 (wrongI i)]) := by
 refine meets_f tabOk Tryz.func137 rfl (by decide) fun i _ => ?_
 refine ⟨Nat.le_refl _, by simp [Tryz.f137], fun E hE => ?_⟩
 refine vcOk _ ?_
 (all_goals refine qgo (Lf.mk ?_))
 refine call_p iwrong_meets i trivial (VS.mk (by (first | exact LeL.refl _ | (repeat' (first | exact LeL.nil | exact LeD.refl _ | exact LeD.nil _ | exact LeD.strip _ _ _ | refine LeL.cons ?_ ?_ | refine LeD.tup ?_ | refine LeD.agg ?_))))) ?_
 (all_goals refine qgo ?_ <;> (repeat' first | exact trivial | intro hc | refine And.intro ?_ ?_) <;> refine Lf.mk ?_)
 ·refine end_p (VS.mk (LeD.of_eq ?_))
  rw [if_neg hc]
 obtain ⟨r, hi, h1, h2, h3, h4, h5, h6, h7, h8⟩ := wrongI_0 hc
 refine call_p info_meets i.op trivial (VS.mk (by (first | exact LeL.refl _ | (repeat' (first | exact LeL.nil | exact LeD.refl _ | exact LeD.nil _ | exact LeD.strip _ _ _ | refine LeL.cons ?_ ?_ | refine LeD.tup ?_ | refine LeD.agg ?_))))) ?_
 rw [show infoD i.op = .tup [.str r.name, .int .i64 r.shape] by unfold infoD; rw [hi]]
 (all_goals refine qgo (Lf.mk ?_))
 refine call_p rows_meets () trivial (VS.mk (by (first | exact LeL.refl _ | (repeat' (first | exact LeL.nil | exact LeD.refl _ | exact LeD.nil _ | exact LeD.strip _ _ _ | refine LeL.cons ?_ ?_ | refine LeD.tup ?_ | refine LeD.agg ?_))))) ?_
 (all_goals refine qgo (Lf.mk ?_))
 refine awp_loop (α := Nat) (fun k => k ≤ 27) (fun k => [(22, .sl 4 (irows.map irowD) none), (23, .int .i64 27), (24, .int .i64 k), (1, .loc 0 0), (6, .int .i64 r.shape),
  (7, .int .i64 ((irows.take k).foldl (fun b r => if r.op = i.op then r.bits else b) 0))]) (fun _ => [.cells [.int .i64 i.op, .int .i64 i.n, .int .i64 i.m, .int .i64 i.imm]]) (fun k => 27 - k) (fun _ => by simp [hE]) 0 (Nat.zero_le _) ?_ ?_
 ·(repeat' (first | (refine VS.mk ?_) | exact trivial | exact rfl | refine And.intro ?_ ?_))
  all_goals (rw [irows_len]; rfl)
 intro k hk
 refine vcOk _ ?_
 (all_goals refine qgo ?_ <;> (repeat' first | exact trivial | intro hc | refine And.intro ?_ ?_) <;> refine Lf.mk ?_)
 ·obtain ⟨q, hq⟩ := at_of_lt (l := irows) (k := k) (by rw [irows_len]; omega)
  have hst := bits_step (op := i.op) hq
  refine ix_map q (by omega) (by simpa using hq) ?_
  (all_goals refine qgo ?_ <;> (repeat' first | exact trivial | intro hc | refine And.intro ?_ ?_) <;> refine Lf.mk ?_)
  ·refine loop_end (k + 1) (by omega) (by omega) ?_
   rw [hst, if_pos hc]
   (repeat' (first | (refine VS.mk ?_) | exact trivial | exact rfl | refine And.intro ?_ ?_))
  ·refine loop_end (k + 1) (by omega) (by omega) ?_
   rw [hst, if_neg hc]
   (repeat' (first | (refine VS.mk ?_) | exact trivial | exact rfl | refine And.intro ?_ ?_))
 all_goals
  obtain rfl : k = 27 := by omega
  obtain ⟨hm, ho⟩ := infoR_mem hi
  obtain ⟨b1, b2, b3⟩ := irow_bits r hm
  rw [ho] at b1
  obtain ⟨B, hB⟩ := Int.eq_ofNat_of_zero_le b2
  obtain ⟨N, hN⟩ := Int.eq_ofNat_of_zero_le h1
  obtain ⟨M, hM⟩ := Int.eq_ofNat_of_zero_le h3
  have hfold : (irows.take 27).foldl (fun b r => if r.op = i.op then r.bits else b) 0 = (B : Int) := by
   rw [List.take_of_length_le (by rw [irows_len]; exact Nat.le_refl _), ← hB, ← b1]
   rfl
  have hl1 : B ||| N * 256 < 2 ^ 16 := Nat.or_lt_two_pow (by omega) (by omega)
  have hl2 : B ||| N * 256 ||| M * 16 < 2 ^ 16 := Nat.or_lt_two_pow hl1 (by omega)
  rw [hfold]
  refine bit_mk (or_eq (a := B) (b := N * 256) rfl (by omega) (by omega) (by omega)) ?_
  (all_goals refine qgo (Lf.mk ?_))
  refine bit_mk (or_eq (a := B ||| N * 256) (b := M * 16) rfl (by omega) (by omega) (by omega)) ?_
  refine VS.mk ?_
 ·obtain ⟨V, hV⟩ := Int.eq_ofNat_of_zero_le (Int.emod_nonneg i.imm (show (4096 : Int) ≠ 0 by decide))
  refine bit_mk and_4095 ?_
  rw [hV]
  (all_goals refine qgo (Lf.mk ?_))
  refine bit_mk (or_eq (a := B ||| N * 256 ||| M * 16) (b := V) rfl rfl (by omega) (by omega)) ?_
  (all_goals refine qgo (Lf.mk ?_))
  refine end_p (VS.mk (LeD.of_eq ?_))
  rw [if_pos (by assumption), show encV i = encI r i by unfold encV; rw [hi], encI, if_pos (by assumption : r.shape = 5), hV, hB, hN, hM, (by assumption : wrongI i = 0)]
  rfl
 ·obtain ⟨V, hV⟩ := Int.eq_ofNat_of_zero_le (Int.emod_nonneg i.imm (show (256 : Int) ≠ 0 by decide))
  refine bit_mk and_255 ?_
  rw [hV]
  (all_goals refine qgo (Lf.mk ?_))
  refine bit_mk (or_eq (a := B ||| N * 256 ||| M * 16) (b := V) rfl rfl (by omega) (by omega)) ?_
  (all_goals refine qgo (Lf.mk ?_))
  refine end_p (VS.mk (LeD.of_eq ?_))
  rw [if_pos (by assumption), show encV i = encI r i by unfold encV; rw [hi], encI, if_neg (by assumption : ¬ r.shape = 5), hV, hB, hN, hM, (by assumption : wrongI i = 0)]
  rfl
theorem mask_bd (s : Int) : 0 ≤ maskI s ∧ maskI s ≤ 65535 := by unfold maskI; (repeat' split) <;> omega
def fitsR (w : Nat) (r : IRow) : Bool := ((w &&& (maskI r.shape).toNat : Nat) : Int) == r.bits
def decR (w : Nat) : Option IRow := irows.find? (fitsR w)
def immOf (w : Int) (s : Int) : Int := if s = 1 ∨ s = 4 then signedI w 8 else if s = 5 then signedI w 12 else if s = 7 ∨ s = 8 ∨ s = 11 then w % 256 else 0
def insOf (w : Int) (r : IRow) : Ins := ⟨r.op, if uses1 r.shape = true then w / 256 % 16 else 0, if uses2 r.shape = true then w / 16 % 16 else 0, immOf w r.shape⟩
def ins0 : Ins := ⟨0, 0, 0, 0⟩
def decI (w : Int) : Ins × Int := if w < 0 ∨ 65535 < w then (ins0, 3) else match decR w.toNat with
 | some r => (insOf w r, 0)
 | none => (ins0, 12)
theorem decode_meets : Meets Tryz.prog n_isa_Decode (SpecP (fun _ : Int => True) (fun w => [.int .i64 w]) fun w => .tup [insD (decI w).1, .int .i64 (decI w).2]) := by
 refine meets_f tabOk Tryz.func147 rfl (by decide) fun w _ => ?_
 refine ⟨Nat.le_refl _, by simp [Tryz.f147], fun E hE => ?_⟩
 refine vcOk _ ?_
 (all_goals refine qgo ?_ <;> (repeat' first | exact trivial | intro hc | refine And.intro ?_ ?_) <;> refine Lf.mk ?_)
 ·refine end_p (VS.mk (LeD.of_eq ?_))
  rw [show decI w = (ins0, 3) by unfold decI; rw [if_pos (by omega)]]
  rfl
 ·refine end_p (VS.mk (LeD.of_eq ?_))
  rw [show decI w = (ins0, 3) by unfold decI; rw [if_pos (by omega)]]
  rfl
 refine call_p rows_meets () trivial (VS.mk (by (first | exact LeL.refl _ | (repeat' (first | exact LeL.nil | exact LeD.refl _ | exact LeD.nil _ | exact LeD.strip _ _ _ | refine LeL.cons ?_ ?_ | refine LeD.tup ?_ | refine LeD.agg ?_))))) ?_
 (all_goals refine qgo (Lf.mk ?_))
 obtain ⟨W, hW⟩ := Int.eq_ofNat_of_zero_le (show 0 ≤ w by omega)
 subst hW
 refine awp_loop (α := Nat) (fun k => k ≤ 27 ∧ ∀ (i : Nat) r, i < k → irows[i]? = some r → fitsR W r = false) (fun k => [(16, .sl 4 (irows.map irowD) none), (17, .int .i64 27), (18, .int .i64 k), (0, .int .i64 W), (2, .loc 0 0)])
  (fun _ => [.cells [.int .i64 0, .int .i64 0, .int .i64 0, .int .i64 0]]) (fun k => 27 - k) (fun _ => by simp [hE]) 0 ⟨Nat.zero_le _, by simp⟩ ?_ ?_
 ·(repeat' (first | (refine VS.mk ?_) | exact trivial | exact rfl | refine And.intro ?_ ?_))
  all_goals (rw [irows_len]; rfl)
 rintro k ⟨hk, hno⟩
 refine vcOk _ ?_
 (all_goals refine qgo ?_ <;> (repeat' first | exact trivial | intro hc | refine And.intro ?_ ?_) <;> refine Lf.mk ?_)
 ·obtain ⟨r, hr⟩ := at_of_lt (l := irows) (k := k) (by rw [irows_len]; omega)
  refine ix_map r (by omega) (by simpa using hr) ?_
  (all_goals refine qgo (Lf.mk ?_))
  refine call_p mask_meets r.shape trivial (VS.mk (by (first | exact LeL.refl _ | (repeat' (first | exact LeL.nil | exact LeD.refl _ | exact LeD.nil _ | exact LeD.strip _ _ _ | refine LeL.cons ?_ ?_ | refine LeD.tup ?_ | refine LeD.agg ?_))))) ?_
  have hmb := mask_bd r.shape
  obtain ⟨X, hX⟩ := Int.eq_ofNat_of_zero_le hmb.1
  rw [hX]
  (all_goals refine qgo (Lf.mk ?_))
  refine bit_mk (and_eq (a := W) (b := X) rfl rfl (by omega) (by omega)) ?_
  have hfit : fitsR W r = (((W &&& X : Nat) : Int) == r.bits) := by unfold fitsR; rw [hX]; rfl
  (all_goals refine qgo ?_ <;> (repeat' first | exact trivial | intro hc | refine And.intro ?_ ?_) <;> refine Lf.mk ?_)
  ·refine loop_end (k + 1) ⟨by omega, no_step hno hr (by rw [hfit]; simpa using hc)⟩ (by omega) ?_
   (repeat' (first | (refine VS.mk ?_) | exact trivial | exact rfl | refine And.intro ?_ ?_))
  have hf := find_at hr (by rw [hfit]; simpa using hc) hno
  have hd : decI (W : Int) = (insOf W r, 0) := by
   unfold decI
   rw [if_neg (by omega)]
   simp only [Int.toNat_natCast, decR, hf]
  refine call_p uses_meets r.shape trivial (VS.mk (by (first | exact LeL.refl _ | (repeat' (first | exact LeL.nil | exact LeD.refl _ | exact LeD.nil _ | exact LeD.strip _ _ _ | refine LeL.cons ?_ ?_ | refine LeD.tup ?_ | refine LeD.agg ?_))))) ?_
  (all_goals refine qgo ?_ <;> (repeat' first | exact trivial | intro hc | refine And.intro ?_ ?_) <;> refine Lf.mk ?_)
  any_goals (first | (exfalso; clear hd hf hno hX hmb hfit; contradiction) | skip)
  any_goals (first | (refine call_p signed_meets (W, 8) (.inl rfl) (VS.mk (LeL.of_eq rfl)) ?_) | (refine call_p signed_meets (W, 12) (.inr (.inl rfl)) (VS.mk (LeL.of_eq rfl)) ?_) | skip)
  (all_goals refine qgo (Lf.mk ?_))
  all_goals (refine end_p (VS.mk (LeD.of_eq ?_)); rw [hd])
  all_goals (clear hf hno hX hmb hfit hd; simp_all [insD, insOf, immOf])
 ·have hf := no_end hno (by rw [irows_len]; omega)
  have hd : decI (W : Int) = (ins0, 12) := by
   unfold decI
   rw [if_neg (by omega)]
   simp only [Int.toNat_natCast, decR, hf]
  refine end_p (VS.mk (LeD.of_eq ?_))
  rw [hd]
  rfl
end Go.Proofs.YthmdddenbfbefaaGreatDoor
namespace Go.Proofs.YthmdddenbfbefaaGreatDoor
open Go Go.Plat
set_option linter.unusedVariables false
set_option linter.unusedSimpArgs false
set_option maxRecDepth 100000
set_option maxHeartbeats 2000000
attribute [local irreducible] AWP Arith BitS BytesS CallS CatS DrawS EndS IdxS LookS LoopEnd Meets ModeS NilS NormL NormM QuoS RemS ShlS ShrS SideS SplitS bitI
theorem cloneB_meets : Meets Tryz.prog n_slices_Clone_byte_byte (SpecP (fun ds : List D => ds.length ≤ 100000000 ∧ ∀ (i : Nat) d, ds[i]? = some d → d.cells.length = 1) (fun ds => [.sl 1 ds none]) fun ds => .sl 1 ds none) := by
 refine meets_f tabOk Tryz.func43 rfl (by decide) ?_
 rintro ds ⟨hds, hlen⟩
 refine ⟨Nat.le_refl _, by simp [Tryz.f43], fun E hE => ?_⟩
 refine vcOk _ ?_
 (all_goals refine qgo (Lf.mk ?_))
 refine nil_mk (fun h => ?_) ?_
 ·subst h
  (all_goals refine qgo (Lf.mk ?_))
  exact end_p (VS.mk (LeD.nil _))
 (all_goals refine qgo (Lf.mk ?_))
 exact end_p (VS.mk (LeD.refl _))
theorem cloneI_meets : Meets Tryz.prog n_slices_Clone_int_int (SpecP (fun ds : List D => ds.length ≤ 100000000 ∧ ∀ (i : Nat) d, ds[i]? = some d → d.cells.length = 1) (fun ds => [.sl 1 ds none]) fun ds => .sl 1 ds none) := by
 refine meets_f tabOk Tryz.func94 rfl (by decide) ?_
 rintro ds ⟨hds, hlen⟩
 refine ⟨Nat.le_refl _, by simp [Tryz.f94], fun E hE => ?_⟩
 refine vcOk _ ?_
 (all_goals refine qgo (Lf.mk ?_))
 refine nil_mk (fun h => ?_) ?_
 ·subst h
  (all_goals refine qgo (Lf.mk ?_))
  exact end_p (VS.mk (LeD.nil _))
 (all_goals refine qgo (Lf.mk ?_))
 exact end_p (VS.mk (LeD.refl _))
theorem cloneS_meets : Meets Tryz.prog n_slices_Clone_api_Sym_api_Sym (SpecP (fun ds : List D => ds.length ≤ 100000000 ∧ ∀ (i : Nat) d, ds[i]? = some d → d.cells.length = 2) (fun ds => [.sl 2 ds none]) fun ds => .sl 2 ds none) := by
 refine meets_f tabOk Tryz.func99 rfl (by decide) ?_
 rintro ds ⟨hds, hlen⟩
 refine ⟨Nat.le_refl _, by simp [Tryz.f99], fun E hE => ?_⟩
 refine vcOk _ ?_
 (all_goals refine qgo (Lf.mk ?_))
 refine nil_mk (fun h => ?_) ?_
 ·subst h
  (all_goals refine qgo (Lf.mk ?_))
  exact end_p (VS.mk (LeD.nil _))
 (all_goals refine qgo (Lf.mk ?_))
 exact end_p (VS.mk (LeD.refl _))
def byteAt (b : List UInt8) (i : Int) : Int := if 0 ≤ i ∧ i < b.length then ((b.getD i.toNat 0).toNat : Int) else 0
def getN (b : List UInt8) (at_ : Int) : Nat → Int
 | 0 => 0
 | k + 1 => getN b at_ k * 256 + byteAt b (at_ + k)
theorem byteAt_bd (b : List UInt8) (i : Int) : 0 ≤ byteAt b i ∧ byteAt b i < 256 := by
 unfold byteAt; split
 ·have := u8_lt (b.getD i.toNat 0); omega
 ·omega
theorem getN_nn (b : List UInt8) (at_ : Int) : ∀ k, 0 ≤ getN b at_ k
 | 0 => by simp [getN]
 | k + 1 => by have := getN_nn b at_ k; have := byteAt_bd b (at_ + k); simp only [getN]; omega
theorem getN_bd (b : List UInt8) (at_ : Int) (k : Nat) (hk : k ≤ 4) : getN b at_ k ≤ 4294967295 := by
 have h0 := byteAt_bd b (at_ + (0 : Nat)); have h1 := byteAt_bd b (at_ + (1 : Nat)); have h2 := byteAt_bd b (at_ + (2 : Nat)); have h3 := byteAt_bd b (at_ + (3 : Nat))
 match k, hk with
 | 0, _ => simp [getN]
 | 1, _ => simp only [getN]; omega
 | 2, _ => simp only [getN]; omega
 | 3, _ => simp only [getN]; omega
 | 4, _ => simp only [getN]; omega
theorem get_meets : Meets Tryz.prog n_isa_Get (SpecP (fun ((b, at_, size) : List UInt8 × Int × Nat) => -1000000000000 ≤ at_ ∧ at_ ≤ 1000000000000 ∧ size ≤ 4) (fun (b, at_, size) => [bytesD b, .int .i64 at_, .int .i64 size])
  fun (b, at_, size) => .int .i64 (getN b at_ size)) := by
 refine meets_f tabOk Tryz.func140 rfl (by decide) ?_
 rintro ⟨b, at_, size⟩ ⟨h1, h2, h4⟩
 refine ⟨Nat.le_refl _, by simp [Tryz.f140], fun E hE => ?_⟩
 refine vcOk _ ?_
 (all_goals refine qgo (Lf.mk ?_))
 refine awp_loop (α := Nat) (fun k => k ≤ size) (fun k => [(11, .int .i64 k), (10, .int .i64 size), (7, .int .i64 (getN b at_ k)), (0, bytesD b), (1, .int .i64 at_)]) (fun _ => []) (fun k => size - k) (fun _ => by simp [hE]) 0 (Nat.zero_le _) ?_ ?_
 ·(repeat' (first | (refine VS.mk ?_) | exact trivial | exact rfl | refine And.intro ?_ ?_))
 intro k hk
 have g0 := getN_nn b at_ k
 have g1 := getN_bd b at_ k (by omega)
 refine vcOk _ ?_
 (all_goals refine qgo ?_ <;> (repeat' first | exact trivial | intro hc | refine And.intro ?_ ?_) <;> refine Lf.mk ?_)
 ·have hb : byteAt b (at_ + k) = ((b.getD (at_ + (k : Int)).toNat 0).toNat : Int) := by unfold byteAt; rw [if_pos ⟨by omega, by omega⟩]
  have := u8_lt (b.getD (at_ + (k : Int)).toNat 0)
  refine bit_mk (or_add (s := 8) rfl g0 (by omega) (by omega) (by omega)) ?_
  (all_goals refine qgo (Lf.mk ?_))
  refine loop_end (k + 1) (by omega) (by omega) ?_
  (repeat' (first | (refine VS.mk ?_) | exact trivial | exact rfl | refine And.intro ?_ ?_))
  simp [getN, hb]
 ·refine loop_end (k + 1) (by omega) (by omega) ?_
  have hb : byteAt b (at_ + k) = 0 := by unfold byteAt; rw [if_neg (by omega)]
  (repeat' (first | (refine VS.mk ?_) | exact trivial | exact rfl | refine And.intro ?_ ?_))
  simp [getN, hb]
 ·refine loop_end (k + 1) (by omega) (by omega) ?_
  have hb : byteAt b (at_ + k) = 0 := by unfold byteAt; rw [if_neg (by omega)]
  (repeat' (first | (refine VS.mk ?_) | exact trivial | exact rfl | refine And.intro ?_ ?_))
  simp [getN, hb]
 ·obtain rfl : k = size := by omega
  refine end_mk ?_
  (repeat' (first | (refine VS.mk ?_) | exact trivial | exact rfl | refine And.intro ?_ ?_))
def setAt (l : List UInt8) (i : Int) (c : UInt8) : List UInt8 := if 0 ≤ i ∧ i < l.length then l.set i.toNat c else l
def putN (l : List UInt8) (at_ : Int) : Nat → Int → List UInt8
 | 0, _ => l
 | k + 1, n => putN (setAt l (at_ + k) (lowByte n)) at_ k (n / 256)
theorem setAt_len (l : List UInt8) (i : Int) (c : UInt8) : (setAt l i c).length = l.length := by unfold setAt; split <;> simp
theorem putN_len (at_ : Int) : ∀ (k : Nat) (l : List UInt8) (n : Int), (putN l at_ k n).length = l.length
 | 0, l, n => rfl
 | k + 1, l, n => by rw [putN, putN_len, setAt_len]
theorem put_meets : Meets Tryz.prog n_isa_Put (SpecF (fun ((b, at_, size, n) : List UInt8 × Int × Nat × Int) => -1000000000000 ≤ at_ ∧ at_ ≤ 1000000000000 ∧ size ≤ 1000000000000 ∧ b.length ≤ 1000000000)
  (fun (b, at_, size, n) => [bytesD b, .int .i64 at_, .int .i64 size, .int .i64 n]) (fun _ => []) (fun (b, at_, size, n) => .sl 1 ((putN b at_ size n).map byteD) (some 0)) fun (b, _) => [.spare b.length]) := by
 refine meets_f tabOk Tryz.func93 rfl (by decide) ?_
 rintro ⟨b, at_, size, n⟩ ⟨h1, h2, h4, h5⟩
 refine ⟨by simp, by simp [Tryz.f93], fun E hE => ?_⟩
 refine vcOk _ ?_
 (all_goals refine qga (Lf.mk ?_))
 refine awp_loop (α := Nat × List UInt8 × Int) (fun p => p.1 ≤ size ∧ p.2.1.length = b.length ∧ putN p.2.1 at_ p.1 p.2.2 = putN b at_ size n) (fun p => [(10, .int .i64 ((p.1 : Int) - 1)), (1, .int .i64 at_), (3, .int .i64 p.2.2), (9, .osl 1 0 p.2.1.length 0 p.2.1.length)]) (fun p => [.arr 1 (p.2.1.map byteD)]) (fun p => p.1) (fun _ => by simp [hE]) (size, b, n) ⟨Nat.le_refl _, rfl, rfl⟩ ?_ ?_
 ·(repeat' (first | (refine VS.mk ?_) | exact trivial | exact rfl | refine And.intro ?_ ?_))
  ·refine rens_bytes b rfl ?_
   (repeat' (first | (refine VS.mk ?_) | exact trivial | exact rfl | refine And.intro ?_ ?_))
 rintro ⟨k, l, m⟩ ⟨hk, hl, hp⟩
 generalize hj : ((k : Int) - 1) = j at *
 dsimp only at hk hl hp ⊢
 refine vcOk _ ?_
 have hm8 : (0 : Int) < 256 := by decide
 have hn : 0 ≤ j → putN (setAt l (at_ + j) (lowByte m)) at_ (k - 1) (m / 256) = putN b at_ size n := fun h => by
  rw [← hp]
  obtain ⟨k', rfl⟩ : ∃ k', k = k' + 1 := ⟨k - 1, by omega⟩
  obtain rfl : j = k' := by omega
  rfl
 have hset : ∀ x, (setAt l x (lowByte m)).length = b.length := fun x => by rw [setAt_len]; exact hl
 (all_goals refine qgo ?_ <;> (repeat' first | exact trivial | intro hc | refine And.intro ?_ ?_) <;> refine Lf.mk ?_)
 ·have hs : setAt l (at_ + j) (lowByte m) = l.set (at_ + j).toNat (lowByte m) := by unfold setAt; rw [if_pos ⟨by omega, by omega⟩]
  refine loop_end (k - 1, setAt l (at_ + j) (lowByte m), m / 256) ⟨by (dsimp only; omega), hset _, hn (by assumption)⟩ (by dsimp only; omega) ?_
  (repeat' (first | (refine VS.mk ?_) | exact trivial | exact rfl | refine And.intro ?_ ?_))
  ·refine rens_bytes (setAt l (at_ + j) (lowByte m)) ?_ ?_
   ·rw [hs, List.map_set]; simp [byteD]
   ·(repeat' (first | (refine VS.mk ?_) | exact trivial | exact rfl | refine And.intro ?_ ?_))
  (all_goals (first | rfl | (dsimp only; congr 1; omega) | (dsimp only; simp; done) | (dsimp only; simp; omega) | skip))
  all_goals (dsimp only; rw [hset, hl])
 ·have hs : setAt l (at_ + j) (lowByte m) = l := by unfold setAt; rw [if_neg (by omega)]
  refine loop_end (k - 1, setAt l (at_ + j) (lowByte m), m / 256) ⟨by (dsimp only; omega), hset _, hn (by assumption)⟩ (by dsimp only; omega) ?_
  (repeat' (first | (refine VS.mk ?_) | exact trivial | exact rfl | refine And.intro ?_ ?_))
  ·refine rens_bytes (setAt l (at_ + j) (lowByte m)) (by rw [hs]) ?_
   (repeat' (first | (refine VS.mk ?_) | exact trivial | exact rfl | refine And.intro ?_ ?_))
  (all_goals (first | rfl | (dsimp only; congr 1; omega) | (dsimp only; simp; done) | (dsimp only; simp; omega) | skip))
  all_goals (dsimp only; rw [hset, hl])
 ·have hs : setAt l (at_ + j) (lowByte m) = l := by unfold setAt; rw [if_neg (by omega)]
  refine loop_end (k - 1, setAt l (at_ + j) (lowByte m), m / 256) ⟨by (dsimp only; omega), hset _, hn (by assumption)⟩ (by dsimp only; omega) ?_
  (repeat' (first | (refine VS.mk ?_) | exact trivial | exact rfl | refine And.intro ?_ ?_))
  ·refine rens_bytes (setAt l (at_ + j) (lowByte m)) (by rw [hs]) ?_
   (repeat' (first | (refine VS.mk ?_) | exact trivial | exact rfl | refine And.intro ?_ ?_))
  (all_goals (first | rfl | (dsimp only; congr 1; omega) | (dsimp only; simp; done) | (dsimp only; simp; omega) | skip))
  all_goals (dsimp only; rw [hset, hl])
 ·obtain rfl : k = 0 := by omega
  have hp : l = putN b at_ size n := hp
  refine end_freeze_bytes (k := 0) l rfl rfl (Nat.le_refl _) (Nat.zero_le _) (r1 := .sl 1 (l.map byteD) (some 1)) (.here _ _ (by simp) (by simp)) ?_
  refine end_keep [1] rfl rfl ?_
  (repeat' (first | (refine VS.mk ?_) | exact trivial | exact rfl | refine And.intro ?_ ?_))
  ·rw [hp]
  ·rw [hl]
structure OSym where
 name : List UInt8
 at_ : Int
 deriving DecidableEq
def symD (s : OSym) : D := .agg [.str s.name, .int .i64 s.at_]
structure OImg where
 base : Int
 bytes : List UInt8
 syms : List OSym
 deriving DecidableEq
def imgD (i : OImg) : D := .agg [.int .i64 i.base, bytesD i.bytes, .sl 2 (i.syms.map symD) none]
def noImg : OImg := ⟨0, [], []⟩
end Go.Proofs.YthmdddenbfbefaaGreatDoor
