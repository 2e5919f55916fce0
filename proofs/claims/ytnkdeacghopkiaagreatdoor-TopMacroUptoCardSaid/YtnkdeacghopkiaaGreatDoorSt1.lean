/-
  A part of the proof: what the given program's functions answer, each once; conditions that are enough for it.
-/
import Derived.Test.YtnkdeacghopkiaaGreatDoorProg
import Derived.KernelRfl
import Derived.Test.YtnkdeacghopkiaaGreatDoorFw3
import Derived.Lib.LaidTab
import Derived.Sort.Grow
import Derived.Deep.Draws
import Derived.Below
import Derived.Shelf.Utf8.RuneCount
import Derived.Shelf.Strconv.Itoa0
import Derived.Shelf.Strconv.Itoa1
import Derived.Shelf.LaysM
import Derived.Shelf.Strconv.Itoa2
import Derived.Shelf.Strconv.Itoa3
import Derived.Shelf.Strconv.Clone
import Derived.Shelf.Strconv.SyntaxError
import Derived.Shelf.Strconv.Lower
import Derived.Shelf.Strconv.ParseUint10
import Derived.Shelf.Strconv.ParseUint10Empty
import Derived.Shelf.Strconv.RangeError
import Derived.Shelf.Strconv.ParseUintEmpty
import Derived.Shelf.Strconv.ParseUint10b64
import Derived.Shelf.Strings.Search1
import Derived.Shelf.Strings.Search2
import Derived.Shelf.Strings.Search3
import Derived.Shelf.Strings.Cut
import Derived.Shelf.Strings.Count
import Derived.Shelf.Strings.Shaped
import Derived.Shelf.Unicode.DecodeSlow
namespace Go.Proofs.YtnkdeacghopkiaaGreatDoor
open Go Go.Plat
set_option maxRecDepth 100000
theorem y5.of {P : Program} {t : Nat} {i : TI} (h1 : (P.underlying t).map kj = some i.d) (h2 : (P.info? t).map (fun x => (x.size, x.bytes, x.zero)) = some (i.size, i.bytes, some i.zero)) (h3 : Nat.beq i.size 0 = false) (h3b : Nat.beq i.bytes 0 = false) (h4 : Nat.beq i.zero.cells.size i.size = true)
  (h5 : (match P.underlying t with | some (.struct fs) => fs.toList.all fun f => (P.info? f.type).isSome | _ => true) = true) : y5 P t i where
 under := by
  cases h : P.underlying t with
  | none => rw [h] at h1; cases h1
  | some d => rw [h] at h1; exact ⟨d, rfl, by simpa using h1⟩
 info := by
  cases h : P.info? t with
  | none => rw [h] at h2; cases h2
  | some x => rw [h] at h2; simp at h2; exact ⟨x, rfl, h2.1, h2.2.1, h2.2.2⟩
 pos := by intro h; rw [h] at h3; simp at h3
 bpos := by intro h; rw [h] at h3b; simp at h3b
 szero := Nat.eq_of_beq_eq_true h4
 fin := h5
theorem zW.of {P : Program} : ∀ {l : Tab}, l.map (fun p => ((P.underlying p.1).map kj, (P.info? p.1).map fun x => (x.size, x.bytes, x.zero))) = l.map (fun p => (some p.2.d, some (p.2.size, p.2.bytes, some p.2.zero))) →
  l.all (fun p => !Nat.beq p.2.size 0 && !Nat.beq p.2.bytes 0 && Nat.beq p.2.zero.cells.size p.2.size && (match P.underlying p.1 with | some (.struct fs) => fs.toList.all fun f => (P.info? f.type).isSome | _ => true)) = true → zW P l
 | [], _, _ => .nil _
 | (t, i) :: l, h, g => by
  rw [List.map_cons, List.map_cons] at h
  injection h with h1 h2
  rw [Prod.mk.injEq] at h1
  rw [List.all_cons, Bool.and_eq_true] at g
  obtain ⟨g1, g2⟩ := g
  simp only [Bool.and_eq_true, Bool.not_eq_true'] at g1
  obtain ⟨⟨⟨a, b⟩, c⟩, d⟩ := g1
  exact .cons (y5.of h1.1 h1.2 a b c d) (zW.of h2 g2)
def tab : Tab := [
(3, ⟨(.int .i64), 1, 8, (.int .i64 0)⟩),
(4, ⟨.bool, 1, 1, (.bool false)⟩),
(5, ⟨(.int .u8), 1, 1, (.int .u8 0)⟩),
(9, ⟨.str, 1, 16, (.string ⟨#[]⟩)⟩),
(36, ⟨(.slice 5), 1, 24, (.slice none 0 0)⟩),
(2, ⟨(.int .i64), 1, 8, (.int .i64 0)⟩),
(12, ⟨(.int .u64), 1, 8, (.int .u64 0)⟩),
(20, ⟨.iface, 1, 16, .nilIface⟩),
(21, ⟨(.int .i32), 1, 4, (.int .i32 0)⟩),
(22, ⟨(.slice 36), 1, 24, (.slice none 0 0)⟩),
(24, ⟨(.slice 40), 1, 24, (.slice none 0 0)⟩),
(25, ⟨(.slice 4), 1, 24, (.slice none 0 0)⟩),
(26, ⟨(.struct [(0, 3), (1, 24), (2, 25), (3, 22)]), 4, 80, (.agg #[(.int .i64 0), (.slice none 0 0), (.slice none 0 0), (.slice none 0 0)])⟩),
(27, ⟨(.struct [(0, 3), (1, 24), (2, 25), (3, 22)]), 4, 80, (.agg #[(.int .i64 0), (.slice none 0 0), (.slice none 0 0), (.slice none 0 0)])⟩),
(28, ⟨(.int .i64), 1, 8, (.int .i64 0)⟩),
(32, ⟨(.struct [(0, 3), (1, 3)]), 2, 16, (.agg #[(.int .i64 0), (.int .i64 0)])⟩),
(33, ⟨(.struct [(0, 3), (1, 3)]), 2, 16, (.agg #[(.int .i64 0), (.int .i64 0)])⟩),
(37, ⟨(.struct [(0, 28), (1, 3)]), 2, 16, (.agg #[(.int .i64 0), (.int .i64 0)])⟩),
(38, ⟨(.struct [(0, 28), (1, 3)]), 2, 16, (.agg #[(.int .i64 0), (.int .i64 0)])⟩),
(39, ⟨(.struct [(0, 36), (1, 3), (2, 3), (3, 3), (4, 4), (5, 36), (6, 38)]), 8, 96, (.agg #[(.slice none 0 0), (.int .i64 0), (.int .i64 0), (.int .i64 0), (.bool false), (.slice none 0 0), (.int .i64 0), (.int .i64 0)])⟩),
(40, ⟨(.struct [(0, 36), (1, 3), (2, 3), (3, 3), (4, 4), (5, 36), (6, 38)]), 8, 96, (.agg #[(.slice none 0 0), (.int .i64 0), (.int .i64 0), (.int .i64 0), (.bool false), (.slice none 0 0), (.int .i64 0), (.int .i64 0)])⟩),
(42, ⟨(.slice 3), 1, 24, (.slice none 0 0)⟩),
(47, ⟨(.slice 33), 1, 24, (.slice none 0 0)⟩),
(48, ⟨(.slice 28), 1, 24, (.slice none 0 0)⟩),
(51, ⟨(.slice 106), 1, 24, (.slice none 0 0)⟩),
(52, ⟨(.struct [(0, 3), (1, 36), (2, 51)]), 3, 56, (.agg #[(.int .i64 0), (.slice none 0 0), (.slice none 0 0)])⟩),
(53, ⟨(.struct [(0, 3), (1, 36), (2, 51)]), 3, 56, (.agg #[(.int .i64 0), (.slice none 0 0), (.slice none 0 0)])⟩),
(56, ⟨(.arr 16 3), 16, 128, (.agg #[(.int .i64 0), (.int .i64 0), (.int .i64 0), (.int .i64 0), (.int .i64 0), (.int .i64 0), (.int .i64 0), (.int .i64 0), (.int .i64 0), (.int .i64 0), (.int .i64 0), (.int .i64 0), (.int .i64 0), (.int .i64 0), (.int .i64 0), (.int .i64 0)])⟩),
(57, ⟨(.struct [(0, 56), (16, 4), (17, 3), (18, 3), (19, 53), (22, 42), (23, 3)]), 24, 240, (.agg #[(.int .i64 0), (.int .i64 0), (.int .i64 0), (.int .i64 0), (.int .i64 0), (.int .i64 0), (.int .i64 0), (.int .i64 0), (.int .i64 0), (.int .i64 0), (.int .i64 0), (.int .i64 0), (.int .i64 0), (.int .i64 0), (.int .i64 0), (.int .i64 0), (.bool false), (.int .i64 0), (.int .i64 0), (.int .i64 0), (.slice none 0 0), (.slice none 0 0), (.slice none 0 0), (.int .i64 0)])⟩),
(58, ⟨(.struct [(0, 56), (16, 4), (17, 3), (18, 3), (19, 53), (22, 42), (23, 3)]), 24, 240, (.agg #[(.int .i64 0), (.int .i64 0), (.int .i64 0), (.int .i64 0), (.int .i64 0), (.int .i64 0), (.int .i64 0), (.int .i64 0), (.int .i64 0), (.int .i64 0), (.int .i64 0), (.int .i64 0), (.int .i64 0), (.int .i64 0), (.int .i64 0), (.int .i64 0), (.bool false), (.int .i64 0), (.int .i64 0), (.int .i64 0), (.slice none 0 0), (.slice none 0 0), (.slice none 0 0), (.int .i64 0)])⟩),
(67, ⟨(.ptr 27), 1, 8, (.pointer none)⟩),
(70, ⟨(.slice 9), 1, 24, (.slice none 0 0)⟩),
(74, ⟨(.slice 77), 1, 24, (.slice none 0 0)⟩),
(75, ⟨(.slice 109), 1, 24, (.slice none 0 0)⟩),
(76, ⟨(.struct [(0, 36), (1, 51), (2, 75)]), 3, 72, (.agg #[(.slice none 0 0), (.slice none 0 0), (.slice none 0 0)])⟩),
(77, ⟨(.struct [(0, 36), (1, 51), (2, 75)]), 3, 72, (.agg #[(.slice none 0 0), (.slice none 0 0), (.slice none 0 0)])⟩),
(86, ⟨(.ptr 40), 1, 8, (.pointer none)⟩),
(89, ⟨(.struct [(0, 3), (1, 3), (2, 3), (3, 3), (4, 38), (6, 36)]), 7, 72, (.agg #[(.int .i64 0), (.int .i64 0), (.int .i64 0), (.int .i64 0), (.int .i64 0), (.int .i64 0), (.slice none 0 0)])⟩),
(90, ⟨(.struct [(0, 3), (1, 3), (2, 3), (3, 3), (4, 38), (6, 36)]), 7, 72, (.agg #[(.int .i64 0), (.int .i64 0), (.int .i64 0), (.int .i64 0), (.int .i64 0), (.int .i64 0), (.slice none 0 0)])⟩),
(94, ⟨(.ptr 90), 1, 8, (.pointer none)⟩),
(100, ⟨(.ptr 102), 1, 8, (.pointer none)⟩),
(101, ⟨(.struct [(0, 36), (1, 4)]), 2, 32, (.agg #[(.slice none 0 0), (.bool false)])⟩),
(102, ⟨(.struct [(0, 36), (1, 4)]), 2, 32, (.agg #[(.slice none 0 0), (.bool false)])⟩),
(105, ⟨(.struct [(0, 9), (1, 3)]), 2, 24, (.agg #[(.string ⟨#[]⟩), (.int .i64 0)])⟩),
(106, ⟨(.struct [(0, 9), (1, 3)]), 2, 24, (.agg #[(.string ⟨#[]⟩), (.int .i64 0)])⟩),
(108, ⟨(.struct [(0, 3), (1, 3), (2, 9), (3, 3)]), 4, 40, (.agg #[(.int .i64 0), (.int .i64 0), (.string ⟨#[]⟩), (.int .i64 0)])⟩),
(109, ⟨(.struct [(0, 3), (1, 3), (2, 9), (3, 3)]), 4, 40, (.agg #[(.int .i64 0), (.int .i64 0), (.string ⟨#[]⟩), (.int .i64 0)])⟩),
(116, ⟨(.struct [(0, 3), (1, 3), (2, 3), (3, 3)]), 4, 32, (.agg #[(.int .i64 0), (.int .i64 0), (.int .i64 0), (.int .i64 0)])⟩),
(117, ⟨(.struct [(0, 3), (1, 3), (2, 3), (3, 3)]), 4, 32, (.agg #[(.int .i64 0), (.int .i64 0), (.int .i64 0), (.int .i64 0)])⟩),
(120, ⟨(.ptr 58), 1, 8, (.pointer none)⟩),
(131, ⟨(.arr 24 5), 24, 24, (.agg #[(.int .u8 0), (.int .u8 0), (.int .u8 0), (.int .u8 0), (.int .u8 0), (.int .u8 0), (.int .u8 0), (.int .u8 0), (.int .u8 0), (.int .u8 0), (.int .u8 0), (.int .u8 0), (.int .u8 0), (.int .u8 0), (.int .u8 0), (.int .u8 0), (.int .u8 0), (.int .u8 0), (.int .u8 0), (.int .u8 0), (.int .u8 0), (.int .u8 0), (.int .u8 0), (.int .u8 0)])⟩),
(132, ⟨(.int .u64), 1, 8, (.int .u64 0)⟩),
(137, ⟨(.slice 167), 1, 24, (.slice none 0 0)⟩),
(140, ⟨(.slice 250), 1, 24, (.slice none 0 0)⟩),
(144, ⟨(.map 9 4), 1, 8, (.map none)⟩),
(149, ⟨(.int .u64), 1, 8, (.int .u64 0)⟩),
(152, ⟨(.ptr 3), 1, 8, (.pointer none)⟩),
(158, ⟨(.arr 20 132), 20, 160, (.agg #[(.int .u64 0), (.int .u64 0), (.int .u64 0), (.int .u64 0), (.int .u64 0), (.int .u64 0), (.int .u64 0), (.int .u64 0), (.int .u64 0), (.int .u64 0), (.int .u64 0), (.int .u64 0), (.int .u64 0), (.int .u64 0), (.int .u64 0), (.int .u64 0), (.int .u64 0), (.int .u64 0), (.int .u64 0), (.int .u64 0)])⟩),
(159, ⟨(.int .u32), 1, 4, (.int .u32 0)⟩),
(163, ⟨(.slice 204), 1, 24, (.slice none 0 0)⟩),
(166, ⟨(.struct [(0, 3), (1, 163)]), 2, 32, (.agg #[(.int .i64 0), (.slice none 0 0)])⟩),
(167, ⟨(.struct [(0, 3), (1, 163)]), 2, 32, (.agg #[(.int .i64 0), (.slice none 0 0)])⟩),
(168, ⟨(.ptr 171), 1, 8, (.pointer none)⟩),
(169, ⟨(.slice 213), 1, 24, (.slice none 0 0)⟩),
(170, ⟨(.struct [(0, 169), (1, 140), (2, 137), (3, 3), (4, 38)]), 6, 96, (.agg #[(.slice none 0 0), (.slice none 0 0), (.slice none 0 0), (.int .i64 0), (.int .i64 0), (.int .i64 0)])⟩),
(171, ⟨(.struct [(0, 169), (1, 140), (2, 137), (3, 3), (4, 38)]), 6, 96, (.agg #[(.slice none 0 0), (.slice none 0 0), (.slice none 0 0), (.int .i64 0), (.int .i64 0), (.int .i64 0)])⟩),
(173, ⟨(.ptr 177), 1, 8, (.pointer none)⟩),
(174, ⟨(.slice 185), 1, 24, (.slice none 0 0)⟩),
(175, ⟨(.slice 229), 1, 24, (.slice none 0 0)⟩),
(176, ⟨(.struct [(0, 140), (1, 174), (2, 51), (3, 42), (4, 175), (5, 3), (6, 77), (9, 38)]), 11, 216, (.agg #[(.slice none 0 0), (.slice none 0 0), (.slice none 0 0), (.slice none 0 0), (.slice none 0 0), (.int .i64 0), (.slice none 0 0), (.slice none 0 0), (.slice none 0 0), (.int .i64 0), (.int .i64 0)])⟩),
(177, ⟨(.struct [(0, 140), (1, 174), (2, 51), (3, 42), (4, 175), (5, 3), (6, 77), (9, 38)]), 11, 216, (.agg #[(.slice none 0 0), (.slice none 0 0), (.slice none 0 0), (.slice none 0 0), (.slice none 0 0), (.int .i64 0), (.slice none 0 0), (.slice none 0 0), (.slice none 0 0), (.int .i64 0), (.int .i64 0)])⟩),
(181, ⟨(.ptr 185), 1, 8, (.pointer none)⟩),
(182, ⟨(.struct [(0, 9), (1, 3)]), 2, 24, (.agg #[(.string ⟨#[]⟩), (.int .i64 0)])⟩),
(183, ⟨(.struct [(0, 9), (1, 3)]), 2, 24, (.agg #[(.string ⟨#[]⟩), (.int .i64 0)])⟩),
(184, ⟨(.struct [(0, 3), (1, 3), (2, 3), (3, 117), (7, 4), (8, 3), (9, 183), (11, 3), (12, 3)]), 13, 112, (.agg #[(.int .i64 0), (.int .i64 0), (.int .i64 0), (.int .i64 0), (.int .i64 0), (.int .i64 0), (.int .i64 0), (.bool false), (.int .i64 0), (.string ⟨#[]⟩), (.int .i64 0), (.int .i64 0), (.int .i64 0)])⟩),
(185, ⟨(.struct [(0, 3), (1, 3), (2, 3), (3, 117), (7, 4), (8, 3), (9, 183), (11, 3), (12, 3)]), 13, 112, (.agg #[(.int .i64 0), (.int .i64 0), (.int .i64 0), (.int .i64 0), (.int .i64 0), (.int .i64 0), (.int .i64 0), (.bool false), (.int .i64 0), (.string ⟨#[]⟩), (.int .i64 0), (.int .i64 0), (.int .i64 0)])⟩),
(187, ⟨(.slice 190), 1, 24, (.slice none 0 0)⟩),
(189, ⟨(.struct [(0, 3), (1, 9), (2, 3), (3, 3)]), 4, 40, (.agg #[(.int .i64 0), (.string ⟨#[]⟩), (.int .i64 0), (.int .i64 0)])⟩),
(190, ⟨(.struct [(0, 3), (1, 9), (2, 3), (3, 3)]), 4, 40, (.agg #[(.int .i64 0), (.string ⟨#[]⟩), (.int .i64 0), (.int .i64 0)])⟩),
(199, ⟨(.ptr 201), 1, 8, (.pointer none)⟩),
(200, ⟨(.struct [(0, 9), (1, 3)]), 2, 24, (.agg #[(.string ⟨#[]⟩), (.int .i64 0)])⟩),
(201, ⟨(.struct [(0, 9), (1, 3)]), 2, 24, (.agg #[(.string ⟨#[]⟩), (.int .i64 0)])⟩),
(203, ⟨(.struct [(0, 3), (1, 3), (2, 9)]), 3, 32, (.agg #[(.int .i64 0), (.int .i64 0), (.string ⟨#[]⟩)])⟩),
(204, ⟨(.struct [(0, 3), (1, 3), (2, 9)]), 3, 32, (.agg #[(.int .i64 0), (.int .i64 0), (.string ⟨#[]⟩)])⟩),
(212, ⟨(.struct [(0, 9), (1, 70), (2, 137)]), 3, 64, (.agg #[(.string ⟨#[]⟩), (.slice none 0 0), (.slice none 0 0)])⟩),
(213, ⟨(.struct [(0, 9), (1, 70), (2, 137)]), 3, 64, (.agg #[(.string ⟨#[]⟩), (.slice none 0 0), (.slice none 0 0)])⟩),
(216, ⟨(.ptr 218), 1, 8, (.pointer none)⟩),
(217, ⟨(.struct [(0, 173), (1, 163), (2, 3)]), 3, 40, (.agg #[(.pointer none), (.slice none 0 0), (.int .i64 0)])⟩),
(218, ⟨(.struct [(0, 173), (1, 163), (2, 3)]), 3, 40, (.agg #[(.pointer none), (.slice none 0 0), (.int .i64 0)])⟩),
(219, ⟨(.slice 260), 1, 24, (.slice none 0 0)⟩),
(229, ⟨(.slice 183), 1, 24, (.slice none 0 0)⟩),
(239, ⟨.iface, 1, 16, .nilIface⟩),
(240, ⟨.iface, 1, 16, .nilIface⟩),
(250, ⟨(.struct [(0, 9), (1, 3)]), 2, 24, (.agg #[(.string ⟨#[]⟩), (.int .i64 0)])⟩),
(254, ⟨(.slice 163), 1, 24, (.slice none 0 0)⟩),
(259, ⟨(.struct [(0, 9), (1, 3), (2, 183)]), 4, 48, (.agg #[(.string ⟨#[]⟩), (.int .i64 0), (.string ⟨#[]⟩), (.int .i64 0)])⟩),
(260, ⟨(.struct [(0, 9), (1, 3), (2, 183)]), 4, 48, (.agg #[(.string ⟨#[]⟩), (.int .i64 0), (.string ⟨#[]⟩), (.int .i64 0)])⟩),
(265, ⟨(.map 3 3), 1, 8, (.map none)⟩),
(275, ⟨(.slice 277), 1, 24, (.slice none 0 0)⟩),
(276, ⟨(.struct [(0, 3), (1, 3), (2, 9), (3, 275)]), 4, 56, (.agg #[(.int .i64 0), (.int .i64 0), (.string ⟨#[]⟩), (.slice none 0 0)])⟩),
(277, ⟨(.struct [(0, 3), (1, 3), (2, 9), (3, 275)]), 4, 56, (.agg #[(.int .i64 0), (.int .i64 0), (.string ⟨#[]⟩), (.slice none 0 0)])⟩),
(286, ⟨(.ptr 229), 1, 8, (.pointer none)⟩),
(288, ⟨(.int .i64), 1, 8, (.int .i64 0)⟩),
(290, ⟨(.ptr 306), 1, 8, (.pointer none)⟩),
(293, ⟨(.ptr 295), 1, 8, (.pointer none)⟩),
(294, ⟨(.struct [(0, 163), (1, 28)]), 2, 32, (.agg #[(.slice none 0 0), (.int .i64 0)])⟩),
(295, ⟨(.struct [(0, 163), (1, 28)]), 2, 32, (.agg #[(.slice none 0 0), (.int .i64 0)])⟩),
(299, ⟨(.struct [(0, 5), (1, 5)]), 2, 2, (.agg #[(.int .u8 0), (.int .u8 0)])⟩),
(300, ⟨(.struct [(0, 5), (1, 5)]), 2, 2, (.agg #[(.int .u8 0), (.int .u8 0)])⟩),
(301, ⟨(.arr 16 300), 32, 32, (.agg #[(.int .u8 0), (.int .u8 0), (.int .u8 0), (.int .u8 0), (.int .u8 0), (.int .u8 0), (.int .u8 0), (.int .u8 0), (.int .u8 0), (.int .u8 0), (.int .u8 0), (.int .u8 0), (.int .u8 0), (.int .u8 0), (.int .u8 0), (.int .u8 0), (.int .u8 0), (.int .u8 0), (.int .u8 0), (.int .u8 0), (.int .u8 0), (.int .u8 0), (.int .u8 0), (.int .u8 0), (.int .u8 0), (.int .u8 0), (.int .u8 0), (.int .u8 0), (.int .u8 0), (.int .u8 0), (.int .u8 0), (.int .u8 0)])⟩),
(305, ⟨(.struct [(0, 9), (1, 9), (2, 240)]), 3, 48, (.agg #[(.string ⟨#[]⟩), (.string ⟨#[]⟩), .nilIface])⟩),
(306, ⟨(.struct [(0, 9), (1, 9), (2, 240)]), 3, 48, (.agg #[(.string ⟨#[]⟩), (.string ⟨#[]⟩), .nilIface])⟩),
(308, ⟨(.slice 313), 1, 24, (.slice none 0 0)⟩),
(312, ⟨(.struct [(0, 70), (1, 42)]), 2, 48, (.agg #[(.slice none 0 0), (.slice none 0 0)])⟩),
(313, ⟨(.struct [(0, 70), (1, 42)]), 2, 48, (.agg #[(.slice none 0 0), (.slice none 0 0)])⟩),
(317, ⟨(.ptr 5), 1, 8, (.pointer none)⟩),
(318, ⟨(.ptr 320), 1, 8, (.pointer none)⟩),
(319, ⟨(.struct [(0, 9)]), 1, 16, (.agg #[(.string ⟨#[]⟩)])⟩),
(320, ⟨(.struct [(0, 9)]), 1, 16, (.agg #[(.string ⟨#[]⟩)])⟩)]
theorem zj : zW Tryz.prog tab := zW.of (by kernel_rfl) (by kernel_rfl)
theorem mixed : Tryz.prog.follows .mixedOrders = true := by kernel_rfl
theorem ze {n : Nat} {E : xk} (c : Code) {Q : Ex → List (Nat × D) → List Ob → Prop} {σ : List (Nat × D)} {L : List Ob} (h : vcK Tryz.prog tab n E c Q σ L) : AWP Tryz.prog n E c Q σ L := za3 zj mixed c h
abbrev wI : Nat := 4
abbrev zlw : Nat := 10
abbrev zj4 : Nat := 11
abbrev zmJ : Nat := 12
abbrev zrV : Nat := 15
abbrev zrW : Nat := 16
abbrev zcq : Nat := 19
abbrev zmK : Nat := 25
abbrev zoM : Nat := 29
abbrev zrX : Nat := 30
abbrev zqC : Nat := 31
abbrev zoN : Nat := 32
abbrev zeD : Nat := 39
abbrev zoO : Nat := 40
abbrev zmL : Nat := 45
abbrev zmM : Nat := 46
abbrev zoP : Nat := 47
abbrev zrY : Nat := 48
abbrev ja : Nat := 49
abbrev zoQ : Nat := 50
abbrev zoR : Nat := 51
abbrev zoS : Nat := 52
abbrev zqD : Nat := 53
abbrev jZ : Nat := 54
abbrev zrZ : Nat := 57
abbrev zmN : Nat := 65
abbrev zd5 : Nat := 66
abbrev zoT : Nat := 67
abbrev zhj : Nat := 68
abbrev zmO : Nat := 69
abbrev vc : Nat := 70
abbrev zbE : Nat := 71
abbrev ztS : Nat := 72
abbrev zmP : Nat := 73
abbrev zqE : Nat := 74
abbrev zr0 : Nat := 75
abbrev ztT : Nat := 76
abbrev zi0 : Nat := 84
abbrev zlx : Nat := 85
abbrev q9 : Nat := 86
abbrev zbg : Nat := 87
abbrev zbh : Nat := 88
abbrev zfi : Nat := 89
abbrev zfZ : Nat := 90
abbrev zly : Nat := 91
abbrev zmQ : Nat := 92
abbrev zqF : Nat := 93
abbrev zqG : Nat := 94
abbrev zqH : Nat := 95
abbrev zqI : Nat := 96
abbrev zf0 : Nat := 99
abbrev zlz : Nat := 100
abbrev zg2 : Nat := 101
abbrev zi1 : Nat := 102
abbrev zi2 : Nat := 103
abbrev zeE : Nat := 104
abbrev zf1 : Nat := 105
abbrev zmR : Nat := 107
abbrev zfj : Nat := 108
abbrev zbi : Nat := 110
abbrev zf2 : Nat := 111
abbrev zqJ : Nat := 112
abbrev zai : Nat := 113
abbrev v8 : Nat := 114
abbrev zcr : Nat := 115
abbrev zbj : Nat := 116
abbrev zaj : Nat := 117
abbrev zak : Nat := 118
abbrev kU : Nat := 119
abbrev zal : Nat := 120
abbrev vh : Nat := 121
abbrev zqK : Nat := 122
abbrev zbk : Nat := 123
abbrev zbl : Nat := 124
abbrev ztU : Nat := 125
abbrev zbm : Nat := 126
abbrev kB : Nat := 127
abbrev j0 : Nat := 128
abbrev zbn : Nat := 129
abbrev zbo : Nat := 130
abbrev zi3 : Nat := 132
abbrev zi4 : Nat := 133
abbrev zbF : Nat := 134
abbrev zdB : Nat := 135
abbrev zfk : Nat := 136
abbrev zf3 : Nat := 137
abbrev zfl : Nat := 138
abbrev zoU : Nat := 139
abbrev zeF : Nat := 140
abbrev zlA : Nat := 142
abbrev kh : Nat := 143
abbrev zcs : Nat := 147
abbrev zaw : Nat := 148
abbrev zj5 : Nat := 149
abbrev ki : Nat := 150
abbrev jE : Nat := 151
abbrev jF : Nat := 152
abbrev zct : Nat := 153
abbrev zbS : Nat := 154
abbrev qy : Nat := 155
abbrev zmS : Nat := 156
abbrev zi5 : Nat := 157
abbrev zoV : Nat := 158
abbrev zbp : Nat := 159
abbrev qk : Nat := 160
abbrev zoW : Nat := 161
abbrev zmT : Nat := 162
abbrev zax : Nat := 166
abbrev zay : Nat := 167
abbrev zg3 : Nat := 168
abbrev jq : Nat := 169
abbrev jN : Nat := 170
abbrev zmU : Nat := 171
abbrev zoX : Nat := 172
abbrev vd : Nat := 173
abbrev zj6 : Nat := 174
abbrev zbq : Nat := 175
abbrev kV : Nat := 176
abbrev zcu : Nat := 182
abbrev zd6 : Nat := 184
abbrev zeG : Nat := 185
abbrev zhY : Nat := 188
abbrev zbG : Nat := 189
abbrev zqL : Nat := 190
abbrev zcP : Nat := 191
abbrev zlB : Nat := 196
abbrev zg4 : Nat := 197
abbrev zf4 : Nat := 198
abbrev zlC : Nat := 199
abbrev zf5 : Nat := 201
end Go.Proofs.YtnkdeacghopkiaaGreatDoor
namespace Go.Proofs.YtnkdeacghopkiaaGreatDoor
open Go Go.Plat
set_option linter.unusedVariables false
set_option linter.unusedSimpArgs false
set_option maxRecDepth 100000
set_option maxHeartbeats 2000000
attribute [local irreducible] AWP zA yh zE zn yu z6 zF zX zY zq za zL yv zo zZ yq yr yj ym zr zu zz
def zK (c : UInt8) : Bool := decide (97 ≤ c.toNat ∧ c.toNat ≤ 122 ∨ 65 ≤ c.toNat ∧ c.toNat ≤ 90 ∨ c.toNat = 95 ∨ c.toNat = 46)
def yt (c : UInt8) : Bool := decide (48 ≤ c.toNat ∧ c.toNat ≤ 57)
def yA (c : UInt8) : Int := if zK c = true then 97 else if yt c = true then 48 else if c.toNat = 32 ∨ c.toNat = 9 ∨ c.toNat = 13 then 32 else 0
theorem kC : za Tryz.prog zly (zx (fun _ : UInt8 => True) (fun c => [zI c]) fun c => .bool (zK c)) := by
 refine zf zj Tryz.func91 rfl (by decide) fun c _ => ?_
 refine ⟨Nat.le_refl _, by simp [Tryz.f91], fun E hE => ?_⟩
 refine ze _ ?_
 (all_goals refine qgo ?_ <;> (repeat' first | exact trivial | intro hc | refine And.intro ?_ ?_) <;> refine Lf.mk ?_)
 all_goals first
  | (refine zd (VS.mk (LeD.tt ?_)); unfold zK; rw [decide_eq_true_eq]; omega)
  | (refine zd (VS.mk (LeD.ff ?_)); unfold zK; rw [decide_eq_false_iff_not]; omega)
  | (refine zd (VS.mk (LeD.of_eq (congrArg D.bool ?_))); unfold zK; rw [Bool.eq_iff_iff]; simp only [beq_iff_eq, decide_eq_true_eq]; omega)
theorem zaK : za Tryz.prog zmQ (zx (fun _ : UInt8 => True) (fun c => [zI c]) fun c => .bool (yt c)) := by
 refine zf zj Tryz.func92 rfl (by decide) fun c _ => ?_
 refine ⟨Nat.le_refl _, by simp [Tryz.f92], fun E hE => ?_⟩
 refine ze _ ?_
 (all_goals refine qgo ?_ <;> (repeat' first | exact trivial | intro hc | refine And.intro ?_ ?_) <;> refine Lf.mk ?_)
 all_goals first
  | (refine zd (VS.mk (LeD.tt ?_)); unfold yt; rw [decide_eq_true_eq]; omega)
  | (refine zd (VS.mk (LeD.ff ?_)); unfold yt; rw [decide_eq_false_iff_not]; omega)
  | (refine zd (VS.mk (LeD.of_eq (congrArg D.bool ?_))); unfold yt; rw [Bool.eq_iff_iff]; simp only [beq_iff_eq, decide_eq_true_eq]; omega)
def yH (s : List UInt8) : Bool := decide (1 ≤ s.length ∧ s.length ≤ 10) && zK (s.getD 0 0) && s.all fun c => (zK c || yt c) && !(c == 46)
def okC (c : UInt8) : Bool := (zK c || yt c) && !(c == 46)
attribute [local irreducible] zK yt yA
theorem ztV {p : UInt8 → Bool} {s : List UInt8} {k : Nat} (hk : k < s.length) : (s.take (k + 1)).all p = ((s.take k).all p && p (s.getD k 0)) := by
 rw [List.take_succ_eq_append_getElem hk, List.all_append]
 simp [List.getD_eq_getElem?_getD, List.getElem?_eq_getElem hk]
theorem zmV {p : UInt8 → Bool} {s : List UInt8} {k : Nat} (hk : k < s.length) (h : p (s.getD k 0) = false) : s.all p = false := by
 rw [← List.take_append_drop k s, List.all_append, List.drop_eq_getElem_cons hk]
 have : s.getD k 0 = s[k] := by simp [List.getD_eq_getElem?_getD, List.getElem?_eq_getElem hk]
 rw [this] at h
 rw [List.all_cons, h, Bool.false_and, Bool.and_false]
theorem zmW : za Tryz.prog zhj (zx (fun _ : List UInt8 => True) (fun s => [.str s]) fun s => .bool (yH s)) := by
 refine zf zj Tryz.func68 rfl (by decide) fun s _ => ?_
 refine ⟨Nat.le_refl _, by simp [Tryz.f68], fun E hE => ?_⟩
 refine ze _ ?_
 (all_goals refine qgo ?_ <;> (repeat' first | exact trivial | intro hc | refine And.intro ?_ ?_) <;> refine Lf.mk ?_)
 ·refine zd (VS.mk (LeD.ff ?_))
  unfold yH
  rw [decide_eq_false (by omega)]
  rfl
 ·refine zd (VS.mk (LeD.ff ?_))
  unfold yH
  rw [decide_eq_false (by omega)]
  rfl
 ·refine zd (VS.mk (LeD.ff ?_))
  have e : okC (s.getD 0 0) = false := by
   have : s.getD 0 0 = 46 := UInt8.toNat_inj.1 (by exact_mod_cast hc)
   rw [this]
   unfold okC
   rw [Bool.and_eq_false_iff]
   exact .inr rfl
  have h2 : s.all okC = false := zmV (k := 0) (by omega) e
  show (_ && _ && s.all okC) = false
  rw [h2, Bool.and_false]
 refine zb kC (s.getD 0 0) trivial (VS.mk (LeL.of_eq rfl)) ?_
 (all_goals refine qgo ?_ <;> (repeat' first | exact trivial | intro hc | refine And.intro ?_ ?_) <;> refine Lf.mk ?_)
 ·refine zd (VS.mk (LeD.ff ?_))
  show (_ && zK (s.getD 0 0) && _) = false
  rw [hc, Bool.and_false, Bool.false_and]
 have hl0 : zK (s.getD 0 0) = true := by assumption
 refine ye (α := Nat) (fun k => k ≤ s.length ∧ (s.take k).all okC = true) (fun k => [(0, .str s), (24, .int .i64 s.length), (25, .int .i64 k)]) (fun _ => []) (fun k => s.length - k) (fun _ => by simp [hE]) 0 ⟨Nat.zero_le _, by simp⟩ ?_ ?_
 ·(repeat' (first | (refine VS.mk ?_) | exact trivial | exact rfl | refine And.intro ?_ ?_))
 rintro k ⟨hk, hall⟩
 refine ze _ ?_
 (all_goals refine qgo ?_ <;> (repeat' first | exact trivial | intro hc | refine And.intro ?_ ?_) <;> refine Lf.mk ?_)
 ·have hidx : ((k : Int)).toNat = k := Int.toNat_natCast k
  have hk' : k < s.length := by omega
  have hst := ztV (p := okC) hk'
  have hsp := zmV (p := okC) hk'
  have hok : okC (s.getD k 0) = ((zK (s.getD k 0) || yt (s.getD k 0)) && !(s.getD k 0 == 46)) := rfl
  have h46 : (((s.getD k 0).toNat : Nat) : Int) = 46 → okC (s.getD k 0) = false := fun h => by
   have : s.getD k 0 = 46 := UInt8.toNat_inj.1 (by exact_mod_cast h)
   rw [hok, this]
   rw [Bool.and_eq_false_iff]
   exact .inr rfl
  have n46 : ¬ (((s.getD k 0).toNat : Nat) : Int) = 46 → (s.getD k 0 == 46) = false := fun h => beq_eq_false_iff_ne.2 fun e => h (by rw [e]; rfl)
  have bad : okC (s.getD k 0) = false → yH s = false := fun h => by
   show (_ && zK (s.getD 0 0) && s.all okC) = false
   rw [hsp h, Bool.and_false]
  refine zb kC (s.getD k 0) trivial (VS.mk (LeL.of_eq (by rw [hidx]; rfl))) ?_
  (all_goals refine qgo ?_ <;> (repeat' first | exact trivial | intro hc | refine And.intro ?_ ?_) <;> refine Lf.mk ?_)
  ·refine zb zaK (s.getD k 0) trivial (VS.mk (LeL.of_eq (by rw [hidx]; rfl))) ?_
   (all_goals refine qgo ?_ <;> (repeat' first | exact trivial | intro hc | refine And.intro ?_ ?_) <;> refine Lf.mk ?_)
   ·refine zd (VS.mk (LeD.ff (bad ?_)))
    rw [hok, (by assumption : zK (s.getD k 0) = false), (by assumption : yt (s.getD k 0) = false)]
    rfl
   ·rw [hidx] at hc
    exact zd (VS.mk (LeD.ff (bad (h46 hc))))
   ·rw [hidx] at hc
    refine zB (k + 1) ⟨by omega, ?_⟩ (by omega) ?_
    rotate_left
    ·rw [hst, hall, hok, (by assumption : yt (s.getD k 0) = true), n46 hc, Bool.or_true]
     rfl
    ·(repeat' (first | (refine VS.mk ?_) | exact trivial | exact rfl | refine And.intro ?_ ?_))
  ·rw [hidx] at hc
   exact zd (VS.mk (LeD.ff (bad (h46 hc))))
  ·rw [hidx] at hc
   refine zB (k + 1) ⟨by omega, ?_⟩ (by omega) ?_
   rotate_left
   ·rw [hst, hall, hok, (by assumption : zK (s.getD k 0) = true), n46 hc]
    rfl
   ·(repeat' (first | (refine VS.mk ?_) | exact trivial | exact rfl | refine And.intro ?_ ?_))
 ·refine zd (VS.mk (LeD.tt ?_))
  rw [List.take_of_length_le (by omega)] at hall
  show (_ && zK (s.getD 0 0) && s.all okC) = true
  rw [hl0, hall, decide_eq_true (by omega)]
  rfl
theorem zr1 {P : Program} {f : Nat} {α : Type} {I J : α → Prop} {A : α → List D} {R : α → D} (h : za P f (zx I A R)) (hJ : ∀ p, J p → I p) : za P f (zx J A R) :=
 by
 unfold za at h ⊢
 exact ⟨h.1, fun av L d M ⟨p, hp, hr⟩ => h.2 av L d M ⟨p, hJ p hp, hr⟩⟩
theorem j5 : za Tryz.prog zhj (zx (fun s : List UInt8 => s.length ≤ 1000000000) (fun s => [.str s]) fun s => .bool (yH s)) := zr1 zmW fun _ _ => trivial
attribute [local irreducible] okC
def yS (b : Int) (c : UInt8) : Int :=
 if 48 ≤ c.toNat ∧ c.toNat ≤ 57 then (c.toNat : Int) - 48 else if b = 16 ∧ 97 ≤ c.toNat ∧ c.toNat ≤ 102 then (c.toNat : Int) - 97 + 10
 else if b = 16 ∧ 65 ≤ c.toNat ∧ c.toNat ≤ 70 then (c.toNat : Int) - 65 + 10 else -1
theorem zwS (b : Int) (c : UInt8) : -1 ≤ yS b c ∧ yS b c ≤ 15 := by
 unfold yS
 repeat' split
 all_goals omega
def zdC (b : Int) : List UInt8 → Int → Option Int
 | [], n => some n
 | c :: r, n => if yS b c < 0 ∨ 4294967295 < n then none else zdC b r (n * b + yS b c)
def zr2 (ds : List UInt8) : Option Int → Int × Bool
 | none => (0, false)
 | some n => (n, decide (n < 4294967296 ∧ ds ≠ []))
def zeH (b : Int) (ds : List UInt8) : Int × Bool := zr2 ds (zdC b ds 0)
def xV (w : List UInt8) : Int × Bool := if 2 < w.length ∧ w.take 2 = [48, 120] then zeH 16 (w.drop 2) else zeH 10 w
theorem zdc {α : Type} {l : List α} {k : Nat} {d : α} (h : k < l.length) : l.drop k = l.getD k d :: l.drop (k + 1) := by
 rw [List.drop_eq_getElem_cons h, List.getD_eq_getElem?_getD, List.getElem?_eq_getElem h]; rfl
attribute [local irreducible] yS
structure zH where
 kind : Int
 n : Int
 text : List UInt8
def zJ (t : zH) : D := .agg [.int .i64 t.kind, .int .i64 t.n, .str t.text]
def x0 (c : UInt8) : Bool := decide (yA c = 97) || decide (yA c = 48) || c == 47
def x4 (c : UInt8) : Bool := (decide (yA c = 97) && !(c == 46)) || decide (yA c = 48)
def zO (p : UInt8 → Bool) : List UInt8 → Nat
 | [] => 0
 | c :: r => if p c = true then zO p r + 1 else 0
def zd7 : List UInt8 := [58, 44, 35, 64, 40, 41, 43, 45, 42, 38, 124, 126, 61]
def vj : Nat → List UInt8 → List zH → Option (List zH)
 | 0, _, out => some out
 | _ + 1, [], out => some out
 | f + 1, c :: r, out =>
  if yA c = 32 then vj f r out
  else if yA c = 97 then vj f ((c :: r).drop (zO x0 (c :: r))) (out ++ [⟨1, 0, (c :: r).take (zO x0 (c :: r))⟩])
  else if yA c = 48 then (if (xV ((c :: r).take (zO x4 (c :: r)))).2 = true then
    vj f ((c :: r).drop (zO x4 (c :: r))) (out ++ [⟨2, (xV ((c :: r).take (zO x4 (c :: r)))).1, []⟩]) else none)
  else if c = 59 then some out
  else if (c :: r).take 2 = [60, 60] ∨ (c :: r).take 2 = [62, 62] then vj f (r.drop 1) (out ++ [⟨3, 0, (c :: r).take 2⟩])
  else if zd7.contains c = true then vj f r (out ++ [⟨3, 0, [c]⟩]) else none
def ql (s : List UInt8) : List zH × Int := if 80 < s.length then ([], 4) else match vj (s.length + 1) s [] with
 | some l => (l, 0)
 | none => ([], 2)
theorem zd8 (p : UInt8 → Bool) : ∀ l, zO p l ≤ l.length
 | [] => Nat.le_refl _
 | c :: r => by
  rw [zO]
  have := zd8 p r
  split
  ·simp; omega
  ·simp
theorem zpu (p : UInt8 → Bool) : ∀ l (k : Nat), k < zO p l → p (l.getD k 0) = true
 | [], k, h => by rw [zO] at h; omega
 | c :: r, k, h => by
  rw [zO] at h
  split at h
  ·cases k with
   | zero => assumption
   | succ k => exact zpu p r k (by omega)
  ·omega
theorem zhZ (p : UInt8 → Bool) : ∀ l, zO p l < l.length → p (l.getD (zO p l) 0) = false
 | [], h => by simp at h
 | c :: r, h => by
  rw [zO] at h ⊢
  split
  ·rename_i hp
   rw [if_pos hp] at h
   exact zhZ p r (by simpa using h)
  ·rename_i hp
   simpa using hp
theorem zvF {p : UInt8 → Bool} {l : List UInt8} {k : Nat} (hk : k ≤ l.length) (h : ∀ j, j < k → p (l.getD j 0) = true) (he : k < l.length → p (l.getD k 0) = false) : k = zO p l := by
 have h1 := zd8 p l
 have h2 := zhZ p l
 rcases Nat.lt_trichotomy k (zO p l) with hlt | heq | hgt
 ·have := zpu p l k hlt
  rw [he (by omega)] at this
  cases this
 ·exact heq
 ·have := h _ hgt
  rw [h2 (by omega)] at this
  cases this
attribute [local irreducible] xV x0 x4
theorem zbX {c : UInt8} {r : List UInt8} (h : yA c = 97) : 1 ≤ zO x0 (c :: r) := by
 have e : x0 c = true := by unfold x0; rw [decide_eq_true h]; rfl
 rw [zO, if_pos e]; omega
theorem zdd {c : UInt8} {r : List UInt8} (h : yA c = 48) : 1 ≤ zO x4 (c :: r) := by
 have e : x4 c = true := by unfold x4; rw [decide_eq_true h, Bool.or_true]
 rw [zO, if_pos e]; omega
theorem zeI : ∀ (f g : Nat) (l : List UInt8) (out : List zH), l.length < f → l.length < g → vj f l out = vj g l out
 | 0, _, _, _, h, _ => absurd h (Nat.not_lt_zero _)
 | _ + 1, 0, _, _, _, h => absurd h (Nat.not_lt_zero _)
 | f + 1, g + 1, [], out, _, _ => rfl
 | f + 1, g + 1, c :: r, out, hf, hg => by
  have hf : r.length < f := by simpa using hf
  have hg : r.length < g := by simpa using hg
  have ih := zeI f g
  have hd : ∀ n, 1 ≤ n → ((c :: r).drop n).length ≤ r.length := fun n hn => by rw [List.length_drop, List.length_cons]; omega
  rw [vj, vj]
  split
  ·exact ih _ _ hf hg
  split
  ·rename_i h
   have := hd _ (zbX (r := r) h)
   exact ih _ _ (by omega) (by omega)
  split
  ·rename_i h
   have := hd _ (zdd (r := r) h)
   split
   ·exact ih _ _ (by omega) (by omega)
   ·rfl
  split
  ·rfl
  split
  ·have : (r.drop 1).length ≤ r.length := by rw [List.length_drop]; omega
   exact ih _ _ (by omega) (by omega)
  split
  ·exact ih _ _ hf hg
  ·rfl
def xW (l : List UInt8) (out : List zH) : Option (List zH) := vj (l.length + 1) l out
theorem zmX (out : List zH) : xW [] out = some out := rfl
theorem qa (c : UInt8) (r : List UInt8) (out : List zH) : xW (c :: r) out =
  if yA c = 32 then xW r out
  else if yA c = 97 then xW ((c :: r).drop (zO x0 (c :: r))) (out ++ [⟨1, 0, (c :: r).take (zO x0 (c :: r))⟩])
  else if yA c = 48 then (if (xV ((c :: r).take (zO x4 (c :: r)))).2 = true then
    xW ((c :: r).drop (zO x4 (c :: r))) (out ++ [⟨2, (xV ((c :: r).take (zO x4 (c :: r)))).1, []⟩]) else none)
  else if c = 59 then some out
  else if (c :: r).take 2 = [60, 60] ∨ (c :: r).take 2 = [62, 62] then xW (r.drop 1) (out ++ [⟨3, 0, (c :: r).take 2⟩])
  else if zd7.contains c = true then xW r (out ++ [⟨3, 0, [c]⟩]) else none := by
 have hd : ∀ n, 1 ≤ n → ((c :: r).drop n).length ≤ r.length := fun n hn => by rw [List.length_drop, List.length_cons]; omega
 unfold xW
 rw [List.length_cons, vj]
 split
 ·rfl
 split
 ·rename_i h
  have := hd _ (zbX (r := r) h)
  exact zeI _ _ _ _ (by omega) (by omega)
 split
 ·rename_i h
  have := hd _ (zdd (r := r) h)
  split
  ·exact zeI _ _ _ _ (by omega) (by omega)
  ·rfl
 split
 ·rfl
 split
 ·have : (r.drop 1).length ≤ r.length := by rw [List.length_drop]; omega
  exact zeI _ _ _ _ (by omega) (by omega)
 ·rfl
def zr3 : Option (List zH) → List zH × Int
 | some l => (l, 0)
 | none => ([], 2)
theorem zvG (s : List UInt8) : ql s = if 80 < s.length then ([], 4) else zr3 (xW s []) := by
 unfold ql xW zr3; rfl
def zxN (p : List zH × Int) : D := .tup [.sl 3 (p.1.map zJ) none, .int .i64 p.2]
attribute [local irreducible] vj xW zO
end Go.Proofs.YtnkdeacghopkiaaGreatDoor
namespace Go.Plat
open Go Go.Sort
set_option linter.unusedVariables false
set_option linter.unusedSimpArgs false
theorem Ext.growL (w : World) : ∀ (l : List Obj), Ext F0 w (Sort.grow w l.toArray)
 | [] => by rw [show (([] : List Obj).toArray) = #[] from rfl, grow_empty]; exact .refl _ _
 | o :: l => by
  have e : Sort.grow w (o :: l).toArray = Sort.grow (w.alloc o) l.toArray := by
   rw [alloc_eq_grow, grow_grow]
   congr 1
   simp
  rw [e]
  exact (Ext.alloc w o).trans0 (Ext.growL _ l)
theorem Ext.growD (w : World) (k : Nat) (os : Array Obj) : Ext F0 w (Sort.grow (w.drewN k) os) := by
 have h1 : Ext F0 w (w.drewN k) := ⟨rfl, rfl, rfl, Nat.le_refl _, fun _ _ _ => rfl, fun _ _ _ _ => rfl, fun _ _ _ _ _ h => h⟩
 have h2 := Ext.growL (w.drewN k) os.toList
 simp only [Array.toArray_toList] at h2
 exact h1.trans0 h2
theorem Ext.below {w w' : World} (h : Go.RowKit.Below w.heap.size w w') : Ext F0 w w' :=
 ⟨h.os, h.tape, h.output, h.size, fun b hb _ => h.block b hb, fun b off hb _ => by simp only [World.cell?, h.block b hb], fun b off v _ hv hs => by
   have hb := h.block b (zcb hv)
   unfold xO World.frozen? zlO at hs ⊢
   rw [hb]
   exact hs⟩
theorem GOk.tab {w : World} {F : Nat → Nat → Prop} (h : GOk w F) {P : Program} {name : String} {g : Nat} {ns : List Nat} {k : IntKind} {zs : List Int}
  (hn : P.globalNamed name = some g) (hg : zed zgw g = some (ns.map fun n => D.int k (n : Nat))) (hz : zs = ns.map fun n => ((n : Nat) : Int)) (h2 : ns ≠ []) : Lib.TabIs P w name k zs := by
 obtain ⟨h1, _, ⟨row, t, z, h3, h4⟩, _⟩ := h g _ hg
 have hs : row.size = ns.length := by
  rcases h4 with h4 | h4
  ·rw [h4, List.length_map]
  ·match ns, h2 with
   | n :: r, _ => cases h4
 unfold Lib.TabIs World.var?
 rw [hn]
 show (match w.heap[g]? with
  | some (.cells cs _ _) => some cs
  | _ => none) = _
 rw [h3]
 dsimp only
 congr 1
 apply Array.ext_getElem?
 intro j
 subst hz
 by_cases hj : j < ns.length
 ·have hc : (ns.map fun n => D.int k (n : Nat))[j]? = some (.int k (ns[j] : Nat)) := by rw [List.getElem?_map, List.getElem?_eq_getElem hj]; rfl
  obtain ⟨b, off, e, hv⟩ := (Rep.pure (ρ := ⟨fun _ => ⟨0, 0, 0⟩, fun _ _ => False⟩) (L := []) _ _ h1).ptr_inv
  cases e
  obtain ⟨u, h5, _, h6⟩ := hv j _ hc
  cases h6
  rw [Nat.zero_add] at h5
  simp only [World.cell?, h3] at h5
  have h5 : row[j]? = _ := h5
  rw [h5]
  simp [hj]
 ·rw [Array.getElem?_eq_none (by omega)]
  simp [Nat.le_of_not_lt hj]
theorem zcg.le {w : World} {F : Nat → Nat → Prop} {ρ : Pl} {L : List Ob} {ds ds' : List D} {vs : List Value} (has : LeL ds ds') (hr : zcg w F ρ L ds vs) : zcg w F ρ L ds' vs := by
 refine ⟨hr.1.trans has.1, fun i d v h1 h2 => ?_⟩
 have hlt : i < ds.length := by rw [has.1]; exact (List.getElem?_eq_some_iff.1 h1).1
 exact has.2 i _ d (List.getElem?_eq_getElem hlt) h1 _ _ _ _ _ (hr.2 i _ v (List.getElem?_eq_getElem hlt) h2)
theorem jG {P : Program} {f : Nat} {α : Type} {I : α → Prop} {A : α → List D} {R : α → D} (hc : zar P f)
  (h : ∀ p, I p → ∀ (w : World) (F : Nat → Nat → Prop), GOk w F → ∀ vs : List Value, vs.length = (A p).length → (∀ (i : Nat) d v, (A p)[i]? = some d → vs[i]? = some v → zD w F d v) →
    Calls P f vs.toArray w fun e w' => ∃ v, e = .returned v ∧ Ext F0 w w' ∧ zD w' F (R p) v) : za P f (zx I A R) := by
 refine ⟨hc, ?_⟩
 rintro av L d L' ⟨p, hI, has, rfl, rfl, rfl⟩ w ρ vs hf hr
 have hr := hr.le has
 refine (h p hI w _ hf.glob vs hr.1 fun i d v h1 h2 => zjO (hr.2 i d v h1 h2)).mono ?_
 rintro e w' ⟨v, rfl, he, hv⟩
 exact ⟨v, ρ, rfl, hf.grow he, .pure _ _ hv, he.grow, .refl _ _, .refl _ _⟩
end Go.Plat
namespace Go.Proofs
open Go.Shelf
def Tryz.laysM171_ren : Go.Shelf.Ren := ⟨fun | 171 => 11 | 243 => 24 | 246 => 38 | 283 => 61 | 284 => 62 | 285 => 63 | 286 => 64 | 129 => 80 | 317 => 79 | 318 => 81 | 319 => 82 | 320 => 83 | 337 => 97 | 338 => 98 | n => n, fun | 3 => 3 | 9 => 9 | 2 => 2 | 4 => 4 | 171 => 131 | 0 => 0 | 53 => 132 | 37 => 36 | 5 => 5 | 173 => 135 | 212 => 158 | 51 => 159 | 20 => 20 | 213 => 160 | 46 => 149 | 232 => 235 | 233 => 236 | n => n, fun | 17 => 0 | 18 => 1 | 19 => 2 | n => n⟩
theorem Tryz.laysM171 : Go.Proofs.LaysM.n171 Tryz.prog Tryz.laysM171_ren := {
 mixed := by kernel_rfl
 f129 := Tryz.func80.trans (congrArg some (by kernel_rfl))
 f171 := Tryz.func11.trans (congrArg some (by kernel_rfl))
 f243 := Tryz.func24.trans (congrArg some (by kernel_rfl))
 f246 := Tryz.func38.trans (congrArg some (by kernel_rfl))
 f283 := Tryz.func61.trans (congrArg some (by kernel_rfl))
 f284 := Tryz.func62.trans (congrArg some (by kernel_rfl))
 f285 := Tryz.func63.trans (congrArg some (by kernel_rfl))
 f286 := Tryz.func64.trans (congrArg some (by kernel_rfl))
 f317 := Tryz.func79.trans (congrArg some (by kernel_rfl))
 f318 := Tryz.func81.trans (congrArg some (by kernel_rfl))
 f319 := Tryz.func82.trans (congrArg some (by kernel_rfl))
 f320 := Tryz.func83.trans (congrArg some (by kernel_rfl))
 f337 := Tryz.func97.trans (congrArg some (by kernel_rfl))
 f338 := Tryz.func98.trans (congrArg some (by kernel_rfl))
 t0 := Tryz.underlying0
 a0 := Tryz.isAgg0
 z0 := Tryz.sizeOf0
 v0 := Tryz.zeroValue0
 t2 := Tryz.underlying2
 a2 := Tryz.isAgg2
 z2 := Tryz.sizeOf2
 v2 := Tryz.zeroValue2
 t3 := Tryz.underlying3
 a3 := Tryz.isAgg3
 z3 := Tryz.sizeOf3
 v3 := Tryz.zeroValue3
 t4 := Tryz.underlying4
 a4 := Tryz.isAgg4
 z4 := Tryz.sizeOf4
 v4 := Tryz.zeroValue4
 t5 := Tryz.underlying5
 a5 := Tryz.isAgg5
 z5 := Tryz.sizeOf5
 v5 := Tryz.zeroValue5
 t9 := Tryz.underlying9
 a9 := Tryz.isAgg9
 z9 := Tryz.sizeOf9
 v9 := Tryz.zeroValue9
 t20 := Tryz.underlying20
 a20 := Tryz.isAgg20
 z20 := Tryz.sizeOf20
 v20 := Tryz.zeroValue20
 t37 := Tryz.underlying36
 a37 := Tryz.isAgg36
 z37 := Tryz.sizeOf36
 v37 := Tryz.zeroValue36
 t46 := Tryz.underlying149
 a46 := Tryz.isAgg149
 z46 := Tryz.sizeOf149
 v46 := Tryz.zeroValue149
 t51 := Tryz.underlying159
 a51 := Tryz.isAgg159
 z51 := Tryz.sizeOf159
 v51 := Tryz.zeroValue159
 t53 := Tryz.underlying132
 a53 := Tryz.isAgg132
 z53 := Tryz.sizeOf132
 v53 := Tryz.zeroValue132
 t171 := Tryz.underlying131
 a171 := Tryz.isAgg131
 z171 := Tryz.sizeOf131
 v171 := Tryz.zeroValue131
 t173 := Tryz.underlying135
 a173 := Tryz.isAgg135
 z173 := Tryz.sizeOf135
 v173 := Tryz.zeroValue135
 t212 := Tryz.underlying158
 a212 := Tryz.isAgg158
 z212 := Tryz.sizeOf158
 v212 := Tryz.zeroValue158
 t213 := Tryz.underlying160
 a213 := Tryz.isAgg160
 z213 := Tryz.sizeOf160
 t232 := Tryz.underlying235
 a232 := Tryz.isAgg235
 z232 := Tryz.sizeOf235
 v232 := Tryz.zeroValue235
 t233 := Tryz.underlying236
 a233 := Tryz.isAgg236
 z233 := Tryz.sizeOf236
 v233 := Tryz.zeroValue236
 g17 := by kernel_rfl
 g18 := by kernel_rfl
 g19 := by kernel_rfl
 i0 := by kernel_rfl
 i2 := by kernel_rfl
 i3 := by kernel_rfl
 i4 := by kernel_rfl
 i5 := by kernel_rfl
 i9 := by kernel_rfl
 i20 := by kernel_rfl
 i37 := by kernel_rfl
 i46 := by kernel_rfl
 i51 := by kernel_rfl
 i53 := by kernel_rfl
 i171 := by kernel_rfl
 i173 := by kernel_rfl
 i212 := by kernel_rfl
 i232 := by kernel_rfl
 i233 := by kernel_rfl
 m17 := by kernel_rfl
 m18 := by kernel_rfl
 m19 := by kernel_rfl }
open Go.RowKit Go.Sort Go.Lib in
theorem Tryz.strconv_Itoa (n : Int) (h0 : -9223372036854775808 ≤ n) (h1 : n ≤ 9223372036854775807) (w : World) (htab : Lib.TabIs Tryz.prog w "internal/strconv.uint64pow10" .u64 Lib.pow10Tab) :
  Calls Tryz.prog 11 #[.int .i64 n] w fun e w' => e = .returned (.string ⟨(Lib.itoa n).toArray⟩) ∧ ∃ k os, w' = grow (w.drewN k) os := Any.strconv_Itoa Tryz.laysM171 n h0 h1 w htab
def Tryz.laysM279_ren : Go.Shelf.Ren := ⟨fun | 279 => 184 | 316 => 194 | n => n, fun | 9 => 9 | 168 => 290 | 75 => 240 | 210 => 306 | 3 => 3 | 4 => 4 | 37 => 36 | 0 => 0 | 127 => 317 | 80 => 322 | 5 => 5 | n => n, fun | 15 => 6 | n => n⟩
theorem Tryz.laysM279 : Go.Proofs.LaysM.n279 Tryz.prog Tryz.laysM279_ren := {
 mixed := by kernel_rfl
 f279 := Tryz.func184.trans (congrArg some (by kernel_rfl))
 f316 := Tryz.func194.trans (congrArg some (by kernel_rfl))
 t0 := Tryz.underlying0
 a0 := Tryz.isAgg0
 z0 := Tryz.sizeOf0
 v0 := Tryz.zeroValue0
 t3 := Tryz.underlying3
 a3 := Tryz.isAgg3
 z3 := Tryz.sizeOf3
 v3 := Tryz.zeroValue3
 t4 := Tryz.underlying4
 a4 := Tryz.isAgg4
 z4 := Tryz.sizeOf4
 v4 := Tryz.zeroValue4
 t9 := Tryz.underlying9
 a9 := Tryz.isAgg9
 z9 := Tryz.sizeOf9
 v9 := Tryz.zeroValue9
 t37 := Tryz.underlying36
 a37 := Tryz.isAgg36
 z37 := Tryz.sizeOf36
 v37 := Tryz.zeroValue36
 t75 := Tryz.underlying240
 a75 := Tryz.isAgg240
 z75 := Tryz.sizeOf240
 v75 := Tryz.zeroValue240
 t127 := Tryz.underlying317
 a127 := Tryz.isAgg317
 z127 := Tryz.sizeOf317
 v127 := Tryz.zeroValue317
 t168 := Tryz.underlying290
 a168 := Tryz.isAgg290
 z168 := Tryz.sizeOf290
 v168 := Tryz.zeroValue290
 t210 := Tryz.underlying306
 a210 := Tryz.isAgg306
 z210 := Tryz.sizeOf306
 v210 := Tryz.zeroValue306
 g15 := by kernel_rfl
 t5 := Tryz.underlying5
 a5 := Tryz.isAgg5
 z5 := Tryz.sizeOf5
 v5 := Tryz.zeroValue5
 t80 := Tryz.underlying322
 a80 := Tryz.isAgg322
 z80 := Tryz.sizeOf322
 v80 := Tryz.zeroValue322
 i0 := by kernel_rfl
 i3 := by kernel_rfl
 i4 := by kernel_rfl
 i5 := by kernel_rfl
 i9 := by kernel_rfl
 i37 := by kernel_rfl
 i75 := by kernel_rfl
 i80 := by kernel_rfl
 i127 := by kernel_rfl
 i168 := by kernel_rfl
 i210 := by kernel_rfl
 m15 := by kernel_rfl }
open Go.RowKit in
theorem Tryz.strconv_syntaxError (fn s : ByteArray) (ev : Value) (w : World) (hlim : s.size ≤ 281474976710656) (hv : w.cell? ⟨6, 0, none⟩ = some ev) (hev : ev = .nilIface ∨ ∃ te pe, ev = .iface te pe) :
  Calls Tryz.prog 184 #[.string fn, .string s] w fun e w' => ∃ N, e = .returned (.pointer (some ⟨N, 0, none⟩)) ∧ w.heap.size ≤ N ∧ w'.heap[N]? = some (.cells #[.string fn, .string s, ev] 306 (0, 0)) ∧ Below w.heap.size w w' := Any.strconv_syntaxError Tryz.laysM279 fn s ev w hlim hv hev
def Tryz.laysM280_ren : Go.Shelf.Ren := ⟨fun | 280 => 185 | 316 => 194 | n => n, fun | 9 => 9 | 168 => 290 | 75 => 240 | 210 => 306 | 3 => 3 | 4 => 4 | 37 => 36 | 0 => 0 | 127 => 317 | 80 => 322 | 5 => 5 | n => n, fun | 16 => 7 | n => n⟩
theorem Tryz.laysM280 : Go.Proofs.LaysM.n280 Tryz.prog Tryz.laysM280_ren := {
 mixed := by kernel_rfl
 f280 := Tryz.func185.trans (congrArg some (by kernel_rfl))
 f316 := Tryz.func194.trans (congrArg some (by kernel_rfl))
 t0 := Tryz.underlying0
 a0 := Tryz.isAgg0
 z0 := Tryz.sizeOf0
 v0 := Tryz.zeroValue0
 t3 := Tryz.underlying3
 a3 := Tryz.isAgg3
 z3 := Tryz.sizeOf3
 v3 := Tryz.zeroValue3
 t4 := Tryz.underlying4
 a4 := Tryz.isAgg4
 z4 := Tryz.sizeOf4
 v4 := Tryz.zeroValue4
 t9 := Tryz.underlying9
 a9 := Tryz.isAgg9
 z9 := Tryz.sizeOf9
 v9 := Tryz.zeroValue9
 t37 := Tryz.underlying36
 a37 := Tryz.isAgg36
 z37 := Tryz.sizeOf36
 v37 := Tryz.zeroValue36
 t75 := Tryz.underlying240
 a75 := Tryz.isAgg240
 z75 := Tryz.sizeOf240
 v75 := Tryz.zeroValue240
 t127 := Tryz.underlying317
 a127 := Tryz.isAgg317
 z127 := Tryz.sizeOf317
 v127 := Tryz.zeroValue317
 t168 := Tryz.underlying290
 a168 := Tryz.isAgg290
 z168 := Tryz.sizeOf290
 v168 := Tryz.zeroValue290
 t210 := Tryz.underlying306
 a210 := Tryz.isAgg306
 z210 := Tryz.sizeOf306
 v210 := Tryz.zeroValue306
 g16 := by kernel_rfl
 t5 := Tryz.underlying5
 a5 := Tryz.isAgg5
 z5 := Tryz.sizeOf5
 v5 := Tryz.zeroValue5
 t80 := Tryz.underlying322
 a80 := Tryz.isAgg322
 z80 := Tryz.sizeOf322
 v80 := Tryz.zeroValue322
 i0 := by kernel_rfl
 i3 := by kernel_rfl
 i4 := by kernel_rfl
 i5 := by kernel_rfl
 i9 := by kernel_rfl
 i37 := by kernel_rfl
 i75 := by kernel_rfl
 i80 := by kernel_rfl
 i127 := by kernel_rfl
 i168 := by kernel_rfl
 i210 := by kernel_rfl
 m16 := by kernel_rfl }
open Go.RowKit in
theorem Tryz.strconv_rangeError (fn s : ByteArray) (ev : Value) (w : World) (hlim : s.size ≤ 281474976710656) (hv : w.cell? ⟨7, 0, none⟩ = some ev) (hev : ev = .nilIface ∨ ∃ te pe, ev = .iface te pe) :
  Calls Tryz.prog 185 #[.string fn, .string s] w fun e w' => ∃ N, e = .returned (.pointer (some ⟨N, 0, none⟩)) ∧ w.heap.size ≤ N ∧ w'.heap[N]? = some (.cells #[.string fn, .string s, ev] 306 (0, 0)) ∧ Below w.heap.size w w' := Any.strconv_rangeError Tryz.laysM280 fn s ev w hlim hv hev
def Tryz.lays219_ren : Go.Shelf.Ren := ⟨fun | 219 => 166 | 217 => 178 | 225 => 179 | 224 => 180 | 267 => 181 | 266 => 192 | 314 => 193 | n => n, fun | 9 => 9 | 3 => 3 | 4 => 4 | 5 => 5 | 46 => 149 | 146 => 302 | 51 => 159 | n => n, fun | 1 => 3 | n => n⟩
theorem Tryz.lays219 : Go.Proofs.Lays.n219 Tryz.prog Tryz.lays219_ren := {
 mixed := by kernel_rfl
 f217 := Tryz.func178.trans (congrArg some (by kernel_rfl))
 f219 := Tryz.func166.trans (congrArg some (by kernel_rfl))
 f224 := Tryz.func180.trans (congrArg some (by kernel_rfl))
 f225 := Tryz.func179.trans (congrArg some (by kernel_rfl))
 f266 := Tryz.func192.trans (congrArg some (by kernel_rfl))
 f267 := Tryz.func181.trans (congrArg some (by kernel_rfl))
 f314 := Tryz.func193.trans (congrArg some (by kernel_rfl))
 t3 := Tryz.underlying3
 a3 := Tryz.isAgg3
 z3 := Tryz.sizeOf3
 v3 := Tryz.zeroValue3
 t4 := Tryz.underlying4
 a4 := Tryz.isAgg4
 z4 := Tryz.sizeOf4
 v4 := Tryz.zeroValue4
 t5 := Tryz.underlying5
 a5 := Tryz.isAgg5
 z5 := Tryz.sizeOf5
 v5 := Tryz.zeroValue5
 t9 := Tryz.underlying9
 a9 := Tryz.isAgg9
 z9 := Tryz.sizeOf9
 v9 := Tryz.zeroValue9
 t46 := Tryz.underlying149
 a46 := Tryz.isAgg149
 z46 := Tryz.sizeOf149
 v46 := Tryz.zeroValue149
 t51 := Tryz.underlying159
 a51 := Tryz.isAgg159
 z51 := Tryz.sizeOf159
 v51 := Tryz.zeroValue159
 t146 := Tryz.underlying302
 a146 := Tryz.isAgg302
 z146 := Tryz.sizeOf302
 v146 := Tryz.zeroValue302
 g1 := by kernel_rfl }
open Go.RowKit Go.Lib in
theorem Tryz.stringslite_Index_one (s : ByteArray) (c : UInt8) (w : World) :
  Calls Tryz.prog 166 #[.string s, .string ⟨#[c]⟩] w fun e w' => e = .returned (.int .i64 (Lib.indexByte s.data.toList c)) ∧ w' = w := Any.stringslite_Index_one Tryz.lays219 s c w
def Tryz.lays144_ren : Go.Shelf.Ren := ⟨fun | 144 => 137 | 143 => 133 | 219 => 166 | 217 => 178 | 225 => 179 | 224 => 180 | 267 => 181 | 266 => 192 | 314 => 193 | n => n, fun | 9 => 9 | 4 => 4 | 3 => 3 | 5 => 5 | 46 => 149 | 146 => 302 | 51 => 159 | n => n, fun | 1 => 3 | n => n⟩
theorem Tryz.lays144 : Go.Proofs.Lays.n144 Tryz.prog Tryz.lays144_ren := {
 mixed := by kernel_rfl
 f143 := Tryz.func133.trans (congrArg some (by kernel_rfl))
 f144 := Tryz.func137.trans (congrArg some (by kernel_rfl))
 f217 := Tryz.func178.trans (congrArg some (by kernel_rfl))
 f219 := Tryz.func166.trans (congrArg some (by kernel_rfl))
 f224 := Tryz.func180.trans (congrArg some (by kernel_rfl))
 f225 := Tryz.func179.trans (congrArg some (by kernel_rfl))
 f266 := Tryz.func192.trans (congrArg some (by kernel_rfl))
 f267 := Tryz.func181.trans (congrArg some (by kernel_rfl))
 f314 := Tryz.func193.trans (congrArg some (by kernel_rfl))
 t3 := Tryz.underlying3
 a3 := Tryz.isAgg3
 z3 := Tryz.sizeOf3
 v3 := Tryz.zeroValue3
 t4 := Tryz.underlying4
 a4 := Tryz.isAgg4
 z4 := Tryz.sizeOf4
 v4 := Tryz.zeroValue4
 t5 := Tryz.underlying5
 a5 := Tryz.isAgg5
 z5 := Tryz.sizeOf5
 v5 := Tryz.zeroValue5
 t9 := Tryz.underlying9
 a9 := Tryz.isAgg9
 z9 := Tryz.sizeOf9
 v9 := Tryz.zeroValue9
 t46 := Tryz.underlying149
 a46 := Tryz.isAgg149
 z46 := Tryz.sizeOf149
 v46 := Tryz.zeroValue149
 t51 := Tryz.underlying159
 a51 := Tryz.isAgg159
 z51 := Tryz.sizeOf159
 v51 := Tryz.zeroValue159
 t146 := Tryz.underlying302
 a146 := Tryz.isAgg302
 z146 := Tryz.sizeOf302
 v146 := Tryz.zeroValue302
 g1 := by kernel_rfl }
open Go.RowKit Go.Lib in
theorem Tryz.strings_Contains_one (s : ByteArray) (c : UInt8) (w : World) :
  Calls Tryz.prog 137 #[.string s, .string ⟨#[c]⟩] w fun e w' => e = .returned (.bool (decide (0 ≤ Lib.indexByte s.data.toList c))) ∧ w' = w := Any.strings_Contains_one Tryz.lays144 s c w
def Tryz.lays138_ren : Go.Shelf.Ren := ⟨fun | 138 => 132 | 195 => 163 | 218 => 165 | 143 => 133 | 219 => 166 | 217 => 178 | 225 => 179 | 224 => 180 | 267 => 181 | 266 => 192 | 314 => 193 | n => n, fun | 9 => 9 | 3 => 3 | 4 => 4 | 5 => 5 | 0 => 0 | 46 => 149 | 146 => 302 | 51 => 159 | n => n, fun | 1 => 3 | n => n⟩
theorem Tryz.lays138 : Go.Proofs.Lays.n138 Tryz.prog Tryz.lays138_ren := {
 mixed := by kernel_rfl
 f138 := Tryz.func132.trans (congrArg some (by kernel_rfl))
 f143 := Tryz.func133.trans (congrArg some (by kernel_rfl))
 f195 := Tryz.func163.trans (congrArg some (by kernel_rfl))
 f217 := Tryz.func178.trans (congrArg some (by kernel_rfl))
 f218 := Tryz.func165.trans (congrArg some (by kernel_rfl))
 f219 := Tryz.func166.trans (congrArg some (by kernel_rfl))
 f224 := Tryz.func180.trans (congrArg some (by kernel_rfl))
 f225 := Tryz.func179.trans (congrArg some (by kernel_rfl))
 f266 := Tryz.func192.trans (congrArg some (by kernel_rfl))
 f267 := Tryz.func181.trans (congrArg some (by kernel_rfl))
 f314 := Tryz.func193.trans (congrArg some (by kernel_rfl))
 t0 := Tryz.underlying0
 a0 := Tryz.isAgg0
 z0 := Tryz.sizeOf0
 v0 := Tryz.zeroValue0
 t3 := Tryz.underlying3
 a3 := Tryz.isAgg3
 z3 := Tryz.sizeOf3
 v3 := Tryz.zeroValue3
 t4 := Tryz.underlying4
 a4 := Tryz.isAgg4
 z4 := Tryz.sizeOf4
 v4 := Tryz.zeroValue4
 t5 := Tryz.underlying5
 a5 := Tryz.isAgg5
 z5 := Tryz.sizeOf5
 v5 := Tryz.zeroValue5
 t9 := Tryz.underlying9
 a9 := Tryz.isAgg9
 z9 := Tryz.sizeOf9
 v9 := Tryz.zeroValue9
 t46 := Tryz.underlying149
 a46 := Tryz.isAgg149
 z46 := Tryz.sizeOf149
 v46 := Tryz.zeroValue149
 t51 := Tryz.underlying159
 a51 := Tryz.isAgg159
 z51 := Tryz.sizeOf159
 v51 := Tryz.zeroValue159
 t146 := Tryz.underlying302
 a146 := Tryz.isAgg302
 z146 := Tryz.sizeOf302
 v146 := Tryz.zeroValue302
 g1 := by kernel_rfl }
open Go.RowKit Go.Lib in
theorem Tryz.strings_Count_one (s : ByteArray) (c : UInt8) (w : World) :
  Calls Tryz.prog 132 #[.string s, .string ⟨#[c]⟩] w fun e w' => e = .returned (.int .i64 (Lib.countByte s.data.toList c)) ∧ w' = w := Any.strings_Count_one Tryz.lays138 s c w
end Go.Proofs
namespace Go.Proofs.YtnkdeacghopkiaaGreatDoor
open Go Go.Plat
set_option linter.unusedVariables false
set_option linter.unusedSimpArgs false
set_option maxRecDepth 100000
set_option maxHeartbeats 2000000
attribute [local irreducible] AWP zA yh zE zn yu z6 zF zX zY zq za zL yv zo zZ yq yr yj ym zr zu zz yt yA zK vj xW x4 xV okC zO x0
theorem zde (c : UInt8) : ∀ s : List UInt8, (Lib.indexByte s c = -1 ∧ s.contains c = false ∧ (s.takeWhile (· != c)) = s) ∨
  (0 ≤ Lib.indexByte s c ∧ s.contains c = true ∧ Lib.indexByte s c = ((s.takeWhile (· != c)).length : Int) ∧ s.drop ((s.takeWhile (· != c)).length + 1) = (s.dropWhile (· != c)).drop 1 ∧ (s.takeWhile (· != c)).length < s.length)
 | [] => .inl ⟨rfl, rfl, rfl⟩
 | b :: l => by
  rw [Lib.indexByte]
  by_cases h : b = c
  ·subst h
   right
   rw [if_pos (by simp)]
   simp
  ·have e : (b == c) = false := beq_eq_false_iff_ne.2 h
   have e1 : (c == b) = false := beq_eq_false_iff_ne.2 fun q => h q.symm
   have e2 : (b != c) = true := by simp [bne, e]
   rw [e, List.contains_cons, e1, Bool.false_or, List.takeWhile_cons, List.dropWhile_cons, e2]
   rw [if_neg (by decide), if_pos rfl, if_pos rfl]
   rcases zde c l with ⟨h1, h2, h3⟩ | ⟨h1, h2, h3, h4, h5⟩
   ·left
    rw [h1, h3]
    exact ⟨rfl, h2, rfl⟩
   ·right
    have e3 : (Lib.indexByte l c == -1) = false := beq_eq_false_iff_ne.2 (by omega)
    rw [e3, if_neg (by decide)]
    refine ⟨by omega, h2, ?_, ?_, ?_⟩
    ·rw [List.length_cons]; omega
    ·rw [List.length_cons, List.drop_succ_cons, h4]
    ·rw [List.length_cons, List.length_cons]; omega
theorem zr4 (c : UInt8) (s : List UInt8) : decide (0 ≤ Lib.indexByte s c) = s.contains c := by
 rcases zde c s with ⟨h1, h2, _⟩ | ⟨h1, h2, _⟩
 ·rw [h1, h2]; rfl
 ·rw [h2, decide_eq_true h1]
theorem kN : za Tryz.prog zf3 (zx (fun _ : List UInt8 × UInt8 => True) (fun (s, c) => [.str s, .str [c]]) fun (s, c) => .bool (s.contains c)) := by
 refine jG ⟨_, Tryz.func137, by decide, rfl⟩ ?_
 rintro ⟨s, c⟩ - w F hg vs hl hv
 match vs, hl with
 | [a, b], _ =>
  cases hv 0 _ a rfl rfl
  cases hv 1 _ b rfl rfl
  refine (Go.Proofs.Tryz.strings_Contains_one ⟨s.toArray⟩ c w).mono ?_
  rintro e w' ⟨rfl, rfl⟩
  refine ⟨_, rfl, .refl _ _, ?_⟩
  show zD w' F (.bool (s.contains c)) _
  rw [← zr4 c s]
  exact .bool _
theorem zfe : za Tryz.prog zax (zx (fun _ : List UInt8 × UInt8 => True) (fun (s, c) => [.str s, .str [c]]) fun (s, c) => .int .i64 (Lib.indexByte s c)) := by
 refine jG ⟨_, Tryz.func166, by decide, rfl⟩ ?_
 rintro ⟨s, c⟩ - w F hg vs hl hv
 match vs, hl with
 | [a, b], _ =>
  cases hv 0 _ a rfl rfl
  cases hv 1 _ b rfl rfl
  refine (Go.Proofs.Tryz.stringslite_Index_one ⟨s.toArray⟩ c w).mono ?_
  rintro e w' ⟨rfl, rfl⟩
  exact ⟨_, rfl, .refl _ _, .int _ _⟩
theorem zmY : za Tryz.prog zi4 (zx (fun _ : List UInt8 × UInt8 => True) (fun (s, c) => [.str s, .str [c]]) fun (s, c) => .int .i64 (Lib.indexByte s c)) := by
 refine zf zj Tryz.func133 rfl (by decide) ?_
 rintro ⟨s, c⟩ -
 refine ⟨Nat.le_refl _, by simp [Tryz.f133], fun E hE => ?_⟩
 refine ze _ ?_
 (all_goals refine qgp (Lf.mk ?_))
 refine zb zfe (s, c) trivial (VS.mk (LeL.of_eq rfl)) ?_
 (all_goals refine qgp (Lf.mk ?_))
 exact zd (VS.mk (LeD.of_eq rfl))
theorem zoY : za Tryz.prog zi3 (zx (fun _ : List UInt8 × UInt8 => True) (fun (s, c) => [.str s, .str [c]]) fun (s, c) => .int .i64 ((s.count c : Nat) : Int)) := by
 refine jG ⟨_, Tryz.func132, by decide, rfl⟩ ?_
 rintro ⟨s, c⟩ - w F hg vs hl hv
 match vs, hl with
 | [a, b], _ =>
  cases hv 0 _ a rfl rfl
  cases hv 1 _ b rfl rfl
  refine (Go.Proofs.Tryz.strings_Count_one ⟨s.toArray⟩ c w).mono ?_
  rintro e w' ⟨rfl, rfl⟩
  exact ⟨_, rfl, .refl _ _, .int _ _⟩
def ztW (c : UInt8) (s : List UInt8) : List UInt8 × List UInt8 × Bool := (s.takeWhile (· != c), (s.dropWhile (· != c)).drop 1, s.contains c)
def ztX (p : List UInt8 × List UInt8 × Bool) : D := .tup [.str p.1, .str p.2.1, .bool p.2.2]
theorem zmZ {α : Type} (p : α → Bool) (s : List α) : s.take (s.takeWhile p).length = s.takeWhile p := by
 induction s with
 | nil => rfl
 | cons a l ih =>
  rw [List.takeWhile_cons]
  split
  ·rw [List.length_cons, List.take_succ_cons, ih]
  ·rfl
theorem zd9 {c : UInt8} : ∀ {s : List UInt8}, s.contains c = false → s.dropWhile (· != c) = []
 | [], _ => rfl
 | b :: l, h => by
  rw [List.contains_cons, Bool.or_eq_false_iff] at h
  have e : (b != c) = true := by
   rw [bne_iff_ne]
   intro q
   rw [q] at h
   simp at h
  rw [List.dropWhile_cons, e, if_pos rfl]
  exact zd9 h.2
attribute [local irreducible] Lib.indexByte
theorem zqM : za Tryz.prog zbF (zx (fun ((s, c) : List UInt8 × UInt8) => s.length ≤ 1000000000) (fun (s, c) => [.str s, .str [c]]) fun (s, c) => ztX (ztW c s)) := by
 refine zf zj Tryz.func134 rfl (by decide) ?_
 rintro ⟨s, c⟩ hs
 have hs : s.length ≤ 1000000000 := hs
 refine ⟨Nat.le_refl _, by simp [Tryz.f134], fun E hE => ?_⟩
 have hi := zde c s
 have hl1 : ([c] : List UInt8).length = 1 := rfl
 have hb : -1 ≤ Lib.indexByte s c ∧ Lib.indexByte s c ≤ s.length ∧ (0 ≤ Lib.indexByte s c → Lib.indexByte s c < s.length) := by omega
 refine ze _ ?_
 (all_goals refine qgp (Lf.mk ?_))
 refine zb zfe (s, c) trivial (VS.mk (LeL.of_eq rfl)) ?_
 (all_goals refine qgp ?_ <;> (repeat' first | exact trivial | intro hc | refine And.intro ?_ ?_) <;> refine Lf.mk ?_)
 ·rcases hi with ⟨h1, _⟩ | ⟨h1, h2, h3, h4, h5⟩
  ·omega
  refine zd (VS.mk (.tup (.cons (LeD.of_eq ?_) (.cons (LeD.of_eq ?_) (.cons (LeD.tt h2) .nil)))))
  ·rw [h3, Int.toNat_natCast]
   exact congrArg D.str (zmZ _ s)
  ·rw [h3]
   exact congrArg D.str (by rw [hl1, Int.toNat_natCast, List.take_length, show (((s.takeWhile (· != c)).length : Int) + ((1 : Nat) : Int)).toNat = (s.takeWhile (· != c)).length + 1 by omega]; exact h4)
 ·rcases hi with ⟨h1, h2, h3⟩ | ⟨h1, h2, h3, h4, h5⟩
  ·refine zd (VS.mk (.tup (.cons (LeD.of_eq ?_) (.cons (LeD.of_eq ?_) (.cons (LeD.ff h2) .nil)))))
   ·exact congrArg D.str h3.symm
   ·exact congrArg D.str (by show [] = (s.dropWhile _).drop 1; rw [zd9 h2]; rfl)
  ·omega
theorem zr5 : za Tryz.prog zlz (zx (fun ((s, c) : List UInt8 × UInt8) => s.length ≤ 1000000000) (fun (s, c) => [.str s, .str [c]]) fun (s, c) => ztX (ztW c s)) := by
 refine zf zj Tryz.func100 rfl (by decide) ?_
 rintro ⟨s, c⟩ hs
 refine ⟨Nat.le_refl _, by simp [Tryz.f100], fun E hE => ?_⟩
 refine ze _ ?_
 (all_goals refine qgp (Lf.mk ?_))
 refine zb zqM (s, c) hs (VS.mk (LeL.of_eq rfl)) ?_
 (all_goals refine qgp (Lf.mk ?_))
 exact zd (VS.mk (LeD.of_eq rfl))
theorem zvH (a b : List UInt8) : (a == b) = decide (a = b) := by
 by_cases h : a = b
 ·rw [decide_eq_true h, h]; exact beq_self_eq_true _
 ·rw [decide_eq_false h, beq_eq_false_iff_ne.2 h]
theorem zlD : za Tryz.prog jq (zx (fun ((s, p) : List UInt8 × List UInt8) => s.length ≤ 1000000000 ∧ p.length ≤ 1000000000) (fun (s, p) => [.str s, .str p]) fun (s, p) => .bool (decide (s.take p.length = p))) := by
 refine zf zj Tryz.func169 rfl (by decide) ?_
 rintro ⟨s, p⟩ ⟨hs, hp⟩
 refine ⟨Nat.le_refl _, by simp [Tryz.f169], fun E hE => ?_⟩
 refine ze _ ?_
 (all_goals refine qgp ?_ <;> (repeat' first | exact trivial | intro hc | refine And.intro ?_ ?_) <;> refine Lf.mk ?_)
 ·exact zd (VS.mk (LeD.of_eq (congrArg D.bool (zvH _ _))))
 ·refine zd (VS.mk (LeD.ff (decide_eq_false fun h => ?_)))
  have := congrArg List.length h
  rw [List.length_take] at this
  omega
theorem zf6 : za Tryz.prog zfl (zx (fun ((s, p) : List UInt8 × List UInt8) => s.length ≤ 1000000000 ∧ p.length ≤ 1000000000) (fun (s, p) => [.str s, .str p]) fun (s, p) => .bool (decide (s.take p.length = p))) := by
 refine zf zj Tryz.func138 rfl (by decide) ?_
 rintro ⟨s, p⟩ h
 refine ⟨Nat.le_refl _, by simp [Tryz.f138], fun E hE => ?_⟩
 refine ze _ ?_
 (all_goals refine qgp (Lf.mk ?_))
 refine zb zlD (s, p) h (VS.mk (LeL.of_eq rfl)) ?_
 (all_goals refine qgp (Lf.mk ?_))
 exact zd (VS.mk (LeD.of_eq rfl))
end Go.Proofs.YtnkdeacghopkiaaGreatDoor
namespace Go.Proofs.YtnkdeacghopkiaaGreatDoor
open Go Go.Plat
set_option linter.unusedVariables false
set_option linter.unusedSimpArgs false
set_option maxRecDepth 100000
set_option maxHeartbeats 2000000
attribute [local irreducible] AWP zA yh zE zn yu z6 zF zX zY zq za zL yv zo zZ yq yr yj ym zr zu zz yS yt yA zK vj xW x4 xV okC zO x0
def puF (b : Int) : List UInt8 → Int → Int × Int
 | [], n => (n, 0)
 | c :: r, n => if yS b c < 0 then (0, 2) else if 4294967295 < n * b + yS b c then (4294967295, 1) else puF b r (n * b + yS b c)
def puR (b : Int) (s : List UInt8) : Int × Int := if s = [] then (0, 2) else puF b s 0
theorem zwT {b : Int} (hb : b = 10 ∨ b = 16) : ∀ (s : List UInt8) (n : Int), 4294967295 < n → ∀ m, zdC b s n = some m → 4294967295 < m
 | [], n, h, m, hm => by rw [zdC] at hm; cases hm; exact h
 | c :: r, n, h, m, hm => by rw [zdC, if_pos (.inr h)] at hm; cases hm
theorem zr6 {b : Int} (hb : b = 10 ∨ b = 16) : ∀ (s : List UInt8) (n : Int), 0 ≤ n → n ≤ 4294967295 →
  ((puF b s n).2 = 0 ∧ zdC b s n = some (puF b s n).1 ∧ 0 ≤ (puF b s n).1 ∧ (puF b s n).1 ≤ 4294967295) ∨ ((puF b s n).2 ≠ 0 ∧ ∀ m, zdC b s n = some m → 4294967295 < m)
 | [], n, h0, h1 => .inl ⟨rfl, rfl, h0, h1⟩
 | c :: r, n, h0, h1 => by
  rw [puF, zdC]
  by_cases hd : yS b c < 0
  ·rw [if_pos hd, if_pos (.inl hd)]
   exact .inr ⟨by decide, fun m hm => by cases hm⟩
  ·rw [if_neg hd, if_neg (show ¬ (yS b c < 0 ∨ 4294967295 < n) by omega)]
   have := zwS b c
   by_cases hn : 4294967295 < n * b + yS b c
   ·rw [if_pos hn]
    exact .inr ⟨by decide, zwT hb r _ hn⟩
   ·rw [if_neg hn]
    exact zr6 hb r _ (by rcases hb with rfl | rfl <;> omega) (by omega)
theorem zpv {b : Int} (hb : b = 10 ∨ b = 16) (s : List UInt8) : ((puR b s).2 = 0 ∧ zeH b s = ((puR b s).1, true) ∧ 0 ≤ (puR b s).1 ∧ (puR b s).1 ≤ 4294967295) ∨ ((puR b s).2 ≠ 0 ∧ (zeH b s).2 = false) := by
 unfold puR zeH
 by_cases h : s = []
 ·subst h
  right
  rw [if_pos rfl]
  exact ⟨by decide, by simp [zdC, zr2]⟩
 rw [if_neg h]
 rcases zr6 hb s 0 (by decide) (by decide) with ⟨h1, h2, h3, h4⟩ | ⟨h1, h2⟩
 ·left
  rw [h2]
  refine ⟨h1, ?_, h3, h4⟩
  show ((puF b s 0).1, decide ((puF b s 0).1 < 4294967296 ∧ s ≠ [])) = _
  rw [decide_eq_true ⟨by omega, h⟩]
 ·right
  refine ⟨h1, ?_⟩
  cases hm : zdC b s 0 with
  | none => rfl
  | some m =>
   have := h2 m hm
   show decide (m < 4294967296 ∧ s ≠ []) = false
   rw [decide_eq_false (by rintro ⟨q, _⟩; omega)]
theorem zm0 (b : Int) : ∀ (s : List UInt8) (n : Int), (puF b s n).2 = 0 ∨ (puF b s n).2 = 1 ∨ (puF b s n).2 = 2
 | [], n => .inl rfl
 | c :: r, n => by
  rw [puF]
  split
  ·exact .inr (.inr rfl)
  split
  ·exact .inr (.inl rfl)
  ·exact zm0 b r _
theorem zvI (b : Int) (s : List UInt8) : (puR b s).2 = 0 ∨ (puR b s).2 = 1 ∨ (puR b s).2 = 2 := by
 unfold puR
 split
 ·exact .inr (.inr rfl)
 ·exact zm0 b s 0
def vk (c : UInt8) : UInt8 := c ||| 32
theorem zvJ : ∀ k : Fin 256, (97 ≤ (vk (UInt8.ofNat k.val)).toNat ∧ (vk (UInt8.ofNat k.val)).toNat ≤ 122 → ¬ (48 ≤ k.val ∧ k.val ≤ 57) ∧ ((vk (UInt8.ofNat k.val)).toNat ≤ 102 ∧ yS 16 (UInt8.ofNat k.val) = (vk (UInt8.ofNat k.val)).toNat - 87 ∨ (103 ≤ (vk (UInt8.ofNat k.val)).toNat ∧ yS 16 (UInt8.ofNat k.val) = -1)) ∧ yS 10 (UInt8.ofNat k.val) = -1) ∧
  (48 ≤ k.val ∧ k.val ≤ 57 → yS 16 (UInt8.ofNat k.val) = k.val - 48 ∧ yS 10 (UInt8.ofNat k.val) = k.val - 48) ∧
  (¬ (97 ≤ (vk (UInt8.ofNat k.val)).toNat ∧ (vk (UInt8.ofNat k.val)).toNat ≤ 122) → ¬ (48 ≤ k.val ∧ k.val ≤ 57) → yS 16 (UInt8.ofNat k.val) = -1 ∧ yS 10 (UInt8.ofNat k.val) = -1) := by decide +kernel
theorem zpw (c : UInt8) : (97 ≤ (vk c).toNat ∧ (vk c).toNat ≤ 122 → ¬ (48 ≤ c.toNat ∧ c.toNat ≤ 57) ∧ ((vk c).toNat ≤ 102 ∧ yS 16 c = (vk c).toNat - 87 ∨ (103 ≤ (vk c).toNat ∧ yS 16 c = -1)) ∧ yS 10 c = -1) ∧
  (48 ≤ c.toNat ∧ c.toNat ≤ 57 → yS 16 c = c.toNat - 48 ∧ yS 10 c = c.toNat - 48) ∧
  (¬ (97 ≤ (vk c).toNat ∧ (vk c).toNat ≤ 122) → ¬ (48 ≤ c.toNat ∧ c.toNat ≤ 57) → yS 16 c = -1 ∧ yS 10 c = -1) := by
 have := zvJ ⟨c.toNat, c.toNat_lt⟩
 simp only [UInt8.ofNat_toNat] at this
 exact this
theorem zxO (c : UInt8) : zz .or .u8 (c.toNat : Int) 32 = ((vk c).toNat : Int) := by
 have : ∀ k : Fin 256, zz .or .u8 ((UInt8.ofNat k.val).toNat : Int) 32 = ((vk (UInt8.ofNat k.val)).toNat : Int) := by decide +kernel
 have := this ⟨c.toNat, c.toNat_lt⟩
 simp only [UInt8.ofNat_toNat] at this
 exact this
theorem q8 : za Tryz.prog zcu (zx (fun _ : UInt8 => True) (fun c => [zI c]) fun c => zI (vk c)) := by
 refine zf zj Tryz.func182 rfl (by decide) fun c _ => ?_
 refine ⟨Nat.le_refl _, by simp [Tryz.f182], fun E hE => ?_⟩
 refine ze _ ?_
 (all_goals refine qgp (Lf.mk ?_))
 refine wh (zxO c) ?_
 (all_goals refine qgp (Lf.mk ?_))
 exact zd (VS.mk (LeD.of_eq rfl))
attribute [local irreducible] vk
def puD (p : Int × Int) : D := .tup [.int .u64 p.1, if p.2 = 0 then .nilif else .iface 288 (.int .i64 p.2)]
theorem zi6 {K : D → Prop} (h : K (.int .u64 4294967296)) : yj .u64 1 32 K := by
 unfold yj
 refine ⟨by decide, ?_⟩
 have e : IntKind.u64.wrap (1 * 2 ^ (min (32 : Int).toNat IntKind.u64.bits)) = 4294967296 := by decide
 rw [e]; exact h
theorem zj7 : za Tryz.prog zay (zx (fun ((s, b) : List UInt8 × Int) => s.length ≤ 1000000000 ∧ (b = 10 ∨ b = 16)) (fun (s, b) => [.str s, .int .i64 b, .int .i64 32]) fun (s, b) => puD (puR b s)) := by
 refine zf zj Tryz.func167 rfl (by decide) ?_
 rintro ⟨s, b⟩ ⟨hs, hb⟩
 refine ⟨Nat.le_refl _, by simp [Tryz.f167], fun E hE => ?_⟩
 rcases hb with rfl | rfl
 ·refine ze _ ?_
  have hP : s ≠ [] → puR 10 s = puF 10 (s.drop 0) 0 := fun h => by unfold puR; rw [if_neg h]; rfl
  (all_goals refine qgp ?_ <;> (repeat' first | exact trivial | intro hc | refine And.intro ?_ ?_) <;> refine Lf.mk ?_)
  all_goals first
   | (exfalso; refine absurd trivial ?_; assumption)
   | (exact zd (VS.mk (LeD.of_eq (by show _ = puD (puR _ _); unfold puR; rw [if_pos hc]; rfl))))
   | skip
  refine qW (by decide) (by decide) ?_
  (all_goals refine qgp (Lf.mk ?_))
  refine zi6 ?_
  (all_goals refine qgp (Lf.mk ?_))
  refine qW (by decide) (by decide) ?_
  (all_goals refine qgp (Lf.mk ?_))
  have hP := hP (by assumption)
  refine ye (α := Nat × Int) (fun p => p.1 ≤ s.length ∧ puR 10 s = puF 10 (s.drop p.1) p.2 ∧ 0 ≤ p.2 ∧ p.2 ≤ 4294967295)
   (fun p => [(1, .int .i64 10), (8, .bool false), (9, .str s), (10, .int .u64 1844674407370955162), (11, .int .u64 4294967295), (12, .ff), (13, .int .u64 p.2), (99, .sl 1 (s.map zI) none), (100, .int .i64 s.length), (101, .int .i64 p.1)])
   (fun _ => []) (fun p => s.length - p.1) (fun _ => by simp [hE]) (0, 0) ⟨Nat.zero_le _, hP, by decide, by decide⟩ ?_ ?_
  ·(repeat' (first | (refine VS.mk ?_) | exact trivial | exact rfl | refine And.intro ?_ ?_))
  rintro ⟨k, n⟩ ⟨hk, hf, hn0, hn1⟩
  dsimp only at hk hf hn0 hn1 ⊢
  have hlast : k = s.length → puD (puR 10 s) = .tup [.int .u64 n, .nilif] := fun h => by rw [hf, h, List.drop_length]; rfl
  have hstep : k < s.length → puR 10 s = if yS 10 (s.getD k 0) < 0 then (0, 2) else if 4294967295 < n * 10 + yS 10 (s.getD k 0) then (4294967295, 1) else puF 10 (s.drop (k + 1)) (n * 10 + yS 10 (s.getD k 0)) := fun h => by
   rw [hf, zdc (d := 0) h, puF]
  have hd := zpw (s.getD k 0)
  have hq := (s.getD k 0).toNat_lt
  have hq2 := (vk (s.getD k 0)).toNat_lt
  have hbB : (yz 10).toNat = 10 := by decide
  have h48 := xH (((s.getD k 0).toNat : Int) - 48)
  have h97 := xH (((vk (s.getD k 0)).toNat : Int) - 97)
  have h10 := xH (((yz (((vk (s.getD k 0)).toNat : Int) - 97)).toNat : Int) + 10)
  generalize yS 10 (s.getD k 0) = dv at *
  generalize yS 16 (s.getD k 0) = dx at *
  refine ze _ ?_
  (all_goals refine qgp ?_ <;> (repeat' first | exact trivial | intro hc | refine And.intro ?_ ?_) <;> refine Lf.mk ?_)
  all_goals (try refine zb q8 (s.getD k 0) trivial (VS.mk (LeL.of_eq rfl)) ?_)
  (all_goals refine qgp ?_ <;> (repeat' first | exact trivial | intro hc | refine And.intro ?_ ?_) <;> refine Lf.mk ?_)
  all_goals (try refine zb q8 (s.getD k 0) trivial (VS.mk (LeL.of_eq rfl)) ?_)
  (all_goals refine qgp ?_ <;> (repeat' first | exact trivial | intro hc | refine And.intro ?_ ?_) <;> refine Lf.mk ?_)
  all_goals (try refine zb q8 (s.getD k 0) trivial (VS.mk (LeL.of_eq rfl)) ?_)
  (all_goals refine qgp ?_ <;> (repeat' first | exact trivial | intro hc | refine And.intro ?_ ?_) <;> refine Lf.mk ?_)
  all_goals first
   | (refine absurd hc ?_; decide)
   | (refine zd (VS.mk (LeD.of_eq ?_)); rw [hstep (by omega), if_pos (by omega)]; rfl)
   | skip
  all_goals (try refine qW (by omega) (by omega) ?_)
  (all_goals refine qgp (Lf.mk ?_))
  all_goals (try refine qW (by omega) (by omega) ?_)
  (all_goals refine qgp (Lf.mk ?_))
  all_goals (try refine qW (by omega) (by omega) ?_)
  (all_goals refine qgp (Lf.mk ?_))
  all_goals (try refine qW (by omega) (by omega) ?_)
  (all_goals refine qgp ?_ <;> (repeat' first | exact trivial | intro hc | refine And.intro ?_ ?_) <;> refine Lf.mk ?_)
  all_goals first
   | (refine zd (VS.mk (LeD.of_eq ?_)); rw [hstep (by omega), if_neg (by omega), if_pos (by omega)]; rfl)
   | (exact zd (VS.mk (LeD.of_eq (hlast (by omega)).symm)))
   | skip
  all_goals
   have hk1 := hstep (by omega)
   rw [if_neg (by omega), if_neg (by omega)] at hk1
   refine zB (k + 1, n * 10 + dv) ⟨by dsimp only; omega, hk1, by dsimp only; omega, by dsimp only; omega⟩ (by dsimp only; omega) ?_
   (repeat' (first | (refine VS.mk ?_) | exact trivial | exact rfl | refine And.intro ?_ ?_))
   all_goals (first | rfl | (refine congrArg (D.int .u64) ?_; omega))
 ·refine ze _ ?_
  have hP : s ≠ [] → puR 16 s = puF 16 (s.drop 0) 0 := fun h => by unfold puR; rw [if_neg h]; rfl
  (all_goals refine qgp ?_ <;> (repeat' first | exact trivial | intro hc | refine And.intro ?_ ?_) <;> refine Lf.mk ?_)
  all_goals first
   | (exfalso; refine absurd trivial ?_; assumption)
   | (exact zd (VS.mk (LeD.of_eq (by show _ = puD (puR _ _); unfold puR; rw [if_pos hc]; rfl))))
   | skip
  refine qW (by decide) (by decide) ?_
  (all_goals refine qgp (Lf.mk ?_))
  refine zi6 ?_
  (all_goals refine qgp (Lf.mk ?_))
  refine qW (by decide) (by decide) ?_
  (all_goals refine qgp (Lf.mk ?_))
  have hP := hP (by assumption)
  refine ye (α := Nat × Int) (fun p => p.1 ≤ s.length ∧ puR 16 s = puF 16 (s.drop p.1) p.2 ∧ 0 ≤ p.2 ∧ p.2 ≤ 4294967295)
   (fun p => [(1, .int .i64 16), (8, .bool false), (9, .str s), (10, .int .u64 1152921504606846976), (11, .int .u64 4294967295), (12, .ff), (13, .int .u64 p.2), (99, .sl 1 (s.map zI) none), (100, .int .i64 s.length), (101, .int .i64 p.1)])
   (fun _ => []) (fun p => s.length - p.1) (fun _ => by simp [hE]) (0, 0) ⟨Nat.zero_le _, hP, by decide, by decide⟩ ?_ ?_
  ·(repeat' (first | (refine VS.mk ?_) | exact trivial | exact rfl | refine And.intro ?_ ?_))
  rintro ⟨k, n⟩ ⟨hk, hf, hn0, hn1⟩
  dsimp only at hk hf hn0 hn1 ⊢
  have hlast : k = s.length → puD (puR 16 s) = .tup [.int .u64 n, .nilif] := fun h => by rw [hf, h, List.drop_length]; rfl
  have hstep : k < s.length → puR 16 s = if yS 16 (s.getD k 0) < 0 then (0, 2) else if 4294967295 < n * 16 + yS 16 (s.getD k 0) then (4294967295, 1) else puF 16 (s.drop (k + 1)) (n * 16 + yS 16 (s.getD k 0)) := fun h => by
   rw [hf, zdc (d := 0) h, puF]
  have hd := zpw (s.getD k 0)
  have hq := (s.getD k 0).toNat_lt
  have hq2 := (vk (s.getD k 0)).toNat_lt
  have hbB : (yz 16).toNat = 16 := by decide
  have h48 := xH (((s.getD k 0).toNat : Int) - 48)
  have h97 := xH (((vk (s.getD k 0)).toNat : Int) - 97)
  have h10 := xH (((yz (((vk (s.getD k 0)).toNat : Int) - 97)).toNat : Int) + 10)
  generalize yS 10 (s.getD k 0) = dv at *
  generalize yS 16 (s.getD k 0) = dx at *
  refine ze _ ?_
  (all_goals refine qgp ?_ <;> (repeat' first | exact trivial | intro hc | refine And.intro ?_ ?_) <;> refine Lf.mk ?_)
  all_goals (try refine zb q8 (s.getD k 0) trivial (VS.mk (LeL.of_eq rfl)) ?_)
  (all_goals refine qgp ?_ <;> (repeat' first | exact trivial | intro hc | refine And.intro ?_ ?_) <;> refine Lf.mk ?_)
  all_goals (try refine zb q8 (s.getD k 0) trivial (VS.mk (LeL.of_eq rfl)) ?_)
  (all_goals refine qgp ?_ <;> (repeat' first | exact trivial | intro hc | refine And.intro ?_ ?_) <;> refine Lf.mk ?_)
  all_goals (try refine zb q8 (s.getD k 0) trivial (VS.mk (LeL.of_eq rfl)) ?_)
  (all_goals refine qgp ?_ <;> (repeat' first | exact trivial | intro hc | refine And.intro ?_ ?_) <;> refine Lf.mk ?_)
  all_goals first
   | (refine absurd hc ?_; decide)
   | (refine zd (VS.mk (LeD.of_eq ?_)); rw [hstep (by omega), if_pos (by omega)]; rfl)
   | skip
  all_goals (try refine qW (by omega) (by omega) ?_)
  (all_goals refine qgp (Lf.mk ?_))
  all_goals (try refine qW (by omega) (by omega) ?_)
  (all_goals refine qgp (Lf.mk ?_))
  all_goals (try refine qW (by omega) (by omega) ?_)
  (all_goals refine qgp (Lf.mk ?_))
  all_goals (try refine qW (by omega) (by omega) ?_)
  (all_goals refine qgp ?_ <;> (repeat' first | exact trivial | intro hc | refine And.intro ?_ ?_) <;> refine Lf.mk ?_)
  all_goals first
   | (refine zd (VS.mk (LeD.of_eq ?_)); rw [hstep (by omega), if_neg (by omega), if_pos (by omega)]; rfl)
   | (exact zd (VS.mk (LeD.of_eq (hlast (by omega)).symm)))
   | skip
  all_goals
   have hk1 := hstep (by omega)
   rw [if_neg (by omega), if_neg (by omega)] at hk1
   refine zB (k + 1, n * 16 + dx) ⟨by dsimp only; omega, hk1, by dsimp only; omega, by dsimp only; omega⟩ (by dsimp only; omega) ?_
   (repeat' (first | (refine VS.mk ?_) | exact trivial | exact rfl | refine And.intro ?_ ?_))
   all_goals (first | rfl | (refine congrArg (D.int .u64) ?_; omega))
end Go.Proofs.YtnkdeacghopkiaaGreatDoor
namespace Go.Proofs.YtnkdeacghopkiaaGreatDoor
open Go Go.Plat
set_option linter.unusedVariables false
set_option linter.unusedSimpArgs false
set_option maxRecDepth 100000
set_option maxHeartbeats 2000000
attribute [local irreducible] AWP zA yh zE zn yu z6 zF zX zY zq za zL yv zo zZ yq yr yj ym zr zu zz yt yA zK vj xW x4 xV okC x0
def rdO (s : List UInt8) (i : Nat) : List Ob := [.cells [.str s, .int .i64 (i : Nat)]]
theorem zeJ {g : Nat} {p : UInt8 → Bool} (hg : za Tryz.prog g (zx (fun _ : UInt8 => True) (fun c => [zI c]) fun c => .bool (p c))) :
  za Tryz.prog zg2 (ya (fun ((s, i) : List UInt8 × Nat) => i ≤ s.length ∧ s.length ≤ 1000000000) (fun _ => [.loc 0 0, .fn g []]) (fun (s, i) => rdO s i)
   (fun (s, i) => .str ((s.take (i + zO p (s.drop i))).drop i)) fun (s, i) => rdO s (i + zO p (s.drop i))) := by
 refine zf zj Tryz.func101 rfl (by decide) ?_
 rintro ⟨s, i⟩ ⟨hi, hs⟩
 refine ⟨Nat.le_refl _, by simp [Tryz.f101], fun E hE => ?_⟩
 refine ze _ ?_
 (all_goals refine qgp (Lf.mk ?_))
 refine ye (α := Nat) (fun k => i ≤ k ∧ k ≤ s.length ∧ ∀ j, j < k - i → p ((s.drop i).getD j 0) = true)
  (fun k => [(0, .loc 0 0), (1, .fn g []), (5, .int .i64 i)])
  (fun k => rdO s k) (fun k => s.length - k) (fun _ => by simp [hE, rdO]) i ⟨Nat.le_refl _, by omega, fun j h => absurd h (by omega)⟩ ?_ ?_
 ·(repeat' (first | (refine VS.mk ?_) | exact trivial | exact rfl | refine And.intro ?_ ?_))
 rintro k ⟨hik, hks, hall⟩
 have hget : (s.drop i).getD (k - i) 0 = s.getD k 0 := by rw [List.getD_eq_getElem?_getD, List.getElem?_drop, List.getD_eq_getElem?_getD, show i + (k - i) = k by omega]
 have hend : (k < s.length → p (s.getD k 0) = false) → k = i + zO p (s.drop i) := fun h => by
  have := zvF (p := p) (l := s.drop i) (k := k - i) (by rw [List.length_drop]; omega) hall fun hl => by rw [hget]; exact h (by rw [List.length_drop] at hl; omega)
  omega
 have hmore : p (s.getD k 0) = true → ∀ j, j < k + 1 - i → p ((s.drop i).getD j 0) = true := fun h j hj => by
  by_cases e : j = k - i
  ·rw [e, hget]; exact h
  ·exact hall j (by omega)
 refine ze _ ?_
 (all_goals refine qgp ?_ <;> (repeat' first | exact trivial | intro hc | refine And.intro ?_ ?_) <;> refine Lf.mk ?_)
 ·refine zb hg (s.getD k 0) trivial (VS.mk (LeL.of_eq (by rw [Int.toNat_natCast]; rfl))) ?_
  (all_goals refine qgp ?_ <;> (repeat' first | exact trivial | intro hc | refine And.intro ?_ ?_) <;> refine Lf.mk ?_)
  ·have hm := hmore hc
   refine zB (k + 1) ⟨by omega, by omega, hm⟩ (by omega) ?_
   (repeat' (first | (refine VS.mk ?_) | exact trivial | exact rfl | refine And.intro ?_ ?_))
  ·have e := hend fun _ => by simpa using hc
   refine yo (And.intro (VS.mk ?_) (VS.mk ?_))
   ·show D.str _ = D.str ((s.take (i + zO p (s.drop i))).drop i)
    rw [← e, Int.toNat_natCast, Int.toNat_natCast]
   ·show rdO s k = rdO s (i + zO p (s.drop i))
    rw [← e]
 ·have e := hend fun h => absurd h (by omega)
  refine yo (And.intro (VS.mk ?_) (VS.mk ?_))
  ·show D.str _ = D.str ((s.take (i + zO p (s.drop i))).drop i)
   rw [← e, Int.toNat_natCast, Int.toNat_natCast]
  ·show rdO s k = rdO s (i + zO p (s.drop i))
   rw [← e]
attribute [local irreducible] yS puF puR zO
theorem zm1 : za Tryz.prog zd6 (zx (fun ((a, s) : List UInt8 × List UInt8) => s.length ≤ 1000000000) (fun (a, s) => [.str a, .str s]) fun _ => .any) := by
 refine jG ⟨_, Tryz.func184, by decide, rfl⟩ ?_
 rintro ⟨a, s⟩ hs w F hg vs hl hv
 have hs : s.length ≤ 1000000000 := hs
 match vs, hl with
 | [x, y], _ =>
  cases hv 0 _ x rfl rfl
  cases hv 1 _ y rfl rfl
  obtain ⟨u, v, hcell⟩ := (hg 6 _ (by kernel_rfl)).2.2.2 rfl
  refine (Go.Proofs.Tryz.strconv_syntaxError ⟨a.toArray⟩ ⟨s.toArray⟩ _ w (by show s.toArray.size ≤ _; simp; omega) hcell (.inr ⟨_, _, rfl⟩)).mono ?_
  rintro e w' ⟨N, rfl, _, _, hb⟩
  exact ⟨_, rfl, .below hb, .any _⟩
theorem zm2 : za Tryz.prog zeG (zx (fun ((a, s) : List UInt8 × List UInt8) => s.length ≤ 1000000000) (fun (a, s) => [.str a, .str s]) fun _ => .any) := by
 refine jG ⟨_, Tryz.func185, by decide, rfl⟩ ?_
 rintro ⟨a, s⟩ hs w F hg vs hl hv
 have hs : s.length ≤ 1000000000 := hs
 match vs, hl with
 | [x, y], _ =>
  cases hv 0 _ x rfl rfl
  cases hv 1 _ y rfl rfl
  obtain ⟨u, v, hcell⟩ := (hg 7 _ (by kernel_rfl)).2.2.2 rfl
  refine (Go.Proofs.Tryz.strconv_rangeError ⟨a.toArray⟩ ⟨s.toArray⟩ _ w (by show s.toArray.size ≤ _; simp; omega) hcell (.inr ⟨_, _, rfl⟩)).mono ?_
  rintro e w' ⟨N, rfl, _, _, hb⟩
  exact ⟨_, rfl, .below hb, .any _⟩
theorem zhk : za Tryz.prog zg3 (zx (fun ((a, s, b, c, e) : List UInt8 × List UInt8 × Int × Int × Int) => s.length ≤ 1000000000 ∧ (e = 1 ∨ e = 2)) (fun (a, s, b, c, e) => [.str a, .str s, .int .i64 b, .int .i64 c, .iface 288 (.int .i64 e)])
  fun _ => .iface 290 .any) := by
 refine zf zj Tryz.func168 rfl (by decide) ?_
 rintro ⟨a, s, b, c, e⟩ ⟨hs, he⟩
 refine ⟨Nat.le_refl _, by simp [Tryz.f168], fun E hE => ?_⟩
 rcases he with rfl | rfl
 all_goals
  refine ze _ ?_
  (all_goals refine qgp (Lf.mk ?_))
  all_goals (try refine zpl (by kernel_rfl) ?_)
  (all_goals refine qgp ?_ <;> (repeat' first | exact trivial | intro hc | refine And.intro ?_ ?_) <;> refine Lf.mk ?_)
  all_goals first
   | (exfalso; refine absurd trivial ?_; assumption)
   | skip
  all_goals (try refine zpl (by kernel_rfl) ?_)
  (all_goals refine qgp ?_ <;> (repeat' first | exact trivial | intro hc | refine And.intro ?_ ?_) <;> refine Lf.mk ?_)
  all_goals first
   | (exfalso; refine absurd trivial ?_; assumption)
   | skip
  all_goals first
   | (refine zb zm1 (a, s) hs (VS.mk (LeL.of_eq rfl)) ?_)
   | (refine zb zm2 (a, s) hs (VS.mk (LeL.of_eq rfl)) ?_)
   | skip
  (all_goals refine qgp (Lf.mk ?_))
  all_goals first
   | exact zd (VS.mk (LeD.of_eq rfl))
   | (exfalso; refine absurd hc ?_; decide)
   | skip
theorem jr : za Tryz.prog zfk (zx (fun ((s, b) : List UInt8 × Int) => s.length ≤ 1000000000 ∧ (b = 10 ∨ b = 16)) (fun (s, b) => [.str s, .int .i64 b, .int .i64 32])
  fun (s, b) => .tup [.int .u64 (puR b s).1, if (puR b s).2 = 0 then .nilif else .iface 290 .any]) := by
 refine zf zj Tryz.func136 rfl (by decide) ?_
 rintro ⟨s, b⟩ ⟨hs, hb⟩
 refine ⟨Nat.le_refl _, by simp [Tryz.f136], fun E hE => ?_⟩
 have hcode := zvI b s
 refine ze _ ?_
 (all_goals refine qgp (Lf.mk ?_))
 refine zb zj7 (s, b) ⟨hs, hb⟩ (VS.mk (LeL.of_eq rfl)) ?_
 dsimp only
 generalize puR b s = R at *
 obtain ⟨n, e⟩ := R
 dsimp only at hcode
 unfold puD
 dsimp only
 by_cases he : e = 0
 ·rw [if_pos he, if_pos he]
  (all_goals refine qgp ?_ <;> (repeat' first | exact trivial | intro hc | refine And.intro ?_ ?_) <;> refine Lf.mk ?_)
  all_goals first
   | (exfalso; exact Bool.noConfusion hc)
   | skip
  exact zd (VS.mk (LeD.of_eq rfl))
 ·rw [if_neg he, if_neg he]
  (all_goals refine qgp ?_ <;> (repeat' first | exact trivial | intro hc | refine And.intro ?_ ?_) <;> refine Lf.mk ?_)
  all_goals first
   | (exfalso; exact Bool.noConfusion hc)
   | (exfalso; refine absurd hc ?_; decide)
   | skip
  refine zb zhk ([80, 97, 114, 115, 101, 85, 105, 110, 116], s, b, 32, e) ⟨hs, by omega⟩ (VS.mk (LeL.of_eq rfl)) ?_
  (all_goals refine qgp (Lf.mk ?_))
  exact zd (VS.mk (LeD.of_eq rfl))
end Go.Proofs.YtnkdeacghopkiaaGreatDoor
namespace Go.Proofs.YtnkdeacghopkiaaGreatDoor
open Go Go.Plat
set_option linter.unusedVariables false
set_option linter.unusedSimpArgs false
set_option maxRecDepth 100000
set_option maxHeartbeats 2000000
attribute [local irreducible] AWP zA yh zE zn yu z6 zF zX zY zq za zL yv zo zZ yq yr yj ym zr zu zz yt yA zK yH okC
end Go.Proofs.YtnkdeacghopkiaaGreatDoor
namespace Go.Proofs.YtnkdeacghopkiaaGreatDoor
open Go Go.Plat
set_option linter.unusedVariables false
set_option linter.unusedSimpArgs false
set_option maxRecDepth 100000
set_option maxHeartbeats 2000000
attribute [local irreducible] AWP zA yh zE zn yu z6 zF zX zY zq za zL yv zo zZ yq yr yj ym zr zu zz yt yA zK vj xW x4 xV okC x0
def xG (c : UInt8) : Bool := decide (yA c = 32)
theorem zm3 : ∀ (l : List UInt8) (out : List zH), xW l out = xW (l.drop (zO xG l)) out
 | [], out => rfl
 | c :: r, out => by
  rw [zO]
  by_cases h : xG c = true
  ·rw [if_pos h, List.drop_succ_cons, qa, if_pos (of_decide_eq_true h)]
   exact zm3 r out
  ·rw [if_neg h, List.drop_zero]
theorem zh0 {p q : UInt8 → Bool} (h : ∀ c, p c = true → q c = true) : ∀ l : List UInt8, zO p (l.takeWhile q) = zO p l ∧ (l.takeWhile q).drop (zO p l) = (l.drop (zO p l)).takeWhile q ∧ (l.takeWhile q).take (zO p l) = l.take (zO p l)
 | [] => ⟨rfl, rfl, rfl⟩
 | c :: r => by
  obtain ⟨h1, h2, h3⟩ := zh0 h r
  rw [List.takeWhile_cons]
  by_cases hp : p c = true
  ·rw [h c hp, if_pos rfl]
   have e : ∀ x : List UInt8, zO p (c :: x) = zO p x + 1 := fun x => by rw [zO, if_pos hp]
   rw [e, e, h1]
   refine ⟨rfl, ?_, ?_⟩
   ·rw [List.drop_succ_cons, List.drop_succ_cons, h2]
   ·rw [List.take_succ_cons, List.take_succ_cons, h3]
  ·have e : ∀ x : List UInt8, zO p (c :: x) = 0 := fun x => by rw [zO, if_neg hp]
   rw [e]
   refine ⟨?_, ?_, ?_⟩
   ·split
    ·exact e _
    ·rfl
   ·rw [List.drop_zero, List.drop_zero, List.takeWhile_cons]
   ·rw [List.take_zero, List.take_zero]
theorem zvK (c : UInt8) (h : x0 c = true) : (c != 59) = true := by
 rw [bne_iff_ne]
 rintro rfl
 exact absurd h (by decide +kernel)
theorem zwU (c : UInt8) (h : x4 c = true) : (c != 59) = true := by
 rw [bne_iff_ne]
 rintro rfl
 exact absurd h (by decide +kernel)
theorem zpx : ∀ (n : Nat) (l : List UInt8) (out : List zH), l.length ≤ n → xW l out = xW (l.takeWhile (· != 59)) out
 | _, [], out, _ => rfl
 | 0, _ :: _, out, h => by simp at h
 | n + 1, c :: r, out, h => by
  have h : r.length ≤ n := by simpa using h
  have ih := zpx n
  have hd : ∀ k, 1 ≤ k → ((c :: r).drop k).length ≤ n := fun k hk => by rw [List.length_drop, List.length_cons]; omega
  by_cases h59 : c = 59
  ·subst h59
   rw [List.takeWhile_cons, if_neg (by decide), qa, if_neg (by decide +kernel), if_neg (by decide +kernel), if_neg (by decide +kernel), if_pos rfl, zmX]
  have e : (c :: r).takeWhile (· != 59) = c :: r.takeWhile (· != 59) := by rw [List.takeWhile_cons, if_pos (by rw [bne_iff_ne]; exact h59)]
  rw [qa]
  by_cases h1 : yA c = 32
  ·rw [if_pos h1, e, qa, if_pos h1]
   exact ih _ _ h
  rw [if_neg h1]
  by_cases h2 : yA c = 97
  ·obtain ⟨q1, q2, q3⟩ := zh0 zvK (c :: r)
   rw [if_pos h2, ih _ _ (hd _ (zbX h2)), ← q2, ← q3, ← q1, e]
   rw [qa, if_neg h1, if_pos h2]
  rw [if_neg h2]
  by_cases h3 : yA c = 48
  ·obtain ⟨q1, q2, q3⟩ := zh0 zwU (c :: r)
   rw [if_pos h3, ih _ _ (hd _ (zdd h3)), ← q2, ← q3, ← q1, e]
   rw [qa c (r.takeWhile _), if_neg h1, if_neg h2, if_pos h3]
  rw [if_neg h3, if_neg h59]
  have hs : ∀ x : UInt8, x ≠ 59 → ((c :: r).take 2 = [x, x] ↔ (c :: r.takeWhile (· != 59)).take 2 = [x, x]) ∧ ((c :: r).take 2 = [x, x] → (r.drop 1).takeWhile (· != 59) = (r.takeWhile (· != 59)).drop 1) := fun x hx => by
   cases r with
   | nil => exact ⟨Iff.rfl, fun _ => rfl⟩
   | cons b r =>
    rw [List.takeWhile_cons]
    by_cases hb : b = 59
    ·subst hb
     refine ⟨⟨fun h => ?_, fun h => ?_⟩, fun h => ?_⟩
     ·exact absurd (List.cons.inj (List.cons.inj h).2).1.symm hx
     ·rw [if_neg (by decide)] at h; cases (List.cons.inj h).2
     ·exact absurd (List.cons.inj (List.cons.inj h).2).1.symm hx
    ·rw [if_pos (by rw [bne_iff_ne]; exact hb)]
     exact ⟨Iff.rfl, fun _ => rfl⟩
  obtain ⟨s1, s2⟩ := hs 60 (by decide)
  obtain ⟨s3, s4⟩ := hs 62 (by decide)
  have hr1 : (r.drop 1).length ≤ n := by rw [List.length_drop]; omega
  by_cases h4 : (c :: r).take 2 = [60, 60] ∨ (c :: r).take 2 = [62, 62]
  ·have e2 : (r.drop 1).takeWhile (· != 59) = (r.takeWhile (· != 59)).drop 1 := h4.elim s2 s4
   have h5 : (c :: r.takeWhile (· != 59)).take 2 = [60, 60] ∨ (c :: r.takeWhile (· != 59)).take 2 = [62, 62] := h4.imp s1.1 s3.1
   have e3 : (c :: r).take 2 = (c :: r.takeWhile (· != 59)).take 2 := by
    rcases h4 with h | h
    ·rw [h, s1.1 h]
    ·rw [h, s3.1 h]
   rw [if_pos h4, ih _ _ hr1, e2, e3, e, qa, if_neg h1, if_neg h2, if_neg h3, if_neg h59, if_pos h5]
  ·have h5 : ¬ ((c :: r.takeWhile (· != 59)).take 2 = [60, 60] ∨ (c :: r.takeWhile (· != 59)).take 2 = [62, 62]) := fun h => h4 (h.imp s1.2 s3.2)
   rw [if_neg h4, e, qa, if_neg h1, if_neg h2, if_neg h3, if_neg h59, if_neg h5]
   split
   ·exact ih _ _ h
   ·rfl
theorem zvL (l : List UInt8) (out : List zH) : xW l out = xW (l.takeWhile (· != 59)) out := zpx _ l out (Nat.le_refl _)
attribute [local irreducible] xG yS puF puR zO
theorem zr7 : ∀ k : Fin 256, x4 (UInt8.ofNat k.val) = (yt (UInt8.ofNat k.val) || (zK (UInt8.ofNat k.val) && UInt8.ofNat k.val != 46)) ∧
  x0 (UInt8.ofNat k.val) = (zK (UInt8.ofNat k.val) || yt (UInt8.ofNat k.val) || UInt8.ofNat k.val == 47) ∧
  xG (UInt8.ofNat k.val) = (UInt8.ofNat k.val == 32 || UInt8.ofNat k.val == 9 || UInt8.ofNat k.val == 13) ∧
  (zK (UInt8.ofNat k.val) = true → yA (UInt8.ofNat k.val) = 97) ∧
  (zK (UInt8.ofNat k.val) = false → yt (UInt8.ofNat k.val) = true → yA (UInt8.ofNat k.val) = 48) ∧
  (zK (UInt8.ofNat k.val) = false → yt (UInt8.ofNat k.val) = false → xG (UInt8.ofNat k.val) = false → yA (UInt8.ofNat k.val) ≠ 97 ∧ yA (UInt8.ofNat k.val) ≠ 48 ∧ yA (UInt8.ofNat k.val) ≠ 32) := by decide +kernel
theorem zeK (c : UInt8) : x4 c = (yt c || (zK c && c != 46)) ∧ x0 c = (zK c || yt c || c == 47) ∧ xG c = (c == 32 || c == 9 || c == 13) ∧ (zK c = true → yA c = 97) ∧
  (zK c = false → yt c = true → yA c = 48) ∧ (zK c = false → yt c = false → xG c = false → yA c ≠ 97 ∧ yA c ≠ 48 ∧ yA c ≠ 32) := by
 have := zr7 ⟨c.toNat, c.toNat_lt⟩
 simp only [UInt8.ofNat_toNat] at this
 exact this
theorem zeL (c d : UInt8) : (((c.toNat : Nat) : Int) == ((d.toNat : Nat) : Int)) = (c == d) := by
 by_cases h : c = d
 ·rw [h]; simp
 ·rw [beq_eq_false_iff_ne.2 h, beq_eq_false_iff_ne]
  intro e
  exact h (UInt8.toNat_inj.1 (by exact_mod_cast e))
theorem zpy {c d : UInt8} (h : ¬ ((c.toNat : Nat) : Int) = ((d.toNat : Nat) : Int)) : (c == d) = false := by
 rw [← zeL]; exact beq_eq_false_iff_ne.2 h
theorem zm4 {c d : UInt8} (h : ((c.toNat : Nat) : Int) = ((d.toNat : Nat) : Int)) : c = d := UInt8.toNat_inj.1 (by exact_mod_cast h)
theorem zoZ : za Tryz.prog zi1 (zx (fun _ : UInt8 => True) (fun c => [zI c]) fun c => .bool (xG c)) := by
 refine zf zj Tryz.func102 rfl (by decide) fun c _ => ?_
 refine ⟨Nat.le_refl _, by simp [Tryz.f102], fun E hE => ?_⟩
 have hk := (zeK c).2.2.1
 rw [hk]
 refine ze _ ?_
 (all_goals refine qgp ?_ <;> (repeat' first | exact trivial | intro hc | refine And.intro ?_ ?_) <;> refine Lf.mk ?_)
 ·obtain rfl : c = 32 := zm4 hc
  exact zd (VS.mk (LeD.tt rfl))
 ·obtain rfl : c = 9 := zm4 hc
  exact zd (VS.mk (LeD.tt rfl))
 ·have h1 : (c == 32) = false := zpy (by assumption)
  have h2 : (c == 9) = false := zpy hc
  exact zd (VS.mk (LeD.of_eq (congrArg D.bool (by rw [h1, h2]; exact zeL c 13))))
theorem zqN : za Tryz.prog zi2 (zx (fun _ : UInt8 => True) (fun c => [zI c]) fun c => .bool (x0 c)) := by
 refine zf zj Tryz.func103 rfl (by decide) fun c _ => ?_
 refine ⟨Nat.le_refl _, by simp [Tryz.f103], fun E hE => ?_⟩
 have hk := (zeK c).2.1
 refine ze _ ?_
 (all_goals refine qgp (Lf.mk ?_))
 refine zb kC c trivial (VS.mk (LeL.of_eq rfl)) ?_
 generalize zK c = x at *
 (all_goals refine qgp ?_ <;> (repeat' first | exact trivial | intro hc | refine And.intro ?_ ?_) <;> refine Lf.mk ?_)
 all_goals (try refine zb zaK c trivial (VS.mk (LeL.of_eq rfl)) ?_)
 generalize yt c = y at *
 (all_goals refine qgp ?_ <;> (repeat' first | exact trivial | intro hc | refine And.intro ?_ ?_) <;> refine Lf.mk ?_)
 ·exact zd (VS.mk (LeD.tt (by rw [hk, hc]; rfl)))
 ·exact zd (VS.mk (LeD.tt (by rw [hk, hc, Bool.or_true]; rfl)))
 ·have h1 : x = false := by assumption
  exact zd (VS.mk (LeD.of_eq (congrArg D.bool (by rw [hk, hc, h1]; exact zeL c 47))))
theorem zqO : za Tryz.prog zdB (zx (fun _ : UInt8 => True) (fun c => [zI c]) fun c => .bool (x4 c)) := by
 refine zf zj Tryz.func135 rfl (by decide) fun c _ => ?_
 refine ⟨Nat.le_refl _, by simp [Tryz.f135], fun E hE => ?_⟩
 have hk := (zeK c).1
 refine ze _ ?_
 (all_goals refine qgp (Lf.mk ?_))
 refine zb zaK c trivial (VS.mk (LeL.of_eq rfl)) ?_
 generalize yt c = x at *
 (all_goals refine qgp ?_ <;> (repeat' first | exact trivial | intro hc | refine And.intro ?_ ?_) <;> refine Lf.mk ?_)
 all_goals (try refine zb kC c trivial (VS.mk (LeL.of_eq rfl)) ?_)
 generalize zK c = y at *
 (all_goals refine qgp ?_ <;> (repeat' first | exact trivial | intro hc | refine And.intro ?_ ?_) <;> refine Lf.mk ?_)
 ·exact zd (VS.mk (LeD.tt (by rw [hk, hc]; rfl)))
 ·have h1 : x = false := by assumption
  refine zd (VS.mk (LeD.of_eq (congrArg D.bool ?_)))
  rw [hk, hc, h1]
  show (!(((c.toNat : Nat) : Int) == 46)) = !(c == 46)
  exact congrArg (!·) (zeL c 46)
 ·have h1 : x = false := by assumption
  exact zd (VS.mk (LeD.ff (by rw [hk, hc, h1]; rfl)))
theorem zwV : yS 10 95 = -1 ∧ yS 16 95 = -1 := by unfold yS; decide
theorem zu9 {b : Int} (hb : b = 10 ∨ b = 16) : ∀ (s : List UInt8) (n : Int), (puF b s n).2 = 0 → s.contains 95 = false
 | [], n, h => rfl
 | c :: r, n, h => by
  have hu := zwV
  rw [puF] at h
  split at h
  ·cases h
  rename_i hd
  split at h
  ·cases h
  have ih := zu9 hb r _ h
  rw [List.contains_cons, ih, Bool.or_false, beq_eq_false_iff_ne]
  rintro rfl
  rcases hb with rfl | rfl <;> omega
def wk (w : List UInt8) : zH × Int := if (xV w).2 = true then (⟨2, (xV w).1, []⟩, 0) else (⟨0, 0, []⟩, 2)
def zeM (p : zH × Int) : D := .tup [zJ p.1, .int .i64 p.2]
theorem zvM (w : List UInt8) : (2 < w.length ∧ w.take 2 = [48, 120] → ((puR 16 (w.drop 2)).2 = 0 ∧ xV w = ((puR 16 (w.drop 2)).1, true) ∧ 0 ≤ (puR 16 (w.drop 2)).1 ∧ (puR 16 (w.drop 2)).1 ≤ 4294967295 ∧ w.contains 95 = false) ∨ ((puR 16 (w.drop 2)).2 ≠ 0 ∧ (xV w).2 = false)) ∧
  (¬ (2 < w.length ∧ w.take 2 = [48, 120]) → ((puR 10 w).2 = 0 ∧ xV w = ((puR 10 w).1, true) ∧ 0 ≤ (puR 10 w).1 ∧ (puR 10 w).1 ≤ 4294967295 ∧ w.contains 95 = false) ∨ ((puR 10 w).2 ≠ 0 ∧ (xV w).2 = false)) := by
 have us : ∀ {b : Int}, (b = 10 ∨ b = 16) → ∀ s, (puR b s).2 = 0 → s.contains 95 = false := fun {b} hb s h => by
  unfold puR at h
  split at h
  ·cases h
  ·exact zu9 hb s 0 h
 constructor
 ·intro h
  have e : xV w = zeH 16 (w.drop 2) := by unfold xV; rw [if_pos h]
  rw [e]
  rcases zpv (.inr rfl) (w.drop 2) with ⟨h1, h2, h3, h4⟩ | h1
  ·left
   refine ⟨h1, h2, h3, h4, ?_⟩
   have h5 := us (.inr rfl) _ h1
   rw [← List.take_append_drop 2 w, h.2, List.cons_append, List.cons_append, List.nil_append, List.contains_cons, List.contains_cons, h5]
   rfl
  ·exact .inr h1
 ·intro h
  have e : xV w = zeH 10 w := by unfold xV; rw [if_neg h]
  rw [e]
  rcases zpv (.inl rfl) w with ⟨h1, h2, h3, h4⟩ | h1
  ·exact .inl ⟨h1, h2, h3, h4, us (.inl rfl) _ h1⟩
  ·exact .inr h1
theorem zlE : za Tryz.prog zeE (ya (fun ((s, i) : List UInt8 × Nat) => i ≤ s.length ∧ s.length ≤ 1000000000) (fun _ => [.loc 0 0]) (fun (s, i) => rdO s i)
  (fun (s, i) => zeM (wk ((s.take (i + zO x4 (s.drop i))).drop i))) fun (s, i) => rdO s (i + zO x4 (s.drop i))) := by
 refine zf zj Tryz.func104 rfl (by decide) ?_
 rintro ⟨s, i⟩ ⟨hi, hs⟩
 refine ⟨Nat.le_refl _, by simp [Tryz.f104], fun E hE => ?_⟩
 refine ze _ ?_
 (all_goals refine qgp (Lf.mk ?_))
 refine yb (zeJ zqO) [0] [0] (s, i) ⟨hi, hs⟩ rfl rfl ?_
 refine And.intro (VS.mk (LeL.of_eq rfl)) (And.intro (VS.mk rfl) ?_)
 dsimp only
 have hw : ((s.take (i + zO x4 (s.drop i))).drop i).length ≤ 1000000000 := by rw [List.length_drop, List.length_take]; omega
 generalize (s.take (i + zO x4 (s.drop i))).drop i = w at *
 have hN := zvM w
 (all_goals refine qgp (Lf.mk ?_))
 refine zb jr (w, 10) ⟨hw, .inl rfl⟩ (VS.mk (LeL.of_eq rfl)) ?_
 dsimp only
 generalize puR 10 w = R10 at *
 obtain ⟨n10, e10⟩ := R10
 dsimp only at hN ⊢
 have hbad : (xV w).2 = false → wk w = (⟨0, 0, []⟩, 2) := fun h => by unfold wk; rw [h, if_neg (by decide)]
 have hgood : ∀ n, xV w = (n, true) → wk w = (⟨2, n, []⟩, 0) := fun n h => by unfold wk; rw [h]; rfl
 have hdd : List.drop (Int.toNat 2) (List.take ((w.length : Int)).toNat w) = w.drop 2 := by rw [Int.toNat_natCast, List.take_length]; rfl
 have hx : 2 < w.length → List.drop (Int.toNat 0) (List.take (Int.toNat 2) w) = [48, 120] → 2 < w.length ∧ w.take 2 = [48, 120] := fun h1 h2 => ⟨h1, h2⟩
 by_cases hxx : 2 < w.length ∧ w.take 2 = [48, 120]
 ·have hN := hN.1 hxx
  have hx1 := hxx.1
  have hx2 : List.drop (Int.toNat 0) (List.take (Int.toNat 2) w) = [48, 120] := hxx.2
  by_cases he : e10 = 0
  ·rw [if_pos he]
   (all_goals refine qgp ?_ <;> (repeat' first | exact trivial | intro hc | refine And.intro ?_ ?_) <;> refine Lf.mk ?_)
   all_goals first
    | (exfalso; exact absurd hx2 (by assumption))
    | skip
   refine zb jr (w.drop 2, 16) ⟨by rw [List.length_drop]; omega, .inr rfl⟩ (VS.mk (LeL.of_eq (by rw [hdd]; try rfl))) ?_
   dsimp only
   generalize puR 16 (w.drop 2) = R16 at *
   obtain ⟨n16, e16⟩ := R16
   dsimp only at hN ⊢
   rcases hN with ⟨h1, h2, h3, h4, h5⟩ | ⟨h1, h2⟩
   ·rw [if_pos h1]
    (all_goals refine qgp ?_ <;> (repeat' first | exact trivial | intro hc | refine And.intro ?_ ?_) <;> refine Lf.mk ?_)
    all_goals first
     | (exfalso; refine absurd trivial ?_; assumption)
     | (exfalso; exact Bool.noConfusion hc)
     | (exfalso; refine absurd hc ?_; decide)
     | skip
    refine zb kN (w, 95) trivial (VS.mk (LeL.of_eq rfl)) ?_
    dsimp only
    rw [h5]
    (all_goals refine qgp ?_ <;> (repeat' first | exact trivial | intro hc | refine And.intro ?_ ?_) <;> refine Lf.mk ?_)
    all_goals first
     | (exfalso; refine absurd trivial ?_; assumption)
     | (exfalso; exact Bool.noConfusion hc)
     | (exfalso; refine absurd hc ?_; decide)
     | skip
    refine yo (And.intro (VS.mk ?_) (VS.mk rfl))
    show _ = zeM (wk w)
    rw [hgood _ h2]; rfl
   ·rw [if_neg h1]
    (all_goals refine qgp ?_ <;> (repeat' first | exact trivial | intro hc | refine And.intro ?_ ?_) <;> refine Lf.mk ?_)
    all_goals first
     | (exfalso; refine absurd trivial ?_; assumption)
     | (exfalso; exact Bool.noConfusion hc)
     | (exfalso; refine absurd hc ?_; decide)
     | skip
    refine yo (And.intro (VS.mk ?_) (VS.mk rfl))
    show _ = zeM (wk w)
    rw [hbad h2]; rfl
  ·rw [if_neg he]
   (all_goals refine qgp ?_ <;> (repeat' first | exact trivial | intro hc | refine And.intro ?_ ?_) <;> refine Lf.mk ?_)
   all_goals first
    | (exfalso; exact absurd hx2 (by assumption))
    | skip
   refine zb jr (w.drop 2, 16) ⟨by rw [List.length_drop]; omega, .inr rfl⟩ (VS.mk (LeL.of_eq (by rw [hdd]; try rfl))) ?_
   dsimp only
   generalize puR 16 (w.drop 2) = R16 at *
   obtain ⟨n16, e16⟩ := R16
   dsimp only at hN ⊢
   rcases hN with ⟨h1, h2, h3, h4, h5⟩ | ⟨h1, h2⟩
   ·rw [if_pos h1]
    (all_goals refine qgp ?_ <;> (repeat' first | exact trivial | intro hc | refine And.intro ?_ ?_) <;> refine Lf.mk ?_)
    all_goals first
     | (exfalso; refine absurd trivial ?_; assumption)
     | (exfalso; exact Bool.noConfusion hc)
     | (exfalso; refine absurd hc ?_; decide)
     | skip
    refine zb kN (w, 95) trivial (VS.mk (LeL.of_eq rfl)) ?_
    dsimp only
    rw [h5]
    (all_goals refine qgp ?_ <;> (repeat' first | exact trivial | intro hc | refine And.intro ?_ ?_) <;> refine Lf.mk ?_)
    all_goals first
     | (exfalso; refine absurd trivial ?_; assumption)
     | (exfalso; exact Bool.noConfusion hc)
     | (exfalso; refine absurd hc ?_; decide)
     | skip
    refine yo (And.intro (VS.mk ?_) (VS.mk rfl))
    show _ = zeM (wk w)
    rw [hgood _ h2]; rfl
   ·rw [if_neg h1]
    (all_goals refine qgp ?_ <;> (repeat' first | exact trivial | intro hc | refine And.intro ?_ ?_) <;> refine Lf.mk ?_)
    all_goals first
     | (exfalso; refine absurd trivial ?_; assumption)
     | (exfalso; exact Bool.noConfusion hc)
     | (exfalso; refine absurd hc ?_; decide)
     | skip
    refine yo (And.intro (VS.mk ?_) (VS.mk rfl))
    show _ = zeM (wk w)
    rw [hbad h2]; rfl
 ·rcases hN.2 hxx with ⟨h1, h2, h3, h4, h5⟩ | ⟨h1, h2⟩
  ·rw [if_pos h1]
   (all_goals refine qgp ?_ <;> (repeat' first | exact trivial | intro hc | refine And.intro ?_ ?_) <;> refine Lf.mk ?_)
   all_goals first
    | (exfalso; exact hxx (hx (by omega) (by assumption)))
    | (exfalso; refine absurd trivial ?_; assumption)
    | (exfalso; exact Bool.noConfusion hc)
    | (exfalso; refine absurd hc ?_; decide)
    | skip
   all_goals
    refine zb kN (w, 95) trivial (VS.mk (LeL.of_eq rfl)) ?_
    dsimp only
    rw [h5]
   (all_goals refine qgp ?_ <;> (repeat' first | exact trivial | intro hc | refine And.intro ?_ ?_) <;> refine Lf.mk ?_)
   all_goals first
    | (exfalso; refine absurd trivial ?_; assumption)
    | (exfalso; exact Bool.noConfusion hc)
    | skip
   all_goals
    refine yo (And.intro (VS.mk ?_) (VS.mk rfl))
    show _ = zeM (wk w)
    rw [hgood _ h2]; rfl
  ·rw [if_neg h1]
   (all_goals refine qgp ?_ <;> (repeat' first | exact trivial | intro hc | refine And.intro ?_ ?_) <;> refine Lf.mk ?_)
   all_goals first
    | (exfalso; exact hxx (hx (by omega) (by assumption)))
    | (exfalso; refine absurd trivial ?_; assumption)
    | (exfalso; exact Bool.noConfusion hc)
    | (exfalso; refine absurd hc ?_; decide)
    | skip
   all_goals
    refine yo (And.intro (VS.mk ?_) (VS.mk rfl))
    show _ = zeM (wk w)
    rw [hbad h2]; rfl
end Go.Proofs.YtnkdeacghopkiaaGreatDoor
namespace Go.Proofs.YtnkdeacghopkiaaGreatDoor
open Go Go.Plat
set_option linter.unusedVariables false
set_option linter.unusedSimpArgs false
set_option maxRecDepth 100000
set_option maxHeartbeats 2000000
attribute [local irreducible] AWP zA yh zE zn yu z6 zF zX zY zq za zL yv zo zZ yq yr yj ym zr zu zz xG yt yA zK vj xW x4 xV okC zO x0
def xR (s : List UInt8) (i : Nat) : (zH × Int) × Nat :=
 if (s.drop i).take 2 = [60, 60] then ((⟨3, 0, [60, 60]⟩, 0), i + 2) else if (s.drop i).take 2 = [62, 62] then ((⟨3, 0, [62, 62]⟩, 0), i + 2)
 else if zd7.contains (s.getD i 0) = true then ((⟨3, 0, [s.getD i 0]⟩, 0), i + 1) else ((⟨0, 0, []⟩, 2), i)
def zf7 (p : zH × Int) : D := .tup [zJ p.1, .int .i64 p.2]
theorem zo0 : za Tryz.prog zf1 (ya (fun ((s, i) : List UInt8 × Nat) => i < s.length ∧ s.length ≤ 1000000000) (fun _ => [.loc 0 0]) (fun (s, i) => rdO s i)
  (fun (s, i) => zf7 (xR s i).1) fun (s, i) => rdO s (xR s i).2) := by
 refine zf zj Tryz.func105 rfl (by decide) ?_
 rintro ⟨s, i⟩ ⟨hi, hs⟩
 refine ⟨Nat.le_refl _, by simp [Tryz.f105], fun E hE => ?_⟩
 have hi : i < s.length := hi
 have hs : s.length ≤ 1000000000 := hs
 refine ze _ ?_
 (all_goals refine qgp (Lf.mk ?_))
 refine ye (α := Nat) (fun k => k ≤ 2 ∧ (1 ≤ k → (s.drop i).take 2 ≠ [60, 60]) ∧ (2 ≤ k → (s.drop i).take 2 ≠ [62, 62]))
  (fun k => [(0, .loc 0 0), (2, .loc 1 0), (7, .sl 1 [.str [60, 60], .str [62, 62]] none), (8, .int .i64 2), (9, .int .i64 k)])
  (fun k => rdO s i ++ [.cells [.int .i64 0, .int .i64 0, .str []]]) (fun k => 2 - k) (fun _ => by simp [hE, rdO]) 0 ⟨by decide, fun h => absurd h (by decide), fun h => absurd h (by decide)⟩ ?_ ?_
 ·(repeat' (first | (refine VS.mk ?_) | exact trivial | exact rfl | refine And.intro ?_ ?_))
 rintro k ⟨hk, h1, h2⟩
 have hd : ∀ x : List UInt8, x.length = 2 → (decide ((s.drop i).take x.length = x) = true ↔ (s.drop i).take 2 = x) := fun x hx => by rw [hx, decide_eq_true_iff]
 have hk3 : k = 0 ∨ k = 1 ∨ k = 2 := by omega
 rcases hk3 with rfl | rfl | rfl
 all_goals refine ze _ ?_
 (all_goals refine qgp ?_ <;> (repeat' first | exact trivial | intro hc | refine And.intro ?_ ?_) <;> refine Lf.mk ?_)
 ·refine zb zf6 (s.drop i, [60, 60]) ⟨by rw [List.length_drop]; omega, by decide⟩ (VS.mk (LeL.of_eq (by rw [Int.toNat_natCast, Int.toNat_natCast, List.take_length]))) ?_
  (all_goals refine qgp ?_ <;> (repeat' first | exact trivial | intro hc | refine And.intro ?_ ?_) <;> refine Lf.mk ?_)
  ·have h := (hd [60, 60] rfl).1 (by simpa using hc)
   have e : xR s i = ((⟨3, 0, [60, 60]⟩, 0), i + 2) := by unfold xR; rw [if_pos h]
   refine yo (And.intro (VS.mk ?_) (VS.mk ?_))
   ·show _ = zf7 (xR s i).1
    rw [e]; rfl
   ·show _ = rdO s (xR s i).2
    rw [e]; rfl
  ·have h : (s.drop i).take 2 ≠ [60, 60] := fun h => absurd ((hd [60, 60] rfl).2 h) (by simpa using hc)
   refine zB 1 ⟨by decide, fun _ => h, fun h => absurd h (by decide)⟩ (by decide) ?_
   (repeat' (first | (refine VS.mk ?_) | exact trivial | exact rfl | refine And.intro ?_ ?_))
 ·refine zb zf6 (s.drop i, [62, 62]) ⟨by rw [List.length_drop]; omega, by decide⟩ (VS.mk (LeL.of_eq (by rw [Int.toNat_natCast, Int.toNat_natCast, List.take_length]))) ?_
  (all_goals refine qgp ?_ <;> (repeat' first | exact trivial | intro hc | refine And.intro ?_ ?_) <;> refine Lf.mk ?_)
  ·have h := (hd [62, 62] rfl).1 (by simpa using hc)
   have e : xR s i = ((⟨3, 0, [62, 62]⟩, 0), i + 2) := by unfold xR; rw [if_neg (h1 (by decide)), if_pos h]
   refine yo (And.intro (VS.mk ?_) (VS.mk ?_))
   ·show _ = zf7 (xR s i).1
    rw [e]; rfl
   ·show _ = rdO s (xR s i).2
    rw [e]; rfl
  ·have h : (s.drop i).take 2 ≠ [62, 62] := fun h => absurd ((hd [62, 62] rfl).2 h) (by simpa using hc)
   refine zB 2 ⟨by decide, fun _ => h1 (by decide), fun _ => h⟩ (by decide) ?_
   (repeat' (first | (refine VS.mk ?_) | exact trivial | exact rfl | refine And.intro ?_ ?_))
 ·have hone : List.drop ((i : Int)).toNat (List.take ((i : Int) + 1).toNat s) = [s.getD i 0] := by
   rw [Int.toNat_natCast, show ((i : Int) + 1).toNat = i + 1 by omega, List.drop_take, zdc (d := 0) hi, show i + 1 - i = 1 by omega]; rfl
  refine zb kN (zd7, s.getD i 0) trivial (VS.mk (LeL.of_eq (by rw [hone]; rfl))) ?_
  (all_goals refine qgp ?_ <;> (repeat' first | exact trivial | intro hc | refine And.intro ?_ ?_) <;> refine Lf.mk ?_)
  ·have e : xR s i = ((⟨0, 0, []⟩, 2), i) := by unfold xR; rw [if_neg (h1 (by decide)), if_neg (h2 (by decide)), if_neg (by rw [hc]; decide)]
   refine yo (And.intro (VS.mk ?_) (VS.mk ?_))
   ·show _ = zf7 (xR s i).1
    rw [e]; rfl
   ·show _ = rdO s (xR s i).2
    rw [e]; rfl
  ·have e : xR s i = ((⟨3, 0, [s.getD i 0]⟩, 0), i + 1) := by unfold xR; rw [if_neg (h1 (by decide)), if_neg (h2 (by decide)), if_pos hc]
   refine yo (And.intro (VS.mk ?_) (VS.mk ?_))
   ·show _ = zf7 (xR s i).1
    rw [e, hone]; rfl
   ·show _ = rdO s (xR s i).2
    rw [e]; rfl
attribute [local irreducible] yS wk puF puR xR
theorem zr8 {p : UInt8 → Bool} : ∀ {l : List UInt8} {x : UInt8}, x ∈ l.takeWhile p → p x = true
 | [], x, h => by simp at h
 | a :: l, x, h => by
  rw [List.takeWhile_cons] at h
  split at h
  ·rename_i ha
   rcases List.mem_cons.1 h with rfl | h
   ·exact ha
   ·exact zr8 h
  ·simp at h
theorem zg5 : za Tryz.prog zlx (zx (fun s : List UInt8 => s.length ≤ 1000000000) (fun s => [.str s]) fun s => zxN (ql s)) := by
 refine zf zj Tryz.func85 rfl (by decide) ?_
 intro s hs
 refine ⟨Nat.le_refl _, by simp [Tryz.f85], fun E hE => ?_⟩
 have hR := zvG s
 refine ze _ ?_
 (all_goals refine qgp ?_ <;> (repeat' first | exact trivial | intro hc | refine And.intro ?_ ?_) <;> refine Lf.mk ?_)
 ·rw [if_pos (by omega)] at hR
  refine zd (VS.mk ?_)
  rw [hR]
  exact .tup (.cons (.nil 3) (.cons (.refl _) .nil))
 rw [if_neg (by omega)] at hR
 refine zb zr5 (s, 59) hs (VS.mk (LeL.of_eq rfl)) ?_
 unfold ztX ztW
 dsimp only
 have hno : ∀ x ∈ s.takeWhile (· != 59), x ≠ 59 := fun x hx => by
  have := zr8 hx
  simpa using this
 have hul : (s.takeWhile (· != 59)).length ≤ s.length := (List.takeWhile_prefix _).length_le
 rw [zvL] at hR
 generalize s.takeWhile (· != 59) = u at *
 (all_goals refine qgp (Lf.mk ?_))
 refine xF (qK 5 3 rfl) ?_
 refine ye (α := Nat × List zH) (fun p => p.1 ≤ u.length ∧ p.2.length ≤ p.1 ∧ xW u [] = xW (u.drop p.1) p.2)
  (fun p => [(4, .loc 0 0), (5, .sl 3 (p.2.map zJ) (some 1))])
  (fun p => rdO u p.1 ++ [.spare p.2.length]) (fun p => u.length - p.1) (fun _ => by simp [hE]) (0, []) ⟨Nat.zero_le _, Nat.le_refl _, rfl⟩ ?_ ?_
 ·(repeat' (first | (refine VS.mk ?_) | exact trivial | exact rfl | refine And.intro ?_ ?_))
 rintro ⟨i, out⟩ ⟨hi, ho, hf⟩
 dsimp only at hi ho hf ⊢
 have hj1 : i + zO xG (u.drop i) ≤ u.length := by have := zd8 xG (u.drop i); rw [List.length_drop] at this; omega
 have hj2 : xW u [] = xW (u.drop (i + zO xG (u.drop i))) out := by rw [hf, zm3, List.drop_drop]
 have hj3 : i + zO xG (u.drop i) < u.length → xG (u.getD (i + zO xG (u.drop i)) 0) = false := fun h => by
  have := zhZ xG (u.drop i) (by rw [List.length_drop]; omega)
  rwa [List.getD_eq_getElem?_getD, List.getElem?_drop, ← List.getD_eq_getElem?_getD] at this
 have hj4 : i ≤ i + zO xG (u.drop i) := Nat.le_add_right _ _
 refine ze _ ?_
 (all_goals refine qgp (Lf.mk ?_))
 refine yb (zeJ zoZ) [0] [0] (u, i) ⟨hi, by omega⟩ rfl rfl ?_
 refine And.intro (VS.mk (LeL.of_eq rfl)) (And.intro (VS.mk rfl) ?_)
 dsimp only
 generalize i + zO xG (u.drop i) = j at *
 (all_goals refine qgp ?_ <;> (repeat' first | exact trivial | intro hc | refine And.intro ?_ ?_) <;> refine Lf.mk ?_)
 ·rw [List.drop_of_length_le (by omega), zmX] at hj2
  rw [hj2] at hR
  refine zd (VS.mk ?_)
  rw [hR]
  (first | exact LeL.refl _ | (repeat' (first | exact LeL.nil | exact LeD.refl _ | exact LeD.nil _ | exact LeD.strip _ _ _ | refine LeL.cons ?_ ?_ | refine LeD.tup ?_ | refine LeD.agg ?_)))
 have hjl : j < u.length := by omega
 obtain ⟨c, hcx⟩ : ∃ c, u.getD j 0 = c := ⟨_, rfl⟩
 obtain ⟨r, hr⟩ : ∃ r, u.drop (j + 1) = r := ⟨_, rfl⟩
 have hd : u.drop j = c :: r := by rw [zdc (d := 0) hjl, hcx, hr]
 have h59 : c ≠ 59 := hno c (by rw [← hcx, List.getD_eq_getElem?_getD, List.getElem?_eq_getElem hjl]; exact List.getElem_mem hjl)
 have hK := zeK c
 have hbl := hj3 hjl
 rw [hcx] at hbl
 rw [hd, qa] at hj2
 refine zb kC c trivial (VS.mk (LeL.of_eq (by rw [Int.toNat_natCast, hcx]; rfl))) ?_
 (all_goals refine qgp ?_ <;> (repeat' first | exact trivial | intro hc | refine And.intro ?_ ?_) <;> refine Lf.mk ?_)
 ·have hk97 := hK.2.2.2.1 hc
  have h1 := zbX (r := r) hk97
  have h2 := zd8 x0 (c :: r)
  rw [if_neg (by rw [hk97]; decide), if_pos hk97, ← hd, List.drop_drop] at hj2
  rw [← hd] at h1 h2
  rw [List.length_drop] at h2
  refine yb (zeJ zqN) [0] [0] (u, j) ⟨hj1, by omega⟩ rfl rfl ?_
  refine And.intro (VS.mk (LeL.of_eq rfl)) (And.intro (VS.mk rfl) ?_)
  dsimp only
  rw [List.drop_take, Nat.add_sub_cancel_left]
  generalize zO x0 (u.drop j) = sp at *
  (all_goals refine qgp ?_ <;> (repeat' first | exact trivial | intro hc | refine And.intro ?_ ?_) <;> refine Lf.mk ?_)
  all_goals first
   | (exfalso; refine absurd hc ?_; decide)
   | skip
  refine zB (j + sp, out ++ [⟨1, 0, (u.drop j).take sp⟩]) ⟨by dsimp only; omega, by dsimp only; rw [List.length_append, List.length_cons, List.length_nil]; omega, hj2⟩ (by dsimp only; omega) ?_
  (repeat' (first | (refine VS.mk ?_) | exact trivial | exact rfl | refine And.intro ?_ ?_))
  all_goals (first | rfl | simp [zJ, rdO])
 refine zb zaK c trivial (VS.mk (LeL.of_eq (by rw [Int.toNat_natCast, hcx]; rfl))) ?_
 have hl : zK c = false := hc
 (all_goals refine qgp ?_ <;> (repeat' first | exact trivial | intro hc | refine And.intro ?_ ?_) <;> refine Lf.mk ?_)
 ·have hk48 := hK.2.2.2.2.1 hl hc
  have h1 := zdd (r := r) hk48
  have h2 := zd8 x4 (c :: r)
  rw [if_neg (by rw [hk48]; decide), if_neg (by rw [hk48]; decide), if_pos hk48, ← hd, List.drop_drop] at hj2
  rw [← hd] at h1 h2
  rw [List.length_drop] at h2
  refine yb zlE [0] [0] (u, j) ⟨hj1, by omega⟩ rfl rfl ?_
  refine And.intro (VS.mk (LeL.of_eq rfl)) (And.intro (VS.mk rfl) ?_)
  dsimp only
  rw [List.drop_take, Nat.add_sub_cancel_left]
  generalize zO x4 (u.drop j) = sp at *
  generalize (u.drop j).take sp = w at *
  have hT : wk w = if (xV w).2 = true then (⟨2, (xV w).1, []⟩, 0) else (⟨0, 0, []⟩, 2) := by unfold wk; rfl
  by_cases hn : (xV w).2 = true
  ·rw [if_pos hn] at hj2 hT
   rw [hT]
   (all_goals refine qgp ?_ <;> (repeat' first | exact trivial | intro hc | refine And.intro ?_ ?_) <;> refine Lf.mk ?_)
   all_goals first
    | (exfalso; refine absurd hc ?_; decide)
    | skip
   refine zB (j + sp, out ++ [⟨2, (xV w).1, []⟩]) ⟨by dsimp only; omega, by dsimp only; rw [List.length_append, List.length_cons, List.length_nil]; omega, hj2⟩ (by dsimp only; omega) ?_
   (repeat' (first | (refine VS.mk ?_) | exact trivial | exact rfl | refine And.intro ?_ ?_))
   all_goals (first | rfl | simp [zJ, rdO])
  ·rw [if_neg hn] at hj2 hT
   rw [hT]
   rw [hj2] at hR
   (all_goals refine qgp ?_ <;> (repeat' first | exact trivial | intro hc | refine And.intro ?_ ?_) <;> refine Lf.mk ?_)
   all_goals first
    | (exfalso; refine absurd hc ?_; decide)
    | skip
   refine zd (VS.mk ?_)
   rw [hR]
   exact .tup (.cons (.nil 3) (.cons (.refl _) .nil))
 ·obtain ⟨k1, k2, k3⟩ := hK.2.2.2.2.2 hl hc hbl
  rw [if_neg k3, if_neg k1, if_neg k2, if_neg h59] at hj2
  refine yb zo0 [0] [0] (u, j) ⟨hjl, by omega⟩ rfl rfl ?_
  refine And.intro (VS.mk (LeL.of_eq rfl)) (And.intro (VS.mk rfl) ?_)
  dsimp only
  have hS : xR u j = if (u.drop j).take 2 = [60, 60] then ((⟨3, 0, [60, 60]⟩, 0), j + 2) else if (u.drop j).take 2 = [62, 62] then ((⟨3, 0, [62, 62]⟩, 0), j + 2)
    else if zd7.contains (u.getD j 0) = true then ((⟨3, 0, [u.getD j 0]⟩, 0), j + 1) else ((⟨0, 0, []⟩, 2), j) := by unfold xR; rfl
  rw [hcx, hd] at hS
  have hr1 : r.drop 1 = u.drop (j + 2) := by rw [← hr, List.drop_drop]
  have two : ∀ x : UInt8, (c :: r).take 2 = [x, x] → j + 2 ≤ u.length := fun x h => by
   have := congrArg List.length h
   rw [← hd, List.length_take, List.length_drop] at this
   simp at this
   omega
  by_cases q1 : (c :: r).take 2 = [60, 60]
  ·have := two 60 q1
   rw [if_pos (.inl q1), hr1, q1] at hj2
   rw [if_pos q1] at hS
   rw [hS]
   (all_goals refine qgp ?_ <;> (repeat' first | exact trivial | intro hc | refine And.intro ?_ ?_) <;> refine Lf.mk ?_)
   all_goals first
    | (exfalso; refine absurd hc ?_; decide)
    | skip
   refine zB (j + 2, out ++ [⟨3, 0, [60, 60]⟩]) ⟨by dsimp only; omega, by dsimp only; rw [List.length_append, List.length_cons, List.length_nil]; omega, hj2⟩ (by dsimp only; omega) ?_
   (repeat' (first | (refine VS.mk ?_) | exact trivial | exact rfl | refine And.intro ?_ ?_))
   all_goals (first | rfl | simp [zJ, rdO])
  by_cases q2 : (c :: r).take 2 = [62, 62]
  ·have := two 62 q2
   rw [if_pos (.inr q2), hr1, q2] at hj2
   rw [if_neg q1, if_pos q2] at hS
   rw [hS]
   (all_goals refine qgp ?_ <;> (repeat' first | exact trivial | intro hc | refine And.intro ?_ ?_) <;> refine Lf.mk ?_)
   all_goals first
    | (exfalso; refine absurd hc ?_; decide)
    | skip
   refine zB (j + 2, out ++ [⟨3, 0, [62, 62]⟩]) ⟨by dsimp only; omega, by dsimp only; rw [List.length_append, List.length_cons, List.length_nil]; omega, hj2⟩ (by dsimp only; omega) ?_
   (repeat' (first | (refine VS.mk ?_) | exact trivial | exact rfl | refine And.intro ?_ ?_))
   all_goals (first | rfl | simp [zJ, rdO])
  rw [if_neg (fun h => h.elim q1 q2)] at hj2
  rw [if_neg q1, if_neg q2] at hS
  by_cases q3 : zd7.contains c = true
  ·rw [if_pos q3, ← hr] at hj2
   rw [if_pos q3] at hS
   rw [hS]
   (all_goals refine qgp ?_ <;> (repeat' first | exact trivial | intro hc | refine And.intro ?_ ?_) <;> refine Lf.mk ?_)
   all_goals first
    | (exfalso; refine absurd hc ?_; decide)
    | skip
   refine zB (j + 1, out ++ [⟨3, 0, [c]⟩]) ⟨by dsimp only; omega, by dsimp only; rw [List.length_append, List.length_cons, List.length_nil]; omega, hj2⟩ (by dsimp only; omega) ?_
   (repeat' (first | (refine VS.mk ?_) | exact trivial | exact rfl | refine And.intro ?_ ?_))
   all_goals (first | rfl | simp [zJ, rdO])
  ·rw [if_neg q3] at hj2 hS
   rw [hS]
   rw [hj2] at hR
   (all_goals refine qgp ?_ <;> (repeat' first | exact trivial | intro hc | refine And.intro ?_ ?_) <;> refine Lf.mk ?_)
   all_goals first
    | (exfalso; refine absurd hc ?_; decide)
    | skip
   refine zd (VS.mk ?_)
   rw [hR]
   exact .tup (.cons (.nil 3) (.cons (.refl _) .nil))
end Go.Proofs.YtnkdeacghopkiaaGreatDoor
namespace Go.Proofs.YtnkdeacghopkiaaGreatDoor
open Go Go.Plat
set_option linter.unusedVariables false
set_option linter.unusedSimpArgs false
set_option maxRecDepth 100000
set_option maxHeartbeats 2000000
attribute [local irreducible] AWP zA yh zE zn yu z6 zF zX zY zq za zL yv zo zZ yq yr yj ym zr zu zz yt yA zK vj xW x4 xV okC zO x0
def yp (c : UInt8) : List UInt8 → List (List UInt8)
 | [] => [[]]
 | b :: l => if b = c then [] :: yp c l else match yp c l with
  | [] => [[b]]
  | x :: r => (b :: x) :: r
theorem jH (c : UInt8) : ∀ s, (yp c s).length = s.count c + 1
 | [] => rfl
 | b :: l => by
  have ih := jH c l
  rw [yp, List.count_cons]
  by_cases h : b = c
  ·rw [if_pos h, h]; simp; omega
  ·rw [if_neg h]
   have e : (b == c) = false := beq_eq_false_iff_ne.2 h
   rw [e]
   cases hl : yp c l with
   | nil => rw [hl] at ih; simp at ih
   | cons x r => rw [hl] at ih; simpa using ih
theorem zdf (c : UInt8) : ∀ s : List UInt8, (s.contains c = false → yp c s = [s]) ∧ (s.contains c = true → yp c s = s.takeWhile (· != c) :: yp c ((s.dropWhile (· != c)).drop 1))
 | [] => ⟨fun _ => rfl, fun h => by simp at h⟩
 | b :: l => by
  obtain ⟨h1, h2⟩ := zdf c l
  rw [yp, List.contains_cons, List.takeWhile_cons, List.dropWhile_cons]
  by_cases h : b = c
  ·subst h
   refine ⟨fun h => by simp at h, fun _ => ?_⟩
   rw [if_pos rfl]
   simp
  ·have e : (b == c) = false := beq_eq_false_iff_ne.2 h
   have e1 : (c == b) = false := beq_eq_false_iff_ne.2 fun q => h q.symm
   have e2 : (b != c) = true := by simp [bne, e]
   rw [if_neg h, e1, Bool.false_or, e2, if_pos rfl, if_pos rfl]
   refine ⟨fun h => by rw [h1 h], fun h => by rw [h2 h]⟩
theorem zqP (c : UInt8) (s : List UInt8) (h : s.contains c = true) : s.count c = ((s.dropWhile (· != c)).drop 1).count c + 1 := by
 have h1 := jH c s
 rw [(zdf c s).2 h, List.length_cons, jH] at h1
 omega
theorem zr9 {c : UInt8} {s : List UInt8} (h : 0 < s.count c) : s.contains c = true := by
 rw [List.contains_iff_mem]
 exact List.count_pos_iff.1 h
theorem zqQ {c : UInt8} {s : List UInt8} (h : s.count c = 0) : s.contains c = false := by
 cases e : s.contains c with
 | false => rfl
 | true =>
  rw [List.contains_iff_mem] at e
  have := List.count_pos_iff.2 e
  omega
theorem ztY {n : Nat} {x : D} {K : List D → Nat → Prop} (h : K (List.replicate n x) n) : zo (List.replicate n x) K := by unfold zo; rw [List.length_replicate]; exact h
def kW (pre : List (List UInt8)) (m : Nat) : List D := (pre ++ List.replicate m []).map D.str
theorem ztZ (pre : List (List UInt8)) (m : Nat) (x : List UInt8) : (kW pre (m + 1)).set pre.length (.str x) = kW (pre ++ [x]) m := by
 unfold kW
 rw [← List.map_set, List.set_append_right _ _ (Nat.le_refl _), Nat.sub_self, List.replicate_succ, List.set_cons_zero, List.append_assoc]
 rfl
theorem zm5 (pre : List (List UInt8)) (m : Nat) : (kW pre m).length = pre.length + m := by unfold kW; simp
theorem zkS {m : Nat → Option Nat} {ds : List D} {K : List D → Prop} (l : List (List UInt8)) (h : ds = l.map D.str) (hK : K (l.map D.str)) : ztH m ds K := by
 subst h
 have hp : ∀ (c : List UInt8), xx m (D.str c) (D.str c) := fun c => xj trivial
 refine ⟨l.map D.str, ⟨rfl, fun i d d' h1 h2 => ?_⟩, fun i d d' h1 h2 => ?_, hK⟩
 all_goals
  rw [h1] at h2
  cases h2
  simp only [List.getElem?_map, Option.map_eq_some_iff] at h1
  obtain ⟨c, _, rfl⟩ := h1
 ·exact hp c
 ·refine ⟨rfl, rfl, fun j x x' h3 h4 => ?_⟩
  rw [h3] at h4
  cases h4
  cases j with
  | zero => simp [D.cells] at h3; subst h3; exact hp c
  | succ j => simp [D.cells] at h3
theorem zqR (l : List (List UInt8)) : zat (l.map D.str) (l.map D.str) := by
 refine ⟨rfl, fun i d d' h1 h2 => ?_⟩
 rw [h1] at h2
 cases h2
 simp only [List.getElem?_map, Option.map_eq_some_iff] at h1
 obtain ⟨c, _, rfl⟩ := h1
 refine ⟨rfl, rfl, fun j x x' h3 h4 => ?_⟩
 rw [h3] at h4
 cases h4
 cases j with
 | zero =>
  simp [D.cells] at h3
  subst h3
  intro w F ρ L v h
  cases h with | pure _ _ h => exact h
 | succ j => simp [D.cells] at h3
theorem zpz {ds ds' : List D} {n : Nat} {K : List D → Nat → Prop} (h : ds = ds') (hn : ds'.length = n) (hK : K ds' n) : zo ds K := by unfold zo; subst h; rw [hn]; exact hK
theorem zpA {pre : List (List UInt8)} {m : Nat} {n : Int} {K : D → Prop} (hn : n = pre.length) (h : K (.str [])) : zX (kW pre (m + 1)) n K :=
 zk (enc := D.str) [] (by omega) (by rw [hn, Int.toNat_natCast, List.getElem?_append_right (Nat.le_refl _), Nat.sub_self]; rfl) h
attribute [local irreducible] kW
theorem zm6 : za Tryz.prog zf0 (zx (fun ((s, c) : List UInt8 × UInt8) => s.length ≤ 1000000) (fun (s, c) => [.str s, .str [c], .int .i64 0, .int .i64 (-1)]) fun (s, c) => .sl 1 ((yp c s).map .str) none) := by
 refine zf zj Tryz.func99 rfl (by decide) ?_
 rintro ⟨s, c⟩ hs
 have hs : s.length ≤ 1000000 := hs
 have hcl := List.count_le_length (a := c) (l := s)
 refine ⟨Nat.le_refl _, by simp [Tryz.f99], fun E hE => ?_⟩
 refine ze _ ?_
 (all_goals refine qgp ?_ <;> (repeat' first | exact trivial | intro hc | refine And.intro ?_ ?_) <;> refine Lf.mk ?_)
 all_goals first
  | (exfalso; exact List.cons_ne_nil _ _ hc)
  | skip
 refine zb zoY (s, c) trivial (VS.mk (LeL.of_eq rfl)) ?_
 have hmin : min ((s.count c : Int) + 1) ((s.length : Int) + 1) = ((s.count c + 1 : Nat) : Int) := by omega
 (all_goals refine qgs (Lf.mk ?_))
 refine zhA ?_
 refine VS.mk (xd ?_ (VS.mk ?_))
 ·dsimp only
  refine ⟨by omega, rfl, ?_, by omega⟩
  show min ((s.count c : Int) + 1) ((s.length : Int) + 1) * ((16 : Nat) : Int) ≤ _
  omega
 dsimp only
 rw [hmin, Int.toNat_natCast]
 refine ztY ?_
 (all_goals refine qgo (Lf.mk ?_))
 refine ye (α := List (List UInt8) × List UInt8) (fun p => yp c s = p.1 ++ yp c p.2 ∧ p.2.length ≤ s.length ∧ p.1.length + p.2.count c = s.count c)
  (fun p => [(0, .str p.2), (1, .str [c]), (2, .int .i64 0), (3, .int .i64 (s.count c)), (9, .osl 1 0 (s.count c + 1) 0 (s.count c + 1)), (10, .int .i64 p.1.length)])
  (fun p => [.arr 1 (kW p.1 (s.count c + 1 - p.1.length))]) (fun p => p.2.count c) (fun _ => by simp [hE]) ([], s) ⟨rfl, Nat.le_refl _, by simp⟩ ?_ ?_
 ·(repeat' (first | (refine VS.mk ?_) | exact trivial | exact rfl | refine And.intro ?_ ?_))
  ·refine zkS (List.replicate (s.count c + 1) []) (by rw [List.map_replicate]; rfl) ?_
   (repeat' (first | (refine VS.mk ?_) | exact trivial | exact rfl | refine And.intro ?_ ?_))
   unfold kW
   rfl
  ·exact congrArg (D.int .i64) (by omega)
 rintro ⟨pre, rest⟩ ⟨hsp, hrl, hct⟩
 dsimp only at hsp hrl hct ⊢
 have hsl := zm5 pre (s.count c - pre.length + 1)
 have hm1 : s.count c + 1 - pre.length = s.count c - pre.length + 1 := by omega
 have hset := fun x => ztZ pre (s.count c - pre.length) x
 have hsl2 := fun x => zm5 (pre ++ [x]) (s.count c - pre.length)
 rw [hm1]
 refine ze _ ?_
 (all_goals refine qgo ?_ <;> (repeat' first | exact trivial | intro hc | refine And.intro ?_ ?_) <;> refine Lf.mk ?_)
 ·have hct2 : rest.contains c = true := zr9 (by omega)
  have hcd := zqP c rest hct2
  have hi := zde c rest
  have hb : -1 ≤ Lib.indexByte rest c ∧ Lib.indexByte rest c ≤ rest.length ∧ (0 ≤ Lib.indexByte rest c → Lib.indexByte rest c < rest.length) := by omega
  have hl1 : ([c] : List UInt8).length = 1 := rfl
  have hpos : 0 ≤ Lib.indexByte rest c := by
   rcases hi with ⟨_, h2, _⟩ | ⟨h1, _⟩
   ·rw [hct2] at h2; cases h2
   ·exact h1
  refine zb zmY (rest, c) trivial (VS.mk (LeL.of_eq rfl)) ?_
  (all_goals refine qgp ?_ <;> (repeat' first | exact trivial | intro hc | refine And.intro ?_ ?_) <;> refine Lf.mk ?_)
  refine zpA (by omega) ?_
  refine VS.mk ?_
  rcases hi with ⟨h1, _⟩ | ⟨_, _, h3, h4, h5⟩
  ·omega
  have hsp2 := (zdf c rest).2 hct2
  rw [← h4] at hsp2 hcd
  generalize Lib.indexByte rest c = ix at *
  generalize hT : rest.takeWhile (· != c) = tw at *
  have htw : rest.take tw.length = tw := by rw [← hT]; exact zmZ _ rest
  subst h3
  have hdl : (rest.drop (tw.length + 1)).length ≤ rest.length := by rw [List.length_drop]; omega
  refine zpz (ds' := kW (pre ++ [tw]) (s.count c - pre.length)) (n := s.count c + 1) ?_ ?_ ?_
  ·rw [← hset tw, Nat.zero_add, Int.toNat_natCast, show ((tw.length : Int) + 0).toNat = tw.length by omega, htw]
   rfl
  ·rw [hsl2 tw, List.length_append, List.length_cons, List.length_nil]; omega
  (all_goals refine qgp (Lf.mk ?_))
  have g1 : yp c s = (pre ++ [tw]) ++ yp c (rest.drop (tw.length + 1)) := by rw [hsp, hsp2, List.append_assoc]; rfl
  have g2 : (pre ++ [tw]).length + (rest.drop (tw.length + 1)).count c = s.count c := by rw [List.length_append, List.length_cons, List.length_nil]; omega
  refine zB (pre ++ [tw], rest.drop (tw.length + 1)) ⟨g1, by dsimp only; omega, g2⟩ (by dsimp only; omega) ?_
  (repeat' (first | (refine VS.mk ?_) | exact trivial | exact rfl | refine And.intro ?_ ?_))
  ·refine zkS ((pre ++ [tw]) ++ List.replicate (s.count c - pre.length) []) (by unfold kW; rfl) ?_
   (repeat' (first | (refine VS.mk ?_) | exact trivial | exact rfl | refine And.intro ?_ ?_))
   show _ = [Ob.arr 1 (kW (pre ++ [tw]) (s.count c + 1 - (pre ++ [tw]).length))]
   rw [show s.count c + 1 - (pre ++ [tw]).length = s.count c - pre.length by rw [List.length_append, List.length_cons, List.length_nil]; omega]
   unfold kW
   rfl
  ·refine congrArg D.str ?_
   dsimp only
   rw [hl1, Int.toNat_natCast, List.take_length, show ((tw.length : Int) + ((1 : Nat) : Int)).toNat = tw.length + 1 by omega]
  ·refine congrArg (D.int .i64) ?_
   dsimp only
   rw [List.length_append, List.length_cons, List.length_nil]; omega
 ·refine zpA (by omega) ?_
  refine VS.mk ?_
  have hno := (zdf c rest).1 (zqQ (by omega))
  refine zpz (ds' := kW (pre ++ [rest]) (s.count c - pre.length)) (n := s.count c + 1) ?_ ?_ ?_
  ·rw [← hset rest, Nat.zero_add, Int.toNat_natCast]
  ·rw [hsl2 rest, List.length_append, List.length_cons, List.length_nil]; omega
  (all_goals refine qgp (Lf.mk ?_))
  have hfin : kW (pre ++ [rest]) (s.count c - pre.length) = (yp c s).map D.str := by
   rw [hsp, hno, show s.count c - pre.length = 0 by omega]
   unfold kW
   rw [List.replicate_zero, List.append_nil]
  rw [hfin]
  have hfl : ((yp c s).map D.str).length = s.count c + 1 := by rw [List.length_map, jH]
  rw [show ((pre.length : Int) + 1).toNat - Int.toNat 0 = s.count c + 1 by simp only [Int.toNat_zero]; omega]
  show zF 0 (.osl 1 0 (s.count c + 1) 0 (s.count c + 1)) _ _ []
  refine jW (k := 0) (e := 1) (els := (yp c s).map D.str) (els' := (yp c s).map D.str) rfl (Nat.le_refl _) (zqR _) (.here _ _ hfl.symm hfl.symm) ?_ (Nat.le_refl _)
  exact zd (VS.mk (LeD.of_eq rfl))
theorem zo1 : za Tryz.prog zi0 (zx (fun ((s, c) : List UInt8 × UInt8) => s.length ≤ 1000000) (fun (s, c) => [.str s, .str [c]]) fun (s, c) => .sl 1 ((yp c s).map .str) none) := by
 refine zf zj Tryz.func84 rfl (by decide) ?_
 rintro ⟨s, c⟩ hs
 refine ⟨Nat.le_refl _, by simp [Tryz.f84], fun E hE => ?_⟩
 refine ze _ ?_
 (all_goals refine qgp (Lf.mk ?_))
 refine zb zm6 (s, c) hs (VS.mk (LeL.of_eq rfl)) ?_
 (all_goals refine qgp (Lf.mk ?_))
 exact zd (VS.mk (LeD.of_eq rfl))
end Go.Proofs.YtnkdeacghopkiaaGreatDoor
namespace Go.Proofs.YtnkdeacghopkiaaGreatDoor
open Go Go.Plat
set_option linter.unusedVariables false
set_option linter.unusedSimpArgs false
set_option maxRecDepth 100000
set_option maxHeartbeats 2000000
attribute [local irreducible] AWP zA yh zE zn yu z6 zF zX zY zq za zL yv zo zZ yq yr yj ym zr zu zz yS yt yA zK okC
end Go.Proofs.YtnkdeacghopkiaaGreatDoor
namespace Go.Proofs.YtnkdeacghopkiaaGreatDoor
open Go Go.Plat
set_option linter.unusedVariables false
set_option linter.unusedSimpArgs false
set_option maxRecDepth 100000
set_option maxHeartbeats 2000000
attribute [local irreducible] AWP zA yh zE zn yu z6 zF zX zY zq za zL yv zo zZ yq yr yj ym zr zu zz yt yA zK okC
attribute [local irreducible] vj xW x4 xV zO x0
attribute [local irreducible] xG yS ql wk puF puR xR
structure zy where
 pos : Int
 toks : List zH
def zS (l : zy) : D := .agg [.int .i64 l.pos, .sl 3 (l.toks.map zJ) none]
def wl : List (List UInt8) → Int → List zy → List zy × Int × Int
 | [], _, out => (out, 0, 0)
 | p :: r, k, out => if (ql p).2 ≠ 0 then ([], (ql p).2, k) else if (ql p).1.length = 0 then wl r (k + 1) out else wl r (k + 1) (out ++ [⟨k, (ql p).1⟩])
def yB (b : List UInt8) : List zy × Int × Int := if 1200 < b.length then ([], 4, 0) else wl (yp 10 b) 1 []
def zm7 (p : List zy × Int × Int) : D := .tup [.sl 2 (p.1.map zS) none, .agg [.int .i64 p.2.1, .int .i64 p.2.2]]
theorem zdD (p : List UInt8) (r : List (List UInt8)) (k : Int) (out : List zy) : wl (p :: r) k out =
  if (ql p).2 ≠ 0 then ([], (ql p).2, k) else if (ql p).1.length = 0 then wl r (k + 1) out else wl r (k + 1) (out ++ [⟨k, (ql p).1⟩]) := rfl
theorem zm8 (c : UInt8) : ∀ (s : List UInt8) (p : List UInt8), p ∈ yp c s → p.length ≤ s.length
 | [], p, h => by rw [yp, List.mem_singleton] at h; rw [h]; exact Nat.le_refl _
 | b :: l, p, h => by
  have ih := zm8 c l
  rw [yp] at h
  split at h
  ·rcases List.mem_cons.1 h with rfl | h
   ·simp
   ·have := ih p h; simp; omega
  ·cases hl : yp c l with
   | nil => rw [hl, List.mem_singleton] at h; rw [h]; simp
   | cons x r =>
    rw [hl] at h
    rcases List.mem_cons.1 h with rfl | h
    ·have := ih x (by rw [hl]; exact List.mem_cons_self); simp; omega
    ·have := ih p (by rw [hl]; exact List.mem_cons_of_mem _ h); simp; omega
theorem zcv : za Tryz.prog zmN (zx (fun b : List UInt8 => b.length ≤ 1000000000) (fun b => [.sl 1 (b.map zI) none]) fun b => zm7 (yB b)) := by
 refine zf zj Tryz.func65 rfl (by decide) ?_
 intro b hb
 refine ⟨Nat.le_refl _, by simp [Tryz.f65], fun E hE => ?_⟩
 have hR : yB b = if 1200 < b.length then ([], 4, 0) else wl (yp 10 b) 1 [] := rfl
 have hpl := zm8 10 b
 have hsl := jH 10 b
 have hct := List.count_le_length (a := 10) (l := b)
 refine ze _ ?_
 (all_goals refine qgp ?_ <;> (repeat' first | exact trivial | intro hc | refine And.intro ?_ ?_) <;> refine Lf.mk ?_)
 ·rw [if_pos (by omega)] at hR
  refine zd (VS.mk ?_)
  rw [hR]
  exact .tup (.cons (.nil 2) (.cons (.refl _) .nil))
 rw [if_neg (by omega)] at hR
 refine zb zo1 (b, 10) (by show b.length ≤ 1000000; omega) (VS.mk (LeL.of_eq rfl)) ?_
 dsimp only
 generalize yp 10 b = ps at *
 (all_goals refine qgp (Lf.mk ?_))
 refine xF (qK 4 2 rfl) ?_
 refine ye (α := Nat × List zy) (fun p => p.1 ≤ ps.length ∧ p.2.length ≤ p.1 ∧ yB b = wl (ps.drop p.1) (p.1 + 1) p.2)
  (fun p => [(3, .loc 0 0), (4, .sl 2 (p.2.map zS) (some 1)), (15, .sl 1 (ps.map .str) none), (16, .int .i64 ps.length), (17, .int .i64 p.1)])
  (fun p => [.cells [.int .i64 0, .int .i64 0], .spare p.2.length]) (fun p => ps.length - p.1) (fun _ => by simp [hE]) (0, []) ⟨Nat.zero_le _, Nat.le_refl _, by rw [hR]; rfl⟩ ?_ ?_
 ·(repeat' (first | (refine VS.mk ?_) | exact trivial | exact rfl | refine And.intro ?_ ?_))
 rintro ⟨i, out⟩ ⟨hi, ho, hf⟩
 dsimp only at hi ho hf ⊢
 refine ze _ ?_
 (all_goals refine qgp ?_ <;> (repeat' first | exact trivial | intro hc | refine And.intro ?_ ?_) <;> refine Lf.mk ?_)
 ·have hil : i < ps.length := by omega
  obtain ⟨p, hp⟩ : ∃ p, ps[i] = p := ⟨_, rfl⟩
  have hpx : ps[i]? = some p := by rw [List.getElem?_eq_getElem hil, hp]
  have hpm := hpl p (by rw [← hp]; exact List.getElem_mem hil)
  rw [List.drop_eq_getElem_cons hil, hp, zdD] at hf
  refine zk p (by omega) (by simpa using hpx) ?_
  (all_goals refine qgp (Lf.mk ?_))
  refine zb zg5 p (by omega) (VS.mk (LeL.of_eq rfl)) ?_
  generalize ql p = T at *
  obtain ⟨ts, te⟩ := T
  dsimp only at hf
  (all_goals refine qgp ?_ <;> (repeat' first | exact trivial | intro hc | refine And.intro ?_ ?_) <;> refine Lf.mk ?_)
  ·rw [if_pos hc] at hf
   refine zd (VS.mk ?_)
   rw [hf]
   exact .tup (.cons (.nil 2) (.cons (.refl _) .nil))
  ·have ht : te = 0 := by assumption
   rw [if_neg (by rw [ht]; simp), if_neg (by omega)] at hf
   have hf1 : yB b = wl (ps.drop (i + 1)) (((i + 1 : Nat) : Int) + 1) (out ++ [⟨(i : Int) + 1, ts⟩]) := hf
   refine zB (i + 1, out ++ [⟨(i : Int) + 1, ts⟩]) ⟨by dsimp only; omega, by dsimp only; rw [List.length_append, List.length_cons, List.length_nil]; omega, hf1⟩ (by dsimp only; omega) ?_
   (repeat' (first | (refine VS.mk ?_) | exact trivial | exact rfl | refine And.intro ?_ ?_))
   all_goals (first | rfl | simp [zS])
  ·have ht : te = 0 := by assumption
   rw [if_neg (by rw [ht]; simp), if_pos (by omega)] at hf
   have hf1 : yB b = wl (ps.drop (i + 1)) (((i + 1 : Nat) : Int) + 1) out := hf
   refine zB (i + 1, out) ⟨by dsimp only; omega, by dsimp only; omega, hf1⟩ (by dsimp only; omega) ?_
   (repeat' (first | (refine VS.mk ?_) | exact trivial | exact rfl | refine And.intro ?_ ?_))
 ·rw [List.drop_of_length_le (by omega)] at hf
  refine zd (VS.mk ?_)
  rw [hf]
  (first | exact LeL.refl _ | (repeat' (first | exact LeL.nil | exact LeD.refl _ | exact LeD.nil _ | exact LeD.strip _ _ _ | refine LeL.cons ?_ ?_ | refine LeD.tup ?_ | refine LeD.agg ?_)))
end Go.Proofs.YtnkdeacghopkiaaGreatDoor
namespace Go.Proofs.YtnkdeacghopkiaaGreatDoor
open Go Go.Plat
set_option linter.unusedVariables false
set_option linter.unusedSimpArgs false
set_option maxRecDepth 100000
set_option maxHeartbeats 2000000
attribute [local irreducible] AWP zA yh zE zn yu z6 zF zX zY zq za zL yv zo zZ yq yr yj ym zr zu zz
inductive zg where
 | mk (kind n : Int) (name : List UInt8) (kids : List zg)
def zg.kind : zg → Int | .mk k _ _ _ => k
def zg.n : zg → Int | .mk _ n _ _ => n
def zg.name : zg → List UInt8 | .mk _ _ s _ => s
def zg.kids : zg → List zg | .mk _ _ _ ks => ks
mutual
def xe : zg → D
 | .mk k n s ks => .agg [.int .i64 k, .int .i64 n, .str s, .sl 4 (zf8 ks) none]
def zf8 : List zg → List D
 | [] => []
 | e :: es => xe e :: zf8 es
end
mutual
def yD : zg → Nat
 | .mk _ _ s ks => 1 + s.length + vB ks
def vB : List zg → Nat
 | [] => 0
 | e :: es => yD e + vB es
end
theorem zi7 : ∀ l : List zg, zf8 l = l.map xe
 | [] => by rw [zf8]; rfl
 | e :: es => by rw [zf8, zi7 es]; rfl
def vH (e : zg) : D := .agg [.int .i64 e.kind, .int .i64 e.n, .str e.name, .sl 4 (e.kids.map xe) none]
theorem zpB (k n : Int) (s : List UInt8) (ks : List zg) : (zg.mk k n s ks).kind = k := rfl
theorem zwW (k n : Int) (s : List UInt8) (ks : List zg) : (zg.mk k n s ks).n = n := rfl
theorem zpC (k n : Int) (s : List UInt8) (ks : List zg) : (zg.mk k n s ks).name = s := rfl
theorem zpD (k n : Int) (s : List UInt8) (ks : List zg) : (zg.mk k n s ks).kids = ks := rfl
theorem zaz (k n : Int) (s : List UInt8) (ks : List zg) : vH (.mk k n s ks) = .agg [.int .i64 k, .int .i64 n, .str s, .sl 4 (ks.map xe) none] := rfl
theorem zeN (e : zg) : xe e = vH e := by
 cases e with
 | mk k n s ks => rw [xe, zi7]; rfl
theorem zwX (a : zg) : [a].map xe = [vH a] := by rw [List.map_cons, zeN]; rfl
theorem zyd (a b : zg) : [a, b].map xe = [vH a, vH b] := by rw [List.map_cons, List.map_cons, zeN, zeN]; rfl
theorem zf9 (e : zg) : 0 < yD e := by cases e; rw [yD]; omega
theorem zi8 : ∀ {l : List zg} {x : zg}, x ∈ l → yD x ≤ vB l
 | [], _, h => by simp at h
 | e :: es, x, h => by
  rw [vB]
  rcases List.mem_cons.1 h with rfl | h
  ·omega
  ·have := zi8 h; omega
theorem zi9 : ∀ l : List zg, l.length ≤ vB l
 | [] => by rw [vB]; simp
 | e :: es => by
  have := zi9 es
  have := zf9 e
  rw [vB, List.length_cons]; omega
theorem zsa {e x : zg} (h : x ∈ e.kids) : yD x < yD e := by
 cases e with
 | mk k n s ks => have := zi8 (show x ∈ ks from h); rw [yD]; omega
theorem zt0 (e : zg) : e.kids.length < yD e := by
 cases e with
 | mk k n s ks => have := zi9 ks; rw [yD]; show ks.length < _; omega
theorem zt1 (e : zg) : e.name.length < yD e := by
 cases e with
 | mk k n s ks => rw [yD]; show s.length < _; omega
theorem zvN {l : List zg} {n : Int} {K : D → Prop} (x : zg) (h0 : 0 ≤ n) (h : l[n.toNat]? = some x) (hK : K (vH x)) : zX (l.map xe) n K := by
 unfold zX
 exact ⟨h0, vH x, by rw [List.getElem?_map, h, ← zeN]; rfl, hK⟩
attribute [local irreducible] xe yD zg.kind zg.n zg.name zg.kids
end Go.Proofs.YtnkdeacghopkiaaGreatDoor
namespace Go.Proofs.YtnkdeacghopkiaaGreatDoor
open Go Go.Plat
set_option linter.unusedVariables false
set_option linter.unusedSimpArgs false
set_option maxRecDepth 100000
set_option maxHeartbeats 2000000
attribute [local irreducible] AWP zA yh zE zn yu z6 zF zX zY zq za zL yv zo zZ yq yr yj ym zr zu zz
def zh (n : Int) (k : Nat) : Int := if n % (2 : Int) ^ k / 2 ^ (k - 1) = 1 then n % (2 : Int) ^ k - 2 ^ k else n % (2 : Int) ^ k
theorem zcw : za Tryz.prog zmO (zx (fun ((n, k) : Int × Nat) => (k = 8 ∨ k = 12 ∨ k = 32)) (fun (n, k) => [.int .i64 n, .int .i64 k]) fun (n, k) => .int .i64 (zh n k)) := by
 refine zf zj Tryz.func69 rfl (by decide) ?_
 rintro ⟨n, k⟩ hk
 refine ⟨Nat.le_refl _, by simp [Tryz.f69], fun E hE => ?_⟩
 rcases hk with hk | hk | hk <;> (have hk : k = _ := hk; subst hk; refine ze _ ?_)
 ·have h0 := Int.emod_nonneg n (show (256 : Int) ≠ 0 by decide)
  have h1 := Int.emod_lt_of_pos n (show (0 : Int) < 256 by decide)
  have hd : zh n 8 = if n % 256 / 128 = 1 then n % 256 - 256 else n % 256 := rfl
  (all_goals refine qgo (Lf.mk ?_))
  refine jB (s := 7) (m := 128) rfl (by decide) (by decide) ?_
  (all_goals refine qgo ?_ <;> (repeat' first | exact trivial | intro hc | refine And.intro ?_ ?_) <;> refine Lf.mk ?_)
  ·skip
   refine zd (VS.mk (LeD.of_eq (congrArg (D.int .i64) ?_)))
   rw [hd, if_pos hc]
   omega
  ·refine zd (VS.mk (LeD.of_eq (congrArg (D.int .i64) ?_)))
   rw [hd, if_neg hc]
 ·have h0 := Int.emod_nonneg n (show (4096 : Int) ≠ 0 by decide)
  have h1 := Int.emod_lt_of_pos n (show (0 : Int) < 4096 by decide)
  have hd : zh n 12 = if n % 4096 / 2048 = 1 then n % 4096 - 4096 else n % 4096 := rfl
  (all_goals refine qgo (Lf.mk ?_))
  refine qv (s := 12) (m := 4096) rfl (by decide) (by decide) (by decide) (by decide) ?_
  (all_goals refine qgo (Lf.mk ?_))
  refine jB (s := 11) (m := 2048) rfl (by decide) (by decide) ?_
  (all_goals refine qgo ?_ <;> (repeat' first | exact trivial | intro hc | refine And.intro ?_ ?_) <;> refine Lf.mk ?_)
  ·refine qv (s := 12) (m := 4096) rfl (by decide) (by decide) (by decide) (by decide) ?_
   (all_goals refine qgo (Lf.mk ?_))
   refine zd (VS.mk (LeD.of_eq (congrArg (D.int .i64) ?_)))
   rw [hd, if_pos hc]
   omega
  ·refine zd (VS.mk (LeD.of_eq (congrArg (D.int .i64) ?_)))
   rw [hd, if_neg hc]
 ·have h0 := Int.emod_nonneg n (show (4294967296 : Int) ≠ 0 by decide)
  have h1 := Int.emod_lt_of_pos n (show (0 : Int) < 4294967296 by decide)
  have hd : zh n 32 = if n % 4294967296 / 2147483648 = 1 then n % 4294967296 - 4294967296 else n % 4294967296 := rfl
  (all_goals refine qgo (Lf.mk ?_))
  refine qv (s := 32) (m := 4294967296) rfl (by decide) (by decide) (by decide) (by decide) ?_
  (all_goals refine qgo (Lf.mk ?_))
  refine wh (qM (k := 32) (by decide) (by decide)) ?_
  rw [show (2 : Int) ^ 32 = 4294967296 from rfl]
  (all_goals refine qgo (Lf.mk ?_))
  refine jB (s := 31) (m := 2147483648) rfl (by decide) (by decide) ?_
  (all_goals refine qgo ?_ <;> (repeat' first | exact trivial | intro hc | refine And.intro ?_ ?_) <;> refine Lf.mk ?_)
  ·refine qv (s := 32) (m := 4294967296) rfl (by decide) (by decide) (by decide) (by decide) ?_
   (all_goals refine qgo (Lf.mk ?_))
   refine zd (VS.mk (LeD.of_eq (congrArg (D.int .i64) ?_)))
   rw [hd, if_pos hc]
   omega
  ·refine zd (VS.mk (LeD.of_eq (congrArg (D.int .i64) ?_)))
   rw [hd, if_neg hc]
theorem yx : za Tryz.prog zmL (zx (fun _ : Int => True) (fun n => [.int .i64 n]) fun n => .int .i64 (zh n 32)) := by
 refine zf zj Tryz.func45 rfl (by decide) fun n _ => ?_
 refine ⟨Nat.le_refl _, by simp [Tryz.f45], fun E hE => ?_⟩
 refine ze _ ?_
 (all_goals refine qgo (Lf.mk ?_))
 refine zb zcw (n, 32) (.inr (.inr rfl)) (VS.mk (by (first | exact LeL.refl _ | (repeat' (first | exact LeL.nil | exact LeD.refl _ | exact LeD.nil _ | exact LeD.strip _ _ _ | refine LeL.cons ?_ ?_ | refine LeD.tup ?_ | refine LeD.agg ?_))))) ?_
 (all_goals refine qgo (Lf.mk ?_))
 exact zd (VS.mk (LeD.refl _))
attribute [local irreducible] zg.kids zg.kind zg.n zg.name yt xe yA zK yH yD zh
structure zbH where
 kind : Int
 n : Int
 text : List UInt8
def zt2 (t : zbH) : D := .agg [.int .i64 t.kind, .int .i64 t.n, .str t.text]
structure St where
 rest : List zbH
 err : Int
def noE : zg := .mk 0 0 [] []
def w9 (x : List UInt8) : List (List UInt8) → Nat → Int
 | [], _ => -1
 | s :: l, k => if x = s then k else w9 x l (k + 1)
def yT (k : Nat) : List (List UInt8) := match k with | 0 => [[124]] | 1 => [[38]] | 2 => [[60, 60], [62, 62]] | 3 => [[43], [45]] | _ => [[42]]
def zgQ (k : Nat) : List Int := match k with | 0 => [11] | 1 => [10] | 2 => [8, 9] | 3 => [6, 7] | _ => [5]
def zbI (k : Nat) : D := .agg [.sl 1 ((yT k).map .str) none, .sl 1 ((zgQ k).map (.int .i64)) none]
def zva : D := .sl 2 [zbI 0, zbI 1, zbI 2, zbI 3, zbI 4] none
theorem zga : za Tryz.prog zlB (zx (fun _ : Unit => True) (fun _ => []) fun _ => zva) := by
 refine zf zj Tryz.func196 rfl (by decide) fun _ _ => ?_
 refine ⟨Nat.le_refl _, by simp [Tryz.f196], fun E hE => ?_⟩
 refine ze _ ?_
 (all_goals refine qgo (Lf.mk ?_))
 exact zd (VS.mk (LeD.of_eq rfl))
theorem zdE : za Tryz.prog zaw (zx (fun ((l, x) : List (List UInt8) × List UInt8) => l.length ≤ 1000000000) (fun (l, x) => [.sl 1 (l.map .str) none, .str x]) fun (l, x) => .int .i64 (w9 x l 0)) := by
 refine zf zj Tryz.func148 rfl (by decide) ?_
 rintro ⟨l, x⟩ hl
 have hl : l.length ≤ 1000000000 := hl
 refine ⟨Nat.le_refl _, by simp [Tryz.f148], fun E hE => ?_⟩
 refine ze _ ?_
 (all_goals refine qgo (Lf.mk ?_))
 refine ye (α := Nat) (fun k => k ≤ l.length ∧ w9 x l 0 = w9 x (l.drop k) k)
  (fun k => [(7, .int .i64 l.length), (8, .int .i64 k), (0, .sl 1 (l.map .str) none), (1, .str x)])
  (fun _ => []) (fun k => l.length - k) (fun _ => by simp [hE]) 0 ⟨Nat.zero_le _, by simp⟩ ?_ ?_
 ·(repeat' (first | (refine VS.mk ?_) | exact trivial | exact rfl | refine And.intro ?_ ?_))
 rintro k ⟨hk, hf⟩
 refine ze _ ?_
 (all_goals refine qgo ?_ <;> (repeat' first | exact trivial | intro hc | refine And.intro ?_ ?_) <;> refine Lf.mk ?_)
 ·obtain ⟨s, hsk⟩ := yf (l := l) (k := k) (by omega)
  have hkl : k < l.length := by omega
  have hget : l[k] = s := by rw [List.getElem?_eq_getElem hkl] at hsk; exact Option.some.inj hsk
  rw [List.drop_eq_getElem_cons hkl, hget, w9] at hf
  refine zk s (by omega) (by simpa using hsk) ?_
  (all_goals refine qgo ?_ <;> (repeat' first | exact trivial | intro hc | refine And.intro ?_ ?_) <;> refine Lf.mk ?_)
  ·rw [if_pos hc] at hf
   exact zd (VS.mk (LeD.of_eq (congrArg (D.int .i64) hf.symm)))
  ·rw [if_neg hc] at hf
   refine zB (k + 1) ⟨by omega, hf⟩ (by omega) ?_
   (repeat' (first | (refine VS.mk ?_) | exact trivial | exact rfl | refine And.intro ?_ ?_))
 ·rw [List.drop_of_length_le (by omega), w9] at hf
  exact zd (VS.mk (LeD.of_eq (congrArg (D.int .i64) hf.symm)))
def stO (s : St) : List Ob := [.cells [.sl 3 (s.rest.map zt2) none, .int .i64 s.err]]
def zt (l : List (List UInt8)) (s : St) : Int × St := match s.rest with
 | [] => (-1, s)
 | t :: r => if t.kind = 3 then (if 0 ≤ w9 t.text l 0 then (w9 t.text l 0, ⟨r, s.err⟩) else (-1, s)) else (-1, s)
def vI (s : St) (e : Int) : St := if s.err = 0 then ⟨s.rest, e⟩ else s
theorem zpE (x : List UInt8) : ∀ (l : List (List UInt8)) (k : Nat), w9 x l k < 0 → w9 x l k = -1
 | [], k, _ => rfl
 | s :: l, k, h => by
  rw [w9] at h ⊢
  split at h
  ·omega
  ·rename_i hn; rw [if_neg hn]; exact zpE x l (k + 1) h
theorem zm9 : LeD (.agg [.int .i64 0, .int .i64 0, .str [], .nilsl]) (vH noE) := by
 unfold noE
 rw [zaz]
 exact .agg (.cons (.refl _) (.cons (.refl _) (.cons (.refl _) (.cons (.nil 4) .nil))))
theorem j6 : za Tryz.prog zf5 (ya (fun ((s, e) : St × Int) => True) (fun (s, e) => [.loc 0 0, .int .i64 e]) (fun (s, _) => stO s) (fun _ => vH noE) fun (s, e) => stO (vI s e)) := by
 refine zf zj Tryz.func201 rfl (by decide) ?_
 rintro ⟨s, e⟩ -
 refine ⟨Nat.le_refl _, by simp [Tryz.f201], fun E hE => ?_⟩
 refine ze _ ?_
 (all_goals refine qgo ?_ <;> (repeat' first | exact trivial | intro hc | refine And.intro ?_ ?_) <;> refine Lf.mk ?_)
 ·refine v6 (r1 := vH noE) zm9 ?_ (Nat.le_refl _)
  refine yo ?_
  (repeat' (first | (refine VS.mk ?_) | exact trivial | exact rfl | refine And.intro ?_ ?_))
  ·dsimp only; unfold vI stO; rw [if_pos hc]
 ·refine v6 (r1 := vH noE) zm9 ?_ (Nat.le_refl _)
  refine yo ?_
  (repeat' (first | (refine VS.mk ?_) | exact trivial | exact rfl | refine And.intro ?_ ?_))
  ·dsimp only; unfold vI; rw [if_neg hc]; rfl
theorem zeO : za Tryz.prog zf4 (ya (fun ((s, l) : St × List (List UInt8)) => l.length ≤ 1000000000 ∧ s.rest.length ≤ 1000000000) (fun (s, l) => [.loc 0 0, .sl 1 (l.map .str) none]) (fun (s, _) => stO s) (fun (s, l) => .int .i64 (zt l s).1)
  fun (s, l) => stO (zt l s).2) := by
 refine zf zj Tryz.func198 rfl (by decide) ?_
 rintro ⟨⟨r, e⟩, l⟩ ⟨hl, hr⟩
 have hr : r.length ≤ 1000000000 := hr
 refine ⟨Nat.le_refl _, by simp [Tryz.f198], fun E hE => ?_⟩
 cases r with
 | nil =>
  refine ze _ ?_
  (all_goals refine qgp ?_ <;> (repeat' first | exact trivial | intro hc | refine And.intro ?_ ?_) <;> refine Lf.mk ?_)
  refine yo ?_
  (repeat' (first | (refine VS.mk ?_) | exact trivial | exact rfl | refine And.intro ?_ ?_))
 | cons t r =>
  have hr2 : r.length + 1 ≤ 1000000000 := hr
  refine ze _ ?_
  (all_goals refine qgp ?_ <;> (repeat' first | exact trivial | intro hc | refine And.intro ?_ ?_) <;> refine Lf.mk ?_)
  ·refine yo ?_
   (repeat' (first | (refine VS.mk ?_) | exact trivial | exact rfl | refine And.intro ?_ ?_))
   all_goals (dsimp only [zt]; rw [if_neg hc]; try rfl)
  ·refine zb zdE (l, t.text) hl (VS.mk (LeL.of_eq rfl)) ?_
   (all_goals refine qgp ?_ <;> (repeat' first | exact trivial | intro hc | refine And.intro ?_ ?_) <;> refine Lf.mk ?_)
   ·refine yo ?_
    (repeat' (first | (refine VS.mk ?_) | exact trivial | exact rfl | refine And.intro ?_ ?_))
    all_goals (dsimp only [zt]; rw [if_pos (by assumption), if_pos hc]; try rfl)
   ·refine yo ?_
    (repeat' (first | (refine VS.mk ?_) | exact trivial | exact rfl | refine And.intro ?_ ?_))
    all_goals (dsimp only [zt]; rw [if_pos (by assumption), if_neg hc])
    ·exact congrArg (D.int .i64) (zpE _ _ _ (by omega))
    ·rfl
def zbr (k : Nat) (i : Int) : Int := (zgQ k).getD i.toNat 0
def vJ (k : Nat) (sub : St → zg × St) : Nat → zg → St → zg × St
 | 0, e, s => (e, s)
 | g + 1, e, s => if s.err = 0 then (if (zt (yT k) s).1 < 0 then (e, (zt (yT k) s).2)
   else vJ k sub g (.mk (zbr k (zt (yT k) s).1) 0 [] [e, (sub (zt (yT k) s).2).1]) (sub (zt (yT k) s).2).2)
  else (e, s)
def zcx (k : Nat) (sub : St → zg × St) (s : St) : zg × St := vJ k sub ((sub s).2.rest.length + 1) (sub s).1 (sub s).2
def atF (one : St → zg × St) : Nat → St → zg × St
 | 0 => one
 | j + 1 => zcx (4 - j) (atF one j)
def zdF (s : St) : zg × St := match s.rest with
 | [] => (noE, vI s 9)
 | t :: r => if t.kind = 2 then (.mk 1 (zh t.n 32) [] [], ⟨r, s.err⟩)
  else if t.kind = 1 then (if yH t.text = true then (.mk 2 0 t.text [], ⟨r, s.err⟩) else (noE, vI ⟨r, s.err⟩ 7))
  else (noE, vI ⟨r, s.err⟩ 2)
def yW : List (List UInt8) := [[45], [126], [40]]
def qX : List (List UInt8) := [[41]]
def wJ (one : St → zg × St) (s : St) : zg × St :=
 if (zt yW s).1 = 0 then (.mk 3 0 [] [(one (zt yW s).2).1], (one (zt yW s).2).2)
 else if (zt yW s).1 = 1 then (.mk 4 0 [] [(one (zt yW s).2).1], (one (zt yW s).2).2)
 else if (zt yW s).1 = 2 then
  (if (zt qX (atF one 5 (zt yW s).2).2).1 < 0 then (noE, vI (zt qX (atF one 5 (zt yW s).2).2).2 2)
   else ((atF one 5 (zt yW s).2).1, (zt qX (atF one 5 (zt yW s).2).2).2))
 else zdF (zt yW s).2
def qP : Nat → St → zg × St
 | 0, s => (noE, vI s 10)
 | f + 1, s => wJ (qP f) s
def vV (p : St → zg × St) : Prop := ∀ s, (p s).2.rest.length ≤ s.rest.length
theorem j7 (l : List (List UInt8)) (s : St) : (zt l s).2.rest.length ≤ s.rest.length ∧ (0 ≤ (zt l s).1 → (zt l s).2.rest.length + 1 = s.rest.length) := by
 obtain ⟨r, e⟩ := s
 cases r with
 | nil => exact ⟨Nat.le_refl _, fun h => by simp [zt] at h⟩
 | cons t r =>
  simp only [zt]
  split
  ·split
   ·exact ⟨by simp, fun _ => by simp⟩
   ·exact ⟨Nat.le_refl _, fun h => by simp at h⟩
  ·exact ⟨Nat.le_refl _, fun h => by simp at h⟩
theorem zja {k : Nat} {sub : St → zg × St} (hs : vV sub) : ∀ (g : Nat) (e : zg) (s : St), (vJ k sub g e s).2.rest.length ≤ s.rest.length
 | 0, e, s => Nat.le_refl _
 | g + 1, e, s => by
  rw [vJ]
  have h1 := (j7 (yT k) s).1
  split
  ·split
   ·exact h1
   ·have := zja (k := k) hs g (.mk (zbr k (zt (yT k) s).1) 0 [] [e, (sub (zt (yT k) s).2).1]) (sub (zt (yT k) s).2).2
    have h2 := hs (zt (yT k) s).2
    omega
  ·exact Nat.le_refl _
theorem zo2 {k : Nat} {sub : St → zg × St} (hs : vV sub) : vV (zcx k sub) := fun s => by
 have h1 := hs s
 have h2 := zja (k := k) hs ((sub s).2.rest.length + 1) (sub s).1 (sub s).2
 unfold zcx; omega
theorem qQ {one : St → zg × St} (hs : vV one) : ∀ j, vV (atF one j)
 | 0 => hs
 | j + 1 => zo2 (qQ hs j)
theorem qG (s : St) (e : Int) : (vI s e).rest = s.rest := by unfold vI; split <;> rfl
theorem zsb : vV zdF := fun s => by
 obtain ⟨r, e⟩ := s
 cases r with
 | nil => simp [zdF, qG]
 | cons t r =>
  simp only [zdF]
  repeat' split
  all_goals (try rw [qG]); simp
theorem zqS {one : St → zg × St} (hs : vV one) : vV (wJ one) := fun s => by
 have h1 := (j7 yW s).1
 have h2 := hs (zt yW s).2
 have h3 := qQ hs 5 (zt yW s).2
 have h4 := (j7 qX (atF one 5 (zt yW s).2).2).1
 have h5 := zsb (zt yW s).2
 unfold wJ
 repeat' split
 all_goals (try dsimp only); (try rw [qG]); omega
theorem zdg : ∀ f, vV (qP f)
 | 0 => fun s => by rw [qP, qG]; exact Nat.le_refl _
 | f + 1 => fun s => by rw [qP]; exact zqS (zdg f) s
theorem zsc {k g : Nat} {sub : St → zg × St} {e : zg} {s : St} (h : ¬ s.err = 0) : vJ k sub g e s = (e, s) := by
 cases g with
 | zero => rfl
 | succ g => rw [vJ, if_neg h]
theorem zqT {k g : Nat} {sub : St → zg × St} {e : zg} {s : St} (h : s.err = 0) (h2 : (zt (yT k) s).1 < 0) : vJ k sub (g + 1) e s = (e, (zt (yT k) s).2) := by rw [vJ, if_pos h, if_pos h2]
theorem zvO {k g : Nat} {sub : St → zg × St} {e : zg} {s : St} (h : s.err = 0) (h2 : ¬ (zt (yT k) s).1 < 0) : vJ k sub (g + 1) e s =
  vJ k sub g (.mk (zbr k (zt (yT k) s).1) 0 [] [e, (sub (zt (yT k) s).2).1]) (sub (zt (yT k) s).2).2 := by rw [vJ, if_pos h, if_neg h2]
theorem zsd {k : Nat} {K : D → Prop} (hk : k < 5) (h : K (zbI k)) : zX [zbI 0, zbI 1, zbI 2, zbI 3, zbI 4] (k : Int) K := by
 unfold zX
 refine ⟨by omega, zbI k, ?_, h⟩
 rw [Int.toNat_natCast]
 match k, hk with
 | 0, _ => rfl
 | 1, _ => rfl
 | 2, _ => rfl
 | 3, _ => rfl
 | 4, _ => rfl
theorem zpF (x : List UInt8) : ∀ (l : List (List UInt8)) (k : Nat), w9 x l k < ((k + l.length : Nat) : Int)
 | [], k => by rw [w9]; omega
 | s :: l, k => by
  rw [w9]
  split
  ·simp only [List.length_cons]; omega
  ·have := zpF x l (k + 1)
   simp only [List.length_cons]; omega
theorem zvP (l : List (List UInt8)) (s : St) : (zt l s).1 < (l.length : Int) ∨ l.length = 0 := by
 obtain ⟨r, e⟩ := s
 cases r with
 | nil => simp only [zt]; omega
 | cons t r =>
  have := zpF t.text l 0
  simp only [zt]
  split
  ·split
   ·dsimp only; omega
   ·dsimp only; omega
  ·dsimp only; omega
theorem zkT (k : Nat) : (yT k).length = (zgQ k).length ∧ 0 < (yT k).length ∧ (yT k).length ≤ 2 := by
 unfold yT zgQ
 split <;> exact ⟨rfl, by decide, by decide⟩
theorem zt3 {k : Nat} {s : St} (h : ¬ (zt (yT k) s).1 < 0) : (zgQ k)[(zt (yT k) s).1.toNat]? = some (zbr k (zt (yT k) s).1) := by
 have h1 := zvP (yT k) s
 obtain ⟨h2, h3, _⟩ := zkT k
 have hlt : (zt (yT k) s).1.toNat < (zgQ k).length := by omega
 unfold zbr
 rw [List.getD_eq_getElem?_getD, List.getElem?_eq_getElem hlt]
 rfl
attribute [local irreducible] vI vJ qP wJ zt zdF
def zdG (k : Int) (d : Int) (f : St → zg × St) : Prop :=
 za Tryz.prog zhY (ya (fun s : St => s.rest.length ≤ 1000000000) (fun _ => [.loc 0 0, .int .i64 k, .int .i64 d]) stO (fun s => vH (f s).1) fun s => stO (f s).2)
def zgR (d : Int) (f : St → zg × St) : Prop :=
 za Tryz.prog zg4 (ya (fun s : St => s.rest.length ≤ 1000000000) (fun _ => [.loc 0 0, .int .i64 d]) stO (fun s => vH (f s).1) fun s => stO (f s).2)
theorem zwY {d : Int} {one : St → zg × St} (h : zgR d one) : zdG 5 d (atF one 0) := by
 refine zf zj Tryz.func188 rfl (by decide) ?_
 intro s hs
 refine ⟨Nat.le_refl _, by simp [Tryz.f188], fun E hE => ?_⟩
 refine ze _ ?_
 (all_goals refine qgp (Lf.mk ?_))
 refine zb zga () trivial (VS.mk (LeL.of_eq rfl)) ?_
 (all_goals refine qgp ?_ <;> (repeat' first | exact trivial | intro hc | refine And.intro ?_ ?_) <;> refine Lf.mk ?_)
 refine yb h [0] [0] s hs rfl rfl ?_
 refine And.intro (VS.mk (LeL.of_eq rfl)) (And.intro (VS.mk rfl) ?_)
 (all_goals refine qgp (Lf.mk ?_))
 refine yo ?_
 (repeat' (first | (refine VS.mk ?_) | exact trivial | exact rfl | refine And.intro ?_ ?_))
theorem zcy {d : Int} {k : Nat} {sub : St → zg × St} (hk : k < 5) (hsub : vV sub) (h : zdG ((k : Int) + 1) d sub) : zdG k d (zcx k sub) := by
 refine zf zj Tryz.func188 rfl (by decide) ?_
 intro s hs
 refine ⟨Nat.le_refl _, by simp [Tryz.f188], fun E hE => ?_⟩
 refine ze _ ?_
 (all_goals refine qgp (Lf.mk ?_))
 refine zb zga () trivial (VS.mk (LeL.of_eq rfl)) ?_
 (all_goals refine qgp ?_ <;> (repeat' first | exact trivial | intro hc | refine And.intro ?_ ?_) <;> refine Lf.mk ?_)
 refine yb h [0] [0] s hs rfl rfl ?_
 refine And.intro (VS.mk (LeL.of_eq rfl)) (And.intro (VS.mk rfl) ?_)
 (all_goals refine qgp (Lf.mk ?_))
 have hs1 := hsub s
 obtain ⟨hsl1, hsl2, hsl3⟩ := zkT k
 generalize hT : zcx k sub s = T at *
 have hT0 : vJ k sub ((sub s).2.rest.length + 1) (sub s).1 (sub s).2 = T := hT
 refine ye (α := Nat × zg × St) (fun p => p.2.2.rest.length < p.1 ∧ p.2.2.rest.length ≤ 1000000000 ∧ vJ k sub p.1 p.2.1 p.2.2 = T)
  (fun p => [(0, .loc 0 0), (1, .int .i64 k), (2, .int .i64 d), (6, .loc 1 0), (7, zva), (8, .loc 2 0)])
  (fun p => stO p.2.2 ++ [.cells [.int .i64 0, .int .i64 0, .str [], .nilsl], .cells [.int .i64 p.2.1.kind, .int .i64 p.2.1.n, .str p.2.1.name, .sl 4 (p.2.1.kids.map xe) none]]) (fun p => p.1) (fun _ => by simp [hE, stO])
  ((sub s).2.rest.length + 1, (sub s).1, (sub s).2) ⟨Nat.lt_succ_self _, Nat.le_trans hs1 hs, hT0⟩ ?_ ?_
 ·(repeat' (first | (refine VS.mk ?_) | exact trivial | exact rfl | refine And.intro ?_ ?_))
 rintro ⟨g, e, s2⟩ ⟨hg, hs2, hl⟩
 dsimp only at hg hs2 hl ⊢
 obtain ⟨g, rfl⟩ : ∃ g', g = g' + 1 := ⟨g - 1, by omega⟩
 refine ze _ ?_
 (all_goals refine qgp ?_ <;> (repeat' first | exact trivial | intro hc | refine And.intro ?_ ?_) <;> refine Lf.mk ?_)
 ·refine zsd hk ?_
  (all_goals refine qgp (Lf.mk ?_))
  refine yb zeO [0] [0] (s2, yT k) ⟨by omega, hs2⟩ rfl rfl ?_
  refine And.intro (VS.mk (LeL.of_eq rfl)) (And.intro (VS.mk rfl) ?_)
  obtain ⟨q1, q2⟩ := j7 (yT k) s2
  (all_goals refine qgp ?_ <;> (repeat' first | exact trivial | intro hc | refine And.intro ?_ ?_) <;> refine Lf.mk ?_)
  ·rw [zqT (by assumption) hc] at hl
   subst hl
   refine yo ?_
   (repeat' (first | (refine VS.mk ?_) | exact trivial | exact rfl | refine And.intro ?_ ?_))
  ·rw [zvO (by assumption) hc] at hl
   have hka := zt3 (k := k) (s := s2) hc
   refine zsd hk ?_
   (all_goals refine qgp (Lf.mk ?_))
   refine zk (zbr k (zt (yT k) s2).1) (by omega) (by simpa using hka) ?_
   (all_goals refine qgp (Lf.mk ?_))
   have q3 := hsub (zt (yT k) s2).2
   refine yb h [0] [0] (zt (yT k) s2).2 (by omega) rfl rfl ?_
   refine And.intro (VS.mk (LeL.of_eq rfl)) (And.intro (VS.mk rfl) ?_)
   (all_goals refine qgp (Lf.mk ?_))
   refine zB (g, .mk (zbr k (zt (yT k) s2).1) 0 [] [e, (sub (zt (yT k) s2).2).1], (sub (zt (yT k) s2).2).2) ⟨by (dsimp only; omega), by (dsimp only; omega), hl⟩ (by dsimp only; omega) ?_
   dsimp only
   rw [zpB, zwW, zpC, zpD, zyd]
   (repeat' (first | (refine VS.mk ?_) | exact trivial | exact rfl | refine And.intro ?_ ?_))
 ·rw [zsc hc] at hl
  subst hl
  refine yo ?_
  (repeat' (first | (refine VS.mk ?_) | exact trivial | exact rfl | refine And.intro ?_ ?_))
end Go.Proofs.YtnkdeacghopkiaaGreatDoor
namespace Go.Proofs.YtnkdeacghopkiaaGreatDoor
open Go Go.Plat
set_option linter.unusedVariables false
set_option linter.unusedSimpArgs false
set_option maxRecDepth 100000
set_option maxHeartbeats 2000000
attribute [local irreducible] AWP zA yh zE zn yu z6 zF zX zY zq za zL yv zo zZ zg.kids zg.kind zg.n zg.name yq yr yj ym zr zu zz yt xe vI yA zK vJ yH yD qP zt zh
theorem zse {d : Int} {one : St → zg × St} (hs : vV one) (h : zgR d one) : zdG 0 d (atF one 5) := by
 have h5 : zdG (((4 : Nat) : Int) + 1) d (atF one 0) := zwY h
 have h4 : zdG (((3 : Nat) : Int) + 1) d (atF one 1) := zcy (k := 4) (by decide) (qQ hs 0) h5
 have h3 : zdG (((2 : Nat) : Int) + 1) d (atF one 2) := zcy (k := 3) (by decide) (qQ hs 1) h4
 have h2 : zdG (((1 : Nat) : Int) + 1) d (atF one 3) := zcy (k := 2) (by decide) (qQ hs 2) h3
 have h1 : zdG (((0 : Nat) : Int) + 1) d (atF one 4) := zcy (k := 1) (by decide) (qQ hs 3) h2
 exact zcy (k := 0) (by decide) (qQ hs 4) h1
theorem zt4 {d : Int} (h : 6 < d) : zgR d (qP 0) := by
 refine zf zj Tryz.func197 rfl (by decide) ?_
 intro s hs
 refine ⟨Nat.le_refl _, by simp [Tryz.f197], fun E hE => ?_⟩
 refine ze _ ?_
 (all_goals refine qgp ?_ <;> (repeat' first | exact trivial | intro hc | refine And.intro ?_ ?_) <;> refine Lf.mk ?_)
 refine yb j6 [0] [0] (s, 10) trivial rfl rfl ?_
 refine And.intro (VS.mk (LeL.of_eq rfl)) (And.intro (VS.mk rfl) ?_)
 have ho : qP 0 s = (noE, vI s 10) := by rw [qP]
 (all_goals refine qgp (Lf.mk ?_))
 refine yo ?_
 (repeat' (first | (refine VS.mk ?_) | exact trivial | exact rfl | refine And.intro ?_ ?_))
 all_goals (rw [ho]; rfl)
theorem zt5 {d : Int} {one : St → zg × St} (hd : d ≤ 6) (hd0 : 0 ≤ d) (hsub : vV one) (h : zgR (d + 1) one) : zgR d (wJ one) := by
 have hat := zse hsub h
 refine zf zj Tryz.func197 rfl (by decide) ?_
 intro s hs
 have q1 := (j7 yW s).1
 refine ⟨Nat.le_refl _, by simp [Tryz.f197], fun E hE => ?_⟩
 refine ze _ ?_
 (all_goals refine qgp ?_ <;> (repeat' first | exact trivial | intro hc | refine And.intro ?_ ?_) <;> refine Lf.mk ?_)
 refine yb zeO [0] [0] (s, yW) ⟨by decide, hs⟩ rfl rfl ?_
 refine And.intro (VS.mk (LeL.of_eq rfl)) (And.intro (VS.mk rfl) ?_)
 dsimp only
 have hstep : wJ one s = if (zt yW s).1 = 0 then (.mk 3 0 [] [(one (zt yW s).2).1], (one (zt yW s).2).2)
  else if (zt yW s).1 = 1 then (.mk 4 0 [] [(one (zt yW s).2).1], (one (zt yW s).2).2)
  else if (zt yW s).1 = 2 then
   (if (zt qX (atF one 5 (zt yW s).2).2).1 < 0 then (noE, vI (zt qX (atF one 5 (zt yW s).2).2).2 2)
    else ((atF one 5 (zt yW s).2).1, (zt qX (atF one 5 (zt yW s).2).2).2))
  else zdF (zt yW s).2 := rfl
 generalize hS : zt yW s = S at *
 obtain ⟨i, s1⟩ := S
 have q1 : s1.rest.length ≤ s.rest.length := q1
 (all_goals refine qgp ?_ <;> (repeat' first | exact trivial | intro hc | refine And.intro ?_ ?_) <;> refine Lf.mk ?_)
 ·refine yb h [0] [0] s1 (by omega) rfl rfl ?_
  refine And.intro (VS.mk (LeL.of_eq rfl)) (And.intro (VS.mk rfl) ?_)
  (all_goals refine qgp (Lf.mk ?_))
  have ho : wJ one s = (.mk 3 0 [] [(one s1).1], (one s1).2) := by rw [hstep, if_pos hc]
  refine yo ?_
  (repeat' (first | (refine VS.mk ?_) | exact trivial | exact rfl | refine And.intro ?_ ?_))
  all_goals (rw [ho])
  ·dsimp only; rw [zaz, zwX]; rfl
  ·rfl
 ·refine yb h [0] [0] s1 (by omega) rfl rfl ?_
  refine And.intro (VS.mk (LeL.of_eq rfl)) (And.intro (VS.mk rfl) ?_)
  (all_goals refine qgp (Lf.mk ?_))
  have ho : wJ one s = (.mk 4 0 [] [(one s1).1], (one s1).2) := by rw [hstep, if_neg (by assumption), if_pos hc]
  refine yo ?_
  (repeat' (first | (refine VS.mk ?_) | exact trivial | exact rfl | refine And.intro ?_ ?_))
  all_goals (rw [ho])
  ·dsimp only; rw [zaz, zwX]; rfl
  ·rfl
 ·have q2 := qQ hsub 5 s1
  refine yb hat [0] [0] s1 (by omega) rfl rfl ?_
  refine And.intro (VS.mk (LeL.of_eq rfl)) (And.intro (VS.mk rfl) ?_)
  (all_goals refine qgp (Lf.mk ?_))
  refine yb zeO [0] [0] ((atF one 5 s1).2, qX) ⟨by decide, by omega⟩ rfl rfl ?_
  refine And.intro (VS.mk (LeL.of_eq rfl)) (And.intro (VS.mk rfl) ?_)
  (all_goals refine qgp ?_ <;> (repeat' first | exact trivial | intro hc | refine And.intro ?_ ?_) <;> refine Lf.mk ?_)
  ·refine yb j6 [0] [0] ((zt qX (atF one 5 s1).2).2, 2) trivial rfl rfl ?_
   refine And.intro (VS.mk (LeL.of_eq rfl)) (And.intro (VS.mk rfl) ?_)
   (all_goals refine qgp (Lf.mk ?_))
   have ho : wJ one s = (noE, vI (zt qX (atF one 5 s1).2).2 2) := by rw [hstep, if_neg (by assumption), if_neg (by assumption), if_pos (by assumption)]; dsimp only; rw [if_pos hc]
   refine yo ?_
   (repeat' (first | (refine VS.mk ?_) | exact trivial | exact rfl | refine And.intro ?_ ?_))
   all_goals (rw [ho]; rfl)
  ·have ho : wJ one s = ((atF one 5 s1).1, (zt qX (atF one 5 s1).2).2) := by rw [hstep, if_neg (by assumption), if_neg (by assumption), if_pos (by assumption)]; dsimp only; rw [if_neg hc]
   refine yo ?_
   (repeat' (first | (refine VS.mk ?_) | exact trivial | exact rfl | refine And.intro ?_ ?_))
   all_goals (rw [ho]; rfl)
 ·have hr : s1.rest = [] := List.eq_nil_of_length_eq_zero (by omega)
  refine yb j6 [0] [0] (s1, 9) trivial rfl rfl ?_
  refine And.intro (VS.mk (LeL.of_eq rfl)) (And.intro (VS.mk rfl) ?_)
  (all_goals refine qgp (Lf.mk ?_))
  have ho : wJ one s = (noE, vI s1 9) := by rw [hstep, if_neg (by assumption), if_neg (by assumption), if_neg (by assumption)]; dsimp only; unfold zdF; rw [hr]
  refine yo ?_
  (repeat' (first | (refine VS.mk ?_) | exact trivial | exact rfl | refine And.intro ?_ ?_))
  all_goals (rw [ho]; rfl)
 ·obtain ⟨r1, e1⟩ := s1
  cases r1 with
  | nil => exfalso; exact hc rfl
  | cons t r =>
   have ho : wJ one s = if t.kind = 2 then (.mk 1 (zh t.n 32) [] [], ⟨r, e1⟩)
     else if t.kind = 1 then (if yH t.text = true then (.mk 2 0 t.text [], ⟨r, e1⟩) else (noE, vI ⟨r, e1⟩ 7))
     else (noE, vI ⟨r, e1⟩ 2) := by rw [hstep, if_neg (by assumption), if_neg (by assumption), if_neg (by assumption)]; rfl
   clear hstep hS
   (all_goals refine qgp ?_ <;> (repeat' first | exact trivial | intro hc | refine And.intro ?_ ?_) <;> refine Lf.mk ?_)
   ·refine zb yx t.n trivial (VS.mk (LeL.of_eq rfl)) ?_
    (all_goals refine qgp (Lf.mk ?_))
    rw [if_pos hc] at ho
    refine v6 (r1 := vH (.mk 1 (zh t.n 32) [] [])) (by rw [zaz]; exact .agg (.cons (.refl _) (.cons (.refl _) (.cons (.refl _) (.cons (.nil 4) .nil))))) ?_ (Nat.le_refl _)
    refine yo ?_
    (repeat' (first | (refine VS.mk ?_) | exact trivial | exact rfl | refine And.intro ?_ ?_))
    all_goals (rw [ho]; rfl)
   ·refine zb zmW t.text trivial (VS.mk (LeL.of_eq rfl)) ?_
    (all_goals refine qgp ?_ <;> (repeat' first | exact trivial | intro hc | refine And.intro ?_ ?_) <;> refine Lf.mk ?_)
    ·rw [if_neg (by assumption), if_pos (by assumption), if_pos hc] at ho
     refine v6 (r1 := vH (.mk 2 0 t.text [])) (by rw [zaz]; exact .agg (.cons (.refl _) (.cons (.refl _) (.cons (.refl _) (.cons (.nil 4) .nil))))) ?_ (Nat.le_refl _)
     refine yo ?_
     (repeat' (first | (refine VS.mk ?_) | exact trivial | exact rfl | refine And.intro ?_ ?_))
     all_goals (rw [ho]; rfl)
    ·refine yb j6 [0] [0] (⟨r, e1⟩, 7) trivial rfl rfl ?_
     refine And.intro (VS.mk (LeL.of_eq rfl)) (And.intro (VS.mk rfl) ?_)
     (all_goals refine qgp (Lf.mk ?_))
     rw [if_neg (by assumption), if_pos hc, if_neg (by rw [(by assumption : yH t.text = false)]; decide)] at ho
     refine yo ?_
     (repeat' (first | (refine VS.mk ?_) | exact trivial | exact rfl | refine And.intro ?_ ?_))
     all_goals (rw [ho]; rfl)
   ·refine yb j6 [0] [0] (⟨r, e1⟩, 2) trivial rfl rfl ?_
    refine And.intro (VS.mk (LeL.of_eq rfl)) (And.intro (VS.mk rfl) ?_)
    (all_goals refine qgp (Lf.mk ?_))
    rw [if_neg (by assumption), if_neg (by assumption)] at ho
    refine yo ?_
    (repeat' (first | (refine VS.mk ?_) | exact trivial | exact rfl | refine And.intro ?_ ?_))
    all_goals (rw [ho]; rfl)
theorem zt6 (f : Nat) : qP (f + 1) = wJ (qP f) := by funext s; rw [qP]
theorem zwZ : ∀ f : Nat, f ≤ 7 → zgR (7 - (f : Int)) (qP f)
 | 0, _ => zt4 (by decide)
 | f + 1, hf => by
  have h := zwZ f (by omega)
  rw [zt6]
  have e : (7 : Int) - ((f + 1 : Nat) : Int) + 1 = 7 - (f : Int) := by omega
  exact zt5 (by omega) (by omega) (zdg f) (by rw [e]; exact h)
theorem zw0 : zdG 0 0 (atF (qP 7) 5) := zse (zdg 7) (zwZ 7 (by decide))
def qz (l : List zbH) : zg × St := atF (qP 7) 5 ⟨l, 0⟩
def xQ (l : List zbH) : zg × Int × Int := if (qz l).2.err = 0 then ((qz l).1, (l.length : Int) - (qz l).2.rest.length, 0) else (noE, 0, (qz l).2.err)
def zxP (p : zg × Int × Int) : D := .tup [vH p.1, .int .i64 p.2.1, .int .i64 p.2.2]
theorem zhl (l : List zbH) : (qz l).2.rest.length ≤ l.length := qQ (zdg 7) 5 ⟨l, 0⟩
theorem zo3 : za Tryz.prog zmU (zx (fun l : List zbH => l.length ≤ 1000000000) (fun l => [.sl 3 (l.map zt2) none]) fun l => zxP (xQ l)) := by
 refine zf zj Tryz.func171 rfl (by decide) ?_
 intro l hl
 refine ⟨Nat.le_refl _, by simp [Tryz.f171], fun E hE => ?_⟩
 refine ze _ ?_
 (all_goals refine qgp (Lf.mk ?_))
 refine yb zw0 [1] [1] ⟨l, 0⟩ hl rfl rfl ?_
 refine And.intro (VS.mk (LeL.of_eq rfl)) (And.intro (VS.mk rfl) ?_)
 have hq := zhl l
 have hp : xQ l = if (qz l).2.err = 0 then ((qz l).1, (l.length : Int) - (qz l).2.rest.length, 0) else (noE, 0, (qz l).2.err) := rfl
 have hx : atF (qP 7) 5 ⟨l, 0⟩ = qz l := rfl
 rw [hx]
 generalize qz l = T at *
 obtain ⟨e, r, er⟩ := T
 have hq : r.length ≤ l.length := hq
 (all_goals refine qgp ?_ <;> (repeat' first | exact trivial | intro hc | refine And.intro ?_ ?_) <;> refine Lf.mk ?_)
 ·rw [hp, if_neg hc]
  exact zd (VS.mk (.tup (.cons zm9 (.cons (.refl _) (.cons (.refl _) .nil)))))
 ·rw [hp, if_pos hc]
  refine zd (VS.mk (LeD.of_eq ?_))
  show D.tup [.agg [.int .i64 e.kind, .int .i64 e.n, .str e.name, .sl 4 (e.kids.map xe) none], .int .i64 _, .int .i64 0] = .tup [vH e, _, _]
  cases e
  rw [zaz, zpB, zwW, zpC, zpD]
end Go.Proofs.YtnkdeacghopkiaaGreatDoor
namespace Go.Proofs.YtnkdeacghopkiaaGreatDoor
open Go Go.Plat
set_option linter.unusedVariables false
set_option linter.unusedSimpArgs false
set_option maxRecDepth 100000
set_option maxHeartbeats 2000000
attribute [local irreducible] AWP zA yh zE zn yu z6 zF zX zY zq za zL yv zo zZ yq yr yj ym zr zu zz
structure zw where
 name : List UInt8
 n : Int
 deriving DecidableEq
structure zl where
 name : List UInt8
 n : Int
def yI (v : zw) : D := .agg [.str v.name, .int .i64 v.n]
def we (v : zl) : D := .agg [.str v.name, .int .i64 v.n]
def zdH (k a b : Int) : Int :=
 if k = 5 then zh (a * b) 32 else if k = 6 then zh (a + b) 32 else if k = 7 then zh (a - b) 32
 else if k = 8 then zh (a * 2 ^ (b % 32).toNat) 32 else if k = 9 then zh (a % 4294967296 / 2 ^ (b % 32).toNat) 32
 else if k = 10 then zh (zz .and .i64 a b) 32 else if k = 11 then zh (zz .or .i64 a b) 32 else zh a 32
def S32 (n : Int) : Prop := -2147483648 ≤ n ∧ n ≤ 2147483647
theorem zsf (n : Int) : zh n 32 = if n % 4294967296 / 2147483648 = 1 then n % 4294967296 - 4294967296 else n % 4294967296 := rfl
theorem j8 (n : Int) : S32 (zh n 32) := by
 rw [zsf]; unfold S32
 split <;> omega
theorem zeP (k a b : Int) : S32 (zdH k a b) := by
 unfold zdH
 repeat' split
 all_goals exact j8 _
theorem zsg {n : Int} : zz .and .i64 n 31 = n % 32 := qM (k := 5) (by decide) (by decide)
theorem zw1 {n : Int} : zz .and .i64 n 4294967295 = n % 4294967296 := qM (k := 32) (by decide) (by decide)
theorem zvQ {n : Int} (h0 : -9223372036854775808 ≤ n) (h1 : n ≤ 9223372036854775807) : zz .xor .i64 (if IntKind.i64.signed = true then -1 else IntKind.i64.max) n = -n - 1 := by
 unfold zz
 have e : (BitVec.ofInt IntKind.i64.bits (-1) ^^^ BitVec.ofInt IntKind.i64.bits n).toNat = 18446744073709551615 - (BitVec.ofInt 64 n).toNat := by
  show (BitVec.ofInt 64 (-1) ^^^ BitVec.ofInt 64 n).toNat = _
  have : BitVec.ofInt 64 (-1) = BitVec.allOnes 64 := by decide
  rw [this, BitVec.allOnes_xor, BitVec.toNat_not]
 show IntKind.i64.wrap (((BitVec.ofInt IntKind.i64.bits (-1) ^^^ BitVec.ofInt IntKind.i64.bits n).toNat : Nat) : Int) = _
 rw [e]
 have h4 := toNat_ofInt n
 generalize (BitVec.ofInt 64 n).toNat = x at *
 have hx : x ≤ 18446744073709551615 := by omega
 unfold IntKind.wrap
 simp [IntKind.bits, IntKind.signed]
 omega
theorem zt7 {y : Nat} (h : y ≤ 31) : (1 : Int) ≤ 2 ^ y ∧ (2 : Int) ^ y ≤ 2147483648 := by
 have h1 : (2 : Nat) ^ y ≤ 2 ^ 31 := Nat.pow_le_pow_right (by decide) h
 have h2 : 1 ≤ (2 : Nat) ^ y := Nat.one_le_two_pow
 have e : ((2 : Int) ^ y) = ((2 ^ y : Nat) : Int) := by simp
 rw [e]
 exact ⟨by omega, by have : (2 : Nat) ^ 31 = 2147483648 := by decide
                     omega⟩
theorem zw2 {a : Int} {y : Nat} (ha : S32 a) (h : y ≤ 31) : -4611686018427387904 ≤ a * 2 ^ y ∧ a * 2 ^ y ≤ 4611686018427387904 := by
 obtain ⟨h1, h2⟩ := zt7 h
 obtain ⟨h3, h4⟩ := ha
 generalize (2 : Int) ^ y = p at *
 constructor
 ·have : -2147483648 * 2147483648 ≤ a * p := by
   rcases Int.le_total 0 a with h | h
   ·have := Int.mul_nonneg h (by omega : 0 ≤ p); omega
   ·have h5 : -2147483648 * p ≤ a * p := Int.mul_le_mul_of_nonneg_right h3 (by omega)
    omega
  omega
 ·have : a * p ≤ 2147483648 * 2147483648 := by
   rcases Int.le_total 0 a with h | h
   ·have h5 : a * p ≤ a * 2147483648 := Int.mul_le_mul_of_nonneg_left h2 h
    omega
   ·have := Int.mul_nonneg (by omega : 0 ≤ -a) (by omega : 0 ≤ p)
    rw [Int.neg_mul] at this; omega
  omega
theorem zw3 {a b : Int} (ha : S32 a) (hb : S32 b) : -4611686018427387904 ≤ a * b ∧ a * b ≤ 4611686018427387904 := by
 obtain ⟨h1, h2⟩ := ha
 obtain ⟨h3, h4⟩ := hb
 have k1 : (a * b).natAbs ≤ 2147483648 * 2147483648 := by
  rw [Int.natAbs_mul]
  exact Nat.mul_le_mul (by omega) (by omega)
 omega
theorem zvR {a y : Int} {K : D → Prop} (ha : S32 a) (h0 : 0 ≤ y) (h1 : y ≤ 31) (h : K (.int .i64 (a * 2 ^ y.toNat))) : yj .i64 a y K := by
 unfold yj
 refine ⟨h0, ?_⟩
 have e : min y.toNat IntKind.i64.bits = y.toNat := by simp only [IntKind.bits]; omega
 obtain ⟨h2, h3⟩ := zw2 ha (y := y.toNat) (by omega)
 rw [e, jp (by omega) (by omega)]
 exact h
theorem zvS {x y : Int} {K : D → Prop} (h0 : 0 ≤ y) (h1 : y ≤ 31) (h : K (.int .i64 (x / 2 ^ y.toNat))) : ym .i64 x y K := by
 unfold ym
 refine ⟨h0, ?_⟩
 have e : min y.toNat IntKind.i64.bits = y.toNat := by simp only [IntKind.bits]; omega
 have hp : (0 : Int) ≤ 2 ^ y.toNat := Int.le_of_lt (Int.pow_pos (by decide))
 rw [e, Int.fdiv_eq_ediv_of_nonneg _ hp]
 exact h
attribute [local irreducible] zh
theorem zna : za Tryz.prog zlC (zx (fun ((k, a, b) : Int × Int × Int) => S32 a ∧ S32 b) (fun (k, a, b) => [.int .i64 k, .int .i64 a, .int .i64 b]) fun (k, a, b) => .int .i64 (zdH k a b)) := by
 refine zf zj Tryz.func199 rfl (by decide) ?_
 rintro ⟨k, a, b⟩ ⟨ha, hb⟩
 refine ⟨Nat.le_refl _, by simp [Tryz.f199], fun E hE => ?_⟩
 refine ze _ ?_
 have hm := zw3 ha hb
 have ha1 := ha.1
 have ha2 := ha.2
 have hb1 := hb.1
 have hb2 := hb.2
 (all_goals refine qgo ?_ <;> (repeat' first | exact trivial | intro hc | refine And.intro ?_ ?_) <;> refine Lf.mk ?_)
 any_goals (first | (refine wh zsg ?_) | (refine wh zw1 ?_) | (refine wh rfl ?_) | skip)
 have hb32 : 0 ≤ b % 32 ∧ b % 32 ≤ 31 := by omega
 (all_goals refine qgo (Lf.mk ?_))
 any_goals (first | (refine zvR ha (by omega) (by omega) ?_) | (refine wh zsg ?_) | skip)
 (all_goals refine qgo (Lf.mk ?_))
 any_goals (first | (refine zvS (by omega) (by omega) ?_) | skip)
 (all_goals refine qgo (Lf.mk ?_))
 all_goals (refine zb yx _ trivial (VS.mk (LeL.of_eq rfl)) ?_)
 (all_goals refine qgo (Lf.mk ?_))
 all_goals
  refine zd (VS.mk (LeD.of_eq (congrArg (D.int .i64) (?_ : _ = zdH k a b))))
  unfold zdH
  repeat (first | rw [if_pos (by assumption)] | rw [if_neg (by assumption)])
def zgb (k : Int) (a b : zw) : zw × Int :=
 if a.name = [] ∧ b.name = [] then (⟨[], zdH k a.n b.n⟩, 0)
 else if k = 6 ∧ (a.name = [] ∨ b.name = []) then (⟨a.name ++ b.name, zdH k a.n b.n⟩, 0)
 else if k = 7 ∧ b.name = [] then (⟨a.name, zdH k a.n b.n⟩, 0)
 else if k = 7 ∧ a.name = b.name then (⟨[], zdH k a.n b.n⟩, 0)
 else (⟨[], 0⟩, 8)
def zjb (x : zw × Int) : D := .tup [yI x.1, .int .i64 x.2]
attribute [local irreducible] zdH
theorem zsh : za Tryz.prog zqL (zx (fun ((k, a, b) : Int × zw × zw) => S32 a.n ∧ S32 b.n ∧ a.name.length ≤ 1000000000 ∧ b.name.length ≤ 1000000000) (fun (k, a, b) => [.int .i64 k, yI a, yI b]) fun (k, a, b) => zjb (zgb k a b)) := by
 refine zf zj Tryz.func190 rfl (by decide) ?_
 rintro ⟨k, a, b⟩ ⟨ha, hb, hna, hnb⟩
 refine ⟨Nat.le_refl _, by simp [Tryz.f190], fun E hE => ?_⟩
 refine ze _ ?_
 (all_goals refine qgo ?_ <;> (repeat' first | exact trivial | intro hc | refine And.intro ?_ ?_) <;> refine Lf.mk ?_)
 any_goals (first | (exfalso; exact absurd ‹a.name = []› ‹¬ a.name = []›) | (exfalso; exact absurd ‹b.name = []› ‹¬ b.name = []›) | (exfalso; omega) | skip)
 any_goals (first | (refine ziM (by omega) ?_) | skip)
 (all_goals refine qgo (Lf.mk ?_))
 any_goals (first | (refine zb zna (k, a.n, b.n) ⟨ha, hb⟩ (VS.mk (LeL.of_eq rfl)) ?_) | skip)
 (all_goals refine qgo (Lf.mk ?_))
 all_goals
  refine zd (VS.mk (LeD.of_eq (?_ : _ = zjb (zgb k a b))))
  simp_all [zgb, zjb, yI]
def zeQ (n : List UInt8) : List zl → Option Int
 | [] => none
 | s :: l => if s.name = n then some s.n else zeQ n l
def zdI (n : List UInt8) : List zl → Nat → Int
 | [], _ => -1
 | s :: l, k => if s.name = n then k else zdI n l (k + 1)
theorem zkU (n : List UInt8) : ∀ (l : List zl) (k : Nat), (zeQ n l = none ∧ zdI n l k = -1) ∨ ∃ (i : Nat) (s : zl), l[i]? = some s ∧ zdI n l k = ((k + i : Nat) : Int) ∧ zeQ n l = some s.n
 | [], k => .inl ⟨rfl, rfl⟩
 | s :: l, k => by
  rw [zeQ, zdI]
  by_cases h : s.name = n
  ·rw [if_pos h, if_pos h]
   exact .inr ⟨0, s, rfl, rfl, rfl⟩
  ·rw [if_neg h, if_neg h]
   rcases zkU n l (k + 1) with h1 | ⟨i, t, h1, h2, h3⟩
   ·exact .inl h1
   ·exact .inr ⟨i + 1, t, h1, by rw [h2]; congr 1; omega, h3⟩
def j9 : zw := ⟨[], 0⟩
def jt (k n : Int) (s : List UInt8) (vs : List zw) (l : List zl) : zw × Int :=
 if k = 1 ∧ vs = [] then (⟨[], zh n 32⟩, 0)
 else if k = 2 ∧ vs = [] then (match zeQ s l with | some m => (⟨[], zh m 32⟩, 0) | none => (⟨s, 0⟩, 0))
 else match vs with
  | [v] => if k = 3 ∨ k = 4 then (if v.name = [] then (if k = 3 then (⟨[], zh (-v.n) 32⟩, 0) else (⟨[], zh (-v.n - 1) 32⟩, 0)) else (j9, 8)) else (j9, 1)
  | [a, b] => if 5 ≤ k ∧ k ≤ 11 then zgb k a b else (j9, 1)
  | _ => (j9, 1)
mutual
def xl (l : List zl) : zg → zw × Int
 | .mk k n s ks => match evalL l ks with
  | .inl w => (j9, w)
  | .inr vs => jt k n s vs l
def evalL (l : List zl) : List zg → Int ⊕ List zw
 | [] => .inr []
 | e :: es => if (xl l e).2 = 0 then (match evalL l es with | .inl w => .inl w | .inr vs => .inr ((xl l e).1 :: vs)) else .inl (xl l e).2
end
def evA (l : List zl) (acc : List zw) (es : List zg) : Int ⊕ List zw := match evalL l es with | .inl w => .inl w | .inr vs => .inr (acc ++ vs)
theorem zvT (l : List zl) (acc : List zw) : evA l acc [] = .inr acc := by unfold evA; rw [evalL]; simp
theorem zt8 (l : List zl) (acc : List zw) (e : zg) (es : List zg) : evA l acc (e :: es) = if (xl l e).2 = 0 then evA l (acc ++ [(xl l e).1]) es else .inl (xl l e).2 := by
 unfold evA
 rw [evalL]
 by_cases h : (xl l e).2 = 0
 ·rw [if_pos h, if_pos h]
  cases evalL l es <;> simp
 ·rw [if_neg h, if_neg h]
theorem zvU (l : List zl) (es : List zg) : evA l [] es = evalL l es := by unfold evA; cases evalL l es <;> simp
theorem znb (l : List zl) (e : zg) : xl l e = match evalL l e.kids with
  | .inl w => (j9, w)
  | .inr vs => jt e.kind e.n e.name vs l := by
 cases e with
 | mk k n s ks => rw [xl]; rfl
structure VOk (v : zw) (n : Nat) : Prop where
 s32 : S32 v.n
 len : v.name.length ≤ n
theorem zw4 {k : Int} {a b : zw} {m n : Nat} (ha : VOk a m) (hb : VOk b n) : VOk (zgb k a b).1 (m + n) := by
 have h1 := ha.len
 have h2 := hb.len
 unfold zgb
 split
 ·exact ⟨zeP _ _ _, by simp⟩
 split
 ·exact ⟨zeP _ _ _, by simp; omega⟩
 split
 ·exact ⟨zeP _ _ _, by dsimp only; omega⟩
 split
 ·exact ⟨zeP _ _ _, by simp⟩
 ·exact ⟨⟨by decide, by decide⟩, by simp⟩
theorem zgS {n : Nat} : VOk j9 n := ⟨⟨by decide, by decide⟩, by simp [j9]⟩
def zaa : List zw → Nat
 | [] => 0
 | v :: vs => v.name.length + zaa vs
theorem znc : ∀ (a : List zw) (v : zw), zaa (a ++ [v]) = zaa a + v.name.length
 | [], v => by simp [zaa]
 | x :: a, v => by rw [List.cons_append, zaa, zaa, znc]; omega
theorem zw5 {k n : Int} {s : List UInt8} {vs : List zw} {l : List zl} {m : Nat} (h : ∀ v ∈ vs, S32 v.n) (hm : zaa vs ≤ m) : VOk (jt k n s vs l).1 (s.length + m) := by
 unfold jt
 split
 ·exact ⟨j8 _, by simp⟩
 split
 ·split
  ·exact ⟨j8 _, by simp⟩
  ·exact ⟨⟨show (-2147483648 : Int) ≤ 0 by decide, show (0 : Int) ≤ 2147483647 by decide⟩, by dsimp only; omega⟩
 rcases vs with _ | ⟨a, _ | ⟨b, _ | ⟨c, r⟩⟩⟩ <;> dsimp only
 ·exact zgS
 ·split
  ·split
   ·split
    ·exact ⟨j8 _, by simp⟩
    ·exact ⟨j8 _, by simp⟩
   ·exact zgS
  ·exact zgS
 ·split
  ·have := zw4 (k := k) (a := a) (b := b) ⟨h a (by simp), Nat.le_refl _⟩ ⟨h b (by simp), Nat.le_refl _⟩
   simp only [zaa] at hm
   exact ⟨this.s32, by have := this.len; omega⟩
  ·exact zgS
 ·exact zgS
mutual
theorem zpG (l : List zl) : ∀ e : zg, VOk (xl l e).1 (yD e)
 | .mk k n s ks => by
  rw [xl, yD]
  cases h : evalL l ks with
  | inl w => exact zgS
  | inr vs =>
   obtain ⟨h1, h2⟩ := znd l ks vs h
   have := zw5 (k := k) (n := n) (s := s) (l := l) h1 h2
   exact ⟨this.s32, by have := this.len; dsimp only; omega⟩
theorem znd (l : List zl) : ∀ (es : List zg) (vs : List zw), evalL l es = .inr vs → (∀ v ∈ vs, S32 v.n) ∧ zaa vs ≤ vB es
 | [], vs, h => by rw [evalL] at h; cases h; exact ⟨by simp, by simp [zaa]⟩
 | e :: es, vs, h => by
  rw [evalL] at h
  have he := zpG l e
  split at h
  ·cases hl : evalL l es with
   | inl w => rw [hl] at h; cases h
   | inr ws =>
    rw [hl] at h
    cases h
    obtain ⟨h1, h2⟩ := znd l es ws hl
    refine ⟨fun v hv => ?_, ?_⟩
    ·rcases List.mem_cons.1 hv with rfl | hv
     ·exact he.s32
     ·exact h1 v hv
    ·rw [zaa, vB]
     have := he.len
     omega
  ·cases h
end
theorem zpH {α : Type} {l : List α} (h : l.length = 0) : l = [] := List.eq_nil_of_length_eq_zero h
theorem zvV {k n : Int} {s : List UInt8} {vs : List zw} {l : List zl} (h1 : k = 1) (h2 : vs.length = 0) : jt k n s vs l = (⟨[], zh n 32⟩, 0) := by unfold jt; rw [if_pos ⟨h1, zpH h2⟩]
theorem zne {k n : Int} {s : List UInt8} {vs : List zw} {l : List zl} (h1 : k = 2) (h2 : vs.length = 0) : jt k n s vs l = (match zeQ s l with | some m => (⟨[], zh m 32⟩, 0) | none => (⟨s, 0⟩, 0)) := by
 unfold jt; rw [if_neg (by rintro ⟨h, _⟩; omega), if_pos ⟨h1, zpH h2⟩]
theorem zgT {k n : Int} {s : List UInt8} {v : zw} {l : List zl} (h1 : k = 3 ∨ k = 4) : jt k n s [v] l = if v.name = [] then (if k = 3 then (⟨[], zh (-v.n) 32⟩, 0) else (⟨[], zh (-v.n - 1) 32⟩, 0)) else (j9, 8) := by
 unfold jt; rw [if_neg (by rintro ⟨h, _⟩; omega), if_neg (by rintro ⟨h, _⟩; omega)]; dsimp only; rw [if_pos h1]
theorem zvW {k n : Int} {s : List UInt8} {a b : zw} {l : List zl} (h1 : 5 ≤ k ∧ k ≤ 11) : jt k n s [a, b] l = zgb k a b := by
 unfold jt; rw [if_neg (by rintro ⟨h, _⟩; omega), if_neg (by rintro ⟨h, _⟩; omega)]; dsimp only; rw [if_pos h1]
theorem zvX {k n : Int} {s : List UInt8} {vs : List zw} {l : List zl} (h0 : vs.length = 0 → k ≠ 1 ∧ k ≠ 2) (h1 : vs.length = 1 → k ≠ 3 ∧ k ≠ 4) (h2 : vs.length = 2 → k < 5 ∨ 11 < k) : jt k n s vs l = (j9, 1) := by
 unfold jt
 rw [if_neg (by rintro ⟨h, h3⟩; exact (h0 (by rw [h3]; rfl)).1 h), if_neg (by rintro ⟨h, h3⟩; exact (h0 (by rw [h3]; rfl)).2 h)]
 rcases vs with _ | ⟨a, _ | ⟨b, _ | ⟨c, r⟩⟩⟩ <;> dsimp only
 ·rw [if_neg (by have := h1 rfl; omega)]
 ·rw [if_neg (by have := h2 rfl; omega)]
theorem zpI {α : Type} {l : List α} (h : l.length = 1) : ∃ a, l = [a] := by
 rcases l with _ | ⟨a, _ | ⟨b, r⟩⟩ <;> simp at h
 exact ⟨a, rfl⟩
theorem zvY {α : Type} {l : List α} (h : l.length = 2) : ∃ a b, l = [a, b] := by
 rcases l with _ | ⟨a, _ | ⟨b, _ | ⟨c, r⟩⟩⟩ <;> simp at h
 exact ⟨a, b, rfl⟩
theorem znf : za Tryz.prog zbG (ya (fun _ : zl × zg => True) (fun (s, e) => [we s, .loc 0 0]) (fun (s, e) => [.cells [.int .i64 e.kind, .int .i64 e.n, .str e.name, .sl 4 (e.kids.map xe) none]]) (fun (s, e) => .bool (s.name == e.name))
  fun (s, e) => [.cells [.int .i64 e.kind, .int .i64 e.n, .str e.name, .sl 4 (e.kids.map xe) none]]) := by
 refine zf zj Tryz.func189 rfl (by decide) ?_
 rintro ⟨s, e⟩ -
 refine ⟨Nat.le_refl _, by simp [Tryz.f189], fun E hE => ?_⟩
 refine ze _ ?_
 (all_goals refine qgo (Lf.mk ?_))
 refine yo ?_
 (repeat' (first | (refine VS.mk ?_) | exact trivial | exact rfl | refine And.intro ?_ ?_))
theorem zlF : za Tryz.prog vd (ya (fun ((l, e) : List zl × zg) => l.length ≤ 1000000000) (fun (l, e) => [.sl 2 (l.map we) none, .fn zbG [.loc 0 0]])
  (fun (l, e) => [.cells [.int .i64 e.kind, .int .i64 e.n, .str e.name, .sl 4 (e.kids.map xe) none]]) (fun (l, e) => .int .i64 (zdI e.name l 0)) fun (l, e) => [.cells [.int .i64 e.kind, .int .i64 e.n, .str e.name, .sl 4 (e.kids.map xe) none]]) := by
 refine zf zj Tryz.func173 rfl (by decide) ?_
 rintro ⟨l, e⟩ hl
 have hl : l.length ≤ 1000000000 := hl
 refine ⟨Nat.le_refl _, by simp [Tryz.f173], fun E hE => ?_⟩
 refine ze _ ?_
 (all_goals refine qgo (Lf.mk ?_))
 refine ye (α := Nat) (fun k => k ≤ l.length ∧ zdI e.name l 0 = zdI e.name (l.drop k) k)
  (fun k => [(7, .int .i64 l.length), (8, .int .i64 k), (0, .sl 2 (l.map we) none), (1, .fn zbG [.loc 0 0])])
  (fun _ => [.cells [.int .i64 e.kind, .int .i64 e.n, .str e.name, .sl 4 (e.kids.map xe) none]]) (fun k => l.length - k) (fun _ => by simp [hE]) 0 ⟨Nat.zero_le _, by simp⟩ ?_ ?_
 ·(repeat' (first | (refine VS.mk ?_) | exact trivial | exact rfl | refine And.intro ?_ ?_))
 rintro k ⟨hk, hf⟩
 refine ze _ ?_
 (all_goals refine qgo ?_ <;> (repeat' first | exact trivial | intro hc | refine And.intro ?_ ?_) <;> refine Lf.mk ?_)
 ·obtain ⟨s, hsk⟩ := yf (l := l) (k := k) (by omega)
  have hkl : k < l.length := by omega
  have hget : l[k] = s := by rw [List.getElem?_eq_getElem hkl] at hsk; exact Option.some.inj hsk
  rw [List.drop_eq_getElem_cons hkl, hget, zdI] at hf
  refine zk s (by omega) (by simpa using hsk) ?_
  (all_goals refine qgo (Lf.mk ?_))
  refine yb znf [0] [0] (s, e) trivial rfl rfl ?_
  refine And.intro (VS.mk (LeL.of_eq rfl)) (And.intro (VS.mk rfl) ?_)
  (all_goals refine qgo ?_ <;> (repeat' first | exact trivial | intro hc | refine And.intro ?_ ?_) <;> refine Lf.mk ?_)
  ·rw [if_pos hc] at hf
   refine yo ?_
   (repeat' (first | (refine VS.mk ?_) | exact trivial | exact rfl | refine And.intro ?_ ?_))
   exact congrArg (D.int .i64) hf.symm
  ·rw [if_neg hc] at hf
   refine zB (k + 1) ⟨by omega, hf⟩ (by omega) ?_
   (repeat' (first | (refine VS.mk ?_) | exact trivial | exact rfl | refine And.intro ?_ ?_))
 ·rw [List.drop_of_length_le (by omega), zdI] at hf
  refine yo ?_
  (repeat' (first | (refine VS.mk ?_) | exact trivial | exact rfl | refine And.intro ?_ ?_))
  exact congrArg (D.int .i64) hf.symm
attribute [local irreducible] zg.kids zg.kind zg.n zg.name xl evalL xe zeQ zdI yD zgb
theorem zgU {w : Int} {x : zw × Int} (h : x = (j9, w)) : LeD (.tup [.agg [.str [], .int .i64 0], .int .i64 w]) (zjb x) := by subst h; exact .refl _
theorem zjc (l : List zl) (hl : l.length ≤ 1000000000) : ∀ n : Nat, za Tryz.prog zoX (zx (fun e : zg => yD e ≤ n ∧ yD e ≤ 4194304) (fun e => [vH e, .sl 2 (l.map we) none]) fun e => zjb (xl l e))
 | 0 => by
  refine zf zj Tryz.func172 rfl (by decide) fun e h => ?_
  have := zf9 e
  omega
 | n + 1 => by
  have ih := zjc l hl n
  refine zf zj Tryz.func172 rfl (by decide) ?_
  rintro e ⟨hn, hN⟩
  have hkl := zt0 e
  have hnl := zt1 e
  refine ⟨Nat.le_refl _, by simp [Tryz.f172], fun E hE => ?_⟩
  refine ze _ ?_
  (all_goals refine qgo (Lf.mk ?_))
  refine xF (qK 6 2 rfl) ?_
  generalize hEV : evalL l e.kids = EV at *
  have hev0 : evA l [] e.kids = EV := by rw [zvU, hEV]
  refine ye (α := Nat × List zw) (fun p => p.1 ≤ e.kids.length ∧ evA l p.2 (e.kids.drop p.1) = EV ∧ p.2.length = p.1 ∧ (∀ v ∈ p.2, S32 v.n) ∧ zaa p.2 ≤ p.1 * 4194304)
   (fun p => [(13, .sl 4 (e.kids.map xe) none), (14, .int .i64 e.kids.length), (15, .int .i64 p.1), (1, .sl 2 (l.map we) none), (2, .loc 0 0), (4, .loc 1 0), (6, .sl 2 (p.2.map yI) (some 2))])
   (fun p => [.cells [.int .i64 e.kind, .int .i64 e.n, .str e.name, .sl 4 (e.kids.map xe) none], .cells [.str [], .int .i64 0], .spare p.2.length]) (fun p => e.kids.length - p.1) (fun _ => by simp [hE]) (0, []) ⟨Nat.zero_le _, by simpa using hev0, rfl, by simp, by simp [zaa]⟩ ?_ ?_
  ·(repeat' (first | (refine VS.mk ?_) | exact trivial | exact rfl | refine And.intro ?_ ?_))
  rintro ⟨k, vs⟩ ⟨hk, hev, hvl, hvs, hns⟩
  dsimp only at hk hev hvl hvs hns ⊢
  refine ze _ ?_
  (all_goals refine qgo ?_ <;> (repeat' first | exact trivial | intro hc | refine And.intro ?_ ?_) <;> refine Lf.mk ?_)
  ·obtain ⟨x, hx⟩ := yf (l := e.kids) (k := k) (by omega)
   have hxm := List.mem_of_getElem? hx
   have hxn := zsa hxm
   have hok := zpG l x
   have hkl3 : k < e.kids.length := by omega
   have hget : e.kids[k] = x := by rw [List.getElem?_eq_getElem hkl3] at hx; exact Option.some.inj hx
   rw [List.drop_eq_getElem_cons hkl3, hget, zt8] at hev
   refine zvN x (by omega) (by simpa using hx) ?_
   (all_goals refine qgo (Lf.mk ?_))
   refine zb ih x ⟨by omega, by omega⟩ (VS.mk (LeL.of_eq rfl)) ?_
   (all_goals refine qgo ?_ <;> (repeat' first | exact trivial | intro hc | refine And.intro ?_ ?_) <;> refine Lf.mk ?_)
   ·rw [if_neg hc] at hev
    subst hev
    exact zd (VS.mk (zgU (by rw [znb, hEV])))
   ·rw [if_pos hc] at hev
    have hl1 := hok.len
    refine zB (k + 1, vs ++ [(xl l x).1]) ⟨by (dsimp only; omega), hev, by (dsimp only; rw [List.length_append, hvl]; rfl), fun v hv => ?_, by (dsimp only; rw [znc]; omega)⟩ (by dsimp only; omega) ?_
    ·(repeat' (first | (refine VS.mk ?_) | exact trivial | exact rfl | refine And.intro ?_ ?_))
     ·simp [yI]
     ·simp [yI]
    ·rcases List.mem_append.1 hv with h | h
     ·exact hvs v h
     ·rw [List.mem_singleton.1 h]; exact hok.s32
  all_goals
   rw [List.drop_of_length_le (by omega), zvT] at hev
   subst hev
   have hT : xl l e = jt e.kind e.n e.name vs l := by rw [znb, hEV]
  any_goals (first | (exfalso; omega) | exact zd (VS.mk (zgU (by rw [hT, zvX (by omega) (by omega) (by omega)]))) | skip)
  ·refine zb yx e.n trivial (VS.mk (LeL.of_eq rfl)) ?_
   (all_goals refine qgo (Lf.mk ?_))
   refine zd (VS.mk (LeD.of_eq ?_))
   rw [hT, zvV (by omega) (by omega)]
   rfl
  ·refine yb zlF [0] [0] (l, e) hl rfl rfl ?_
   refine And.intro (VS.mk (LeL.of_eq rfl)) (And.intro (VS.mk rfl) ?_)
   rcases zkU e.name l 0 with ⟨h1, h2⟩ | ⟨i, s, h1, h2, h3⟩
   ·dsimp only
    rw [h2]
    (all_goals refine qgo ?_ <;> (repeat' first | exact trivial | intro hc | refine And.intro ?_ ?_) <;> refine Lf.mk ?_)
    ·exfalso; omega
    ·refine zd (VS.mk (LeD.of_eq ?_))
     rw [hT, zne (by omega) (by omega), h1]
     rfl
   ·have hil : i < l.length := (List.getElem?_eq_some_iff.1 h1).1
    rw [Nat.zero_add] at h2
    dsimp only
    rw [h2]
    (all_goals refine qgo ?_ <;> (repeat' first | exact trivial | intro hc | refine And.intro ?_ ?_) <;> refine Lf.mk ?_)
    ·refine zk s (by omega) (by simpa using h1) ?_
     (all_goals refine qgo (Lf.mk ?_))
     refine zb yx s.n trivial (VS.mk (LeL.of_eq rfl)) ?_
     (all_goals refine qgo (Lf.mk ?_))
     refine zd (VS.mk (LeD.of_eq ?_))
     rw [hT, zne (by omega) (by omega), h3]
     rfl
    ·exfalso; omega
  ·obtain ⟨v, hv1⟩ := zpI (l := vs) (by omega)
   subst hv1
   obtain ⟨s1, s2⟩ := hvs v (by simp)
   (all_goals refine qgo ?_ <;> (repeat' first | exact trivial | intro hc | refine And.intro ?_ ?_) <;> refine Lf.mk ?_)
   ·exact zd (VS.mk (zgU (by rw [hT, zgT (by omega), if_neg (by assumption)])))
   ·refine zb yx (-v.n) trivial (VS.mk (LeL.of_eq (by rw [Int.zero_sub]))) ?_
    (all_goals refine qgo (Lf.mk ?_))
    refine zd (VS.mk (LeD.of_eq ?_))
    rw [hT, zgT (by omega), if_pos (by assumption), if_pos (by assumption)]
    rfl
   ·exfalso; omega
  ·obtain ⟨v, hv1⟩ := zpI (l := vs) (by omega)
   subst hv1
   obtain ⟨s1, s2⟩ := hvs v (by simp)
   (all_goals refine qgo ?_ <;> (repeat' first | exact trivial | intro hc | refine And.intro ?_ ?_) <;> refine Lf.mk ?_)
   ·exact zd (VS.mk (zgU (by rw [hT, zgT (by omega), if_neg (by assumption)])))
   ·exfalso; omega
   ·refine wh (zvQ (by omega) (by omega)) ?_
    (all_goals refine qgo (Lf.mk ?_))
    refine zb yx (-v.n - 1) trivial (VS.mk (LeL.of_eq rfl)) ?_
    (all_goals refine qgo (Lf.mk ?_))
    refine zd (VS.mk (LeD.of_eq ?_))
    rw [hT, zgT (by omega), if_pos (by assumption), if_neg (by omega)]
    rfl
  ·obtain ⟨a, b, hab⟩ := zvY (l := vs) (by omega)
   subst hab
   have sa := hvs a (by simp)
   have sb := hvs b (by simp)
   simp only [zaa] at hns
   (all_goals refine qgo (Lf.mk ?_))
   refine zb zsh (e.kind, a, b) ⟨sa, sb, by omega, by omega⟩ (VS.mk (LeL.of_eq rfl)) ?_
   (all_goals refine qgo (Lf.mk ?_))
   refine zd (VS.mk (LeD.of_eq ?_))
   rw [hT, zvW (by omega)]
   rfl
end Go.Proofs.YtnkdeacghopkiaaGreatDoor
namespace Go.Proofs.YtnkdeacghopkiaaGreatDoor
open Go Go.Plat
set_option linter.unusedVariables false
set_option linter.unusedSimpArgs false
set_option maxRecDepth 100000
set_option maxHeartbeats 2000000
attribute [local irreducible] AWP zA yh zE zn yu z6 zF zX zY zq za zL yv zo zZ yq yr yj ym zr zu zz
structure ka where
 op : Int
 name : List UInt8
 shape : Int
 bits : Int
def zjd (r : ka) : D := .agg [.int .i64 r.op, .str r.name, .int .i64 r.shape, .int .i64 r.bits]
def yF : List ka := [
 ⟨1, [110, 111, 112], 0, 9⟩,
 ⟨2, [114, 116, 115], 0, 11⟩,
 ⟨3, [109, 111, 118], 1, 57344⟩,
 ⟨4, [97, 100, 100], 1, 28672⟩,
 ⟨5, [109, 111, 118], 2, 24579⟩,
 ⟨6, [97, 100, 100], 2, 12300⟩,
 ⟨7, [115, 117, 98], 2, 12296⟩,
 ⟨8, [97, 110, 100], 2, 8201⟩,
 ⟨9, [111, 114], 2, 8203⟩,
 ⟨10, [120, 111, 114], 2, 8202⟩,
 ⟨11, [116, 115, 116], 2, 8200⟩,
 ⟨12, [99, 109, 112, 47, 101, 113], 2, 12288⟩,
 ⟨13, [99, 109, 112, 47, 103, 116], 2, 12295⟩,
 ⟨14, [115, 104, 108, 108], 3, 16384⟩,
 ⟨15, [115, 104, 108, 114], 3, 16385⟩,
 ⟨16, [100, 116], 3, 16400⟩,
 ⟨17, [98, 116], 4, 35072⟩,
 ⟨18, [98, 102], 4, 35584⟩,
 ⟨19, [98, 114, 97], 5, 40960⟩,
 ⟨20, [98, 115, 114], 5, 45056⟩,
 ⟨21, [106, 109, 112], 6, 16427⟩,
 ⟨22, [106, 115, 114], 6, 16395⟩,
 ⟨23, [109, 111, 118, 46, 119], 7, 36864⟩,
 ⟨24, [109, 111, 118, 46, 108], 8, 53248⟩,
 ⟨25, [109, 111, 118, 46, 108], 9, 8194⟩,
 ⟨26, [109, 111, 118, 46, 108], 10, 24578⟩,
 ⟨27, [116, 114, 97, 112, 97], 11, 49920⟩]
theorem wR : yF.length = 27 := rfl
theorem zbY : za Tryz.prog zqF (zx (fun _ : Unit => True) (fun _ => []) fun _ => .sl 4 (yF.map zjd) none) := by
 refine zf zj Tryz.func93 rfl (by decide) fun _ _ => ?_
 refine ⟨Nat.le_refl _, by simp [Tryz.f93], fun E hE => ?_⟩
 refine ze _ ?_
 (all_goals refine qgo (Lf.mk ?_))
 exact zd (VS.mk (LeD.of_eq (by rfl)))
def xm (op : Int) : Option ka := yF.find? fun r => r.op == op
def kO (op : Int) : D := match xm op with | some r => .tup [.str r.name, .int .i64 r.shape] | none => .tup [.str [], .int .i64 0]
theorem zbZ : za Tryz.prog zqI (zx (fun _ : Int => True) (fun op => [.int .i64 op]) kO) := by
 refine zf zj Tryz.func96 rfl (by decide) fun op _ => ?_
 refine ⟨Nat.le_refl _, by simp [Tryz.f96], fun E hE => ?_⟩
 refine ze _ ?_
 (all_goals refine qgo (Lf.mk ?_))
 refine zb zbY () trivial (VS.mk (by (first | exact LeL.refl _ | (repeat' (first | exact LeL.nil | exact LeD.refl _ | exact LeD.nil _ | exact LeD.strip _ _ _ | refine LeL.cons ?_ ?_ | refine LeD.tup ?_ | refine LeD.agg ?_))))) ?_
 (all_goals refine qgo (Lf.mk ?_))
 refine ye (α := Nat) (fun k => k ≤ 27 ∧ ∀ (i : Nat) r, i < k → yF[i]? = some r → (r.op == op) = false) (fun k => [(6, .sl 4 (yF.map zjd) none), (7, .int .i64 27), (8, .int .i64 k), (0, .int .i64 op)]) (fun _ => []) (fun k => 27 - k) (fun _ => by simp [hE]) 0 ⟨Nat.zero_le _, by simp⟩ ?_ ?_
 ·(repeat' (first | (refine VS.mk ?_) | exact trivial | exact rfl | refine And.intro ?_ ?_))
 rintro k ⟨hk, hno⟩
 refine ze _ ?_
 (all_goals refine qgo ?_ <;> (repeat' first | exact trivial | intro hc | refine And.intro ?_ ?_) <;> refine Lf.mk ?_)
 ·obtain ⟨r, hr⟩ := yf (l := yF) (k := k) (by rw [wR]; omega)
  refine zk r (by omega) (by simpa using hr) ?_
  (all_goals refine qgo ?_ <;> (repeat' first | exact trivial | intro hc | refine And.intro ?_ ?_) <;> refine Lf.mk ?_)
  ·refine zd (VS.mk (LeD.of_eq ?_))
   have hf := zgN (p := fun r => r.op == op) hr (by simpa using hc) hno
   rw [kO, xm, hf]
  ·refine zB (k + 1) ⟨by omega, zgO hno hr (by simpa using hc)⟩ (by omega) ?_
   (repeat' (first | (refine VS.mk ?_) | exact trivial | exact rfl | refine And.intro ?_ ?_))
 ·refine zd (VS.mk (LeD.of_eq ?_))
  have hf := zmy hno (by rw [wR]; omega)
  rw [kO, xm, hf]
def zqU (name : List UInt8) (shape : Int) : Option ka := yF.find? fun r => r.name == name && r.shape == shape
def w0 (name : List UInt8) (shape : Int) : Int := match zqU name shape with | some r => r.op | none => 0
theorem zqV : za Tryz.prog zi5 (zx (fun _ : List UInt8 × Int => True) (fun (name, shape) => [.str name, .int .i64 shape]) fun (name, shape) => .int .i64 (w0 name shape)) := by
 refine zf zj Tryz.func157 rfl (by decide) ?_
 rintro ⟨name, shape⟩ _
 refine ⟨Nat.le_refl _, by simp [Tryz.f157], fun E hE => ?_⟩
 refine ze _ ?_
 (all_goals refine qgo (Lf.mk ?_))
 refine zb zbY () trivial (VS.mk (by (first | exact LeL.refl _ | (repeat' (first | exact LeL.nil | exact LeD.refl _ | exact LeD.nil _ | exact LeD.strip _ _ _ | refine LeL.cons ?_ ?_ | refine LeD.tup ?_ | refine LeD.agg ?_))))) ?_
 (all_goals refine qgo (Lf.mk ?_))
 refine ye (α := Nat) (fun k => k ≤ 27 ∧ ∀ (i : Nat) r, i < k → yF[i]? = some r → (r.name == name && r.shape == shape) = false) (fun k => [(7, .sl 4 (yF.map zjd) none), (8, .int .i64 27), (9, .int .i64 k), (0, .str name), (1, .int .i64 shape)]) (fun _ => []) (fun k => 27 - k) (fun _ => by simp [hE]) 0 ⟨Nat.zero_le _, by simp⟩ ?_ ?_
 ·(repeat' (first | (refine VS.mk ?_) | exact trivial | exact rfl | refine And.intro ?_ ?_))
 rintro k ⟨hk, hno⟩
 refine ze _ ?_
 (all_goals refine qgo ?_ <;> (repeat' first | exact trivial | intro hc | refine And.intro ?_ ?_) <;> refine Lf.mk ?_)
 ·obtain ⟨r, hr⟩ := yf (l := yF) (k := k) (by rw [wR]; omega)
  refine zk r (by omega) (by simpa using hr) ?_
  (all_goals refine qgo ?_ <;> (repeat' first | exact trivial | intro hc | refine And.intro ?_ ?_) <;> refine Lf.mk ?_)
  ·refine zd (VS.mk (LeD.of_eq ?_))
   have hf := zgN (p := fun r => r.name == name && r.shape == shape) hr (by simp [*]) hno
   simp only [w0, zqU, hf]
  ·refine zB (k + 1) ⟨by omega, zgO hno hr (by simp [*])⟩ (by omega) ?_
   (repeat' (first | (refine VS.mk ?_) | exact trivial | exact rfl | refine And.intro ?_ ?_))
  ·refine zB (k + 1) ⟨by omega, zgO hno hr (by simp [*])⟩ (by omega) ?_
   (repeat' (first | (refine VS.mk ?_) | exact trivial | exact rfl | refine And.intro ?_ ?_))
 ·refine zd (VS.mk (LeD.of_eq ?_))
  have hf := zmy hno (by rw [wR]; omega)
  simp only [w0, zqU, hf]
def wB (s : Int) : Bool := s == 1 || s == 3 || s == 6 || s == 7 || s == 8 || s == 2 || s == 9 || s == 10
def wC (s : Int) : Bool := s == 2 || s == 9 || s == 10
theorem zje : za Tryz.prog zqH (zx (fun _ : Int => True) (fun s => [.int .i64 s]) fun s => .tup [.bool (wB s), .bool (wC s)]) := by
 refine zf zj Tryz.func95 rfl (by decide) fun s _ => ?_
 refine ⟨Nat.le_refl _, by simp [Tryz.f95], fun E hE => ?_⟩
 refine ze _ ?_
 (all_goals refine qgo ?_ <;> (repeat' first | exact trivial | intro hc | refine And.intro ?_ ?_) <;> refine Lf.mk ?_)
 all_goals (refine zd (VS.mk ?_))
 all_goals first | (exfalso; omega) | (refine LeD.tup (.cons ?_ (.cons ?_ .nil)) <;> first | exact LeD.tt (by simp_all [wB, wC]) | exact LeD.ff (by simp_all [wB, wC]))
def vR (s : Int) : Int := if s = 1 ∨ s = 4 then -128 else if s = 5 then -2048 else 0
def wD (s : Int) : Int := if s = 1 ∨ s = 4 then 127 else if s = 5 then 2047 else if s = 7 ∨ s = 8 ∨ s = 11 then 255 else 0
theorem zhm : za Tryz.prog zoW (zx (fun _ : Int => True) (fun s => [.int .i64 s]) fun s => .tup [.int .i64 (vR s), .int .i64 (wD s)]) := by
 refine zf zj Tryz.func161 rfl (by decide) fun s _ => ?_
 refine ⟨Nat.le_refl _, by simp [Tryz.f161], fun E hE => ?_⟩
 refine ze _ ?_
 (all_goals refine qgo ?_ <;> (repeat' first | exact trivial | intro hc | refine And.intro ?_ ?_) <;> refine Lf.mk ?_)
 all_goals (refine zd (VS.mk ?_))
 all_goals (refine LeD.of_eq ?_; unfold vR wD; simp; omega)
def zaL (s : Int) : Int := if s = 0 then 65535 else if s = 2 ∨ s = 9 ∨ s = 10 then 61455 else if s = 3 ∨ s = 6 then 61695 else if s = 4 ∨ s = 11 then 65280 else 61440
theorem zqW : za Tryz.prog zqG (zx (fun _ : Int => True) (fun s => [.int .i64 s]) fun s => .int .i64 (zaL s)) := by
 refine zf zj Tryz.func94 rfl (by decide) fun s _ => ?_
 refine ⟨Nat.le_refl _, by simp [Tryz.f94], fun E hE => ?_⟩
 refine ze _ ?_
 (all_goals refine qgo ?_ <;> (repeat' first | exact trivial | intro hc | refine And.intro ?_ ?_) <;> refine Lf.mk ?_)
 all_goals (refine zd (VS.mk (LeD.of_eq (congrArg (D.int .i64) ?_))))
 all_goals (unfold zaL; (repeat' split) <;> first | rfl | omega)
attribute [local irreducible] wD xm yF vR zaL zh wB wC
structure Ins where
 op : Int
 n : Int
 m : Int
 imm : Int
def ju (i : Ins) : D := .agg [.int .i64 i.op, .int .i64 i.n, .int .i64 i.m, .int .i64 i.imm]
def zbs (r : ka) (i : Ins) : Prop := i.n < 0 ∨ 15 < i.n ∨ (wB r.shape = false ∧ i.n ≠ 0) ∨ i.m < 0 ∨ 15 < i.m ∨ (wC r.shape = false ∧ i.m ≠ 0) ∨ i.imm < vR r.shape ∨ wD r.shape < i.imm
instance (r : ka) (i : Ins) : Decidable (zbs r i) := by unfold zbs; infer_instance
def yy (i : Ins) : Int := match xm i.op with
 | none => 1
 | some r => if zbs r i then 3 else 0
theorem zsi : ∀ r ∈ yF, r.name ≠ [] := by unfold yF; decide
theorem zgc {op : Int} {r : ka} (h : xm op = some r) : r ∈ yF ∧ r.op = op := by
 unfold xm at h
 exact ⟨List.mem_of_find?_eq_some h, by simpa using List.find?_some h⟩
theorem vC : za Tryz.prog zoV (zx (fun _ : Ins => True) (fun i => [ju i]) fun i => .int .i64 (yy i)) := by
 refine zf zj Tryz.func158 rfl (by decide) fun i _ => ?_
 refine ⟨Nat.le_refl _, by simp [Tryz.f158], fun E hE => ?_⟩
 refine ze _ ?_
 (all_goals refine qgo (Lf.mk ?_))
 refine zb zbZ i.op trivial (VS.mk (by (first | exact LeL.refl _ | (repeat' (first | exact LeL.nil | exact LeD.refl _ | exact LeD.nil _ | exact LeD.strip _ _ _ | refine LeL.cons ?_ ?_ | refine LeD.tup ?_ | refine LeD.agg ?_))))) ?_
 cases hi : xm i.op with
 | none =>
  have hw : yy i = 1 := by unfold yy; rw [hi]
  rw [show kO i.op = .tup [.str [], .int .i64 0] by unfold kO; rw [hi]]
  (all_goals refine qgo ?_ <;> (repeat' first | exact trivial | intro hc | refine And.intro ?_ ?_) <;> refine Lf.mk ?_)
  ·refine zd (VS.mk (LeD.of_eq ?_))
   rw [hw]
  ·exfalso; exact hc trivial
 | some r =>
  have hn : r.name ≠ [] := zsi r (zgc hi).1
  have hw : yy i = if zbs r i then 3 else 0 := by unfold yy; rw [hi]
  rw [show kO i.op = .tup [.str r.name, .int .i64 r.shape] by unfold kO; rw [hi]]
  (all_goals refine qgo ?_ <;> (repeat' first | exact trivial | intro hc | refine And.intro ?_ ?_) <;> refine Lf.mk ?_)
  ·exfalso; exact hn hc
  refine zb zje r.shape trivial (VS.mk (by (first | exact LeL.refl _ | (repeat' (first | exact LeL.nil | exact LeD.refl _ | exact LeD.nil _ | exact LeD.strip _ _ _ | refine LeL.cons ?_ ?_ | refine LeD.tup ?_ | refine LeD.agg ?_))))) ?_
  (all_goals refine qgo (Lf.mk ?_))
  refine zb zhm r.shape trivial (VS.mk (by (first | exact LeL.refl _ | (repeat' (first | exact LeL.nil | exact LeD.refl _ | exact LeD.nil _ | exact LeD.strip _ _ _ | refine LeL.cons ?_ ?_ | refine LeD.tup ?_ | refine LeD.agg ?_))))) ?_
  (all_goals refine qgo ?_ <;> (repeat' first | exact trivial | intro hc | refine And.intro ?_ ?_) <;> refine Lf.mk ?_)
  all_goals (refine zd (VS.mk (LeD.of_eq (congrArg (D.int .i64) ?_))); rw [hw])
  all_goals first | (rw [if_pos]; unfold zbs; simp_all; done) | (rw [if_neg]; unfold zbs; simp_all; done) | (rw [if_neg]; unfold zbs; simp_all; omega)
def zsj (op : Int) : Int := yF.foldl (fun b r => if r.op = op then r.bits else b) 0
theorem zgd : ∀ r ∈ yF, zsj r.op = r.bits ∧ 0 ≤ r.bits ∧ r.bits ≤ 65535 := by unfold zsj yF; decide
def zng (b n m v : Nat) : Nat := b ||| n * 256 ||| m * 16 ||| v
def qR (r : ka) (i : Ins) : Int := (zng r.bits.toNat i.n.toNat i.m.toNat (i.imm % (if r.shape = 5 then 4096 else 256)).toNat : Nat)
def xr (i : Ins) : Int := match xm i.op with | some r => qR r i | none => 0
theorem znh {i : Ins} (h : yy i = 0) : ∃ r, xm i.op = some r ∧ 0 ≤ i.n ∧ i.n ≤ 15 ∧ 0 ≤ i.m ∧ i.m ≤ 15 ∧ (wB r.shape = false → i.n = 0) ∧ (wC r.shape = false → i.m = 0) ∧ vR r.shape ≤ i.imm ∧ i.imm ≤ wD r.shape := by
 unfold yy at h
 split at h
 ·exact absurd h (by decide)
 ·rename_i r hr
  split at h
  ·exact absurd h (by decide)
  ·rename_i hb
   unfold zbs at hb
   refine ⟨r, hr, by omega, by omega, by omega, by omega, fun h => ?_, fun h => ?_, by omega, by omega⟩
   ·exact Classical.byContradiction fun h' => hb (.inr (.inr (.inl ⟨h, h'⟩)))
   ·exact Classical.byContradiction fun h' => hb (.inr (.inr (.inr (.inr (.inr (.inl ⟨h, h'⟩))))))
theorem zsk {op : Int} {k : Nat} {r : ka} (h : yF[k]? = some r) : (yF.take (k + 1)).foldl (fun b r => if r.op = op then r.bits else b) 0 = if r.op = op then r.bits else (yF.take k).foldl (fun b r => if r.op = op then r.bits else b) 0 := by
 obtain ⟨hk, rfl⟩ := List.getElem?_eq_some_iff.1 h
 rw [List.take_succ_eq_append_getElem hk, List.foldl_append]
 rfl
theorem zni : za Tryz.prog zmT (zx (fun _ : Ins => True) (fun i => [ju i]) fun i => .tup [.int .i64 (if yy i = 0 then xr i else 0), .int .i64 (yy i)]) := by
 refine zf zj Tryz.func162 rfl (by decide) fun i _ => ?_
 refine ⟨Nat.le_refl _, by simp [Tryz.f162], fun E hE => ?_⟩
 refine ze _ ?_
 (all_goals refine qgo (Lf.mk ?_))
 refine zb vC i trivial (VS.mk (by (first | exact LeL.refl _ | (repeat' (first | exact LeL.nil | exact LeD.refl _ | exact LeD.nil _ | exact LeD.strip _ _ _ | refine LeL.cons ?_ ?_ | refine LeD.tup ?_ | refine LeD.agg ?_))))) ?_
 (all_goals refine qgo ?_ <;> (repeat' first | exact trivial | intro hc | refine And.intro ?_ ?_) <;> refine Lf.mk ?_)
 ·refine zd (VS.mk (LeD.of_eq ?_))
  rw [if_neg hc]
 obtain ⟨r, hi, h1, h2, h3, h4, h5, h6, h7, h8⟩ := znh hc
 refine zb zbZ i.op trivial (VS.mk (by (first | exact LeL.refl _ | (repeat' (first | exact LeL.nil | exact LeD.refl _ | exact LeD.nil _ | exact LeD.strip _ _ _ | refine LeL.cons ?_ ?_ | refine LeD.tup ?_ | refine LeD.agg ?_))))) ?_
 rw [show kO i.op = .tup [.str r.name, .int .i64 r.shape] by unfold kO; rw [hi]]
 (all_goals refine qgo (Lf.mk ?_))
 refine zb zbY () trivial (VS.mk (by (first | exact LeL.refl _ | (repeat' (first | exact LeL.nil | exact LeD.refl _ | exact LeD.nil _ | exact LeD.strip _ _ _ | refine LeL.cons ?_ ?_ | refine LeD.tup ?_ | refine LeD.agg ?_))))) ?_
 (all_goals refine qgo (Lf.mk ?_))
 refine ye (α := Nat) (fun k => k ≤ 27) (fun k => [(22, .sl 4 (yF.map zjd) none), (23, .int .i64 27), (24, .int .i64 k), (1, .loc 0 0), (6, .int .i64 r.shape),
  (7, .int .i64 ((yF.take k).foldl (fun b r => if r.op = i.op then r.bits else b) 0))]) (fun _ => [.cells [.int .i64 i.op, .int .i64 i.n, .int .i64 i.m, .int .i64 i.imm]]) (fun k => 27 - k) (fun _ => by simp [hE]) 0 (Nat.zero_le _) ?_ ?_
 ·(repeat' (first | (refine VS.mk ?_) | exact trivial | exact rfl | refine And.intro ?_ ?_))
  all_goals (rw [wR]; rfl)
 intro k hk
 refine ze _ ?_
 (all_goals refine qgo ?_ <;> (repeat' first | exact trivial | intro hc | refine And.intro ?_ ?_) <;> refine Lf.mk ?_)
 ·obtain ⟨q, hq⟩ := yf (l := yF) (k := k) (by rw [wR]; omega)
  have hst := zsk (op := i.op) hq
  refine zk q (by omega) (by simpa using hq) ?_
  (all_goals refine qgo ?_ <;> (repeat' first | exact trivial | intro hc | refine And.intro ?_ ?_) <;> refine Lf.mk ?_)
  ·refine zB (k + 1) (by omega) (by omega) ?_
   rw [hst, if_pos hc]
   (repeat' (first | (refine VS.mk ?_) | exact trivial | exact rfl | refine And.intro ?_ ?_))
  ·refine zB (k + 1) (by omega) (by omega) ?_
   rw [hst, if_neg hc]
   (repeat' (first | (refine VS.mk ?_) | exact trivial | exact rfl | refine And.intro ?_ ?_))
 all_goals
  obtain rfl : k = 27 := by omega
  obtain ⟨hm, ho⟩ := zgc hi
  obtain ⟨b1, b2, b3⟩ := zgd r hm
  rw [ho] at b1
  obtain ⟨B, hB⟩ := Int.eq_ofNat_of_zero_le b2
  obtain ⟨N, hN⟩ := Int.eq_ofNat_of_zero_le h1
  obtain ⟨M, hM⟩ := Int.eq_ofNat_of_zero_le h3
  have hfold : (yF.take 27).foldl (fun b r => if r.op = i.op then r.bits else b) 0 = (B : Int) := by
   rw [List.take_of_length_le (by rw [wR]; exact Nat.le_refl _), ← hB, ← b1]
   rfl
  have hl1 : B ||| N * 256 < 2 ^ 16 := Nat.or_lt_two_pow (by omega) (by omega)
  have hl2 : B ||| N * 256 ||| M * 16 < 2 ^ 16 := Nat.or_lt_two_pow hl1 (by omega)
  rw [hfold]
  refine wh (zlV (a := B) (b := N * 256) rfl (by omega) (by omega) (by omega)) ?_
  (all_goals refine qgo (Lf.mk ?_))
  refine wh (zlV (a := B ||| N * 256) (b := M * 16) rfl (by omega) (by omega) (by omega)) ?_
  refine VS.mk ?_
 ·obtain ⟨V, hV⟩ := Int.eq_ofNat_of_zero_le (Int.emod_nonneg i.imm (show (4096 : Int) ≠ 0 by decide))
  refine wh qN ?_
  rw [hV]
  (all_goals refine qgo (Lf.mk ?_))
  refine wh (zlV (a := B ||| N * 256 ||| M * 16) (b := V) rfl rfl (by omega) (by omega)) ?_
  (all_goals refine qgo (Lf.mk ?_))
  refine zd (VS.mk (LeD.of_eq ?_))
  rw [if_pos (by assumption), show xr i = qR r i by unfold xr; rw [hi], qR, if_pos (by assumption : r.shape = 5), hV, hB, hN, hM, (by assumption : yy i = 0)]
  rfl
 ·obtain ⟨V, hV⟩ := Int.eq_ofNat_of_zero_le (Int.emod_nonneg i.imm (show (256 : Int) ≠ 0 by decide))
  refine wh kM ?_
  rw [hV]
  (all_goals refine qgo (Lf.mk ?_))
  refine wh (zlV (a := B ||| N * 256 ||| M * 16) (b := V) rfl rfl (by omega) (by omega)) ?_
  (all_goals refine qgo (Lf.mk ?_))
  refine zd (VS.mk (LeD.of_eq ?_))
  rw [if_pos (by assumption), show xr i = qR r i by unfold xr; rw [hi], qR, if_neg (by assumption : ¬ r.shape = 5), hV, hB, hN, hM, (by assumption : yy i = 0)]
  rfl
theorem zvZ (s : Int) : 0 ≤ zaL s ∧ zaL s ≤ 65535 := by unfold zaL; (repeat' split) <;> omega
def zeR (w : Nat) (r : ka) : Bool := ((w &&& (zaL r.shape).toNat : Nat) : Int) == r.bits
def zbJ (w : Nat) : Option ka := yF.find? (zeR w)
def vK (w : Int) (s : Int) : Int := if s = 1 ∨ s = 4 then zh w 8 else if s = 5 then zh w 12 else if s = 7 ∨ s = 8 ∨ s = 11 then w % 256 else 0
def zgV (w : Int) (r : ka) : Ins := ⟨r.op, if wB r.shape = true then w / 256 % 16 else 0, if wC r.shape = true then w / 16 % 16 else 0, vK w r.shape⟩
def zh1 : Ins := ⟨0, 0, 0, 0⟩
def wm (w : Int) : Ins × Int := if w < 0 ∨ 65535 < w then (zh1, 3) else match zbJ w.toNat with
 | some r => (zgV w r, 0)
 | none => (zh1, 12)
theorem znj : za Tryz.prog zmP (zx (fun _ : Int => True) (fun w => [.int .i64 w]) fun w => .tup [ju (wm w).1, .int .i64 (wm w).2]) := by
 refine zf zj Tryz.func73 rfl (by decide) fun w _ => ?_
 refine ⟨Nat.le_refl _, by simp [Tryz.f73], fun E hE => ?_⟩
 refine ze _ ?_
 (all_goals refine qgo ?_ <;> (repeat' first | exact trivial | intro hc | refine And.intro ?_ ?_) <;> refine Lf.mk ?_)
 ·refine zd (VS.mk (LeD.of_eq ?_))
  rw [show wm w = (zh1, 3) by unfold wm; rw [if_pos (by omega)]]
  rfl
 ·refine zd (VS.mk (LeD.of_eq ?_))
  rw [show wm w = (zh1, 3) by unfold wm; rw [if_pos (by omega)]]
  rfl
 refine zb zbY () trivial (VS.mk (by (first | exact LeL.refl _ | (repeat' (first | exact LeL.nil | exact LeD.refl _ | exact LeD.nil _ | exact LeD.strip _ _ _ | refine LeL.cons ?_ ?_ | refine LeD.tup ?_ | refine LeD.agg ?_))))) ?_
 (all_goals refine qgo (Lf.mk ?_))
 obtain ⟨W, hW⟩ := Int.eq_ofNat_of_zero_le (show 0 ≤ w by omega)
 subst hW
 refine ye (α := Nat) (fun k => k ≤ 27 ∧ ∀ (i : Nat) r, i < k → yF[i]? = some r → zeR W r = false) (fun k => [(16, .sl 4 (yF.map zjd) none), (17, .int .i64 27), (18, .int .i64 k), (0, .int .i64 W), (2, .loc 0 0)])
  (fun _ => [.cells [.int .i64 0, .int .i64 0, .int .i64 0, .int .i64 0]]) (fun k => 27 - k) (fun _ => by simp [hE]) 0 ⟨Nat.zero_le _, by simp⟩ ?_ ?_
 ·(repeat' (first | (refine VS.mk ?_) | exact trivial | exact rfl | refine And.intro ?_ ?_))
  all_goals (rw [wR]; rfl)
 rintro k ⟨hk, hno⟩
 refine ze _ ?_
 (all_goals refine qgo ?_ <;> (repeat' first | exact trivial | intro hc | refine And.intro ?_ ?_) <;> refine Lf.mk ?_)
 ·obtain ⟨r, hr⟩ := yf (l := yF) (k := k) (by rw [wR]; omega)
  refine zk r (by omega) (by simpa using hr) ?_
  (all_goals refine qgo (Lf.mk ?_))
  refine zb zqW r.shape trivial (VS.mk (by (first | exact LeL.refl _ | (repeat' (first | exact LeL.nil | exact LeD.refl _ | exact LeD.nil _ | exact LeD.strip _ _ _ | refine LeL.cons ?_ ?_ | refine LeD.tup ?_ | refine LeD.agg ?_))))) ?_
  have hmb := zvZ r.shape
  obtain ⟨X, hX⟩ := Int.eq_ofNat_of_zero_le hmb.1
  rw [hX]
  (all_goals refine qgo (Lf.mk ?_))
  refine wh (zwP (a := W) (b := X) rfl rfl (by omega) (by omega)) ?_
  have hfit : zeR W r = (((W &&& X : Nat) : Int) == r.bits) := by unfold zeR; rw [hX]; rfl
  (all_goals refine qgo ?_ <;> (repeat' first | exact trivial | intro hc | refine And.intro ?_ ?_) <;> refine Lf.mk ?_)
  ·refine zB (k + 1) ⟨by omega, zgO hno hr (by rw [hfit]; simpa using hc)⟩ (by omega) ?_
   (repeat' (first | (refine VS.mk ?_) | exact trivial | exact rfl | refine And.intro ?_ ?_))
  have hf := zgN hr (by rw [hfit]; simpa using hc) hno
  have hd : wm (W : Int) = (zgV W r, 0) := by
   unfold wm
   rw [if_neg (by omega)]
   simp only [Int.toNat_natCast, zbJ, hf]
  refine zb zje r.shape trivial (VS.mk (by (first | exact LeL.refl _ | (repeat' (first | exact LeL.nil | exact LeD.refl _ | exact LeD.nil _ | exact LeD.strip _ _ _ | refine LeL.cons ?_ ?_ | refine LeD.tup ?_ | refine LeD.agg ?_))))) ?_
  (all_goals refine qgo ?_ <;> (repeat' first | exact trivial | intro hc | refine And.intro ?_ ?_) <;> refine Lf.mk ?_)
  any_goals (first | (exfalso; clear hd hf hno hX hmb hfit; contradiction) | skip)
  any_goals (first | (refine zb zcw (W, 8) (.inl rfl) (VS.mk (LeL.of_eq rfl)) ?_) | (refine zb zcw (W, 12) (.inr (.inl rfl)) (VS.mk (LeL.of_eq rfl)) ?_) | skip)
  (all_goals refine qgo (Lf.mk ?_))
  all_goals (refine zd (VS.mk (LeD.of_eq ?_)); rw [hd])
  all_goals (clear hf hno hX hmb hfit hd; simp_all [ju, zgV, vK])
 ·have hf := zmy hno (by rw [wR]; omega)
  have hd : wm (W : Int) = (zh1, 12) := by
   unfold wm
   rw [if_neg (by omega)]
   simp only [Int.toNat_natCast, zbJ, hf]
  refine zd (VS.mk (LeD.of_eq ?_))
  rw [hd]
  rfl
end Go.Proofs.YtnkdeacghopkiaaGreatDoor
namespace Go.Proofs.YtnkdeacghopkiaaGreatDoor
open Go Go.Plat
set_option linter.unusedVariables false
set_option linter.unusedSimpArgs false
set_option maxRecDepth 100000
set_option maxHeartbeats 2000000
attribute [local irreducible] AWP zA yh zE zn yu z6 zF zX zY zq za zL yv zo zZ yq yr yj ym zr zu zz
theorem znk : za Tryz.prog zcq (zx (fun ds : List D => ds.length ≤ 100000000 ∧ ∀ (i : Nat) d, ds[i]? = some d → d.cells.length = 1) (fun ds => [.sl 1 ds none]) fun ds => .sl 1 ds none) := by
 refine zf zj Tryz.func19 rfl (by decide) ?_
 rintro ds ⟨hds, hlen⟩
 refine ⟨Nat.le_refl _, by simp [Tryz.f19], fun E hE => ?_⟩
 refine ze _ ?_
 (all_goals refine qgo (Lf.mk ?_))
 refine ziz (fun h => ?_) ?_
 ·subst h
  (all_goals refine qgo (Lf.mk ?_))
  exact zd (VS.mk (LeD.nil _))
 (all_goals refine qgo (Lf.mk ?_))
 exact zd (VS.mk (LeD.refl _))
theorem znl : za Tryz.prog ja (zx (fun ds : List D => ds.length ≤ 100000000 ∧ ∀ (i : Nat) d, ds[i]? = some d → d.cells.length = 1) (fun ds => [.sl 1 ds none]) fun ds => .sl 1 ds none) := by
 refine zf zj Tryz.func49 rfl (by decide) ?_
 rintro ds ⟨hds, hlen⟩
 refine ⟨Nat.le_refl _, by simp [Tryz.f49], fun E hE => ?_⟩
 refine ze _ ?_
 (all_goals refine qgo (Lf.mk ?_))
 refine ziz (fun h => ?_) ?_
 ·subst h
  (all_goals refine qgo (Lf.mk ?_))
  exact zd (VS.mk (LeD.nil _))
 (all_goals refine qgo (Lf.mk ?_))
 exact zd (VS.mk (LeD.refl _))
theorem znm : za Tryz.prog jZ (zx (fun ds : List D => ds.length ≤ 100000000 ∧ ∀ (i : Nat) d, ds[i]? = some d → d.cells.length = 2) (fun ds => [.sl 2 ds none]) fun ds => .sl 2 ds none) := by
 refine zf zj Tryz.func54 rfl (by decide) ?_
 rintro ds ⟨hds, hlen⟩
 refine ⟨Nat.le_refl _, by simp [Tryz.f54], fun E hE => ?_⟩
 refine ze _ ?_
 (all_goals refine qgo (Lf.mk ?_))
 refine ziz (fun h => ?_) ?_
 ·subst h
  (all_goals refine qgo (Lf.mk ?_))
  exact zd (VS.mk (LeD.nil _))
 (all_goals refine qgo (Lf.mk ?_))
 exact zd (VS.mk (LeD.refl _))
def qY (b : List UInt8) (i : Int) : Int := if 0 ≤ i ∧ i < b.length then ((b.getD i.toNat 0).toNat : Int) else 0
def yZ (b : List UInt8) (at_ : Int) : Nat → Int
 | 0 => 0
 | k + 1 => yZ b at_ k * 256 + qY b (at_ + k)
theorem kD (b : List UInt8) (i : Int) : 0 ≤ qY b i ∧ qY b i < 256 := by
 unfold qY; split
 ·have := zu7 (b.getD i.toNat 0); omega
 ·omega
theorem zpJ (b : List UInt8) (at_ : Int) : ∀ k, 0 ≤ yZ b at_ k
 | 0 => by simp [yZ]
 | k + 1 => by have := zpJ b at_ k; have := kD b (at_ + k); simp only [yZ]; omega
theorem zv0 (b : List UInt8) (at_ : Int) (k : Nat) (hk : k ≤ 4) : yZ b at_ k ≤ 4294967295 := by
 have h0 := kD b (at_ + (0 : Nat)); have h1 := kD b (at_ + (1 : Nat)); have h2 := kD b (at_ + (2 : Nat)); have h3 := kD b (at_ + (3 : Nat))
 match k, hk with
 | 0, _ => simp [yZ]
 | 1, _ => simp only [yZ]; omega
 | 2, _ => simp only [yZ]; omega
 | 3, _ => simp only [yZ]; omega
 | 4, _ => simp only [yZ]; omega
theorem zdh : za Tryz.prog zrZ (zx (fun ((b, at_, size) : List UInt8 × Int × Nat) => -1000000000000 ≤ at_ ∧ at_ ≤ 1000000000000 ∧ size ≤ 4) (fun (b, at_, size) => [vy b, .int .i64 at_, .int .i64 size])
  fun (b, at_, size) => .int .i64 (yZ b at_ size)) := by
 refine zf zj Tryz.func57 rfl (by decide) ?_
 rintro ⟨b, at_, size⟩ ⟨h1, h2, h4⟩
 refine ⟨Nat.le_refl _, by simp [Tryz.f57], fun E hE => ?_⟩
 refine ze _ ?_
 (all_goals refine qgo (Lf.mk ?_))
 refine ye (α := Nat) (fun k => k ≤ size) (fun k => [(11, .int .i64 k), (10, .int .i64 size), (7, .int .i64 (yZ b at_ k)), (0, vy b), (1, .int .i64 at_)]) (fun _ => []) (fun k => size - k) (fun _ => by simp [hE]) 0 (Nat.zero_le _) ?_ ?_
 ·(repeat' (first | (refine VS.mk ?_) | exact trivial | exact rfl | refine And.intro ?_ ?_))
 intro k hk
 have g0 := zpJ b at_ k
 have g1 := zv0 b at_ k (by omega)
 refine ze _ ?_
 (all_goals refine qgo ?_ <;> (repeat' first | exact trivial | intro hc | refine And.intro ?_ ?_) <;> refine Lf.mk ?_)
 ·have hb : qY b (at_ + k) = ((b.getD (at_ + (k : Int)).toNat 0).toNat : Int) := by unfold qY; rw [if_pos ⟨by omega, by omega⟩]
  have := zu7 (b.getD (at_ + (k : Int)).toNat 0)
  refine wh (zwN (s := 8) rfl g0 (by omega) (by omega) (by omega)) ?_
  (all_goals refine qgo (Lf.mk ?_))
  refine zB (k + 1) (by omega) (by omega) ?_
  (repeat' (first | (refine VS.mk ?_) | exact trivial | exact rfl | refine And.intro ?_ ?_))
  simp [yZ, hb]
 ·refine zB (k + 1) (by omega) (by omega) ?_
  have hb : qY b (at_ + k) = 0 := by unfold qY; rw [if_neg (by omega)]
  (repeat' (first | (refine VS.mk ?_) | exact trivial | exact rfl | refine And.intro ?_ ?_))
  simp [yZ, hb]
 ·refine zB (k + 1) (by omega) (by omega) ?_
  have hb : qY b (at_ + k) = 0 := by unfold qY; rw [if_neg (by omega)]
  (repeat' (first | (refine VS.mk ?_) | exact trivial | exact rfl | refine And.intro ?_ ?_))
  simp [yZ, hb]
 ·obtain rfl : k = size := by omega
  refine yo ?_
  (repeat' (first | (refine VS.mk ?_) | exact trivial | exact rfl | refine And.intro ?_ ?_))
def xh (l : List UInt8) (i : Int) (c : UInt8) : List UInt8 := if 0 ≤ i ∧ i < l.length then l.set i.toNat c else l
def xo (l : List UInt8) (at_ : Int) : Nat → Int → List UInt8
 | 0, _ => l
 | k + 1, n => xo (xh l (at_ + k) (yz n)) at_ k (n / 256)
theorem zkV (l : List UInt8) (i : Int) (c : UInt8) : (xh l i c).length = l.length := by unfold xh; split <;> simp
theorem zcz (at_ : Int) : ∀ (k : Nat) (l : List UInt8) (n : Int), (xo l at_ k n).length = l.length
 | 0, l, n => rfl
 | k + 1, l, n => by rw [xo, zcz, zkV]
theorem zdi : za Tryz.prog zrY (ya (fun ((b, at_, size, n) : List UInt8 × Int × Nat × Int) => -1000000000000 ≤ at_ ∧ at_ ≤ 1000000000000 ∧ size ≤ 1000000000000 ∧ b.length ≤ 1000000000)
  (fun (b, at_, size, n) => [vy b, .int .i64 at_, .int .i64 size, .int .i64 n]) (fun _ => []) (fun (b, at_, size, n) => .sl 1 ((xo b at_ size n).map zI) (some 0)) fun (b, _) => [.spare b.length]) := by
 refine zf zj Tryz.func48 rfl (by decide) ?_
 rintro ⟨b, at_, size, n⟩ ⟨h1, h2, h4, h5⟩
 refine ⟨by simp, by simp [Tryz.f48], fun E hE => ?_⟩
 refine ze _ ?_
 (all_goals refine qga (Lf.mk ?_))
 refine ye (α := Nat × List UInt8 × Int) (fun p => p.1 ≤ size ∧ p.2.1.length = b.length ∧ xo p.2.1 at_ p.1 p.2.2 = xo b at_ size n) (fun p => [(10, .int .i64 ((p.1 : Int) - 1)), (1, .int .i64 at_), (3, .int .i64 p.2.2), (9, .osl 1 0 p.2.1.length 0 p.2.1.length)]) (fun p => [.arr 1 (p.2.1.map zI)]) (fun p => p.1) (fun _ => by simp [hE]) (size, b, n) ⟨Nat.le_refl _, rfl, rfl⟩ ?_ ?_
 ·(repeat' (first | (refine VS.mk ?_) | exact trivial | exact rfl | refine And.intro ?_ ?_))
  ·refine vZ b rfl ?_
   (repeat' (first | (refine VS.mk ?_) | exact trivial | exact rfl | refine And.intro ?_ ?_))
 rintro ⟨k, l, m⟩ ⟨hk, hl, hp⟩
 generalize hj : ((k : Int) - 1) = j at *
 dsimp only at hk hl hp ⊢
 refine ze _ ?_
 have hm8 : (0 : Int) < 256 := by decide
 have hn : 0 ≤ j → xo (xh l (at_ + j) (yz m)) at_ (k - 1) (m / 256) = xo b at_ size n := fun h => by
  rw [← hp]
  obtain ⟨k', rfl⟩ : ∃ k', k = k' + 1 := ⟨k - 1, by omega⟩
  obtain rfl : j = k' := by omega
  rfl
 have hset : ∀ x, (xh l x (yz m)).length = b.length := fun x => by rw [zkV]; exact hl
 (all_goals refine qgo ?_ <;> (repeat' first | exact trivial | intro hc | refine And.intro ?_ ?_) <;> refine Lf.mk ?_)
 ·have hs : xh l (at_ + j) (yz m) = l.set (at_ + j).toNat (yz m) := by unfold xh; rw [if_pos ⟨by omega, by omega⟩]
  refine zB (k - 1, xh l (at_ + j) (yz m), m / 256) ⟨by (dsimp only; omega), hset _, hn (by assumption)⟩ (by dsimp only; omega) ?_
  (repeat' (first | (refine VS.mk ?_) | exact trivial | exact rfl | refine And.intro ?_ ?_))
  ·refine vZ (xh l (at_ + j) (yz m)) ?_ ?_
   ·rw [hs, List.map_set]; simp [zI]
   ·(repeat' (first | (refine VS.mk ?_) | exact trivial | exact rfl | refine And.intro ?_ ?_))
  (all_goals (first | rfl | (dsimp only; congr 1; omega) | (dsimp only; simp; done) | (dsimp only; simp; omega) | skip))
  all_goals (dsimp only; rw [hset, hl])
 ·have hs : xh l (at_ + j) (yz m) = l := by unfold xh; rw [if_neg (by omega)]
  refine zB (k - 1, xh l (at_ + j) (yz m), m / 256) ⟨by (dsimp only; omega), hset _, hn (by assumption)⟩ (by dsimp only; omega) ?_
  (repeat' (first | (refine VS.mk ?_) | exact trivial | exact rfl | refine And.intro ?_ ?_))
  ·refine vZ (xh l (at_ + j) (yz m)) (by rw [hs]) ?_
   (repeat' (first | (refine VS.mk ?_) | exact trivial | exact rfl | refine And.intro ?_ ?_))
  (all_goals (first | rfl | (dsimp only; congr 1; omega) | (dsimp only; simp; done) | (dsimp only; simp; omega) | skip))
  all_goals (dsimp only; rw [hset, hl])
 ·have hs : xh l (at_ + j) (yz m) = l := by unfold xh; rw [if_neg (by omega)]
  refine zB (k - 1, xh l (at_ + j) (yz m), m / 256) ⟨by (dsimp only; omega), hset _, hn (by assumption)⟩ (by dsimp only; omega) ?_
  (repeat' (first | (refine VS.mk ?_) | exact trivial | exact rfl | refine And.intro ?_ ?_))
  ·refine vZ (xh l (at_ + j) (yz m)) (by rw [hs]) ?_
   (repeat' (first | (refine VS.mk ?_) | exact trivial | exact rfl | refine And.intro ?_ ?_))
  (all_goals (first | rfl | (dsimp only; congr 1; omega) | (dsimp only; simp; done) | (dsimp only; simp; omega) | skip))
  all_goals (dsimp only; rw [hset, hl])
 ·obtain rfl : k = 0 := by omega
  have hp : l = xo b at_ size n := hp
  refine zhR (k := 0) l rfl rfl (Nat.le_refl _) (Nat.zero_le _) (r1 := .sl 1 (l.map zI) (some 1)) (.here _ _ (by simp) (by simp)) ?_
  refine yR [1] rfl rfl ?_
  (repeat' (first | (refine VS.mk ?_) | exact trivial | exact rfl | refine And.intro ?_ ?_))
  ·rw [hp]
  ·rw [hl]
structure zC where
 name : List UInt8
 at_ : Int
 deriving DecidableEq
def yK (s : zC) : D := .agg [.str s.name, .int .i64 s.at_]
structure zab where
 base : Int
 bytes : List UInt8
 syms : List zC
 deriving DecidableEq
def zj8 (i : zab) : D := .agg [.int .i64 i.base, vy i.bytes, .sl 2 (i.syms.map yK) none]
def zaM : zab := ⟨0, [], []⟩
end Go.Proofs.YtnkdeacghopkiaaGreatDoor
