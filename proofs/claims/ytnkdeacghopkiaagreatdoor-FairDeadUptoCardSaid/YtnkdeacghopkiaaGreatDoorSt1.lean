/-
  A part of the proof: what the given program's functions answer, each once; conditions that are enough for it.
-/
import Derived.Test.YtnkdeacghopkiaaGreatDoorProg
import Derived.KernelRfl
import Derived.Test.YtnkdeacghopkiaaGreatDoorFw3
import Derived.Lib.LaidTab
import Derived.Sort.Grow
import Derived.Deep.Draws
import Derived.Below
import Derived.Shelf.Utf8.RuneCount
import Derived.Shelf.Strconv.Itoa0
import Derived.Shelf.Strconv.Itoa1
import Derived.Shelf.LaysM
import Derived.Shelf.Strconv.Itoa2
import Derived.Shelf.Strconv.Itoa3
import Derived.Shelf.Strconv.Clone
import Derived.Shelf.Strconv.SyntaxError
import Derived.Shelf.Strconv.Lower
import Derived.Shelf.Strconv.ParseUint10
import Derived.Shelf.Strconv.ParseUint10Empty
import Derived.Shelf.Strconv.RangeError
import Derived.Shelf.Strconv.ParseUintEmpty
import Derived.Shelf.Strconv.ParseUint10b64
import Derived.Shelf.Strings.Search1
import Derived.Shelf.Strings.Search2
import Derived.Shelf.Strings.Search3
import Derived.Shelf.Strings.Cut
import Derived.Shelf.Strings.Count
import Derived.Shelf.Strings.Shaped
import Derived.Shelf.Unicode.DecodeSlow
namespace Go.Proofs.YtnkdeacghopkiaaGreatDoor
open Go Go.Plat
set_option maxRecDepth 100000
theorem yW.of {P : Program} {t : Nat} {i : TI} (h1 : (P.underlying t).map qG = some i.d) (h2 : (P.info? t).map (fun x => (x.size, x.bytes, x.zero)) = some (i.size, i.bytes, some i.zero)) (h3 : Nat.beq i.size 0 = false) (h3b : Nat.beq i.bytes 0 = false) (h4 : Nat.beq i.zero.cells.size i.size = true)
  (h5 : (match P.underlying t with | some (.struct fs) => fs.toList.all fun f => (P.info? f.type).isSome | _ => true) = true) : yW P t i where
 under := by
  cases h : P.underlying t with
  | none => rw [h] at h1; cases h1
  | some d => rw [h] at h1; exact ⟨d, rfl, by simpa using h1⟩
 info := by
  cases h : P.info? t with
  | none => rw [h] at h2; cases h2
  | some x => rw [h] at h2; simp at h2; exact ⟨x, rfl, h2.1, h2.2.1, h2.2.2⟩
 pos := by intro h; rw [h] at h3; simp at h3
 bpos := by intro h; rw [h] at h3b; simp at h3b
 szero := Nat.eq_of_beq_eq_true h4
 fin := h5
theorem zM.of {P : Program} : ∀ {l : Tab}, l.map (fun p => ((P.underlying p.1).map qG, (P.info? p.1).map fun x => (x.size, x.bytes, x.zero))) = l.map (fun p => (some p.2.d, some (p.2.size, p.2.bytes, some p.2.zero))) →
  l.all (fun p => !Nat.beq p.2.size 0 && !Nat.beq p.2.bytes 0 && Nat.beq p.2.zero.cells.size p.2.size && (match P.underlying p.1 with | some (.struct fs) => fs.toList.all fun f => (P.info? f.type).isSome | _ => true)) = true → zM P l
 | [], _, _ => .nil _
 | (t, i) :: l, h, g => by
  rw [List.map_cons, List.map_cons] at h
  injection h with h1 h2
  rw [Prod.mk.injEq] at h1
  rw [List.all_cons, Bool.and_eq_true] at g
  obtain ⟨g1, g2⟩ := g
  simp only [Bool.and_eq_true, Bool.not_eq_true'] at g1
  obtain ⟨⟨⟨a, b⟩, c⟩, d⟩ := g1
  exact .cons (yW.of h1.1 h1.2 a b c d) (zM.of h2 g2)
def tab : Tab := [
(3, ⟨(.int .i64), 1, 8, (.int .i64 0)⟩),
(4, ⟨.bool, 1, 1, (.bool false)⟩),
(5, ⟨(.int .u8), 1, 1, (.int .u8 0)⟩),
(9, ⟨.str, 1, 16, (.string ⟨#[]⟩)⟩),
(36, ⟨(.slice 5), 1, 24, (.slice none 0 0)⟩),
(2, ⟨(.int .i64), 1, 8, (.int .i64 0)⟩),
(12, ⟨(.int .u64), 1, 8, (.int .u64 0)⟩),
(20, ⟨.iface, 1, 16, .nilIface⟩),
(21, ⟨(.int .i32), 1, 4, (.int .i32 0)⟩),
(22, ⟨(.slice 36), 1, 24, (.slice none 0 0)⟩),
(24, ⟨(.slice 40), 1, 24, (.slice none 0 0)⟩),
(25, ⟨(.slice 4), 1, 24, (.slice none 0 0)⟩),
(26, ⟨(.struct [(0, 3), (1, 24), (2, 25), (3, 22)]), 4, 80, (.agg #[(.int .i64 0), (.slice none 0 0), (.slice none 0 0), (.slice none 0 0)])⟩),
(27, ⟨(.struct [(0, 3), (1, 24), (2, 25), (3, 22)]), 4, 80, (.agg #[(.int .i64 0), (.slice none 0 0), (.slice none 0 0), (.slice none 0 0)])⟩),
(28, ⟨(.int .i64), 1, 8, (.int .i64 0)⟩),
(32, ⟨(.struct [(0, 3), (1, 3)]), 2, 16, (.agg #[(.int .i64 0), (.int .i64 0)])⟩),
(33, ⟨(.struct [(0, 3), (1, 3)]), 2, 16, (.agg #[(.int .i64 0), (.int .i64 0)])⟩),
(37, ⟨(.struct [(0, 28), (1, 3)]), 2, 16, (.agg #[(.int .i64 0), (.int .i64 0)])⟩),
(38, ⟨(.struct [(0, 28), (1, 3)]), 2, 16, (.agg #[(.int .i64 0), (.int .i64 0)])⟩),
(39, ⟨(.struct [(0, 36), (1, 3), (2, 3), (3, 3), (4, 4), (5, 36), (6, 38)]), 8, 96, (.agg #[(.slice none 0 0), (.int .i64 0), (.int .i64 0), (.int .i64 0), (.bool false), (.slice none 0 0), (.int .i64 0), (.int .i64 0)])⟩),
(40, ⟨(.struct [(0, 36), (1, 3), (2, 3), (3, 3), (4, 4), (5, 36), (6, 38)]), 8, 96, (.agg #[(.slice none 0 0), (.int .i64 0), (.int .i64 0), (.int .i64 0), (.bool false), (.slice none 0 0), (.int .i64 0), (.int .i64 0)])⟩),
(42, ⟨(.slice 3), 1, 24, (.slice none 0 0)⟩),
(47, ⟨(.slice 33), 1, 24, (.slice none 0 0)⟩),
(48, ⟨(.slice 28), 1, 24, (.slice none 0 0)⟩),
(51, ⟨(.slice 106), 1, 24, (.slice none 0 0)⟩),
(52, ⟨(.struct [(0, 3), (1, 36), (2, 51)]), 3, 56, (.agg #[(.int .i64 0), (.slice none 0 0), (.slice none 0 0)])⟩),
(53, ⟨(.struct [(0, 3), (1, 36), (2, 51)]), 3, 56, (.agg #[(.int .i64 0), (.slice none 0 0), (.slice none 0 0)])⟩),
(56, ⟨(.arr 16 3), 16, 128, (.agg #[(.int .i64 0), (.int .i64 0), (.int .i64 0), (.int .i64 0), (.int .i64 0), (.int .i64 0), (.int .i64 0), (.int .i64 0), (.int .i64 0), (.int .i64 0), (.int .i64 0), (.int .i64 0), (.int .i64 0), (.int .i64 0), (.int .i64 0), (.int .i64 0)])⟩),
(57, ⟨(.struct [(0, 56), (16, 4), (17, 3), (18, 3), (19, 53), (22, 42), (23, 3)]), 24, 240, (.agg #[(.int .i64 0), (.int .i64 0), (.int .i64 0), (.int .i64 0), (.int .i64 0), (.int .i64 0), (.int .i64 0), (.int .i64 0), (.int .i64 0), (.int .i64 0), (.int .i64 0), (.int .i64 0), (.int .i64 0), (.int .i64 0), (.int .i64 0), (.int .i64 0), (.bool false), (.int .i64 0), (.int .i64 0), (.int .i64 0), (.slice none 0 0), (.slice none 0 0), (.slice none 0 0), (.int .i64 0)])⟩),
(58, ⟨(.struct [(0, 56), (16, 4), (17, 3), (18, 3), (19, 53), (22, 42), (23, 3)]), 24, 240, (.agg #[(.int .i64 0), (.int .i64 0), (.int .i64 0), (.int .i64 0), (.int .i64 0), (.int .i64 0), (.int .i64 0), (.int .i64 0), (.int .i64 0), (.int .i64 0), (.int .i64 0), (.int .i64 0), (.int .i64 0), (.int .i64 0), (.int .i64 0), (.int .i64 0), (.bool false), (.int .i64 0), (.int .i64 0), (.int .i64 0), (.slice none 0 0), (.slice none 0 0), (.slice none 0 0), (.int .i64 0)])⟩),
(67, ⟨(.ptr 27), 1, 8, (.pointer none)⟩),
(70, ⟨(.slice 9), 1, 24, (.slice none 0 0)⟩),
(74, ⟨(.slice 77), 1, 24, (.slice none 0 0)⟩),
(75, ⟨(.slice 109), 1, 24, (.slice none 0 0)⟩),
(76, ⟨(.struct [(0, 36), (1, 51), (2, 75)]), 3, 72, (.agg #[(.slice none 0 0), (.slice none 0 0), (.slice none 0 0)])⟩),
(77, ⟨(.struct [(0, 36), (1, 51), (2, 75)]), 3, 72, (.agg #[(.slice none 0 0), (.slice none 0 0), (.slice none 0 0)])⟩),
(86, ⟨(.ptr 40), 1, 8, (.pointer none)⟩),
(89, ⟨(.struct [(0, 3), (1, 3), (2, 3), (3, 3), (4, 38), (6, 36)]), 7, 72, (.agg #[(.int .i64 0), (.int .i64 0), (.int .i64 0), (.int .i64 0), (.int .i64 0), (.int .i64 0), (.slice none 0 0)])⟩),
(90, ⟨(.struct [(0, 3), (1, 3), (2, 3), (3, 3), (4, 38), (6, 36)]), 7, 72, (.agg #[(.int .i64 0), (.int .i64 0), (.int .i64 0), (.int .i64 0), (.int .i64 0), (.int .i64 0), (.slice none 0 0)])⟩),
(94, ⟨(.ptr 90), 1, 8, (.pointer none)⟩),
(100, ⟨(.ptr 102), 1, 8, (.pointer none)⟩),
(101, ⟨(.struct [(0, 36), (1, 4)]), 2, 32, (.agg #[(.slice none 0 0), (.bool false)])⟩),
(102, ⟨(.struct [(0, 36), (1, 4)]), 2, 32, (.agg #[(.slice none 0 0), (.bool false)])⟩),
(105, ⟨(.struct [(0, 9), (1, 3)]), 2, 24, (.agg #[(.string ⟨#[]⟩), (.int .i64 0)])⟩),
(106, ⟨(.struct [(0, 9), (1, 3)]), 2, 24, (.agg #[(.string ⟨#[]⟩), (.int .i64 0)])⟩),
(108, ⟨(.struct [(0, 3), (1, 3), (2, 9), (3, 3)]), 4, 40, (.agg #[(.int .i64 0), (.int .i64 0), (.string ⟨#[]⟩), (.int .i64 0)])⟩),
(109, ⟨(.struct [(0, 3), (1, 3), (2, 9), (3, 3)]), 4, 40, (.agg #[(.int .i64 0), (.int .i64 0), (.string ⟨#[]⟩), (.int .i64 0)])⟩),
(116, ⟨(.struct [(0, 3), (1, 3), (2, 3), (3, 3)]), 4, 32, (.agg #[(.int .i64 0), (.int .i64 0), (.int .i64 0), (.int .i64 0)])⟩),
(117, ⟨(.struct [(0, 3), (1, 3), (2, 3), (3, 3)]), 4, 32, (.agg #[(.int .i64 0), (.int .i64 0), (.int .i64 0), (.int .i64 0)])⟩),
(120, ⟨(.ptr 58), 1, 8, (.pointer none)⟩),
(131, ⟨(.arr 24 5), 24, 24, (.agg #[(.int .u8 0), (.int .u8 0), (.int .u8 0), (.int .u8 0), (.int .u8 0), (.int .u8 0), (.int .u8 0), (.int .u8 0), (.int .u8 0), (.int .u8 0), (.int .u8 0), (.int .u8 0), (.int .u8 0), (.int .u8 0), (.int .u8 0), (.int .u8 0), (.int .u8 0), (.int .u8 0), (.int .u8 0), (.int .u8 0), (.int .u8 0), (.int .u8 0), (.int .u8 0), (.int .u8 0)])⟩),
(132, ⟨(.int .u64), 1, 8, (.int .u64 0)⟩),
(137, ⟨(.slice 167), 1, 24, (.slice none 0 0)⟩),
(140, ⟨(.slice 250), 1, 24, (.slice none 0 0)⟩),
(144, ⟨(.map 9 4), 1, 8, (.map none)⟩),
(149, ⟨(.int .u64), 1, 8, (.int .u64 0)⟩),
(152, ⟨(.ptr 3), 1, 8, (.pointer none)⟩),
(158, ⟨(.arr 20 132), 20, 160, (.agg #[(.int .u64 0), (.int .u64 0), (.int .u64 0), (.int .u64 0), (.int .u64 0), (.int .u64 0), (.int .u64 0), (.int .u64 0), (.int .u64 0), (.int .u64 0), (.int .u64 0), (.int .u64 0), (.int .u64 0), (.int .u64 0), (.int .u64 0), (.int .u64 0), (.int .u64 0), (.int .u64 0), (.int .u64 0), (.int .u64 0)])⟩),
(159, ⟨(.int .u32), 1, 4, (.int .u32 0)⟩),
(163, ⟨(.slice 204), 1, 24, (.slice none 0 0)⟩),
(166, ⟨(.struct [(0, 3), (1, 163)]), 2, 32, (.agg #[(.int .i64 0), (.slice none 0 0)])⟩),
(167, ⟨(.struct [(0, 3), (1, 163)]), 2, 32, (.agg #[(.int .i64 0), (.slice none 0 0)])⟩),
(168, ⟨(.ptr 171), 1, 8, (.pointer none)⟩),
(169, ⟨(.slice 213), 1, 24, (.slice none 0 0)⟩),
(170, ⟨(.struct [(0, 169), (1, 140), (2, 137), (3, 3), (4, 38)]), 6, 96, (.agg #[(.slice none 0 0), (.slice none 0 0), (.slice none 0 0), (.int .i64 0), (.int .i64 0), (.int .i64 0)])⟩),
(171, ⟨(.struct [(0, 169), (1, 140), (2, 137), (3, 3), (4, 38)]), 6, 96, (.agg #[(.slice none 0 0), (.slice none 0 0), (.slice none 0 0), (.int .i64 0), (.int .i64 0), (.int .i64 0)])⟩),
(173, ⟨(.ptr 177), 1, 8, (.pointer none)⟩),
(174, ⟨(.slice 185), 1, 24, (.slice none 0 0)⟩),
(175, ⟨(.slice 229), 1, 24, (.slice none 0 0)⟩),
(176, ⟨(.struct [(0, 140), (1, 174), (2, 51), (3, 42), (4, 175), (5, 3), (6, 77), (9, 38)]), 11, 216, (.agg #[(.slice none 0 0), (.slice none 0 0), (.slice none 0 0), (.slice none 0 0), (.slice none 0 0), (.int .i64 0), (.slice none 0 0), (.slice none 0 0), (.slice none 0 0), (.int .i64 0), (.int .i64 0)])⟩),
(177, ⟨(.struct [(0, 140), (1, 174), (2, 51), (3, 42), (4, 175), (5, 3), (6, 77), (9, 38)]), 11, 216, (.agg #[(.slice none 0 0), (.slice none 0 0), (.slice none 0 0), (.slice none 0 0), (.slice none 0 0), (.int .i64 0), (.slice none 0 0), (.slice none 0 0), (.slice none 0 0), (.int .i64 0), (.int .i64 0)])⟩),
(181, ⟨(.ptr 185), 1, 8, (.pointer none)⟩),
(182, ⟨(.struct [(0, 9), (1, 3)]), 2, 24, (.agg #[(.string ⟨#[]⟩), (.int .i64 0)])⟩),
(183, ⟨(.struct [(0, 9), (1, 3)]), 2, 24, (.agg #[(.string ⟨#[]⟩), (.int .i64 0)])⟩),
(184, ⟨(.struct [(0, 3), (1, 3), (2, 3), (3, 117), (7, 4), (8, 3), (9, 183), (11, 3), (12, 3)]), 13, 112, (.agg #[(.int .i64 0), (.int .i64 0), (.int .i64 0), (.int .i64 0), (.int .i64 0), (.int .i64 0), (.int .i64 0), (.bool false), (.int .i64 0), (.string ⟨#[]⟩), (.int .i64 0), (.int .i64 0), (.int .i64 0)])⟩),
(185, ⟨(.struct [(0, 3), (1, 3), (2, 3), (3, 117), (7, 4), (8, 3), (9, 183), (11, 3), (12, 3)]), 13, 112, (.agg #[(.int .i64 0), (.int .i64 0), (.int .i64 0), (.int .i64 0), (.int .i64 0), (.int .i64 0), (.int .i64 0), (.bool false), (.int .i64 0), (.string ⟨#[]⟩), (.int .i64 0), (.int .i64 0), (.int .i64 0)])⟩),
(187, ⟨(.slice 190), 1, 24, (.slice none 0 0)⟩),
(189, ⟨(.struct [(0, 3), (1, 9), (2, 3), (3, 3)]), 4, 40, (.agg #[(.int .i64 0), (.string ⟨#[]⟩), (.int .i64 0), (.int .i64 0)])⟩),
(190, ⟨(.struct [(0, 3), (1, 9), (2, 3), (3, 3)]), 4, 40, (.agg #[(.int .i64 0), (.string ⟨#[]⟩), (.int .i64 0), (.int .i64 0)])⟩),
(199, ⟨(.ptr 201), 1, 8, (.pointer none)⟩),
(200, ⟨(.struct [(0, 9), (1, 3)]), 2, 24, (.agg #[(.string ⟨#[]⟩), (.int .i64 0)])⟩),
(201, ⟨(.struct [(0, 9), (1, 3)]), 2, 24, (.agg #[(.string ⟨#[]⟩), (.int .i64 0)])⟩),
(203, ⟨(.struct [(0, 3), (1, 3), (2, 9)]), 3, 32, (.agg #[(.int .i64 0), (.int .i64 0), (.string ⟨#[]⟩)])⟩),
(204, ⟨(.struct [(0, 3), (1, 3), (2, 9)]), 3, 32, (.agg #[(.int .i64 0), (.int .i64 0), (.string ⟨#[]⟩)])⟩),
(212, ⟨(.struct [(0, 9), (1, 70), (2, 137)]), 3, 64, (.agg #[(.string ⟨#[]⟩), (.slice none 0 0), (.slice none 0 0)])⟩),
(213, ⟨(.struct [(0, 9), (1, 70), (2, 137)]), 3, 64, (.agg #[(.string ⟨#[]⟩), (.slice none 0 0), (.slice none 0 0)])⟩),
(216, ⟨(.ptr 218), 1, 8, (.pointer none)⟩),
(217, ⟨(.struct [(0, 173), (1, 163), (2, 3)]), 3, 40, (.agg #[(.pointer none), (.slice none 0 0), (.int .i64 0)])⟩),
(218, ⟨(.struct [(0, 173), (1, 163), (2, 3)]), 3, 40, (.agg #[(.pointer none), (.slice none 0 0), (.int .i64 0)])⟩),
(219, ⟨(.slice 260), 1, 24, (.slice none 0 0)⟩),
(229, ⟨(.slice 183), 1, 24, (.slice none 0 0)⟩),
(239, ⟨.iface, 1, 16, .nilIface⟩),
(240, ⟨.iface, 1, 16, .nilIface⟩),
(250, ⟨(.struct [(0, 9), (1, 3)]), 2, 24, (.agg #[(.string ⟨#[]⟩), (.int .i64 0)])⟩),
(254, ⟨(.slice 163), 1, 24, (.slice none 0 0)⟩),
(259, ⟨(.struct [(0, 9), (1, 3), (2, 183)]), 4, 48, (.agg #[(.string ⟨#[]⟩), (.int .i64 0), (.string ⟨#[]⟩), (.int .i64 0)])⟩),
(260, ⟨(.struct [(0, 9), (1, 3), (2, 183)]), 4, 48, (.agg #[(.string ⟨#[]⟩), (.int .i64 0), (.string ⟨#[]⟩), (.int .i64 0)])⟩),
(265, ⟨(.map 3 3), 1, 8, (.map none)⟩),
(275, ⟨(.slice 277), 1, 24, (.slice none 0 0)⟩),
(276, ⟨(.struct [(0, 3), (1, 3), (2, 9), (3, 275)]), 4, 56, (.agg #[(.int .i64 0), (.int .i64 0), (.string ⟨#[]⟩), (.slice none 0 0)])⟩),
(277, ⟨(.struct [(0, 3), (1, 3), (2, 9), (3, 275)]), 4, 56, (.agg #[(.int .i64 0), (.int .i64 0), (.string ⟨#[]⟩), (.slice none 0 0)])⟩),
(286, ⟨(.ptr 229), 1, 8, (.pointer none)⟩),
(288, ⟨(.int .i64), 1, 8, (.int .i64 0)⟩),
(290, ⟨(.ptr 306), 1, 8, (.pointer none)⟩),
(293, ⟨(.ptr 295), 1, 8, (.pointer none)⟩),
(294, ⟨(.struct [(0, 163), (1, 28)]), 2, 32, (.agg #[(.slice none 0 0), (.int .i64 0)])⟩),
(295, ⟨(.struct [(0, 163), (1, 28)]), 2, 32, (.agg #[(.slice none 0 0), (.int .i64 0)])⟩),
(299, ⟨(.struct [(0, 5), (1, 5)]), 2, 2, (.agg #[(.int .u8 0), (.int .u8 0)])⟩),
(300, ⟨(.struct [(0, 5), (1, 5)]), 2, 2, (.agg #[(.int .u8 0), (.int .u8 0)])⟩),
(301, ⟨(.arr 16 300), 32, 32, (.agg #[(.int .u8 0), (.int .u8 0), (.int .u8 0), (.int .u8 0), (.int .u8 0), (.int .u8 0), (.int .u8 0), (.int .u8 0), (.int .u8 0), (.int .u8 0), (.int .u8 0), (.int .u8 0), (.int .u8 0), (.int .u8 0), (.int .u8 0), (.int .u8 0), (.int .u8 0), (.int .u8 0), (.int .u8 0), (.int .u8 0), (.int .u8 0), (.int .u8 0), (.int .u8 0), (.int .u8 0), (.int .u8 0), (.int .u8 0), (.int .u8 0), (.int .u8 0), (.int .u8 0), (.int .u8 0), (.int .u8 0), (.int .u8 0)])⟩),
(305, ⟨(.struct [(0, 9), (1, 9), (2, 240)]), 3, 48, (.agg #[(.string ⟨#[]⟩), (.string ⟨#[]⟩), .nilIface])⟩),
(306, ⟨(.struct [(0, 9), (1, 9), (2, 240)]), 3, 48, (.agg #[(.string ⟨#[]⟩), (.string ⟨#[]⟩), .nilIface])⟩),
(308, ⟨(.slice 313), 1, 24, (.slice none 0 0)⟩),
(312, ⟨(.struct [(0, 70), (1, 42)]), 2, 48, (.agg #[(.slice none 0 0), (.slice none 0 0)])⟩),
(313, ⟨(.struct [(0, 70), (1, 42)]), 2, 48, (.agg #[(.slice none 0 0), (.slice none 0 0)])⟩),
(317, ⟨(.ptr 5), 1, 8, (.pointer none)⟩),
(318, ⟨(.ptr 320), 1, 8, (.pointer none)⟩),
(319, ⟨(.struct [(0, 9)]), 1, 16, (.agg #[(.string ⟨#[]⟩)])⟩),
(320, ⟨(.struct [(0, 9)]), 1, 16, (.agg #[(.string ⟨#[]⟩)])⟩)]
theorem zi : zM Tryz.prog tab := zM.of (by kernel_rfl) (by kernel_rfl)
theorem mixed : Tryz.prog.follows .mixedOrders = true := by kernel_rfl
theorem zb {n : Nat} {E : y3} (c : Code) {Q : Ex → List (Nat × D) → List Ob → Prop} {σ : List (Nat × D)} {L : List Ob} (h : vcK Tryz.prog tab n E c Q σ L) : AWP Tryz.prog n E c Q σ L := zaE zi mixed c h
abbrev xQ : Nat := 3
abbrev zh3 : Nat := 6
abbrev zpz : Nat := 7
abbrev zqU : Nat := 8
abbrev zkz : Nat := 9
abbrev zja : Nat := 11
abbrev znB : Nat := 13
abbrev zlN : Nat := 17
abbrev znC : Nat := 18
abbrev zbW : Nat := 19
abbrev zh4 : Nat := 20
abbrev znD : Nat := 21
abbrev qB : Nat := 22
abbrev znE : Nat := 23
abbrev zbX : Nat := 33
abbrev znF : Nat := 34
abbrev zpA : Nat := 35
abbrev zlO : Nat := 36
abbrev znG : Nat := 37
abbrev zpB : Nat := 39
abbrev znH : Nat := 40
abbrev ko : Nat := 41
abbrev zlP : Nat := 45
abbrev zqV : Nat := 48
abbrev zkA : Nat := 55
abbrev zlQ : Nat := 56
abbrev zqW : Nat := 57
abbrev zpC : Nat := 58
abbrev zlR : Nat := 59
abbrev znI : Nat := 60
abbrev zlS : Nat := 65
abbrev zjb : Nat := 66
abbrev znJ : Nat := 67
abbrev zgq : Nat := 68
abbrev zlT : Nat := 69
abbrev kq : Nat := 70
abbrev zqX : Nat := 77
abbrev zpD : Nat := 78
abbrev zh5 : Nat := 84
abbrev zkB : Nat := 85
abbrev zep : Nat := 86
abbrev zaG : Nat := 87
abbrev zaH : Nat := 88
abbrev zeq : Nat := 89
abbrev ze2 : Nat := 90
abbrev zkC : Nat := 91
abbrev zlU : Nat := 92
abbrev zpE : Nat := 93
abbrev zpF : Nat := 95
abbrev zpG : Nat := 96
abbrev ze3 : Nat := 99
abbrev zkD : Nat := 100
abbrev zgb : Nat := 101
abbrev zh6 : Nat := 102
abbrev zh7 : Nat := 103
abbrev zdQ : Nat := 104
abbrev ze4 : Nat := 105
abbrev zlV : Nat := 107
abbrev ze5 : Nat := 110
abbrev zpH : Nat := 112
abbrev jL : Nat := 113
abbrev vv : Nat := 114
abbrev zbY : Nat := 115
abbrev zaI : Nat := 116
abbrev jM : Nat := 117
abbrev jN : Nat := 118
abbrev ku : Nat := 119
abbrev jO : Nat := 120
abbrev wR : Nat := 121
abbrev zpI : Nat := 122
abbrev zaJ : Nat := 123
abbrev zaK : Nat := 124
abbrev zss : Nat := 125
abbrev zaL : Nat := 126
abbrev qS : Nat := 127
abbrev jx : Nat := 128
abbrev zaM : Nat := 129
abbrev zaN : Nat := 130
abbrev zh8 : Nat := 132
abbrev zh9 : Nat := 133
abbrev za9 : Nat := 134
abbrev zcS : Nat := 135
abbrev zer : Nat := 136
abbrev ze6 : Nat := 137
abbrev zes : Nat := 138
abbrev qE : Nat := 143
abbrev j8 : Nat := 148
abbrev zjc : Nat := 149
abbrev qF : Nat := 150
abbrev jf : Nat := 151
abbrev jg : Nat := 152
abbrev zbZ : Nat := 153
abbrev zbf : Nat := 154
abbrev vY : Nat := 155
abbrev zlW : Nat := 156
abbrev zia : Nat := 157
abbrev znK : Nat := 158
abbrev zaO : Nat := 159
abbrev vN : Nat := 160
abbrev znL : Nat := 161
abbrev zlX : Nat := 162
abbrev j9 : Nat := 166
abbrev zaa : Nat := 167
abbrev zgc : Nat := 168
abbrev kY : Nat := 169
abbrev zlY : Nat := 171
abbrev znM : Nat := 172
abbrev wL : Nat := 173
abbrev zjd : Nat := 174
abbrev zaP : Nat := 175
abbrev kv : Nat := 176
abbrev zb0 : Nat := 182
abbrev zdb : Nat := 184
abbrev zdR : Nat := 185
abbrev zg4 : Nat := 188
abbrev zba : Nat := 189
abbrev zpJ : Nat := 190
abbrev zcg : Nat := 191
abbrev zkE : Nat := 196
abbrev zgd : Nat := 197
abbrev ze7 : Nat := 198
abbrev zkF : Nat := 199
abbrev ze8 : Nat := 201
end Go.Proofs.YtnkdeacghopkiaaGreatDoor
namespace Go.Proofs.YtnkdeacghopkiaaGreatDoor
open Go Go.Plat
set_option linter.unusedVariables false
set_option linter.unusedSimpArgs false
set_option maxRecDepth 100000
set_option maxHeartbeats 2000000
attribute [local irreducible] AWP zN yv zU zo yC yh zG yb yf zx za zY yz zr yg yx yy yn yo zw zy zT
structure Msg where
 kind : Int
 worker : Int
 unit : Int
 turn : Int
 err : Int
 at_ : Int
 data : List UInt8
def zlZ (m : Msg) : D := .agg [.int .i64 m.kind, .int .i64 m.worker, .int .i64 m.unit, .int .i64 m.turn, .int .i64 m.err, .int .i64 m.at_, zm m.data]
def yT (m : Msg) : Int :=
 if m.kind < 1 ∨ 3 < m.kind then 1
 else if m.worker < 0 ∨ 3 ≤ m.worker ∨ m.unit < 0 ∨ 4 ≤ m.unit ∨ m.turn < 0 ∨ 65535 < m.turn then 3
 else if m.kind = 3 ∧ (m.err ≤ 0 ∨ 14 < m.err ∨ m.at_ < 0 ∨ 65535 < m.at_ ∨ 0 < m.data.length) then 8
 else if m.kind ≠ 3 ∧ ¬ (m.err = 0 ∧ m.at_ = 0) then 8
 else if 1048576 < m.data.length then 4 else 0
theorem zgr : za Tryz.prog zlR (zz (fun _ => True) (fun m : Msg => [zlZ m]) fun m => .int .i64 (yT m)) := by
 refine ze zi Tryz.func59 rfl (by decide) fun m _ => ?_
 refine ⟨Nat.le_refl _, by simp [Tryz.f59], fun E hE => ?_⟩
 refine zb _ ?_
 (all_goals refine qgo ?_ <;> (repeat' first | exact trivial | intro hc | refine And.intro ?_ ?_) <;> refine Lf.mk ?_)
 any_goals (refine zlc [.int .i64, .int .i64] (by kernel_rfl) rfl ?_)
 (all_goals refine qgo ?_ <;> (repeat' first | exact trivial | intro hc | refine And.intro ?_ ?_) <;> refine Lf.mk ?_)
 all_goals (refine yk ?_)
 (repeat' (first | (refine VS.mk ?_) | exact trivial | exact rfl | refine And.intro ?_ ?_))
 all_goals (congr 1; unfold yT; (repeat' split) <;> omega)
def zbx (s : Int) (b : List UInt8) : Int := b.foldl (fun s c => (s * 31 + (c.toNat : Int) + 1) % 65521) s
def vZ (b : List UInt8) : Int := zbx 1 b
theorem zbl : ∀ (b : List UInt8) (s : Int), 0 ≤ s → s < 65521 → 0 ≤ zbx s b ∧ zbx s b < 65521
 | [], s, h1, h2 => ⟨h1, h2⟩
 | c :: b, s, h1, h2 => zbl b _ (Int.emod_nonneg _ (by decide)) (Int.emod_lt_of_pos _ (by decide))
theorem zl0 (b : List UInt8) (s : Int) (k : Nat) (hk : k < b.length) : zbx s (b.take (k + 1)) = (zbx s (b.take k) * 31 + ((b.getD k 0).toNat : Int) + 1) % 65521 := by
 rw [List.take_succ_eq_append_getElem hk]
 simp only [zbx, List.foldl_append, List.foldl_cons, List.foldl_nil, List.getD_eq_getElem?_getD, List.getElem?_eq_getElem hk, Option.getD_some]
theorem ze9 : za Tryz.prog zpC (zz (fun b => b.length ≤ 1000000000) (fun b => [zm b]) fun b => .int .i64 (vZ b)) := by
 refine ze zi Tryz.func58 rfl (by decide) fun b hb => ?_
 refine ⟨Nat.le_refl _, by simp [Tryz.f58], fun E hE => ?_⟩
 refine zb _ ?_
 (all_goals refine qgo ?_ <;> (repeat' first | exact trivial | intro hc | refine And.intro ?_ ?_) <;> refine Lf.mk ?_)
 refine yu (α := Nat) (fun k => k ≤ b.length) (fun k => [(8, .int .i64 k), (7, .int .i64 b.length), (6, zm b), (3, .int .i64 (vZ (b.take k)))]) (fun _ => []) (fun k => b.length - k) (fun _ => by simp [hE]) 0 (Nat.zero_le _) ?_ ?_
 ·(repeat' (first | (refine VS.mk ?_) | exact trivial | exact rfl | refine And.intro ?_ ?_))
 intro k hk
 have hs := zbl (b.take k) 1 (by decide) (by decide)
 change 0 ≤ vZ _ ∧ vZ _ < _ at hs
 refine zb _ ?_
 (all_goals refine qgo ?_ <;> (repeat' first | exact trivial | intro hc | refine And.intro ?_ ?_) <;> refine Lf.mk ?_)
 ·have hc := zpr (b.getD k 0)
  (all_goals refine qgo ?_ <;> (repeat' first | exact trivial | intro hc | refine And.intro ?_ ?_) <;> refine Lf.mk ?_)
  refine zL (k + 1) (by omega) (by omega) ?_
  (repeat' (first | (refine VS.mk ?_) | exact trivial | exact rfl | refine And.intro ?_ ?_))
  rw [vZ, vZ, zl0 b 1 k (by omega)]
 ·refine yk ?_
  obtain rfl : k = b.length := by omega
  (repeat' (first | (refine VS.mk ?_) | exact trivial | exact rfl | refine And.intro ?_ ?_))
  rw [List.take_length]
def vw (b : List UInt8) (i : Int) : Int := if 0 ≤ i ∧ i < b.length then ((b.getD i.toNat 0).toNat : Int) else 0
def xG (b : List UInt8) (at_ : Int) : Nat → Int
 | 0 => 0
 | k + 1 => xG b at_ k * 256 + vw b (at_ + k)
theorem zaQ (b : List UInt8) (i : Int) : 0 ≤ vw b i ∧ vw b i < 256 := by
 unfold vw; split
 ·have := zpr (b.getD i.toNat 0); omega
 ·omega
theorem zje (b : List UInt8) (at_ : Int) : ∀ k, 0 ≤ xG b at_ k
 | 0 => by simp [xG]
 | k + 1 => by have := zje b at_ k; have := zaQ b (at_ + k); simp only [xG]; omega
theorem zoz (b : List UInt8) (at_ : Int) (k : Nat) (hk : k ≤ 4) : xG b at_ k ≤ 4294967295 := by
 have h0 := zaQ b (at_ + (0 : Nat)); have h1 := zaQ b (at_ + (1 : Nat)); have h2 := zaQ b (at_ + (2 : Nat)); have h3 := zaQ b (at_ + (3 : Nat))
 match k, hk with
 | 0, _ => simp [xG]
 | 1, _ => simp only [xG]; omega
 | 2, _ => simp only [xG]; omega
 | 3, _ => simp only [xG]; omega
 | 4, _ => simp only [xG]; omega
theorem zct : za Tryz.prog zqW (zz (fun ((b, at_, size) : List UInt8 × Int × Nat) => -1000000000000 ≤ at_ ∧ at_ ≤ 1000000000000 ∧ size ≤ 4) (fun (b, at_, size) => [zm b, .int .i64 at_, .int .i64 size])
  fun (b, at_, size) => .int .i64 (xG b at_ size)) := by
 refine ze zi Tryz.func57 rfl (by decide) ?_
 rintro ⟨b, at_, size⟩ ⟨h1, h2, h4⟩
 refine ⟨Nat.le_refl _, by simp [Tryz.f57], fun E hE => ?_⟩
 refine zb _ ?_
 (all_goals refine qgo (Lf.mk ?_))
 refine yu (α := Nat) (fun k => k ≤ size) (fun k => [(11, .int .i64 k), (10, .int .i64 size), (7, .int .i64 (xG b at_ k)), (0, zm b), (1, .int .i64 at_)]) (fun _ => []) (fun k => size - k) (fun _ => by simp [hE]) 0 (Nat.zero_le _) ?_ ?_
 ·(repeat' (first | (refine VS.mk ?_) | exact trivial | exact rfl | refine And.intro ?_ ?_))
 intro k hk
 have g0 := zje b at_ k
 have g1 := zoz b at_ k (by omega)
 refine zb _ ?_
 (all_goals refine qgo ?_ <;> (repeat' first | exact trivial | intro hc | refine And.intro ?_ ?_) <;> refine Lf.mk ?_)
 ·have hb : vw b (at_ + k) = ((b.getD (at_ + (k : Int)).toNat 0).toNat : Int) := by unfold vw; rw [if_pos ⟨by omega, by omega⟩]
  have := zpr (b.getD (at_ + (k : Int)).toNat 0)
  refine wK (zuM (s := 8) rfl g0 (by omega) (by omega) (by omega)) ?_
  (all_goals refine qgo (Lf.mk ?_))
  refine zL (k + 1) (by omega) (by omega) ?_
  (repeat' (first | (refine VS.mk ?_) | exact trivial | exact rfl | refine And.intro ?_ ?_))
  simp [xG, hb]
 ·refine zL (k + 1) (by omega) (by omega) ?_
  have hb : vw b (at_ + k) = 0 := by unfold vw; rw [if_neg (by omega)]
  (repeat' (first | (refine VS.mk ?_) | exact trivial | exact rfl | refine And.intro ?_ ?_))
  simp [xG, hb]
 ·refine zL (k + 1) (by omega) (by omega) ?_
  have hb : vw b (at_ + k) = 0 := by unfold vw; rw [if_neg (by omega)]
  (repeat' (first | (refine VS.mk ?_) | exact trivial | exact rfl | refine And.intro ?_ ?_))
  simp [xG, hb]
 ·obtain rfl : k = size := by omega
  refine yk ?_
  (repeat' (first | (refine VS.mk ?_) | exact trivial | exact rfl | refine And.intro ?_ ?_))
def yX (l : List UInt8) (i : Int) (c : UInt8) : List UInt8 := if 0 ≤ i ∧ i < l.length then l.set i.toNat c else l
def x1 (l : List UInt8) (at_ : Int) : Nat → Int → List UInt8
 | 0, _ => l
 | k + 1, n => x1 (yX l (at_ + k) (zt n)) at_ k (n / 256)
theorem zjU (l : List UInt8) (i : Int) (c : UInt8) : (yX l i c).length = l.length := by unfold yX; split <;> simp
theorem zab (at_ : Int) : ∀ (k : Nat) (l : List UInt8) (n : Int), (x1 l at_ k n).length = l.length
 | 0, l, n => rfl
 | k + 1, l, n => by rw [x1, zab, zjU]
theorem zaR : za Tryz.prog zqV (z1 (fun ((b, at_, size, n) : List UInt8 × Int × Nat × Int) => -1000000000000 ≤ at_ ∧ at_ ≤ 1000000000000 ∧ size ≤ 1000000000000 ∧ b.length ≤ 1000000000)
  (fun (b, at_, size, n) => [zm b, .int .i64 at_, .int .i64 size, .int .i64 n]) (fun _ => []) (fun (b, at_, size, n) => .sl 1 ((x1 b at_ size n).map zA) (some 0)) fun (b, _) => [.spare b.length]) := by
 refine ze zi Tryz.func48 rfl (by decide) ?_
 rintro ⟨b, at_, size, n⟩ ⟨h1, h2, h4, h5⟩
 refine ⟨by simp, by simp [Tryz.f48], fun E hE => ?_⟩
 refine zb _ ?_
 (all_goals refine qga (Lf.mk ?_))
 refine yu (α := Nat × List UInt8 × Int) (fun p => p.1 ≤ size ∧ p.2.1.length = b.length ∧ x1 p.2.1 at_ p.1 p.2.2 = x1 b at_ size n) (fun p => [(10, .int .i64 ((p.1 : Int) - 1)), (1, .int .i64 at_), (3, .int .i64 p.2.2), (9, .osl 1 0 p.2.1.length 0 p.2.1.length)]) (fun p => [.arr 1 (p.2.1.map zA)]) (fun p => p.1) (fun _ => by simp [hE]) (size, b, n) ⟨Nat.le_refl _, rfl, rfl⟩ ?_ ?_
 ·(repeat' (first | (refine VS.mk ?_) | exact trivial | exact rfl | refine And.intro ?_ ?_))
  ·refine zbk b rfl ?_
   (repeat' (first | (refine VS.mk ?_) | exact trivial | exact rfl | refine And.intro ?_ ?_))
 rintro ⟨k, l, m⟩ ⟨hk, hl, hp⟩
 generalize hj : ((k : Int) - 1) = j at *
 dsimp only at hk hl hp ⊢
 refine zb _ ?_
 have hm8 : (0 : Int) < 256 := by decide
 have hn : 0 ≤ j → x1 (yX l (at_ + j) (zt m)) at_ (k - 1) (m / 256) = x1 b at_ size n := fun h => by
  rw [← hp]
  obtain ⟨k', rfl⟩ : ∃ k', k = k' + 1 := ⟨k - 1, by omega⟩
  obtain rfl : j = k' := by omega
  rfl
 have hset : ∀ x, (yX l x (zt m)).length = b.length := fun x => by rw [zjU]; exact hl
 (all_goals refine qgo ?_ <;> (repeat' first | exact trivial | intro hc | refine And.intro ?_ ?_) <;> refine Lf.mk ?_)
 ·have hs : yX l (at_ + j) (zt m) = l.set (at_ + j).toNat (zt m) := by unfold yX; rw [if_pos ⟨by omega, by omega⟩]
  refine zL (k - 1, yX l (at_ + j) (zt m), m / 256) ⟨by (dsimp only; omega), hset _, hn (by assumption)⟩ (by dsimp only; omega) ?_
  (repeat' (first | (refine VS.mk ?_) | exact trivial | exact rfl | refine And.intro ?_ ?_))
  ·refine zbk (yX l (at_ + j) (zt m)) ?_ ?_
   ·rw [hs, List.map_set]; simp [zA]
   ·(repeat' (first | (refine VS.mk ?_) | exact trivial | exact rfl | refine And.intro ?_ ?_))
  (all_goals (first | rfl | (dsimp only; congr 1; omega) | (dsimp only; simp; done) | (dsimp only; simp; omega) | skip))
  all_goals (dsimp only; rw [hset, hl])
 ·have hs : yX l (at_ + j) (zt m) = l := by unfold yX; rw [if_neg (by omega)]
  refine zL (k - 1, yX l (at_ + j) (zt m), m / 256) ⟨by (dsimp only; omega), hset _, hn (by assumption)⟩ (by dsimp only; omega) ?_
  (repeat' (first | (refine VS.mk ?_) | exact trivial | exact rfl | refine And.intro ?_ ?_))
  ·refine zbk (yX l (at_ + j) (zt m)) (by rw [hs]) ?_
   (repeat' (first | (refine VS.mk ?_) | exact trivial | exact rfl | refine And.intro ?_ ?_))
  (all_goals (first | rfl | (dsimp only; congr 1; omega) | (dsimp only; simp; done) | (dsimp only; simp; omega) | skip))
  all_goals (dsimp only; rw [hset, hl])
 ·have hs : yX l (at_ + j) (zt m) = l := by unfold yX; rw [if_neg (by omega)]
  refine zL (k - 1, yX l (at_ + j) (zt m), m / 256) ⟨by (dsimp only; omega), hset _, hn (by assumption)⟩ (by dsimp only; omega) ?_
  (repeat' (first | (refine VS.mk ?_) | exact trivial | exact rfl | refine And.intro ?_ ?_))
  ·refine zbk (yX l (at_ + j) (zt m)) (by rw [hs]) ?_
   (repeat' (first | (refine VS.mk ?_) | exact trivial | exact rfl | refine And.intro ?_ ?_))
  (all_goals (first | rfl | (dsimp only; congr 1; omega) | (dsimp only; simp; done) | (dsimp only; simp; omega) | skip))
  all_goals (dsimp only; rw [hset, hl])
 ·obtain rfl : k = 0 := by omega
  have hp : l = x1 b at_ size n := hp
  refine zgX (k := 0) l rfl rfl (Nat.le_refl _) (Nat.zero_le _) (r1 := .sl 1 (l.map zA) (some 1)) (.here _ _ (by simp) (by simp)) ?_
  refine zlr [1] rfl rfl ?_
  (repeat' (first | (refine VS.mk ?_) | exact trivial | exact rfl | refine And.intro ?_ ?_))
  ·rw [hp]
  ·rw [hl]
def zib (m : Msg) : List UInt8 := [zt m.kind, zt m.worker, zt m.unit, 0, 0, zt m.err, 0, 0, 0, 0, 0, 0]
def zic (m : Msg) : List UInt8 := x1 (zib m) 3 2 m.turn
def zfT (m : Msg) : List UInt8 := x1 (zic m) 6 2 m.at_
def kb (m : Msg) : List UInt8 := x1 (zfT m) 8 4 m.data.length
theorem zqY (m : Msg) : (zib m).length = 12 := rfl
theorem zjV (m : Msg) : (zic m).length = 12 := by rw [zic, zab]; rfl
theorem zfa (m : Msg) : (zfT m).length = 12 := by rw [zfT, zab, zjV]
theorem qy (m : Msg) : (kb m).length = 12 := by rw [kb, zab, zfa]
def xd (m : Msg) : List UInt8 := kb m ++ m.data
def yc (m : Msg) : List UInt8 := xd m ++ [zt (vZ (xd m) / 256), zt (vZ (xd m))]
theorem zl1 {m : Msg} (h : yT m = 0) : 1 ≤ m.kind ∧ m.kind ≤ 3 ∧ 0 ≤ m.worker ∧ m.worker < 3 ∧ 0 ≤ m.unit ∧ m.unit < 4 ∧ 0 ≤ m.turn ∧ m.turn ≤ 65535 ∧ m.data.length ≤ 1048576 ∧
  0 ≤ m.err ∧ m.err ≤ 14 ∧ 0 ≤ m.at_ ∧ m.at_ ≤ 65535 ∧ (m.kind = 3 → 0 < m.err ∧ m.data.length = 0) ∧ (m.kind ≠ 3 → m.err = 0 ∧ m.at_ = 0) := by
 unfold yT at h
 (repeat' split at h) <;> first | (exfalso; omega) | omega
theorem znN : za Tryz.prog zlQ (zz (fun _ : Msg => True) (fun m => [zlZ m]) fun m => .tup [zm (if yT m = 0 then yc m else []), .int .i64 (yT m)]) := by
 refine ze zi Tryz.func56 rfl (by decide) fun m _ => ?_
 refine ⟨Nat.le_refl _, by simp [Tryz.f56], fun E hE => ?_⟩
 refine zb _ ?_
 (all_goals refine qgo ?_ <;> (repeat' first | exact trivial | intro hc | refine And.intro ?_ ?_) <;> refine Lf.mk ?_)
 refine zd zgr m trivial (VS.mk (by (first | exact LeL.refl _ | (repeat' (first | exact LeL.nil | exact LeD.refl _ | exact LeD.nil _ | exact LeD.strip _ _ _ | refine LeL.cons ?_ ?_ | refine LeD.tup ?_ | refine LeD.agg ?_))))) ?_
 (all_goals refine qga ?_ <;> (repeat' first | exact trivial | intro hc | refine And.intro ?_ ?_) <;> refine Lf.mk ?_)
 ·refine qr (LeD.tup (.cons (.nil 1) (.refl _))) ?_ (Nat.le_refl _)
  refine yk ?_
  (repeat' (first | (refine VS.mk ?_) | exact trivial | exact rfl | refine And.intro ?_ ?_))
  rw [if_neg (by assumption)]; rfl
 refine zga 1 (zib m) [_, _, _, _] rfl rfl ⟨.here _ _ rfl rfl, .keep _, .keep _, .keep _, trivial⟩ ?_
 refine VS.mk ?_
 refine ye zaR [] [3] (zib m, 3, 2, m.turn) ⟨by decide, by decide, by decide, by rw [zqY]; decide⟩ rfl rfl ?_
 refine And.intro (VS.mk (LeL.refl _)) (And.intro (VS.mk rfl) ?_)
 (all_goals refine qgo ?_ <;> (repeat' first | exact trivial | intro hc | refine And.intro ?_ ?_) <;> refine Lf.mk ?_)
 refine ye zaR [] [4] (zic m, 6, 2, m.at_) ⟨by decide, by decide, by decide, by rw [zjV]; decide⟩ rfl rfl ?_
 refine And.intro (VS.mk (LeL.refl _)) (And.intro (VS.mk rfl) ?_)
 (all_goals refine qgo ?_ <;> (repeat' first | exact trivial | intro hc | refine And.intro ?_ ?_) <;> refine Lf.mk ?_)
 refine ye zaR [] [5] (zfT m, 8, 4, m.data.length) ⟨by decide, by decide, by decide, by rw [zfa]; decide⟩ rfl rfl ?_
 refine And.intro (VS.mk ?_) (And.intro (VS.mk rfl) ?_)
 ·exact LeL.of_eq (by simp only [List.length_map]; rfl)
 obtain ⟨_, _, _, _, _, _, _, _, hlen, _⟩ := zl1 hc
 have hl1 : (x1 (zfT m) 8 4 (m.data.length : Int)).length = 12 := qy m
 have hl2 := zfa m
 (all_goals refine qgo ?_ <;> (repeat' first | exact trivial | intro hc | refine And.intro ?_ ?_) <;> refine Lf.mk ?_)
 refine zd ze9 (xd m) (by simp only [xd, List.length_append, qy]; omega) (VS.mk (LeL.of_eq ?_)) ?_
 ·simp only [xd, kb, List.map_append, zm, List.length_map]
 have hs := zbl (xd m) 1 (by decide) (by decide)
 change 0 ≤ vZ _ ∧ vZ _ < _ at hs
 (all_goals refine qgo ?_ <;> (repeat' first | exact trivial | intro hc | refine And.intro ?_ ?_) <;> refine Lf.mk ?_)
 refine zd ze9 (xd m) (by simp only [xd, List.length_append, qy]; omega) (VS.mk (LeL.of_eq ?_)) ?_
 ·simp only [xd, kb, List.map_append, zm, List.length_map]
 (all_goals refine qgo ?_ <;> (repeat' first | exact trivial | intro hc | refine And.intro ?_ ?_) <;> refine Lf.mk ?_)
 refine yk ?_
 (repeat' (first | (refine VS.mk ?_) | exact trivial | (with_reducible exact rfl) | refine And.intro ?_ ?_))
 rw [if_pos hc, hc]
 simp [yc, xd, kb, ju, zm, zA]
def zvH : Msg := ⟨0, 0, 0, 0, 0, 0, []⟩
def we (b : List UInt8) : Msg :=
 ⟨((b.getD 0 0).toNat : Int), ((b.getD 1 0).toNat : Int), ((b.getD 2 0).toNat : Int), xG b 3 2, ((b.getD 5 0).toNat : Int), xG b 6 2, (b.take (b.length - 2)).drop 12⟩
def wM (b : List UInt8) : Int :=
 if b.length < 14 ∨ (b.length : Int) - 2 ≠ 12 + xG b 8 4 ∨ xG b ((b.length : Int) - 2) 2 ≠ vZ (b.take (b.length - 2)) then 2 else yT (we b)
theorem zb1 {b : List UInt8} (h : b.length < 14 ∨ (b.length : Int) - 2 ≠ 12 + xG b 8 4 ∨ xG b ((b.length : Int) - 2) 2 ≠ vZ (b.take (b.length - 2))) : wM b = 2 := if_pos h
theorem zid {b : List UInt8} (h : ¬ (b.length < 14 ∨ (b.length : Int) - 2 ≠ 12 + xG b 8 4 ∨ xG b ((b.length : Int) - 2) 2 ≠ vZ (b.take (b.length - 2)))) : wM b = yT (we b) := if_neg h
theorem zl2 : za Tryz.prog zlO (zz (fun b : List UInt8 => b.length ≤ 1000000000) (fun b => [zm b]) fun b => .tup [zlZ (if wM b = 0 then we b else zvH), .int .i64 (wM b)]) := by
 refine ze zi Tryz.func36 rfl (by decide) fun b hb => ?_
 refine ⟨Nat.le_refl _, by simp [Tryz.f36], fun E hE => ?_⟩
 refine zb _ ?_
 have hg := zoz b 8 4 (Nat.le_refl _)
 have hg0 := zje b 8 4
 (all_goals refine qgo ?_ <;> (repeat' first | exact trivial | intro hc | refine And.intro ?_ ?_) <;> refine Lf.mk ?_)
 ·refine zf (VS.mk ?_)
  rw [zb1 (.inl (by omega)), if_neg (by decide)]
  (first | exact LeL.refl _ | (repeat' (first | exact LeL.nil | exact LeD.refl _ | exact LeD.nil _ | exact LeD.strip _ _ _ | refine LeL.cons ?_ ?_ | refine LeD.tup ?_ | refine LeD.agg ?_)))
 refine zd zct (b, 8, 4) ⟨by decide, by decide, by decide⟩ (VS.mk (by (first | exact LeL.refl _ | (repeat' (first | exact LeL.nil | exact LeD.refl _ | exact LeD.nil _ | exact LeD.strip _ _ _ | refine LeL.cons ?_ ?_ | refine LeD.tup ?_ | refine LeD.agg ?_))))) ?_
 (all_goals refine qgo ?_ <;> (repeat' first | exact trivial | intro hc | refine And.intro ?_ ?_) <;> refine Lf.mk ?_)
 ·refine zf (VS.mk ?_)
  rw [zb1 (.inr (.inl (by omega))), if_neg (by decide)]
  (first | exact LeL.refl _ | (repeat' (first | exact LeL.nil | exact LeD.refl _ | exact LeD.nil _ | exact LeD.strip _ _ _ | refine LeL.cons ?_ ?_ | refine LeD.tup ?_ | refine LeD.agg ?_)))
 refine zd zct (b, (b.length : Int) - 2, 2) ⟨by omega, by omega, by decide⟩ (VS.mk (by (first | exact LeL.refl _ | (repeat' (first | exact LeL.nil | exact LeD.refl _ | exact LeD.nil _ | exact LeD.strip _ _ _ | refine LeL.cons ?_ ?_ | refine LeD.tup ?_ | refine LeD.agg ?_))))) ?_
 (all_goals refine qgo ?_ <;> (repeat' first | exact trivial | intro hc | refine And.intro ?_ ?_) <;> refine Lf.mk ?_)
 refine zd ze9 (b.take (b.length - 2)) (by simp; omega) (VS.mk (LeL.of_eq ?_)) ?_
 ·simp [zm, show ((b.length : Int) - 2).toNat = b.length - 2 by omega]
 (all_goals refine qgn ?_ <;> (repeat' first | exact trivial | intro hc | refine And.intro ?_ ?_) <;> refine Lf.mk ?_)
 ·refine zf (VS.mk ?_)
  rw [zb1 (.inr (.inr (by assumption))), if_neg (by decide)]
  (first | exact LeL.refl _ | (repeat' (first | exact LeL.nil | exact LeD.refl _ | exact LeD.nil _ | exact LeD.strip _ _ _ | refine LeL.cons ?_ ?_ | refine LeD.tup ?_ | refine LeD.agg ?_)))
 have hp := zid (b := b) (by omega)
 refine zhL ?_
 refine zdK zi mixed 24 26 [0, 1, 2, 3, 4, 5, 6, 7, 8, 9, 10, 11, 12, 13, 14, 15, 16, 17, 18, 19, 20, 21, 22, 23, 26, 24, 25, 27] [0, 1, 2, 3, 4, 5, 6, 7, 8, 9, 10, 11, 12, 13, 14, 15, 16, 17, 18, 19, 20, 21, 22, 23, 25, 26, 24, 27] rfl rfl rfl ?_ ?_
 all_goals
  (all_goals refine qgo ?_ <;> (repeat' first | exact trivial | intro hc | refine And.intro ?_ ?_) <;> refine Lf.mk ?_)
  refine zd zct (b, 3, 2) ⟨by decide, by decide, by decide⟩ (VS.mk (by (first | exact LeL.refl _ | (repeat' (first | exact LeL.nil | exact LeD.refl _ | exact LeD.nil _ | exact LeD.strip _ _ _ | refine LeL.cons ?_ ?_ | refine LeD.tup ?_ | refine LeD.agg ?_))))) ?_
  (all_goals refine qgo ?_ <;> (repeat' first | exact trivial | intro hc | refine And.intro ?_ ?_) <;> refine Lf.mk ?_)
  refine zd zct (b, 6, 2) ⟨by decide, by decide, by decide⟩ (VS.mk (by (first | exact LeL.refl _ | (repeat' (first | exact LeL.nil | exact LeD.refl _ | exact LeD.nil _ | exact LeD.strip _ _ _ | refine LeL.cons ?_ ?_ | refine LeD.tup ?_ | refine LeD.agg ?_))))) ?_
  (all_goals refine qgo ?_ <;> (repeat' first | exact trivial | intro hc | refine And.intro ?_ ?_) <;> refine Lf.mk ?_)
  refine zd zgr (we b) trivial (VS.mk (LeL.of_eq ?_)) ?_
  ·simp [zlZ, we, zm, show ((b.length : Int) - 2).toNat = b.length - 2 by omega]
  (all_goals refine qgo ?_ <;> (repeat' first | exact trivial | intro hc | refine And.intro ?_ ?_) <;> refine Lf.mk ?_)
  ·refine zf (VS.mk ?_)
   rw [hp, if_neg (by assumption)]
   (first | exact LeL.refl _ | (repeat' (first | exact LeL.nil | exact LeD.refl _ | exact LeD.nil _ | exact LeD.strip _ _ _ | refine LeL.cons ?_ ?_ | refine LeD.tup ?_ | refine LeD.agg ?_)))
  ·refine zf (VS.mk ?_)
   rw [hp, if_pos (by assumption)]
   refine LeD.of_eq ?_
   rw [show ((b.length : Int) - 2).toNat = b.length - 2 by omega, hc]
   rfl
def zI (c : UInt8) : Bool := decide (97 ≤ c.toNat ∧ c.toNat ≤ 122 ∨ 65 ≤ c.toNat ∧ c.toNat ≤ 90 ∨ c.toNat = 95 ∨ c.toNat = 46)
def ym (c : UInt8) : Bool := decide (48 ≤ c.toNat ∧ c.toNat ≤ 57)
def yq (c : UInt8) : Int := if zI c = true then 97 else if ym c = true then 48 else if c.toNat = 32 ∨ c.toNat = 9 ∨ c.toNat = 13 then 32 else 0
theorem qT : za Tryz.prog zkC (zz (fun _ : UInt8 => True) (fun c => [zA c]) fun c => .bool (zI c)) := by
 refine ze zi Tryz.func91 rfl (by decide) fun c _ => ?_
 refine ⟨Nat.le_refl _, by simp [Tryz.f91], fun E hE => ?_⟩
 refine zb _ ?_
 (all_goals refine qgo ?_ <;> (repeat' first | exact trivial | intro hc | refine And.intro ?_ ?_) <;> refine Lf.mk ?_)
 all_goals first
  | (refine zf (VS.mk (LeD.tt ?_)); unfold zI; rw [decide_eq_true_eq]; omega)
  | (refine zf (VS.mk (LeD.ff ?_)); unfold zI; rw [decide_eq_false_iff_not]; omega)
  | (refine zf (VS.mk (LeD.of_eq (congrArg D.bool ?_))); unfold zI; rw [Bool.eq_iff_iff]; simp only [beq_iff_eq, decide_eq_true_eq]; omega)
theorem zap : za Tryz.prog zlU (zz (fun _ : UInt8 => True) (fun c => [zA c]) fun c => .bool (ym c)) := by
 refine ze zi Tryz.func92 rfl (by decide) fun c _ => ?_
 refine ⟨Nat.le_refl _, by simp [Tryz.f92], fun E hE => ?_⟩
 refine zb _ ?_
 (all_goals refine qgo ?_ <;> (repeat' first | exact trivial | intro hc | refine And.intro ?_ ?_) <;> refine Lf.mk ?_)
 all_goals first
  | (refine zf (VS.mk (LeD.tt ?_)); unfold ym; rw [decide_eq_true_eq]; omega)
  | (refine zf (VS.mk (LeD.ff ?_)); unfold ym; rw [decide_eq_false_iff_not]; omega)
  | (refine zf (VS.mk (LeD.of_eq (congrArg D.bool ?_))); unfold ym; rw [Bool.eq_iff_iff]; simp only [beq_iff_eq, decide_eq_true_eq]; omega)
def yQ (s : List UInt8) : Bool := decide (1 ≤ s.length ∧ s.length ≤ 10) && zI (s.getD 0 0) && s.all fun c => (zI c || ym c) && !(c == 46)
def okC (c : UInt8) : Bool := (zI c || ym c) && !(c == 46)
attribute [local irreducible] zI ym yq
theorem zst {p : UInt8 → Bool} {s : List UInt8} {k : Nat} (hk : k < s.length) : (s.take (k + 1)).all p = ((s.take k).all p && p (s.getD k 0)) := by
 rw [List.take_succ_eq_append_getElem hk, List.all_append]
 simp [List.getD_eq_getElem?_getD, List.getElem?_eq_getElem hk]
theorem zl3 {p : UInt8 → Bool} {s : List UInt8} {k : Nat} (hk : k < s.length) (h : p (s.getD k 0) = false) : s.all p = false := by
 rw [← List.take_append_drop k s, List.all_append, List.drop_eq_getElem_cons hk]
 have : s.getD k 0 = s[k] := by simp [List.getD_eq_getElem?_getD, List.getElem?_eq_getElem hk]
 rw [this] at h
 rw [List.all_cons, h, Bool.false_and, Bool.and_false]
theorem zl4 : za Tryz.prog zgq (zz (fun _ : List UInt8 => True) (fun s => [.str s]) fun s => .bool (yQ s)) := by
 refine ze zi Tryz.func68 rfl (by decide) fun s _ => ?_
 refine ⟨Nat.le_refl _, by simp [Tryz.f68], fun E hE => ?_⟩
 refine zb _ ?_
 (all_goals refine qgo ?_ <;> (repeat' first | exact trivial | intro hc | refine And.intro ?_ ?_) <;> refine Lf.mk ?_)
 ·refine zf (VS.mk (LeD.ff ?_))
  unfold yQ
  rw [decide_eq_false (by omega)]
  rfl
 ·refine zf (VS.mk (LeD.ff ?_))
  unfold yQ
  rw [decide_eq_false (by omega)]
  rfl
 ·refine zf (VS.mk (LeD.ff ?_))
  have e : okC (s.getD 0 0) = false := by
   have : s.getD 0 0 = 46 := UInt8.toNat_inj.1 (by exact_mod_cast hc)
   rw [this]
   unfold okC
   rw [Bool.and_eq_false_iff]
   exact .inr rfl
  have h2 : s.all okC = false := zl3 (k := 0) (by omega) e
  show (_ && _ && s.all okC) = false
  rw [h2, Bool.and_false]
 refine zd qT (s.getD 0 0) trivial (VS.mk (LeL.of_eq rfl)) ?_
 (all_goals refine qgo ?_ <;> (repeat' first | exact trivial | intro hc | refine And.intro ?_ ?_) <;> refine Lf.mk ?_)
 ·refine zf (VS.mk (LeD.ff ?_))
  show (_ && zI (s.getD 0 0) && _) = false
  rw [hc, Bool.and_false, Bool.false_and]
 have hl0 : zI (s.getD 0 0) = true := by assumption
 refine yu (α := Nat) (fun k => k ≤ s.length ∧ (s.take k).all okC = true) (fun k => [(0, .str s), (24, .int .i64 s.length), (25, .int .i64 k)]) (fun _ => []) (fun k => s.length - k) (fun _ => by simp [hE]) 0 ⟨Nat.zero_le _, by simp⟩ ?_ ?_
 ·(repeat' (first | (refine VS.mk ?_) | exact trivial | exact rfl | refine And.intro ?_ ?_))
 rintro k ⟨hk, hall⟩
 refine zb _ ?_
 (all_goals refine qgo ?_ <;> (repeat' first | exact trivial | intro hc | refine And.intro ?_ ?_) <;> refine Lf.mk ?_)
 ·have hidx : ((k : Int)).toNat = k := Int.toNat_natCast k
  have hk' : k < s.length := by omega
  have hst := zst (p := okC) hk'
  have hsp := zl3 (p := okC) hk'
  have hok : okC (s.getD k 0) = ((zI (s.getD k 0) || ym (s.getD k 0)) && !(s.getD k 0 == 46)) := rfl
  have h46 : (((s.getD k 0).toNat : Nat) : Int) = 46 → okC (s.getD k 0) = false := fun h => by
   have : s.getD k 0 = 46 := UInt8.toNat_inj.1 (by exact_mod_cast h)
   rw [hok, this]
   rw [Bool.and_eq_false_iff]
   exact .inr rfl
  have n46 : ¬ (((s.getD k 0).toNat : Nat) : Int) = 46 → (s.getD k 0 == 46) = false := fun h => beq_eq_false_iff_ne.2 fun e => h (by rw [e]; rfl)
  have bad : okC (s.getD k 0) = false → yQ s = false := fun h => by
   show (_ && zI (s.getD 0 0) && s.all okC) = false
   rw [hsp h, Bool.and_false]
  refine zd qT (s.getD k 0) trivial (VS.mk (LeL.of_eq (by rw [hidx]; rfl))) ?_
  (all_goals refine qgo ?_ <;> (repeat' first | exact trivial | intro hc | refine And.intro ?_ ?_) <;> refine Lf.mk ?_)
  ·refine zd zap (s.getD k 0) trivial (VS.mk (LeL.of_eq (by rw [hidx]; rfl))) ?_
   (all_goals refine qgo ?_ <;> (repeat' first | exact trivial | intro hc | refine And.intro ?_ ?_) <;> refine Lf.mk ?_)
   ·refine zf (VS.mk (LeD.ff (bad ?_)))
    rw [hok, (by assumption : zI (s.getD k 0) = false), (by assumption : ym (s.getD k 0) = false)]
    rfl
   ·rw [hidx] at hc
    exact zf (VS.mk (LeD.ff (bad (h46 hc))))
   ·rw [hidx] at hc
    refine zL (k + 1) ⟨by omega, ?_⟩ (by omega) ?_
    rotate_left
    ·rw [hst, hall, hok, (by assumption : ym (s.getD k 0) = true), n46 hc, Bool.or_true]
     rfl
    ·(repeat' (first | (refine VS.mk ?_) | exact trivial | exact rfl | refine And.intro ?_ ?_))
  ·rw [hidx] at hc
   exact zf (VS.mk (LeD.ff (bad (h46 hc))))
  ·rw [hidx] at hc
   refine zL (k + 1) ⟨by omega, ?_⟩ (by omega) ?_
   rotate_left
   ·rw [hst, hall, hok, (by assumption : zI (s.getD k 0) = true), n46 hc]
    rfl
   ·(repeat' (first | (refine VS.mk ?_) | exact trivial | exact rfl | refine And.intro ?_ ?_))
 ·refine zf (VS.mk (LeD.tt ?_))
  rw [List.take_of_length_le (by omega)] at hall
  show (_ && zI (s.getD 0 0) && s.all okC) = true
  rw [hl0, hall, decide_eq_true (by omega)]
  rfl
theorem zqZ {P : Program} {f : Nat} {α : Type} {I J : α → Prop} {A : α → List D} {R : α → D} (h : za P f (zz I A R)) (hJ : ∀ p, J p → I p) : za P f (zz J A R) :=
 by
 unfold za at h ⊢
 exact ⟨h.1, fun av L d M ⟨p, hp, hr⟩ => h.2 av L d M ⟨p, hJ p hp, hr⟩⟩
theorem zdS : za Tryz.prog zgq (zz (fun s : List UInt8 => s.length ≤ 1000000000) (fun s => [.str s]) fun s => .bool (yQ s)) := zqZ zl4 fun _ _ => trivial
attribute [local irreducible] okC
def yN (b : Int) (c : UInt8) : Int :=
 if 48 ≤ c.toNat ∧ c.toNat ≤ 57 then (c.toNat : Int) - 48 else if b = 16 ∧ 97 ≤ c.toNat ∧ c.toNat ≤ 102 then (c.toNat : Int) - 97 + 10
 else if b = 16 ∧ 65 ≤ c.toNat ∧ c.toNat ≤ 70 then (c.toNat : Int) - 65 + 10 else -1
theorem zuQ (b : Int) (c : UInt8) : -1 ≤ yN b c ∧ yN b c ≤ 15 := by
 unfold yN
 repeat' split
 all_goals omega
def zcT (b : Int) : List UInt8 → Int → Option Int
 | [], n => some n
 | c :: r, n => if yN b c < 0 ∨ 4294967295 < n then none else zcT b r (n * b + yN b c)
def zq0 (ds : List UInt8) : Option Int → Int × Bool
 | none => (0, false)
 | some n => (n, decide (n < 4294967296 ∧ ds ≠ []))
def zdT (b : Int) (ds : List UInt8) : Int × Bool := zq0 ds (zcT b ds 0)
def xW (w : List UInt8) : Int × Bool := if 2 < w.length ∧ w.take 2 = [48, 120] then zdT 16 (w.drop 2) else zdT 10 w
theorem zcu {α : Type} {l : List α} {k : Nat} {d : α} (h : k < l.length) : l.drop k = l.getD k d :: l.drop (k + 1) := by
 rw [List.drop_eq_getElem_cons h, List.getD_eq_getElem?_getD, List.getElem?_eq_getElem h]; rfl
attribute [local irreducible] yN
structure yJ where
 kind : Int
 n : Int
 text : List UInt8
def wC (t : yJ) : D := .agg [.int .i64 t.kind, .int .i64 t.n, .str t.text]
def x2 (c : UInt8) : Bool := decide (yq c = 97) || decide (yq c = 48) || c == 47
def x3 (c : UInt8) : Bool := (decide (yq c = 97) && !(c == 46)) || decide (yq c = 48)
def zJ (p : UInt8 → Bool) : List UInt8 → Nat
 | [] => 0
 | c :: r => if p c = true then zJ p r + 1 else 0
def zdc : List UInt8 := [58, 44, 35, 64, 40, 41, 43, 45, 42, 38, 124, 126, 61]
def vo : Nat → List UInt8 → List yJ → Option (List yJ)
 | 0, _, out => some out
 | _ + 1, [], out => some out
 | f + 1, c :: r, out =>
  if yq c = 32 then vo f r out
  else if yq c = 97 then vo f ((c :: r).drop (zJ x2 (c :: r))) (out ++ [⟨1, 0, (c :: r).take (zJ x2 (c :: r))⟩])
  else if yq c = 48 then (if (xW ((c :: r).take (zJ x3 (c :: r)))).2 = true then
    vo f ((c :: r).drop (zJ x3 (c :: r))) (out ++ [⟨2, (xW ((c :: r).take (zJ x3 (c :: r)))).1, []⟩]) else none)
  else if c = 59 then some out
  else if (c :: r).take 2 = [60, 60] ∨ (c :: r).take 2 = [62, 62] then vo f (r.drop 1) (out ++ [⟨3, 0, (c :: r).take 2⟩])
  else if zdc.contains c = true then vo f r (out ++ [⟨3, 0, [c]⟩]) else none
def kZ (s : List UInt8) : List yJ × Int := if 80 < s.length then ([], 4) else match vo (s.length + 1) s [] with
 | some l => (l, 0)
 | none => ([], 2)
theorem zdd (p : UInt8 → Bool) : ∀ l, zJ p l ≤ l.length
 | [] => Nat.le_refl _
 | c :: r => by
  rw [zJ]
  have := zdd p r
  split
  ·simp; omega
  ·simp
theorem zoA (p : UInt8 → Bool) : ∀ l (k : Nat), k < zJ p l → p (l.getD k 0) = true
 | [], k, h => by rw [zJ] at h; omega
 | c :: r, k, h => by
  rw [zJ] at h
  split at h
  ·cases k with
   | zero => assumption
   | succ k => exact zoA p r k (by omega)
  ·omega
theorem zg5 (p : UInt8 → Bool) : ∀ l, zJ p l < l.length → p (l.getD (zJ p l) 0) = false
 | [], h => by simp at h
 | c :: r, h => by
  rw [zJ] at h ⊢
  split
  ·rename_i hp
   rw [if_pos hp] at h
   exact zg5 p r (by simpa using h)
  ·rename_i hp
   simpa using hp
theorem ztV {p : UInt8 → Bool} {l : List UInt8} {k : Nat} (hk : k ≤ l.length) (h : ∀ j, j < k → p (l.getD j 0) = true) (he : k < l.length → p (l.getD k 0) = false) : k = zJ p l := by
 have h1 := zdd p l
 have h2 := zg5 p l
 rcases Nat.lt_trichotomy k (zJ p l) with hlt | heq | hgt
 ·have := zoA p l k hlt
  rw [he (by omega)] at this
  cases this
 ·exact heq
 ·have := h _ hgt
  rw [h2 (by omega)] at this
  cases this
attribute [local irreducible] xW x2 x3
theorem zbm {c : UInt8} {r : List UInt8} (h : yq c = 97) : 1 ≤ zJ x2 (c :: r) := by
 have e : x2 c = true := by unfold x2; rw [decide_eq_true h]; rfl
 rw [zJ, if_pos e]; omega
theorem zcv {c : UInt8} {r : List UInt8} (h : yq c = 48) : 1 ≤ zJ x3 (c :: r) := by
 have e : x3 c = true := by unfold x3; rw [decide_eq_true h, Bool.or_true]
 rw [zJ, if_pos e]; omega
theorem zdU : ∀ (f g : Nat) (l : List UInt8) (out : List yJ), l.length < f → l.length < g → vo f l out = vo g l out
 | 0, _, _, _, h, _ => absurd h (Nat.not_lt_zero _)
 | _ + 1, 0, _, _, _, h => absurd h (Nat.not_lt_zero _)
 | f + 1, g + 1, [], out, _, _ => rfl
 | f + 1, g + 1, c :: r, out, hf, hg => by
  have hf : r.length < f := by simpa using hf
  have hg : r.length < g := by simpa using hg
  have ih := zdU f g
  have hd : ∀ n, 1 ≤ n → ((c :: r).drop n).length ≤ r.length := fun n hn => by rw [List.length_drop, List.length_cons]; omega
  rw [vo, vo]
  split
  ·exact ih _ _ hf hg
  split
  ·rename_i h
   have := hd _ (zbm (r := r) h)
   exact ih _ _ (by omega) (by omega)
  split
  ·rename_i h
   have := hd _ (zcv (r := r) h)
   split
   ·exact ih _ _ (by omega) (by omega)
   ·rfl
  split
  ·rfl
  split
  ·have : (r.drop 1).length ≤ r.length := by rw [List.length_drop]; omega
   exact ih _ _ (by omega) (by omega)
  split
  ·exact ih _ _ hf hg
  ·rfl
def xX (l : List UInt8) (out : List yJ) : Option (List yJ) := vo (l.length + 1) l out
theorem zl5 (out : List yJ) : xX [] out = some out := rfl
theorem vy (c : UInt8) (r : List UInt8) (out : List yJ) : xX (c :: r) out =
  if yq c = 32 then xX r out
  else if yq c = 97 then xX ((c :: r).drop (zJ x2 (c :: r))) (out ++ [⟨1, 0, (c :: r).take (zJ x2 (c :: r))⟩])
  else if yq c = 48 then (if (xW ((c :: r).take (zJ x3 (c :: r)))).2 = true then
    xX ((c :: r).drop (zJ x3 (c :: r))) (out ++ [⟨2, (xW ((c :: r).take (zJ x3 (c :: r)))).1, []⟩]) else none)
  else if c = 59 then some out
  else if (c :: r).take 2 = [60, 60] ∨ (c :: r).take 2 = [62, 62] then xX (r.drop 1) (out ++ [⟨3, 0, (c :: r).take 2⟩])
  else if zdc.contains c = true then xX r (out ++ [⟨3, 0, [c]⟩]) else none := by
 have hd : ∀ n, 1 ≤ n → ((c :: r).drop n).length ≤ r.length := fun n hn => by rw [List.length_drop, List.length_cons]; omega
 unfold xX
 rw [List.length_cons, vo]
 split
 ·rfl
 split
 ·rename_i h
  have := hd _ (zbm (r := r) h)
  exact zdU _ _ _ _ (by omega) (by omega)
 split
 ·rename_i h
  have := hd _ (zcv (r := r) h)
  split
  ·exact zdU _ _ _ _ (by omega) (by omega)
  ·rfl
 split
 ·rfl
 split
 ·have : (r.drop 1).length ≤ r.length := by rw [List.length_drop]; omega
  exact zdU _ _ _ _ (by omega) (by omega)
 ·rfl
def zq1 : Option (List yJ) → List yJ × Int
 | some l => (l, 0)
 | none => ([], 2)
theorem ztW (s : List UInt8) : kZ s = if 80 < s.length then ([], 4) else zq1 (xX s []) := by
 unfold kZ xX zq1; rfl
def zvI (p : List yJ × Int) : D := .tup [.sl 3 (p.1.map wC) none, .int .i64 p.2]
attribute [local irreducible] vo xX zJ
end Go.Proofs.YtnkdeacghopkiaaGreatDoor
namespace Go.Plat
open Go Go.Sort
set_option linter.unusedVariables false
set_option linter.unusedSimpArgs false
theorem Ext.growL (w : World) : ∀ (l : List Obj), Ext F0 w (Sort.grow w l.toArray)
 | [] => by rw [show (([] : List Obj).toArray) = #[] from rfl, grow_empty]; exact .refl _ _
 | o :: l => by
  have e : Sort.grow w (o :: l).toArray = Sort.grow (w.alloc o) l.toArray := by
   rw [alloc_eq_grow, grow_grow]
   congr 1
   simp
  rw [e]
  exact (Ext.alloc w o).trans0 (Ext.growL _ l)
theorem Ext.growD (w : World) (k : Nat) (os : Array Obj) : Ext F0 w (Sort.grow (w.drewN k) os) := by
 have h1 : Ext F0 w (w.drewN k) := ⟨rfl, rfl, rfl, Nat.le_refl _, fun _ _ _ => rfl, fun _ _ _ _ => rfl, fun _ _ _ _ _ h => h⟩
 have h2 := Ext.growL (w.drewN k) os.toList
 simp only [Array.toArray_toList] at h2
 exact h1.trans0 h2
theorem Ext.below {w w' : World} (h : Go.RowKit.Below w.heap.size w w') : Ext F0 w w' :=
 ⟨h.os, h.tape, h.output, h.size, fun b hb _ => h.block b hb, fun b off hb _ => by simp only [World.cell?, h.block b hb], fun b off v _ hv hs => by
   have hb := h.block b (zbz hv)
   unfold xC World.frozen? zkO at hs ⊢
   rw [hb]
   exact hs⟩
theorem GOk.tab {w : World} {F : Nat → Nat → Prop} (h : GOk w F) {P : Program} {name : String} {g : Nat} {ns : List Nat} {k : IntKind} {zs : List Int}
  (hn : P.globalNamed name = some g) (hg : zdj zfA g = some (ns.map fun n => D.int k (n : Nat))) (hz : zs = ns.map fun n => ((n : Nat) : Int)) (h2 : ns ≠ []) : Lib.TabIs P w name k zs := by
 obtain ⟨h1, _, ⟨row, t, z, h3, h4⟩, _⟩ := h g _ hg
 have hs : row.size = ns.length := by
  rcases h4 with h4 | h4
  ·rw [h4, List.length_map]
  ·match ns, h2 with
   | n :: r, _ => cases h4
 unfold Lib.TabIs World.var?
 rw [hn]
 show (match w.heap[g]? with
  | some (.cells cs _ _) => some cs
  | _ => none) = _
 rw [h3]
 dsimp only
 congr 1
 apply Array.ext_getElem?
 intro j
 subst hz
 by_cases hj : j < ns.length
 ·have hc : (ns.map fun n => D.int k (n : Nat))[j]? = some (.int k (ns[j] : Nat)) := by rw [List.getElem?_map, List.getElem?_eq_getElem hj]; rfl
  obtain ⟨b, off, e, hv⟩ := (Rep.pure (ρ := ⟨fun _ => ⟨0, 0, 0⟩, fun _ _ => False⟩) (L := []) _ _ h1).ptr_inv
  cases e
  obtain ⟨u, h5, _, h6⟩ := hv j _ hc
  cases h6
  rw [Nat.zero_add] at h5
  simp only [World.cell?, h3] at h5
  have h5 : row[j]? = _ := h5
  rw [h5]
  simp [hj]
 ·rw [Array.getElem?_eq_none (by omega)]
  simp [Nat.le_of_not_lt hj]
theorem za5.le {w : World} {F : Nat → Nat → Prop} {ρ : Pl} {L : List Ob} {ds ds' : List D} {vs : List Value} (has : LeL ds ds') (hr : za5 w F ρ L ds vs) : za5 w F ρ L ds' vs := by
 refine ⟨hr.1.trans has.1, fun i d v h1 h2 => ?_⟩
 have hlt : i < ds.length := by rw [has.1]; exact (List.getElem?_eq_some_iff.1 h1).1
 exact has.2 i _ d (List.getElem?_eq_getElem hlt) h1 _ _ _ _ _ (hr.2 i _ v (List.getElem?_eq_getElem hlt) h2)
theorem jh {P : Program} {f : Nat} {α : Type} {I : α → Prop} {A : α → List D} {R : α → D} (hc : jV P f)
  (h : ∀ p, I p → ∀ (w : World) (F : Nat → Nat → Prop), GOk w F → ∀ vs : List Value, vs.length = (A p).length → (∀ (i : Nat) d v, (A p)[i]? = some d → vs[i]? = some v → zu w F d v) →
    Calls P f vs.toArray w fun e w' => ∃ v, e = .returned v ∧ Ext F0 w w' ∧ zu w' F (R p) v) : za P f (zz I A R) := by
 refine ⟨hc, ?_⟩
 rintro av L d L' ⟨p, hI, has, rfl, rfl, rfl⟩ w ρ vs hf hr
 have hr := hr.le has
 refine (h p hI w _ hf.glob vs hr.1 fun i d v h1 h2 => zfG (hr.2 i d v h1 h2)).mono ?_
 rintro e w' ⟨v, rfl, he, hv⟩
 exact ⟨v, ρ, rfl, hf.grow he, .pure _ _ hv, he.grow, .refl _ _, .refl _ _⟩
end Go.Plat
namespace Go.Proofs
open Go.Shelf
def Tryz.laysM171_ren : Go.Shelf.Ren := ⟨fun | 171 => 11 | 243 => 24 | 246 => 38 | 283 => 61 | 284 => 62 | 285 => 63 | 286 => 64 | 129 => 80 | 317 => 79 | 318 => 81 | 319 => 82 | 320 => 83 | 337 => 97 | 338 => 98 | n => n, fun | 3 => 3 | 9 => 9 | 2 => 2 | 4 => 4 | 171 => 131 | 0 => 0 | 53 => 132 | 37 => 36 | 5 => 5 | 173 => 135 | 212 => 158 | 51 => 159 | 20 => 20 | 213 => 160 | 46 => 149 | 232 => 235 | 233 => 236 | n => n, fun | 17 => 0 | 18 => 1 | 19 => 2 | n => n⟩
theorem Tryz.laysM171 : Go.Proofs.LaysM.n171 Tryz.prog Tryz.laysM171_ren := {
 mixed := by kernel_rfl
 f129 := Tryz.func80.trans (congrArg some (by kernel_rfl))
 f171 := Tryz.func11.trans (congrArg some (by kernel_rfl))
 f243 := Tryz.func24.trans (congrArg some (by kernel_rfl))
 f246 := Tryz.func38.trans (congrArg some (by kernel_rfl))
 f283 := Tryz.func61.trans (congrArg some (by kernel_rfl))
 f284 := Tryz.func62.trans (congrArg some (by kernel_rfl))
 f285 := Tryz.func63.trans (congrArg some (by kernel_rfl))
 f286 := Tryz.func64.trans (congrArg some (by kernel_rfl))
 f317 := Tryz.func79.trans (congrArg some (by kernel_rfl))
 f318 := Tryz.func81.trans (congrArg some (by kernel_rfl))
 f319 := Tryz.func82.trans (congrArg some (by kernel_rfl))
 f320 := Tryz.func83.trans (congrArg some (by kernel_rfl))
 f337 := Tryz.func97.trans (congrArg some (by kernel_rfl))
 f338 := Tryz.func98.trans (congrArg some (by kernel_rfl))
 t0 := Tryz.underlying0
 a0 := Tryz.isAgg0
 z0 := Tryz.sizeOf0
 v0 := Tryz.zeroValue0
 t2 := Tryz.underlying2
 a2 := Tryz.isAgg2
 z2 := Tryz.sizeOf2
 v2 := Tryz.zeroValue2
 t3 := Tryz.underlying3
 a3 := Tryz.isAgg3
 z3 := Tryz.sizeOf3
 v3 := Tryz.zeroValue3
 t4 := Tryz.underlying4
 a4 := Tryz.isAgg4
 z4 := Tryz.sizeOf4
 v4 := Tryz.zeroValue4
 t5 := Tryz.underlying5
 a5 := Tryz.isAgg5
 z5 := Tryz.sizeOf5
 v5 := Tryz.zeroValue5
 t9 := Tryz.underlying9
 a9 := Tryz.isAgg9
 z9 := Tryz.sizeOf9
 v9 := Tryz.zeroValue9
 t20 := Tryz.underlying20
 a20 := Tryz.isAgg20
 z20 := Tryz.sizeOf20
 v20 := Tryz.zeroValue20
 t37 := Tryz.underlying36
 a37 := Tryz.isAgg36
 z37 := Tryz.sizeOf36
 v37 := Tryz.zeroValue36
 t46 := Tryz.underlying149
 a46 := Tryz.isAgg149
 z46 := Tryz.sizeOf149
 v46 := Tryz.zeroValue149
 t51 := Tryz.underlying159
 a51 := Tryz.isAgg159
 z51 := Tryz.sizeOf159
 v51 := Tryz.zeroValue159
 t53 := Tryz.underlying132
 a53 := Tryz.isAgg132
 z53 := Tryz.sizeOf132
 v53 := Tryz.zeroValue132
 t171 := Tryz.underlying131
 a171 := Tryz.isAgg131
 z171 := Tryz.sizeOf131
 v171 := Tryz.zeroValue131
 t173 := Tryz.underlying135
 a173 := Tryz.isAgg135
 z173 := Tryz.sizeOf135
 v173 := Tryz.zeroValue135
 t212 := Tryz.underlying158
 a212 := Tryz.isAgg158
 z212 := Tryz.sizeOf158
 v212 := Tryz.zeroValue158
 t213 := Tryz.underlying160
 a213 := Tryz.isAgg160
 z213 := Tryz.sizeOf160
 t232 := Tryz.underlying235
 a232 := Tryz.isAgg235
 z232 := Tryz.sizeOf235
 v232 := Tryz.zeroValue235
 t233 := Tryz.underlying236
 a233 := Tryz.isAgg236
 z233 := Tryz.sizeOf236
 v233 := Tryz.zeroValue236
 g17 := by kernel_rfl
 g18 := by kernel_rfl
 g19 := by kernel_rfl
 i0 := by kernel_rfl
 i2 := by kernel_rfl
 i3 := by kernel_rfl
 i4 := by kernel_rfl
 i5 := by kernel_rfl
 i9 := by kernel_rfl
 i20 := by kernel_rfl
 i37 := by kernel_rfl
 i46 := by kernel_rfl
 i51 := by kernel_rfl
 i53 := by kernel_rfl
 i171 := by kernel_rfl
 i173 := by kernel_rfl
 i212 := by kernel_rfl
 i232 := by kernel_rfl
 i233 := by kernel_rfl
 m17 := by kernel_rfl
 m18 := by kernel_rfl
 m19 := by kernel_rfl }
open Go.RowKit Go.Sort Go.Lib in
theorem Tryz.strconv_Itoa (n : Int) (h0 : -9223372036854775808 ≤ n) (h1 : n ≤ 9223372036854775807) (w : World) (htab : Lib.TabIs Tryz.prog w "internal/strconv.uint64pow10" .u64 Lib.pow10Tab) :
  Calls Tryz.prog 11 #[.int .i64 n] w fun e w' => e = .returned (.string ⟨(Lib.itoa n).toArray⟩) ∧ ∃ k os, w' = grow (w.drewN k) os := Any.strconv_Itoa Tryz.laysM171 n h0 h1 w htab
def Tryz.laysM279_ren : Go.Shelf.Ren := ⟨fun | 279 => 184 | 316 => 194 | n => n, fun | 9 => 9 | 168 => 290 | 75 => 240 | 210 => 306 | 3 => 3 | 4 => 4 | 37 => 36 | 0 => 0 | 127 => 317 | 80 => 322 | 5 => 5 | n => n, fun | 15 => 6 | n => n⟩
theorem Tryz.laysM279 : Go.Proofs.LaysM.n279 Tryz.prog Tryz.laysM279_ren := {
 mixed := by kernel_rfl
 f279 := Tryz.func184.trans (congrArg some (by kernel_rfl))
 f316 := Tryz.func194.trans (congrArg some (by kernel_rfl))
 t0 := Tryz.underlying0
 a0 := Tryz.isAgg0
 z0 := Tryz.sizeOf0
 v0 := Tryz.zeroValue0
 t3 := Tryz.underlying3
 a3 := Tryz.isAgg3
 z3 := Tryz.sizeOf3
 v3 := Tryz.zeroValue3
 t4 := Tryz.underlying4
 a4 := Tryz.isAgg4
 z4 := Tryz.sizeOf4
 v4 := Tryz.zeroValue4
 t9 := Tryz.underlying9
 a9 := Tryz.isAgg9
 z9 := Tryz.sizeOf9
 v9 := Tryz.zeroValue9
 t37 := Tryz.underlying36
 a37 := Tryz.isAgg36
 z37 := Tryz.sizeOf36
 v37 := Tryz.zeroValue36
 t75 := Tryz.underlying240
 a75 := Tryz.isAgg240
 z75 := Tryz.sizeOf240
 v75 := Tryz.zeroValue240
 t127 := Tryz.underlying317
 a127 := Tryz.isAgg317
 z127 := Tryz.sizeOf317
 v127 := Tryz.zeroValue317
 t168 := Tryz.underlying290
 a168 := Tryz.isAgg290
 z168 := Tryz.sizeOf290
 v168 := Tryz.zeroValue290
 t210 := Tryz.underlying306
 a210 := Tryz.isAgg306
 z210 := Tryz.sizeOf306
 v210 := Tryz.zeroValue306
 g15 := by kernel_rfl
 t5 := Tryz.underlying5
 a5 := Tryz.isAgg5
 z5 := Tryz.sizeOf5
 v5 := Tryz.zeroValue5
 t80 := Tryz.underlying322
 a80 := Tryz.isAgg322
 z80 := Tryz.sizeOf322
 v80 := Tryz.zeroValue322
 i0 := by kernel_rfl
 i3 := by kernel_rfl
 i4 := by kernel_rfl
 i5 := by kernel_rfl
 i9 := by kernel_rfl
 i37 := by kernel_rfl
 i75 := by kernel_rfl
 i80 := by kernel_rfl
 i127 := by kernel_rfl
 i168 := by kernel_rfl
 i210 := by kernel_rfl
 m15 := by kernel_rfl }
open Go.RowKit in
theorem Tryz.strconv_syntaxError (fn s : ByteArray) (ev : Value) (w : World) (hlim : s.size ≤ 281474976710656) (hv : w.cell? ⟨6, 0, none⟩ = some ev) (hev : ev = .nilIface ∨ ∃ te pe, ev = .iface te pe) :
  Calls Tryz.prog 184 #[.string fn, .string s] w fun e w' => ∃ N, e = .returned (.pointer (some ⟨N, 0, none⟩)) ∧ w.heap.size ≤ N ∧ w'.heap[N]? = some (.cells #[.string fn, .string s, ev] 306 (0, 0)) ∧ Below w.heap.size w w' := Any.strconv_syntaxError Tryz.laysM279 fn s ev w hlim hv hev
def Tryz.laysM280_ren : Go.Shelf.Ren := ⟨fun | 280 => 185 | 316 => 194 | n => n, fun | 9 => 9 | 168 => 290 | 75 => 240 | 210 => 306 | 3 => 3 | 4 => 4 | 37 => 36 | 0 => 0 | 127 => 317 | 80 => 322 | 5 => 5 | n => n, fun | 16 => 7 | n => n⟩
theorem Tryz.laysM280 : Go.Proofs.LaysM.n280 Tryz.prog Tryz.laysM280_ren := {
 mixed := by kernel_rfl
 f280 := Tryz.func185.trans (congrArg some (by kernel_rfl))
 f316 := Tryz.func194.trans (congrArg some (by kernel_rfl))
 t0 := Tryz.underlying0
 a0 := Tryz.isAgg0
 z0 := Tryz.sizeOf0
 v0 := Tryz.zeroValue0
 t3 := Tryz.underlying3
 a3 := Tryz.isAgg3
 z3 := Tryz.sizeOf3
 v3 := Tryz.zeroValue3
 t4 := Tryz.underlying4
 a4 := Tryz.isAgg4
 z4 := Tryz.sizeOf4
 v4 := Tryz.zeroValue4
 t9 := Tryz.underlying9
 a9 := Tryz.isAgg9
 z9 := Tryz.sizeOf9
 v9 := Tryz.zeroValue9
 t37 := Tryz.underlying36
 a37 := Tryz.isAgg36
 z37 := Tryz.sizeOf36
 v37 := Tryz.zeroValue36
 t75 := Tryz.underlying240
 a75 := Tryz.isAgg240
 z75 := Tryz.sizeOf240
 v75 := Tryz.zeroValue240
 t127 := Tryz.underlying317
 a127 := Tryz.isAgg317
 z127 := Tryz.sizeOf317
 v127 := Tryz.zeroValue317
 t168 := Tryz.underlying290
 a168 := Tryz.isAgg290
 z168 := Tryz.sizeOf290
 v168 := Tryz.zeroValue290
 t210 := Tryz.underlying306
 a210 := Tryz.isAgg306
 z210 := Tryz.sizeOf306
 v210 := Tryz.zeroValue306
 g16 := by kernel_rfl
 t5 := Tryz.underlying5
 a5 := Tryz.isAgg5
 z5 := Tryz.sizeOf5
 v5 := Tryz.zeroValue5
 t80 := Tryz.underlying322
 a80 := Tryz.isAgg322
 z80 := Tryz.sizeOf322
 v80 := Tryz.zeroValue322
 i0 := by kernel_rfl
 i3 := by kernel_rfl
 i4 := by kernel_rfl
 i5 := by kernel_rfl
 i9 := by kernel_rfl
 i37 := by kernel_rfl
 i75 := by kernel_rfl
 i80 := by kernel_rfl
 i127 := by kernel_rfl
 i168 := by kernel_rfl
 i210 := by kernel_rfl
 m16 := by kernel_rfl }
open Go.RowKit in
theorem Tryz.strconv_rangeError (fn s : ByteArray) (ev : Value) (w : World) (hlim : s.size ≤ 281474976710656) (hv : w.cell? ⟨7, 0, none⟩ = some ev) (hev : ev = .nilIface ∨ ∃ te pe, ev = .iface te pe) :
  Calls Tryz.prog 185 #[.string fn, .string s] w fun e w' => ∃ N, e = .returned (.pointer (some ⟨N, 0, none⟩)) ∧ w.heap.size ≤ N ∧ w'.heap[N]? = some (.cells #[.string fn, .string s, ev] 306 (0, 0)) ∧ Below w.heap.size w w' := Any.strconv_rangeError Tryz.laysM280 fn s ev w hlim hv hev
def Tryz.lays219_ren : Go.Shelf.Ren := ⟨fun | 219 => 166 | 217 => 178 | 225 => 179 | 224 => 180 | 267 => 181 | 266 => 192 | 314 => 193 | n => n, fun | 9 => 9 | 3 => 3 | 4 => 4 | 5 => 5 | 46 => 149 | 146 => 302 | 51 => 159 | n => n, fun | 1 => 3 | n => n⟩
theorem Tryz.lays219 : Go.Proofs.Lays.n219 Tryz.prog Tryz.lays219_ren := {
 mixed := by kernel_rfl
 f217 := Tryz.func178.trans (congrArg some (by kernel_rfl))
 f219 := Tryz.func166.trans (congrArg some (by kernel_rfl))
 f224 := Tryz.func180.trans (congrArg some (by kernel_rfl))
 f225 := Tryz.func179.trans (congrArg some (by kernel_rfl))
 f266 := Tryz.func192.trans (congrArg some (by kernel_rfl))
 f267 := Tryz.func181.trans (congrArg some (by kernel_rfl))
 f314 := Tryz.func193.trans (congrArg some (by kernel_rfl))
 t3 := Tryz.underlying3
 a3 := Tryz.isAgg3
 z3 := Tryz.sizeOf3
 v3 := Tryz.zeroValue3
 t4 := Tryz.underlying4
 a4 := Tryz.isAgg4
 z4 := Tryz.sizeOf4
 v4 := Tryz.zeroValue4
 t5 := Tryz.underlying5
 a5 := Tryz.isAgg5
 z5 := Tryz.sizeOf5
 v5 := Tryz.zeroValue5
 t9 := Tryz.underlying9
 a9 := Tryz.isAgg9
 z9 := Tryz.sizeOf9
 v9 := Tryz.zeroValue9
 t46 := Tryz.underlying149
 a46 := Tryz.isAgg149
 z46 := Tryz.sizeOf149
 v46 := Tryz.zeroValue149
 t51 := Tryz.underlying159
 a51 := Tryz.isAgg159
 z51 := Tryz.sizeOf159
 v51 := Tryz.zeroValue159
 t146 := Tryz.underlying302
 a146 := Tryz.isAgg302
 z146 := Tryz.sizeOf302
 v146 := Tryz.zeroValue302
 g1 := by kernel_rfl }
open Go.RowKit Go.Lib in
theorem Tryz.stringslite_Index_one (s : ByteArray) (c : UInt8) (w : World) :
  Calls Tryz.prog 166 #[.string s, .string ⟨#[c]⟩] w fun e w' => e = .returned (.int .i64 (Lib.indexByte s.data.toList c)) ∧ w' = w := Any.stringslite_Index_one Tryz.lays219 s c w
def Tryz.lays144_ren : Go.Shelf.Ren := ⟨fun | 144 => 137 | 143 => 133 | 219 => 166 | 217 => 178 | 225 => 179 | 224 => 180 | 267 => 181 | 266 => 192 | 314 => 193 | n => n, fun | 9 => 9 | 4 => 4 | 3 => 3 | 5 => 5 | 46 => 149 | 146 => 302 | 51 => 159 | n => n, fun | 1 => 3 | n => n⟩
theorem Tryz.lays144 : Go.Proofs.Lays.n144 Tryz.prog Tryz.lays144_ren := {
 mixed := by kernel_rfl
 f143 := Tryz.func133.trans (congrArg some (by kernel_rfl))
 f144 := Tryz.func137.trans (congrArg some (by kernel_rfl))
 f217 := Tryz.func178.trans (congrArg some (by kernel_rfl))
 f219 := Tryz.func166.trans (congrArg some (by kernel_rfl))
 f224 := Tryz.func180.trans (congrArg some (by kernel_rfl))
 f225 := Tryz.func179.trans (congrArg some (by kernel_rfl))
 f266 := Tryz.func192.trans (congrArg some (by kernel_rfl))
 f267 := Tryz.func181.trans (congrArg some (by kernel_rfl))
 f314 := Tryz.func193.trans (congrArg some (by kernel_rfl))
 t3 := Tryz.underlying3
 a3 := Tryz.isAgg3
 z3 := Tryz.sizeOf3
 v3 := Tryz.zeroValue3
 t4 := Tryz.underlying4
 a4 := Tryz.isAgg4
 z4 := Tryz.sizeOf4
 v4 := Tryz.zeroValue4
 t5 := Tryz.underlying5
 a5 := Tryz.isAgg5
 z5 := Tryz.sizeOf5
 v5 := Tryz.zeroValue5
 t9 := Tryz.underlying9
 a9 := Tryz.isAgg9
 z9 := Tryz.sizeOf9
 v9 := Tryz.zeroValue9
 t46 := Tryz.underlying149
 a46 := Tryz.isAgg149
 z46 := Tryz.sizeOf149
 v46 := Tryz.zeroValue149
 t51 := Tryz.underlying159
 a51 := Tryz.isAgg159
 z51 := Tryz.sizeOf159
 v51 := Tryz.zeroValue159
 t146 := Tryz.underlying302
 a146 := Tryz.isAgg302
 z146 := Tryz.sizeOf302
 v146 := Tryz.zeroValue302
 g1 := by kernel_rfl }
open Go.RowKit Go.Lib in
theorem Tryz.strings_Contains_one (s : ByteArray) (c : UInt8) (w : World) :
  Calls Tryz.prog 137 #[.string s, .string ⟨#[c]⟩] w fun e w' => e = .returned (.bool (decide (0 ≤ Lib.indexByte s.data.toList c))) ∧ w' = w := Any.strings_Contains_one Tryz.lays144 s c w
def Tryz.lays138_ren : Go.Shelf.Ren := ⟨fun | 138 => 132 | 195 => 163 | 218 => 165 | 143 => 133 | 219 => 166 | 217 => 178 | 225 => 179 | 224 => 180 | 267 => 181 | 266 => 192 | 314 => 193 | n => n, fun | 9 => 9 | 3 => 3 | 4 => 4 | 5 => 5 | 0 => 0 | 46 => 149 | 146 => 302 | 51 => 159 | n => n, fun | 1 => 3 | n => n⟩
theorem Tryz.lays138 : Go.Proofs.Lays.n138 Tryz.prog Tryz.lays138_ren := {
 mixed := by kernel_rfl
 f138 := Tryz.func132.trans (congrArg some (by kernel_rfl))
 f143 := Tryz.func133.trans (congrArg some (by kernel_rfl))
 f195 := Tryz.func163.trans (congrArg some (by kernel_rfl))
 f217 := Tryz.func178.trans (congrArg some (by kernel_rfl))
 f218 := Tryz.func165.trans (congrArg some (by kernel_rfl))
 f219 := Tryz.func166.trans (congrArg some (by kernel_rfl))
 f224 := Tryz.func180.trans (congrArg some (by kernel_rfl))
 f225 := Tryz.func179.trans (congrArg some (by kernel_rfl))
 f266 := Tryz.func192.trans (congrArg some (by kernel_rfl))
 f267 := Tryz.func181.trans (congrArg some (by kernel_rfl))
 f314 := Tryz.func193.trans (congrArg some (by kernel_rfl))
 t0 := Tryz.underlying0
 a0 := Tryz.isAgg0
 z0 := Tryz.sizeOf0
 v0 := Tryz.zeroValue0
 t3 := Tryz.underlying3
 a3 := Tryz.isAgg3
 z3 := Tryz.sizeOf3
 v3 := Tryz.zeroValue3
 t4 := Tryz.underlying4
 a4 := Tryz.isAgg4
 z4 := Tryz.sizeOf4
 v4 := Tryz.zeroValue4
 t5 := Tryz.underlying5
 a5 := Tryz.isAgg5
 z5 := Tryz.sizeOf5
 v5 := Tryz.zeroValue5
 t9 := Tryz.underlying9
 a9 := Tryz.isAgg9
 z9 := Tryz.sizeOf9
 v9 := Tryz.zeroValue9
 t46 := Tryz.underlying149
 a46 := Tryz.isAgg149
 z46 := Tryz.sizeOf149
 v46 := Tryz.zeroValue149
 t51 := Tryz.underlying159
 a51 := Tryz.isAgg159
 z51 := Tryz.sizeOf159
 v51 := Tryz.zeroValue159
 t146 := Tryz.underlying302
 a146 := Tryz.isAgg302
 z146 := Tryz.sizeOf302
 v146 := Tryz.zeroValue302
 g1 := by kernel_rfl }
open Go.RowKit Go.Lib in
theorem Tryz.strings_Count_one (s : ByteArray) (c : UInt8) (w : World) :
  Calls Tryz.prog 132 #[.string s, .string ⟨#[c]⟩] w fun e w' => e = .returned (.int .i64 (Lib.countByte s.data.toList c)) ∧ w' = w := Any.strings_Count_one Tryz.lays138 s c w
end Go.Proofs
namespace Go.Proofs.YtnkdeacghopkiaaGreatDoor
open Go Go.Plat
set_option linter.unusedVariables false
set_option linter.unusedSimpArgs false
set_option maxRecDepth 100000
set_option maxHeartbeats 2000000
attribute [local irreducible] AWP zN yv zU zo yC yh zG yb yf zx za zY yz zr yg yx yy yn yo zw zy zT ym yq zI vo xX x3 xW okC zJ x2
theorem zcw (c : UInt8) : ∀ s : List UInt8, (Lib.indexByte s c = -1 ∧ s.contains c = false ∧ (s.takeWhile (· != c)) = s) ∨
  (0 ≤ Lib.indexByte s c ∧ s.contains c = true ∧ Lib.indexByte s c = ((s.takeWhile (· != c)).length : Int) ∧ s.drop ((s.takeWhile (· != c)).length + 1) = (s.dropWhile (· != c)).drop 1 ∧ (s.takeWhile (· != c)).length < s.length)
 | [] => .inl ⟨rfl, rfl, rfl⟩
 | b :: l => by
  rw [Lib.indexByte]
  by_cases h : b = c
  ·subst h
   right
   rw [if_pos (by simp)]
   simp
  ·have e : (b == c) = false := beq_eq_false_iff_ne.2 h
   have e1 : (c == b) = false := beq_eq_false_iff_ne.2 fun q => h q.symm
   have e2 : (b != c) = true := by simp [bne, e]
   rw [e, List.contains_cons, e1, Bool.false_or, List.takeWhile_cons, List.dropWhile_cons, e2]
   rw [if_neg (by decide), if_pos rfl, if_pos rfl]
   rcases zcw c l with ⟨h1, h2, h3⟩ | ⟨h1, h2, h3, h4, h5⟩
   ·left
    rw [h1, h3]
    exact ⟨rfl, h2, rfl⟩
   ·right
    have e3 : (Lib.indexByte l c == -1) = false := beq_eq_false_iff_ne.2 (by omega)
    rw [e3, if_neg (by decide)]
    refine ⟨by omega, h2, ?_, ?_, ?_⟩
    ·rw [List.length_cons]; omega
    ·rw [List.length_cons, List.drop_succ_cons, h4]
    ·rw [List.length_cons, List.length_cons]; omega
theorem zq2 (c : UInt8) (s : List UInt8) : decide (0 ≤ Lib.indexByte s c) = s.contains c := by
 rcases zcw c s with ⟨h1, h2, _⟩ | ⟨h1, h2, _⟩
 ·rw [h1, h2]; rfl
 ·rw [h2, decide_eq_true h1]
theorem ke : za Tryz.prog ze6 (zz (fun _ : List UInt8 × UInt8 => True) (fun (s, c) => [.str s, .str [c]]) fun (s, c) => .bool (s.contains c)) := by
 refine jh ⟨_, Tryz.func137, by decide, rfl⟩ ?_
 rintro ⟨s, c⟩ - w F hg vs hl hv
 match vs, hl with
 | [a, b], _ =>
  cases hv 0 _ a rfl rfl
  cases hv 1 _ b rfl rfl
  refine (Go.Proofs.Tryz.strings_Contains_one ⟨s.toArray⟩ c w).mono ?_
  rintro e w' ⟨rfl, rfl⟩
  refine ⟨_, rfl, .refl _ _, ?_⟩
  show zu w' F (.bool (s.contains c)) _
  rw [← zq2 c s]
  exact .bool _
theorem zel : za Tryz.prog j9 (zz (fun _ : List UInt8 × UInt8 => True) (fun (s, c) => [.str s, .str [c]]) fun (s, c) => .int .i64 (Lib.indexByte s c)) := by
 refine jh ⟨_, Tryz.func166, by decide, rfl⟩ ?_
 rintro ⟨s, c⟩ - w F hg vs hl hv
 match vs, hl with
 | [a, b], _ =>
  cases hv 0 _ a rfl rfl
  cases hv 1 _ b rfl rfl
  refine (Go.Proofs.Tryz.stringslite_Index_one ⟨s.toArray⟩ c w).mono ?_
  rintro e w' ⟨rfl, rfl⟩
  exact ⟨_, rfl, .refl _ _, .int _ _⟩
theorem zl6 : za Tryz.prog zh9 (zz (fun _ : List UInt8 × UInt8 => True) (fun (s, c) => [.str s, .str [c]]) fun (s, c) => .int .i64 (Lib.indexByte s c)) := by
 refine ze zi Tryz.func133 rfl (by decide) ?_
 rintro ⟨s, c⟩ -
 refine ⟨Nat.le_refl _, by simp [Tryz.f133], fun E hE => ?_⟩
 refine zb _ ?_
 (all_goals refine qgp (Lf.mk ?_))
 refine zd zel (s, c) trivial (VS.mk (LeL.of_eq rfl)) ?_
 (all_goals refine qgp (Lf.mk ?_))
 exact zf (VS.mk (LeD.of_eq rfl))
theorem znO : za Tryz.prog zh8 (zz (fun _ : List UInt8 × UInt8 => True) (fun (s, c) => [.str s, .str [c]]) fun (s, c) => .int .i64 ((s.count c : Nat) : Int)) := by
 refine jh ⟨_, Tryz.func132, by decide, rfl⟩ ?_
 rintro ⟨s, c⟩ - w F hg vs hl hv
 match vs, hl with
 | [a, b], _ =>
  cases hv 0 _ a rfl rfl
  cases hv 1 _ b rfl rfl
  refine (Go.Proofs.Tryz.strings_Count_one ⟨s.toArray⟩ c w).mono ?_
  rintro e w' ⟨rfl, rfl⟩
  exact ⟨_, rfl, .refl _ _, .int _ _⟩
def zsu (c : UInt8) (s : List UInt8) : List UInt8 × List UInt8 × Bool := (s.takeWhile (· != c), (s.dropWhile (· != c)).drop 1, s.contains c)
def zsv (p : List UInt8 × List UInt8 × Bool) : D := .tup [.str p.1, .str p.2.1, .bool p.2.2]
theorem zl7 {α : Type} (p : α → Bool) (s : List α) : s.take (s.takeWhile p).length = s.takeWhile p := by
 induction s with
 | nil => rfl
 | cons a l ih =>
  rw [List.takeWhile_cons]
  split
  ·rw [List.length_cons, List.take_succ_cons, ih]
  ·rfl
theorem zde {c : UInt8} : ∀ {s : List UInt8}, s.contains c = false → s.dropWhile (· != c) = []
 | [], _ => rfl
 | b :: l, h => by
  rw [List.contains_cons, Bool.or_eq_false_iff] at h
  have e : (b != c) = true := by
   rw [bne_iff_ne]
   intro q
   rw [q] at h
   simp at h
  rw [List.dropWhile_cons, e, if_pos rfl]
  exact zde h.2
attribute [local irreducible] Lib.indexByte
theorem zpK : za Tryz.prog za9 (zz (fun ((s, c) : List UInt8 × UInt8) => s.length ≤ 1000000000) (fun (s, c) => [.str s, .str [c]]) fun (s, c) => zsv (zsu c s)) := by
 refine ze zi Tryz.func134 rfl (by decide) ?_
 rintro ⟨s, c⟩ hs
 have hs : s.length ≤ 1000000000 := hs
 refine ⟨Nat.le_refl _, by simp [Tryz.f134], fun E hE => ?_⟩
 have hi := zcw c s
 have hl1 : ([c] : List UInt8).length = 1 := rfl
 have hb : -1 ≤ Lib.indexByte s c ∧ Lib.indexByte s c ≤ s.length ∧ (0 ≤ Lib.indexByte s c → Lib.indexByte s c < s.length) := by omega
 refine zb _ ?_
 (all_goals refine qgp (Lf.mk ?_))
 refine zd zel (s, c) trivial (VS.mk (LeL.of_eq rfl)) ?_
 (all_goals refine qgp ?_ <;> (repeat' first | exact trivial | intro hc | refine And.intro ?_ ?_) <;> refine Lf.mk ?_)
 ·rcases hi with ⟨h1, _⟩ | ⟨h1, h2, h3, h4, h5⟩
  ·omega
  refine zf (VS.mk (.tup (.cons (LeD.of_eq ?_) (.cons (LeD.of_eq ?_) (.cons (LeD.tt h2) .nil)))))
  ·rw [h3, Int.toNat_natCast]
   exact congrArg D.str (zl7 _ s)
  ·rw [h3]
   exact congrArg D.str (by rw [hl1, Int.toNat_natCast, List.take_length, show (((s.takeWhile (· != c)).length : Int) + ((1 : Nat) : Int)).toNat = (s.takeWhile (· != c)).length + 1 by omega]; exact h4)
 ·rcases hi with ⟨h1, h2, h3⟩ | ⟨h1, h2, h3, h4, h5⟩
  ·refine zf (VS.mk (.tup (.cons (LeD.of_eq ?_) (.cons (LeD.of_eq ?_) (.cons (LeD.ff h2) .nil)))))
   ·exact congrArg D.str h3.symm
   ·exact congrArg D.str (by show [] = (s.dropWhile _).drop 1; rw [zde h2]; rfl)
  ·omega
theorem zq3 : za Tryz.prog zkD (zz (fun ((s, c) : List UInt8 × UInt8) => s.length ≤ 1000000000) (fun (s, c) => [.str s, .str [c]]) fun (s, c) => zsv (zsu c s)) := by
 refine ze zi Tryz.func100 rfl (by decide) ?_
 rintro ⟨s, c⟩ hs
 refine ⟨Nat.le_refl _, by simp [Tryz.f100], fun E hE => ?_⟩
 refine zb _ ?_
 (all_goals refine qgp (Lf.mk ?_))
 refine zd zpK (s, c) hs (VS.mk (LeL.of_eq rfl)) ?_
 (all_goals refine qgp (Lf.mk ?_))
 exact zf (VS.mk (LeD.of_eq rfl))
theorem ztX (a b : List UInt8) : (a == b) = decide (a = b) := by
 by_cases h : a = b
 ·rw [decide_eq_true h, h]; exact beq_self_eq_true _
 ·rw [decide_eq_false h, beq_eq_false_iff_ne.2 h]
theorem zkG : za Tryz.prog kY (zz (fun ((s, p) : List UInt8 × List UInt8) => s.length ≤ 1000000000 ∧ p.length ≤ 1000000000) (fun (s, p) => [.str s, .str p]) fun (s, p) => .bool (decide (s.take p.length = p))) := by
 refine ze zi Tryz.func169 rfl (by decide) ?_
 rintro ⟨s, p⟩ ⟨hs, hp⟩
 refine ⟨Nat.le_refl _, by simp [Tryz.f169], fun E hE => ?_⟩
 refine zb _ ?_
 (all_goals refine qgp ?_ <;> (repeat' first | exact trivial | intro hc | refine And.intro ?_ ?_) <;> refine Lf.mk ?_)
 ·exact zf (VS.mk (LeD.of_eq (congrArg D.bool (ztX _ _))))
 ·refine zf (VS.mk (LeD.ff (decide_eq_false fun h => ?_)))
  have := congrArg List.length h
  rw [List.length_take] at this
  omega
theorem zfb : za Tryz.prog zes (zz (fun ((s, p) : List UInt8 × List UInt8) => s.length ≤ 1000000000 ∧ p.length ≤ 1000000000) (fun (s, p) => [.str s, .str p]) fun (s, p) => .bool (decide (s.take p.length = p))) := by
 refine ze zi Tryz.func138 rfl (by decide) ?_
 rintro ⟨s, p⟩ h
 refine ⟨Nat.le_refl _, by simp [Tryz.f138], fun E hE => ?_⟩
 refine zb _ ?_
 (all_goals refine qgp (Lf.mk ?_))
 refine zd zkG (s, p) h (VS.mk (LeL.of_eq rfl)) ?_
 (all_goals refine qgp (Lf.mk ?_))
 exact zf (VS.mk (LeD.of_eq rfl))
end Go.Proofs.YtnkdeacghopkiaaGreatDoor
namespace Go.Proofs.YtnkdeacghopkiaaGreatDoor
open Go Go.Plat
set_option linter.unusedVariables false
set_option linter.unusedSimpArgs false
set_option maxRecDepth 100000
set_option maxHeartbeats 2000000
attribute [local irreducible] AWP zN yv zU zo yC yh zG yb yf zx za zY yz zr yg yx yy yn yo zw zy zT yN ym yq zI vo xX x3 xW okC zJ x2
def puF (b : Int) : List UInt8 → Int → Int × Int
 | [], n => (n, 0)
 | c :: r, n => if yN b c < 0 then (0, 2) else if 4294967295 < n * b + yN b c then (4294967295, 1) else puF b r (n * b + yN b c)
def puR (b : Int) (s : List UInt8) : Int × Int := if s = [] then (0, 2) else puF b s 0
theorem zuR {b : Int} (hb : b = 10 ∨ b = 16) : ∀ (s : List UInt8) (n : Int), 4294967295 < n → ∀ m, zcT b s n = some m → 4294967295 < m
 | [], n, h, m, hm => by rw [zcT] at hm; cases hm; exact h
 | c :: r, n, h, m, hm => by rw [zcT, if_pos (.inr h)] at hm; cases hm
theorem zq4 {b : Int} (hb : b = 10 ∨ b = 16) : ∀ (s : List UInt8) (n : Int), 0 ≤ n → n ≤ 4294967295 →
  ((puF b s n).2 = 0 ∧ zcT b s n = some (puF b s n).1 ∧ 0 ≤ (puF b s n).1 ∧ (puF b s n).1 ≤ 4294967295) ∨ ((puF b s n).2 ≠ 0 ∧ ∀ m, zcT b s n = some m → 4294967295 < m)
 | [], n, h0, h1 => .inl ⟨rfl, rfl, h0, h1⟩
 | c :: r, n, h0, h1 => by
  rw [puF, zcT]
  by_cases hd : yN b c < 0
  ·rw [if_pos hd, if_pos (.inl hd)]
   exact .inr ⟨by decide, fun m hm => by cases hm⟩
  ·rw [if_neg hd, if_neg (show ¬ (yN b c < 0 ∨ 4294967295 < n) by omega)]
   have := zuQ b c
   by_cases hn : 4294967295 < n * b + yN b c
   ·rw [if_pos hn]
    exact .inr ⟨by decide, zuR hb r _ hn⟩
   ·rw [if_neg hn]
    exact zq4 hb r _ (by rcases hb with rfl | rfl <;> omega) (by omega)
theorem zoB {b : Int} (hb : b = 10 ∨ b = 16) (s : List UInt8) : ((puR b s).2 = 0 ∧ zdT b s = ((puR b s).1, true) ∧ 0 ≤ (puR b s).1 ∧ (puR b s).1 ≤ 4294967295) ∨ ((puR b s).2 ≠ 0 ∧ (zdT b s).2 = false) := by
 unfold puR zdT
 by_cases h : s = []
 ·subst h
  right
  rw [if_pos rfl]
  exact ⟨by decide, by simp [zcT, zq0]⟩
 rw [if_neg h]
 rcases zq4 hb s 0 (by decide) (by decide) with ⟨h1, h2, h3, h4⟩ | ⟨h1, h2⟩
 ·left
  rw [h2]
  refine ⟨h1, ?_, h3, h4⟩
  show ((puF b s 0).1, decide ((puF b s 0).1 < 4294967296 ∧ s ≠ [])) = _
  rw [decide_eq_true ⟨by omega, h⟩]
 ·right
  refine ⟨h1, ?_⟩
  cases hm : zcT b s 0 with
  | none => rfl
  | some m =>
   have := h2 m hm
   show decide (m < 4294967296 ∧ s ≠ []) = false
   rw [decide_eq_false (by rintro ⟨q, _⟩; omega)]
theorem zl8 (b : Int) : ∀ (s : List UInt8) (n : Int), (puF b s n).2 = 0 ∨ (puF b s n).2 = 1 ∨ (puF b s n).2 = 2
 | [], n => .inl rfl
 | c :: r, n => by
  rw [puF]
  split
  ·exact .inr (.inr rfl)
  split
  ·exact .inr (.inl rfl)
  ·exact zl8 b r _
theorem ztY (b : Int) (s : List UInt8) : (puR b s).2 = 0 ∨ (puR b s).2 = 1 ∨ (puR b s).2 = 2 := by
 unfold puR
 split
 ·exact .inr (.inr rfl)
 ·exact zl8 b s 0
def wS (c : UInt8) : UInt8 := c ||| 32
theorem ztZ : ∀ k : Fin 256, (97 ≤ (wS (UInt8.ofNat k.val)).toNat ∧ (wS (UInt8.ofNat k.val)).toNat ≤ 122 → ¬ (48 ≤ k.val ∧ k.val ≤ 57) ∧ ((wS (UInt8.ofNat k.val)).toNat ≤ 102 ∧ yN 16 (UInt8.ofNat k.val) = (wS (UInt8.ofNat k.val)).toNat - 87 ∨ (103 ≤ (wS (UInt8.ofNat k.val)).toNat ∧ yN 16 (UInt8.ofNat k.val) = -1)) ∧ yN 10 (UInt8.ofNat k.val) = -1) ∧
  (48 ≤ k.val ∧ k.val ≤ 57 → yN 16 (UInt8.ofNat k.val) = k.val - 48 ∧ yN 10 (UInt8.ofNat k.val) = k.val - 48) ∧
  (¬ (97 ≤ (wS (UInt8.ofNat k.val)).toNat ∧ (wS (UInt8.ofNat k.val)).toNat ≤ 122) → ¬ (48 ≤ k.val ∧ k.val ≤ 57) → yN 16 (UInt8.ofNat k.val) = -1 ∧ yN 10 (UInt8.ofNat k.val) = -1) := by decide +kernel
theorem zoC (c : UInt8) : (97 ≤ (wS c).toNat ∧ (wS c).toNat ≤ 122 → ¬ (48 ≤ c.toNat ∧ c.toNat ≤ 57) ∧ ((wS c).toNat ≤ 102 ∧ yN 16 c = (wS c).toNat - 87 ∨ (103 ≤ (wS c).toNat ∧ yN 16 c = -1)) ∧ yN 10 c = -1) ∧
  (48 ≤ c.toNat ∧ c.toNat ≤ 57 → yN 16 c = c.toNat - 48 ∧ yN 10 c = c.toNat - 48) ∧
  (¬ (97 ≤ (wS c).toNat ∧ (wS c).toNat ≤ 122) → ¬ (48 ≤ c.toNat ∧ c.toNat ≤ 57) → yN 16 c = -1 ∧ yN 10 c = -1) := by
 have := ztZ ⟨c.toNat, c.toNat_lt⟩
 simp only [UInt8.ofNat_toNat] at this
 exact this
theorem zvJ (c : UInt8) : zT .or .u8 (c.toNat : Int) 32 = ((wS c).toNat : Int) := by
 have : ∀ k : Fin 256, zT .or .u8 ((UInt8.ofNat k.val).toNat : Int) 32 = ((wS (UInt8.ofNat k.val)).toNat : Int) := by decide +kernel
 have := this ⟨c.toNat, c.toNat_lt⟩
 simp only [UInt8.ofNat_toNat] at this
 exact this
theorem qz : za Tryz.prog zb0 (zz (fun _ : UInt8 => True) (fun c => [zA c]) fun c => zA (wS c)) := by
 refine ze zi Tryz.func182 rfl (by decide) fun c _ => ?_
 refine ⟨Nat.le_refl _, by simp [Tryz.f182], fun E hE => ?_⟩
 refine zb _ ?_
 (all_goals refine qgp (Lf.mk ?_))
 refine wK (zvJ c) ?_
 (all_goals refine qgp (Lf.mk ?_))
 exact zf (VS.mk (LeD.of_eq rfl))
attribute [local irreducible] wS
def puD (p : Int × Int) : D := .tup [.int .u64 p.1, if p.2 = 0 then .nilif else .iface 288 (.int .i64 p.2)]
theorem zie {K : D → Prop} (h : K (.int .u64 4294967296)) : yn .u64 1 32 K := by
 unfold yn
 refine ⟨by decide, ?_⟩
 have e : IntKind.u64.wrap (1 * 2 ^ (min (32 : Int).toNat IntKind.u64.bits)) = 4294967296 := by decide
 rw [e]; exact h
theorem zjf : za Tryz.prog zaa (zz (fun ((s, b) : List UInt8 × Int) => s.length ≤ 1000000000 ∧ (b = 10 ∨ b = 16)) (fun (s, b) => [.str s, .int .i64 b, .int .i64 32]) fun (s, b) => puD (puR b s)) := by
 refine ze zi Tryz.func167 rfl (by decide) ?_
 rintro ⟨s, b⟩ ⟨hs, hb⟩
 refine ⟨Nat.le_refl _, by simp [Tryz.f167], fun E hE => ?_⟩
 rcases hb with rfl | rfl
 ·refine zb _ ?_
  have hP : s ≠ [] → puR 10 s = puF 10 (s.drop 0) 0 := fun h => by unfold puR; rw [if_neg h]; rfl
  (all_goals refine qgp ?_ <;> (repeat' first | exact trivial | intro hc | refine And.intro ?_ ?_) <;> refine Lf.mk ?_)
  all_goals first
   | (exfalso; refine absurd trivial ?_; assumption)
   | (exact zf (VS.mk (LeD.of_eq (by show _ = puD (puR _ _); unfold puR; rw [if_pos hc]; rfl))))
   | skip
  refine qq (by decide) (by decide) ?_
  (all_goals refine qgp (Lf.mk ?_))
  refine zie ?_
  (all_goals refine qgp (Lf.mk ?_))
  refine qq (by decide) (by decide) ?_
  (all_goals refine qgp (Lf.mk ?_))
  have hP := hP (by assumption)
  refine yu (α := Nat × Int) (fun p => p.1 ≤ s.length ∧ puR 10 s = puF 10 (s.drop p.1) p.2 ∧ 0 ≤ p.2 ∧ p.2 ≤ 4294967295)
   (fun p => [(1, .int .i64 10), (8, .bool false), (9, .str s), (10, .int .u64 1844674407370955162), (11, .int .u64 4294967295), (12, .ff), (13, .int .u64 p.2), (99, .sl 1 (s.map zA) none), (100, .int .i64 s.length), (101, .int .i64 p.1)])
   (fun _ => []) (fun p => s.length - p.1) (fun _ => by simp [hE]) (0, 0) ⟨Nat.zero_le _, hP, by decide, by decide⟩ ?_ ?_
  ·(repeat' (first | (refine VS.mk ?_) | exact trivial | exact rfl | refine And.intro ?_ ?_))
  rintro ⟨k, n⟩ ⟨hk, hf, hn0, hn1⟩
  dsimp only at hk hf hn0 hn1 ⊢
  have hlast : k = s.length → puD (puR 10 s) = .tup [.int .u64 n, .nilif] := fun h => by rw [hf, h, List.drop_length]; rfl
  have hstep : k < s.length → puR 10 s = if yN 10 (s.getD k 0) < 0 then (0, 2) else if 4294967295 < n * 10 + yN 10 (s.getD k 0) then (4294967295, 1) else puF 10 (s.drop (k + 1)) (n * 10 + yN 10 (s.getD k 0)) := fun h => by
   rw [hf, zcu (d := 0) h, puF]
  have hd := zoC (s.getD k 0)
  have hq := (s.getD k 0).toNat_lt
  have hq2 := (wS (s.getD k 0)).toNat_lt
  have hbB : (zt 10).toNat = 10 := by decide
  have h48 := yD (((s.getD k 0).toNat : Int) - 48)
  have h97 := yD (((wS (s.getD k 0)).toNat : Int) - 97)
  have h10 := yD (((zt (((wS (s.getD k 0)).toNat : Int) - 97)).toNat : Int) + 10)
  generalize yN 10 (s.getD k 0) = dv at *
  generalize yN 16 (s.getD k 0) = dx at *
  refine zb _ ?_
  (all_goals refine qgp ?_ <;> (repeat' first | exact trivial | intro hc | refine And.intro ?_ ?_) <;> refine Lf.mk ?_)
  all_goals (try refine zd qz (s.getD k 0) trivial (VS.mk (LeL.of_eq rfl)) ?_)
  (all_goals refine qgp ?_ <;> (repeat' first | exact trivial | intro hc | refine And.intro ?_ ?_) <;> refine Lf.mk ?_)
  all_goals (try refine zd qz (s.getD k 0) trivial (VS.mk (LeL.of_eq rfl)) ?_)
  (all_goals refine qgp ?_ <;> (repeat' first | exact trivial | intro hc | refine And.intro ?_ ?_) <;> refine Lf.mk ?_)
  all_goals (try refine zd qz (s.getD k 0) trivial (VS.mk (LeL.of_eq rfl)) ?_)
  (all_goals refine qgp ?_ <;> (repeat' first | exact trivial | intro hc | refine And.intro ?_ ?_) <;> refine Lf.mk ?_)
  all_goals first
   | (refine absurd hc ?_; decide)
   | (refine zf (VS.mk (LeD.of_eq ?_)); rw [hstep (by omega), if_pos (by omega)]; rfl)
   | skip
  all_goals (try refine qq (by omega) (by omega) ?_)
  (all_goals refine qgp (Lf.mk ?_))
  all_goals (try refine qq (by omega) (by omega) ?_)
  (all_goals refine qgp (Lf.mk ?_))
  all_goals (try refine qq (by omega) (by omega) ?_)
  (all_goals refine qgp (Lf.mk ?_))
  all_goals (try refine qq (by omega) (by omega) ?_)
  (all_goals refine qgp ?_ <;> (repeat' first | exact trivial | intro hc | refine And.intro ?_ ?_) <;> refine Lf.mk ?_)
  all_goals first
   | (refine zf (VS.mk (LeD.of_eq ?_)); rw [hstep (by omega), if_neg (by omega), if_pos (by omega)]; rfl)
   | (exact zf (VS.mk (LeD.of_eq (hlast (by omega)).symm)))
   | skip
  all_goals
   have hk1 := hstep (by omega)
   rw [if_neg (by omega), if_neg (by omega)] at hk1
   refine zL (k + 1, n * 10 + dv) ⟨by dsimp only; omega, hk1, by dsimp only; omega, by dsimp only; omega⟩ (by dsimp only; omega) ?_
   (repeat' (first | (refine VS.mk ?_) | exact trivial | exact rfl | refine And.intro ?_ ?_))
   all_goals (first | rfl | (refine congrArg (D.int .u64) ?_; omega))
 ·refine zb _ ?_
  have hP : s ≠ [] → puR 16 s = puF 16 (s.drop 0) 0 := fun h => by unfold puR; rw [if_neg h]; rfl
  (all_goals refine qgp ?_ <;> (repeat' first | exact trivial | intro hc | refine And.intro ?_ ?_) <;> refine Lf.mk ?_)
  all_goals first
   | (exfalso; refine absurd trivial ?_; assumption)
   | (exact zf (VS.mk (LeD.of_eq (by show _ = puD (puR _ _); unfold puR; rw [if_pos hc]; rfl))))
   | skip
  refine qq (by decide) (by decide) ?_
  (all_goals refine qgp (Lf.mk ?_))
  refine zie ?_
  (all_goals refine qgp (Lf.mk ?_))
  refine qq (by decide) (by decide) ?_
  (all_goals refine qgp (Lf.mk ?_))
  have hP := hP (by assumption)
  refine yu (α := Nat × Int) (fun p => p.1 ≤ s.length ∧ puR 16 s = puF 16 (s.drop p.1) p.2 ∧ 0 ≤ p.2 ∧ p.2 ≤ 4294967295)
   (fun p => [(1, .int .i64 16), (8, .bool false), (9, .str s), (10, .int .u64 1152921504606846976), (11, .int .u64 4294967295), (12, .ff), (13, .int .u64 p.2), (99, .sl 1 (s.map zA) none), (100, .int .i64 s.length), (101, .int .i64 p.1)])
   (fun _ => []) (fun p => s.length - p.1) (fun _ => by simp [hE]) (0, 0) ⟨Nat.zero_le _, hP, by decide, by decide⟩ ?_ ?_
  ·(repeat' (first | (refine VS.mk ?_) | exact trivial | exact rfl | refine And.intro ?_ ?_))
  rintro ⟨k, n⟩ ⟨hk, hf, hn0, hn1⟩
  dsimp only at hk hf hn0 hn1 ⊢
  have hlast : k = s.length → puD (puR 16 s) = .tup [.int .u64 n, .nilif] := fun h => by rw [hf, h, List.drop_length]; rfl
  have hstep : k < s.length → puR 16 s = if yN 16 (s.getD k 0) < 0 then (0, 2) else if 4294967295 < n * 16 + yN 16 (s.getD k 0) then (4294967295, 1) else puF 16 (s.drop (k + 1)) (n * 16 + yN 16 (s.getD k 0)) := fun h => by
   rw [hf, zcu (d := 0) h, puF]
  have hd := zoC (s.getD k 0)
  have hq := (s.getD k 0).toNat_lt
  have hq2 := (wS (s.getD k 0)).toNat_lt
  have hbB : (zt 16).toNat = 16 := by decide
  have h48 := yD (((s.getD k 0).toNat : Int) - 48)
  have h97 := yD (((wS (s.getD k 0)).toNat : Int) - 97)
  have h10 := yD (((zt (((wS (s.getD k 0)).toNat : Int) - 97)).toNat : Int) + 10)
  generalize yN 10 (s.getD k 0) = dv at *
  generalize yN 16 (s.getD k 0) = dx at *
  refine zb _ ?_
  (all_goals refine qgp ?_ <;> (repeat' first | exact trivial | intro hc | refine And.intro ?_ ?_) <;> refine Lf.mk ?_)
  all_goals (try refine zd qz (s.getD k 0) trivial (VS.mk (LeL.of_eq rfl)) ?_)
  (all_goals refine qgp ?_ <;> (repeat' first | exact trivial | intro hc | refine And.intro ?_ ?_) <;> refine Lf.mk ?_)
  all_goals (try refine zd qz (s.getD k 0) trivial (VS.mk (LeL.of_eq rfl)) ?_)
  (all_goals refine qgp ?_ <;> (repeat' first | exact trivial | intro hc | refine And.intro ?_ ?_) <;> refine Lf.mk ?_)
  all_goals (try refine zd qz (s.getD k 0) trivial (VS.mk (LeL.of_eq rfl)) ?_)
  (all_goals refine qgp ?_ <;> (repeat' first | exact trivial | intro hc | refine And.intro ?_ ?_) <;> refine Lf.mk ?_)
  all_goals first
   | (refine absurd hc ?_; decide)
   | (refine zf (VS.mk (LeD.of_eq ?_)); rw [hstep (by omega), if_pos (by omega)]; rfl)
   | skip
  all_goals (try refine qq (by omega) (by omega) ?_)
  (all_goals refine qgp (Lf.mk ?_))
  all_goals (try refine qq (by omega) (by omega) ?_)
  (all_goals refine qgp (Lf.mk ?_))
  all_goals (try refine qq (by omega) (by omega) ?_)
  (all_goals refine qgp (Lf.mk ?_))
  all_goals (try refine qq (by omega) (by omega) ?_)
  (all_goals refine qgp ?_ <;> (repeat' first | exact trivial | intro hc | refine And.intro ?_ ?_) <;> refine Lf.mk ?_)
  all_goals first
   | (refine zf (VS.mk (LeD.of_eq ?_)); rw [hstep (by omega), if_neg (by omega), if_pos (by omega)]; rfl)
   | (exact zf (VS.mk (LeD.of_eq (hlast (by omega)).symm)))
   | skip
  all_goals
   have hk1 := hstep (by omega)
   rw [if_neg (by omega), if_neg (by omega)] at hk1
   refine zL (k + 1, n * 16 + dx) ⟨by dsimp only; omega, hk1, by dsimp only; omega, by dsimp only; omega⟩ (by dsimp only; omega) ?_
   (repeat' (first | (refine VS.mk ?_) | exact trivial | exact rfl | refine And.intro ?_ ?_))
   all_goals (first | rfl | (refine congrArg (D.int .u64) ?_; omega))
end Go.Proofs.YtnkdeacghopkiaaGreatDoor
namespace Go.Proofs.YtnkdeacghopkiaaGreatDoor
open Go Go.Plat
set_option linter.unusedVariables false
set_option linter.unusedSimpArgs false
set_option maxRecDepth 100000
set_option maxHeartbeats 2000000
attribute [local irreducible] AWP zN yv zU zo yC yh zG yb yf zx za zY yz zr yg yx yy yn yo zw zy zT ym yq zI vo xX x3 xW okC x2
def rdO (s : List UInt8) (i : Nat) : List Ob := [.cells [.str s, .int .i64 (i : Nat)]]
theorem zdV {g : Nat} {p : UInt8 → Bool} (hg : za Tryz.prog g (zz (fun _ : UInt8 => True) (fun c => [zA c]) fun c => .bool (p c))) :
  za Tryz.prog zgb (z1 (fun ((s, i) : List UInt8 × Nat) => i ≤ s.length ∧ s.length ≤ 1000000000) (fun _ => [.loc 0 0, .fn g []]) (fun (s, i) => rdO s i)
   (fun (s, i) => .str ((s.take (i + zJ p (s.drop i))).drop i)) fun (s, i) => rdO s (i + zJ p (s.drop i))) := by
 refine ze zi Tryz.func101 rfl (by decide) ?_
 rintro ⟨s, i⟩ ⟨hi, hs⟩
 refine ⟨Nat.le_refl _, by simp [Tryz.f101], fun E hE => ?_⟩
 refine zb _ ?_
 (all_goals refine qgp (Lf.mk ?_))
 refine yu (α := Nat) (fun k => i ≤ k ∧ k ≤ s.length ∧ ∀ j, j < k - i → p ((s.drop i).getD j 0) = true)
  (fun k => [(0, .loc 0 0), (1, .fn g []), (5, .int .i64 i)])
  (fun k => rdO s k) (fun k => s.length - k) (fun _ => by simp [hE, rdO]) i ⟨Nat.le_refl _, by omega, fun j h => absurd h (by omega)⟩ ?_ ?_
 ·(repeat' (first | (refine VS.mk ?_) | exact trivial | exact rfl | refine And.intro ?_ ?_))
 rintro k ⟨hik, hks, hall⟩
 have hget : (s.drop i).getD (k - i) 0 = s.getD k 0 := by rw [List.getD_eq_getElem?_getD, List.getElem?_drop, List.getD_eq_getElem?_getD, show i + (k - i) = k by omega]
 have hend : (k < s.length → p (s.getD k 0) = false) → k = i + zJ p (s.drop i) := fun h => by
  have := ztV (p := p) (l := s.drop i) (k := k - i) (by rw [List.length_drop]; omega) hall fun hl => by rw [hget]; exact h (by rw [List.length_drop] at hl; omega)
  omega
 have hmore : p (s.getD k 0) = true → ∀ j, j < k + 1 - i → p ((s.drop i).getD j 0) = true := fun h j hj => by
  by_cases e : j = k - i
  ·rw [e, hget]; exact h
  ·exact hall j (by omega)
 refine zb _ ?_
 (all_goals refine qgp ?_ <;> (repeat' first | exact trivial | intro hc | refine And.intro ?_ ?_) <;> refine Lf.mk ?_)
 ·refine zd hg (s.getD k 0) trivial (VS.mk (LeL.of_eq (by rw [Int.toNat_natCast]; rfl))) ?_
  (all_goals refine qgp ?_ <;> (repeat' first | exact trivial | intro hc | refine And.intro ?_ ?_) <;> refine Lf.mk ?_)
  ·have hm := hmore hc
   refine zL (k + 1) ⟨by omega, by omega, hm⟩ (by omega) ?_
   (repeat' (first | (refine VS.mk ?_) | exact trivial | exact rfl | refine And.intro ?_ ?_))
  ·have e := hend fun _ => by simpa using hc
   refine yk (And.intro (VS.mk ?_) (VS.mk ?_))
   ·show D.str _ = D.str ((s.take (i + zJ p (s.drop i))).drop i)
    rw [← e, Int.toNat_natCast, Int.toNat_natCast]
   ·show rdO s k = rdO s (i + zJ p (s.drop i))
    rw [← e]
 ·have e := hend fun h => absurd h (by omega)
  refine yk (And.intro (VS.mk ?_) (VS.mk ?_))
  ·show D.str _ = D.str ((s.take (i + zJ p (s.drop i))).drop i)
   rw [← e, Int.toNat_natCast, Int.toNat_natCast]
  ·show rdO s k = rdO s (i + zJ p (s.drop i))
   rw [← e]
attribute [local irreducible] yN puF puR zJ
theorem zl9 : za Tryz.prog zdb (zz (fun ((a, s) : List UInt8 × List UInt8) => s.length ≤ 1000000000) (fun (a, s) => [.str a, .str s]) fun _ => .any) := by
 refine jh ⟨_, Tryz.func184, by decide, rfl⟩ ?_
 rintro ⟨a, s⟩ hs w F hg vs hl hv
 have hs : s.length ≤ 1000000000 := hs
 match vs, hl with
 | [x, y], _ =>
  cases hv 0 _ x rfl rfl
  cases hv 1 _ y rfl rfl
  obtain ⟨u, v, hcell⟩ := (hg 6 _ (by kernel_rfl)).2.2.2 rfl
  refine (Go.Proofs.Tryz.strconv_syntaxError ⟨a.toArray⟩ ⟨s.toArray⟩ _ w (by show s.toArray.size ≤ _; simp; omega) hcell (.inr ⟨_, _, rfl⟩)).mono ?_
  rintro e w' ⟨N, rfl, _, _, hb⟩
  exact ⟨_, rfl, .below hb, .any _⟩
theorem zma : za Tryz.prog zdR (zz (fun ((a, s) : List UInt8 × List UInt8) => s.length ≤ 1000000000) (fun (a, s) => [.str a, .str s]) fun _ => .any) := by
 refine jh ⟨_, Tryz.func185, by decide, rfl⟩ ?_
 rintro ⟨a, s⟩ hs w F hg vs hl hv
 have hs : s.length ≤ 1000000000 := hs
 match vs, hl with
 | [x, y], _ =>
  cases hv 0 _ x rfl rfl
  cases hv 1 _ y rfl rfl
  obtain ⟨u, v, hcell⟩ := (hg 7 _ (by kernel_rfl)).2.2.2 rfl
  refine (Go.Proofs.Tryz.strconv_rangeError ⟨a.toArray⟩ ⟨s.toArray⟩ _ w (by show s.toArray.size ≤ _; simp; omega) hcell (.inr ⟨_, _, rfl⟩)).mono ?_
  rintro e w' ⟨N, rfl, _, _, hb⟩
  exact ⟨_, rfl, .below hb, .any _⟩
theorem zgs : za Tryz.prog zgc (zz (fun ((a, s, b, c, e) : List UInt8 × List UInt8 × Int × Int × Int) => s.length ≤ 1000000000 ∧ (e = 1 ∨ e = 2)) (fun (a, s, b, c, e) => [.str a, .str s, .int .i64 b, .int .i64 c, .iface 288 (.int .i64 e)])
  fun _ => .iface 290 .any) := by
 refine ze zi Tryz.func168 rfl (by decide) ?_
 rintro ⟨a, s, b, c, e⟩ ⟨hs, he⟩
 refine ⟨Nat.le_refl _, by simp [Tryz.f168], fun E hE => ?_⟩
 rcases he with rfl | rfl
 all_goals
  refine zb _ ?_
  (all_goals refine qgp (Lf.mk ?_))
  all_goals (try refine zom (by kernel_rfl) ?_)
  (all_goals refine qgp ?_ <;> (repeat' first | exact trivial | intro hc | refine And.intro ?_ ?_) <;> refine Lf.mk ?_)
  all_goals first
   | (exfalso; refine absurd trivial ?_; assumption)
   | skip
  all_goals (try refine zom (by kernel_rfl) ?_)
  (all_goals refine qgp ?_ <;> (repeat' first | exact trivial | intro hc | refine And.intro ?_ ?_) <;> refine Lf.mk ?_)
  all_goals first
   | (exfalso; refine absurd trivial ?_; assumption)
   | skip
  all_goals first
   | (refine zd zl9 (a, s) hs (VS.mk (LeL.of_eq rfl)) ?_)
   | (refine zd zma (a, s) hs (VS.mk (LeL.of_eq rfl)) ?_)
   | skip
  (all_goals refine qgp (Lf.mk ?_))
  all_goals first
   | exact zf (VS.mk (LeD.of_eq rfl))
   | (exfalso; refine absurd hc ?_; decide)
   | skip
theorem k8 : za Tryz.prog zer (zz (fun ((s, b) : List UInt8 × Int) => s.length ≤ 1000000000 ∧ (b = 10 ∨ b = 16)) (fun (s, b) => [.str s, .int .i64 b, .int .i64 32])
  fun (s, b) => .tup [.int .u64 (puR b s).1, if (puR b s).2 = 0 then .nilif else .iface 290 .any]) := by
 refine ze zi Tryz.func136 rfl (by decide) ?_
 rintro ⟨s, b⟩ ⟨hs, hb⟩
 refine ⟨Nat.le_refl _, by simp [Tryz.f136], fun E hE => ?_⟩
 have hcode := ztY b s
 refine zb _ ?_
 (all_goals refine qgp (Lf.mk ?_))
 refine zd zjf (s, b) ⟨hs, hb⟩ (VS.mk (LeL.of_eq rfl)) ?_
 dsimp only
 generalize puR b s = R at *
 obtain ⟨n, e⟩ := R
 dsimp only at hcode
 unfold puD
 dsimp only
 by_cases he : e = 0
 ·rw [if_pos he, if_pos he]
  (all_goals refine qgp ?_ <;> (repeat' first | exact trivial | intro hc | refine And.intro ?_ ?_) <;> refine Lf.mk ?_)
  all_goals first
   | (exfalso; exact Bool.noConfusion hc)
   | skip
  exact zf (VS.mk (LeD.of_eq rfl))
 ·rw [if_neg he, if_neg he]
  (all_goals refine qgp ?_ <;> (repeat' first | exact trivial | intro hc | refine And.intro ?_ ?_) <;> refine Lf.mk ?_)
  all_goals first
   | (exfalso; exact Bool.noConfusion hc)
   | (exfalso; refine absurd hc ?_; decide)
   | skip
  refine zd zgs ([80, 97, 114, 115, 101, 85, 105, 110, 116], s, b, 32, e) ⟨hs, by omega⟩ (VS.mk (LeL.of_eq rfl)) ?_
  (all_goals refine qgp (Lf.mk ?_))
  exact zf (VS.mk (LeD.of_eq rfl))
end Go.Proofs.YtnkdeacghopkiaaGreatDoor
namespace Go.Proofs.YtnkdeacghopkiaaGreatDoor
open Go Go.Plat
set_option linter.unusedVariables false
set_option linter.unusedSimpArgs false
set_option maxRecDepth 100000
set_option maxHeartbeats 2000000
attribute [local irreducible] AWP zN yv zU zo yC yh zG yb yf zx za zY yz zr yg yx yy yn yo zw zy zT ym yq zI yQ okC
end Go.Proofs.YtnkdeacghopkiaaGreatDoor
namespace Go.Proofs.YtnkdeacghopkiaaGreatDoor
open Go Go.Plat
set_option linter.unusedVariables false
set_option linter.unusedSimpArgs false
set_option maxRecDepth 100000
set_option maxHeartbeats 2000000
attribute [local irreducible] AWP zN yv zU zo yC yh zG yb yf zx za zY yz zr yg yx yy yn yo zw zy zT ym yq zI vo xX x3 xW okC x2
def xH (c : UInt8) : Bool := decide (yq c = 32)
theorem zmb : ∀ (l : List UInt8) (out : List yJ), xX l out = xX (l.drop (zJ xH l)) out
 | [], out => rfl
 | c :: r, out => by
  rw [zJ]
  by_cases h : xH c = true
  ·rw [if_pos h, List.drop_succ_cons, vy, if_pos (of_decide_eq_true h)]
   exact zmb r out
  ·rw [if_neg h, List.drop_zero]
theorem zg6 {p q : UInt8 → Bool} (h : ∀ c, p c = true → q c = true) : ∀ l : List UInt8, zJ p (l.takeWhile q) = zJ p l ∧ (l.takeWhile q).drop (zJ p l) = (l.drop (zJ p l)).takeWhile q ∧ (l.takeWhile q).take (zJ p l) = l.take (zJ p l)
 | [] => ⟨rfl, rfl, rfl⟩
 | c :: r => by
  obtain ⟨h1, h2, h3⟩ := zg6 h r
  rw [List.takeWhile_cons]
  by_cases hp : p c = true
  ·rw [h c hp, if_pos rfl]
   have e : ∀ x : List UInt8, zJ p (c :: x) = zJ p x + 1 := fun x => by rw [zJ, if_pos hp]
   rw [e, e, h1]
   refine ⟨rfl, ?_, ?_⟩
   ·rw [List.drop_succ_cons, List.drop_succ_cons, h2]
   ·rw [List.take_succ_cons, List.take_succ_cons, h3]
  ·have e : ∀ x : List UInt8, zJ p (c :: x) = 0 := fun x => by rw [zJ, if_neg hp]
   rw [e]
   refine ⟨?_, ?_, ?_⟩
   ·split
    ·exact e _
    ·rfl
   ·rw [List.drop_zero, List.drop_zero, List.takeWhile_cons]
   ·rw [List.take_zero, List.take_zero]
theorem zt0 (c : UInt8) (h : x2 c = true) : (c != 59) = true := by
 rw [bne_iff_ne]
 rintro rfl
 exact absurd h (by decide +kernel)
theorem zuS (c : UInt8) (h : x3 c = true) : (c != 59) = true := by
 rw [bne_iff_ne]
 rintro rfl
 exact absurd h (by decide +kernel)
theorem zoD : ∀ (n : Nat) (l : List UInt8) (out : List yJ), l.length ≤ n → xX l out = xX (l.takeWhile (· != 59)) out
 | _, [], out, _ => rfl
 | 0, _ :: _, out, h => by simp at h
 | n + 1, c :: r, out, h => by
  have h : r.length ≤ n := by simpa using h
  have ih := zoD n
  have hd : ∀ k, 1 ≤ k → ((c :: r).drop k).length ≤ n := fun k hk => by rw [List.length_drop, List.length_cons]; omega
  by_cases h59 : c = 59
  ·subst h59
   rw [List.takeWhile_cons, if_neg (by decide), vy, if_neg (by decide +kernel), if_neg (by decide +kernel), if_neg (by decide +kernel), if_pos rfl, zl5]
  have e : (c :: r).takeWhile (· != 59) = c :: r.takeWhile (· != 59) := by rw [List.takeWhile_cons, if_pos (by rw [bne_iff_ne]; exact h59)]
  rw [vy]
  by_cases h1 : yq c = 32
  ·rw [if_pos h1, e, vy, if_pos h1]
   exact ih _ _ h
  rw [if_neg h1]
  by_cases h2 : yq c = 97
  ·obtain ⟨q1, q2, q3⟩ := zg6 zt0 (c :: r)
   rw [if_pos h2, ih _ _ (hd _ (zbm h2)), ← q2, ← q3, ← q1, e]
   rw [vy, if_neg h1, if_pos h2]
  rw [if_neg h2]
  by_cases h3 : yq c = 48
  ·obtain ⟨q1, q2, q3⟩ := zg6 zuS (c :: r)
   rw [if_pos h3, ih _ _ (hd _ (zcv h3)), ← q2, ← q3, ← q1, e]
   rw [vy c (r.takeWhile _), if_neg h1, if_neg h2, if_pos h3]
  rw [if_neg h3, if_neg h59]
  have hs : ∀ x : UInt8, x ≠ 59 → ((c :: r).take 2 = [x, x] ↔ (c :: r.takeWhile (· != 59)).take 2 = [x, x]) ∧ ((c :: r).take 2 = [x, x] → (r.drop 1).takeWhile (· != 59) = (r.takeWhile (· != 59)).drop 1) := fun x hx => by
   cases r with
   | nil => exact ⟨Iff.rfl, fun _ => rfl⟩
   | cons b r =>
    rw [List.takeWhile_cons]
    by_cases hb : b = 59
    ·subst hb
     refine ⟨⟨fun h => ?_, fun h => ?_⟩, fun h => ?_⟩
     ·exact absurd (List.cons.inj (List.cons.inj h).2).1.symm hx
     ·rw [if_neg (by decide)] at h; cases (List.cons.inj h).2
     ·exact absurd (List.cons.inj (List.cons.inj h).2).1.symm hx
    ·rw [if_pos (by rw [bne_iff_ne]; exact hb)]
     exact ⟨Iff.rfl, fun _ => rfl⟩
  obtain ⟨s1, s2⟩ := hs 60 (by decide)
  obtain ⟨s3, s4⟩ := hs 62 (by decide)
  have hr1 : (r.drop 1).length ≤ n := by rw [List.length_drop]; omega
  by_cases h4 : (c :: r).take 2 = [60, 60] ∨ (c :: r).take 2 = [62, 62]
  ·have e2 : (r.drop 1).takeWhile (· != 59) = (r.takeWhile (· != 59)).drop 1 := h4.elim s2 s4
   have h5 : (c :: r.takeWhile (· != 59)).take 2 = [60, 60] ∨ (c :: r.takeWhile (· != 59)).take 2 = [62, 62] := h4.imp s1.1 s3.1
   have e3 : (c :: r).take 2 = (c :: r.takeWhile (· != 59)).take 2 := by
    rcases h4 with h | h
    ·rw [h, s1.1 h]
    ·rw [h, s3.1 h]
   rw [if_pos h4, ih _ _ hr1, e2, e3, e, vy, if_neg h1, if_neg h2, if_neg h3, if_neg h59, if_pos h5]
  ·have h5 : ¬ ((c :: r.takeWhile (· != 59)).take 2 = [60, 60] ∨ (c :: r.takeWhile (· != 59)).take 2 = [62, 62]) := fun h => h4 (h.imp s1.2 s3.2)
   rw [if_neg h4, e, vy, if_neg h1, if_neg h2, if_neg h3, if_neg h59, if_neg h5]
   split
   ·exact ih _ _ h
   ·rfl
theorem zt1 (l : List UInt8) (out : List yJ) : xX l out = xX (l.takeWhile (· != 59)) out := zoD _ l out (Nat.le_refl _)
attribute [local irreducible] xH yN puF puR zJ
theorem zq5 : ∀ k : Fin 256, x3 (UInt8.ofNat k.val) = (ym (UInt8.ofNat k.val) || (zI (UInt8.ofNat k.val) && UInt8.ofNat k.val != 46)) ∧
  x2 (UInt8.ofNat k.val) = (zI (UInt8.ofNat k.val) || ym (UInt8.ofNat k.val) || UInt8.ofNat k.val == 47) ∧
  xH (UInt8.ofNat k.val) = (UInt8.ofNat k.val == 32 || UInt8.ofNat k.val == 9 || UInt8.ofNat k.val == 13) ∧
  (zI (UInt8.ofNat k.val) = true → yq (UInt8.ofNat k.val) = 97) ∧
  (zI (UInt8.ofNat k.val) = false → ym (UInt8.ofNat k.val) = true → yq (UInt8.ofNat k.val) = 48) ∧
  (zI (UInt8.ofNat k.val) = false → ym (UInt8.ofNat k.val) = false → xH (UInt8.ofNat k.val) = false → yq (UInt8.ofNat k.val) ≠ 97 ∧ yq (UInt8.ofNat k.val) ≠ 48 ∧ yq (UInt8.ofNat k.val) ≠ 32) := by decide +kernel
theorem zdW (c : UInt8) : x3 c = (ym c || (zI c && c != 46)) ∧ x2 c = (zI c || ym c || c == 47) ∧ xH c = (c == 32 || c == 9 || c == 13) ∧ (zI c = true → yq c = 97) ∧
  (zI c = false → ym c = true → yq c = 48) ∧ (zI c = false → ym c = false → xH c = false → yq c ≠ 97 ∧ yq c ≠ 48 ∧ yq c ≠ 32) := by
 have := zq5 ⟨c.toNat, c.toNat_lt⟩
 simp only [UInt8.ofNat_toNat] at this
 exact this
theorem zdX (c d : UInt8) : (((c.toNat : Nat) : Int) == ((d.toNat : Nat) : Int)) = (c == d) := by
 by_cases h : c = d
 ·rw [h]; simp
 ·rw [beq_eq_false_iff_ne.2 h, beq_eq_false_iff_ne]
  intro e
  exact h (UInt8.toNat_inj.1 (by exact_mod_cast e))
theorem zoE {c d : UInt8} (h : ¬ ((c.toNat : Nat) : Int) = ((d.toNat : Nat) : Int)) : (c == d) = false := by
 rw [← zdX]; exact beq_eq_false_iff_ne.2 h
theorem zmc {c d : UInt8} (h : ((c.toNat : Nat) : Int) = ((d.toNat : Nat) : Int)) : c = d := UInt8.toNat_inj.1 (by exact_mod_cast h)
theorem znP : za Tryz.prog zh6 (zz (fun _ : UInt8 => True) (fun c => [zA c]) fun c => .bool (xH c)) := by
 refine ze zi Tryz.func102 rfl (by decide) fun c _ => ?_
 refine ⟨Nat.le_refl _, by simp [Tryz.f102], fun E hE => ?_⟩
 have hk := (zdW c).2.2.1
 rw [hk]
 refine zb _ ?_
 (all_goals refine qgp ?_ <;> (repeat' first | exact trivial | intro hc | refine And.intro ?_ ?_) <;> refine Lf.mk ?_)
 ·obtain rfl : c = 32 := zmc hc
  exact zf (VS.mk (LeD.tt rfl))
 ·obtain rfl : c = 9 := zmc hc
  exact zf (VS.mk (LeD.tt rfl))
 ·have h1 : (c == 32) = false := zoE (by assumption)
  have h2 : (c == 9) = false := zoE hc
  exact zf (VS.mk (LeD.of_eq (congrArg D.bool (by rw [h1, h2]; exact zdX c 13))))
theorem zpL : za Tryz.prog zh7 (zz (fun _ : UInt8 => True) (fun c => [zA c]) fun c => .bool (x2 c)) := by
 refine ze zi Tryz.func103 rfl (by decide) fun c _ => ?_
 refine ⟨Nat.le_refl _, by simp [Tryz.f103], fun E hE => ?_⟩
 have hk := (zdW c).2.1
 refine zb _ ?_
 (all_goals refine qgp (Lf.mk ?_))
 refine zd qT c trivial (VS.mk (LeL.of_eq rfl)) ?_
 generalize zI c = x at *
 (all_goals refine qgp ?_ <;> (repeat' first | exact trivial | intro hc | refine And.intro ?_ ?_) <;> refine Lf.mk ?_)
 all_goals (try refine zd zap c trivial (VS.mk (LeL.of_eq rfl)) ?_)
 generalize ym c = y at *
 (all_goals refine qgp ?_ <;> (repeat' first | exact trivial | intro hc | refine And.intro ?_ ?_) <;> refine Lf.mk ?_)
 ·exact zf (VS.mk (LeD.tt (by rw [hk, hc]; rfl)))
 ·exact zf (VS.mk (LeD.tt (by rw [hk, hc, Bool.or_true]; rfl)))
 ·have h1 : x = false := by assumption
  exact zf (VS.mk (LeD.of_eq (congrArg D.bool (by rw [hk, hc, h1]; exact zdX c 47))))
theorem zpM : za Tryz.prog zcS (zz (fun _ : UInt8 => True) (fun c => [zA c]) fun c => .bool (x3 c)) := by
 refine ze zi Tryz.func135 rfl (by decide) fun c _ => ?_
 refine ⟨Nat.le_refl _, by simp [Tryz.f135], fun E hE => ?_⟩
 have hk := (zdW c).1
 refine zb _ ?_
 (all_goals refine qgp (Lf.mk ?_))
 refine zd zap c trivial (VS.mk (LeL.of_eq rfl)) ?_
 generalize ym c = x at *
 (all_goals refine qgp ?_ <;> (repeat' first | exact trivial | intro hc | refine And.intro ?_ ?_) <;> refine Lf.mk ?_)
 all_goals (try refine zd qT c trivial (VS.mk (LeL.of_eq rfl)) ?_)
 generalize zI c = y at *
 (all_goals refine qgp ?_ <;> (repeat' first | exact trivial | intro hc | refine And.intro ?_ ?_) <;> refine Lf.mk ?_)
 ·exact zf (VS.mk (LeD.tt (by rw [hk, hc]; rfl)))
 ·have h1 : x = false := by assumption
  refine zf (VS.mk (LeD.of_eq (congrArg D.bool ?_)))
  rw [hk, hc, h1]
  show (!(((c.toNat : Nat) : Int) == 46)) = !(c == 46)
  exact congrArg (!·) (zdX c 46)
 ·have h1 : x = false := by assumption
  exact zf (VS.mk (LeD.ff (by rw [hk, hc, h1]; rfl)))
theorem zuT : yN 10 95 = -1 ∧ yN 16 95 = -1 := by unfold yN; decide
theorem ztv {b : Int} (hb : b = 10 ∨ b = 16) : ∀ (s : List UInt8) (n : Int), (puF b s n).2 = 0 → s.contains 95 = false
 | [], n, h => rfl
 | c :: r, n, h => by
  have hu := zuT
  rw [puF] at h
  split at h
  ·cases h
  rename_i hd
  split at h
  ·cases h
  have ih := ztv hb r _ h
  rw [List.contains_cons, ih, Bool.or_false, beq_eq_false_iff_ne]
  rintro rfl
  rcases hb with rfl | rfl <;> omega
def wv (w : List UInt8) : yJ × Int := if (xW w).2 = true then (⟨2, (xW w).1, []⟩, 0) else (⟨0, 0, []⟩, 2)
def zdY (p : yJ × Int) : D := .tup [wC p.1, .int .i64 p.2]
theorem zt2 (w : List UInt8) : (2 < w.length ∧ w.take 2 = [48, 120] → ((puR 16 (w.drop 2)).2 = 0 ∧ xW w = ((puR 16 (w.drop 2)).1, true) ∧ 0 ≤ (puR 16 (w.drop 2)).1 ∧ (puR 16 (w.drop 2)).1 ≤ 4294967295 ∧ w.contains 95 = false) ∨ ((puR 16 (w.drop 2)).2 ≠ 0 ∧ (xW w).2 = false)) ∧
  (¬ (2 < w.length ∧ w.take 2 = [48, 120]) → ((puR 10 w).2 = 0 ∧ xW w = ((puR 10 w).1, true) ∧ 0 ≤ (puR 10 w).1 ∧ (puR 10 w).1 ≤ 4294967295 ∧ w.contains 95 = false) ∨ ((puR 10 w).2 ≠ 0 ∧ (xW w).2 = false)) := by
 have us : ∀ {b : Int}, (b = 10 ∨ b = 16) → ∀ s, (puR b s).2 = 0 → s.contains 95 = false := fun {b} hb s h => by
  unfold puR at h
  split at h
  ·cases h
  ·exact ztv hb s 0 h
 constructor
 ·intro h
  have e : xW w = zdT 16 (w.drop 2) := by unfold xW; rw [if_pos h]
  rw [e]
  rcases zoB (.inr rfl) (w.drop 2) with ⟨h1, h2, h3, h4⟩ | h1
  ·left
   refine ⟨h1, h2, h3, h4, ?_⟩
   have h5 := us (.inr rfl) _ h1
   rw [← List.take_append_drop 2 w, h.2, List.cons_append, List.cons_append, List.nil_append, List.contains_cons, List.contains_cons, h5]
   rfl
  ·exact .inr h1
 ·intro h
  have e : xW w = zdT 10 w := by unfold xW; rw [if_neg h]
  rw [e]
  rcases zoB (.inl rfl) w with ⟨h1, h2, h3, h4⟩ | h1
  ·exact .inl ⟨h1, h2, h3, h4, us (.inl rfl) _ h1⟩
  ·exact .inr h1
theorem zkH : za Tryz.prog zdQ (z1 (fun ((s, i) : List UInt8 × Nat) => i ≤ s.length ∧ s.length ≤ 1000000000) (fun _ => [.loc 0 0]) (fun (s, i) => rdO s i)
  (fun (s, i) => zdY (wv ((s.take (i + zJ x3 (s.drop i))).drop i))) fun (s, i) => rdO s (i + zJ x3 (s.drop i))) := by
 refine ze zi Tryz.func104 rfl (by decide) ?_
 rintro ⟨s, i⟩ ⟨hi, hs⟩
 refine ⟨Nat.le_refl _, by simp [Tryz.f104], fun E hE => ?_⟩
 refine zb _ ?_
 (all_goals refine qgp (Lf.mk ?_))
 refine ye (zdV zpM) [0] [0] (s, i) ⟨hi, hs⟩ rfl rfl ?_
 refine And.intro (VS.mk (LeL.of_eq rfl)) (And.intro (VS.mk rfl) ?_)
 dsimp only
 have hw : ((s.take (i + zJ x3 (s.drop i))).drop i).length ≤ 1000000000 := by rw [List.length_drop, List.length_take]; omega
 generalize (s.take (i + zJ x3 (s.drop i))).drop i = w at *
 have hN := zt2 w
 (all_goals refine qgp (Lf.mk ?_))
 refine zd k8 (w, 10) ⟨hw, .inl rfl⟩ (VS.mk (LeL.of_eq rfl)) ?_
 dsimp only
 generalize puR 10 w = R10 at *
 obtain ⟨n10, e10⟩ := R10
 dsimp only at hN ⊢
 have hbad : (xW w).2 = false → wv w = (⟨0, 0, []⟩, 2) := fun h => by unfold wv; rw [h, if_neg (by decide)]
 have hgood : ∀ n, xW w = (n, true) → wv w = (⟨2, n, []⟩, 0) := fun n h => by unfold wv; rw [h]; rfl
 have hdd : List.drop (Int.toNat 2) (List.take ((w.length : Int)).toNat w) = w.drop 2 := by rw [Int.toNat_natCast, List.take_length]; rfl
 have hx : 2 < w.length → List.drop (Int.toNat 0) (List.take (Int.toNat 2) w) = [48, 120] → 2 < w.length ∧ w.take 2 = [48, 120] := fun h1 h2 => ⟨h1, h2⟩
 by_cases hxx : 2 < w.length ∧ w.take 2 = [48, 120]
 ·have hN := hN.1 hxx
  have hx1 := hxx.1
  have hx2 : List.drop (Int.toNat 0) (List.take (Int.toNat 2) w) = [48, 120] := hxx.2
  by_cases he : e10 = 0
  ·rw [if_pos he]
   (all_goals refine qgp ?_ <;> (repeat' first | exact trivial | intro hc | refine And.intro ?_ ?_) <;> refine Lf.mk ?_)
   all_goals first
    | (exfalso; exact absurd hx2 (by assumption))
    | skip
   refine zd k8 (w.drop 2, 16) ⟨by rw [List.length_drop]; omega, .inr rfl⟩ (VS.mk (LeL.of_eq (by rw [hdd]; try rfl))) ?_
   dsimp only
   generalize puR 16 (w.drop 2) = R16 at *
   obtain ⟨n16, e16⟩ := R16
   dsimp only at hN ⊢
   rcases hN with ⟨h1, h2, h3, h4, h5⟩ | ⟨h1, h2⟩
   ·rw [if_pos h1]
    (all_goals refine qgp ?_ <;> (repeat' first | exact trivial | intro hc | refine And.intro ?_ ?_) <;> refine Lf.mk ?_)
    all_goals first
     | (exfalso; refine absurd trivial ?_; assumption)
     | (exfalso; exact Bool.noConfusion hc)
     | (exfalso; refine absurd hc ?_; decide)
     | skip
    refine zd ke (w, 95) trivial (VS.mk (LeL.of_eq rfl)) ?_
    dsimp only
    rw [h5]
    (all_goals refine qgp ?_ <;> (repeat' first | exact trivial | intro hc | refine And.intro ?_ ?_) <;> refine Lf.mk ?_)
    all_goals first
     | (exfalso; refine absurd trivial ?_; assumption)
     | (exfalso; exact Bool.noConfusion hc)
     | (exfalso; refine absurd hc ?_; decide)
     | skip
    refine yk (And.intro (VS.mk ?_) (VS.mk rfl))
    show _ = zdY (wv w)
    rw [hgood _ h2]; rfl
   ·rw [if_neg h1]
    (all_goals refine qgp ?_ <;> (repeat' first | exact trivial | intro hc | refine And.intro ?_ ?_) <;> refine Lf.mk ?_)
    all_goals first
     | (exfalso; refine absurd trivial ?_; assumption)
     | (exfalso; exact Bool.noConfusion hc)
     | (exfalso; refine absurd hc ?_; decide)
     | skip
    refine yk (And.intro (VS.mk ?_) (VS.mk rfl))
    show _ = zdY (wv w)
    rw [hbad h2]; rfl
  ·rw [if_neg he]
   (all_goals refine qgp ?_ <;> (repeat' first | exact trivial | intro hc | refine And.intro ?_ ?_) <;> refine Lf.mk ?_)
   all_goals first
    | (exfalso; exact absurd hx2 (by assumption))
    | skip
   refine zd k8 (w.drop 2, 16) ⟨by rw [List.length_drop]; omega, .inr rfl⟩ (VS.mk (LeL.of_eq (by rw [hdd]; try rfl))) ?_
   dsimp only
   generalize puR 16 (w.drop 2) = R16 at *
   obtain ⟨n16, e16⟩ := R16
   dsimp only at hN ⊢
   rcases hN with ⟨h1, h2, h3, h4, h5⟩ | ⟨h1, h2⟩
   ·rw [if_pos h1]
    (all_goals refine qgp ?_ <;> (repeat' first | exact trivial | intro hc | refine And.intro ?_ ?_) <;> refine Lf.mk ?_)
    all_goals first
     | (exfalso; refine absurd trivial ?_; assumption)
     | (exfalso; exact Bool.noConfusion hc)
     | (exfalso; refine absurd hc ?_; decide)
     | skip
    refine zd ke (w, 95) trivial (VS.mk (LeL.of_eq rfl)) ?_
    dsimp only
    rw [h5]
    (all_goals refine qgp ?_ <;> (repeat' first | exact trivial | intro hc | refine And.intro ?_ ?_) <;> refine Lf.mk ?_)
    all_goals first
     | (exfalso; refine absurd trivial ?_; assumption)
     | (exfalso; exact Bool.noConfusion hc)
     | (exfalso; refine absurd hc ?_; decide)
     | skip
    refine yk (And.intro (VS.mk ?_) (VS.mk rfl))
    show _ = zdY (wv w)
    rw [hgood _ h2]; rfl
   ·rw [if_neg h1]
    (all_goals refine qgp ?_ <;> (repeat' first | exact trivial | intro hc | refine And.intro ?_ ?_) <;> refine Lf.mk ?_)
    all_goals first
     | (exfalso; refine absurd trivial ?_; assumption)
     | (exfalso; exact Bool.noConfusion hc)
     | (exfalso; refine absurd hc ?_; decide)
     | skip
    refine yk (And.intro (VS.mk ?_) (VS.mk rfl))
    show _ = zdY (wv w)
    rw [hbad h2]; rfl
 ·rcases hN.2 hxx with ⟨h1, h2, h3, h4, h5⟩ | ⟨h1, h2⟩
  ·rw [if_pos h1]
   (all_goals refine qgp ?_ <;> (repeat' first | exact trivial | intro hc | refine And.intro ?_ ?_) <;> refine Lf.mk ?_)
   all_goals first
    | (exfalso; exact hxx (hx (by omega) (by assumption)))
    | (exfalso; refine absurd trivial ?_; assumption)
    | (exfalso; exact Bool.noConfusion hc)
    | (exfalso; refine absurd hc ?_; decide)
    | skip
   all_goals
    refine zd ke (w, 95) trivial (VS.mk (LeL.of_eq rfl)) ?_
    dsimp only
    rw [h5]
   (all_goals refine qgp ?_ <;> (repeat' first | exact trivial | intro hc | refine And.intro ?_ ?_) <;> refine Lf.mk ?_)
   all_goals first
    | (exfalso; refine absurd trivial ?_; assumption)
    | (exfalso; exact Bool.noConfusion hc)
    | skip
   all_goals
    refine yk (And.intro (VS.mk ?_) (VS.mk rfl))
    show _ = zdY (wv w)
    rw [hgood _ h2]; rfl
  ·rw [if_neg h1]
   (all_goals refine qgp ?_ <;> (repeat' first | exact trivial | intro hc | refine And.intro ?_ ?_) <;> refine Lf.mk ?_)
   all_goals first
    | (exfalso; exact hxx (hx (by omega) (by assumption)))
    | (exfalso; refine absurd trivial ?_; assumption)
    | (exfalso; exact Bool.noConfusion hc)
    | (exfalso; refine absurd hc ?_; decide)
    | skip
   all_goals
    refine yk (And.intro (VS.mk ?_) (VS.mk rfl))
    show _ = zdY (wv w)
    rw [hbad h2]; rfl
end Go.Proofs.YtnkdeacghopkiaaGreatDoor
namespace Go.Proofs.YtnkdeacghopkiaaGreatDoor
open Go Go.Plat
set_option linter.unusedVariables false
set_option linter.unusedSimpArgs false
set_option maxRecDepth 100000
set_option maxHeartbeats 2000000
attribute [local irreducible] AWP zN yv zU zo yC yh zG yb yf zx za zY yz zr yg yx yy yn yo zw zy zT xH ym yq zI vo xX x3 xW okC zJ x2
def xS (s : List UInt8) (i : Nat) : (yJ × Int) × Nat :=
 if (s.drop i).take 2 = [60, 60] then ((⟨3, 0, [60, 60]⟩, 0), i + 2) else if (s.drop i).take 2 = [62, 62] then ((⟨3, 0, [62, 62]⟩, 0), i + 2)
 else if zdc.contains (s.getD i 0) = true then ((⟨3, 0, [s.getD i 0]⟩, 0), i + 1) else ((⟨0, 0, []⟩, 2), i)
def zfc (p : yJ × Int) : D := .tup [wC p.1, .int .i64 p.2]
theorem znQ : za Tryz.prog ze4 (z1 (fun ((s, i) : List UInt8 × Nat) => i < s.length ∧ s.length ≤ 1000000000) (fun _ => [.loc 0 0]) (fun (s, i) => rdO s i)
  (fun (s, i) => zfc (xS s i).1) fun (s, i) => rdO s (xS s i).2) := by
 refine ze zi Tryz.func105 rfl (by decide) ?_
 rintro ⟨s, i⟩ ⟨hi, hs⟩
 refine ⟨Nat.le_refl _, by simp [Tryz.f105], fun E hE => ?_⟩
 have hi : i < s.length := hi
 have hs : s.length ≤ 1000000000 := hs
 refine zb _ ?_
 (all_goals refine qgp (Lf.mk ?_))
 refine yu (α := Nat) (fun k => k ≤ 2 ∧ (1 ≤ k → (s.drop i).take 2 ≠ [60, 60]) ∧ (2 ≤ k → (s.drop i).take 2 ≠ [62, 62]))
  (fun k => [(0, .loc 0 0), (2, .loc 1 0), (7, .sl 1 [.str [60, 60], .str [62, 62]] none), (8, .int .i64 2), (9, .int .i64 k)])
  (fun k => rdO s i ++ [.cells [.int .i64 0, .int .i64 0, .str []]]) (fun k => 2 - k) (fun _ => by simp [hE, rdO]) 0 ⟨by decide, fun h => absurd h (by decide), fun h => absurd h (by decide)⟩ ?_ ?_
 ·(repeat' (first | (refine VS.mk ?_) | exact trivial | exact rfl | refine And.intro ?_ ?_))
 rintro k ⟨hk, h1, h2⟩
 have hd : ∀ x : List UInt8, x.length = 2 → (decide ((s.drop i).take x.length = x) = true ↔ (s.drop i).take 2 = x) := fun x hx => by rw [hx, decide_eq_true_iff]
 have hk3 : k = 0 ∨ k = 1 ∨ k = 2 := by omega
 rcases hk3 with rfl | rfl | rfl
 all_goals refine zb _ ?_
 (all_goals refine qgp ?_ <;> (repeat' first | exact trivial | intro hc | refine And.intro ?_ ?_) <;> refine Lf.mk ?_)
 ·refine zd zfb (s.drop i, [60, 60]) ⟨by rw [List.length_drop]; omega, by decide⟩ (VS.mk (LeL.of_eq (by rw [Int.toNat_natCast, Int.toNat_natCast, List.take_length]))) ?_
  (all_goals refine qgp ?_ <;> (repeat' first | exact trivial | intro hc | refine And.intro ?_ ?_) <;> refine Lf.mk ?_)
  ·have h := (hd [60, 60] rfl).1 (by simpa using hc)
   have e : xS s i = ((⟨3, 0, [60, 60]⟩, 0), i + 2) := by unfold xS; rw [if_pos h]
   refine yk (And.intro (VS.mk ?_) (VS.mk ?_))
   ·show _ = zfc (xS s i).1
    rw [e]; rfl
   ·show _ = rdO s (xS s i).2
    rw [e]; rfl
  ·have h : (s.drop i).take 2 ≠ [60, 60] := fun h => absurd ((hd [60, 60] rfl).2 h) (by simpa using hc)
   refine zL 1 ⟨by decide, fun _ => h, fun h => absurd h (by decide)⟩ (by decide) ?_
   (repeat' (first | (refine VS.mk ?_) | exact trivial | exact rfl | refine And.intro ?_ ?_))
 ·refine zd zfb (s.drop i, [62, 62]) ⟨by rw [List.length_drop]; omega, by decide⟩ (VS.mk (LeL.of_eq (by rw [Int.toNat_natCast, Int.toNat_natCast, List.take_length]))) ?_
  (all_goals refine qgp ?_ <;> (repeat' first | exact trivial | intro hc | refine And.intro ?_ ?_) <;> refine Lf.mk ?_)
  ·have h := (hd [62, 62] rfl).1 (by simpa using hc)
   have e : xS s i = ((⟨3, 0, [62, 62]⟩, 0), i + 2) := by unfold xS; rw [if_neg (h1 (by decide)), if_pos h]
   refine yk (And.intro (VS.mk ?_) (VS.mk ?_))
   ·show _ = zfc (xS s i).1
    rw [e]; rfl
   ·show _ = rdO s (xS s i).2
    rw [e]; rfl
  ·have h : (s.drop i).take 2 ≠ [62, 62] := fun h => absurd ((hd [62, 62] rfl).2 h) (by simpa using hc)
   refine zL 2 ⟨by decide, fun _ => h1 (by decide), fun _ => h⟩ (by decide) ?_
   (repeat' (first | (refine VS.mk ?_) | exact trivial | exact rfl | refine And.intro ?_ ?_))
 ·have hone : List.drop ((i : Int)).toNat (List.take ((i : Int) + 1).toNat s) = [s.getD i 0] := by
   rw [Int.toNat_natCast, show ((i : Int) + 1).toNat = i + 1 by omega, List.drop_take, zcu (d := 0) hi, show i + 1 - i = 1 by omega]; rfl
  refine zd ke (zdc, s.getD i 0) trivial (VS.mk (LeL.of_eq (by rw [hone]; rfl))) ?_
  (all_goals refine qgp ?_ <;> (repeat' first | exact trivial | intro hc | refine And.intro ?_ ?_) <;> refine Lf.mk ?_)
  ·have e : xS s i = ((⟨0, 0, []⟩, 2), i) := by unfold xS; rw [if_neg (h1 (by decide)), if_neg (h2 (by decide)), if_neg (by rw [hc]; decide)]
   refine yk (And.intro (VS.mk ?_) (VS.mk ?_))
   ·show _ = zfc (xS s i).1
    rw [e]; rfl
   ·show _ = rdO s (xS s i).2
    rw [e]; rfl
  ·have e : xS s i = ((⟨3, 0, [s.getD i 0]⟩, 0), i + 1) := by unfold xS; rw [if_neg (h1 (by decide)), if_neg (h2 (by decide)), if_pos hc]
   refine yk (And.intro (VS.mk ?_) (VS.mk ?_))
   ·show _ = zfc (xS s i).1
    rw [e, hone]; rfl
   ·show _ = rdO s (xS s i).2
    rw [e]; rfl
attribute [local irreducible] yN wv puF puR xS
theorem zq6 {p : UInt8 → Bool} : ∀ {l : List UInt8} {x : UInt8}, x ∈ l.takeWhile p → p x = true
 | [], x, h => by simp at h
 | a :: l, x, h => by
  rw [List.takeWhile_cons] at h
  split at h
  ·rename_i ha
   rcases List.mem_cons.1 h with rfl | h
   ·exact ha
   ·exact zq6 h
  ·simp at h
theorem zge : za Tryz.prog zkB (zz (fun s : List UInt8 => s.length ≤ 1000000000) (fun s => [.str s]) fun s => zvI (kZ s)) := by
 refine ze zi Tryz.func85 rfl (by decide) ?_
 intro s hs
 refine ⟨Nat.le_refl _, by simp [Tryz.f85], fun E hE => ?_⟩
 have hR := ztW s
 refine zb _ ?_
 (all_goals refine qgp ?_ <;> (repeat' first | exact trivial | intro hc | refine And.intro ?_ ?_) <;> refine Lf.mk ?_)
 ·rw [if_pos (by omega)] at hR
  refine zf (VS.mk ?_)
  rw [hR]
  exact .tup (.cons (.nil 3) (.cons (.refl _) .nil))
 rw [if_neg (by omega)] at hR
 refine zd zq3 (s, 59) hs (VS.mk (LeL.of_eq rfl)) ?_
 unfold zsv zsu
 dsimp only
 have hno : ∀ x ∈ s.takeWhile (· != 59), x ≠ 59 := fun x hx => by
  have := zq6 hx
  simpa using this
 have hul : (s.takeWhile (· != 59)).length ≤ s.length := (List.takeWhile_prefix _).length_le
 rw [zt1] at hR
 generalize s.takeWhile (· != 59) = u at *
 (all_goals refine qgp (Lf.mk ?_))
 refine kX (j6 5 3 rfl) ?_
 refine yu (α := Nat × List yJ) (fun p => p.1 ≤ u.length ∧ p.2.length ≤ p.1 ∧ xX u [] = xX (u.drop p.1) p.2)
  (fun p => [(4, .loc 0 0), (5, .sl 3 (p.2.map wC) (some 1))])
  (fun p => rdO u p.1 ++ [.spare p.2.length]) (fun p => u.length - p.1) (fun _ => by simp [hE]) (0, []) ⟨Nat.zero_le _, Nat.le_refl _, rfl⟩ ?_ ?_
 ·(repeat' (first | (refine VS.mk ?_) | exact trivial | exact rfl | refine And.intro ?_ ?_))
 rintro ⟨i, out⟩ ⟨hi, ho, hf⟩
 dsimp only at hi ho hf ⊢
 have hj1 : i + zJ xH (u.drop i) ≤ u.length := by have := zdd xH (u.drop i); rw [List.length_drop] at this; omega
 have hj2 : xX u [] = xX (u.drop (i + zJ xH (u.drop i))) out := by rw [hf, zmb, List.drop_drop]
 have hj3 : i + zJ xH (u.drop i) < u.length → xH (u.getD (i + zJ xH (u.drop i)) 0) = false := fun h => by
  have := zg5 xH (u.drop i) (by rw [List.length_drop]; omega)
  rwa [List.getD_eq_getElem?_getD, List.getElem?_drop, ← List.getD_eq_getElem?_getD] at this
 have hj4 : i ≤ i + zJ xH (u.drop i) := Nat.le_add_right _ _
 refine zb _ ?_
 (all_goals refine qgp (Lf.mk ?_))
 refine ye (zdV znP) [0] [0] (u, i) ⟨hi, by omega⟩ rfl rfl ?_
 refine And.intro (VS.mk (LeL.of_eq rfl)) (And.intro (VS.mk rfl) ?_)
 dsimp only
 generalize i + zJ xH (u.drop i) = j at *
 (all_goals refine qgp ?_ <;> (repeat' first | exact trivial | intro hc | refine And.intro ?_ ?_) <;> refine Lf.mk ?_)
 ·rw [List.drop_of_length_le (by omega), zl5] at hj2
  rw [hj2] at hR
  refine zf (VS.mk ?_)
  rw [hR]
  (first | exact LeL.refl _ | (repeat' (first | exact LeL.nil | exact LeD.refl _ | exact LeD.nil _ | exact LeD.strip _ _ _ | refine LeL.cons ?_ ?_ | refine LeD.tup ?_ | refine LeD.agg ?_)))
 have hjl : j < u.length := by omega
 obtain ⟨c, hcx⟩ : ∃ c, u.getD j 0 = c := ⟨_, rfl⟩
 obtain ⟨r, hr⟩ : ∃ r, u.drop (j + 1) = r := ⟨_, rfl⟩
 have hd : u.drop j = c :: r := by rw [zcu (d := 0) hjl, hcx, hr]
 have h59 : c ≠ 59 := hno c (by rw [← hcx, List.getD_eq_getElem?_getD, List.getElem?_eq_getElem hjl]; exact List.getElem_mem hjl)
 have hK := zdW c
 have hbl := hj3 hjl
 rw [hcx] at hbl
 rw [hd, vy] at hj2
 refine zd qT c trivial (VS.mk (LeL.of_eq (by rw [Int.toNat_natCast, hcx]; rfl))) ?_
 (all_goals refine qgp ?_ <;> (repeat' first | exact trivial | intro hc | refine And.intro ?_ ?_) <;> refine Lf.mk ?_)
 ·have hk97 := hK.2.2.2.1 hc
  have h1 := zbm (r := r) hk97
  have h2 := zdd x2 (c :: r)
  rw [if_neg (by rw [hk97]; decide), if_pos hk97, ← hd, List.drop_drop] at hj2
  rw [← hd] at h1 h2
  rw [List.length_drop] at h2
  refine ye (zdV zpL) [0] [0] (u, j) ⟨hj1, by omega⟩ rfl rfl ?_
  refine And.intro (VS.mk (LeL.of_eq rfl)) (And.intro (VS.mk rfl) ?_)
  dsimp only
  rw [List.drop_take, Nat.add_sub_cancel_left]
  generalize zJ x2 (u.drop j) = sp at *
  (all_goals refine qgp ?_ <;> (repeat' first | exact trivial | intro hc | refine And.intro ?_ ?_) <;> refine Lf.mk ?_)
  all_goals first
   | (exfalso; refine absurd hc ?_; decide)
   | skip
  refine zL (j + sp, out ++ [⟨1, 0, (u.drop j).take sp⟩]) ⟨by dsimp only; omega, by dsimp only; rw [List.length_append, List.length_cons, List.length_nil]; omega, hj2⟩ (by dsimp only; omega) ?_
  (repeat' (first | (refine VS.mk ?_) | exact trivial | exact rfl | refine And.intro ?_ ?_))
  all_goals (first | rfl | simp [wC, rdO])
 refine zd zap c trivial (VS.mk (LeL.of_eq (by rw [Int.toNat_natCast, hcx]; rfl))) ?_
 have hl : zI c = false := hc
 (all_goals refine qgp ?_ <;> (repeat' first | exact trivial | intro hc | refine And.intro ?_ ?_) <;> refine Lf.mk ?_)
 ·have hk48 := hK.2.2.2.2.1 hl hc
  have h1 := zcv (r := r) hk48
  have h2 := zdd x3 (c :: r)
  rw [if_neg (by rw [hk48]; decide), if_neg (by rw [hk48]; decide), if_pos hk48, ← hd, List.drop_drop] at hj2
  rw [← hd] at h1 h2
  rw [List.length_drop] at h2
  refine ye zkH [0] [0] (u, j) ⟨hj1, by omega⟩ rfl rfl ?_
  refine And.intro (VS.mk (LeL.of_eq rfl)) (And.intro (VS.mk rfl) ?_)
  dsimp only
  rw [List.drop_take, Nat.add_sub_cancel_left]
  generalize zJ x3 (u.drop j) = sp at *
  generalize (u.drop j).take sp = w at *
  have hT : wv w = if (xW w).2 = true then (⟨2, (xW w).1, []⟩, 0) else (⟨0, 0, []⟩, 2) := by unfold wv; rfl
  by_cases hn : (xW w).2 = true
  ·rw [if_pos hn] at hj2 hT
   rw [hT]
   (all_goals refine qgp ?_ <;> (repeat' first | exact trivial | intro hc | refine And.intro ?_ ?_) <;> refine Lf.mk ?_)
   all_goals first
    | (exfalso; refine absurd hc ?_; decide)
    | skip
   refine zL (j + sp, out ++ [⟨2, (xW w).1, []⟩]) ⟨by dsimp only; omega, by dsimp only; rw [List.length_append, List.length_cons, List.length_nil]; omega, hj2⟩ (by dsimp only; omega) ?_
   (repeat' (first | (refine VS.mk ?_) | exact trivial | exact rfl | refine And.intro ?_ ?_))
   all_goals (first | rfl | simp [wC, rdO])
  ·rw [if_neg hn] at hj2 hT
   rw [hT]
   rw [hj2] at hR
   (all_goals refine qgp ?_ <;> (repeat' first | exact trivial | intro hc | refine And.intro ?_ ?_) <;> refine Lf.mk ?_)
   all_goals first
    | (exfalso; refine absurd hc ?_; decide)
    | skip
   refine zf (VS.mk ?_)
   rw [hR]
   exact .tup (.cons (.nil 3) (.cons (.refl _) .nil))
 ·obtain ⟨k1, k2, k3⟩ := hK.2.2.2.2.2 hl hc hbl
  rw [if_neg k3, if_neg k1, if_neg k2, if_neg h59] at hj2
  refine ye znQ [0] [0] (u, j) ⟨hjl, by omega⟩ rfl rfl ?_
  refine And.intro (VS.mk (LeL.of_eq rfl)) (And.intro (VS.mk rfl) ?_)
  dsimp only
  have hS : xS u j = if (u.drop j).take 2 = [60, 60] then ((⟨3, 0, [60, 60]⟩, 0), j + 2) else if (u.drop j).take 2 = [62, 62] then ((⟨3, 0, [62, 62]⟩, 0), j + 2)
    else if zdc.contains (u.getD j 0) = true then ((⟨3, 0, [u.getD j 0]⟩, 0), j + 1) else ((⟨0, 0, []⟩, 2), j) := by unfold xS; rfl
  rw [hcx, hd] at hS
  have hr1 : r.drop 1 = u.drop (j + 2) := by rw [← hr, List.drop_drop]
  have two : ∀ x : UInt8, (c :: r).take 2 = [x, x] → j + 2 ≤ u.length := fun x h => by
   have := congrArg List.length h
   rw [← hd, List.length_take, List.length_drop] at this
   simp at this
   omega
  by_cases q1 : (c :: r).take 2 = [60, 60]
  ·have := two 60 q1
   rw [if_pos (.inl q1), hr1, q1] at hj2
   rw [if_pos q1] at hS
   rw [hS]
   (all_goals refine qgp ?_ <;> (repeat' first | exact trivial | intro hc | refine And.intro ?_ ?_) <;> refine Lf.mk ?_)
   all_goals first
    | (exfalso; refine absurd hc ?_; decide)
    | skip
   refine zL (j + 2, out ++ [⟨3, 0, [60, 60]⟩]) ⟨by dsimp only; omega, by dsimp only; rw [List.length_append, List.length_cons, List.length_nil]; omega, hj2⟩ (by dsimp only; omega) ?_
   (repeat' (first | (refine VS.mk ?_) | exact trivial | exact rfl | refine And.intro ?_ ?_))
   all_goals (first | rfl | simp [wC, rdO])
  by_cases q2 : (c :: r).take 2 = [62, 62]
  ·have := two 62 q2
   rw [if_pos (.inr q2), hr1, q2] at hj2
   rw [if_neg q1, if_pos q2] at hS
   rw [hS]
   (all_goals refine qgp ?_ <;> (repeat' first | exact trivial | intro hc | refine And.intro ?_ ?_) <;> refine Lf.mk ?_)
   all_goals first
    | (exfalso; refine absurd hc ?_; decide)
    | skip
   refine zL (j + 2, out ++ [⟨3, 0, [62, 62]⟩]) ⟨by dsimp only; omega, by dsimp only; rw [List.length_append, List.length_cons, List.length_nil]; omega, hj2⟩ (by dsimp only; omega) ?_
   (repeat' (first | (refine VS.mk ?_) | exact trivial | exact rfl | refine And.intro ?_ ?_))
   all_goals (first | rfl | simp [wC, rdO])
  rw [if_neg (fun h => h.elim q1 q2)] at hj2
  rw [if_neg q1, if_neg q2] at hS
  by_cases q3 : zdc.contains c = true
  ·rw [if_pos q3, ← hr] at hj2
   rw [if_pos q3] at hS
   rw [hS]
   (all_goals refine qgp ?_ <;> (repeat' first | exact trivial | intro hc | refine And.intro ?_ ?_) <;> refine Lf.mk ?_)
   all_goals first
    | (exfalso; refine absurd hc ?_; decide)
    | skip
   refine zL (j + 1, out ++ [⟨3, 0, [c]⟩]) ⟨by dsimp only; omega, by dsimp only; rw [List.length_append, List.length_cons, List.length_nil]; omega, hj2⟩ (by dsimp only; omega) ?_
   (repeat' (first | (refine VS.mk ?_) | exact trivial | exact rfl | refine And.intro ?_ ?_))
   all_goals (first | rfl | simp [wC, rdO])
  ·rw [if_neg q3] at hj2 hS
   rw [hS]
   rw [hj2] at hR
   (all_goals refine qgp ?_ <;> (repeat' first | exact trivial | intro hc | refine And.intro ?_ ?_) <;> refine Lf.mk ?_)
   all_goals first
    | (exfalso; refine absurd hc ?_; decide)
    | skip
   refine zf (VS.mk ?_)
   rw [hR]
   exact .tup (.cons (.nil 3) (.cons (.refl _) .nil))
end Go.Proofs.YtnkdeacghopkiaaGreatDoor
namespace Go.Proofs.YtnkdeacghopkiaaGreatDoor
open Go Go.Plat
set_option linter.unusedVariables false
set_option linter.unusedSimpArgs false
set_option maxRecDepth 100000
set_option maxHeartbeats 2000000
attribute [local irreducible] AWP zN yv zU zo yC yh zG yb yf zx za zY yz zr yg yx yy yn yo zw zy zT ym yq zI vo xX x3 xW okC zJ x2
def xh (c : UInt8) : List UInt8 → List (List UInt8)
 | [] => [[]]
 | b :: l => if b = c then [] :: xh c l else match xh c l with
  | [] => [[b]]
  | x :: r => (b :: x) :: r
theorem zaS (c : UInt8) : ∀ s, (xh c s).length = s.count c + 1
 | [] => rfl
 | b :: l => by
  have ih := zaS c l
  rw [xh, List.count_cons]
  by_cases h : b = c
  ·rw [if_pos h, h]; simp; omega
  ·rw [if_neg h]
   have e : (b == c) = false := beq_eq_false_iff_ne.2 h
   rw [e]
   cases hl : xh c l with
   | nil => rw [hl] at ih; simp at ih
   | cons x r => rw [hl] at ih; simpa using ih
theorem zcx (c : UInt8) : ∀ s : List UInt8, (s.contains c = false → xh c s = [s]) ∧ (s.contains c = true → xh c s = s.takeWhile (· != c) :: xh c ((s.dropWhile (· != c)).drop 1))
 | [] => ⟨fun _ => rfl, fun h => by simp at h⟩
 | b :: l => by
  obtain ⟨h1, h2⟩ := zcx c l
  rw [xh, List.contains_cons, List.takeWhile_cons, List.dropWhile_cons]
  by_cases h : b = c
  ·subst h
   refine ⟨fun h => by simp at h, fun _ => ?_⟩
   rw [if_pos rfl]
   simp
  ·have e : (b == c) = false := beq_eq_false_iff_ne.2 h
   have e1 : (c == b) = false := beq_eq_false_iff_ne.2 fun q => h q.symm
   have e2 : (b != c) = true := by simp [bne, e]
   rw [if_neg h, e1, Bool.false_or, e2, if_pos rfl, if_pos rfl]
   refine ⟨fun h => by rw [h1 h], fun h => by rw [h2 h]⟩
theorem zpN (c : UInt8) (s : List UInt8) (h : s.contains c = true) : s.count c = ((s.dropWhile (· != c)).drop 1).count c + 1 := by
 have h1 := zaS c s
 rw [(zcx c s).2 h, List.length_cons, zaS] at h1
 omega
theorem zq7 {c : UInt8} {s : List UInt8} (h : 0 < s.count c) : s.contains c = true := by
 rw [List.contains_iff_mem]
 exact List.count_pos_iff.1 h
theorem zpO {c : UInt8} {s : List UInt8} (h : s.count c = 0) : s.contains c = false := by
 cases e : s.contains c with
 | false => rfl
 | true =>
  rw [List.contains_iff_mem] at e
  have := List.count_pos_iff.2 e
  omega
theorem zsw {n : Nat} {x : D} {K : List D → Nat → Prop} (h : K (List.replicate n x) n) : zr (List.replicate n x) K := by unfold zr; rw [List.length_replicate]; exact h
def kw (pre : List (List UInt8)) (m : Nat) : List D := (pre ++ List.replicate m []).map D.str
theorem zsx (pre : List (List UInt8)) (m : Nat) (x : List UInt8) : (kw pre (m + 1)).set pre.length (.str x) = kw (pre ++ [x]) m := by
 unfold kw
 rw [← List.map_set, List.set_append_right _ _ (Nat.le_refl _), Nat.sub_self, List.replicate_succ, List.set_cons_zero, List.append_assoc]
 rfl
theorem zmd (pre : List (List UInt8)) (m : Nat) : (kw pre m).length = pre.length + m := by unfold kw; simp
theorem zjW {m : Nat → Option Nat} {ds : List D} {K : List D → Prop} (l : List (List UInt8)) (h : ds = l.map D.str) (hK : K (l.map D.str)) : zlp m ds K := by
 subst h
 have hp : ∀ (c : List UInt8), xk m (D.str c) (D.str c) := fun c => y8 trivial
 refine ⟨l.map D.str, ⟨rfl, fun i d d' h1 h2 => ?_⟩, fun i d d' h1 h2 => ?_, hK⟩
 all_goals
  rw [h1] at h2
  cases h2
  simp only [List.getElem?_map, Option.map_eq_some_iff] at h1
  obtain ⟨c, _, rfl⟩ := h1
 ·exact hp c
 ·refine ⟨rfl, rfl, fun j x x' h3 h4 => ?_⟩
  rw [h3] at h4
  cases h4
  cases j with
  | zero => simp [D.cells] at h3; subst h3; exact hp c
  | succ j => simp [D.cells] at h3
theorem zpP (l : List (List UInt8)) : vJ (l.map D.str) (l.map D.str) := by
 refine ⟨rfl, fun i d d' h1 h2 => ?_⟩
 rw [h1] at h2
 cases h2
 simp only [List.getElem?_map, Option.map_eq_some_iff] at h1
 obtain ⟨c, _, rfl⟩ := h1
 refine ⟨rfl, rfl, fun j x x' h3 h4 => ?_⟩
 rw [h3] at h4
 cases h4
 cases j with
 | zero =>
  simp [D.cells] at h3
  subst h3
  intro w F ρ L v h
  cases h with | pure _ _ h => exact h
 | succ j => simp [D.cells] at h3
theorem zoF {ds ds' : List D} {n : Nat} {K : List D → Nat → Prop} (h : ds = ds') (hn : ds'.length = n) (hK : K ds' n) : zr ds K := by unfold zr; subst h; rw [hn]; exact hK
theorem zoG {pre : List (List UInt8)} {m : Nat} {n : Int} {K : D → Prop} (hn : n = pre.length) (h : K (.str [])) : yb (kw pre (m + 1)) n K :=
 zk (enc := D.str) [] (by omega) (by rw [hn, Int.toNat_natCast, List.getElem?_append_right (Nat.le_refl _), Nat.sub_self]; rfl) h
attribute [local irreducible] kw
theorem zme : za Tryz.prog ze3 (zz (fun ((s, c) : List UInt8 × UInt8) => s.length ≤ 1000000) (fun (s, c) => [.str s, .str [c], .int .i64 0, .int .i64 (-1)]) fun (s, c) => .sl 1 ((xh c s).map .str) none) := by
 refine ze zi Tryz.func99 rfl (by decide) ?_
 rintro ⟨s, c⟩ hs
 have hs : s.length ≤ 1000000 := hs
 have hcl := List.count_le_length (a := c) (l := s)
 refine ⟨Nat.le_refl _, by simp [Tryz.f99], fun E hE => ?_⟩
 refine zb _ ?_
 (all_goals refine qgp ?_ <;> (repeat' first | exact trivial | intro hc | refine And.intro ?_ ?_) <;> refine Lf.mk ?_)
 all_goals first
  | (exfalso; exact List.cons_ne_nil _ _ hc)
  | skip
 refine zd znO (s, c) trivial (VS.mk (LeL.of_eq rfl)) ?_
 have hmin : min ((s.count c : Int) + 1) ((s.length : Int) + 1) = ((s.count c + 1 : Nat) : Int) := by omega
 (all_goals refine qgs (Lf.mk ?_))
 refine zk4 ?_
 refine VS.mk (yY ?_ (VS.mk ?_))
 ·dsimp only
  refine ⟨by omega, rfl, ?_, by omega⟩
  show min ((s.count c : Int) + 1) ((s.length : Int) + 1) * ((16 : Nat) : Int) ≤ _
  omega
 dsimp only
 rw [hmin, Int.toNat_natCast]
 refine zsw ?_
 (all_goals refine qgo (Lf.mk ?_))
 refine yu (α := List (List UInt8) × List UInt8) (fun p => xh c s = p.1 ++ xh c p.2 ∧ p.2.length ≤ s.length ∧ p.1.length + p.2.count c = s.count c)
  (fun p => [(0, .str p.2), (1, .str [c]), (2, .int .i64 0), (3, .int .i64 (s.count c)), (9, .osl 1 0 (s.count c + 1) 0 (s.count c + 1)), (10, .int .i64 p.1.length)])
  (fun p => [.arr 1 (kw p.1 (s.count c + 1 - p.1.length))]) (fun p => p.2.count c) (fun _ => by simp [hE]) ([], s) ⟨rfl, Nat.le_refl _, by simp⟩ ?_ ?_
 ·(repeat' (first | (refine VS.mk ?_) | exact trivial | exact rfl | refine And.intro ?_ ?_))
  ·refine zjW (List.replicate (s.count c + 1) []) (by rw [List.map_replicate]; rfl) ?_
   (repeat' (first | (refine VS.mk ?_) | exact trivial | exact rfl | refine And.intro ?_ ?_))
   unfold kw
   rfl
  ·exact congrArg (D.int .i64) (by omega)
 rintro ⟨pre, rest⟩ ⟨hsp, hrl, hct⟩
 dsimp only at hsp hrl hct ⊢
 have hsl := zmd pre (s.count c - pre.length + 1)
 have hm1 : s.count c + 1 - pre.length = s.count c - pre.length + 1 := by omega
 have hset := fun x => zsx pre (s.count c - pre.length) x
 have hsl2 := fun x => zmd (pre ++ [x]) (s.count c - pre.length)
 rw [hm1]
 refine zb _ ?_
 (all_goals refine qgo ?_ <;> (repeat' first | exact trivial | intro hc | refine And.intro ?_ ?_) <;> refine Lf.mk ?_)
 ·have hct2 : rest.contains c = true := zq7 (by omega)
  have hcd := zpN c rest hct2
  have hi := zcw c rest
  have hb : -1 ≤ Lib.indexByte rest c ∧ Lib.indexByte rest c ≤ rest.length ∧ (0 ≤ Lib.indexByte rest c → Lib.indexByte rest c < rest.length) := by omega
  have hl1 : ([c] : List UInt8).length = 1 := rfl
  have hpos : 0 ≤ Lib.indexByte rest c := by
   rcases hi with ⟨_, h2, _⟩ | ⟨h1, _⟩
   ·rw [hct2] at h2; cases h2
   ·exact h1
  refine zd zl6 (rest, c) trivial (VS.mk (LeL.of_eq rfl)) ?_
  (all_goals refine qgp ?_ <;> (repeat' first | exact trivial | intro hc | refine And.intro ?_ ?_) <;> refine Lf.mk ?_)
  refine zoG (by omega) ?_
  refine VS.mk ?_
  rcases hi with ⟨h1, _⟩ | ⟨_, _, h3, h4, h5⟩
  ·omega
  have hsp2 := (zcx c rest).2 hct2
  rw [← h4] at hsp2 hcd
  generalize Lib.indexByte rest c = ix at *
  generalize hT : rest.takeWhile (· != c) = tw at *
  have htw : rest.take tw.length = tw := by rw [← hT]; exact zl7 _ rest
  subst h3
  have hdl : (rest.drop (tw.length + 1)).length ≤ rest.length := by rw [List.length_drop]; omega
  refine zoF (ds' := kw (pre ++ [tw]) (s.count c - pre.length)) (n := s.count c + 1) ?_ ?_ ?_
  ·rw [← hset tw, Nat.zero_add, Int.toNat_natCast, show ((tw.length : Int) + 0).toNat = tw.length by omega, htw]
   rfl
  ·rw [hsl2 tw, List.length_append, List.length_cons, List.length_nil]; omega
  (all_goals refine qgp (Lf.mk ?_))
  have g1 : xh c s = (pre ++ [tw]) ++ xh c (rest.drop (tw.length + 1)) := by rw [hsp, hsp2, List.append_assoc]; rfl
  have g2 : (pre ++ [tw]).length + (rest.drop (tw.length + 1)).count c = s.count c := by rw [List.length_append, List.length_cons, List.length_nil]; omega
  refine zL (pre ++ [tw], rest.drop (tw.length + 1)) ⟨g1, by dsimp only; omega, g2⟩ (by dsimp only; omega) ?_
  (repeat' (first | (refine VS.mk ?_) | exact trivial | exact rfl | refine And.intro ?_ ?_))
  ·refine zjW ((pre ++ [tw]) ++ List.replicate (s.count c - pre.length) []) (by unfold kw; rfl) ?_
   (repeat' (first | (refine VS.mk ?_) | exact trivial | exact rfl | refine And.intro ?_ ?_))
   show _ = [Ob.arr 1 (kw (pre ++ [tw]) (s.count c + 1 - (pre ++ [tw]).length))]
   rw [show s.count c + 1 - (pre ++ [tw]).length = s.count c - pre.length by rw [List.length_append, List.length_cons, List.length_nil]; omega]
   unfold kw
   rfl
  ·refine congrArg D.str ?_
   dsimp only
   rw [hl1, Int.toNat_natCast, List.take_length, show ((tw.length : Int) + ((1 : Nat) : Int)).toNat = tw.length + 1 by omega]
  ·refine congrArg (D.int .i64) ?_
   dsimp only
   rw [List.length_append, List.length_cons, List.length_nil]; omega
 ·refine zoG (by omega) ?_
  refine VS.mk ?_
  have hno := (zcx c rest).1 (zpO (by omega))
  refine zoF (ds' := kw (pre ++ [rest]) (s.count c - pre.length)) (n := s.count c + 1) ?_ ?_ ?_
  ·rw [← hset rest, Nat.zero_add, Int.toNat_natCast]
  ·rw [hsl2 rest, List.length_append, List.length_cons, List.length_nil]; omega
  (all_goals refine qgp (Lf.mk ?_))
  have hfin : kw (pre ++ [rest]) (s.count c - pre.length) = (xh c s).map D.str := by
   rw [hsp, hno, show s.count c - pre.length = 0 by omega]
   unfold kw
   rw [List.replicate_zero, List.append_nil]
  rw [hfin]
  have hfl : ((xh c s).map D.str).length = s.count c + 1 := by rw [List.length_map, zaS]
  rw [show ((pre.length : Int) + 1).toNat - Int.toNat 0 = s.count c + 1 by simp only [Int.toNat_zero]; omega]
  show zG 0 (.osl 1 0 (s.count c + 1) 0 (s.count c + 1)) _ _ []
  refine wO (k := 0) (e := 1) (els := (xh c s).map D.str) (els' := (xh c s).map D.str) rfl (Nat.le_refl _) (zpP _) (.here _ _ hfl.symm hfl.symm) ?_ (Nat.le_refl _)
  exact zf (VS.mk (LeD.of_eq rfl))
theorem znR : za Tryz.prog zh5 (zz (fun ((s, c) : List UInt8 × UInt8) => s.length ≤ 1000000) (fun (s, c) => [.str s, .str [c]]) fun (s, c) => .sl 1 ((xh c s).map .str) none) := by
 refine ze zi Tryz.func84 rfl (by decide) ?_
 rintro ⟨s, c⟩ hs
 refine ⟨Nat.le_refl _, by simp [Tryz.f84], fun E hE => ?_⟩
 refine zb _ ?_
 (all_goals refine qgp (Lf.mk ?_))
 refine zd zme (s, c) hs (VS.mk (LeL.of_eq rfl)) ?_
 (all_goals refine qgp (Lf.mk ?_))
 exact zf (VS.mk (LeD.of_eq rfl))
end Go.Proofs.YtnkdeacghopkiaaGreatDoor
namespace Go.Proofs.YtnkdeacghopkiaaGreatDoor
open Go Go.Plat
set_option linter.unusedVariables false
set_option linter.unusedSimpArgs false
set_option maxRecDepth 100000
set_option maxHeartbeats 2000000
attribute [local irreducible] AWP zN yv zU zo yC yh zG yb yf zx za zY yz zr yg yx yy yn yo zw zy zT yN ym yq zI okC
end Go.Proofs.YtnkdeacghopkiaaGreatDoor
namespace Go.Proofs.YtnkdeacghopkiaaGreatDoor
open Go Go.Plat
set_option linter.unusedVariables false
set_option linter.unusedSimpArgs false
set_option maxRecDepth 100000
set_option maxHeartbeats 2000000
attribute [local irreducible] AWP zN yv zU zo yC yh zG yb yf zx za zY yz zr yg yx yy yn yo zw zy zT ym yq zI okC
attribute [local irreducible] vo xX x3 xW zJ x2
attribute [local irreducible] xH yN kZ wv puF puR xS
structure y4 where
 pos : Int
 toks : List yJ
def xR (l : y4) : D := .agg [.int .i64 l.pos, .sl 3 (l.toks.map wC) none]
def kB : List (List UInt8) → Int → List y4 → List y4 × Int × Int
 | [], _, out => (out, 0, 0)
 | p :: r, k, out => if (kZ p).2 ≠ 0 then ([], (kZ p).2, k) else if (kZ p).1.length = 0 then kB r (k + 1) out else kB r (k + 1) (out ++ [⟨k, (kZ p).1⟩])
def xe (b : List UInt8) : List y4 × Int × Int := if 1200 < b.length then ([], 4, 0) else kB (xh 10 b) 1 []
def zq8 (p : List y4 × Int × Int) : D := .tup [.sl 2 (p.1.map xR) none, .agg [.int .i64 p.2.1, .int .i64 p.2.2]]
theorem znS (p : List UInt8) (r : List (List UInt8)) (k : Int) (out : List y4) : kB (p :: r) k out =
  if (kZ p).2 ≠ 0 then ([], (kZ p).2, k) else if (kZ p).1.length = 0 then kB r (k + 1) out else kB r (k + 1) (out ++ [⟨k, (kZ p).1⟩]) := rfl
theorem zmf (c : UInt8) : ∀ (s : List UInt8) (p : List UInt8), p ∈ xh c s → p.length ≤ s.length
 | [], p, h => by rw [xh, List.mem_singleton] at h; rw [h]; exact Nat.le_refl _
 | b :: l, p, h => by
  have ih := zmf c l
  rw [xh] at h
  split at h
  ·rcases List.mem_cons.1 h with rfl | h
   ·simp
   ·have := ih p h; simp; omega
  ·cases hl : xh c l with
   | nil => rw [hl, List.mem_singleton] at h; rw [h]; simp
   | cons x r =>
    rw [hl] at h
    rcases List.mem_cons.1 h with rfl | h
    ·have := ih x (by rw [hl]; exact List.mem_cons_self); simp; omega
    ·have := ih p (by rw [hl]; exact List.mem_cons_of_mem _ h); simp; omega
theorem zg7 : za Tryz.prog zlS (zz (fun b : List UInt8 => b.length ≤ 1000000000) (fun b => [.sl 1 (b.map zA) none]) fun b => zq8 (xe b)) := by
 refine ze zi Tryz.func65 rfl (by decide) ?_
 intro b hb
 refine ⟨Nat.le_refl _, by simp [Tryz.f65], fun E hE => ?_⟩
 have hR : xe b = if 1200 < b.length then ([], 4, 0) else kB (xh 10 b) 1 [] := rfl
 have hpl := zmf 10 b
 have hsl := zaS 10 b
 have hct := List.count_le_length (a := 10) (l := b)
 refine zb _ ?_
 (all_goals refine qgp ?_ <;> (repeat' first | exact trivial | intro hc | refine And.intro ?_ ?_) <;> refine Lf.mk ?_)
 ·rw [if_pos (by omega)] at hR
  refine zf (VS.mk ?_)
  rw [hR]
  exact .tup (.cons (.nil 2) (.cons (.refl _) .nil))
 rw [if_neg (by omega)] at hR
 refine zd znR (b, 10) (by show b.length ≤ 1000000; omega) (VS.mk (LeL.of_eq rfl)) ?_
 dsimp only
 generalize xh 10 b = ps at *
 (all_goals refine qgp (Lf.mk ?_))
 refine kX (j6 4 2 rfl) ?_
 refine yu (α := Nat × List y4) (fun p => p.1 ≤ ps.length ∧ p.2.length ≤ p.1 ∧ xe b = kB (ps.drop p.1) (p.1 + 1) p.2)
  (fun p => [(3, .loc 0 0), (4, .sl 2 (p.2.map xR) (some 1)), (15, .sl 1 (ps.map .str) none), (16, .int .i64 ps.length), (17, .int .i64 p.1)])
  (fun p => [.cells [.int .i64 0, .int .i64 0], .spare p.2.length]) (fun p => ps.length - p.1) (fun _ => by simp [hE]) (0, []) ⟨Nat.zero_le _, Nat.le_refl _, by rw [hR]; rfl⟩ ?_ ?_
 ·(repeat' (first | (refine VS.mk ?_) | exact trivial | exact rfl | refine And.intro ?_ ?_))
 rintro ⟨i, out⟩ ⟨hi, ho, hf⟩
 dsimp only at hi ho hf ⊢
 refine zb _ ?_
 (all_goals refine qgp ?_ <;> (repeat' first | exact trivial | intro hc | refine And.intro ?_ ?_) <;> refine Lf.mk ?_)
 ·have hil : i < ps.length := by omega
  obtain ⟨p, hp⟩ : ∃ p, ps[i] = p := ⟨_, rfl⟩
  have hpx : ps[i]? = some p := by rw [List.getElem?_eq_getElem hil, hp]
  have hpm := hpl p (by rw [← hp]; exact List.getElem_mem hil)
  rw [List.drop_eq_getElem_cons hil, hp, znS] at hf
  refine zk p (by omega) (by simpa using hpx) ?_
  (all_goals refine qgp (Lf.mk ?_))
  refine zd zge p (by omega) (VS.mk (LeL.of_eq rfl)) ?_
  generalize kZ p = T at *
  obtain ⟨ts, te⟩ := T
  dsimp only at hf
  (all_goals refine qgp ?_ <;> (repeat' first | exact trivial | intro hc | refine And.intro ?_ ?_) <;> refine Lf.mk ?_)
  ·rw [if_pos hc] at hf
   refine zf (VS.mk ?_)
   rw [hf]
   exact .tup (.cons (.nil 2) (.cons (.refl _) .nil))
  ·have ht : te = 0 := by assumption
   rw [if_neg (by rw [ht]; simp), if_neg (by omega)] at hf
   have hf1 : xe b = kB (ps.drop (i + 1)) (((i + 1 : Nat) : Int) + 1) (out ++ [⟨(i : Int) + 1, ts⟩]) := hf
   refine zL (i + 1, out ++ [⟨(i : Int) + 1, ts⟩]) ⟨by dsimp only; omega, by dsimp only; rw [List.length_append, List.length_cons, List.length_nil]; omega, hf1⟩ (by dsimp only; omega) ?_
   (repeat' (first | (refine VS.mk ?_) | exact trivial | exact rfl | refine And.intro ?_ ?_))
   all_goals (first | rfl | simp [xR])
  ·have ht : te = 0 := by assumption
   rw [if_neg (by rw [ht]; simp), if_pos (by omega)] at hf
   have hf1 : xe b = kB (ps.drop (i + 1)) (((i + 1 : Nat) : Int) + 1) out := hf
   refine zL (i + 1, out) ⟨by dsimp only; omega, by dsimp only; omega, hf1⟩ (by dsimp only; omega) ?_
   (repeat' (first | (refine VS.mk ?_) | exact trivial | exact rfl | refine And.intro ?_ ?_))
 ·rw [List.drop_of_length_le (by omega)] at hf
  refine zf (VS.mk ?_)
  rw [hf]
  (first | exact LeL.refl _ | (repeat' (first | exact LeL.nil | exact LeD.refl _ | exact LeD.nil _ | exact LeD.strip _ _ _ | refine LeL.cons ?_ ?_ | refine LeD.tup ?_ | refine LeD.agg ?_)))
end Go.Proofs.YtnkdeacghopkiaaGreatDoor
namespace Go.Proofs.YtnkdeacghopkiaaGreatDoor
open Go Go.Plat
set_option linter.unusedVariables false
set_option linter.unusedSimpArgs false
set_option maxRecDepth 100000
set_option maxHeartbeats 2000000
attribute [local irreducible] AWP zN yv zU zo yC yh zG yb yf zx za zY yz zr yg yx yy yn yo zw zy zT
inductive zg where
 | mk (kind n : Int) (name : List UInt8) (kids : List zg)
def zg.kind : zg → Int | .mk k _ _ _ => k
def zg.n : zg → Int | .mk _ n _ _ => n
def zg.name : zg → List UInt8 | .mk _ _ s _ => s
def zg.kids : zg → List zg | .mk _ _ _ ks => ks
mutual
def y9 : zg → D
 | .mk k n s ks => .agg [.int .i64 k, .int .i64 n, .str s, .sl 4 (zfd ks) none]
def zfd : List zg → List D
 | [] => []
 | e :: es => y9 e :: zfd es
end
mutual
def yr : zg → Nat
 | .mk _ _ s ks => 1 + s.length + va ks
def va : List zg → Nat
 | [] => 0
 | e :: es => yr e + va es
end
theorem zif : ∀ l : List zg, zfd l = l.map y9
 | [] => by rw [zfd]; rfl
 | e :: es => by rw [zfd, zif es]; rfl
def vg (e : zg) : D := .agg [.int .i64 e.kind, .int .i64 e.n, .str e.name, .sl 4 (e.kids.map y9) none]
theorem zoH (k n : Int) (s : List UInt8) (ks : List zg) : (zg.mk k n s ks).kind = k := rfl
theorem zuU (k n : Int) (s : List UInt8) (ks : List zg) : (zg.mk k n s ks).n = n := rfl
theorem zoI (k n : Int) (s : List UInt8) (ks : List zg) : (zg.mk k n s ks).name = s := rfl
theorem zoJ (k n : Int) (s : List UInt8) (ks : List zg) : (zg.mk k n s ks).kids = ks := rfl
theorem zac (k n : Int) (s : List UInt8) (ks : List zg) : vg (.mk k n s ks) = .agg [.int .i64 k, .int .i64 n, .str s, .sl 4 (ks.map y9) none] := rfl
theorem zdZ (e : zg) : y9 e = vg e := by
 cases e with
 | mk k n s ks => rw [y9, zif]; rfl
theorem zuV (a : zg) : [a].map y9 = [vg a] := by rw [List.map_cons, zdZ]; rfl
theorem zvX (a b : zg) : [a, b].map y9 = [vg a, vg b] := by rw [List.map_cons, List.map_cons, zdZ, zdZ]; rfl
theorem zfe (e : zg) : 0 < yr e := by cases e; rw [yr]; omega
theorem zig : ∀ {l : List zg} {x : zg}, x ∈ l → yr x ≤ va l
 | [], _, h => by simp at h
 | e :: es, x, h => by
  rw [va]
  rcases List.mem_cons.1 h with rfl | h
  ·omega
  ·have := zig h; omega
theorem zih : ∀ l : List zg, l.length ≤ va l
 | [] => by rw [va]; simp
 | e :: es => by
  have := zih es
  have := zfe e
  rw [va, List.length_cons]; omega
theorem zq9 {e x : zg} (h : x ∈ e.kids) : yr x < yr e := by
 cases e with
 | mk k n s ks => have := zig (show x ∈ ks from h); rw [yr]; omega
theorem zsy (e : zg) : e.kids.length < yr e := by
 cases e with
 | mk k n s ks => have := zih ks; rw [yr]; show ks.length < _; omega
theorem zsz (e : zg) : e.name.length < yr e := by
 cases e with
 | mk k n s ks => rw [yr]; show s.length < _; omega
theorem zt3 {l : List zg} {n : Int} {K : D → Prop} (x : zg) (h0 : 0 ≤ n) (h : l[n.toNat]? = some x) (hK : K (vg x)) : yb (l.map y9) n K := by
 unfold yb
 exact ⟨h0, vg x, by rw [List.getElem?_map, h, ← zdZ]; rfl, hK⟩
attribute [local irreducible] y9 yr zg.kind zg.n zg.name zg.kids
end Go.Proofs.YtnkdeacghopkiaaGreatDoor
namespace Go.Proofs.YtnkdeacghopkiaaGreatDoor
open Go Go.Plat
set_option linter.unusedVariables false
set_option linter.unusedSimpArgs false
set_option maxRecDepth 100000
set_option maxHeartbeats 2000000
attribute [local irreducible] AWP zN yv zU zo yC yh zG yb yf zx za zY yz zr yg yx yy yn yo zw zy zT
def zE (n : Int) (k : Nat) : Int := if n % (2 : Int) ^ k / 2 ^ (k - 1) = 1 then n % (2 : Int) ^ k - 2 ^ k else n % (2 : Int) ^ k
theorem zmg : za Tryz.prog zlT (zz (fun ((n, k) : Int × Nat) => (k = 8 ∨ k = 12 ∨ k = 32)) (fun (n, k) => [.int .i64 n, .int .i64 k]) fun (n, k) => .int .i64 (zE n k)) := by
 refine ze zi Tryz.func69 rfl (by decide) ?_
 rintro ⟨n, k⟩ hk
 refine ⟨Nat.le_refl _, by simp [Tryz.f69], fun E hE => ?_⟩
 rcases hk with hk | hk | hk <;> (have hk : k = _ := hk; subst hk; refine zb _ ?_)
 ·have h0 := Int.emod_nonneg n (show (256 : Int) ≠ 0 by decide)
  have h1 := Int.emod_lt_of_pos n (show (0 : Int) < 256 by decide)
  have hd : zE n 8 = if n % 256 / 128 = 1 then n % 256 - 256 else n % 256 := rfl
  (all_goals refine qgo (Lf.mk ?_))
  refine jd (s := 7) (m := 128) rfl (by decide) (by decide) ?_
  (all_goals refine qgo ?_ <;> (repeat' first | exact trivial | intro hc | refine And.intro ?_ ?_) <;> refine Lf.mk ?_)
  ·skip
   refine zf (VS.mk (LeD.of_eq (congrArg (D.int .i64) ?_)))
   rw [hd, if_pos hc]
   omega
  ·refine zf (VS.mk (LeD.of_eq (congrArg (D.int .i64) ?_)))
   rw [hd, if_neg hc]
 ·have h0 := Int.emod_nonneg n (show (4096 : Int) ≠ 0 by decide)
  have h1 := Int.emod_lt_of_pos n (show (0 : Int) < 4096 by decide)
  have hd : zE n 12 = if n % 4096 / 2048 = 1 then n % 4096 - 4096 else n % 4096 := rfl
  (all_goals refine qgo (Lf.mk ?_))
  refine vW (s := 12) (m := 4096) rfl (by decide) (by decide) (by decide) (by decide) ?_
  (all_goals refine qgo (Lf.mk ?_))
  refine jd (s := 11) (m := 2048) rfl (by decide) (by decide) ?_
  (all_goals refine qgo ?_ <;> (repeat' first | exact trivial | intro hc | refine And.intro ?_ ?_) <;> refine Lf.mk ?_)
  ·refine vW (s := 12) (m := 4096) rfl (by decide) (by decide) (by decide) (by decide) ?_
   (all_goals refine qgo (Lf.mk ?_))
   refine zf (VS.mk (LeD.of_eq (congrArg (D.int .i64) ?_)))
   rw [hd, if_pos hc]
   omega
  ·refine zf (VS.mk (LeD.of_eq (congrArg (D.int .i64) ?_)))
   rw [hd, if_neg hc]
 ·have h0 := Int.emod_nonneg n (show (4294967296 : Int) ≠ 0 by decide)
  have h1 := Int.emod_lt_of_pos n (show (0 : Int) < 4294967296 by decide)
  have hd : zE n 32 = if n % 4294967296 / 2147483648 = 1 then n % 4294967296 - 4294967296 else n % 4294967296 := rfl
  (all_goals refine qgo (Lf.mk ?_))
  refine vW (s := 32) (m := 4294967296) rfl (by decide) (by decide) (by decide) (by decide) ?_
  (all_goals refine qgo (Lf.mk ?_))
  refine wK (qP (k := 32) (by decide) (by decide)) ?_
  rw [show (2 : Int) ^ 32 = 4294967296 from rfl]
  (all_goals refine qgo (Lf.mk ?_))
  refine jd (s := 31) (m := 2147483648) rfl (by decide) (by decide) ?_
  (all_goals refine qgo ?_ <;> (repeat' first | exact trivial | intro hc | refine And.intro ?_ ?_) <;> refine Lf.mk ?_)
  ·refine vW (s := 32) (m := 4294967296) rfl (by decide) (by decide) (by decide) (by decide) ?_
   (all_goals refine qgo (Lf.mk ?_))
   refine zf (VS.mk (LeD.of_eq (congrArg (D.int .i64) ?_)))
   rw [hd, if_pos hc]
   omega
  ·refine zf (VS.mk (LeD.of_eq (congrArg (D.int .i64) ?_)))
   rw [hd, if_neg hc]
theorem wa : za Tryz.prog zlP (zz (fun _ : Int => True) (fun n => [.int .i64 n]) fun n => .int .i64 (zE n 32)) := by
 refine ze zi Tryz.func45 rfl (by decide) fun n _ => ?_
 refine ⟨Nat.le_refl _, by simp [Tryz.f45], fun E hE => ?_⟩
 refine zb _ ?_
 (all_goals refine qgo (Lf.mk ?_))
 refine zd zmg (n, 32) (.inr (.inr rfl)) (VS.mk (by (first | exact LeL.refl _ | (repeat' (first | exact LeL.nil | exact LeD.refl _ | exact LeD.nil _ | exact LeD.strip _ _ _ | refine LeL.cons ?_ ?_ | refine LeD.tup ?_ | refine LeD.agg ?_))))) ?_
 (all_goals refine qgo (Lf.mk ?_))
 exact zf (VS.mk (LeD.refl _))
attribute [local irreducible] zg.kids zg.kind zg.n zg.name ym y9 yq zI yQ yr zE
structure zbb where
 kind : Int
 n : Int
 text : List UInt8
def zsA (t : zbb) : D := .agg [.int .i64 t.kind, .int .i64 t.n, .str t.text]
structure St where
 rest : List zbb
 err : Int
def noE : zg := .mk 0 0 [] []
def wT (x : List UInt8) : List (List UInt8) → Nat → Int
 | [], _ => -1
 | s :: l, k => if x = s then k else wT x l (k + 1)
def yG (k : Nat) : List (List UInt8) := match k with | 0 => [[124]] | 1 => [[38]] | 2 => [[60, 60], [62, 62]] | 3 => [[43], [45]] | _ => [[42]]
def zfU (k : Nat) : List Int := match k with | 0 => [11] | 1 => [10] | 2 => [8, 9] | 3 => [6, 7] | _ => [5]
def zbc (k : Nat) : D := .agg [.sl 1 ((yG k).map .str) none, .sl 1 ((zfU k).map (.int .i64)) none]
def ztw : D := .sl 2 [zbc 0, zbc 1, zbc 2, zbc 3, zbc 4] none
theorem zff : za Tryz.prog zkE (zz (fun _ : Unit => True) (fun _ => []) fun _ => ztw) := by
 refine ze zi Tryz.func196 rfl (by decide) fun _ _ => ?_
 refine ⟨Nat.le_refl _, by simp [Tryz.f196], fun E hE => ?_⟩
 refine zb _ ?_
 (all_goals refine qgo (Lf.mk ?_))
 exact zf (VS.mk (LeD.of_eq rfl))
theorem znT : za Tryz.prog j8 (zz (fun ((l, x) : List (List UInt8) × List UInt8) => l.length ≤ 1000000000) (fun (l, x) => [.sl 1 (l.map .str) none, .str x]) fun (l, x) => .int .i64 (wT x l 0)) := by
 refine ze zi Tryz.func148 rfl (by decide) ?_
 rintro ⟨l, x⟩ hl
 have hl : l.length ≤ 1000000000 := hl
 refine ⟨Nat.le_refl _, by simp [Tryz.f148], fun E hE => ?_⟩
 refine zb _ ?_
 (all_goals refine qgo (Lf.mk ?_))
 refine yu (α := Nat) (fun k => k ≤ l.length ∧ wT x l 0 = wT x (l.drop k) k)
  (fun k => [(7, .int .i64 l.length), (8, .int .i64 k), (0, .sl 1 (l.map .str) none), (1, .str x)])
  (fun _ => []) (fun k => l.length - k) (fun _ => by simp [hE]) 0 ⟨Nat.zero_le _, by simp⟩ ?_ ?_
 ·(repeat' (first | (refine VS.mk ?_) | exact trivial | exact rfl | refine And.intro ?_ ?_))
 rintro k ⟨hk, hf⟩
 refine zb _ ?_
 (all_goals refine qgo ?_ <;> (repeat' first | exact trivial | intro hc | refine And.intro ?_ ?_) <;> refine Lf.mk ?_)
 ·obtain ⟨s, hsk⟩ := yi (l := l) (k := k) (by omega)
  have hkl : k < l.length := by omega
  have hget : l[k] = s := by rw [List.getElem?_eq_getElem hkl] at hsk; exact Option.some.inj hsk
  rw [List.drop_eq_getElem_cons hkl, hget, wT] at hf
  refine zk s (by omega) (by simpa using hsk) ?_
  (all_goals refine qgo ?_ <;> (repeat' first | exact trivial | intro hc | refine And.intro ?_ ?_) <;> refine Lf.mk ?_)
  ·rw [if_pos hc] at hf
   exact zf (VS.mk (LeD.of_eq (congrArg (D.int .i64) hf.symm)))
  ·rw [if_neg hc] at hf
   refine zL (k + 1) ⟨by omega, hf⟩ (by omega) ?_
   (repeat' (first | (refine VS.mk ?_) | exact trivial | exact rfl | refine And.intro ?_ ?_))
 ·rw [List.drop_of_length_le (by omega), wT] at hf
  exact zf (VS.mk (LeD.of_eq (congrArg (D.int .i64) hf.symm)))
def stO (s : St) : List Ob := [.cells [.sl 3 (s.rest.map zsA) none, .int .i64 s.err]]
def zp (l : List (List UInt8)) (s : St) : Int × St := match s.rest with
 | [] => (-1, s)
 | t :: r => if t.kind = 3 then (if 0 ≤ wT t.text l 0 then (wT t.text l 0, ⟨r, s.err⟩) else (-1, s)) else (-1, s)
def vh (s : St) (e : Int) : St := if s.err = 0 then ⟨s.rest, e⟩ else s
theorem zoK (x : List UInt8) : ∀ (l : List (List UInt8)) (k : Nat), wT x l k < 0 → wT x l k = -1
 | [], k, _ => rfl
 | s :: l, k, h => by
  rw [wT] at h ⊢
  split at h
  ·omega
  ·rename_i hn; rw [if_neg hn]; exact zoK x l (k + 1) h
theorem zmh : LeD (.agg [.int .i64 0, .int .i64 0, .str [], .nilsl]) (vg noE) := by
 unfold noE
 rw [zac]
 exact .agg (.cons (.refl _) (.cons (.refl _) (.cons (.refl _) (.cons (.nil 4) .nil))))
theorem jy : za Tryz.prog ze8 (z1 (fun ((s, e) : St × Int) => True) (fun (s, e) => [.loc 0 0, .int .i64 e]) (fun (s, _) => stO s) (fun _ => vg noE) fun (s, e) => stO (vh s e)) := by
 refine ze zi Tryz.func201 rfl (by decide) ?_
 rintro ⟨s, e⟩ -
 refine ⟨Nat.le_refl _, by simp [Tryz.f201], fun E hE => ?_⟩
 refine zb _ ?_
 (all_goals refine qgo ?_ <;> (repeat' first | exact trivial | intro hc | refine And.intro ?_ ?_) <;> refine Lf.mk ?_)
 ·refine qr (r1 := vg noE) zmh ?_ (Nat.le_refl _)
  refine yk ?_
  (repeat' (first | (refine VS.mk ?_) | exact trivial | exact rfl | refine And.intro ?_ ?_))
  ·dsimp only; unfold vh stO; rw [if_pos hc]
 ·refine qr (r1 := vg noE) zmh ?_ (Nat.le_refl _)
  refine yk ?_
  (repeat' (first | (refine VS.mk ?_) | exact trivial | exact rfl | refine And.intro ?_ ?_))
  ·dsimp only; unfold vh; rw [if_neg hc]; rfl
theorem zd0 : za Tryz.prog ze7 (z1 (fun ((s, l) : St × List (List UInt8)) => l.length ≤ 1000000000 ∧ s.rest.length ≤ 1000000000) (fun (s, l) => [.loc 0 0, .sl 1 (l.map .str) none]) (fun (s, _) => stO s) (fun (s, l) => .int .i64 (zp l s).1)
  fun (s, l) => stO (zp l s).2) := by
 refine ze zi Tryz.func198 rfl (by decide) ?_
 rintro ⟨⟨r, e⟩, l⟩ ⟨hl, hr⟩
 have hr : r.length ≤ 1000000000 := hr
 refine ⟨Nat.le_refl _, by simp [Tryz.f198], fun E hE => ?_⟩
 cases r with
 | nil =>
  refine zb _ ?_
  (all_goals refine qgp ?_ <;> (repeat' first | exact trivial | intro hc | refine And.intro ?_ ?_) <;> refine Lf.mk ?_)
  refine yk ?_
  (repeat' (first | (refine VS.mk ?_) | exact trivial | exact rfl | refine And.intro ?_ ?_))
 | cons t r =>
  have hr2 : r.length + 1 ≤ 1000000000 := hr
  refine zb _ ?_
  (all_goals refine qgp ?_ <;> (repeat' first | exact trivial | intro hc | refine And.intro ?_ ?_) <;> refine Lf.mk ?_)
  ·refine yk ?_
   (repeat' (first | (refine VS.mk ?_) | exact trivial | exact rfl | refine And.intro ?_ ?_))
   all_goals (dsimp only [zp]; rw [if_neg hc]; try rfl)
  ·refine zd znT (l, t.text) hl (VS.mk (LeL.of_eq rfl)) ?_
   (all_goals refine qgp ?_ <;> (repeat' first | exact trivial | intro hc | refine And.intro ?_ ?_) <;> refine Lf.mk ?_)
   ·refine yk ?_
    (repeat' (first | (refine VS.mk ?_) | exact trivial | exact rfl | refine And.intro ?_ ?_))
    all_goals (dsimp only [zp]; rw [if_pos (by assumption), if_pos hc]; try rfl)
   ·refine yk ?_
    (repeat' (first | (refine VS.mk ?_) | exact trivial | exact rfl | refine And.intro ?_ ?_))
    all_goals (dsimp only [zp]; rw [if_pos (by assumption), if_neg hc])
    ·exact congrArg (D.int .i64) (zoK _ _ _ (by omega))
    ·rfl
def zaT (k : Nat) (i : Int) : Int := (zfU k).getD i.toNat 0
def vj (k : Nat) (sub : St → zg × St) : Nat → zg → St → zg × St
 | 0, e, s => (e, s)
 | g + 1, e, s => if s.err = 0 then (if (zp (yG k) s).1 < 0 then (e, (zp (yG k) s).2)
   else vj k sub g (.mk (zaT k (zp (yG k) s).1) 0 [] [e, (sub (zp (yG k) s).2).1]) (sub (zp (yG k) s).2).2)
  else (e, s)
def zb2 (k : Nat) (sub : St → zg × St) (s : St) : zg × St := vj k sub ((sub s).2.rest.length + 1) (sub s).1 (sub s).2
def atF (one : St → zg × St) : Nat → St → zg × St
 | 0 => one
 | j + 1 => zb2 (4 - j) (atF one j)
def zcU (s : St) : zg × St := match s.rest with
 | [] => (noE, vh s 9)
 | t :: r => if t.kind = 2 then (.mk 1 (zE t.n 32) [] [], ⟨r, s.err⟩)
  else if t.kind = 1 then (if yQ t.text = true then (.mk 2 0 t.text [], ⟨r, s.err⟩) else (noE, vh ⟨r, s.err⟩ 7))
  else (noE, vh ⟨r, s.err⟩ 2)
def yL : List (List UInt8) := [[45], [126], [40]]
def qu : List (List UInt8) := [[41]]
def wl (one : St → zg × St) (s : St) : zg × St :=
 if (zp yL s).1 = 0 then (.mk 3 0 [] [(one (zp yL s).2).1], (one (zp yL s).2).2)
 else if (zp yL s).1 = 1 then (.mk 4 0 [] [(one (zp yL s).2).1], (one (zp yL s).2).2)
 else if (zp yL s).1 = 2 then
  (if (zp qu (atF one 5 (zp yL s).2).2).1 < 0 then (noE, vh (zp qu (atF one 5 (zp yL s).2).2).2 2)
   else ((atF one 5 (zp yL s).2).1, (zp qu (atF one 5 (zp yL s).2).2).2))
 else zcU (zp yL s).2
def qi : Nat → St → zg × St
 | 0, s => (noE, vh s 10)
 | f + 1, s => wl (qi f) s
def vq (p : St → zg × St) : Prop := ∀ s, (p s).2.rest.length ≤ s.rest.length
theorem jz (l : List (List UInt8)) (s : St) : (zp l s).2.rest.length ≤ s.rest.length ∧ (0 ≤ (zp l s).1 → (zp l s).2.rest.length + 1 = s.rest.length) := by
 obtain ⟨r, e⟩ := s
 cases r with
 | nil => exact ⟨Nat.le_refl _, fun h => by simp [zp] at h⟩
 | cons t r =>
  simp only [zp]
  split
  ·split
   ·exact ⟨by simp, fun _ => by simp⟩
   ·exact ⟨Nat.le_refl _, fun h => by simp at h⟩
  ·exact ⟨Nat.le_refl _, fun h => by simp at h⟩
theorem zii {k : Nat} {sub : St → zg × St} (hs : vq sub) : ∀ (g : Nat) (e : zg) (s : St), (vj k sub g e s).2.rest.length ≤ s.rest.length
 | 0, e, s => Nat.le_refl _
 | g + 1, e, s => by
  rw [vj]
  have h1 := (jz (yG k) s).1
  split
  ·split
   ·exact h1
   ·have := zii (k := k) hs g (.mk (zaT k (zp (yG k) s).1) 0 [] [e, (sub (zp (yG k) s).2).1]) (sub (zp (yG k) s).2).2
    have h2 := hs (zp (yG k) s).2
    omega
  ·exact Nat.le_refl _
theorem znU {k : Nat} {sub : St → zg × St} (hs : vq sub) : vq (zb2 k sub) := fun s => by
 have h1 := hs s
 have h2 := zii (k := k) hs ((sub s).2.rest.length + 1) (sub s).1 (sub s).2
 unfold zb2; omega
theorem qj {one : St → zg × St} (hs : vq one) : ∀ j, vq (atF one j)
 | 0 => hs
 | j + 1 => znU (qj hs j)
theorem qc (s : St) (e : Int) : (vh s e).rest = s.rest := by unfold vh; split <;> rfl
theorem zra : vq zcU := fun s => by
 obtain ⟨r, e⟩ := s
 cases r with
 | nil => simp [zcU, qc]
 | cons t r =>
  simp only [zcU]
  repeat' split
  all_goals (try rw [qc]); simp
theorem zpQ {one : St → zg × St} (hs : vq one) : vq (wl one) := fun s => by
 have h1 := (jz yL s).1
 have h2 := hs (zp yL s).2
 have h3 := qj hs 5 (zp yL s).2
 have h4 := (jz qu (atF one 5 (zp yL s).2).2).1
 have h5 := zra (zp yL s).2
 unfold wl
 repeat' split
 all_goals (try dsimp only); (try rw [qc]); omega
theorem zcy : ∀ f, vq (qi f)
 | 0 => fun s => by rw [qi, qc]; exact Nat.le_refl _
 | f + 1 => fun s => by rw [qi]; exact zpQ (zcy f) s
theorem zrb {k g : Nat} {sub : St → zg × St} {e : zg} {s : St} (h : ¬ s.err = 0) : vj k sub g e s = (e, s) := by
 cases g with
 | zero => rfl
 | succ g => rw [vj, if_neg h]
theorem zpR {k g : Nat} {sub : St → zg × St} {e : zg} {s : St} (h : s.err = 0) (h2 : (zp (yG k) s).1 < 0) : vj k sub (g + 1) e s = (e, (zp (yG k) s).2) := by rw [vj, if_pos h, if_pos h2]
theorem zt4 {k g : Nat} {sub : St → zg × St} {e : zg} {s : St} (h : s.err = 0) (h2 : ¬ (zp (yG k) s).1 < 0) : vj k sub (g + 1) e s =
  vj k sub g (.mk (zaT k (zp (yG k) s).1) 0 [] [e, (sub (zp (yG k) s).2).1]) (sub (zp (yG k) s).2).2 := by rw [vj, if_pos h, if_neg h2]
theorem zrc {k : Nat} {K : D → Prop} (hk : k < 5) (h : K (zbc k)) : yb [zbc 0, zbc 1, zbc 2, zbc 3, zbc 4] (k : Int) K := by
 unfold yb
 refine ⟨by omega, zbc k, ?_, h⟩
 rw [Int.toNat_natCast]
 match k, hk with
 | 0, _ => rfl
 | 1, _ => rfl
 | 2, _ => rfl
 | 3, _ => rfl
 | 4, _ => rfl
theorem zoL (x : List UInt8) : ∀ (l : List (List UInt8)) (k : Nat), wT x l k < ((k + l.length : Nat) : Int)
 | [], k => by rw [wT]; omega
 | s :: l, k => by
  rw [wT]
  split
  ·simp only [List.length_cons]; omega
  ·have := zoL x l (k + 1)
   simp only [List.length_cons]; omega
theorem zt5 (l : List (List UInt8)) (s : St) : (zp l s).1 < (l.length : Int) ∨ l.length = 0 := by
 obtain ⟨r, e⟩ := s
 cases r with
 | nil => simp only [zp]; omega
 | cons t r =>
  have := zoL t.text l 0
  simp only [zp]
  split
  ·split
   ·dsimp only; omega
   ·dsimp only; omega
  ·dsimp only; omega
theorem zjX (k : Nat) : (yG k).length = (zfU k).length ∧ 0 < (yG k).length ∧ (yG k).length ≤ 2 := by
 unfold yG zfU
 split <;> exact ⟨rfl, by decide, by decide⟩
theorem zsB {k : Nat} {s : St} (h : ¬ (zp (yG k) s).1 < 0) : (zfU k)[(zp (yG k) s).1.toNat]? = some (zaT k (zp (yG k) s).1) := by
 have h1 := zt5 (yG k) s
 obtain ⟨h2, h3, _⟩ := zjX k
 have hlt : (zp (yG k) s).1.toNat < (zfU k).length := by omega
 unfold zaT
 rw [List.getD_eq_getElem?_getD, List.getElem?_eq_getElem hlt]
 rfl
attribute [local irreducible] vh vj qi wl zp zcU
def zcV (k : Int) (d : Int) (f : St → zg × St) : Prop :=
 za Tryz.prog zg4 (z1 (fun s : St => s.rest.length ≤ 1000000000) (fun _ => [.loc 0 0, .int .i64 k, .int .i64 d]) stO (fun s => vg (f s).1) fun s => stO (f s).2)
def zfV (d : Int) (f : St → zg × St) : Prop :=
 za Tryz.prog zgd (z1 (fun s : St => s.rest.length ≤ 1000000000) (fun _ => [.loc 0 0, .int .i64 d]) stO (fun s => vg (f s).1) fun s => stO (f s).2)
theorem zuW {d : Int} {one : St → zg × St} (h : zfV d one) : zcV 5 d (atF one 0) := by
 refine ze zi Tryz.func188 rfl (by decide) ?_
 intro s hs
 refine ⟨Nat.le_refl _, by simp [Tryz.f188], fun E hE => ?_⟩
 refine zb _ ?_
 (all_goals refine qgp (Lf.mk ?_))
 refine zd zff () trivial (VS.mk (LeL.of_eq rfl)) ?_
 (all_goals refine qgp ?_ <;> (repeat' first | exact trivial | intro hc | refine And.intro ?_ ?_) <;> refine Lf.mk ?_)
 refine ye h [0] [0] s hs rfl rfl ?_
 refine And.intro (VS.mk (LeL.of_eq rfl)) (And.intro (VS.mk rfl) ?_)
 (all_goals refine qgp (Lf.mk ?_))
 refine yk ?_
 (repeat' (first | (refine VS.mk ?_) | exact trivial | exact rfl | refine And.intro ?_ ?_))
theorem zb3 {d : Int} {k : Nat} {sub : St → zg × St} (hk : k < 5) (hsub : vq sub) (h : zcV ((k : Int) + 1) d sub) : zcV k d (zb2 k sub) := by
 refine ze zi Tryz.func188 rfl (by decide) ?_
 intro s hs
 refine ⟨Nat.le_refl _, by simp [Tryz.f188], fun E hE => ?_⟩
 refine zb _ ?_
 (all_goals refine qgp (Lf.mk ?_))
 refine zd zff () trivial (VS.mk (LeL.of_eq rfl)) ?_
 (all_goals refine qgp ?_ <;> (repeat' first | exact trivial | intro hc | refine And.intro ?_ ?_) <;> refine Lf.mk ?_)
 refine ye h [0] [0] s hs rfl rfl ?_
 refine And.intro (VS.mk (LeL.of_eq rfl)) (And.intro (VS.mk rfl) ?_)
 (all_goals refine qgp (Lf.mk ?_))
 have hs1 := hsub s
 obtain ⟨hsl1, hsl2, hsl3⟩ := zjX k
 generalize hT : zb2 k sub s = T at *
 have hT0 : vj k sub ((sub s).2.rest.length + 1) (sub s).1 (sub s).2 = T := hT
 refine yu (α := Nat × zg × St) (fun p => p.2.2.rest.length < p.1 ∧ p.2.2.rest.length ≤ 1000000000 ∧ vj k sub p.1 p.2.1 p.2.2 = T)
  (fun p => [(0, .loc 0 0), (1, .int .i64 k), (2, .int .i64 d), (6, .loc 1 0), (7, ztw), (8, .loc 2 0)])
  (fun p => stO p.2.2 ++ [.cells [.int .i64 0, .int .i64 0, .str [], .nilsl], .cells [.int .i64 p.2.1.kind, .int .i64 p.2.1.n, .str p.2.1.name, .sl 4 (p.2.1.kids.map y9) none]]) (fun p => p.1) (fun _ => by simp [hE, stO])
  ((sub s).2.rest.length + 1, (sub s).1, (sub s).2) ⟨Nat.lt_succ_self _, Nat.le_trans hs1 hs, hT0⟩ ?_ ?_
 ·(repeat' (first | (refine VS.mk ?_) | exact trivial | exact rfl | refine And.intro ?_ ?_))
 rintro ⟨g, e, s2⟩ ⟨hg, hs2, hl⟩
 dsimp only at hg hs2 hl ⊢
 obtain ⟨g, rfl⟩ : ∃ g', g = g' + 1 := ⟨g - 1, by omega⟩
 refine zb _ ?_
 (all_goals refine qgp ?_ <;> (repeat' first | exact trivial | intro hc | refine And.intro ?_ ?_) <;> refine Lf.mk ?_)
 ·refine zrc hk ?_
  (all_goals refine qgp (Lf.mk ?_))
  refine ye zd0 [0] [0] (s2, yG k) ⟨by omega, hs2⟩ rfl rfl ?_
  refine And.intro (VS.mk (LeL.of_eq rfl)) (And.intro (VS.mk rfl) ?_)
  obtain ⟨q1, q2⟩ := jz (yG k) s2
  (all_goals refine qgp ?_ <;> (repeat' first | exact trivial | intro hc | refine And.intro ?_ ?_) <;> refine Lf.mk ?_)
  ·rw [zpR (by assumption) hc] at hl
   subst hl
   refine yk ?_
   (repeat' (first | (refine VS.mk ?_) | exact trivial | exact rfl | refine And.intro ?_ ?_))
  ·rw [zt4 (by assumption) hc] at hl
   have hka := zsB (k := k) (s := s2) hc
   refine zrc hk ?_
   (all_goals refine qgp (Lf.mk ?_))
   refine zk (zaT k (zp (yG k) s2).1) (by omega) (by simpa using hka) ?_
   (all_goals refine qgp (Lf.mk ?_))
   have q3 := hsub (zp (yG k) s2).2
   refine ye h [0] [0] (zp (yG k) s2).2 (by omega) rfl rfl ?_
   refine And.intro (VS.mk (LeL.of_eq rfl)) (And.intro (VS.mk rfl) ?_)
   (all_goals refine qgp (Lf.mk ?_))
   refine zL (g, .mk (zaT k (zp (yG k) s2).1) 0 [] [e, (sub (zp (yG k) s2).2).1], (sub (zp (yG k) s2).2).2) ⟨by (dsimp only; omega), by (dsimp only; omega), hl⟩ (by dsimp only; omega) ?_
   dsimp only
   rw [zoH, zuU, zoI, zoJ, zvX]
   (repeat' (first | (refine VS.mk ?_) | exact trivial | exact rfl | refine And.intro ?_ ?_))
 ·rw [zrb hc] at hl
  subst hl
  refine yk ?_
  (repeat' (first | (refine VS.mk ?_) | exact trivial | exact rfl | refine And.intro ?_ ?_))
end Go.Proofs.YtnkdeacghopkiaaGreatDoor
namespace Go.Proofs.YtnkdeacghopkiaaGreatDoor
open Go Go.Plat
set_option linter.unusedVariables false
set_option linter.unusedSimpArgs false
set_option maxRecDepth 100000
set_option maxHeartbeats 2000000
attribute [local irreducible] AWP zN yv zU zo yC yh zG yb yf zx za zY yz zr yg zg.kids zg.kind zg.n zg.name yx yy yn yo zw zy zT ym y9 vh yq zI vj yQ yr qi zp zE
theorem zrd {d : Int} {one : St → zg × St} (hs : vq one) (h : zfV d one) : zcV 0 d (atF one 5) := by
 have h5 : zcV (((4 : Nat) : Int) + 1) d (atF one 0) := zuW h
 have h4 : zcV (((3 : Nat) : Int) + 1) d (atF one 1) := zb3 (k := 4) (by decide) (qj hs 0) h5
 have h3 : zcV (((2 : Nat) : Int) + 1) d (atF one 2) := zb3 (k := 3) (by decide) (qj hs 1) h4
 have h2 : zcV (((1 : Nat) : Int) + 1) d (atF one 3) := zb3 (k := 2) (by decide) (qj hs 2) h3
 have h1 : zcV (((0 : Nat) : Int) + 1) d (atF one 4) := zb3 (k := 1) (by decide) (qj hs 3) h2
 exact zb3 (k := 0) (by decide) (qj hs 4) h1
theorem zsC {d : Int} (h : 6 < d) : zfV d (qi 0) := by
 refine ze zi Tryz.func197 rfl (by decide) ?_
 intro s hs
 refine ⟨Nat.le_refl _, by simp [Tryz.f197], fun E hE => ?_⟩
 refine zb _ ?_
 (all_goals refine qgp ?_ <;> (repeat' first | exact trivial | intro hc | refine And.intro ?_ ?_) <;> refine Lf.mk ?_)
 refine ye jy [0] [0] (s, 10) trivial rfl rfl ?_
 refine And.intro (VS.mk (LeL.of_eq rfl)) (And.intro (VS.mk rfl) ?_)
 have ho : qi 0 s = (noE, vh s 10) := by rw [qi]
 (all_goals refine qgp (Lf.mk ?_))
 refine yk ?_
 (repeat' (first | (refine VS.mk ?_) | exact trivial | exact rfl | refine And.intro ?_ ?_))
 all_goals (rw [ho]; rfl)
theorem zsD {d : Int} {one : St → zg × St} (hd : d ≤ 6) (hd0 : 0 ≤ d) (hsub : vq one) (h : zfV (d + 1) one) : zfV d (wl one) := by
 have hat := zrd hsub h
 refine ze zi Tryz.func197 rfl (by decide) ?_
 intro s hs
 have q1 := (jz yL s).1
 refine ⟨Nat.le_refl _, by simp [Tryz.f197], fun E hE => ?_⟩
 refine zb _ ?_
 (all_goals refine qgp ?_ <;> (repeat' first | exact trivial | intro hc | refine And.intro ?_ ?_) <;> refine Lf.mk ?_)
 refine ye zd0 [0] [0] (s, yL) ⟨by decide, hs⟩ rfl rfl ?_
 refine And.intro (VS.mk (LeL.of_eq rfl)) (And.intro (VS.mk rfl) ?_)
 dsimp only
 have hstep : wl one s = if (zp yL s).1 = 0 then (.mk 3 0 [] [(one (zp yL s).2).1], (one (zp yL s).2).2)
  else if (zp yL s).1 = 1 then (.mk 4 0 [] [(one (zp yL s).2).1], (one (zp yL s).2).2)
  else if (zp yL s).1 = 2 then
   (if (zp qu (atF one 5 (zp yL s).2).2).1 < 0 then (noE, vh (zp qu (atF one 5 (zp yL s).2).2).2 2)
    else ((atF one 5 (zp yL s).2).1, (zp qu (atF one 5 (zp yL s).2).2).2))
  else zcU (zp yL s).2 := rfl
 generalize hS : zp yL s = S at *
 obtain ⟨i, s1⟩ := S
 have q1 : s1.rest.length ≤ s.rest.length := q1
 (all_goals refine qgp ?_ <;> (repeat' first | exact trivial | intro hc | refine And.intro ?_ ?_) <;> refine Lf.mk ?_)
 ·refine ye h [0] [0] s1 (by omega) rfl rfl ?_
  refine And.intro (VS.mk (LeL.of_eq rfl)) (And.intro (VS.mk rfl) ?_)
  (all_goals refine qgp (Lf.mk ?_))
  have ho : wl one s = (.mk 3 0 [] [(one s1).1], (one s1).2) := by rw [hstep, if_pos hc]
  refine yk ?_
  (repeat' (first | (refine VS.mk ?_) | exact trivial | exact rfl | refine And.intro ?_ ?_))
  all_goals (rw [ho])
  ·dsimp only; rw [zac, zuV]; rfl
  ·rfl
 ·refine ye h [0] [0] s1 (by omega) rfl rfl ?_
  refine And.intro (VS.mk (LeL.of_eq rfl)) (And.intro (VS.mk rfl) ?_)
  (all_goals refine qgp (Lf.mk ?_))
  have ho : wl one s = (.mk 4 0 [] [(one s1).1], (one s1).2) := by rw [hstep, if_neg (by assumption), if_pos hc]
  refine yk ?_
  (repeat' (first | (refine VS.mk ?_) | exact trivial | exact rfl | refine And.intro ?_ ?_))
  all_goals (rw [ho])
  ·dsimp only; rw [zac, zuV]; rfl
  ·rfl
 ·have q2 := qj hsub 5 s1
  refine ye hat [0] [0] s1 (by omega) rfl rfl ?_
  refine And.intro (VS.mk (LeL.of_eq rfl)) (And.intro (VS.mk rfl) ?_)
  (all_goals refine qgp (Lf.mk ?_))
  refine ye zd0 [0] [0] ((atF one 5 s1).2, qu) ⟨by decide, by omega⟩ rfl rfl ?_
  refine And.intro (VS.mk (LeL.of_eq rfl)) (And.intro (VS.mk rfl) ?_)
  (all_goals refine qgp ?_ <;> (repeat' first | exact trivial | intro hc | refine And.intro ?_ ?_) <;> refine Lf.mk ?_)
  ·refine ye jy [0] [0] ((zp qu (atF one 5 s1).2).2, 2) trivial rfl rfl ?_
   refine And.intro (VS.mk (LeL.of_eq rfl)) (And.intro (VS.mk rfl) ?_)
   (all_goals refine qgp (Lf.mk ?_))
   have ho : wl one s = (noE, vh (zp qu (atF one 5 s1).2).2 2) := by rw [hstep, if_neg (by assumption), if_neg (by assumption), if_pos (by assumption)]; dsimp only; rw [if_pos hc]
   refine yk ?_
   (repeat' (first | (refine VS.mk ?_) | exact trivial | exact rfl | refine And.intro ?_ ?_))
   all_goals (rw [ho]; rfl)
  ·have ho : wl one s = ((atF one 5 s1).1, (zp qu (atF one 5 s1).2).2) := by rw [hstep, if_neg (by assumption), if_neg (by assumption), if_pos (by assumption)]; dsimp only; rw [if_neg hc]
   refine yk ?_
   (repeat' (first | (refine VS.mk ?_) | exact trivial | exact rfl | refine And.intro ?_ ?_))
   all_goals (rw [ho]; rfl)
 ·have hr : s1.rest = [] := List.eq_nil_of_length_eq_zero (by omega)
  refine ye jy [0] [0] (s1, 9) trivial rfl rfl ?_
  refine And.intro (VS.mk (LeL.of_eq rfl)) (And.intro (VS.mk rfl) ?_)
  (all_goals refine qgp (Lf.mk ?_))
  have ho : wl one s = (noE, vh s1 9) := by rw [hstep, if_neg (by assumption), if_neg (by assumption), if_neg (by assumption)]; dsimp only; unfold zcU; rw [hr]
  refine yk ?_
  (repeat' (first | (refine VS.mk ?_) | exact trivial | exact rfl | refine And.intro ?_ ?_))
  all_goals (rw [ho]; rfl)
 ·obtain ⟨r1, e1⟩ := s1
  cases r1 with
  | nil => exfalso; exact hc rfl
  | cons t r =>
   have ho : wl one s = if t.kind = 2 then (.mk 1 (zE t.n 32) [] [], ⟨r, e1⟩)
     else if t.kind = 1 then (if yQ t.text = true then (.mk 2 0 t.text [], ⟨r, e1⟩) else (noE, vh ⟨r, e1⟩ 7))
     else (noE, vh ⟨r, e1⟩ 2) := by rw [hstep, if_neg (by assumption), if_neg (by assumption), if_neg (by assumption)]; rfl
   clear hstep hS
   (all_goals refine qgp ?_ <;> (repeat' first | exact trivial | intro hc | refine And.intro ?_ ?_) <;> refine Lf.mk ?_)
   ·refine zd wa t.n trivial (VS.mk (LeL.of_eq rfl)) ?_
    (all_goals refine qgp (Lf.mk ?_))
    rw [if_pos hc] at ho
    refine qr (r1 := vg (.mk 1 (zE t.n 32) [] [])) (by rw [zac]; exact .agg (.cons (.refl _) (.cons (.refl _) (.cons (.refl _) (.cons (.nil 4) .nil))))) ?_ (Nat.le_refl _)
    refine yk ?_
    (repeat' (first | (refine VS.mk ?_) | exact trivial | exact rfl | refine And.intro ?_ ?_))
    all_goals (rw [ho]; rfl)
   ·refine zd zl4 t.text trivial (VS.mk (LeL.of_eq rfl)) ?_
    (all_goals refine qgp ?_ <;> (repeat' first | exact trivial | intro hc | refine And.intro ?_ ?_) <;> refine Lf.mk ?_)
    ·rw [if_neg (by assumption), if_pos (by assumption), if_pos hc] at ho
     refine qr (r1 := vg (.mk 2 0 t.text [])) (by rw [zac]; exact .agg (.cons (.refl _) (.cons (.refl _) (.cons (.refl _) (.cons (.nil 4) .nil))))) ?_ (Nat.le_refl _)
     refine yk ?_
     (repeat' (first | (refine VS.mk ?_) | exact trivial | exact rfl | refine And.intro ?_ ?_))
     all_goals (rw [ho]; rfl)
    ·refine ye jy [0] [0] (⟨r, e1⟩, 7) trivial rfl rfl ?_
     refine And.intro (VS.mk (LeL.of_eq rfl)) (And.intro (VS.mk rfl) ?_)
     (all_goals refine qgp (Lf.mk ?_))
     rw [if_neg (by assumption), if_pos hc, if_neg (by rw [(by assumption : yQ t.text = false)]; decide)] at ho
     refine yk ?_
     (repeat' (first | (refine VS.mk ?_) | exact trivial | exact rfl | refine And.intro ?_ ?_))
     all_goals (rw [ho]; rfl)
   ·refine ye jy [0] [0] (⟨r, e1⟩, 2) trivial rfl rfl ?_
    refine And.intro (VS.mk (LeL.of_eq rfl)) (And.intro (VS.mk rfl) ?_)
    (all_goals refine qgp (Lf.mk ?_))
    rw [if_neg (by assumption), if_neg (by assumption)] at ho
    refine yk ?_
    (repeat' (first | (refine VS.mk ?_) | exact trivial | exact rfl | refine And.intro ?_ ?_))
    all_goals (rw [ho]; rfl)
theorem zsE (f : Nat) : qi (f + 1) = wl (qi f) := by funext s; rw [qi]
theorem zuX : ∀ f : Nat, f ≤ 7 → zfV (7 - (f : Int)) (qi f)
 | 0, _ => zsC (by decide)
 | f + 1, hf => by
  have h := zuX f (by omega)
  rw [zsE]
  have e : (7 : Int) - ((f + 1 : Nat) : Int) + 1 = 7 - (f : Int) := by omega
  exact zsD (by omega) (by omega) (zcy f) (by rw [e]; exact h)
theorem zuY : zcV 0 0 (atF (qi 7) 5) := zrd (zcy 7) (zuX 7 (by decide))
def v6 (l : List zbb) : zg × St := atF (qi 7) 5 ⟨l, 0⟩
def xI (l : List zbb) : zg × Int × Int := if (v6 l).2.err = 0 then ((v6 l).1, (l.length : Int) - (v6 l).2.rest.length, 0) else (noE, 0, (v6 l).2.err)
def zvK (p : zg × Int × Int) : D := .tup [vg p.1, .int .i64 p.2.1, .int .i64 p.2.2]
theorem zgt (l : List zbb) : (v6 l).2.rest.length ≤ l.length := qj (zcy 7) 5 ⟨l, 0⟩
theorem znV : za Tryz.prog zlY (zz (fun l : List zbb => l.length ≤ 1000000000) (fun l => [.sl 3 (l.map zsA) none]) fun l => zvK (xI l)) := by
 refine ze zi Tryz.func171 rfl (by decide) ?_
 intro l hl
 refine ⟨Nat.le_refl _, by simp [Tryz.f171], fun E hE => ?_⟩
 refine zb _ ?_
 (all_goals refine qgp (Lf.mk ?_))
 refine ye zuY [1] [1] ⟨l, 0⟩ hl rfl rfl ?_
 refine And.intro (VS.mk (LeL.of_eq rfl)) (And.intro (VS.mk rfl) ?_)
 have hq := zgt l
 have hp : xI l = if (v6 l).2.err = 0 then ((v6 l).1, (l.length : Int) - (v6 l).2.rest.length, 0) else (noE, 0, (v6 l).2.err) := rfl
 have hx : atF (qi 7) 5 ⟨l, 0⟩ = v6 l := rfl
 rw [hx]
 generalize v6 l = T at *
 obtain ⟨e, r, er⟩ := T
 have hq : r.length ≤ l.length := hq
 (all_goals refine qgp ?_ <;> (repeat' first | exact trivial | intro hc | refine And.intro ?_ ?_) <;> refine Lf.mk ?_)
 ·rw [hp, if_neg hc]
  exact zf (VS.mk (.tup (.cons zmh (.cons (.refl _) (.cons (.refl _) .nil)))))
 ·rw [hp, if_pos hc]
  refine zf (VS.mk (LeD.of_eq ?_))
  show D.tup [.agg [.int .i64 e.kind, .int .i64 e.n, .str e.name, .sl 4 (e.kids.map y9) none], .int .i64 _, .int .i64 0] = .tup [vg e, _, _]
  cases e
  rw [zac, zoH, zuU, zoI, zoJ]
end Go.Proofs.YtnkdeacghopkiaaGreatDoor
namespace Go.Proofs.YtnkdeacghopkiaaGreatDoor
open Go Go.Plat
set_option linter.unusedVariables false
set_option linter.unusedSimpArgs false
set_option maxRecDepth 100000
set_option maxHeartbeats 2000000
attribute [local irreducible] AWP zN yv zU zo yC yh zG yb yf zx za zY yz zr yg yx yy yn yo zw zy zT
structure zq where
 name : List UInt8
 n : Int
 deriving DecidableEq
structure zj where
 name : List UInt8
 n : Int
def yw (v : zq) : D := .agg [.str v.name, .int .i64 v.n]
def xY (v : zj) : D := .agg [.str v.name, .int .i64 v.n]
def zcW (k a b : Int) : Int :=
 if k = 5 then zE (a * b) 32 else if k = 6 then zE (a + b) 32 else if k = 7 then zE (a - b) 32
 else if k = 8 then zE (a * 2 ^ (b % 32).toNat) 32 else if k = 9 then zE (a % 4294967296 / 2 ^ (b % 32).toNat) 32
 else if k = 10 then zE (zT .and .i64 a b) 32 else if k = 11 then zE (zT .or .i64 a b) 32 else zE a 32
def S32 (n : Int) : Prop := -2147483648 ≤ n ∧ n ≤ 2147483647
theorem zre (n : Int) : zE n 32 = if n % 4294967296 / 2147483648 = 1 then n % 4294967296 - 4294967296 else n % 4294967296 := rfl
theorem jA (n : Int) : S32 (zE n 32) := by
 rw [zre]; unfold S32
 split <;> omega
theorem zd1 (k a b : Int) : S32 (zcW k a b) := by
 unfold zcW
 repeat' split
 all_goals exact jA _
theorem zrf {n : Int} : zT .and .i64 n 31 = n % 32 := qP (k := 5) (by decide) (by decide)
theorem zuZ {n : Int} : zT .and .i64 n 4294967295 = n % 4294967296 := qP (k := 32) (by decide) (by decide)
theorem zt6 {n : Int} (h0 : -9223372036854775808 ≤ n) (h1 : n ≤ 9223372036854775807) : zT .xor .i64 (if IntKind.i64.signed = true then -1 else IntKind.i64.max) n = -n - 1 := by
 unfold zT
 have e : (BitVec.ofInt IntKind.i64.bits (-1) ^^^ BitVec.ofInt IntKind.i64.bits n).toNat = 18446744073709551615 - (BitVec.ofInt 64 n).toNat := by
  show (BitVec.ofInt 64 (-1) ^^^ BitVec.ofInt 64 n).toNat = _
  have : BitVec.ofInt 64 (-1) = BitVec.allOnes 64 := by decide
  rw [this, BitVec.allOnes_xor, BitVec.toNat_not]
 show IntKind.i64.wrap (((BitVec.ofInt IntKind.i64.bits (-1) ^^^ BitVec.ofInt IntKind.i64.bits n).toNat : Nat) : Int) = _
 rw [e]
 have h4 := toNat_ofInt n
 generalize (BitVec.ofInt 64 n).toNat = x at *
 have hx : x ≤ 18446744073709551615 := by omega
 unfold IntKind.wrap
 simp [IntKind.bits, IntKind.signed]
 omega
theorem zsF {y : Nat} (h : y ≤ 31) : (1 : Int) ≤ 2 ^ y ∧ (2 : Int) ^ y ≤ 2147483648 := by
 have h1 : (2 : Nat) ^ y ≤ 2 ^ 31 := Nat.pow_le_pow_right (by decide) h
 have h2 : 1 ≤ (2 : Nat) ^ y := Nat.one_le_two_pow
 have e : ((2 : Int) ^ y) = ((2 ^ y : Nat) : Int) := by simp
 rw [e]
 exact ⟨by omega, by have : (2 : Nat) ^ 31 = 2147483648 := by decide
                     omega⟩
theorem zu0 {a : Int} {y : Nat} (ha : S32 a) (h : y ≤ 31) : -4611686018427387904 ≤ a * 2 ^ y ∧ a * 2 ^ y ≤ 4611686018427387904 := by
 obtain ⟨h1, h2⟩ := zsF h
 obtain ⟨h3, h4⟩ := ha
 generalize (2 : Int) ^ y = p at *
 constructor
 ·have : -2147483648 * 2147483648 ≤ a * p := by
   rcases Int.le_total 0 a with h | h
   ·have := Int.mul_nonneg h (by omega : 0 ≤ p); omega
   ·have h5 : -2147483648 * p ≤ a * p := Int.mul_le_mul_of_nonneg_right h3 (by omega)
    omega
  omega
 ·have : a * p ≤ 2147483648 * 2147483648 := by
   rcases Int.le_total 0 a with h | h
   ·have h5 : a * p ≤ a * 2147483648 := Int.mul_le_mul_of_nonneg_left h2 h
    omega
   ·have := Int.mul_nonneg (by omega : 0 ≤ -a) (by omega : 0 ≤ p)
    rw [Int.neg_mul] at this; omega
  omega
theorem zu1 {a b : Int} (ha : S32 a) (hb : S32 b) : -4611686018427387904 ≤ a * b ∧ a * b ≤ 4611686018427387904 := by
 obtain ⟨h1, h2⟩ := ha
 obtain ⟨h3, h4⟩ := hb
 have k1 : (a * b).natAbs ≤ 2147483648 * 2147483648 := by
  rw [Int.natAbs_mul]
  exact Nat.mul_le_mul (by omega) (by omega)
 omega
theorem zt7 {a y : Int} {K : D → Prop} (ha : S32 a) (h0 : 0 ≤ y) (h1 : y ≤ 31) (h : K (.int .i64 (a * 2 ^ y.toNat))) : yn .i64 a y K := by
 unfold yn
 refine ⟨h0, ?_⟩
 have e : min y.toNat IntKind.i64.bits = y.toNat := by simp only [IntKind.bits]; omega
 obtain ⟨h2, h3⟩ := zu0 ha (y := y.toNat) (by omega)
 rw [e, kQ (by omega) (by omega)]
 exact h
theorem zt8 {x y : Int} {K : D → Prop} (h0 : 0 ≤ y) (h1 : y ≤ 31) (h : K (.int .i64 (x / 2 ^ y.toNat))) : yo .i64 x y K := by
 unfold yo
 refine ⟨h0, ?_⟩
 have e : min y.toNat IntKind.i64.bits = y.toNat := by simp only [IntKind.bits]; omega
 have hp : (0 : Int) ≤ 2 ^ y.toNat := Int.le_of_lt (Int.pow_pos (by decide))
 rw [e, Int.fdiv_eq_ediv_of_nonneg _ hp]
 exact h
attribute [local irreducible] zE
theorem zmi : za Tryz.prog zkF (zz (fun ((k, a, b) : Int × Int × Int) => S32 a ∧ S32 b) (fun (k, a, b) => [.int .i64 k, .int .i64 a, .int .i64 b]) fun (k, a, b) => .int .i64 (zcW k a b)) := by
 refine ze zi Tryz.func199 rfl (by decide) ?_
 rintro ⟨k, a, b⟩ ⟨ha, hb⟩
 refine ⟨Nat.le_refl _, by simp [Tryz.f199], fun E hE => ?_⟩
 refine zb _ ?_
 have hm := zu1 ha hb
 have ha1 := ha.1
 have ha2 := ha.2
 have hb1 := hb.1
 have hb2 := hb.2
 (all_goals refine qgo ?_ <;> (repeat' first | exact trivial | intro hc | refine And.intro ?_ ?_) <;> refine Lf.mk ?_)
 any_goals (first | (refine wK zrf ?_) | (refine wK zuZ ?_) | (refine wK rfl ?_) | skip)
 have hb32 : 0 ≤ b % 32 ∧ b % 32 ≤ 31 := by omega
 (all_goals refine qgo (Lf.mk ?_))
 any_goals (first | (refine zt7 ha (by omega) (by omega) ?_) | (refine wK zrf ?_) | skip)
 (all_goals refine qgo (Lf.mk ?_))
 any_goals (first | (refine zt8 (by omega) (by omega) ?_) | skip)
 (all_goals refine qgo (Lf.mk ?_))
 all_goals (refine zd wa _ trivial (VS.mk (LeL.of_eq rfl)) ?_)
 (all_goals refine qgo (Lf.mk ?_))
 all_goals
  refine zf (VS.mk (LeD.of_eq (congrArg (D.int .i64) (?_ : _ = zcW k a b))))
  unfold zcW
  repeat (first | rw [if_pos (by assumption)] | rw [if_neg (by assumption)])
def zfg (k : Int) (a b : zq) : zq × Int :=
 if a.name = [] ∧ b.name = [] then (⟨[], zcW k a.n b.n⟩, 0)
 else if k = 6 ∧ (a.name = [] ∨ b.name = []) then (⟨a.name ++ b.name, zcW k a.n b.n⟩, 0)
 else if k = 7 ∧ b.name = [] then (⟨a.name, zcW k a.n b.n⟩, 0)
 else if k = 7 ∧ a.name = b.name then (⟨[], zcW k a.n b.n⟩, 0)
 else (⟨[], 0⟩, 8)
def zij (x : zq × Int) : D := .tup [yw x.1, .int .i64 x.2]
attribute [local irreducible] zcW
theorem zrg : za Tryz.prog zpJ (zz (fun ((k, a, b) : Int × zq × zq) => S32 a.n ∧ S32 b.n ∧ a.name.length ≤ 1000000000 ∧ b.name.length ≤ 1000000000) (fun (k, a, b) => [.int .i64 k, yw a, yw b]) fun (k, a, b) => zij (zfg k a b)) := by
 refine ze zi Tryz.func190 rfl (by decide) ?_
 rintro ⟨k, a, b⟩ ⟨ha, hb, hna, hnb⟩
 refine ⟨Nat.le_refl _, by simp [Tryz.f190], fun E hE => ?_⟩
 refine zb _ ?_
 (all_goals refine qgo ?_ <;> (repeat' first | exact trivial | intro hc | refine And.intro ?_ ?_) <;> refine Lf.mk ?_)
 any_goals (first | (exfalso; exact absurd ‹a.name = []› ‹¬ a.name = []›) | (exfalso; exact absurd ‹b.name = []› ‹¬ b.name = []›) | (exfalso; omega) | skip)
 any_goals (first | (refine zlq (by omega) ?_) | skip)
 (all_goals refine qgo (Lf.mk ?_))
 any_goals (first | (refine zd zmi (k, a.n, b.n) ⟨ha, hb⟩ (VS.mk (LeL.of_eq rfl)) ?_) | skip)
 (all_goals refine qgo (Lf.mk ?_))
 all_goals
  refine zf (VS.mk (LeD.of_eq (?_ : _ = zij (zfg k a b))))
  simp_all [zfg, zij, yw]
def zd2 (n : List UInt8) : List zj → Option Int
 | [] => none
 | s :: l => if s.name = n then some s.n else zd2 n l
def zcX (n : List UInt8) : List zj → Nat → Int
 | [], _ => -1
 | s :: l, k => if s.name = n then k else zcX n l (k + 1)
theorem zjY (n : List UInt8) : ∀ (l : List zj) (k : Nat), (zd2 n l = none ∧ zcX n l k = -1) ∨ ∃ (i : Nat) (s : zj), l[i]? = some s ∧ zcX n l k = ((k + i : Nat) : Int) ∧ zd2 n l = some s.n
 | [], k => .inl ⟨rfl, rfl⟩
 | s :: l, k => by
  rw [zd2, zcX]
  by_cases h : s.name = n
  ·rw [if_pos h, if_pos h]
   exact .inr ⟨0, s, rfl, rfl, rfl⟩
  ·rw [if_neg h, if_neg h]
   rcases zjY n l (k + 1) with h1 | ⟨i, t, h1, h2, h3⟩
   ·exact .inl h1
   ·exact .inr ⟨i + 1, t, h1, by rw [h2]; congr 1; omega, h3⟩
def jB : zq := ⟨[], 0⟩
def k9 (k n : Int) (s : List UInt8) (vs : List zq) (l : List zj) : zq × Int :=
 if k = 1 ∧ vs = [] then (⟨[], zE n 32⟩, 0)
 else if k = 2 ∧ vs = [] then (match zd2 s l with | some m => (⟨[], zE m 32⟩, 0) | none => (⟨s, 0⟩, 0))
 else match vs with
  | [v] => if k = 3 ∨ k = 4 then (if v.name = [] then (if k = 3 then (⟨[], zE (-v.n) 32⟩, 0) else (⟨[], zE (-v.n - 1) 32⟩, 0)) else (jB, 8)) else (jB, 1)
  | [a, b] => if 5 ≤ k ∧ k ≤ 11 then zfg k a b else (jB, 1)
  | _ => (jB, 1)
mutual
def xf (l : List zj) : zg → zq × Int
 | .mk k n s ks => match evalL l ks with
  | .inl w => (jB, w)
  | .inr vs => k9 k n s vs l
def evalL (l : List zj) : List zg → Int ⊕ List zq
 | [] => .inr []
 | e :: es => if (xf l e).2 = 0 then (match evalL l es with | .inl w => .inl w | .inr vs => .inr ((xf l e).1 :: vs)) else .inl (xf l e).2
end
def evA (l : List zj) (acc : List zq) (es : List zg) : Int ⊕ List zq := match evalL l es with | .inl w => .inl w | .inr vs => .inr (acc ++ vs)
theorem zt9 (l : List zj) (acc : List zq) : evA l acc [] = .inr acc := by unfold evA; rw [evalL]; simp
theorem zsG (l : List zj) (acc : List zq) (e : zg) (es : List zg) : evA l acc (e :: es) = if (xf l e).2 = 0 then evA l (acc ++ [(xf l e).1]) es else .inl (xf l e).2 := by
 unfold evA
 rw [evalL]
 by_cases h : (xf l e).2 = 0
 ·rw [if_pos h, if_pos h]
  cases evalL l es <;> simp
 ·rw [if_neg h, if_neg h]
theorem zua (l : List zj) (es : List zg) : evA l [] es = evalL l es := by unfold evA; cases evalL l es <;> simp
theorem zmj (l : List zj) (e : zg) : xf l e = match evalL l e.kids with
  | .inl w => (jB, w)
  | .inr vs => k9 e.kind e.n e.name vs l := by
 cases e with
 | mk k n s ks => rw [xf]; rfl
structure VOk (v : zq) (n : Nat) : Prop where
 s32 : S32 v.n
 len : v.name.length ≤ n
theorem zu2 {k : Int} {a b : zq} {m n : Nat} (ha : VOk a m) (hb : VOk b n) : VOk (zfg k a b).1 (m + n) := by
 have h1 := ha.len
 have h2 := hb.len
 unfold zfg
 split
 ·exact ⟨zd1 _ _ _, by simp⟩
 split
 ·exact ⟨zd1 _ _ _, by simp; omega⟩
 split
 ·exact ⟨zd1 _ _ _, by dsimp only; omega⟩
 split
 ·exact ⟨zd1 _ _ _, by simp⟩
 ·exact ⟨⟨by decide, by decide⟩, by simp⟩
theorem zfW {n : Nat} : VOk jB n := ⟨⟨by decide, by decide⟩, by simp [jB]⟩
def jC : List zq → Nat
 | [] => 0
 | v :: vs => v.name.length + jC vs
theorem zmk : ∀ (a : List zq) (v : zq), jC (a ++ [v]) = jC a + v.name.length
 | [], v => by simp [jC]
 | x :: a, v => by rw [List.cons_append, jC, jC, zmk]; omega
theorem zu3 {k n : Int} {s : List UInt8} {vs : List zq} {l : List zj} {m : Nat} (h : ∀ v ∈ vs, S32 v.n) (hm : jC vs ≤ m) : VOk (k9 k n s vs l).1 (s.length + m) := by
 unfold k9
 split
 ·exact ⟨jA _, by simp⟩
 split
 ·split
  ·exact ⟨jA _, by simp⟩
  ·exact ⟨⟨show (-2147483648 : Int) ≤ 0 by decide, show (0 : Int) ≤ 2147483647 by decide⟩, by dsimp only; omega⟩
 rcases vs with _ | ⟨a, _ | ⟨b, _ | ⟨c, r⟩⟩⟩ <;> dsimp only
 ·exact zfW
 ·split
  ·split
   ·split
    ·exact ⟨jA _, by simp⟩
    ·exact ⟨jA _, by simp⟩
   ·exact zfW
  ·exact zfW
 ·split
  ·have := zu2 (k := k) (a := a) (b := b) ⟨h a (by simp), Nat.le_refl _⟩ ⟨h b (by simp), Nat.le_refl _⟩
   simp only [jC] at hm
   exact ⟨this.s32, by have := this.len; omega⟩
  ·exact zfW
 ·exact zfW
mutual
theorem zoM (l : List zj) : ∀ e : zg, VOk (xf l e).1 (yr e)
 | .mk k n s ks => by
  rw [xf, yr]
  cases h : evalL l ks with
  | inl w => exact zfW
  | inr vs =>
   obtain ⟨h1, h2⟩ := zml l ks vs h
   have := zu3 (k := k) (n := n) (s := s) (l := l) h1 h2
   exact ⟨this.s32, by have := this.len; dsimp only; omega⟩
theorem zml (l : List zj) : ∀ (es : List zg) (vs : List zq), evalL l es = .inr vs → (∀ v ∈ vs, S32 v.n) ∧ jC vs ≤ va es
 | [], vs, h => by rw [evalL] at h; cases h; exact ⟨by simp, by simp [jC]⟩
 | e :: es, vs, h => by
  rw [evalL] at h
  have he := zoM l e
  split at h
  ·cases hl : evalL l es with
   | inl w => rw [hl] at h; cases h
   | inr ws =>
    rw [hl] at h
    cases h
    obtain ⟨h1, h2⟩ := zml l es ws hl
    refine ⟨fun v hv => ?_, ?_⟩
    ·rcases List.mem_cons.1 hv with rfl | hv
     ·exact he.s32
     ·exact h1 v hv
    ·rw [jC, va]
     have := he.len
     omega
  ·cases h
end
theorem zoN {α : Type} {l : List α} (h : l.length = 0) : l = [] := List.eq_nil_of_length_eq_zero h
theorem zub {k n : Int} {s : List UInt8} {vs : List zq} {l : List zj} (h1 : k = 1) (h2 : vs.length = 0) : k9 k n s vs l = (⟨[], zE n 32⟩, 0) := by unfold k9; rw [if_pos ⟨h1, zoN h2⟩]
theorem zmm {k n : Int} {s : List UInt8} {vs : List zq} {l : List zj} (h1 : k = 2) (h2 : vs.length = 0) : k9 k n s vs l = (match zd2 s l with | some m => (⟨[], zE m 32⟩, 0) | none => (⟨s, 0⟩, 0)) := by
 unfold k9; rw [if_neg (by rintro ⟨h, _⟩; omega), if_pos ⟨h1, zoN h2⟩]
theorem zfX {k n : Int} {s : List UInt8} {v : zq} {l : List zj} (h1 : k = 3 ∨ k = 4) : k9 k n s [v] l = if v.name = [] then (if k = 3 then (⟨[], zE (-v.n) 32⟩, 0) else (⟨[], zE (-v.n - 1) 32⟩, 0)) else (jB, 8) := by
 unfold k9; rw [if_neg (by rintro ⟨h, _⟩; omega), if_neg (by rintro ⟨h, _⟩; omega)]; dsimp only; rw [if_pos h1]
theorem zuc {k n : Int} {s : List UInt8} {a b : zq} {l : List zj} (h1 : 5 ≤ k ∧ k ≤ 11) : k9 k n s [a, b] l = zfg k a b := by
 unfold k9; rw [if_neg (by rintro ⟨h, _⟩; omega), if_neg (by rintro ⟨h, _⟩; omega)]; dsimp only; rw [if_pos h1]
theorem zud {k n : Int} {s : List UInt8} {vs : List zq} {l : List zj} (h0 : vs.length = 0 → k ≠ 1 ∧ k ≠ 2) (h1 : vs.length = 1 → k ≠ 3 ∧ k ≠ 4) (h2 : vs.length = 2 → k < 5 ∨ 11 < k) : k9 k n s vs l = (jB, 1) := by
 unfold k9
 rw [if_neg (by rintro ⟨h, h3⟩; exact (h0 (by rw [h3]; rfl)).1 h), if_neg (by rintro ⟨h, h3⟩; exact (h0 (by rw [h3]; rfl)).2 h)]
 rcases vs with _ | ⟨a, _ | ⟨b, _ | ⟨c, r⟩⟩⟩ <;> dsimp only
 ·rw [if_neg (by have := h1 rfl; omega)]
 ·rw [if_neg (by have := h2 rfl; omega)]
theorem zoO {α : Type} {l : List α} (h : l.length = 1) : ∃ a, l = [a] := by
 rcases l with _ | ⟨a, _ | ⟨b, r⟩⟩ <;> simp at h
 exact ⟨a, rfl⟩
theorem zue {α : Type} {l : List α} (h : l.length = 2) : ∃ a b, l = [a, b] := by
 rcases l with _ | ⟨a, _ | ⟨b, _ | ⟨c, r⟩⟩⟩ <;> simp at h
 exact ⟨a, b, rfl⟩
theorem zmn : za Tryz.prog zba (z1 (fun _ : zj × zg => True) (fun (s, e) => [xY s, .loc 0 0]) (fun (s, e) => [.cells [.int .i64 e.kind, .int .i64 e.n, .str e.name, .sl 4 (e.kids.map y9) none]]) (fun (s, e) => .bool (s.name == e.name))
  fun (s, e) => [.cells [.int .i64 e.kind, .int .i64 e.n, .str e.name, .sl 4 (e.kids.map y9) none]]) := by
 refine ze zi Tryz.func189 rfl (by decide) ?_
 rintro ⟨s, e⟩ -
 refine ⟨Nat.le_refl _, by simp [Tryz.f189], fun E hE => ?_⟩
 refine zb _ ?_
 (all_goals refine qgo (Lf.mk ?_))
 refine yk ?_
 (repeat' (first | (refine VS.mk ?_) | exact trivial | exact rfl | refine And.intro ?_ ?_))
theorem zkI : za Tryz.prog wL (z1 (fun ((l, e) : List zj × zg) => l.length ≤ 1000000000) (fun (l, e) => [.sl 2 (l.map xY) none, .fn zba [.loc 0 0]])
  (fun (l, e) => [.cells [.int .i64 e.kind, .int .i64 e.n, .str e.name, .sl 4 (e.kids.map y9) none]]) (fun (l, e) => .int .i64 (zcX e.name l 0)) fun (l, e) => [.cells [.int .i64 e.kind, .int .i64 e.n, .str e.name, .sl 4 (e.kids.map y9) none]]) := by
 refine ze zi Tryz.func173 rfl (by decide) ?_
 rintro ⟨l, e⟩ hl
 have hl : l.length ≤ 1000000000 := hl
 refine ⟨Nat.le_refl _, by simp [Tryz.f173], fun E hE => ?_⟩
 refine zb _ ?_
 (all_goals refine qgo (Lf.mk ?_))
 refine yu (α := Nat) (fun k => k ≤ l.length ∧ zcX e.name l 0 = zcX e.name (l.drop k) k)
  (fun k => [(7, .int .i64 l.length), (8, .int .i64 k), (0, .sl 2 (l.map xY) none), (1, .fn zba [.loc 0 0])])
  (fun _ => [.cells [.int .i64 e.kind, .int .i64 e.n, .str e.name, .sl 4 (e.kids.map y9) none]]) (fun k => l.length - k) (fun _ => by simp [hE]) 0 ⟨Nat.zero_le _, by simp⟩ ?_ ?_
 ·(repeat' (first | (refine VS.mk ?_) | exact trivial | exact rfl | refine And.intro ?_ ?_))
 rintro k ⟨hk, hf⟩
 refine zb _ ?_
 (all_goals refine qgo ?_ <;> (repeat' first | exact trivial | intro hc | refine And.intro ?_ ?_) <;> refine Lf.mk ?_)
 ·obtain ⟨s, hsk⟩ := yi (l := l) (k := k) (by omega)
  have hkl : k < l.length := by omega
  have hget : l[k] = s := by rw [List.getElem?_eq_getElem hkl] at hsk; exact Option.some.inj hsk
  rw [List.drop_eq_getElem_cons hkl, hget, zcX] at hf
  refine zk s (by omega) (by simpa using hsk) ?_
  (all_goals refine qgo (Lf.mk ?_))
  refine ye zmn [0] [0] (s, e) trivial rfl rfl ?_
  refine And.intro (VS.mk (LeL.of_eq rfl)) (And.intro (VS.mk rfl) ?_)
  (all_goals refine qgo ?_ <;> (repeat' first | exact trivial | intro hc | refine And.intro ?_ ?_) <;> refine Lf.mk ?_)
  ·rw [if_pos hc] at hf
   refine yk ?_
   (repeat' (first | (refine VS.mk ?_) | exact trivial | exact rfl | refine And.intro ?_ ?_))
   exact congrArg (D.int .i64) hf.symm
  ·rw [if_neg hc] at hf
   refine zL (k + 1) ⟨by omega, hf⟩ (by omega) ?_
   (repeat' (first | (refine VS.mk ?_) | exact trivial | exact rfl | refine And.intro ?_ ?_))
 ·rw [List.drop_of_length_le (by omega), zcX] at hf
  refine yk ?_
  (repeat' (first | (refine VS.mk ?_) | exact trivial | exact rfl | refine And.intro ?_ ?_))
  exact congrArg (D.int .i64) hf.symm
attribute [local irreducible] zg.kids zg.kind zg.n zg.name xf evalL y9 zd2 zcX yr zfg
theorem zfY {w : Int} {x : zq × Int} (h : x = (jB, w)) : LeD (.tup [.agg [.str [], .int .i64 0], .int .i64 w]) (zij x) := by subst h; exact .refl _
theorem zik (l : List zj) (hl : l.length ≤ 1000000000) : ∀ n : Nat, za Tryz.prog znM (zz (fun e : zg => yr e ≤ n ∧ yr e ≤ 4194304) (fun e => [vg e, .sl 2 (l.map xY) none]) fun e => zij (xf l e))
 | 0 => by
  refine ze zi Tryz.func172 rfl (by decide) fun e h => ?_
  have := zfe e
  omega
 | n + 1 => by
  have ih := zik l hl n
  refine ze zi Tryz.func172 rfl (by decide) ?_
  rintro e ⟨hn, hN⟩
  have hkl := zsy e
  have hnl := zsz e
  refine ⟨Nat.le_refl _, by simp [Tryz.f172], fun E hE => ?_⟩
  refine zb _ ?_
  (all_goals refine qgo (Lf.mk ?_))
  refine kX (j6 6 2 rfl) ?_
  generalize hEV : evalL l e.kids = EV at *
  have hev0 : evA l [] e.kids = EV := by rw [zua, hEV]
  refine yu (α := Nat × List zq) (fun p => p.1 ≤ e.kids.length ∧ evA l p.2 (e.kids.drop p.1) = EV ∧ p.2.length = p.1 ∧ (∀ v ∈ p.2, S32 v.n) ∧ jC p.2 ≤ p.1 * 4194304)
   (fun p => [(13, .sl 4 (e.kids.map y9) none), (14, .int .i64 e.kids.length), (15, .int .i64 p.1), (1, .sl 2 (l.map xY) none), (2, .loc 0 0), (4, .loc 1 0), (6, .sl 2 (p.2.map yw) (some 2))])
   (fun p => [.cells [.int .i64 e.kind, .int .i64 e.n, .str e.name, .sl 4 (e.kids.map y9) none], .cells [.str [], .int .i64 0], .spare p.2.length]) (fun p => e.kids.length - p.1) (fun _ => by simp [hE]) (0, []) ⟨Nat.zero_le _, by simpa using hev0, rfl, by simp, by simp [jC]⟩ ?_ ?_
  ·(repeat' (first | (refine VS.mk ?_) | exact trivial | exact rfl | refine And.intro ?_ ?_))
  rintro ⟨k, vs⟩ ⟨hk, hev, hvl, hvs, hns⟩
  dsimp only at hk hev hvl hvs hns ⊢
  refine zb _ ?_
  (all_goals refine qgo ?_ <;> (repeat' first | exact trivial | intro hc | refine And.intro ?_ ?_) <;> refine Lf.mk ?_)
  ·obtain ⟨x, hx⟩ := yi (l := e.kids) (k := k) (by omega)
   have hxm := List.mem_of_getElem? hx
   have hxn := zq9 hxm
   have hok := zoM l x
   have hkl3 : k < e.kids.length := by omega
   have hget : e.kids[k] = x := by rw [List.getElem?_eq_getElem hkl3] at hx; exact Option.some.inj hx
   rw [List.drop_eq_getElem_cons hkl3, hget, zsG] at hev
   refine zt3 x (by omega) (by simpa using hx) ?_
   (all_goals refine qgo (Lf.mk ?_))
   refine zd ih x ⟨by omega, by omega⟩ (VS.mk (LeL.of_eq rfl)) ?_
   (all_goals refine qgo ?_ <;> (repeat' first | exact trivial | intro hc | refine And.intro ?_ ?_) <;> refine Lf.mk ?_)
   ·rw [if_neg hc] at hev
    subst hev
    exact zf (VS.mk (zfY (by rw [zmj, hEV])))
   ·rw [if_pos hc] at hev
    have hl1 := hok.len
    refine zL (k + 1, vs ++ [(xf l x).1]) ⟨by (dsimp only; omega), hev, by (dsimp only; rw [List.length_append, hvl]; rfl), fun v hv => ?_, by (dsimp only; rw [zmk]; omega)⟩ (by dsimp only; omega) ?_
    ·(repeat' (first | (refine VS.mk ?_) | exact trivial | exact rfl | refine And.intro ?_ ?_))
     ·simp [yw]
     ·simp [yw]
    ·rcases List.mem_append.1 hv with h | h
     ·exact hvs v h
     ·rw [List.mem_singleton.1 h]; exact hok.s32
  all_goals
   rw [List.drop_of_length_le (by omega), zt9] at hev
   subst hev
   have hT : xf l e = k9 e.kind e.n e.name vs l := by rw [zmj, hEV]
  any_goals (first | (exfalso; omega) | exact zf (VS.mk (zfY (by rw [hT, zud (by omega) (by omega) (by omega)]))) | skip)
  ·refine zd wa e.n trivial (VS.mk (LeL.of_eq rfl)) ?_
   (all_goals refine qgo (Lf.mk ?_))
   refine zf (VS.mk (LeD.of_eq ?_))
   rw [hT, zub (by omega) (by omega)]
   rfl
  ·refine ye zkI [0] [0] (l, e) hl rfl rfl ?_
   refine And.intro (VS.mk (LeL.of_eq rfl)) (And.intro (VS.mk rfl) ?_)
   rcases zjY e.name l 0 with ⟨h1, h2⟩ | ⟨i, s, h1, h2, h3⟩
   ·dsimp only
    rw [h2]
    (all_goals refine qgo ?_ <;> (repeat' first | exact trivial | intro hc | refine And.intro ?_ ?_) <;> refine Lf.mk ?_)
    ·exfalso; omega
    ·refine zf (VS.mk (LeD.of_eq ?_))
     rw [hT, zmm (by omega) (by omega), h1]
     rfl
   ·have hil : i < l.length := (List.getElem?_eq_some_iff.1 h1).1
    rw [Nat.zero_add] at h2
    dsimp only
    rw [h2]
    (all_goals refine qgo ?_ <;> (repeat' first | exact trivial | intro hc | refine And.intro ?_ ?_) <;> refine Lf.mk ?_)
    ·refine zk s (by omega) (by simpa using h1) ?_
     (all_goals refine qgo (Lf.mk ?_))
     refine zd wa s.n trivial (VS.mk (LeL.of_eq rfl)) ?_
     (all_goals refine qgo (Lf.mk ?_))
     refine zf (VS.mk (LeD.of_eq ?_))
     rw [hT, zmm (by omega) (by omega), h3]
     rfl
    ·exfalso; omega
  ·obtain ⟨v, hv1⟩ := zoO (l := vs) (by omega)
   subst hv1
   obtain ⟨s1, s2⟩ := hvs v (by simp)
   (all_goals refine qgo ?_ <;> (repeat' first | exact trivial | intro hc | refine And.intro ?_ ?_) <;> refine Lf.mk ?_)
   ·exact zf (VS.mk (zfY (by rw [hT, zfX (by omega), if_neg (by assumption)])))
   ·refine zd wa (-v.n) trivial (VS.mk (LeL.of_eq (by rw [Int.zero_sub]))) ?_
    (all_goals refine qgo (Lf.mk ?_))
    refine zf (VS.mk (LeD.of_eq ?_))
    rw [hT, zfX (by omega), if_pos (by assumption), if_pos (by assumption)]
    rfl
   ·exfalso; omega
  ·obtain ⟨v, hv1⟩ := zoO (l := vs) (by omega)
   subst hv1
   obtain ⟨s1, s2⟩ := hvs v (by simp)
   (all_goals refine qgo ?_ <;> (repeat' first | exact trivial | intro hc | refine And.intro ?_ ?_) <;> refine Lf.mk ?_)
   ·exact zf (VS.mk (zfY (by rw [hT, zfX (by omega), if_neg (by assumption)])))
   ·exfalso; omega
   ·refine wK (zt6 (by omega) (by omega)) ?_
    (all_goals refine qgo (Lf.mk ?_))
    refine zd wa (-v.n - 1) trivial (VS.mk (LeL.of_eq rfl)) ?_
    (all_goals refine qgo (Lf.mk ?_))
    refine zf (VS.mk (LeD.of_eq ?_))
    rw [hT, zfX (by omega), if_pos (by assumption), if_neg (by omega)]
    rfl
  ·obtain ⟨a, b, hab⟩ := zue (l := vs) (by omega)
   subst hab
   have sa := hvs a (by simp)
   have sb := hvs b (by simp)
   simp only [jC] at hns
   (all_goals refine qgo (Lf.mk ?_))
   refine zd zrg (e.kind, a, b) ⟨sa, sb, by omega, by omega⟩ (VS.mk (LeL.of_eq rfl)) ?_
   (all_goals refine qgo (Lf.mk ?_))
   refine zf (VS.mk (LeD.of_eq ?_))
   rw [hT, zuc (by omega)]
   rfl
end Go.Proofs.YtnkdeacghopkiaaGreatDoor
namespace Go.Proofs.YtnkdeacghopkiaaGreatDoor
open Go Go.Plat
set_option linter.unusedVariables false
set_option linter.unusedSimpArgs false
set_option maxRecDepth 100000
set_option maxHeartbeats 2000000
attribute [local irreducible] AWP zN yv zU zo yC yh zG yb yf zx za zY yz zr yg yx yy yn yo zw zy zT
structure zd3 where
 op : Int
 name : List UInt8
 shape : Int
 bits : Int
def zkX (r : zd3) : D := .agg [.int .i64 r.op, .str r.name, .int .i64 r.shape, .int .i64 r.bits]
def xl : List zd3 := [
 ⟨1, [110, 111, 112], 0, 9⟩,
 ⟨2, [114, 116, 115], 0, 11⟩,
 ⟨3, [109, 111, 118], 1, 57344⟩,
 ⟨4, [97, 100, 100], 1, 28672⟩,
 ⟨5, [109, 111, 118], 2, 24579⟩,
 ⟨6, [97, 100, 100], 2, 12300⟩,
 ⟨7, [115, 117, 98], 2, 12296⟩,
 ⟨8, [97, 110, 100], 2, 8201⟩,
 ⟨9, [111, 114], 2, 8203⟩,
 ⟨10, [120, 111, 114], 2, 8202⟩,
 ⟨11, [116, 115, 116], 2, 8200⟩,
 ⟨12, [99, 109, 112, 47, 101, 113], 2, 12288⟩,
 ⟨13, [99, 109, 112, 47, 103, 116], 2, 12295⟩,
 ⟨14, [115, 104, 108, 108], 3, 16384⟩,
 ⟨15, [115, 104, 108, 114], 3, 16385⟩,
 ⟨16, [100, 116], 3, 16400⟩,
 ⟨17, [98, 116], 4, 35072⟩,
 ⟨18, [98, 102], 4, 35584⟩,
 ⟨19, [98, 114, 97], 5, 40960⟩,
 ⟨20, [98, 115, 114], 5, 45056⟩,
 ⟨21, [106, 109, 112], 6, 16427⟩,
 ⟨22, [106, 115, 114], 6, 16395⟩,
 ⟨23, [109, 111, 118, 46, 119], 7, 36864⟩,
 ⟨24, [109, 111, 118, 46, 108], 8, 53248⟩,
 ⟨25, [109, 111, 118, 46, 108], 9, 8194⟩,
 ⟨26, [109, 111, 118, 46, 108], 10, 24578⟩,
 ⟨27, [116, 114, 97, 112, 97], 11, 49920⟩]
theorem qU : xl.length = 27 := rfl
theorem zd4 : za Tryz.prog zpE (zz (fun _ : Unit => True) (fun _ => []) fun _ => .sl 4 (xl.map zkX) none) := by
 refine ze zi Tryz.func93 rfl (by decide) fun _ _ => ?_
 refine ⟨Nat.le_refl _, by simp [Tryz.f93], fun E hE => ?_⟩
 refine zb _ ?_
 (all_goals refine qgo (Lf.mk ?_))
 exact zf (VS.mk (LeD.of_eq (by rfl)))
def xE (op : Int) : Option zd3 := xl.find? fun r => r.op == op
def jD (op : Int) : D := match xE op with | some r => .tup [.str r.name, .int .i64 r.shape] | none => .tup [.str [], .int .i64 0]
theorem zd5 : za Tryz.prog zpG (zz (fun _ : Int => True) (fun op => [.int .i64 op]) jD) := by
 refine ze zi Tryz.func96 rfl (by decide) fun op _ => ?_
 refine ⟨Nat.le_refl _, by simp [Tryz.f96], fun E hE => ?_⟩
 refine zb _ ?_
 (all_goals refine qgo (Lf.mk ?_))
 refine zd zd4 () trivial (VS.mk (by (first | exact LeL.refl _ | (repeat' (first | exact LeL.nil | exact LeD.refl _ | exact LeD.nil _ | exact LeD.strip _ _ _ | refine LeL.cons ?_ ?_ | refine LeD.tup ?_ | refine LeD.agg ?_))))) ?_
 (all_goals refine qgo (Lf.mk ?_))
 refine yu (α := Nat) (fun k => k ≤ 27 ∧ ∀ (i : Nat) r, i < k → xl[i]? = some r → (r.op == op) = false) (fun k => [(6, .sl 4 (xl.map zkX) none), (7, .int .i64 27), (8, .int .i64 k), (0, .int .i64 op)]) (fun _ => []) (fun k => 27 - k) (fun _ => by simp [hE]) 0 ⟨Nat.zero_le _, by simp⟩ ?_ ?_
 ·(repeat' (first | (refine VS.mk ?_) | exact trivial | exact rfl | refine And.intro ?_ ?_))
 rintro k ⟨hk, hno⟩
 refine zb _ ?_
 (all_goals refine qgo ?_ <;> (repeat' first | exact trivial | intro hc | refine And.intro ?_ ?_) <;> refine Lf.mk ?_)
 ·obtain ⟨r, hr⟩ := yi (l := xl) (k := k) (by rw [qU]; omega)
  refine zk r (by omega) (by simpa using hr) ?_
  (all_goals refine qgo ?_ <;> (repeat' first | exact trivial | intro hc | refine And.intro ?_ ?_) <;> refine Lf.mk ?_)
  ·refine zf (VS.mk (LeD.of_eq ?_))
   have hf := zi6 (p := fun r => r.op == op) hr (by simpa using hc) hno
   rw [jD, xE, hf]
  ·refine zL (k + 1) ⟨by omega, zi7 hno hr (by simpa using hc)⟩ (by omega) ?_
   (repeat' (first | (refine VS.mk ?_) | exact trivial | exact rfl | refine And.intro ?_ ?_))
 ·refine zf (VS.mk (LeD.of_eq ?_))
  have hf := zqP hno (by rw [qU]; omega)
  rw [jD, xE, hf]
def zpS (name : List UInt8) (shape : Int) : Option zd3 := xl.find? fun r => r.name == name && r.shape == shape
def wU (name : List UInt8) (shape : Int) : Int := match zpS name shape with | some r => r.op | none => 0
theorem zpT : za Tryz.prog zia (zz (fun _ : List UInt8 × Int => True) (fun (name, shape) => [.str name, .int .i64 shape]) fun (name, shape) => .int .i64 (wU name shape)) := by
 refine ze zi Tryz.func157 rfl (by decide) ?_
 rintro ⟨name, shape⟩ _
 refine ⟨Nat.le_refl _, by simp [Tryz.f157], fun E hE => ?_⟩
 refine zb _ ?_
 (all_goals refine qgo (Lf.mk ?_))
 refine zd zd4 () trivial (VS.mk (by (first | exact LeL.refl _ | (repeat' (first | exact LeL.nil | exact LeD.refl _ | exact LeD.nil _ | exact LeD.strip _ _ _ | refine LeL.cons ?_ ?_ | refine LeD.tup ?_ | refine LeD.agg ?_))))) ?_
 (all_goals refine qgo (Lf.mk ?_))
 refine yu (α := Nat) (fun k => k ≤ 27 ∧ ∀ (i : Nat) r, i < k → xl[i]? = some r → (r.name == name && r.shape == shape) = false) (fun k => [(7, .sl 4 (xl.map zkX) none), (8, .int .i64 27), (9, .int .i64 k), (0, .str name), (1, .int .i64 shape)]) (fun _ => []) (fun k => 27 - k) (fun _ => by simp [hE]) 0 ⟨Nat.zero_le _, by simp⟩ ?_ ?_
 ·(repeat' (first | (refine VS.mk ?_) | exact trivial | exact rfl | refine And.intro ?_ ?_))
 rintro k ⟨hk, hno⟩
 refine zb _ ?_
 (all_goals refine qgo ?_ <;> (repeat' first | exact trivial | intro hc | refine And.intro ?_ ?_) <;> refine Lf.mk ?_)
 ·obtain ⟨r, hr⟩ := yi (l := xl) (k := k) (by rw [qU]; omega)
  refine zk r (by omega) (by simpa using hr) ?_
  (all_goals refine qgo ?_ <;> (repeat' first | exact trivial | intro hc | refine And.intro ?_ ?_) <;> refine Lf.mk ?_)
  ·refine zf (VS.mk (LeD.of_eq ?_))
   have hf := zi6 (p := fun r => r.name == name && r.shape == shape) hr (by simp [*]) hno
   simp only [wU, zpS, hf]
  ·refine zL (k + 1) ⟨by omega, zi7 hno hr (by simp [*])⟩ (by omega) ?_
   (repeat' (first | (refine VS.mk ?_) | exact trivial | exact rfl | refine And.intro ?_ ?_))
  ·refine zL (k + 1) ⟨by omega, zi7 hno hr (by simp [*])⟩ (by omega) ?_
   (repeat' (first | (refine VS.mk ?_) | exact trivial | exact rfl | refine And.intro ?_ ?_))
 ·refine zf (VS.mk (LeD.of_eq ?_))
  have hf := zqP hno (by rw [qU]; omega)
  simp only [wU, zpS, hf]
def zfZ (s : Int) : Bool := s == 1 || s == 3 || s == 6 || s == 7 || s == 8 || s == 2 || s == 9 || s == 10
def zf0 (s : Int) : Bool := s == 2 || s == 9 || s == 10
theorem zpU : za Tryz.prog zpF (zz (fun _ : Int => True) (fun s => [.int .i64 s]) fun s => .tup [.bool (zfZ s), .bool (zf0 s)]) := by
 refine ze zi Tryz.func95 rfl (by decide) fun s _ => ?_
 refine ⟨Nat.le_refl _, by simp [Tryz.f95], fun E hE => ?_⟩
 refine zb _ ?_
 (all_goals refine qgo ?_ <;> (repeat' first | exact trivial | intro hc | refine And.intro ?_ ?_) <;> refine Lf.mk ?_)
 all_goals (refine zf (VS.mk ?_))
 all_goals first | (exfalso; omega) | (refine LeD.tup (.cons ?_ (.cons ?_ .nil)) <;> first | exact LeD.tt (by simp_all [zfZ, zf0]) | exact LeD.ff (by simp_all [zfZ, zf0]))
def zcY (s : Int) : Int := if s = 1 ∨ s = 4 then -128 else if s = 5 then -2048 else 0
def zaq (s : Int) : Int := if s = 1 ∨ s = 4 then 127 else if s = 5 then 2047 else if s = 7 ∨ s = 8 ∨ s = 11 then 255 else 0
theorem zgu : za Tryz.prog znL (zz (fun _ : Int => True) (fun s => [.int .i64 s]) fun s => .tup [.int .i64 (zcY s), .int .i64 (zaq s)]) := by
 refine ze zi Tryz.func161 rfl (by decide) fun s _ => ?_
 refine ⟨Nat.le_refl _, by simp [Tryz.f161], fun E hE => ?_⟩
 refine zb _ ?_
 (all_goals refine qgo ?_ <;> (repeat' first | exact trivial | intro hc | refine And.intro ?_ ?_) <;> refine Lf.mk ?_)
 all_goals (refine zf (VS.mk ?_))
 all_goals (refine LeD.of_eq ?_; unfold zcY zaq; simp; omega)
attribute [local irreducible] zaq xE xl zcY zE zfZ zf0
structure Ins where
 op : Int
 n : Int
 m : Int
 imm : Int
def zg8 (i : Ins) : D := .agg [.int .i64 i.op, .int .i64 i.n, .int .i64 i.m, .int .i64 i.imm]
def zaU (r : zd3) (i : Ins) : Prop := i.n < 0 ∨ 15 < i.n ∨ (zfZ r.shape = false ∧ i.n ≠ 0) ∨ i.m < 0 ∨ 15 < i.m ∨ (zf0 r.shape = false ∧ i.m ≠ 0) ∨ i.imm < zcY r.shape ∨ zaq r.shape < i.imm
instance (r : zd3) (i : Ins) : Decidable (zaU r i) := by unfold zaU; infer_instance
def yS (i : Ins) : Int := match xE i.op with
 | none => 1
 | some r => if zaU r i then 3 else 0
theorem zrh : ∀ r ∈ xl, r.name ≠ [] := by unfold xl; decide
theorem zjZ {op : Int} {r : zd3} (h : xE op = some r) : r ∈ xl ∧ r.op = op := by
 unfold xE at h
 exact ⟨List.mem_of_find?_eq_some h, by simpa using List.find?_some h⟩
theorem vb : za Tryz.prog znK (zz (fun _ : Ins => True) (fun i => [zg8 i]) fun i => .int .i64 (yS i)) := by
 refine ze zi Tryz.func158 rfl (by decide) fun i _ => ?_
 refine ⟨Nat.le_refl _, by simp [Tryz.f158], fun E hE => ?_⟩
 refine zb _ ?_
 (all_goals refine qgo (Lf.mk ?_))
 refine zd zd5 i.op trivial (VS.mk (by (first | exact LeL.refl _ | (repeat' (first | exact LeL.nil | exact LeD.refl _ | exact LeD.nil _ | exact LeD.strip _ _ _ | refine LeL.cons ?_ ?_ | refine LeD.tup ?_ | refine LeD.agg ?_))))) ?_
 cases hi : xE i.op with
 | none =>
  have hw : yS i = 1 := by unfold yS; rw [hi]
  rw [show jD i.op = .tup [.str [], .int .i64 0] by unfold jD; rw [hi]]
  (all_goals refine qgo ?_ <;> (repeat' first | exact trivial | intro hc | refine And.intro ?_ ?_) <;> refine Lf.mk ?_)
  ·refine zf (VS.mk (LeD.of_eq ?_))
   rw [hw]
  ·exfalso; exact hc trivial
 | some r =>
  have hn : r.name ≠ [] := zrh r (zjZ hi).1
  have hw : yS i = if zaU r i then 3 else 0 := by unfold yS; rw [hi]
  rw [show jD i.op = .tup [.str r.name, .int .i64 r.shape] by unfold jD; rw [hi]]
  (all_goals refine qgo ?_ <;> (repeat' first | exact trivial | intro hc | refine And.intro ?_ ?_) <;> refine Lf.mk ?_)
  ·exfalso; exact hn hc
  refine zd zpU r.shape trivial (VS.mk (by (first | exact LeL.refl _ | (repeat' (first | exact LeL.nil | exact LeD.refl _ | exact LeD.nil _ | exact LeD.strip _ _ _ | refine LeL.cons ?_ ?_ | refine LeD.tup ?_ | refine LeD.agg ?_))))) ?_
  (all_goals refine qgo (Lf.mk ?_))
  refine zd zgu r.shape trivial (VS.mk (by (first | exact LeL.refl _ | (repeat' (first | exact LeL.nil | exact LeD.refl _ | exact LeD.nil _ | exact LeD.strip _ _ _ | refine LeL.cons ?_ ?_ | refine LeD.tup ?_ | refine LeD.agg ?_))))) ?_
  (all_goals refine qgo ?_ <;> (repeat' first | exact trivial | intro hc | refine And.intro ?_ ?_) <;> refine Lf.mk ?_)
  all_goals (refine zf (VS.mk (LeD.of_eq (congrArg (D.int .i64) ?_))); rw [hw])
  all_goals first | (rw [if_pos]; unfold zaU; simp_all; done) | (rw [if_neg]; unfold zaU; simp_all; done) | (rw [if_neg]; unfold zaU; simp_all; omega)
def zri (op : Int) : Int := xl.foldl (fun b r => if r.op = op then r.bits else b) 0
theorem zrj : ∀ r ∈ xl, zri r.op = r.bits ∧ 0 ≤ r.bits ∧ r.bits ≤ 65535 := by unfold zri xl; decide
def zvY (b n m v : Nat) : Nat := b ||| n * 256 ||| m * 16 ||| v
def zmo (r : zd3) (i : Ins) : Int := (zvY r.bits.toNat i.n.toNat i.m.toNat (i.imm % (if r.shape = 5 then 4096 else 256)).toNat : Nat)
def vO (i : Ins) : Int := match xE i.op with | some r => zmo r i | none => 0
theorem zsH {i : Ins} (h : yS i = 0) : ∃ r, xE i.op = some r ∧ 0 ≤ i.n ∧ i.n ≤ 15 ∧ 0 ≤ i.m ∧ i.m ≤ 15 ∧ (zfZ r.shape = false → i.n = 0) ∧ (zf0 r.shape = false → i.m = 0) ∧ zcY r.shape ≤ i.imm ∧ i.imm ≤ zaq r.shape := by
 unfold yS at h
 split at h
 ·exact absurd h (by decide)
 ·rename_i r hr
  split at h
  ·exact absurd h (by decide)
  ·rename_i hb
   unfold zaU at hb
   refine ⟨r, hr, by omega, by omega, by omega, by omega, fun h => ?_, fun h => ?_, by omega, by omega⟩
   ·exact Classical.byContradiction fun h' => hb (.inr (.inr (.inl ⟨h, h'⟩)))
   ·exact Classical.byContradiction fun h' => hb (.inr (.inr (.inr (.inr (.inr (.inl ⟨h, h'⟩))))))
theorem zrk {op : Int} {k : Nat} {r : zd3} (h : xl[k]? = some r) : (xl.take (k + 1)).foldl (fun b r => if r.op = op then r.bits else b) 0 = if r.op = op then r.bits else (xl.take k).foldl (fun b r => if r.op = op then r.bits else b) 0 := by
 obtain ⟨hk, rfl⟩ := List.getElem?_eq_some_iff.1 h
 rw [List.take_succ_eq_append_getElem hk, List.foldl_append]
 rfl
theorem zmp : za Tryz.prog zlX (zz (fun _ : Ins => True) (fun i => [zg8 i]) fun i => .tup [.int .i64 (if yS i = 0 then vO i else 0), .int .i64 (yS i)]) := by
 refine ze zi Tryz.func162 rfl (by decide) fun i _ => ?_
 refine ⟨Nat.le_refl _, by simp [Tryz.f162], fun E hE => ?_⟩
 refine zb _ ?_
 (all_goals refine qgo (Lf.mk ?_))
 refine zd vb i trivial (VS.mk (by (first | exact LeL.refl _ | (repeat' (first | exact LeL.nil | exact LeD.refl _ | exact LeD.nil _ | exact LeD.strip _ _ _ | refine LeL.cons ?_ ?_ | refine LeD.tup ?_ | refine LeD.agg ?_))))) ?_
 (all_goals refine qgo ?_ <;> (repeat' first | exact trivial | intro hc | refine And.intro ?_ ?_) <;> refine Lf.mk ?_)
 ·refine zf (VS.mk (LeD.of_eq ?_))
  rw [if_neg hc]
 obtain ⟨r, hi, h1, h2, h3, h4, h5, h6, h7, h8⟩ := zsH hc
 refine zd zd5 i.op trivial (VS.mk (by (first | exact LeL.refl _ | (repeat' (first | exact LeL.nil | exact LeD.refl _ | exact LeD.nil _ | exact LeD.strip _ _ _ | refine LeL.cons ?_ ?_ | refine LeD.tup ?_ | refine LeD.agg ?_))))) ?_
 rw [show jD i.op = .tup [.str r.name, .int .i64 r.shape] by unfold jD; rw [hi]]
 (all_goals refine qgo (Lf.mk ?_))
 refine zd zd4 () trivial (VS.mk (by (first | exact LeL.refl _ | (repeat' (first | exact LeL.nil | exact LeD.refl _ | exact LeD.nil _ | exact LeD.strip _ _ _ | refine LeL.cons ?_ ?_ | refine LeD.tup ?_ | refine LeD.agg ?_))))) ?_
 (all_goals refine qgo (Lf.mk ?_))
 refine yu (α := Nat) (fun k => k ≤ 27) (fun k => [(22, .sl 4 (xl.map zkX) none), (23, .int .i64 27), (24, .int .i64 k), (1, .loc 0 0), (6, .int .i64 r.shape),
  (7, .int .i64 ((xl.take k).foldl (fun b r => if r.op = i.op then r.bits else b) 0))]) (fun _ => [.cells [.int .i64 i.op, .int .i64 i.n, .int .i64 i.m, .int .i64 i.imm]]) (fun k => 27 - k) (fun _ => by simp [hE]) 0 (Nat.zero_le _) ?_ ?_
 ·(repeat' (first | (refine VS.mk ?_) | exact trivial | exact rfl | refine And.intro ?_ ?_))
  all_goals (rw [qU]; rfl)
 intro k hk
 refine zb _ ?_
 (all_goals refine qgo ?_ <;> (repeat' first | exact trivial | intro hc | refine And.intro ?_ ?_) <;> refine Lf.mk ?_)
 ·obtain ⟨q, hq⟩ := yi (l := xl) (k := k) (by rw [qU]; omega)
  have hst := zrk (op := i.op) hq
  refine zk q (by omega) (by simpa using hq) ?_
  (all_goals refine qgo ?_ <;> (repeat' first | exact trivial | intro hc | refine And.intro ?_ ?_) <;> refine Lf.mk ?_)
  ·refine zL (k + 1) (by omega) (by omega) ?_
   rw [hst, if_pos hc]
   (repeat' (first | (refine VS.mk ?_) | exact trivial | exact rfl | refine And.intro ?_ ?_))
  ·refine zL (k + 1) (by omega) (by omega) ?_
   rw [hst, if_neg hc]
   (repeat' (first | (refine VS.mk ?_) | exact trivial | exact rfl | refine And.intro ?_ ?_))
 all_goals
  obtain rfl : k = 27 := by omega
  obtain ⟨hm, ho⟩ := zjZ hi
  obtain ⟨b1, b2, b3⟩ := zrj r hm
  rw [ho] at b1
  obtain ⟨B, hB⟩ := Int.eq_ofNat_of_zero_le b2
  obtain ⟨N, hN⟩ := Int.eq_ofNat_of_zero_le h1
  obtain ⟨M, hM⟩ := Int.eq_ofNat_of_zero_le h3
  have hfold : (xl.take 27).foldl (fun b r => if r.op = i.op then r.bits else b) 0 = (B : Int) := by
   rw [List.take_of_length_le (by rw [qU]; exact Nat.le_refl _), ← hB, ← b1]
   rfl
  have hl1 : B ||| N * 256 < 2 ^ 16 := Nat.or_lt_two_pow (by omega) (by omega)
  have hl2 : B ||| N * 256 ||| M * 16 < 2 ^ 16 := Nat.or_lt_two_pow hl1 (by omega)
  rw [hfold]
  refine wK (zkV (a := B) (b := N * 256) rfl (by omega) (by omega) (by omega)) ?_
  (all_goals refine qgo (Lf.mk ?_))
  refine wK (zkV (a := B ||| N * 256) (b := M * 16) rfl (by omega) (by omega) (by omega)) ?_
  refine VS.mk ?_
 ·obtain ⟨V, hV⟩ := Int.eq_ofNat_of_zero_le (Int.emod_nonneg i.imm (show (4096 : Int) ≠ 0 by decide))
  refine wK qQ ?_
  rw [hV]
  (all_goals refine qgo (Lf.mk ?_))
  refine wK (zkV (a := B ||| N * 256 ||| M * 16) (b := V) rfl rfl (by omega) (by omega)) ?_
  (all_goals refine qgo (Lf.mk ?_))
  refine zf (VS.mk (LeD.of_eq ?_))
  rw [if_pos (by assumption), show vO i = zmo r i by unfold vO; rw [hi], zmo, if_pos (by assumption : r.shape = 5), hV, hB, hN, hM, (by assumption : yS i = 0)]
  rfl
 ·obtain ⟨V, hV⟩ := Int.eq_ofNat_of_zero_le (Int.emod_nonneg i.imm (show (256 : Int) ≠ 0 by decide))
  refine wK je ?_
  rw [hV]
  (all_goals refine qgo (Lf.mk ?_))
  refine wK (zkV (a := B ||| N * 256 ||| M * 16) (b := V) rfl rfl (by omega) (by omega)) ?_
  (all_goals refine qgo (Lf.mk ?_))
  refine zf (VS.mk (LeD.of_eq ?_))
  rw [if_pos (by assumption), show vO i = zmo r i by unfold vO; rw [hi], zmo, if_neg (by assumption : ¬ r.shape = 5), hV, hB, hN, hM, (by assumption : yS i = 0)]
  rfl
end Go.Proofs.YtnkdeacghopkiaaGreatDoor
namespace Go.Proofs.YtnkdeacghopkiaaGreatDoor
open Go Go.Plat
set_option linter.unusedVariables false
set_option linter.unusedSimpArgs false
set_option maxRecDepth 100000
set_option maxHeartbeats 2000000
attribute [local irreducible] AWP zN yv zU zo yC yh zG yb yf zx za zY yz zr yg yx yy yn yo zw zy zT
theorem qV : za Tryz.prog zbW (zz (fun ds : List D => ds.length ≤ 100000000 ∧ ∀ (i : Nat) d, ds[i]? = some d → d.cells.length = 1) (fun ds => [.sl 1 ds none]) fun ds => .sl 1 ds none) := by
 refine ze zi Tryz.func19 rfl (by decide) ?_
 rintro ds ⟨hds, hlen⟩
 refine ⟨Nat.le_refl _, by simp [Tryz.f19], fun E hE => ?_⟩
 refine zb _ ?_
 (all_goals refine qgo (Lf.mk ?_))
 refine zqF (fun h => ?_) ?_
 ·subst h
  (all_goals refine qgo (Lf.mk ?_))
  exact zf (VS.mk (LeD.nil _))
 (all_goals refine qgo (Lf.mk ?_))
 exact zf (VS.mk (LeD.refl _))
structure zZ where
 name : List UInt8
 at_ : Int
 deriving DecidableEq
def xm (s : zZ) : D := .agg [.str s.name, .int .i64 s.at_]
structure zvZ where
 base : Int
 bytes : List UInt8
 syms : List zZ
 deriving DecidableEq
end Go.Proofs.YtnkdeacghopkiaaGreatDoor
