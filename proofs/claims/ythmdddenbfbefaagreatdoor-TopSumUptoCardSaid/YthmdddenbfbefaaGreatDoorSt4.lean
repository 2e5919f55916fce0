/-
  A part of the proof: what the given program's functions answer, each once; conditions that are enough for it.
-/
import Derived.Test.YthmdddenbfbefaaGreatDoorSt3
import Derived.Test.YthmdddenbfbefaaGreatDoorSt2
import Derived.Test.YthmdddenbfbefaaGreatDoorSt1
import Derived.Test.YthmdddenbfbefaaGreatDoorFw3
import Derived.Test.YthmdddenbfbefaaGreatDoorRows
import Derived.WalkKit
import Derived.ProofKit
import Derived.OpenShut
import Derived.JoinedCond
import Derived.Deep.DeepHandedRow
import Derived.Lay
import Derived.Test.YthmdddenbfbefaaGreatDoorTie
namespace Go.Proofs.YthmdddenbfbefaaGreatDoor
open Go Go.Plat
set_option linter.unusedVariables false
set_option linter.unusedSimpArgs false
set_option maxRecDepth 100000
set_option maxHeartbeats 2000000
attribute [local irreducible] AWP zy ye zF zn yt z6 zE zW zY zp za zN yu zo zZ yp yq yj yl zt zu zw
structure znk (o : y0) : Prop where
 right : wE o = 0
 rels : ∀ r ∈ o.rels, -9223372036854775808 ≤ r.at_ ∧ r.at_ ≤ 9223372036854775807 ∧ r.name.length ≤ 1000000000
 syms : ∀ s ∈ o.syms, s.name.length ≤ 1000000000
abbrev Src := List UInt8 × y0
def okD (o : y0) : D := .tup [qG o, .agg [.int .i64 0, .int .i64 0]]
def zqB (U : Src → Prop) : Prop := za Tryz.prog zih (zA (fun x : Src => U x) (fun x => [vh x.1]) fun x => okD x.2)
theorem zex : zqB (fun x => ziH x.1 ∧ kZ x.1 = (x.2, 0, 0)) := by
 refine zpB zqo ?_
 rintro av L d L' ⟨x, ⟨h1, h2⟩, h3, h4, h5⟩
 refine ⟨x.1, h1, h3, h4, h5.1.trans ?_, h5.2⟩
 dsimp only
 rw [h2]
 rfl
attribute [local irreducible] wE xU
theorem znl {U : Src → Prop} (hU : zqB U) : za Tryz.prog zl1 (zA (fun ((l, base) : List Src × Int) => l.length ≤ 1000 ∧ (∀ x ∈ l, U x ∧ znk x.2) ∧ -9223372036854775808 ≤ base ∧ base ≤ 9223372036854775807)
  (fun (l, base) => [.sl 1 (l.map fun x => vh x.1) none, .int .i64 base]) fun (l, base) => zjF (xU (l.map (·.2)) base)) := by
 refine zg zj Tryz.func48 rfl (by decide) ?_
 rintro ⟨l, base⟩ ⟨hl, hx, hb0, hb1⟩
 have hl : l.length ≤ 1000 := hl
 refine ⟨Nat.le_refl _, by simp [Tryz.f48], fun E hE => ?_⟩
 refine zf _ ?_
 (all_goals refine qgp (Lf.mk ?_))
 refine wW (qX 6 3 rfl) ?_
 refine z8 (α := Nat) (fun k => k ≤ l.length) (fun k => [(1, .int .i64 base), (4, .loc 0 0), (5, .loc 1 0), (11, .sl 1 (l.map fun x => vh x.1) none), (12, .int .i64 l.length), (13, .int .i64 k), (6, .sl 3 (((l.take k).map (·.2)).map qG) (some 2))])
  (fun k => [.cells [.int .i64 0, .nilsl, .nilsl], .cells [.int .i64 0, .int .i64 0], .spare ((l.take k).map (·.2)).length]) (fun k => l.length - k) (fun _ => by simp [hE]) 0 (Nat.zero_le _) ?_ ?_
 ·(repeat' (first | (refine VS.mk ?_) | exact trivial | exact rfl | refine And.intro ?_ ?_))
 intro k hk
 have hk : k ≤ l.length := hk
 refine zf _ ?_
 (all_goals refine qgp ?_ <;> (repeat' first | exact trivial | intro hc | refine And.intro ?_ ?_) <;> refine Lf.mk ?_)
 ·obtain ⟨x, hxk⟩ := ya (l := l) (k := k) (by omega)
  have hkl : k < l.length := by omega
  obtain ⟨hu, ho⟩ := hx x (List.mem_of_getElem? hxk)
  have htk : (l.take (k + 1)).map (·.2) = (l.take k).map (·.2) ++ [x.2] := by rw [List.take_add_one, hxk]; simp
  refine zl (enc := fun x : Src => vh x.1) x (by omega) (by simpa using hxk) ?_
  (all_goals refine qgp ?_ <;> (repeat' first | exact trivial | intro hc | refine And.intro ?_ ?_) <;> refine Lf.mk ?_)
  refine ze hU x hu (VS.mk (LeL.of_eq rfl)) ?_
  (all_goals refine qgp ?_ <;> (repeat' first | exact trivial | intro hc | refine And.intro ?_ ?_) <;> refine Lf.mk ?_)
  unfold okD qG
  (all_goals refine qgp ?_ <;> (repeat' first | exact trivial | intro hc | refine And.intro ?_ ?_) <;> refine Lf.mk ?_)
  all_goals first
   | (exfalso; exact (by assumption : ¬ True) trivial)
   | skip
  refine ze zfy x.2 ⟨ho.rels, ho.syms⟩ (VS.mk (LeL.of_eq rfl)) ?_
  dsimp only
  rw [ho.right]
  (all_goals refine qgp ?_ <;> (repeat' first | exact trivial | intro hc | refine And.intro ?_ ?_) <;> refine Lf.mk ?_)
  all_goals first
   | (exfalso; exact (by assumption : ¬ True) trivial)
   | skip
  refine zC (k + 1) (by show k + 1 ≤ _; omega) (by omega) ?_
  rw [htk, List.map_append]
  (repeat' (first | (refine VS.mk ?_) | exact trivial | exact rfl | refine And.intro ?_ ?_))
  simp
 ·have hk2 : k = l.length := by omega
  rw [hk2, List.take_length]
  refine ze zqv (l.map (·.2), base) ⟨hb0, hb1, by show (l.map (·.2)).length ≤ _; rw [List.length_map]; omega, fun o ho => ?_, fun o ho => ?_⟩ (VS.mk (LeL.of_eq rfl)) ?_
  ·obtain ⟨x, hx1, rfl⟩ := List.mem_map.1 ho
   exact (hx x hx1).2.rels
  ·obtain ⟨x, hx1, rfl⟩ := List.mem_map.1 ho
   exact (hx x hx1).2.syms
  dsimp only
  generalize xU (l.map (·.2)) base = X
  obtain ⟨⟨ib, ibs, iss⟩, e, a⟩ := X
  unfold zjF zjr ztJ
  dsimp only
  (all_goals refine qgp ?_ <;> (repeat' first | exact trivial | intro hc | refine And.intro ?_ ?_) <;> refine Lf.mk ?_)
  exact zb (VS.mk (LeD.refl _))
structure zle (U : Src → Prop) (l : List (List UInt8 × y0)) (base : Int) (img : qF) (m : zM) (e : Int) : Prop where
 len : l.length ≤ 4
 ok : ∀ x ∈ l, U x ∧ znk x.2
 bas : 0 ≤ base ∧ base ≤ 1048576
 link : xU (l.map (·.2)) base = (img, 0, 0)
 ibase : img.base = base
 ilen : img.bytes.length ≤ 1000000
 isym : img.syms.length ≤ 1000000
 run : qH (zap img) 2000 = (m, e)
theorem zwD {i : qF} (h : 0 ≤ i.base ∧ i.base ≤ 1048576) (h1 : i.bytes.length ≤ 1000000) (h2 : i.syms.length ≤ 1000000) : InM 0 (zap i) :=
 ⟨fun _ _ => ⟨by show (-2147483648 : Int) ≤ 0; decide, by show (0 : Int) ≤ 2147483647; decide⟩, ⟨by show _ ≤ i.base; omega, by show i.base ≤ _; omega⟩, ⟨by show _ ≤ (-1 : Int); decide, by show (-1 : Int) ≤ _; decide⟩, h, by show i.bytes.length ≤ _; omega, by show i.syms.length ≤ _; omega, by show 0 ≤ _; decide, ⟨by show (0 : Int) ≤ 0; decide, by show (0 : Int) ≤ _; decide⟩⟩
attribute [local irreducible] qH zap
theorem ziN {U : Src → Prop} (hU : zqB U) : za Tryz.prog zlZ (zA (fun ((l, base, img, m, e) : List Src × Int × qF × zM × Int) => zle U l base img m e) (fun (l, base, _) => [.int .i64 base, .sl 1 (l.map fun x => .str x.1) none]) fun (_, _, _, m, e) => .tup [.sl 1 (m.told.map zg7) none, .int .i64 e]) := by
 refine zg zj Tryz.func25 rfl (by decide) ?_
 rintro ⟨l, base, img, m, e⟩ h
 have h : zle U l base img m e := h
 have hl := h.len
 have hb := h.bas
 refine ⟨Nat.le_refl _, by simp [Tryz.f25], fun E hE => ?_⟩
 refine zf _ ?_
 (all_goals refine qgp ?_ <;> (repeat' first | exact trivial | intro hc | refine And.intro ?_ ?_) <;> refine Lf.mk ?_)
 refine wW (qX 6 1 rfl) ?_
 refine z8 (α := Nat) (fun k => k ≤ l.length) (fun k => [(0, .int .i64 base), (13, .sl 1 (l.map fun x => .str x.1) none), (14, .int .i64 l.length), (15, .int .i64 k), (6, .sl 1 ((l.take k).map fun x => vh x.1) (some 0))])
  (fun k => [.spare (l.take k).length]) (fun k => l.length - k) (fun _ => by simp [hE]) 0 (Nat.zero_le _) ?_ ?_
 ·(repeat' (first | (refine VS.mk ?_) | exact trivial | exact rfl | refine And.intro ?_ ?_))
 intro k hk
 have hk : k ≤ l.length := hk
 refine zf _ ?_
 (all_goals refine qgp ?_ <;> (repeat' first | exact trivial | intro hc | refine And.intro ?_ ?_) <;> refine Lf.mk ?_)
 ·obtain ⟨x, hxk⟩ := ya (l := l) (k := k) (by omega)
  have hkl : k < l.length := by omega
  have htk : l.take (k + 1) = l.take k ++ [x] := by rw [List.take_add_one, hxk]; rfl
  refine zl (enc := fun x : Src => D.str x.1) x (by omega) (by simpa using hxk) ?_
  (all_goals refine qgp ?_ <;> (repeat' first | exact trivial | intro hc | refine And.intro ?_ ?_) <;> refine Lf.mk ?_)
  refine zC (k + 1) (by show k + 1 ≤ _; omega) (by omega) ?_
  rw [htk, List.map_append]
  (repeat' (first | (refine VS.mk ?_) | exact trivial | exact rfl | refine And.intro ?_ ?_))
  simp
 ·have hk2 : k = l.length := by omega
  rw [hk2, List.take_length]
  refine ze (znl hU) (l, base) ⟨by show l.length ≤ 1000; omega, h.ok, by show _ ≤ base; omega, by show base ≤ _; omega⟩ (VS.mk (LeL.of_eq rfl)) ?_
  dsimp only
  rw [h.link]
  unfold zjF zjr ztJ
  dsimp only
  (all_goals refine qgp ?_ <;> (repeat' first | exact trivial | intro hc | refine And.intro ?_ ?_) <;> refine Lf.mk ?_)
  all_goals first
   | (exfalso; exact (by assumption : ¬ True) trivial)
   | skip
  refine ze zsi img ⟨by have := h.ilen; omega, by have := h.isym; omega⟩ (VS.mk (LeL.of_eq rfl)) ?_
  unfold zbG w7
  (all_goals refine qgp ?_ <;> (repeat' first | exact trivial | intro hc | refine And.intro ?_ ?_) <;> refine Lf.mk ?_)
  refine ze zsl (zap img, 2000) (zwD (by rw [h.ibase]; exact hb) h.ilen h.isym) (VS.mk (LeL.of_eq rfl)) ?_
  dsimp only
  rw [h.run]
  unfold zbG w7
  dsimp only
  (all_goals refine qgp ?_ <;> (repeat' first | exact trivial | intro hc | refine And.intro ?_ ?_) <;> refine Lf.mk ?_)
  exact zb (VS.mk (LeD.refl _))
end Go.Proofs.YthmdddenbfbefaaGreatDoor
namespace Go.Proofs.YthmdddenbfbefaaGreatDoor
open Go Go.Plat
set_option linter.unusedVariables false
set_option linter.unusedSimpArgs false
set_option maxRecDepth 100000
set_option maxHeartbeats 2000000
attribute [local irreducible] AWP zy ye zF zn yt z6 zE zW zY zp za zN yu zo zZ yp yq yj yl zt zu zw
def zjJ (u : Nat) : List UInt8 := if u < 10 then [UInt8.ofNat (48 + u)] else if u < 100 then [UInt8.ofNat (48 + u / 10), UInt8.ofNat (48 + u % 10)] else [UInt8.ofNat (48 + u / 10 / 10), UInt8.ofNat (48 + u / 10 % 10), UInt8.ofNat (48 + u % 10)]
def zfP (n : Int) : List UInt8 := if n < 0 then 45 :: zjJ n.natAbs else zjJ n.toNat
theorem zsm {u : Nat} (h : u < 1000) : Lib.decDigits u = zjJ u := by
 unfold zjJ
 split
 ·exact Lib.decDigits_one (by assumption)
 split
 ·exact Lib.decDigits_two (by assumption) (by assumption)
 ·rw [Lib.decDigits, dif_neg (by assumption), Lib.decDigits_two (by omega) (by omega)]
  rfl
theorem ztU {n : Int} (h0 : -1000 < n) (h1 : n < 1000) : Lib.itoa n = zfP n := by
 unfold Lib.itoa zfP
 rw [zsm (by omega), zsm (by omega)]
def ziO (x : yI) : Bool := decide (ki (kY x)) && decide (x.toks.length ≤ 1000000000) && decide (wt (x.toks.map tk) ≤ 1048576)
def ziP (b : List UInt8) : Bool := decide (b.length ≤ 1000000000) && decide ((yP b).1.length ≤ 200) && decide (vp (yP b).1 ≤ 9000) && (yP b).1.all ziO
theorem zsn {b : List UInt8} (h : ziP b = true) : ziH b := by
 unfold ziP at h
 simp only [Bool.and_eq_true, decide_eq_true_eq, List.all_eq_true] at h
 obtain ⟨⟨⟨h1, h2⟩, h3⟩, h4⟩ := h
 have h5 : ∀ x ∈ (yP b).1, ki (kY x) ∧ x.toks.length ≤ 1000000000 ∧ wt (x.toks.map tk) ≤ 1048576 := fun x hx => by
  have := h4 x hx
  unfold ziO at this
  simp only [Bool.and_eq_true, decide_eq_true_eq] at this
  exact ⟨this.1.1, this.1.2, this.2⟩
 exact ⟨h1, ⟨h2, fun x hx => ⟨(h5 x hx).1, (h5 x hx).2.1⟩⟩, h3, fun x hx => (h5 x hx).2.2⟩
def obC (o : y0) : Bool := decide (wE o = 0) && o.rels.all (fun r => decide (-9223372036854775808 ≤ r.at_ ∧ r.at_ ≤ 9223372036854775807 ∧ r.name.length ≤ 1000000000)) && o.syms.all fun s => decide (s.name.length ≤ 1000000000)
theorem zwE {o : y0} (h : obC o = true) : znk o := by
 unfold obC at h
 simp only [Bool.and_eq_true, decide_eq_true_eq, List.all_eq_true] at h
 exact ⟨h.1.1, h.1.2, h.2⟩
theorem zfQ {α β : Type} {f g : α → β} {l : List α} (h : l.map f = l.map g) {x : α} (hx : x ∈ l) : f x = g x := by
 induction l with
 | nil => cases hx
 | cons y l ih =>
  rw [List.map_cons, List.map_cons] at h
  injection h with h1 h2
  rcases List.mem_cons.1 hx with rfl | hx
  ·exact h1
  ·exact ih h2 hx
def ztV (b : List UInt8) (o : y0) : (y0 × Int × Int) × Bool × Bool := (kZ b, ziP b, obC o)
def zwF : List UInt8 := [109, 111, 118, 46, 108, 32, 61, 97, 108, 108, 44, 114, 52, 10, 109, 111, 118, 32, 35, 48, 44, 114, 48, 10, 109, 111, 118, 32, 35]
def zwG : List UInt8 := [44, 114, 49, 10, 97, 103, 97, 105, 110, 58, 32, 109, 111, 118, 46, 108, 32, 64, 114, 52, 44, 114, 50, 10, 97, 100, 100, 32, 114, 50, 44, 114, 48, 10, 97, 100, 100, 32, 35, 52, 44, 114, 52, 10, 100, 116, 32, 114, 49, 10, 98, 102, 32, 97, 103, 97, 105, 110, 10, 116, 114, 97, 112, 97, 32, 35, 49, 10, 116, 114, 97, 112, 97, 32, 35, 48, 10, 46, 112, 111, 111, 108, 10, 97, 108, 108, 58]
def ji (n : Nat) : List UInt8 := (zwF ++ zfP (n : Int)) ++ zwG
def vr : List UInt8 := [97, 103, 97, 105, 110]
def kG : List UInt8 := [97, 108, 108]
def wT (s : List UInt8) : yB := ⟨1, 0, s⟩
def sT (c : UInt8) : yB := ⟨3, 0, [c]⟩
def nT (n : Int) : yB := ⟨2, n, []⟩
def zdf (n : Nat) : List yI := [⟨1, [wT [109, 111, 118, 46, 108], sT 61, wT kG, sT 44, wT [114, 52]]⟩, ⟨2, [wT [109, 111, 118], sT 35, nT 0, sT 44, wT [114, 48]]⟩, ⟨3, [wT [109, 111, 118], sT 35, nT n, sT 44, wT [114, 49]]⟩,
 ⟨4, [wT vr, sT 58, wT [109, 111, 118, 46, 108], sT 64, wT [114, 52], sT 44, wT [114, 50]]⟩, ⟨5, [wT [97, 100, 100], wT [114, 50], sT 44, wT [114, 48]]⟩, ⟨6, [wT [97, 100, 100], sT 35, nT 4, sT 44, wT [114, 52]]⟩, ⟨7, [wT [100, 116], wT [114, 49]]⟩, ⟨8, [wT [98, 102], wT vr]⟩,
 ⟨9, [wT [116, 114, 97, 112, 97], sT 35, nT 1]⟩, ⟨10, [wT [116, 114, 97, 112, 97], sT 35, nT 0]⟩, ⟨11, [wT [46, 112, 111, 111, 108]]⟩, ⟨12, [wT kG, sT 58]⟩]
theorem zqC : (List.range 21).map (fun n : Nat => (we (yx 10 (ji n)) 1 [], (yx 10 (ji n)).length, decide ((ji n).length ≤ 200))) = (List.range 21).map fun n : Nat => ((zdf n, 0, 0), 12, true) := by kernel_rfl
theorem zso {n : Nat} (hn : n < 21) {l : List Int} (hl : l.length ≤ 20) (h : k8 l) : (ji n ++ 10 :: xz l).length ≤ 600 ∧ yP (ji n ++ 10 :: xz l) = (zdf n ++ wn l 13, 0, 0) := by
 have hh := zfQ zqC (List.mem_range.2 hn)
 rw [Prod.mk.injEq, Prod.mk.injEq ((yx 10 (ji n)).length)] at hh
 obtain ⟨h1, h2, h3⟩ := hh
 have h3 := of_decide_eq_true h3
 have hf := zhs l h
 have hlen : (ji n ++ 10 :: xz l).length ≤ 600 := by rw [List.length_append, List.length_cons]; omega
 refine ⟨hlen, ?_⟩
 unfold yP
 rw [if_neg (by omega), zkn, ziI, h1, if_neg (fun h => h rfl), h2]
 exact ziJ l 13 _ h
def znm (n : Int) : List zx := [⟨6, 0, 1, ⟨24, 4, 0, 0⟩, false, 0, noV, 0, 0⟩, ⟨1, 0, 2, ⟨3, 0, 0, 0⟩, false, 0, ⟨[], 0⟩, 0, 0⟩, ⟨1, 0, 3, ⟨3, 1, 0, n⟩, false, 0, ⟨[], n⟩, 0, 0⟩, ⟨1, 0, 4, ⟨26, 2, 4, 0⟩, false, 0, noV, 0, 0⟩, ⟨1, 0, 5, ⟨6, 0, 2, 0⟩, false, 0, noV, 0, 0⟩,
 ⟨1, 0, 6, ⟨4, 4, 0, 4⟩, false, 0, ⟨[], 4⟩, 0, 0⟩, ⟨1, 0, 7, ⟨16, 1, 0, 0⟩, false, 0, noV, 0, 0⟩, ⟨2, 0, 8, ⟨18, 0, 0, 0⟩, false, 0, ⟨vr, 0⟩, 0, 0⟩, ⟨1, 0, 9, ⟨27, 0, 0, 1⟩, false, 0, ⟨[], 1⟩, 0, 0⟩, ⟨1, 0, 10, ⟨27, 0, 0, 0⟩, false, 0, ⟨[], 0⟩, 0, 0⟩, ⟨9, 0, 11, noI, false, 0, noV, 0, 0⟩]
def bS (its : List zx) : Bld := ⟨its, [⟨vr, 0⟩, ⟨kG, 0⟩], [3, 11], [[⟨kG, 0⟩]], false, [], 0, 0⟩
theorem zsp : (List.range 21).map (fun n : Nat => xG [] (zdf n) b0) = (List.range 21).map fun n : Nat => bS (znm n) := by kernel_rfl
theorem ztW {n k : Int} (h0 : 0 ≤ n) (h1 : n < 4294967296) (its : List zx) : xK [] (bS its) ⟨k, zcX n⟩ = bS (its ++ [zay k n]) := by
 have hs := zel h0 h1
 have e1 : yZ [] k (zcX n) (bS its) = (bS its, zcX n) := by
  unfold zcX
  rw [yZ, if_neg (fun h => absurd h.2.1 (by show ¬ (2 : Int) = 3; decide))]
 unfold xK
 dsimp only
 rw [e1]
 dsimp only
 unfold zcX bS
 rw [zbD, if_neg (fun h => h rfl), if_neg (fun h => h rfl)]
 dsimp only
 rw [zvi]
 dsimp only
 rw [if_neg (fun h => h rfl)]
 unfold zei
 rw [if_neg (by decide), if_neg (by decide), if_pos (by decide)]
 unfold kw
 rw [if_neg (by simp), List.foldl_cons, List.foldl_nil]
 unfold wG
 have hr : ¬ (zd n 32 < zpZ 4 ∨ zlb 4 < zd n 32) := by
  have e3 : zpZ 4 = -2147483648 := rfl
  have e4 : zlb 4 = 4294967295 := rfl
  rw [e3, e4, hs]
  split <;> omega
 rw [if_neg (by simp), if_neg (by simp), if_neg (fun h => hr h.2)]
 rfl
theorem zks : ∀ (l : List Int) (k : Int) (its : List zx), k8 l → xG [] (wn l k) (bS its) = bS (its ++ qg l k)
 | [], k, its, _ => by
  show bS its = bS (its ++ [])
  rw [List.append_nil]
 | n :: l, k, its, h => by
  have hn := h n List.mem_cons_self
  rw [wn, zgM, ztW hn.1 hn.2, zks l (k + 1) _ (fun m hm => h m (List.mem_cons_of_mem _ hm)), qg, List.append_assoc]
  rfl
theorem ztX {n : Nat} (hn : n < 21) {l : List Int} (hl : k8 l) : xG [] (zdf n ++ wn l 13) b0 = bS (znm n ++ qg l 13) := by
 rw [zqs, zfQ zsp (List.mem_range.2 hn), zks l 13 _ hl]
def zbH : List (List zq) := [[⟨kG, 0⟩]]
def kH : List zz := [⟨vr, 6⟩, ⟨kG, 24⟩]
def zcl (n : Int) : List zx := [⟨6, 0, 1, ⟨24, 4, 0, 0⟩, false, 0, noV, 0, 0⟩, ⟨1, 2, 2, ⟨3, 0, 0, 0⟩, false, 0, ⟨[], 0⟩, 0, 0⟩, ⟨1, 4, 3, ⟨3, 1, 0, n⟩, false, 0, ⟨[], n⟩, 0, 0⟩, ⟨1, 6, 4, ⟨26, 2, 4, 0⟩, false, 0, noV, 0, 0⟩, ⟨1, 8, 5, ⟨6, 0, 2, 0⟩, false, 0, noV, 0, 0⟩,
 ⟨1, 10, 6, ⟨4, 4, 0, 4⟩, false, 0, ⟨[], 4⟩, 0, 0⟩, ⟨1, 12, 7, ⟨16, 1, 0, 0⟩, false, 0, noV, 0, 0⟩, ⟨2, 14, 8, ⟨18, 0, 0, 0⟩, false, 0, ⟨vr, 0⟩, 0, 0⟩, ⟨1, 16, 9, ⟨27, 0, 0, 1⟩, false, 0, ⟨[], 1⟩, 0, 0⟩, ⟨1, 18, 10, ⟨27, 0, 0, 0⟩, false, 0, ⟨[], 0⟩, 0, 0⟩, ⟨9, 20, 11, noI, false, 0, noV, 0, 0⟩]
theorem ziQ (pools : List (List zq)) : ∀ (a b : List zx) (k : Int), yi pools (a ++ b) k = ((yi pools a k).1 ++ (yi pools b (yi pools a k).2).1, (yi pools b (yi pools a k).2).2)
 | [], b, k => rfl
 | x :: a, b, k => by rw [List.cons_append, yi, ziQ pools a b, yi]; rfl
theorem zqD (n : Int) : yi zbH (znm n) 0 = (zcl n, 24) := by kernel_rfl
theorem zgR : ∀ (l : List Int) (k a : Int), yi zbH (qg l k) a = (yW l k a, a + 4 * (l.length : Int))
 | [], k, a => by rw [qg, yi, yW]; simp
 | n :: l, k, a => by
  have hz : xn zbH (zay k n) a = 4 := rfl
  rw [qg, yi, hz, zgR l (k + 1) (a + 4), yW]
  simp only [List.length_cons]
  refine Prod.ext rfl ?_
  show a + 4 + 4 * (l.length : Int) = a + 4 * ((l.length + 1 : Nat) : Int)
  omega
theorem zsq (n : Int) {l : List Int} (hl : 1 ≤ l.length) : yK zbH [3, 11] ⟨znm n ++ qg l 13, [⟨vr, 0⟩, ⟨kG, 0⟩]⟩ = (⟨zcl n ++ yW l 13 24, kH⟩, 24 + 4 * (l.length : Int)) := by
 unfold yK
 dsimp only
 rw [ziQ, zqD]
 dsimp only
 rw [zgR]
 dsimp only
 have h3 : kf (zcl n ++ yW l 13 24) (24 + 4 * (l.length : Int)) 3 = 6 := by
  unfold kf
  rw [if_pos (by rw [List.length_append]; show (3 : Int) < ((11 + (yW l 13 24).length : Nat) : Int); omega)]
  rfl
 have h11 : kf (zcl n ++ yW l 13 24) (24 + 4 * (l.length : Int)) 11 = 24 := by
  match l, hl with
  | x :: r, _ =>
   unfold kf
   rw [yW, if_pos (by rw [List.length_append, List.length_cons]; show (11 : Int) < ((11 + ((yW r (13 + 1) (24 + 4)).length + 1) : Nat) : Int); omega)]
   rfl
 rw [x4, h3, x4, h11, x4]
 ·rfl
 all_goals simp
theorem zqE (syms : List zz) : ∀ (l : List Int) (k a : Int), (yW l k a).any (xB syms) = false ∧ (yW l k a).map (yT syms) = yW l k a := fun l k a => ⟨(zfJ syms l k a).1, (zfJ syms l k a).2.1⟩
theorem zqF (n : Int) : (zcl n).any (xB kH) = false ∧ (zcl n).map (yT kH) = zcl n := ⟨by kernel_rfl, by kernel_rfl⟩
theorem zsr (n : Int) {l : List Int} (hl : 1 ≤ l.length) : yG zbH [3, 11] ⟨znm n ++ qg l 13, [⟨vr, 0⟩, ⟨kG, 0⟩]⟩ = (⟨zcl n ++ yW l 13 24, kH⟩, 24 + 4 * (l.length : Int)) := by
 unfold yG
 dsimp only
 obtain ⟨h1, h2⟩ := zqF n
 obtain ⟨m1, m2⟩ := zqE kH l 13 24
 rw [zdb, zsq n hl]
 dsimp only
 rw [List.any_append, h1, m1, if_pos (.inl rfl), List.map_append, h2, m2]
def jj (n : Int) : List UInt8 := [212, 4, 224, 0, 225, ym n, 98, 66, 48, 44, 116, 4, 65, 16, 139, 250, 195, 1, 195, 0, 0, 0, 0, 0]
theorem zss (X : List zx) : (List.range 21).map (fun n : Nat => (zcl n).foldl (fun o x => if o.fe = 0 then vP zbH (zcl n ++ X) kH o x else o) ⟨[], [], 0, 0⟩) = (List.range 21).map fun n : Nat => (⟨jj n, [⟨20, 4, [], 24⟩], 0, 0⟩ : Out) := by kernel_rfl
theorem ziR (its : List zx) (rels : List jf) : ∀ (l : List Int) (k a : Int) (c : List UInt8), a = c.length → a % 4 = 0 →
  (yW l k a).foldl (fun o x => if o.fe = 0 then vP zbH its kH o x else o) ⟨c, rels, 0, 0⟩ = ⟨xX l c, rels, 0, 0⟩
 | [], k, a, c, _, _ => rfl
 | n :: l, k, a, c, ha, h4 => by
  have he : vP zbH its kH ⟨c, rels, 0, 0⟩ { zay k n with at_ := a } = ⟨yb (c ++ List.replicate 4 0) c.length 4 (zd n 32), rels, 0, 0⟩ := by
   show (if (7 : Int) = 7 then (if a % 4 ≠ 0 then w6 ⟨c, rels, 0, 0⟩ 11 k else xZ kH ⟨c, rels, 0, 0⟩ ⟨[], zd n 32⟩ (Int.toNat 4)) else _) = _
   rw [if_pos rfl, if_neg (fun h => h h4)]
   rfl
  rw [yW, List.foldl_cons, if_pos rfl, he, xX]
  exact ziR its rels l (k + 1) (a + 4) _ (by rw [vW]; simp; omega) (by omega)
def zfR (n : Int) (l : List Int) : y0 := ⟨xX l (jj n), kH, [⟨20, 4, [], 24⟩]⟩
theorem zvw {n : Nat} (hn : n < 21) {l : List Int} (hl : k8 l) (h1 : 1 ≤ l.length) (h2 : l.length ≤ 20) : vq [] (zdf n ++ wn l 13) = (zfR n l, 0, 0) := by
 have he := ziR (zcl n ++ yW l 13 24) [⟨20, 4, [], 24⟩] l 13 24 (jj n) rfl rfl
 have hh := zfQ (zss (yW l 13 24)) (List.mem_range.2 hn)
 have hp : ∀ its line, vy (bS its) line = bS its := fun its line => by unfold vy; rw [if_neg (fun h => Bool.noConfusion h)]
 unfold vq
 rw [ztX hn hl, hp]
 unfold zm4 vf bS
 dsimp only
 rw [show ([[⟨kG, 0⟩]] : List (List zq)) = zbH from rfl, zsr n h1]
 dsimp only
 rw [List.foldl_append, hh, he, if_neg (fun h => h rfl), if_neg (by omega), if_neg (fun h => h rfl)]
 rfl
theorem zst {n : Int} (h : n % 4 = 0) : upI n = n := by unfold upI; omega
theorem zvx {base n : Int} {o : y0} {l : List y0} {i : Nat} {bs bs' : List UInt8} {ss ss' : List zz} (h1 : upI n = n) (h2 : zci n o.syms ss = some ss') (h3 : jW bs (n - base).toNat o.code = bs') :
  lay base (o :: l) n i bs ss = lay base l (n + o.code.length) (i + 1) bs' ss' := by rw [lay, h1, h2, h3]
theorem zvy {base n : Int} {o : y0} {l : List y0} {i : Nat} {bs bs' : List UInt8} {ss : List zz} (h1 : upI n = n) (h2 : jh base n ss o.rels bs = .inr bs') :
  fix base ss (o :: l) n i bs = fix base ss l (n + o.code.length) (i + 1) bs' := by rw [fix, h1, h2]
theorem ztY {base b a : Int} {ss : List zz} {r : jf} {l : List jf} {bs : List UInt8} (h1 : za8 b ss r = some a) (h2 : r.size = 4) (h3 : zd (a + r.add) 32 = a + r.add) :
  jh base b ss (r :: l) bs = jh base b ss l (yb bs (b - base + r.at_) 4 (a + r.add)) := by
 rw [jh, h1]
 dsimp only
 rw [if_neg (fun h => by have := h.1; omega), h2, h3]
 rfl
theorem zsu {n : Int} (h0 : 0 ≤ n) (h1 : n ≤ 100000) : zd n 32 = n := by rw [zel h0 (by omega), if_pos (by omega)]
theorem ztZ {m : zM} {base k w : Int} {i : Ins} (hb : m.img.base = base) (h2 : base % 4 = 0) (hk : 0 ≤ k) (hk2 : k % 2 = 0) (hl : k + 2 ≤ m.img.bytes.length) (hg : yv m.img.bytes k 2 = w) (hd : xe w = (i, 0)) : xq m (base + k) = (i, 0) := by
 unfold xq inM
 rw [hb, if_pos (decide_eq_true ⟨by omega, by omega, by omega⟩), show base + k - base = k by omega, hg, hd]
theorem kj {n : Nat} {m x : zM} {base k : Int} {i : Ins} (k' : Int) (hpc : m.pc = base + k) (hf : xq m (base + k) = (i, 0)) (h1 : ¬ (i.op = 27 ∧ i.imm = 0)) (h2 : qC i.op = false) (hp : zO { m with steps := m.steps + 1 } i (base + k) = (x, 0)) (hx : x.pc + 2 = base + k') :
  y7 (n + 1) m = y7 n { x with pc := base + k' } := by
 have hs : xt m = ({ x with pc := base + k' }, false, 0) := by
  unfold xt
  rw [hpc, hf]
  dsimp only
  rw [hpc] at hp
  rw [if_neg (fun h => h rfl), if_neg h1, if_pos h2, hp]
  dsimp only
  rw [if_neg (fun h => h rfl), hx]
 rw [y7, hs]
 dsimp only
 rw [if_neg (fun h => h rfl), if_neg (by decide)]
theorem zwH {n : Nat} {m : zM} {base k : Int} {i : Ins} (hpc : m.pc = base + k) (hf : xq m (base + k) = (i, 0)) (h1 : i.op = 27 ∧ i.imm = 0) : y7 (n + 1) m = ({ m with steps := m.steps + 1 }, 0) := by
 have hs : xt m = ({ m with steps := m.steps + 1 }, true, 0) := by
  unfold xt
  rw [hpc, hf]
  dsimp only
  rw [if_neg (fun h => h rfl), if_pos h1]
 rw [y7, hs]
 dsimp only
 rw [if_neg (fun h => h rfl), if_pos rfl]
theorem zvz {m : zM} {n imm at_ base k v : Int} (hb : m.img.base = base) (h4 : base % 4 = 0) (hk : 0 ≤ k) (hk4 : k % 4 = 0) (hl : k + 4 ≤ m.img.bytes.length) (ht : (at_ + 4) - (at_ + 4) % 4 + 4 * imm = base + k) (hg : yv m.img.bytes k 4 = v) (hs : zd v 32 = v) :
  zO m ⟨24, n, 0, imm⟩ at_ = (xr m n v, 0) := by
 have hto : toM ⟨24, n, 0, imm⟩ at_ = base + k := by
  unfold toM
  have hs : wI 24 = 8 := by kernel_rfl
  dsimp only
  rw [hs, if_neg (by decide), if_pos rfl, ht]
 unfold zO
 dsimp only
 rw [if_neg (by decide), if_neg (by decide), if_neg (by decide), if_neg (by decide), if_neg (by decide), if_pos (.inr (.inl rfl))]
 unfold x6
 dsimp only
 rw [if_neg (show ¬ (24 : Int) = 26 by decide), if_neg (show ¬ (24 : Int) = 23 by decide), if_neg (show ¬ (24 : Int) = 23 by decide), hto]
 unfold inM
 rw [hb, if_pos (decide_eq_true ⟨by omega, by omega, by omega⟩), show base + k - base = k by omega, hg, hs]
theorem zo3 (l : List UInt8) (at_ : Int) (k : Nat) (n : Int) : (yb l at_ k n).length = l.length := vW _ _ _ _
theorem znn {l : List UInt8} {p n k : Int} {j : Nat} (h : k + j ≤ p ∨ p + 4 ≤ k) : yv (yb l p 4 n) k j = yv l k j := jU j fun i h1 h2 => zax p 4 l n i (by omega)
theorem zkt (m : zM) (n a at_ : Int) : zO m ⟨3, n, 0, a⟩ at_ = (xr m n a, 0) := by unfold zO; dsimp only; rw [if_pos rfl]
theorem zqG (m : zM) (at_ : Int) : zO m ⟨27, 0, 0, 1⟩ at_ = ({ m with told := m.told ++ [m.r 0] }, 0) := by
 unfold zO
 dsimp only
 rw [if_neg (by decide), if_neg (by decide), if_neg (by decide), if_neg (by decide), if_neg (by decide), if_neg (by decide), if_neg (by decide), if_pos rfl]
theorem zvA : xe 53506 = (⟨24, 1, 0, 2⟩, 0) ∧ xe 53505 = (⟨24, 1, 0, 1⟩, 0) ∧ xe 16651 = (⟨22, 1, 0, 0⟩, 0) ∧ xe 16683 = (⟨21, 1, 0, 0⟩, 0) ∧ xe 9 = (⟨1, 0, 0, 0⟩, 0) ∧ xe 11 = (⟨2, 0, 0, 0⟩, 0) ∧ xe 49921 = (⟨27, 0, 0, 1⟩, 0) ∧ xe 49920 = (⟨27, 0, 0, 0⟩, 0) :=
 ⟨by kernel_rfl, by kernel_rfl, by kernel_rfl, by kernel_rfl, by kernel_rfl, by kernel_rfl, by kernel_rfl, by kernel_rfl⟩
theorem zxj {x y : Int} {l : List UInt8} {k v : Int} (hx : xd l (k + 0) = x) (hy : xd l (k + 1) = y) (h : x * 256 + y = v) : yv l k 2 = v := by
 show (0 * 256 + xd l (k + ((0 : Nat) : Int))) * 256 + xd l (k + ((1 : Nat) : Int)) = v
 rw [show k + ((0 : Nat) : Int) = k + 0 from rfl, show k + ((1 : Nat) : Int) = k + 1 from rfl, hx, hy]
 omega
theorem zt0 {l : List UInt8} {p n k w : Int} (h : k + ((2 : Nat) : Int) ≤ p ∨ p + 4 ≤ k) (hg : yv l k 2 = w) : yv (yb l p 4 n) k 2 = w := (znn h).trans hg
def zR : Nat → Int := fun _ => 0
attribute [local irreducible] y7 xq zO xD xe xt yv yb
end Go.Proofs.YthmdddenbfbefaaGreatDoor
namespace Go.Proofs.YthmdddenbfbefaaGreatDoor
open Go Go.Plat
set_option linter.unusedVariables false
set_option linter.unusedSimpArgs false
set_option maxRecDepth 100000
set_option maxHeartbeats 2000000
attribute [local irreducible] AWP zy ye zF zn yt z6 zE zW zY zp za zN yu zo zZ yp yq yj yl zt zu zw
attribute [local irreducible] Lib.itoa zh.kids zh.kind zh.n zh.name xf wi vq vA xk xb wO xC wg xl xN xT yP yH vZ yy yV xQ yb wx zd xn wQ zL zT wP xZ yU
end Go.Proofs.YthmdddenbfbefaaGreatDoor
namespace Go.Proofs.YthmdddenbfbefaaGreatDoor
open Go Go.Plat
set_option linter.unusedVariables false
set_option linter.unusedSimpArgs false
set_option maxRecDepth 100000
set_option maxHeartbeats 2000000
attribute [local irreducible] AWP zy ye zF zn yt z6 zE zW zY zp za zN yu zo zZ yp yq yj yl zt zu zw
theorem zvB {n : Nat} {m m2 : zM} {base k : Int} {i : Ins} (k2 : Int) (hpc : m.pc = base + k) (hf : xq m (base + k) = (i, 0)) (h1 : i.op ≠ 27) (h2 : qC i.op = true) (hl : xD { m with steps := m.steps + 1 } i = (m2, base + k2, false)) : y7 (n + 1) m = y7 n { m2 with pc := base + k2 } := by
 have hs : xt m = ({ m2 with pc := base + k2 }, false, 0) := by
  unfold xt
  rw [hpc, hf]
  dsimp only
  rw [hpc] at hl
  rw [if_neg (fun h => h rfl), if_neg (fun h => h1 h.1), if_neg (by rw [h2]; decide), hl]
  dsimp only
  rw [if_neg (by decide)]
 rw [y7, hs]
 dsimp only
 rw [if_neg (fun h => h rfl), if_neg (by decide)]
theorem zvC (m : zM) (imm : Int) : xD m ⟨18, 0, 0, imm⟩ = (m, if m.t = true then m.pc + 2 else m.pc + 4 + 2 * imm, false) := by
 have hs : wI 18 = 4 := by kernel_rfl
 unfold xD toM
 dsimp only
 rw [if_neg (by decide), if_pos rfl, hs, if_pos (show (4 : Int) = 4 ∨ (4 : Int) = 5 ∨ (4 : Int) = 7 from .inl rfl)]
theorem zw7 {m : zM} {imm to : Int} (h : (if m.t = true then m.pc + 2 else m.pc + 4 + 2 * imm) = to) : xD m ⟨18, 0, 0, imm⟩ = (m, to, false) := by rw [zvC, h]
theorem zt1 {m : zM} {at_ s : Int} (h : zd (m.r 1 - 1) 32 = s) : zO m ⟨16, 1, 0, 0⟩ at_ = (zcj (xr m 1 s) (decide (s = 0)), 0) := by
 unfold zO
 dsimp only
 rw [if_neg (by decide), if_neg (by decide), if_neg (by decide), if_neg (by decide), if_pos rfl, show m.r (1 : Int).toNat = m.r 1 from rfl, h]
attribute [local irreducible] y7 xq zO xD xe xt yv yb
end Go.Proofs.YthmdddenbfbefaaGreatDoor
namespace Go.Proofs.YthmdddenbfbefaaGreatDoor
open Go Go.Plat
set_option linter.unusedVariables false
set_option linter.unusedSimpArgs false
set_option maxRecDepth 100000
set_option maxHeartbeats 2000000
attribute [local irreducible] AWP zy ye zF zn yt z6 zE zW zY zp za zN yu zo zZ yp yq yj yl zt zu zw
theorem zer (n : Int) (l : List Int) : (xX l (jj n)).length = 24 + 4 * l.length := zna l _
theorem zku (n : Int) {l : List Int} (h : l.length ≤ 20) : znk (zfR n l) := by
 have hl := zer n l
 refine ⟨?_, fun r hr => ?_, fun s hs => ?_⟩
 ·unfold zfR
  generalize xX l (jj n) = c at *
  have n1 : yH vr = true := by kernel_rfl
  have n2 : yH kG = true := by kernel_rfl
  have hs : wA (c.length : Int) kH [] = none := by
   unfold kH
   rw [wA, if_neg (by rw [n1]; simp), if_neg (by dsimp only; omega), wA, if_neg (by rw [n2]; simp [kG, vr]), if_neg (by dsimp only; omega), wA]
  have hr : qw (c.length : Int) [⟨20, 4, [], 24⟩] 0 = 0 := by
   rw [qw, if_neg (by dsimp only; decide), if_neg (by dsimp only; omega), if_neg (by dsimp only; decide), if_neg (fun e => e.1 rfl), if_neg (fun e => e (by show zd 24 32 = 24; kernel_rfl)), qw]
  unfold wE
  dsimp only
  rw [if_neg (by simp only [kH, List.length_cons, List.length_nil]; omega), hs]
  exact hr
 ·rw [List.mem_singleton.1 hr]; exact ⟨by decide, by decide, by decide⟩
 ·simp only [zfR, kH, List.mem_cons, List.not_mem_nil, or_false] at hs
  rcases hs with rfl | rfl <;> decide
theorem zt2 {n base : Int} {l : List Int} (h : l.length ≤ 20) (h0 : 0 ≤ base) (h1 : base ≤ 4000) (h4 : base % 4 = 0) :
  xU [zfR n l] base = (⟨base, yb (xX l (jj n)) 20 4 (base + 24), [⟨vr, base + 6⟩, ⟨kG, base + 24⟩]⟩, 0, 0) := by
 have hw := (zku n h).right
 unfold zfR at hw ⊢
 generalize xX l (jj n) = c at *
 have hl : lay base [⟨c, kH, [⟨20, 4, [], 24⟩]⟩] base 0 [] [] = .inr (c, [⟨vr, base + 6⟩, ⟨kG, base + 24⟩]) := by
  rw [zvx (bs' := c) (ss' := [⟨vr, base + 6⟩, ⟨kG, base + 24⟩]) (zst h4) (by kernel_rfl) (by rw [Int.sub_self]; unfold jW; simp), lay]
 have hf : fix base [⟨vr, base + 6⟩, ⟨kG, base + 24⟩] [⟨c, kH, [⟨20, 4, [], 24⟩]⟩] base 0 c = .inr (yb c 20 4 (base + 24)) := by
  rw [zvy (bs' := yb c (base - base + 20) 4 (base + 24)) (zst h4) (by
   refine (ztY (a := base) rfl rfl (zsu (by show 0 ≤ base + 24; omega) (by show base + 24 ≤ _; omega))).trans ?_
   rw [jh]), fix, Int.sub_self, Int.zero_add]
 unfold xU zen
 rw [if_neg (by omega), if_neg (by show ¬ (1 < 1 ∨ 4 < 1); omega), kQ, if_pos hw, kQ]
 dsimp only
 rw [hl]
 dsimp only
 rw [hf]
theorem zgn {n : Int} (h0 : 0 ≤ n) (h1 : n ≤ 1000000000) : zd n 32 = n := by rw [zel h0 (by omega), if_pos (by omega)]
theorem zqH {m : zM} {n b at_ s : Int} (h : zd (m.r n.toNat + b) 32 = s) : zO m ⟨4, n, 0, b⟩ at_ = (xr m n s, 0) := by
 unfold zO
 dsimp only
 rw [if_neg (by decide), if_pos rfl, h]
theorem zsv {m : zM} {at_ s : Int} (h : zd (m.r 0 + m.r 2) 32 = s) : zO m ⟨6, 0, 2, 0⟩ at_ = (xr m 0 s, 0) := by
 unfold zO
 dsimp only
 rw [if_neg (by decide), if_neg (by decide), if_neg (by decide), if_neg (by decide), if_neg (by decide), if_neg (by decide), if_neg (by decide), if_neg (by decide)]
 unfold zeo
 dsimp only
 rw [if_neg (by decide), if_pos rfl, show m.r (0 : Int).toNat = m.r 0 from rfl, show m.r (2 : Int).toNat = m.r 2 from rfl, h]
theorem zsw {m : zM} {base k v at_ : Int} (hb : m.img.base = base) (h4 : base % 4 = 0) (hr : m.r 4 = base + k) (hk : 0 ≤ k) (hk4 : k % 4 = 0) (hl : k + 4 ≤ m.img.bytes.length) (hg : yv m.img.bytes k 4 = v) (hs : zd v 32 = v) :
  zO m ⟨26, 2, 4, 0⟩ at_ = (xr m 2 v, 0) := by
 unfold zO
 dsimp only
 rw [if_neg (by decide), if_neg (by decide), if_neg (by decide), if_neg (by decide), if_neg (by decide), if_pos (.inr (.inr rfl))]
 unfold x6
 dsimp only
 rw [if_pos rfl, if_neg (show ¬ (26 : Int) = 23 by decide), if_neg (show ¬ (26 : Int) = 23 by decide), show m.r (4 : Int).toNat = m.r 4 from rfl, hr]
 unfold inM
 rw [hb, if_pos (decide_eq_true ⟨by omega, by omega, by omega⟩), show base + k - base = k by omega, hg, hs]
theorem zvD : (List.range 21).map (fun k : Nat => xe (57600 + ((ym (k : Int)).toNat : Int))) = (List.range 21).map fun k : Nat => ((⟨3, 1, 0, (k : Int)⟩ : Ins), 0) := by kernel_rfl
theorem zvE : xe 54276 = (⟨24, 4, 0, 4⟩, 0) ∧ xe 57344 = (⟨3, 0, 0, 0⟩, 0) ∧ xe 25154 = (⟨26, 2, 4, 0⟩, 0) ∧ xe 12332 = (⟨6, 0, 2, 0⟩, 0) ∧ xe 29700 = (⟨4, 4, 0, 4⟩, 0) ∧ xe 16656 = (⟨16, 1, 0, 0⟩, 0) ∧ xe 35834 = (⟨18, 0, 0, -6⟩, 0) :=
 ⟨by kernel_rfl, by kernel_rfl, by kernel_rfl, by kernel_rfl, by kernel_rfl, by kernel_rfl, by kernel_rfl⟩
def wJ : List Int → Int
 | [] => 0
 | x :: l => x + wJ l
theorem zo4 : ∀ l : List Int, (∀ x ∈ l, 0 ≤ x ∧ x ≤ 1000000) → 0 ≤ wJ l ∧ wJ l ≤ 1000000 * (l.length : Int)
 | [], _ => ⟨Int.le_refl 0, by show (0 : Int) ≤ 1000000 * ((0 : Nat) : Int); decide⟩
 | x :: l, h => by
  have h1 := h x List.mem_cons_self
  have h2 := zo4 l fun y hy => h y (List.mem_cons_of_mem _ hy)
  rw [wJ, List.length_cons]
  omega
attribute [local irreducible] y7 xq zO xD xe xt yv yb
structure zt3 (img : qF) (base : Int) (l : List Int) : Prop where
 F : ∀ {m : zM} {k : Int} {i : Ins}, m.img = img → (k, i) ∈ ([(6, ⟨26, 2, 4, 0⟩), (8, ⟨6, 0, 2, 0⟩), (10, ⟨4, 4, 0, 4⟩), (12, ⟨16, 1, 0, 0⟩), (14, ⟨18, 0, 0, -6⟩)] : List (Int × Ins)) → xq m (base + k) = (i, 0)
 base_ : img.base = base
 len : (img.bytes.length : Int) = 24 + 4 * (l.length : Int)
 word : ∀ (i : Nat) (v : Int), l[i]? = some v → yv img.bytes (24 + 4 * (i : Int)) 4 = v
theorem zno {img : qF} {base : Int} {l : List Int} (hI : zt3 img base l) (h0 : 0 ≤ base) (h1 : base ≤ 4000) (h4 : base % 4 = 0) (hl : l.length ≤ 20) (r : Nat → Int) (tf : Bool) (st a b v : Int) (i : Nat) (hv : l[i]? = some v) (hv0 : 0 ≤ v) (hv1 : v ≤ 1000000) (ha : r 0 = a) (hb : r 1 = b) (h44 : r 4 = base + (24 + 4 * (i : Int)))
  (ha0 : 0 ≤ a) (ha1 : a ≤ 100000000) (hb0 : 1 ≤ b) (hb1 : b ≤ 100) :
  ∃ r' st', r' 0 = a + v ∧ r' 1 = b - 1 ∧ r' 4 = base + (24 + 4 * ((i + 1 : Nat) : Int)) ∧ ∀ n, y7 (n + 5) ⟨r, tf, base + 6, -1, img, [], st⟩ = y7 n ⟨r', decide (b - 1 = 0), base + (if b - 1 = 0 then 16 else 6), -1, img, [], st'⟩ := by
 have hil : i < l.length := (List.getElem?_eq_some_iff.1 hv).1
 have e1 : ∀ n, y7 (n + 1) ⟨r, tf, base + 6, -1, img, [], st⟩ = y7 n ⟨up r 2 v, tf, base + 8, -1, img, [], st + 1⟩ := fun n =>
  kj (base := base) (k := 6) 8 rfl (hI.F rfl (by simp)) (fun h => absurd h.1 (by decide)) (by kernel_rfl) (zsw (base := base) (k := 24 + 4 * (i : Int)) hI.base_ h4 h44 (by omega) (by omega) (by show _ ≤ (img.bytes.length : Int); rw [hI.len]; omega) (hI.word i v hv) (zgn hv0 (by omega))) (by show base + 6 + 2 = base + 8; omega)
 have q2 : up r 2 v 2 = v := by unfold up; rw [if_pos (by decide)]
 have q0 : up r 2 v 0 = a := by unfold up; rw [if_neg (by decide), ha]
 have q1 : up r 2 v 1 = b := by unfold up; rw [if_neg (by decide), hb]
 have q4 : up r 2 v 4 = base + (24 + 4 * (i : Int)) := by unfold up; rw [if_neg (by decide), h44]
 generalize up r 2 v = ra at *
 have e2 : ∀ n, y7 (n + 1) ⟨ra, tf, base + 8, -1, img, [], st + 1⟩ = y7 n ⟨up ra 0 (a + v), tf, base + 10, -1, img, [], st + 1 + 1⟩ := fun n =>
  kj (base := base) (k := 8) 10 rfl (hI.F rfl (by simp)) (fun h => absurd h.1 (by decide)) (by kernel_rfl) (zsv (s := a + v) (by show zd (ra 0 + ra 2) 32 = a + v; rw [q0, q2]; exact zgn (by omega) (by omega))) (by show base + 8 + 2 = base + 10; omega)
 have p0 : up ra 0 (a + v) 0 = a + v := by unfold up; rw [if_pos (by decide)]
 have p1 : up ra 0 (a + v) 1 = b := by unfold up; rw [if_neg (by decide), q1]
 have p4 : up ra 0 (a + v) 4 = base + (24 + 4 * (i : Int)) := by unfold up; rw [if_neg (by decide), q4]
 generalize up ra 0 (a + v) = rb at *
 have e3 : ∀ n, y7 (n + 1) ⟨rb, tf, base + 10, -1, img, [], st + 1 + 1⟩ = y7 n ⟨up rb 4 (base + (24 + 4 * ((i + 1 : Nat) : Int))), tf, base + 12, -1, img, [], st + 1 + 1 + 1⟩ := fun n =>
  kj (base := base) (k := 10) 12 rfl (hI.F (i := ⟨4, 4, 0, 4⟩) rfl (by simp)) (fun h => absurd h.1 (by decide)) (by kernel_rfl) (zqH (s := base + (24 + 4 * ((i + 1 : Nat) : Int))) (by show zd (rb 4 + 4) 32 = _; rw [p4, show base + (24 + 4 * (i : Int)) + 4 = base + (24 + 4 * ((i + 1 : Nat) : Int)) by omega]; exact zgn (by omega) (by omega))) (by show base + 10 + 2 = base + 12; omega)
 have o0 : up rb 4 (base + (24 + 4 * ((i + 1 : Nat) : Int))) 0 = a + v := by unfold up; rw [if_neg (by decide), p0]
 have o1 : up rb 4 (base + (24 + 4 * ((i + 1 : Nat) : Int))) 1 = b := by unfold up; rw [if_neg (by decide), p1]
 have o4 : up rb 4 (base + (24 + 4 * ((i + 1 : Nat) : Int))) 4 = base + (24 + 4 * ((i + 1 : Nat) : Int)) := by unfold up; rw [if_pos (by decide)]
 generalize up rb 4 (base + (24 + 4 * ((i + 1 : Nat) : Int))) = rc at *
 have e4 : ∀ n, y7 (n + 1) ⟨rc, tf, base + 12, -1, img, [], st + 1 + 1 + 1⟩ = y7 n ⟨up rc 1 (b - 1), decide (b - 1 = 0), base + 14, -1, img, [], st + 1 + 1 + 1 + 1⟩ := fun n =>
  kj (base := base) (k := 12) 14 rfl (hI.F rfl (by simp)) (fun h => absurd h.1 (by decide)) (by kernel_rfl) (zt1 (s := b - 1) (by show zd (rc 1 - 1) 32 = b - 1; rw [o1]; exact zgn (by omega) (by omega))) (by show base + 12 + 2 = base + 14; omega)
 have u0 : up rc 1 (b - 1) 0 = a + v := by unfold up; rw [if_neg (by decide), o0]
 have u1 : up rc 1 (b - 1) 1 = b - 1 := by unfold up; rw [if_pos (by decide)]
 have u4 : up rc 1 (b - 1) 4 = base + (24 + 4 * ((i + 1 : Nat) : Int)) := by unfold up; rw [if_neg (by decide), o4]
 generalize up rc 1 (b - 1) = rd at *
 have e5 : ∀ n, y7 (n + 1) ⟨rd, decide (b - 1 = 0), base + 14, -1, img, [], st + 1 + 1 + 1 + 1⟩ = y7 n ⟨rd, decide (b - 1 = 0), base + (if b - 1 = 0 then 16 else 6), -1, img, [], st + 1 + 1 + 1 + 1 + 1⟩ := fun n =>
  zvB (base := base) (k := 14) (if b - 1 = 0 then 16 else 6) rfl (hI.F (i := ⟨18, 0, 0, -6⟩) rfl (by simp)) (by show (18 : Int) ≠ 27; decide) (by show qC 18 = true; kernel_rfl) (zw7 (by
   show (if decide (b - 1 = 0) = true then base + 14 + 2 else base + 14 + 4 + 2 * (-6)) = base + (if b - 1 = 0 then 16 else 6)
   by_cases h : b - 1 = 0
   ·rw [if_pos (decide_eq_true h), if_pos h]; omega
   ·rw [if_neg (by rw [decide_eq_false h]; decide), if_neg h]; omega))
 exact ⟨rd, _, u0, u1, u4, fun n => by rw [show n + 5 = n + 1 + 1 + 1 + 1 + 1 from rfl, e1, e2, e3, e4, e5]⟩
end Go.Proofs.YthmdddenbfbefaaGreatDoor
namespace Go.Proofs.YthmdddenbfbefaaGreatDoor
open Go Go.Plat
set_option linter.unusedVariables false
set_option linter.unusedSimpArgs false
set_option maxRecDepth 100000
set_option maxHeartbeats 2000000
attribute [local irreducible] AWP zy ye zF zn yt z6 zE zW zY zp za zN yu zo zZ yp yq yj yl zt zu zw
theorem zo5 (u : Nat) : (zjJ u).length ≤ 3 := by
 unfold zjJ
 split
 ·show 1 ≤ 3; decide
 split
 ·show 2 ≤ 3; decide
 ·show 3 ≤ 3; decide
theorem zvF (n : Int) : (zfP n).length ≤ 4 := by
 unfold zfP
 split
 ·have := zo5 n.natAbs; rw [List.length_cons]; omega
 ·have := zo5 n.toNat; omega
theorem zdx {s t : List UInt8} {K : D → Prop} (p q : Nat) (hs : s.length ≤ p) (ht : t.length ≤ q) (hb : p + q ≤ 1000000) (h : ∀ y, y = s ++ t → y.length ≤ p + q → K (.str y)) : yt s t K :=
 zh4 (by omega) (h _ rfl (by rw [List.length_append]; omega))
abbrev UP : Src → Prop := fun x => ziH x.1 ∧ kZ x.1 = (x.2, 0, 0)
theorem zwI {b : List UInt8} {o : y0} (h : ztV b o = ((o, 0, 0), true, true)) : UP (b, o) ∧ znk o := by
 unfold ztV at h
 rw [Prod.mk.injEq, Prod.mk.injEq (ziP b)] at h
 exact ⟨⟨zsn h.2.1, h.1⟩, zwE h.2.2⟩
def ziS : List UInt8 := [109, 111, 118, 32, 35, 53, 44, 114, 48, 10, 116, 114, 97, 112, 97, 32, 35, 49, 10, 116, 114, 97, 112, 97, 32, 35, 48, 10]
def zlf : y0 := ⟨[224, 5, 195, 1, 195, 0], [], []⟩
theorem zt4 : ztV ziS zlf = ((zlf, 0, 0), true, true) := by kernel_rfl
def ziT : qF := ⟨0, [224, 5, 195, 1, 195, 0], []⟩
theorem zvG : zle UP [(ziS, zlf)] 0 ziT (qH (zap ziT) 2000).1 0 :=
 ⟨by decide, fun x hx => by rw [List.mem_singleton.1 hx]; exact zwI zt4, ⟨by decide, by decide⟩, by kernel_rfl, rfl, by decide, by decide, Prod.ext rfl (by kernel_rfl)⟩
theorem zsx : (qH (zap ziT) 2000).1.told = [5] := by kernel_rfl
attribute [local irreducible] qH zap zfP ziS
theorem znp : za Tryz.prog zkL (zA (fun _ : Unit => True) (fun _ => []) fun _ => .bool true) := by
 refine zg zj Tryz.func24 rfl (by decide) fun _ _ => ?_
 refine ⟨Nat.le_refl _, by simp [Tryz.f24], fun E hE => ?_⟩
 refine zf _ ?_
 (all_goals refine qgp ?_ <;> (repeat' first | exact trivial | intro hc | refine And.intro ?_ ?_) <;> refine Lf.mk ?_)
 refine ze (ziN zex) ([(ziS, zlf)], 0, ziT, (qH (zap ziT) 2000).1, 0) zvG (VS.mk (LeL.of_eq (by unfold ziS; rfl))) ?_
 dsimp only
 rw [zsx]
 (all_goals refine qgp ?_ <;> (repeat' first | exact trivial | intro hc | refine And.intro ?_ ?_) <;> refine Lf.mk ?_)
 ·exact zb (VS.mk (LeD.of_eq rfl))
 ·exact absurd trivial hc
end Go.Proofs.YthmdddenbfbefaaGreatDoor
namespace Go.Proofs.YthmdddenbfbefaaGreatDoor
open Go Go.Plat
set_option linter.unusedVariables false
set_option linter.unusedSimpArgs false
set_option maxRecDepth 100000
set_option maxHeartbeats 2000000
attribute [local irreducible] AWP zy ye zF zn yt z6 zE zW zY zp za zN yu zo zZ yp yq yj yl zt zu zw vq yP kZ
end Go.Proofs.YthmdddenbfbefaaGreatDoor
namespace Go.Proofs.YthmdddenbfbefaaGreatDoor
open Go Go.Plat
set_option linter.unusedVariables false
set_option linter.unusedSimpArgs false
set_option maxRecDepth 100000
set_option maxHeartbeats 2000000
attribute [local irreducible] AWP zy ye zF zn yt z6 zE zW zY zp za zN yu zo zZ yp yq yj yl zt zu zw
theorem zkv : ∀ (l : List Int) (n : Int), xz (l ++ [n]) = ((xz l ++ [46, 108, 111, 110, 103, 32]) ++ Lib.itoa n) ++ [10]
 | [], n => by rw [List.nil_append, xz, xz]; unfold jV zbF; simp [xz]
 | m :: l, n => by rw [List.cons_append, xz, zkv l n, xz]; simp
attribute [local irreducible] xz kZ xX yv Lib.itoa
end Go.Proofs.YthmdddenbfbefaaGreatDoor
namespace Go.Proofs.YthmdddenbfbefaaGreatDoor
open Go Go.Plat
set_option linter.unusedVariables false
set_option linter.unusedSimpArgs false
set_option maxRecDepth 100000
set_option maxHeartbeats 2000000
attribute [local irreducible] AWP zy ye zF zn yt z6 zE zW zY zp za zN yu zo zZ yp yq yj yl zt zu zw xe xq yv xD zO yb y7 xt
theorem znq {l : List Int} {i : Nat} {v : Int} (h : l[i]? = some v) : wJ (l.drop i) = v + wJ (l.drop (i + 1)) := by
 obtain ⟨hi, hv⟩ := List.getElem?_eq_some_iff.1 h
 rw [List.drop_eq_getElem_cons hi, hv, wJ]
theorem zo6 {img : qF} {base : Int} {l : List Int} (hI : zt3 img base l) (h0 : 0 ≤ base) (h1 : base ≤ 4000) (h4 : base % 4 = 0) (hl : l.length ≤ 20) (hb : ∀ x ∈ l, 0 ≤ x ∧ x ≤ 1000000) :
  ∀ (k : Nat) (r : Nat → Int) (tf : Bool) (st a : Int) (i : Nat), i + (k + 1) = l.length → r 0 = a → r 1 = (k : Int) + 1 → r 4 = base + (24 + 4 * (i : Int)) → 0 ≤ a → a ≤ 1000000 * (i : Int) →
  ∃ c r' st', c ≤ 5 * (k + 1) ∧ r' 0 = a + wJ (l.drop i) ∧ ∀ n, y7 (n + c) ⟨r, tf, base + 6, -1, img, [], st⟩ = y7 n ⟨r', true, base + 16, -1, img, [], st'⟩
 | 0, r, tf, st, a, i, hi, ha, hr, h44, a0, a1 => by
  obtain ⟨v, hv⟩ := ya (l := l) (k := i) (by omega)
  have hvb := hb v (List.mem_of_getElem? hv)
  obtain ⟨r', st', q0, _, _, he⟩ := zno hI h0 h1 h4 hl r tf st a 1 v i hv hvb.1 hvb.2 ha (by rw [hr]; rfl) h44 a0 (by omega) (by decide) (by decide)
  refine ⟨5, r', st', by omega, ?_, fun n => he n⟩
  rw [q0, znq hv, List.drop_eq_nil_of_le (by omega), wJ, Int.add_zero]
 | k + 1, r, tf, st, a, i, hi, ha, hr, h44, a0, a1 => by
  obtain ⟨v, hv⟩ := ya (l := l) (k := i) (by omega)
  have hvb := hb v (List.mem_of_getElem? hv)
  obtain ⟨r', st', q0, q1, q4, he⟩ := zno hI h0 h1 h4 hl r tf st a ((k : Int) + 2) v i hv hvb.1 hvb.2 ha (by rw [hr]; omega) h44 a0 (by omega) (by omega) (by omega)
  rw [if_neg (show ¬ (k : Int) + 2 - 1 = 0 by omega)] at he
  obtain ⟨c, r2, st2, hc, z0, he2⟩ := zo6 hI h0 h1 h4 hl hb k r' (decide ((k : Int) + 2 - 1 = 0)) st' (a + v) (i + 1) (by omega) q0 (by rw [q1]; omega) q4 (by omega) (by omega)
  refine ⟨c + 5, r2, st2, by omega, by rw [z0, znq hv]; omega, fun n => ?_⟩
  rw [← Nat.add_assoc, he, he2]
theorem zvH {base : Int} {l : List Int} (hn : 1 ≤ l.length) (hl : l.length ≤ 20) (hb : ∀ x ∈ l, 0 ≤ x ∧ x ≤ 1000000) (h0 : 0 ≤ base) (h1 : base ≤ 4000) (h4 : base % 4 = 0) (ss : List zz) :
  ∃ m, qH (zap ⟨base, yb (xX l (jj l.length)) 20 4 (base + 24), ss⟩) 2000 = (m, 0) ∧ m.told = [wJ l] := by
 have hin : k8 l := fun x hx => by have := hb x hx; omega
 obtain ⟨d1, d2, d3, d4, d5, d6, d7⟩ := zvE
 obtain ⟨_, _, _, _, _, _, d8, d9⟩ := zvA
 have dn := zfQ zvD (List.mem_range.2 (show l.length < 21 by omega))
 have hBl : (yb (xX l (jj l.length)) 20 4 (base + 24)).length = 24 + 4 * l.length := by rw [zo3, zer]
 have G : ∀ {k w : Int}, 0 ≤ k → k + ((2 : Nat) : Int) ≤ 20 → yv (jj l.length) k 2 = w → yv (yb (xX l (jj l.length)) 20 4 (base + 24)) k 2 = w := fun hk0 hk hg => zt0 (.inl hk) ((jU 2 fun i a1 a2 => zfK l _ i (by show i < 24; omega)).trans hg)
 have g0 := G (k := 0) (w := 54276) (by decide) (by decide) (by kernel_rfl)
 have g2 := G (k := 2) (w := 57344) (by decide) (by decide) (by kernel_rfl)
 have g4 := G (k := 4) (w := 57600 + ((ym (l.length : Int)).toNat : Int)) (by decide) (by decide) (zxj (x := 225) (y := ((ym (l.length : Int)).toNat : Int)) (by kernel_rfl) (by kernel_rfl) (by omega))
 have g6 := G (k := 6) (w := 25154) (by decide) (by decide) (by kernel_rfl)
 have g8 := G (k := 8) (w := 12332) (by decide) (by decide) (by kernel_rfl)
 have g10 := G (k := 10) (w := 29700) (by decide) (by decide) (by kernel_rfl)
 have g12 := G (k := 12) (w := 16656) (by decide) (by decide) (by kernel_rfl)
 have g14 := G (k := 14) (w := 35834) (by decide) (by decide) (by kernel_rfl)
 have g16 := G (k := 16) (w := 49921) (by decide) (by decide) (by kernel_rfl)
 have g18 := G (k := 18) (w := 49920) (by decide) (by decide) (by kernel_rfl)
 have g20 : yv (yb (xX l (jj l.length)) 20 4 (base + 24)) 20 4 = base + 24 := zfI 20 (by decide) 4 _ _ (by rw [zer]; omega) (by omega) (by show base + 24 < 4294967296; omega)
 have gw : ∀ (i : Nat) (v : Int), l[i]? = some v → yv (yb (xX l (jj l.length)) 20 4 (base + 24)) (24 + 4 * (i : Int)) 4 = v := fun i v hv => (znn (.inr (by omega))).trans (znb l (jj l.length) i v hin hv)
 clear G
 generalize yb (xX l (jj l.length)) 20 4 (base + 24) = B at *
 have hI : ∃ img : qF, img = ⟨base, B, ss⟩ := ⟨_, rfl⟩
 obtain ⟨img, hI⟩ := hI
 have F : ∀ {m : zM} {k w : Int} {i : Ins}, m.img = img → 0 ≤ k → k % 2 = 0 → k + 2 ≤ 20 → yv B k 2 = w → xe w = (i, 0) → xq m (base + k) = (i, 0) := fun {m k w i} hm a1 a2 a3 a4 a5 => ztZ (by rw [hm, hI]) h4 a1 a2 (by rw [hm, hI]; show k + 2 ≤ (B.length : Int); omega) (by rw [hm, hI]; exact a4) a5
 have hS : zt3 img base l := by
  refine ⟨fun {m k i} hm hk => ?_, by rw [hI], by rw [hI]; show (B.length : Int) = _; omega, by rw [hI]; exact gw⟩
  simp only [List.mem_cons, List.not_mem_nil, or_false, Prod.mk.injEq] at hk
  rcases hk with ⟨rfl, rfl⟩ | ⟨rfl, rfl⟩ | ⟨rfl, rfl⟩ | ⟨rfl, rfl⟩ | ⟨rfl, rfl⟩
  ·exact F hm (by decide) (by decide) (by decide) g6 d3
  ·exact F hm (by decide) (by decide) (by decide) g8 d4
  ·exact F hm (by decide) (by decide) (by decide) g10 d5
  ·exact F hm (by decide) (by decide) (by decide) g12 d6
  ·exact F hm (by decide) (by decide) (by decide) g14 d7
 rw [← hI]
 have e0 : qH (zap img) 2000 = y7 2000 ⟨zR, false, base, -1, img, [], 0⟩ := by
  unfold qH zap
  rw [if_neg (by decide), hI]
  rfl
 have e1 : y7 2000 ⟨zR, false, base, -1, img, [], 0⟩ = y7 1999 ⟨up zR 4 (base + 24), false, base + 2, -1, img, [], 0 + 1⟩ :=
  kj (base := base) (k := 0) 2 (Int.add_zero base).symm (F rfl (by decide) (by decide) (by decide) g0 d1) (fun h => absurd h.1 (by decide)) (by kernel_rfl)
   (zvz (base := base) (k := 20) (v := base + 24) (by rw [hI]) h4 (by decide) (by decide) (by rw [hI]; show (20 : Int) + 4 ≤ (B.length : Int); omega) (by omega) (by rw [hI]; exact g20) (zsu (by omega) (by omega))) rfl
 have e2 : y7 1999 ⟨up zR 4 (base + 24), false, base + 2, -1, img, [], 0 + 1⟩ = y7 1998 ⟨up (up zR 4 (base + 24)) 0 0, false, base + 4, -1, img, [], 0 + 1 + 1⟩ :=
  kj (base := base) (k := 2) 4 rfl (F rfl (by decide) (by decide) (by decide) g2 d2) (fun h => absurd h.1 (by decide)) (by kernel_rfl) (zkt _ 0 0 _) (by show base + 2 + 2 = base + 4; omega)
 have e3 : y7 1998 ⟨up (up zR 4 (base + 24)) 0 0, false, base + 4, -1, img, [], 0 + 1 + 1⟩ = y7 1997 ⟨up (up (up zR 4 (base + 24)) 0 0) 1 (l.length : Int), false, base + 6, -1, img, [], 0 + 1 + 1 + 1⟩ :=
  kj (base := base) (k := 4) 6 rfl (F rfl (by decide) (by decide) (by decide) g4 dn) (fun h => absurd h.1 (by show ¬ (3 : Int) = 27; decide)) (by show qC 3 = false; kernel_rfl) (zkt _ 1 _ _) (by show base + 4 + 2 = base + 6; omega)
 obtain ⟨c, r', st', hc, z0, he⟩ := zo6 hS h0 h1 h4 hl hb (l.length - 1) (up (up (up zR 4 (base + 24)) 0 0) 1 (l.length : Int)) false (0 + 1 + 1 + 1) 0 0 (by omega) (by unfold up; rw [if_neg (by decide), if_pos (by decide)]) (by unfold up; rw [if_pos (by decide)]; omega) (by unfold up; rw [if_neg (by decide), if_neg (by decide), if_pos (by decide)]; omega) (by decide) (by decide)
 obtain ⟨n, hn2⟩ : ∃ n, 1997 = (n + 2) + c := ⟨1997 - c - 2, by omega⟩
 rw [e0, e1, e2, e3, hn2, he]
 have e4 : y7 (n + 1 + 1) ⟨r', true, base + 16, -1, img, [], st'⟩ = y7 (n + 1) ⟨r', true, base + 18, -1, img, [] ++ [r' 0], st' + 1⟩ :=
  kj (base := base) (k := 16) 18 rfl (F rfl (by decide) (by decide) (by decide) g16 d8) (fun h => absurd h.2 (by decide)) (by kernel_rfl) (zqG _ _) (by show base + 16 + 2 = base + 18; omega)
 refine ⟨_, e4.trans (zwH (base := base) (k := 18) rfl (F rfl (by decide) (by decide) (by decide) g18 d9) ⟨rfl, rfl⟩), ?_⟩
 show [] ++ [r' 0] = [wJ l]
 rw [z0, List.nil_append, List.drop_zero, Int.zero_add]
end Go.Proofs.YthmdddenbfbefaaGreatDoor
namespace Go.Proofs.YthmdddenbfbefaaGreatDoor
open Go Go.Plat
set_option linter.unusedVariables false
set_option linter.unusedSimpArgs false
set_option maxRecDepth 100000
set_option maxHeartbeats 2000000
attribute [local irreducible] AWP zy ye zF zn yt z6 zE zW zY zp za zN yu zo zZ yp yq yj yl zt zu zw
theorem zsy : (List.range 21).map (fun n : Nat => ((zdf n).all ziO, vp (zdf n))) = (List.range 21).map fun _ : Nat => (true, 44) := by kernel_rfl
theorem zkw : ∀ a b : List yI, vp (a ++ b) = vp a + vp b
 | [], b => by rw [List.nil_append, vp, Nat.zero_add]
 | s :: a, b => by rw [List.cons_append, vp, zkw a b, vp, Nat.add_assoc]
theorem zt5 {x : yI} (h : ziO x = true) : ki (kY x) ∧ x.toks.length ≤ 1000000000 ∧ wt (x.toks.map tk) ≤ 1048576 := by
 unfold ziO at h
 simp only [Bool.and_eq_true, decide_eq_true_eq] at h
 exact ⟨h.1.1, h.1.2, h.2⟩
theorem zwJ {n : Nat} (hn : n < 21) {l : List Int} (h1 : 1 ≤ l.length) (hl : l.length ≤ 20) (h : k8 l) : UP (ji n ++ 10 :: xz l, zfR n l) := by
 obtain ⟨s1, s2⟩ := zso hn hl h
 obtain ⟨o1, o2, o3⟩ := znc l 13 h
 have hh := zfQ zsy (List.mem_range.2 hn)
 rw [Prod.mk.injEq] at hh
 obtain ⟨c1, c2⟩ := hh
 have hall : ∀ x ∈ zdf n ++ wn l 13, ki (kY x) ∧ x.toks.length ≤ 1000000000 ∧ wt (x.toks.map tk) ≤ 1048576 := fun x hx => by
  rcases List.mem_append.1 hx with hx | hx
  ·exact zt5 (List.all_eq_true.1 c1 x hx)
  ·exact o3 x hx
 refine ⟨⟨by show (ji n ++ 10 :: xz l).length ≤ _; omega, ?_, ?_, ?_⟩, ?_⟩
 ·rw [s2]; exact ⟨by show (zdf n ++ wn l 13).length ≤ _; rw [List.length_append, o1]; show 12 + l.length ≤ _; omega, fun x hx => ⟨(hall x hx).1, (hall x hx).2.1⟩⟩
 ·rw [s2]; show vp (zdf n ++ wn l 13) ≤ _; rw [zkw, c2, o2]; omega
 ·rw [s2]; exact fun x hx => (hall x hx).2.2
 ·show kZ (ji n ++ 10 :: xz l) = _
  unfold kZ
  rw [s2, if_neg (fun h => h rfl)]
  exact zvw hn h h1 hl
theorem zwK {base : Int} {l : List Int} (h1 : 1 ≤ l.length) (hl : l.length ≤ 20) (hb : ∀ x ∈ l, 0 ≤ x ∧ x ≤ 1000000) (h0 : 0 ≤ base) (h2 : base ≤ 4000) (h4 : base % 4 = 0) :
  ∃ o img m, zle UP [(ji l.length ++ 10 :: xz l, o)] base img m 0 ∧ m.told = [wJ l] := by
 have hin : k8 l := fun x hx => by have := hb x hx; omega
 obtain ⟨m, hm, ht⟩ := zvH h1 hl hb h0 h2 h4 [⟨vr, base + 6⟩, ⟨kG, base + 24⟩]
 refine ⟨_, _, m, ⟨by show 1 ≤ 4; decide, fun x hx => ?_, ⟨h0, by omega⟩, zt2 (n := l.length) hl h0 h2 h4, rfl, by show (yb _ _ _ _).length ≤ _; rw [zo3, zer]; omega, by show 2 ≤ _; decide, hm⟩, ht⟩
 rw [List.mem_singleton.1 hx]
 exact ⟨zwJ (by omega) h1 hl hin, zku _ hl⟩
theorem znr : ∀ a b : List Int, wJ (a ++ b) = wJ a + wJ b
 | [], b => by rw [List.nil_append, wJ, Int.zero_add]
 | x :: a, b => by rw [List.cons_append, wJ, znr a b, wJ]; omega
attribute [local irreducible] xz ji Lib.itoa wJ qH zap zfP zfR
theorem zns : za Tryz.prog vd (zA (fun ((l, base) : List Int × Int) => (l.length ≤ 100000000 ∧ ∀ n ∈ l, -9223372036854775808 ≤ n ∧ n ≤ 9223372036854775807) ∧ -9223372036854775808 ≤ base ∧ base ≤ 9223372036854775807) (fun (l, base) => [.sl 1 (l.map (.int .i64)) none, .int .i64 base]) fun _ => .bool true) := by
 refine zg zj Tryz.func6 rfl (by decide) ?_
 rintro ⟨l, base⟩ ⟨⟨hl, hi⟩, hc0, hc1⟩
 have hl : l.length ≤ 100000000 := hl
 have hc0 : -9223372036854775808 ≤ base := hc0
 have hc1 : base ≤ 9223372036854775807 := hc1
 refine ⟨Nat.le_refl _, by simp [Tryz.f6], fun E hE => ?_⟩
 refine zf _ ?_
 (all_goals refine qgp ?_ <;> (repeat' first | exact trivial | intro hc | refine And.intro ?_ ?_) <;> refine Lf.mk ?_)
 refine ze znp () trivial (VS.mk (LeL.of_eq rfl)) ?_
 (all_goals refine qgp ?_ <;> (repeat' first | exact trivial | intro hc | refine And.intro ?_ ?_) <;> refine Lf.mk ?_)
 (any_goals (first | (exfalso; refine Bool.false_ne_true ?_; assumption) | (exfalso; refine Bool.false_ne_true (Eq.symm ?_); assumption) | (exfalso; refine absurd trivial ?_; assumption) | skip))
 all_goals first
  | exact zb (VS.mk (LeD.tt rfl))
  | skip
 have h4 := hc
 have hs := zvF (l.length : Int)
 refine ze zec (l.length : Int) ⟨by omega, by omega⟩ (VS.mk (LeL.of_eq rfl)) ?_
 rw [ztU (by omega) (by omega)]
 (all_goals refine qgp ?_ <;> (repeat' first | exact trivial | intro hc | refine And.intro ?_ ?_) <;> refine Lf.mk ?_)
 refine zdx 40 4 (by decide) hs (by decide) fun y1 e1 l1 => ?_
 (all_goals refine qgp ?_ <;> (repeat' first | exact trivial | intro hc | refine And.intro ?_ ?_) <;> refine Lf.mk ?_)
 refine zdx 44 120 l1 (by decide) (by decide) fun y2 e2 l2 => ?_
 have hy : y2 = ji l.length ++ [10] := by subst e2; subst e1; unfold ji; exact (List.append_assoc (zwF ++ zfP (l.length : Int)) zwG [10]).symm
 (all_goals refine qgp ?_ <;> (repeat' first | exact trivial | intro hc | refine And.intro ?_ ?_) <;> refine Lf.mk ?_)
 refine z8 (α := Nat) (fun k => k ≤ l.length ∧ ∀ x ∈ l.take k, 0 ≤ x ∧ x ≤ 1000000) (fun k => [(0, .sl 1 (l.map (.int .i64)) none), (1, .int .i64 base), (39, .sl 1 (l.map (.int .i64)) none), (40, .int .i64 l.length), (41, .int .i64 k), (5, .str (y2 ++ xz (l.take k))), (6, .int .i64 (wJ (l.take k)))]) (fun _ => []) (fun k => l.length - k) (fun _ => by simp [hE]) 0
  ⟨Nat.zero_le _, fun x hx => by simp at hx⟩ ?_ ?_
 ·rw [List.take_zero, show xz [] = [] by rw [xz], show wJ [] = 0 by rw [wJ], List.append_nil]
  (repeat' (first | (refine VS.mk ?_) | exact trivial | exact rfl | refine And.intro ?_ ?_))
 rintro k ⟨hk, hb⟩
 have hk : k ≤ l.length := hk
 have hin : k8 (l.take k) := fun x hx => by have := hb x hx; omega
 have hlen := zhs _ hin
 have hlt : (l.take k).length ≤ k := by rw [List.length_take]; omega
 have hsb := zo4 _ hb
 refine zf _ ?_
 (all_goals refine qgp ?_ <;> (repeat' first | exact trivial | intro hc | refine And.intro ?_ ?_) <;> refine Lf.mk ?_)
 ·obtain ⟨n, hn⟩ := ya (l := l) (k := k) (by omega)
  have hni := hi n (List.mem_of_getElem? hn)
  refine zl n (by omega) (by simpa using hn) ?_
  (all_goals refine qgp ?_ <;> (repeat' first | exact trivial | intro hc | refine And.intro ?_ ?_) <;> refine Lf.mk ?_)
  ·exact zb (VS.mk (LeD.tt rfl))
  ·exact zb (VS.mk (LeD.tt rfl))
  have htk : l.take (k + 1) = l.take k ++ [n] := by rw [List.take_add_one, hn]; rfl
  have hin' : ∀ x ∈ l.take (k + 1), 0 ≤ x ∧ x ≤ 1000000 := fun x hx => by
   rw [htk] at hx
   rcases List.mem_append.1 hx with hx | hx
   ·exact hb x hx
   ·rw [List.mem_singleton.1 hx]; omega
  have hit : (Lib.itoa n).length ≤ 10 := by
   have := (zhr (n := n) (by omega) (by omega)).2
   unfold jV zbF at this
   simp at this
   omega
  have hsn : y2 ++ xz (l.take (k + 1)) = ((y2 ++ xz (l.take k)) ++ [46, 108, 111, 110, 103, 32] ++ Lib.itoa n) ++ [10] := by
   rw [htk, zkv]
   simp only [List.append_assoc]
  have hst : wJ (l.take (k + 1)) = wJ (l.take k) + n := by
   rw [htk, znr, wJ, wJ]
   omega
  have h0 : (y2 ++ xz (l.take k)).length ≤ 600 := by rw [List.length_append]; omega
  refine zdx 600 6 h0 (by decide) (by decide) fun z1 f1 k1 => ?_
  (all_goals refine qgp ?_ <;> (repeat' first | exact trivial | intro hc | refine And.intro ?_ ?_) <;> refine Lf.mk ?_)
  refine ze zec n hni (VS.mk (LeL.of_eq rfl)) ?_
  (all_goals refine qgp ?_ <;> (repeat' first | exact trivial | intro hc | refine And.intro ?_ ?_) <;> refine Lf.mk ?_)
  refine zdx 606 10 k1 hit (by decide) fun z2 f2 k2 => ?_
  (all_goals refine qgp ?_ <;> (repeat' first | exact trivial | intro hc | refine And.intro ?_ ?_) <;> refine Lf.mk ?_)
  refine zdx 616 1 k2 (by decide) (by decide) fun z3 f3 k3 => ?_
  (all_goals refine qgp ?_ <;> (repeat' first | exact trivial | intro hc | refine And.intro ?_ ?_) <;> refine Lf.mk ?_)
  refine zC (k + 1) ⟨by omega, hin'⟩ (by omega) ?_
  rw [hsn, hst, show ((y2 ++ xz (l.take k)) ++ [46, 108, 111, 110, 103, 32] ++ Lib.itoa n) ++ [10] = z3 by subst f3; subst f2; subst f1; rfl]
  (repeat' (first | (refine VS.mk ?_) | exact trivial | exact rfl | refine And.intro ?_ ?_))
 ·have hk2 : k = l.length := by omega
  rw [hk2, List.take_length] at hb hsb ⊢
  obtain ⟨o, img, m, hrun, hto⟩ := zwK (l := l) (base := base) (by omega) (by omega) hb (by omega) (by omega) h4
  refine ze (ziN zex) ([(ji l.length ++ 10 :: xz l, o)], base, img, m, 0) hrun (VS.mk (LeL.of_eq (by rw [hy, List.append_assoc]; rfl))) ?_
  dsimp only
  rw [hto]
  (all_goals refine qgp ?_ <;> (repeat' first | exact trivial | intro hc | refine And.intro ?_ ?_) <;> refine Lf.mk ?_)
  ·exact zb (VS.mk (LeD.of_eq (congrArg D.bool (beq_self_eq_true _))))
  ·exact absurd trivial hc
end Go.Proofs.YthmdddenbfbefaaGreatDoor
namespace Go.Proofs.YthmdddenbfbefaaGreatDoor
open Go Go.Plat
set_option linter.unusedVariables false
set_option linter.unusedSimpArgs false
set_option maxRecDepth 100000
set_option maxHeartbeats 2000000
attribute [local irreducible] AWP zy ye zF zn yt z6 zE zW zY zp za zN yu zo zZ yp yq yj yl zt zu zw
theorem own : ownKnob Tryz.prog.godebug = none := by kernel_rfl
theorem zwL {H : Type} (d : DataW H) : 1 ≤ Rows.uptoBulk d := by
 cases d with
 | lit l => cases l <;> simp [Rows.uptoBulk]
 | nil => simp [Rows.uptoBulk]
 | ptr d => simp [Rows.uptoBulk]
 | slice el sp => simp [Rows.uptoBulk]
 | agg ps => simp [Rows.uptoBulk]
 | iface t d => simp [Rows.uptoBulk]
 | map es => simp [Rows.uptoBulk]
 | held h => simp [Rows.uptoBulk]
theorem length_le {H : Type} (l : List (DataW H)) : l.length ≤ Rows.uptoBulkAll l := by
 induction l with
 | nil => simp [Rows.uptoBulkAll]
 | cons x r ih => have := zwL x; simp only [Rows.uptoBulkAll, List.length_cons]; omega
theorem zsz {H : Type} (d : DataW H) : Rows.uptoBulkAll (vK d) ≤ Rows.uptoBulk d := by
 cases d <;> simp only [vK, Rows.uptoBulk, Rows.uptoBulkAll] <;> omega
theorem zt6 {H : Type} (d : DataW H) : (vK d).length ≤ Rows.uptoBulk d := Nat.le_trans (length_le _) (zsz d)
theorem zw8 {H : Type} {l : List (DataW H)} (hk : Rows.uptoSmall H l = true) : Rows.uptoBulkAll l ≤ 1048576 := of_decide_eq_true hk
end Go.Proofs.YthmdddenbfbefaaGreatDoor
namespace Go.Plat
open Go
set_option linter.unusedVariables false
set_option linter.unusedSimpArgs false
abbrev zlg (w : World) (F : Nat → Nat → Prop) (g : Nat) (cs : List D) : Prop := zB w F (.ptr cs) (.pointer (some ⟨g, 0, none⟩)) ∧
 (∀ off, ¬ F g off) ∧ (∃ row t z, w.heap[g]? = some (.cells row t z) ∧ (row.size = cs.length ∨ cs = [.any])) ∧
 (cs = [.any] → ∃ u v, w.cell? ⟨g, 0, none⟩ = some (.iface u v))
def zqI (w : World) (F : Nat → Nat → Prop) (l : List (Nat × Nat × List Nat)) : Prop := ∀ g cs, zdy l g = some cs → zlg w F g cs
theorem zt7 {w : World} {F : Nat → Nat → Prop} : zqI w F [] := fun g cs h => by cases h
theorem zbc {w : World} {F : Nat → Nat → Prop} {h k : Nat} {ns : List Nat} {r : List (Nat × Nat × List Nat)} (hf : zlg w F h (zt9 k ns)) (hr : zqI w F r) : zqI w F ((h, k, ns) :: r) := by
 intro g cs hg
 rw [zdy] at hg
 cases hb : Nat.beq h g with
 | false => rw [hb] at hg; exact hr g cs hg
 | true =>
  rw [hb] at hg
  have e := Nat.eq_of_beq_eq_true hb
  subst e
  cases hg
  exact hf
theorem zqJ {P : Program} {w : World} {name : String} {g : Nat} {k : IntKind} {zs : List Int} {ns : List Nat} (hn : P.globalNamed name = some g) (h : Lib.TabIs P w name k zs)
  (hz : zs = ns.map fun n : Nat => (n : Int)) : zlg w F0 g (ns.map fun n => D.int k (n : Nat)) := by
 have hc := fun i hi => h.cell hn i hi
 refine ⟨.ptr _ _ _ (fun j => .int k (zs.getD j 0)) (fun j c hj => ⟨?_, fun f => f⟩) (fun j c hj => ?_), fun off f => f, ?_, fun e => absurd e (fun e => ?_)⟩
 ·have hjl : j < ns.length := by
   have := (List.getElem?_eq_some_iff.1 hj).1
   simpa using this
  rw [Nat.zero_add]
  exact hc j (by rw [hz]; simpa using hjl)
 ·have hjl : j < ns.length := by
   have := (List.getElem?_eq_some_iff.1 hj).1
   simpa using this
  rw [List.getElem?_map, List.getElem?_eq_getElem hjl] at hj
  cases hj
  have : zs.getD j 0 = (ns[j] : Int) := by
   rw [hz, List.getD_eq_getElem?_getD, List.getElem?_map, List.getElem?_eq_getElem hjl]; rfl
  dsimp only
  rw [this]
  exact .int _ _
 ·unfold Lib.TabIs World.var? at h
  rw [hn] at h
  dsimp only [Option.bind_some] at h
  split at h
  ·rename_i cs t z hh
   cases h
   exact ⟨_, _, _, hh, .inl (by rw [hz]; simp)⟩
  ·cases h
 ·match ns, e with
  | [], e => cases e
  | n :: r, e => cases (List.cons.inj e).1
theorem zdg {P : Program} {W : World} {name : String} {k : IntKind} {zs : List Int} {rest : List (String × DataW Unit)} {g : Nat} {t e : TypeId} {n : Nat} {ps : List MemPlace} {d : DataW Unit}
  (hg : P.globalNamed name = some g) (hty : (P.globals[g]?).map (·.type) = some t) (ht : P.underlying t = some (.array n e)) (he : P.underlying e = some (.int k)) (hce : P.cellsOf e = 1) (hct : P.cellsOf t = n)
  (hd : d = Lib.tabData k zs) (h : DataW.LaidVars P W ((name, d) :: rest) ps) : Lib.TabIs P W name k zs ∧ ∃ q, DataW.LaidVars P W rest q := by
 subst hd
 obtain ⟨g', t', cs, fuel, p, q, hg', ht', hvar, hd, hr, _⟩ := h
 obtain rfl := Option.some.inj (hg.symm.trans hg')
 obtain rfl := Option.some.inj (hty.symm.trans ht')
 refine ⟨?_, q, hr⟩
 unfold Lib.TabIs
 rw [hvar, ← Lib.cells_of_tab ht he hce hct hd]
theorem zsA {P : Program} {W : World} {x : String × DataW Unit} {rest : List (String × DataW Unit)} {ps : List MemPlace} (h : DataW.LaidVars P W (x :: rest) ps) : ∃ q, DataW.LaidVars P W rest q := by
 obtain ⟨g', t', cs, fuel, p, q, hg', ht', hvar, hd, hr, _⟩ := h
 exact ⟨q, hr⟩
def zxk : DataW Unit → Bool
 | .iface _ _ => true
 | _ => false
theorem zey {P : Program} {W : World} {name : String} {rest : List (String × DataW Unit)} {g : Nat} {t : TypeId} {ps : List MemPlace} {d : DataW Unit}
  (hg : P.globalNamed name = some g) (hty : (P.globals[g]?).map (·.type) = some t) (ht : ((P.underlying t).map fun | .interface _ => true | _ => false) = some true)
  (hd : zxk d = true) (h : DataW.LaidVars P W ((name, d) :: rest) ps) : zlg W F0 g [.any] ∧ ∃ q, DataW.LaidVars P W rest q := by
 obtain ⟨g', t', cs, fuel, p, q, hg', ht', hvar, htr, hr, _⟩ := h
 obtain rfl := Option.some.inj (hg.symm.trans hg')
 obtain rfl := Option.some.inj (hty.symm.trans ht')
 refine ⟨?_, q, hr⟩
 cases d with
 | iface n x =>
  have hrow : ∃ u v, cs.toList = [Value.iface u v] := by
   cases fuel with
   | zero => simp [DataW.trod] at htr
   | succ fuel =>
    cases hun : P.underlying t with
    | none => rw [hun] at ht; cases ht
    | some dd =>
     rw [hun] at ht
     cases dd with
     | interface ms =>
      generalize cs.toList = l at htr
      unfold DataW.trod at htr
      rw [hun] at htr
      match l, htr with
      | [], htr => cases htr
      | [.nilIface], htr => cases htr
      | [.iface u v], htr => exact ⟨u, v, rfl⟩
      | a :: b :: r, htr => cases a <;> cases htr
      | [.bool _], htr | [.int _ _], htr | [.float _ _], htr | [.string _], htr | [.pointer _], htr | [.slice _ _ _], htr | [.map _], htr | [.chan _], htr | [.func _ _ _], htr | [.nilFunc], htr | [.agg _], htr | [.tuple _], htr => cases htr
     | _ => cases ht
  obtain ⟨u, v, hv⟩ := hrow
  have hcs : cs = #[Value.iface u v] := by
   apply Array.ext'
   rw [hv]
  subst hcs
  unfold World.var? at hvar
  rw [hg] at hvar
  dsimp only [Option.bind_some] at hvar
  split at hvar
  ·rename_i cs t z hh
   cases hvar
   have hcell : W.cell? ⟨g, 0, none⟩ = some (.iface u v) := by simp only [World.cell?, hh]; rfl
   refine ⟨.ptr _ _ _ (fun _ => .iface u v) (fun j c hj => ?_) (fun j c hj => ?_), fun off f => f, ⟨_, _, _, hh, .inl rfl⟩, fun _ => ⟨u, v, hcell⟩⟩
   ·cases j with
    | zero => exact ⟨hcell, fun f => f⟩
    | succ j => simp at hj
   ·cases j with
    | zero =>
     simp at hj
     subst hj
     exact .any _
    | succ j => simp at hj
  ·cases hvar
 | _ => cases hd
end Go.Plat
namespace Go.Proofs.YthmdddenbfbefaaGreatDoor
open Go Go.Plat
set_option linter.unusedVariables false
set_option linter.unusedSimpArgs false
set_option maxRecDepth 100000
set_option maxHeartbeats 2000000
open Go.ChangeShapes Go.WideShapes Go.ChangeAt Go.RowKit
attribute [local irreducible] AWP zy ye zF zn yt z6 zE zW zY zp za zN yu zo zZ yp yq yj yl zt zu zw
theorem zt8 {W : World} (h : laidMetH Tryz.prog Rows.asmNamesUptoRow.laid W) : GOk W F0 := by
 rw [MakeChecks.laidMetH_plain _ _ _ (by kernel_rfl)] at h
 obtain ⟨ps, h, _⟩ := h
 obtain ⟨h1, q1, h⟩ := zdg (k := .u8) (zs := [0, 1, 28, 2, 29, 14, 24, 3, 30, 22, 20, 15, 25, 17, 4, 8, 31, 27, 13, 23, 21, 19, 16, 7, 26, 12, 18, 6, 11, 5, 10, 9]) (g := 1) (t := 298) (e := 5) (n := 32) (by kernel_rfl) (by kernel_rfl) (by kernel_rfl) (by kernel_rfl) (by kernel_rfl) (by kernel_rfl) (by kernel_rfl) h
 obtain ⟨h2, q2, h⟩ := zdg (k := .u8) (zs := [0, 1, 56, 2, 57, 49, 28, 3, 61, 58, 42, 50, 38, 29, 17, 4, 62, 47, 59, 36, 45, 43, 51, 22, 53, 39, 33, 30, 24, 18, 12, 5, 63, 55, 48, 27, 60, 41, 37, 16, 46, 35, 44, 21, 52, 32, 23, 11, 54, 26, 40, 15, 34, 20, 31, 10, 25, 14, 19, 9, 13, 8, 7, 6]) (g := 2) (t := 299) (e := 5) (n := 64) (by kernel_rfl) (by kernel_rfl) (by kernel_rfl) (by kernel_rfl) (by kernel_rfl) (by kernel_rfl) (by kernel_rfl) h
 obtain ⟨h3, q3, h⟩ := zdg (k := .u64) (zs := Lib.pow10Tab) (g := 0) (t := 251) (e := 199) (n := 20) (by kernel_rfl) (by kernel_rfl) (by kernel_rfl) (by kernel_rfl) (by kernel_rfl) (by kernel_rfl) (by kernel_rfl) h
 obtain ⟨q4, h⟩ := zsA h
 obtain ⟨h5, q5, h⟩ := zey (g := 7) (t := 258) (by kernel_rfl) (by kernel_rfl) (by kernel_rfl) rfl h
 obtain ⟨h6, q6, h⟩ := zey (g := 6) (t := 258) (by kernel_rfl) (by kernel_rfl) (by kernel_rfl) rfl h
 show zqI W F0 zfS
 unfold zfS
 exact zbc (zqJ (k := .u64) (by kernel_rfl) h3 (by kernel_rfl)) (zbc (zqJ (k := .u8) (by kernel_rfl) h1 (by kernel_rfl)) (zbc (zqJ (k := .u8) (by kernel_rfl) h2 (by kernel_rfl)) (zbc h6 (zbc h5 zt7))))
end Go.Proofs.YthmdddenbfbefaaGreatDoor
