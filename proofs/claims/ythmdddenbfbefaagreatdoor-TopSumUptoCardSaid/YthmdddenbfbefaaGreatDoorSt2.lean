/-
  A part of the proof: what the given program's functions answer, each once; conditions that are enough for it.
-/
import Derived.Test.YthmdddenbfbefaaGreatDoorSt1
import Derived.Test.YthmdddenbfbefaaGreatDoorFw3
namespace Go.Proofs.YthmdddenbfbefaaGreatDoor
open Go Go.Plat
set_option linter.unusedVariables false
set_option linter.unusedSimpArgs false
set_option maxRecDepth 100000
set_option maxHeartbeats 2000000
attribute [local irreducible] AWP zy ye zF zn yt z6 zE zW zY zp za zN yu zo zZ yp yq yj yl zt zu zw
structure jf where
 at_ : Int
 size : Int
 name : List UInt8
 add : Int
 deriving DecidableEq
structure y0 where
 code : List UInt8
 syms : List zz
 rels : List jf
 deriving DecidableEq
def zbn (r : jf) : D := .agg [.int .i64 r.at_, .int .i64 r.size, .str r.name, .int .i64 r.add]
def qG (o : y0) : D := .agg [vh o.code, .sl 2 (o.syms.map yF) none, .sl 4 (o.rels.map zbn) none]
def wA (n : Int) : List zz → List (List UInt8) → Option Int
 | [], _ => none
 | s :: l, had => if yH s.name = false ∨ s.name ∈ had then some 7 else if s.at_ < 0 ∨ n < s.at_ then some 3 else wA n l (s.name :: had)
def qw (n : Int) : List jf → Int → Int
 | [], _ => 0
 | r :: l, last => if r.size ≠ 2 ∧ r.size ≠ 4 then 1 else if r.at_ < last ∨ n - r.size < r.at_ then 3 else if r.at_ % r.size ≠ 0 then 11 else if r.name ≠ [] ∧ yH r.name = false then 7 else if zd r.add 32 ≠ r.add then 3 else qw n l (r.at_ + r.size)
def wE (o : y0) : Int := if 8000 < o.code.length ∨ 255 < o.syms.length ∨ 16000 < o.rels.length then 4 else match wA o.code.length o.syms [] with
 | some e => e
 | none => qw o.code.length o.rels 0
def kF (l : List zz) : List (D × D) := l.map fun s => (.str s.name, .tt)
theorem zkc (l : List zz) : ∀ p ∈ kF l, kS .str p.1 = true := by
 intro p hp
 obtain ⟨r, _, rfl⟩ := List.mem_map.1 hp
 rfl
theorem ztj {m : Nat → Option Nat} (l : List zz) : ∀ p ∈ kF l, xw m p.2 p.2 := by
 intro p hp
 obtain ⟨r, _, rfl⟩ := List.mem_map.1 hp
 exact xh trivial
theorem zjs (n : List UInt8) : ∀ l : List zz, (¬ n ∈ l.map (·.name)) → vz (.str n) (kF l) = none
 | [], _ => rfl
 | s :: l, h => by
  have h1 : (n == s.name) = false := beq_eq_false_iff_ne.2 fun e => h (by simp [e])
  simp only [kF, List.map_cons, vz, zbh, h1]
  have := zjs n l fun hm => h (by simp at hm ⊢; exact .inr hm)
  unfold kF at this
  rw [this]
  rfl
theorem zoP {n : List UInt8} : ∀ {l : List zz}, n ∈ l.map (·.name) → vS (.str n) (kF l) = some .tt
 | [], h => by simp at h
 | s :: l, h => by
  by_cases h1 : n = s.name
  ·subst h1
   simp [vS, kF, vz, zbh]
  ·have h2 : (n == s.name) = false := beq_eq_false_iff_ne.2 h1
   have h3 : n ∈ l.map (·.name) := by
    simp only [List.map_cons, List.mem_cons] at h
    exact h.resolve_left h1
   have := zoP h3
   unfold vS kF at this ⊢
   simp only [List.map_cons, vz, zbh, h2]
   revert this
   cases vz (.str n) (l.map fun s => (D.str s.name, D.tt)) with
   | none => intro h; cases h
   | some j => intro h; simpa using h
theorem ztk {n : List UInt8} {l : List zz} (h : ¬ n ∈ l.map (·.name)) : vS (.str n) (kF l) = none := by unfold vS; rw [zjs n l h]; rfl
theorem zu8 {s : zz} {l : List zz} (h : ¬ s.name ∈ l.map (·.name)) : xr (.str s.name) .tt (kF l) = kF (l ++ [s]) := by
 rw [zcu (zjs _ _ h)]
 simp [kF]
theorem ztl {m : Nat → Option Nat} {K : Prop} (l : List zz) (h : K) : zjd m (kF l) K := ⟨ztj l, h⟩
theorem ztm {m : Nat → Option Nat} {K : Prop} (h : K) : zjd m [] K := ⟨by simp, h⟩
theorem ztn : kF [] = [] := rfl
attribute [local irreducible] zG yo yk yH kF zjd zd
theorem zfy : za Tryz.prog znR (zA (fun o : y0 => (∀ r ∈ o.rels, -9223372036854775808 ≤ r.at_ ∧ r.at_ ≤ 9223372036854775807 ∧ r.name.length ≤ 1000000000) ∧ ∀ s ∈ o.syms, s.name.length ≤ 1000000000) (fun o => [qG o]) fun o => .int .i64 (wE o)) := by
 refine zg zj Tryz.func85 rfl (by decide) ?_
 rintro o ⟨ho, hs⟩
 refine ⟨Nat.le_refl _, by simp [Tryz.f85], fun E hE => ?_⟩
 refine zf _ ?_
 (all_goals refine qgo ?_ <;> (repeat' first | exact trivial | intro hc | refine And.intro ?_ ?_) <;> refine Lf.mk ?_)
 ·refine zb (VS.mk (LeD.of_eq (congrArg (D.int .i64) ?_)))
  unfold wE; rw [if_pos (by omega)]
 ·refine zb (VS.mk (LeD.of_eq (congrArg (D.int .i64) ?_)))
  unfold wE; rw [if_pos (by omega)]
 ·refine zb (VS.mk (LeD.of_eq (congrArg (D.int .i64) ?_)))
  unfold wE; rw [if_pos (by omega)]
 have hw : wE o = match wA o.code.length o.syms [] with
   | some e => e
   | none => qw o.code.length o.rels 0 := by unfold wE; rw [if_neg (by omega)]
 refine z8 (α := Nat) (fun k => k ≤ o.syms.length ∧ wA o.code.length o.syms [] = wA o.code.length (o.syms.drop k) ((o.syms.take k).map (·.name)).reverse)
  (fun k => [(27, .sl 2 (o.syms.map yF) none), (28, .int .i64 o.syms.length), (29, .int .i64 k), (1, .loc 0 0), (3, .mp 1)])
  (fun k => [.cells [vh o.code, .sl 2 (o.syms.map yF) none, .sl 4 (o.rels.map zbn) none], .map (kF (o.syms.take k))]) (fun k => o.syms.length - k) (fun _ => by simp [hE]) 0 ⟨Nat.zero_le _, by simp⟩ ?_ ?_
 ·(repeat' (first | (refine VS.mk ?_) | exact trivial | exact rfl | refine And.intro ?_ ?_))
  refine ztm ?_
  refine VS.mk ?_
  rw [List.take_zero, ztn]
  rfl
 rintro k ⟨hk, hsw⟩
 refine zf _ ?_
 (all_goals refine qgo ?_ <;> (repeat' first | exact trivial | intro hc | refine And.intro ?_ ?_) <;> refine Lf.mk ?_)
 ·obtain ⟨s, hsk⟩ := ya (l := o.syms) (k := k) (by omega)
  have hkl : k < o.syms.length := by omega
  have hsm := hs s (List.mem_of_getElem? hsk)
  have hget : o.syms[k] = s := by rw [List.getElem?_eq_getElem hkl] at hsk; exact Option.some.inj hsk
  rw [List.drop_eq_getElem_cons hkl, hget] at hsw
  have htake : o.syms.take (k + 1) = o.syms.take k ++ [s] := by rw [List.take_succ_eq_append_getElem hkl, hget]
  have hmem : ∀ n : List UInt8, n ∈ ((o.syms.take k).map (·.name)).reverse ↔ n ∈ (o.syms.take k).map (·.name) := fun n => List.mem_reverse
  refine zl s (by omega) (by simpa using hsk) ?_
  (all_goals refine qgo (Lf.mk ?_))
  refine ze zd1 s.name hsm (VS.mk (by (first | exact LeL.refl _ | (repeat' (first | exact LeL.nil | exact LeD.refl _ | exact LeD.nil _ | exact LeD.strip _ _ _ | refine LeL.cons ?_ ?_ | refine LeD.tup ?_ | refine LeD.agg ?_))))) ?_
  (all_goals refine qgo ?_ <;> (repeat' first | exact trivial | intro hc | refine And.intro ?_ ?_) <;> refine Lf.mk ?_)
  ·refine zb (VS.mk (LeD.of_eq (congrArg (D.int .i64) ?_)))
   rw [hw, hsw, wA, if_pos (.inl hc)]
  refine xa (zkc _) ?_
  refine VS.mk ?_
  by_cases hin : s.name ∈ (o.syms.take k).map (·.name)
  ·refine kn (zoP hin) ?_
   (all_goals refine qgo (Lf.mk ?_))
   any_goals (refine zb (VS.mk (LeD.of_eq (congrArg (D.int .i64) ?_))))
   any_goals rw [hw, hsw, wA, if_pos (.inr ((hmem _).2 hin))]
  ·refine zun (ztk hin) ?_
   (all_goals refine qgo (Lf.mk ?_))
   refine xa (zkc _) ?_
   refine VS.mk ?_
   refine jG (zu8 hin) ?_
   have hstep : ¬ (yH s.name = false ∨ s.name ∈ ((o.syms.take k).map (·.name)).reverse) := by
    rintro (h | h)
    ·rw [hc] at h; cases h
    ·exact hin ((hmem _).1 h)
   (all_goals refine qgo ?_ <;> (repeat' first | exact trivial | intro hc | refine And.intro ?_ ?_) <;> refine Lf.mk ?_)
   ·refine zb (VS.mk (LeD.of_eq (congrArg (D.int .i64) ?_)))
    rw [hw, hsw, wA, if_neg hstep, if_pos (.inl hc)]
   ·refine zb (VS.mk (LeD.of_eq (congrArg (D.int .i64) ?_)))
    rw [hw, hsw, wA, if_neg hstep, if_pos (.inr hc)]
   ·have hnew : wA o.code.length o.syms [] = wA o.code.length (o.syms.drop (k + 1)) ((o.syms.take (k + 1)).map (·.name)).reverse := by
     rw [hsw, wA, if_neg hstep, if_neg (by omega), htake]
     simp
    refine zC (k + 1) ⟨by omega, hnew⟩ (by omega) ?_
    rw [htake]
    (repeat' (first | (refine VS.mk ?_) | exact trivial | exact rfl | refine And.intro ?_ ?_))
    refine ztl _ ?_
    refine VS.mk ?_
    rfl
 ·obtain rfl : k = o.syms.length := by omega
  rw [List.drop_length, wA] at hsw
  rw [hsw] at hw
  have hw : wE o = qw o.code.length o.rels 0 := hw
  refine z8 (α := Nat × Int) (fun p => p.1 ≤ o.rels.length ∧ 0 ≤ p.2 ∧ p.2 ≤ 8000 ∧ qw o.code.length o.rels 0 = qw o.code.length (o.rels.drop p.1) p.2)
   (fun p => [(59, .sl 4 (o.rels.map zbn) none), (60, .int .i64 o.rels.length), (61, .int .i64 p.1), (1, .loc 0 0), (6, .int .i64 p.2)])
   (fun _ => [.cells [vh o.code, .sl 2 (o.syms.map yF) none, .sl 4 (o.rels.map zbn) none]]) (fun p => o.rels.length - p.1) (fun _ => by simp [hE]) (0, 0) ⟨Nat.zero_le _, by decide, by decide, by simp⟩ ?_ ?_
  ·(repeat' (first | (refine VS.mk ?_) | exact trivial | exact rfl | refine And.intro ?_ ?_))
  rintro ⟨k, last⟩ ⟨hk, hl0, hl1, hrw⟩
  dsimp only at hk hl0 hl1 hrw ⊢
  refine zf _ ?_
  (all_goals refine qgo ?_ <;> (repeat' first | exact trivial | intro hc | refine And.intro ?_ ?_) <;> refine Lf.mk ?_)
  ·obtain ⟨r, hrk⟩ := ya (l := o.rels) (k := k) (by omega)
   have hkl : k < o.rels.length := by omega
   obtain ⟨hr1, hr2, hr3⟩ := ho r (List.mem_of_getElem? hrk)
   have hget : o.rels[k] = r := by rw [List.getElem?_eq_getElem hkl] at hrk; exact Option.some.inj hrk
   rw [List.drop_eq_getElem_cons hkl, hget] at hrw
   rw [hrw, qw] at hw
   refine zl r (by omega) (by simpa using hrk) ?_
   (all_goals refine qgo ?_ <;> (repeat' first | exact trivial | intro hc | refine And.intro ?_ ?_) <;> refine Lf.mk ?_)
   any_goals (refine ze zd1 r.name hr3 (VS.mk (LeL.of_eq rfl)) ?_)
   (all_goals refine qgo ?_ <;> (repeat' first | exact trivial | intro hc | refine And.intro ?_ ?_) <;> refine Lf.mk ?_)
   any_goals (refine ze yw r.add trivial (VS.mk (LeL.of_eq rfl)) ?_)
   (all_goals refine qgo ?_ <;> (repeat' first | exact trivial | intro hc | refine And.intro ?_ ?_) <;> refine Lf.mk ?_)
   any_goals (refine zb (VS.mk (LeD.of_eq (congrArg (D.int .i64) ?_))); rw [hw])
   any_goals first
    | (rw [if_pos] <;> omega)
    | (rw [if_neg, if_pos] <;> omega)
    | (rw [if_neg, if_neg, if_pos] <;> omega)
    | (rw [if_neg, if_neg, if_neg, if_pos] <;> first | omega | (refine ⟨?_, ?_⟩ <;> assumption))
    | (rw [if_neg, if_neg, if_neg, if_neg, if_pos] <;> first | omega | assumption | (rintro ⟨h1, h2⟩; simp_all))
    | skip
   all_goals (
    have hnew : qw o.code.length o.rels 0 = qw o.code.length (o.rels.drop (k + 1)) (r.at_ + r.size) := by
     rw [hrw, qw]
     rw [if_neg, if_neg, if_neg, if_neg, if_neg]
     all_goals first
      | omega
      | exact fun h => h (by assumption)
      | (rintro ⟨h1, h2⟩; simp_all; done)
    refine zC (k + 1, r.at_ + r.size) ⟨by (dsimp only; omega), by (dsimp only; omega), by (dsimp only; omega), hnew⟩ (by dsimp only; omega) ?_
    (repeat' (first | (refine VS.mk ?_) | exact trivial | exact rfl | refine And.intro ?_ ?_)))
  ·refine zb (VS.mk (LeD.of_eq (congrArg (D.int .i64) ?_)))
   rw [hw, hrw, List.drop_of_length_le (by omega)]
   rfl
end Go.Proofs.YthmdddenbfbefaaGreatDoor
namespace Go.Proofs.YthmdddenbfbefaaGreatDoor
open Go Go.Plat
set_option linter.unusedVariables false
set_option linter.unusedSimpArgs false
set_option maxRecDepth 100000
set_option maxHeartbeats 2000000
attribute [local irreducible] AWP zy ye zF zn yt z6 zE zW zY zp za zN yu zo zZ yp yq yj yl zt zu zw
def tk (t : yB) : zbl := ⟨t.kind, t.n, t.text⟩
theorem zto (l : List yB) : l.map wN = (l.map tk).map ztb := by rw [List.map_map]; rfl
structure AOp where
 sign : List UInt8
 reg : Int
 val : zq
def vX (o : AOp) : D := .agg [.str o.sign, .int .i64 o.reg, .str o.val.name, .int .i64 o.val.n]
def noV : zq := ⟨[], 0⟩
def x0 : List (List UInt8) := [[48], [49], [50], [51], [52], [53], [54], [55], [56], [57], [49, 48], [49, 49], [49, 50], [49, 51], [49, 52], [49, 53]]
def wx (t : yB) : Int := if t.kind = 1 ∧ t.text.headD 0 = 114 then w5 (t.text.drop 1) x0 0 else -1
structure RB where
 rest : List yB
 fe : Int
 fa : Int
def vM (s : RB) (e line : Int) : RB := if s.fe = 0 then ⟨s.rest, e, line⟩ else s
def zL (c : List UInt8) (s : RB) : Bool × RB := match s.rest with
 | t :: r => if t.kind = 3 ∧ t.text = c then (true, ⟨r, s.fe, s.fa⟩) else (false, s)
 | [] => (false, s)
def xV (q : List zk) (line : Int) (s : RB) : zq × RB :=
 if (xQ (s.rest.map tk)).2.2 = 0 then
  ((xk q (xQ (s.rest.map tk)).1).1, if (xk q (xQ (s.rest.map tk)).1).2 = 0 then ⟨s.rest.drop (xQ (s.rest.map tk)).2.1.toNat, s.fe, s.fa⟩
    else vM ⟨s.rest.drop (xQ (s.rest.map tk)).2.1.toNat, s.fe, s.fa⟩ (xk q (xQ (s.rest.map tk)).1).2 line)
 else (noV, vM s (xQ (s.rest.map tk)).2.2 line)
def qI (s : RB) : List UInt8 × RB :=
 if (zL [35] s).1 = true then ([35], (zL [35] s).2) else if (zL [64] s).1 = true then ([64], (zL [64] s).2) else if (zL [61] s).1 = true then ([61], (zL [61] s).2) else ([], s)
def zjt : List yB → Int
 | [] => -1
 | t :: _ => wx t
def zak (q : List zk) (line : Int) (sg : List UInt8) (s : RB) : AOp × RB :=
 if (sg = [] ∨ sg = [64]) ∧ 0 ≤ zjt s.rest then (⟨if sg = [] then [114] else sg, zjt s.rest, noV⟩, ⟨s.rest.drop 1, s.fe, s.fa⟩)
 else if sg = [64] then (⟨sg, 0, noV⟩, vM s 2 line)
 else (⟨sg, 0, (xV q line s).1⟩, (xV q line s).2)
def yV (q : List zk) (line : Int) (s : RB) : AOp × RB := zak q line (qI s).1 (qI s).2
def xM (line : Int) (s : RB) : RB := if (zL [44] s).1 = false ∨ (zL [44] s).2.rest = [] then vM (zL [44] s).2 2 line else (zL [44] s).2
def jg (q : List zk) (line : Int) : Nat → List AOp → RB → List AOp × RB
 | 0, out, s => (out, s)
 | f + 1, out, s => if s.rest = [] ∨ s.fe ≠ 0 then (out, s) else if (yV q line s).2.rest = [] then (out ++ [(yV q line s).1], (yV q line s).2)
  else jg q line f (out ++ [(yV q line s).1]) (xM line (yV q line s).2)
def xf (q : List zk) (line : Int) (s : RB) : List AOp × RB := jg q line (s.rest.length + 1) [] s
def sgA (o : AOp) : List UInt8 := if o.sign = [] then [112] else o.sign
def x1 (l : List AOp) : List UInt8 := (l.map sgA).flatten
def yL (s : List UInt8) : List Int :=
 if s = [] then [0] else if s = [35, 114] then [1] else if s = [114, 114] then [2] else if s = [114] then [3] else if s = [112] then [4, 5] else if s = [64] then [6]
 else if s = [112, 114] then [7, 8] else if s = [114, 64] then [9] else if s = [64, 114] then [10] else if s = [35] then [11] else []
structure zx where
 kind : Int
 at_ : Int
 line : Int
 ins : Ins
 long : Bool
 size : Int
 val : zq
 pool : Int
 idx : Int
def zwV (x : zx) : List D := [.int .i64 x.kind, .int .i64 x.at_, .int .i64 x.line, .int .i64 x.ins.op, .int .i64 x.ins.n, .int .i64 x.ins.m, .int .i64 x.ins.imm, .bool x.long, .int .i64 x.size,
 .str x.val.name, .int .i64 x.val.n, .int .i64 x.pool, .int .i64 x.idx]
def xm (x : zx) : D := .agg (zwV x)
def noI : Ins := ⟨0, 0, 0, 0⟩
structure Bld where
 items : List zx
 syms : List zz
 marks : List Int
 shut : List (List zq)
 has : Bool
 cur : List zq
 fe : Int
 fa : Int
def yA (b : Bld) (e line : Int) : Bld := if b.fe = 0 then { b with fe := e, fa := line } else b
def xu (b : Bld) (x : zx) : Bld := { b with items := b.items ++ [x] }
def wg (v : zq) : List zq → Nat → Int
 | [], _ => -1
 | x :: l, k => if x.name = v.name ∧ x.n = v.n then k else wg v l (k + 1)
def wP (v : zq) (l : List zq) : List zq := if wg v l 0 < 0 then l ++ [v] else l
def wQ (v : zq) (l : List zq) : Int := if wg v l 0 < 0 then l.length else wg v l 0
def kb (b : Bld) (v : zq) (reg line : Int) : Bld :=
 xu { b with has := true, cur := wP v b.cur } ⟨6, 0, line, ⟨24, reg, 0, 0⟩, false, 0, noV, b.shut.length, wQ v b.cur⟩
def vy (b : Bld) (line : Int) : Bld :=
 if b.has = true then { xu b ⟨9, 0, line, noI, false, 0, noV, b.shut.length, 0⟩ with shut := b.shut ++ [b.cur], has := false, cur := [] } else b
def xI (name : List UInt8) : List Int → Int × Int → Int × Int
 | [], p => p
 | s :: l, p => xI name l (if 0 < wO name s then (wO name s, s) else p)
def aop (l : List AOp) (k : Nat) : AOp := (l[k]?).getD ⟨[], 0, noV⟩
def wF (op shape : Int) (l : List AOp) (line : Int) : zx :=
 if shape = 1 then ⟨1, 0, line, ⟨op, (aop l 1).reg, 0, (aop l 0).val.n⟩, false, 0, (aop l 0).val, 0, 0⟩
 else if shape = 2 ∨ shape = 9 ∨ shape = 10 then ⟨1, 0, line, ⟨op, (aop l 1).reg, (aop l 0).reg, 0⟩, false, 0, noV, 0, 0⟩
 else if shape = 3 ∨ shape = 6 then ⟨1, 0, line, ⟨op, (aop l 0).reg, 0, 0⟩, false, 0, noV, 0, 0⟩
 else if shape = 4 then ⟨2, 0, line, ⟨op, 0, 0, 0⟩, false, 0, (aop l 0).val, 0, 0⟩
 else if shape = 5 then ⟨3, 0, line, ⟨op, 0, 0, 0⟩, false, 0, (aop l 0).val, 0, 0⟩
 else if shape = 7 then ⟨4, 0, line, ⟨op, (aop l 1).reg, 0, 0⟩, false, 0, (aop l 0).val, 0, 0⟩
 else if shape = 8 then ⟨5, 0, line, ⟨op, (aop l 1).reg, 0, 0⟩, false, 0, (aop l 0).val, 0, 0⟩
 else if shape = 11 then ⟨1, 0, line, ⟨op, 0, 0, (aop l 0).val.n⟩, false, 0, (aop l 0).val, 0, 0⟩
 else ⟨1, 0, line, ⟨op, 0, 0, 0⟩, false, 0, noV, 0, 0⟩
def xp (b : Bld) (name : List UInt8) (l : List AOp) (line : Int) : Bld :=
 if name = [109, 111, 118, 46, 108] ∧ l.length = 2 ∧ (aop l 0).sign = [61] ∧ (aop l 1).sign = [114] then kb b (aop l 0).val (aop l 1).reg line
 else if (xI name (yL (x1 l)) (0, 0)).1 = 0 then yA b 1 line
 else if ((xI name (yL (x1 l)) (0, 0)).2 = 1 ∨ (xI name (yL (x1 l)) (0, 0)).2 = 11) ∧ (aop l 0).val.name ≠ [] then yA b 8 line
 else if yU (wF (xI name (yL (x1 l)) (0, 0)).1 (xI name (yL (x1 l)) (0, 0)).2 l line).ins = 0
  then xu b (wF (xI name (yL (x1 l)) (0, 0)).1 (xI name (yL (x1 l)) (0, 0)).2 l line)
 else yA b (yU (wF (xI name (yL (x1 l)) (0, 0)).1 (xI name (yL (x1 l)) (0, 0)).2 l line).ins) line
def zpZ (size : Int) : Int := if size = 1 then -128 else if size = 2 then -32768 else -2147483648
def zlb (size : Int) : Int := if size = 1 then 255 else if size = 2 then 65535 else 4294967295
def wG (size line : Int) (b : Bld) (o : AOp) : Bld :=
 xu (if o.sign ≠ [] then yA b 2 line else if o.val.name ≠ [] ∧ size = 1 then yA b 8 line else if o.val.name = [] ∧ (o.val.n < zpZ size ∨ zlb size < o.val.n) then yA b 3 line else b)
  ⟨7, 0, line, noI, false, size, o.val, 0, 0⟩
def kw (b : Bld) (size : Int) (l : List AOp) (line : Int) : Bld := l.foldl (wG size line) (if l = [] then yA b 2 line else b)
def qB (b : Bld) (l : List AOp) (line : Int) : Bld :=
 if l.length ≠ 1 ∨ (aop l 0).sign ≠ [] ∨ (aop l 0).val.name ≠ [] then yA b 2 line
 else if (aop l 0).val.n ≠ 1 ∧ (aop l 0).val.n ≠ 2 ∧ (aop l 0).val.n ≠ 4 ∧ (aop l 0).val.n ≠ 8 ∧ (aop l 0).val.n ≠ 16 then yA b 3 line
 else xu b ⟨8, 0, line, noI, false, (aop l 0).val.n, noV, 0, 0⟩
theorem zec : za Tryz.prog zjk (zA (fun n : Int => -9223372036854775808 ≤ n ∧ n ≤ 9223372036854775807) (fun n => [.int .i64 n]) fun n => .str (Lib.itoa n)) := by
 refine jv ⟨_, Tryz.func12, by decide, rfl⟩ ?_
 intro n hn w F hg vs hl hv
 match vs, hl with
 | [v], _ =>
  cases hv 0 _ v rfl rfl
  refine (Go.Proofs.Tryz.strconv_Itoa n hn.1 hn.2 w ?_).mono ?_
  ·exact hg.tab (g := 0) (ns := (List.range 20).map (10 ^ ·)) (by kernel_rfl) (by kernel_rfl) (by rw [List.map_map]; rfl) (by decide)
  ·rintro e w' ⟨rfl, k, os, rfl⟩
   exact ⟨_, rfl, .growD w k os, .str _⟩
def wh : List UInt8 → Int → Option Int
 | [], n => some n
 | c :: r, n => if 48 ≤ c.toNat ∧ c.toNat ≤ 57 then wh r (n * 10 + ((c.toNat : Int) - 48)) else none
theorem zp0 (c : UInt8) (r : List UInt8) (n : Int) : wh (c :: r) n = if 48 ≤ c.toNat ∧ c.toNat ≤ 57 then wh r (n * 10 + ((c.toNat : Int) - 48)) else none := rfl
def ziy (s : List UInt8) : Bool := decide (s.headD 0 = 45 ∨ s.headD 0 = 43)
def vN (s : List UInt8) : Option Int :=
 if ziy s = true then (if s.length ≤ 1 then none else if s.headD 0 = 45 then (wh (s.drop 1) 0).map (fun n => -n) else wh (s.drop 1) 0) else wh s 0
def kW (r : Option Int) (e : D) : D := match r with | some n => .tup [.int .i64 n, .nilif] | none => .tup [.int .i64 0, e]
theorem jx {t : List UInt8} {k : Nat} {n : Int} (hk : k < t.length) : wh (t.drop k) n = if 48 ≤ (t.getD k 0).toNat ∧ (t.getD k 0).toNat ≤ 57 then wh (t.drop (k + 1)) (n * 10 + (((t.getD k 0).toNat : Int) - 48)) else none := by
 rw [List.drop_eq_getElem_cons hk, zp0, List.getD_eq_getElem?_getD, List.getElem?_eq_getElem hk]
 rfl
theorem zoQ (c : UInt8) : ((ym ((c.toNat : Int) - 48)).toNat : Int) = ((c.toNat : Int) - 48) % 256 := xY _
theorem zmD {c : UInt8} (h : 9 < ((ym ((c.toNat : Int) - 48)).toNat : Int)) : ¬ (48 ≤ c.toNat ∧ c.toNat ≤ 57) := by rw [zoQ] at h; omega
theorem zju {c : UInt8} (h : ¬ 9 < ((ym ((c.toNat : Int) - 48)).toNat : Int)) : (48 ≤ c.toNat ∧ c.toNat ≤ 57) ∧ ((ym ((c.toNat : Int) - 48)).toNat : Int) = (c.toNat : Int) - 48 := by
 rw [zoQ] at h ⊢
 have := c.toNat_lt
 omega
theorem kO (s : List UInt8) (c : UInt8) : (((s.getD (Int.toNat 0) 0).toNat : Int) = (c.toNat : Int)) ↔ s.headD 0 = c := by
 have : s.getD (Int.toNat 0) 0 = s.headD 0 := by cases s <;> rfl
 rw [this]
 refine ⟨fun h => ?_, fun h => by rw [h]⟩
 exact UInt8.toNat.inj (by omega)
theorem zrw {s : List UInt8} (h : s.headD 0 = 45) : vN s = if s.length ≤ 1 then none else (wh (s.drop 1) 0).map (fun n => -n) := by
 unfold vN ziy
 rw [if_pos (decide_eq_true (.inl h)), if_pos h]
theorem zrx {s : List UInt8} (h : ¬ s.headD 0 = 45) (h' : s.headD 0 = 43) : vN s = if s.length ≤ 1 then none else wh (s.drop 1) 0 := by
 unfold vN ziy
 rw [if_pos (decide_eq_true (.inr h')), if_neg h]
theorem zwW {s : List UInt8} (h : ¬ s.headD 0 = 45) (h' : ¬ s.headD 0 = 43) : vN s = wh s 0 := by
 unfold vN ziy
 rw [if_neg (fun e => (of_decide_eq_true e).elim h h')]
attribute [local irreducible] wh Lib.itoa
def zry (s : List UInt8) : Prop := 1 ≤ s.length ∧ s.length ≤ 2
def AtI (t : List UInt8) (p : Nat × Int) : Prop := p.1 ≤ t.length ∧ (p.1 = 0 → p.2 = 0) ∧ (p.1 ≤ 1 → p.2 ≤ 9) ∧ 0 ≤ p.2 ∧ p.2 ≤ 99 ∧ wh (t.drop p.1) p.2 = wh t 0
theorem zn6 : za Tryz.prog zcm (zA (fun s : List UInt8 => zry s) (fun s => [.str s]) fun s => kW (vN s) (.iface 300 (.int .i64 2))) := by
 refine zg zj Tryz.func194 rfl (by decide) ?_
 intro s hs
 obtain ⟨h1, h2⟩ := hs
 refine ⟨Nat.le_refl _, by simp [Tryz.f194], fun E hE => ?_⟩
 have ht : List.drop (Int.toNat 1) (List.take ((s.length : Int)).toNat s) = s.drop 1 := by rw [Int.toNat_natCast, List.take_length]; rfl
 have hl1 : (s.drop 1).length = s.length - 1 := by simp
 refine zf _ ?_
 (all_goals refine qgp ?_ <;> (repeat' first | exact trivial | intro hc | refine And.intro ?_ ?_) <;> refine Lf.mk ?_)
 all_goals (try rw [ht] at hc)
 all_goals (try rw [ht])
 ·have h45 := (kO s 45).1 (by assumption)
  refine zb (VS.mk (LeD.of_eq ?_))
  rw [zrw h45, if_pos (show s.length ≤ 1 by omega)]
  rfl
 ·have h45 := (kO s 45).1 (by assumption)
  have hAt : ∀ e, kW (vN s) e = kW ((wh (s.drop 1) 0).map (fun n => -n)) e := fun e => by rw [zrw h45, if_neg (show ¬ s.length ≤ 1 by omega)]
  have hl2 : (s.drop 1).length ≤ 2 := by omega
  clear ht
  generalize s.drop 1 = t at *
  refine z8 (α := Nat × Int) (AtI t) (fun p => [(47, .sl 1 (t.map zH) none), (48, .int .i64 t.length), (49, .int .i64 p.1), (6, .int .i64 p.2), (5, .str s)])
   (fun _ => []) (fun p => t.length - p.1) (fun _ => by rw [hE]; exact Nat.le_refl _) (0, 0) ⟨Nat.zero_le _, fun _ => rfl, fun _ => by decide, by decide, by decide, rfl⟩ ?_ ?_
  ·(repeat' (first | (refine VS.mk ?_) | exact trivial | exact rfl | refine And.intro ?_ ?_))
  rintro ⟨k, n⟩ ⟨i1, i2, i3, i4, i5, i6⟩
  dsimp only at i1 i2 i3 i4 i5 i6 ⊢
  refine zf _ ?_
  (all_goals refine qgp ?_ <;> (repeat' first | exact trivial | intro hc | refine And.intro ?_ ?_) <;> refine Lf.mk ?_)
  ·have hst := jx (n := n) (show k < t.length by omega)
   rw [if_neg (zmD hc), i6] at hst
   refine zb (VS.mk (LeD.of_eq ?_))
   rw [hAt, hst]
   rfl
  ·obtain ⟨l1, l2⟩ := zju hc
   have hst := jx (n := n) (show k < t.length by omega)
   rw [if_pos l1, i6] at hst
   have hj : AtI t (k + 1, n * 10 + (((t.getD k 0).toNat : Int) - 48)) := by
    refine ⟨?_, ?_, ?_, ?_, ?_, hst.symm⟩ <;> dsimp only
    ·omega
    ·intro h; omega
    ·intro h; have := i2 (by omega); omega
    ·omega
    ·have := i3 (by omega); omega
   refine zC _ hj (by dsimp only; omega) ?_
   (repeat' (first | (refine VS.mk ?_) | exact trivial | exact rfl | refine And.intro ?_ ?_))
   all_goals rw [l2]
  all_goals
   have hk : k = t.length := by omega
   subst hk
   rw [List.drop_length] at i6
   have i6 : wh t 0 = some n := by rw [← i6, wh]
   refine zb (VS.mk (LeD.of_eq ?_))
   rw [hAt, i6]
   exact congrArg (fun x => D.tup [.int .i64 x, .nilif]) (Int.zero_sub n)
 ·have h45 : ¬ s.headD 0 = 45 := fun h => absurd ((kO s 45).2 h) (by assumption)
  have h43 := (kO s 43).1 (by assumption)
  refine zb (VS.mk (LeD.of_eq ?_))
  rw [zrx h45 h43, if_pos (show s.length ≤ 1 by omega)]
  rfl
 ·have h45 : ¬ s.headD 0 = 45 := fun h => absurd ((kO s 45).2 h) (by assumption)
  have h43 := (kO s 43).1 (by assumption)
  have hAt : ∀ e, kW (vN s) e = kW (wh (s.drop 1) 0) e := fun e => by rw [zrx h45 h43, if_neg (show ¬ s.length ≤ 1 by omega)]
  have hl2 : (s.drop 1).length ≤ 2 := by omega
  clear ht
  generalize s.drop 1 = t at *
  refine z8 (α := Nat × Int) (AtI t) (fun p => [(47, .sl 1 (t.map zH) none), (48, .int .i64 t.length), (49, .int .i64 p.1), (6, .int .i64 p.2), (5, .str s)])
   (fun _ => []) (fun p => t.length - p.1) (fun _ => by rw [hE]; exact Nat.le_refl _) (0, 0) ⟨Nat.zero_le _, fun _ => rfl, fun _ => by decide, by decide, by decide, rfl⟩ ?_ ?_
  ·(repeat' (first | (refine VS.mk ?_) | exact trivial | exact rfl | refine And.intro ?_ ?_))
  rintro ⟨k, n⟩ ⟨i1, i2, i3, i4, i5, i6⟩
  dsimp only at i1 i2 i3 i4 i5 i6 ⊢
  refine zf _ ?_
  (all_goals refine qgp ?_ <;> (repeat' first | exact trivial | intro hc | refine And.intro ?_ ?_) <;> refine Lf.mk ?_)
  ·have hst := jx (n := n) (show k < t.length by omega)
   rw [if_neg (zmD hc), i6] at hst
   refine zb (VS.mk (LeD.of_eq ?_))
   rw [hAt, hst]
   rfl
  ·obtain ⟨l1, l2⟩ := zju hc
   have hst := jx (n := n) (show k < t.length by omega)
   rw [if_pos l1, i6] at hst
   have hj : AtI t (k + 1, n * 10 + (((t.getD k 0).toNat : Int) - 48)) := by
    refine ⟨?_, ?_, ?_, ?_, ?_, hst.symm⟩ <;> dsimp only
    ·omega
    ·intro h; omega
    ·intro h; have := i2 (by omega); omega
    ·omega
    ·have := i3 (by omega); omega
   refine zC _ hj (by dsimp only; omega) ?_
   (repeat' (first | (refine VS.mk ?_) | exact trivial | exact rfl | refine And.intro ?_ ?_))
   all_goals rw [l2]
  all_goals
   have hk : k = t.length := by omega
   subst hk
   rw [List.drop_length] at i6
   have i6 : wh t 0 = some n := by rw [← i6, wh]
   refine zb (VS.mk (LeD.of_eq ?_))
   rw [hAt, i6]
   rfl
 ·have h45 : ¬ s.headD 0 = 45 := fun h => absurd ((kO s 45).2 h) (by assumption)
  have h43 : ¬ s.headD 0 = 43 := fun h => absurd ((kO s 43).2 h) (by assumption)
  have hAt : ∀ e, kW (vN s) e = kW (wh s 0) e := fun e => by rw [zwW h45 h43]
  refine z8 (α := Nat × Int) (AtI s) (fun p => [(47, .sl 1 (s.map zH) none), (48, .int .i64 s.length), (49, .int .i64 p.1), (6, .int .i64 p.2), (5, .str s)])
   (fun _ => []) (fun p => s.length - p.1) (fun _ => by rw [hE]; exact Nat.le_refl _) (0, 0) ⟨Nat.zero_le _, fun _ => rfl, fun _ => by decide, by decide, by decide, rfl⟩ ?_ ?_
  ·(repeat' (first | (refine VS.mk ?_) | exact trivial | exact rfl | refine And.intro ?_ ?_))
  rintro ⟨k, n⟩ ⟨i1, i2, i3, i4, i5, i6⟩
  dsimp only at i1 i2 i3 i4 i5 i6 ⊢
  refine zf _ ?_
  (all_goals refine qgp ?_ <;> (repeat' first | exact trivial | intro hc | refine And.intro ?_ ?_) <;> refine Lf.mk ?_)
  ·have hst := jx (n := n) (show k < s.length by omega)
   rw [if_neg (zmD hc), i6] at hst
   refine zb (VS.mk (LeD.of_eq ?_))
   rw [hAt, hst]
   rfl
  ·obtain ⟨l1, l2⟩ := zju hc
   have hst := jx (n := n) (show k < s.length by omega)
   rw [if_pos l1, i6] at hst
   have hj : AtI s (k + 1, n * 10 + (((s.getD k 0).toNat : Int) - 48)) := by
    refine ⟨?_, ?_, ?_, ?_, ?_, hst.symm⟩ <;> dsimp only
    ·omega
    ·intro h; omega
    ·intro h; have := i2 (by omega); omega
    ·omega
    ·have := i3 (by omega); omega
   refine zC _ hj (by dsimp only; omega) ?_
   (repeat' (first | (refine VS.mk ?_) | exact trivial | exact rfl | refine And.intro ?_ ?_))
   all_goals rw [l2]
  all_goals
   have hk : k = s.length := by omega
   subst hk
   rw [List.drop_length] at i6
   have i6 : wh s 0 = some n := by rw [← i6, wh]
   refine zb (VS.mk (LeD.of_eq ?_))
   rw [hAt, i6]
   rfl
theorem zp1 : za Tryz.prog zjn (zA (fun s : List UInt8 => zry s) (fun s => [.str s]) fun s => kW (vN s) (.iface 301 .any)) := by
 refine zg zj Tryz.func173 rfl (by decide) ?_
 intro s hs
 refine ⟨Nat.le_refl _, by simp [Tryz.f173], fun E hE => ?_⟩
 refine zf _ ?_
 (all_goals refine qgp (Lf.mk ?_))
 refine ze zn6 s hs (VS.mk (LeL.of_eq rfl)) ?_
 cases h : vN s with
 | some n =>
  dsimp only [kW]
  (all_goals refine qgp ?_ <;> (repeat' first | exact trivial | intro hc | refine And.intro ?_ ?_) <;> refine Lf.mk ?_)
  all_goals first
   | (exfalso; exact Bool.noConfusion hc)
   | (exfalso; refine absurd trivial ?_; assumption)
   | skip
  exact zb (VS.mk (LeD.of_eq rfl))
 | none =>
  dsimp only [kW]
  (all_goals refine qgp ?_ <;> (repeat' first | exact trivial | intro hc | refine And.intro ?_ ?_) <;> refine Lf.mk ?_)
  all_goals first
   | (exfalso; exact Bool.noConfusion hc)
   | (exfalso; refine absurd hc ?_; decide)
   | skip
  refine ze zgG ([65, 116, 111, 105], s, 0, 0, 2) ⟨by have := hs.2; omega, .inr rfl⟩ (VS.mk (LeL.of_eq rfl)) ?_
  (all_goals refine qgp (Lf.mk ?_))
  exact zb (VS.mk (LeD.of_eq rfl))
theorem zjv (x : List UInt8) : ∀ (l : List (List UInt8)) (k : Nat), w5 x l k = -1 ∨ x ∈ l
 | [], _ => .inl rfl
 | s :: l, k => by
  rw [w5]
  by_cases h : x = s
  ·exact .inr (by rw [h]; exact List.mem_cons_self)
  ·rw [if_neg h]
   exact (zjv x l (k + 1)).imp id (List.mem_cons_of_mem _)
theorem zu9 : x0.map (fun r => (w5 r x0 0, vN r)) = (List.range 16).map (fun k : Nat => ((k : Int), some (k : Int))) := by kernel_rfl
theorem zva : (List.range 16).map (fun k => Lib.itoa ((k : Nat) : Int)) = x0 := by kernel_rfl
theorem zrz {k : Nat} (hk : k < 16) : x0[k]? = some (Lib.itoa (k : Int)) ∧ w5 (Lib.itoa (k : Int)) x0 0 = k ∧ vN (Lib.itoa (k : Int)) = some (k : Int) := by
 have h1 : x0[k]? = some (Lib.itoa (k : Int)) := by rw [← zva, List.getElem?_map, List.getElem?_range hk]; rfl
 have h2 := congrArg (fun l => l[k]?) zu9
 simp only [List.getElem?_map, h1, List.getElem?_range hk, Option.map_some, Option.some.injEq, Prod.mk.injEq] at h2
 exact ⟨h1, h2⟩
theorem zvb {s : List UInt8} {n : Int} (h0 : 0 ≤ n) (h1 : n ≤ 15) (h : Lib.itoa n = s) : w5 s x0 0 = n := by
 obtain ⟨k, rfl⟩ := Int.eq_ofNat_of_zero_le h0
 rw [← h]
 exact (zrz (by omega)).2.1
theorem ziz {s : List UInt8} (h : ∀ n, vN s = some n → ¬ (0 ≤ n ∧ n ≤ 15 ∧ Lib.itoa n = s)) : w5 s x0 0 = -1 := by
 refine (zjv s x0 0).resolve_right fun hm => ?_
 obtain ⟨k, hk⟩ := List.getElem?_of_mem hm
 have hk16 : k < 16 := (List.getElem?_eq_some_iff.1 hk).1
 obtain ⟨h1, _, h3⟩ := zrz hk16
 rw [h1] at hk
 cases hk
 exact h _ h3 ⟨by omega, by omega, rfl⟩
theorem zmE {s : List UInt8} (h : s.length = 0 ∨ 2 < s.length) : w5 s x0 0 = -1 := by
 refine (zjv s x0 0).resolve_right fun hm => ?_
 have : ∀ r ∈ x0, 1 ≤ r.length ∧ r.length ≤ 2 := by decide
 have := this s hm
 omega
attribute [local irreducible] vN x0 w5
theorem zal : za Tryz.prog zjm (zA (fun t : yB => t.text.length ≤ 1000000000) (fun t => [wN t]) fun t => .int .i64 (wx t)) := by
 refine zg zj Tryz.func121 rfl (by decide) ?_
 rintro ⟨kd, n, s⟩ hs
 have hs : s.length ≤ 1000000000 := hs
 refine ⟨Nat.le_refl _, by simp [Tryz.f121], fun E hE => ?_⟩
 have ht : List.drop (Int.toNat 1) (List.take ((s.length : Int)).toNat s) = s.drop 1 := by rw [Int.toNat_natCast, List.take_length]; rfl
 have hl1 : (s.drop 1).length = s.length - 1 := by simp
 refine zf _ ?_
 (all_goals refine qgp ?_ <;> (repeat' first | exact trivial | intro hc | refine And.intro ?_ ?_) <;> refine Lf.mk ?_)
 ·refine zb (VS.mk (LeD.of_eq (congrArg (D.int .i64) ?_)))
  unfold wx
  rw [if_neg (fun e => hc e.1)]
 ·refine zb (VS.mk (LeD.of_eq (congrArg (D.int .i64) ?_)))
  unfold wx
  dsimp only
  rw [zmE (.inl (by omega))]
  split <;> rfl
 ·refine zb (VS.mk (LeD.of_eq (congrArg (D.int .i64) ?_)))
  unfold wx
  dsimp only
  rw [zmE (.inr (by omega))]
  split <;> rfl
 ·have h114 : ¬ s.headD 0 = 114 := fun h => absurd ((kO s 114).2 h) (by assumption)
  refine zb (VS.mk (LeD.of_eq (congrArg (D.int .i64) ?_)))
  unfold wx
  rw [if_neg (fun e => h114 e.2)]
 ·have h114 := (kO s 114).1 (by assumption)
  have hR : wx ⟨kd, n, s⟩ = w5 (s.drop 1) x0 0 := by
   unfold wx
   rw [if_pos ⟨by assumption, h114⟩]
  dsimp only
  rw [ht, hR]
  refine ze zp1 (s.drop 1) ⟨by omega, by omega⟩ (VS.mk (LeL.of_eq rfl)) ?_
  cases hat : vN (s.drop 1) with
  | none =>
   dsimp only [kW]
   (all_goals refine qgp ?_ <;> (repeat' first | exact trivial | intro hc | refine And.intro ?_ ?_) <;> refine Lf.mk ?_)
   (any_goals (first | (exfalso; refine Bool.false_ne_true ?_; assumption) | (exfalso; refine Bool.false_ne_true (Eq.symm ?_); assumption) | (exfalso; refine absurd trivial ?_; assumption) | skip))
   refine zb (VS.mk (LeD.of_eq (congrArg (D.int .i64) ?_)))
   rw [ziz fun m hm => by rw [hat] at hm; cases hm]
  | some m =>
   dsimp only [kW]
   (all_goals refine qgp ?_ <;> (repeat' first | exact trivial | intro hc | refine And.intro ?_ ?_) <;> refine Lf.mk ?_)
   (any_goals (first | (exfalso; refine Bool.false_ne_true ?_; assumption) | (exfalso; refine Bool.false_ne_true (Eq.symm ?_); assumption) | (exfalso; refine absurd trivial ?_; assumption) | skip))
   ·refine zb (VS.mk (LeD.of_eq (congrArg (D.int .i64) ?_)))
    rw [ziz fun q hm => by rw [hat] at hm; cases hm; omega]
   ·refine zb (VS.mk (LeD.of_eq (congrArg (D.int .i64) ?_)))
    rw [ziz fun q hm => by rw [hat] at hm; cases hm; omega]
   ·refine ze zec m ⟨by omega, by omega⟩ (VS.mk (LeL.of_eq rfl)) ?_
    (all_goals refine qgp ?_ <;> (repeat' first | exact trivial | intro hc | refine And.intro ?_ ?_) <;> refine Lf.mk ?_)
    all_goals (try rw [ht] at hc)
    all_goals (refine zb (VS.mk (LeD.of_eq (congrArg (D.int .i64) ?_))))
    ·rw [ziz fun q hm => by rw [hat] at hm; cases hm; exact fun e => hc e.2.2]
    ·rw [zvb (by omega) (by omega) hc]
end Go.Proofs.YthmdddenbfbefaaGreatDoor
namespace Go.Proofs.YthmdddenbfbefaaGreatDoor
open Go Go.Plat
set_option linter.unusedVariables false
set_option linter.unusedSimpArgs false
set_option maxRecDepth 100000
set_option maxHeartbeats 2000000
attribute [local irreducible] AWP zy ye zF zn yt z6 zE zW zY zp za zN yu zo zZ zh.kids zh.kind zh.n zh.name yp yq yj yl zt zu zw yo xb yk zG yH zd
def wt : List zbl → Nat
 | [] => 0
 | t :: l => 1 + t.text.length + wt l
def zed (p : St → zh × St) : Prop := ∀ s, yy (p s).1 + 2 * wt (p s).2.rest ≤ 1 + 2 * wt s.rest
theorem zkd (k n : Int) (t : List UInt8) : yy (.mk k n t []) = 1 + t.length := by rw [yy, vk, Nat.add_zero]
theorem zrA (k n : Int) (a : zh) : yy (.mk k n [] [a]) = 1 + yy a := by rw [yy, vk, vk]; simp
theorem zrB (k n : Int) (a b : zh) : yy (.mk k n [] [a, b]) = 1 + yy a + yy b := by rw [yy, vk, vk, vk]; simp; omega
theorem zca : yy noE = 1 := by unfold noE; rw [zkd]; rfl
theorem zjw (l : List (List UInt8)) (s : St) : wt (zr l s).2.rest ≤ wt s.rest ∧ (0 ≤ (zr l s).1 → wt (zr l s).2.rest + 1 ≤ wt s.rest) := by
 obtain ⟨r, e⟩ := s
 cases r with
 | nil => exact ⟨Nat.le_refl _, fun h => by simp [zr] at h⟩
 | cons t r =>
  simp only [zr]
  split
  ·split
   ·simp only [wt]; exact ⟨by omega, fun _ => by omega⟩
   ·exact ⟨Nat.le_refl _, fun h => by simp at h⟩
  ·exact ⟨Nat.le_refl _, fun h => by simp at h⟩
theorem zke {k : Nat} {sub : St → zh × St} (hs : zed sub) : ∀ (g : Nat) (e : zh) (s : St), yy (vw k sub g e s).1 + 2 * wt (vw k sub g e s).2.rest ≤ yy e + 2 * wt s.rest
 | 0, e, s => Nat.le_refl _
 | g + 1, e, s => by
  rw [vw]
  obtain ⟨h1, h1'⟩ := zjw (yO k) s
  split
  ·split
   ·dsimp only; omega
   ·rename_i hn
    have h3 := h1' (by omega)
    have := zke (k := k) hs g (.mk (za6 k (zr (yO k) s).1) 0 [] [e, (sub (zr (yO k) s).2).1]) (sub (zr (yO k) s).2).2
    rw [zrB] at this
    have h2 := hs (zr (yO k) s).2
    omega
  ·exact Nat.le_refl _
theorem zp2 {k : Nat} {sub : St → zh × St} (hs : zed sub) : zed (zb8 k sub) := fun s => by
 have h1 := hs s
 have h2 := zke (k := k) hs ((sub s).2.rest.length + 1) (sub s).1 (sub s).2
 unfold zb8; omega
theorem zjx {one : St → zh × St} (hs : zed one) : ∀ j, zed (atF one j)
 | 0 => hs
 | j + 1 => zp2 (zjx hs j)
theorem ztp : zed zc5 := fun s => by
 obtain ⟨r, e⟩ := s
 cases r with
 | nil => simp [zc5, qm, zca, wt]
 | cons t r =>
  simp only [zc5]
  repeat' split
  all_goals (try rw [qm]); simp only [zca, zkd, wt, List.length_nil]; omega
theorem zrC {one : St → zh × St} (hs : zed one) : zed (ww one) := fun s => by
 obtain ⟨h1, h1'⟩ := zjw yS s
 have h2 := hs (zr yS s).2
 have h3 := zjx hs 5 (zr yS s).2
 have h4 := (zjw qA (atF one 5 (zr yS s).2).2).1
 have h5 := ztp (zr yS s).2
 have h6 := zft (atF one 5 (zr yS s).2).1
 unfold ww
 repeat' split
 all_goals (try dsimp only); (try rw [qm]); (try simp only [zrA, zca]); omega
theorem zmF : ∀ f, zed (qu f)
 | 0 => fun s => by rw [qu, qm, zca]; exact Nat.le_refl _
 | f + 1 => fun s => by rw [qu]; exact zrC (zmF f) s
theorem zrD (L : List zbl) : yy (xQ L).1 ≤ 1 + 2 * wt L := by
 have h := zjx (zmF 7) 5 ⟨L, 0⟩
 have h : yy (qf L).1 + 2 * wt (qf L).2.rest ≤ 1 + 2 * wt L := h
 unfold xQ
 split
 ·dsimp only; omega
 ·dsimp only; rw [zca]; omega
end Go.Proofs.YthmdddenbfbefaaGreatDoor
namespace Go.Proofs.YthmdddenbfbefaaGreatDoor
open Go Go.Plat
set_option linter.unusedVariables false
set_option linter.unusedSimpArgs false
set_option maxRecDepth 100000
set_option maxHeartbeats 2000000
attribute [local irreducible] AWP zy ye zF zn yt z6 zE zW Lib.itoa zY zp za zN yu zo zZ yp yq yj yl zt zu zw xk xQ wx zL
def y6 (l : List zq) : D := .sl 2 (l.map yE) none
def zJ (b : Bld) : List D := match b.has with | true => b.shut.map y6 ++ [.sl 2 (b.cur.map yE) (some 5)] | false => b.shut.map y6
def bC (q : List zk) (b : Bld) : List D := [.sl 2 (q.map x9) none, .osl 13 1 b.items.length 0 b.items.length, .osl 2 2 b.syms.length 0 b.syms.length, .sl 1 (b.marks.map (.int .i64)) (some 3),
 .osl 1 4 (zJ b).length 0 (zJ b).length, .int .i64 b.shut.length, .nilsl, .nilsl, .nilsl, .int .i64 b.fe, .int .i64 b.fa]
def zda (b : Bld) : Ob := match b.has with | true => .spare b.cur.length | false => .dead
def bT (b : Bld) : List Ob := [.arr 13 (b.items.map xm), .arr 2 (b.syms.map yF), .spare b.marks.length, .arr 1 (zJ b), zda b]
def bO (q : List zk) (b : Bld) : List Ob := .cells (bC q b) :: bT b
theorem zgJ : za Tryz.prog vL (yh (fun _ : (D × D × D × D × D × D × D × D × D) × Int × Int × Int × Int × List Ob => True) (fun (_, _, _, e, line, _) => [.loc 0 0, .int .i64 e, .int .i64 line])
  (fun ((c0, c1, c2, c3, c4, c5, c6, c7, c8), fe, fa, _, _, X) => .cells [c0, c1, c2, c3, c4, c5, c6, c7, c8, .int .i64 fe, .int .i64 fa] :: X) (fun _ => .ff)
  fun ((c0, c1, c2, c3, c4, c5, c6, c7, c8), fe, fa, e, line, X) => .cells [c0, c1, c2, c3, c4, c5, c6, c7, c8, .int .i64 (if fe = 0 then e else fe), .int .i64 (if fe = 0 then line else fa)] :: X) := by
 refine zg zj Tryz.func63 rfl (by decide) ?_
 rintro ⟨⟨c0, c1, c2, c3, c4, c5, c6, c7, c8⟩, fe, fa, e, line, X⟩ _
 refine ⟨Nat.le_refl _, by simp [Tryz.f63], fun E hE => ?_⟩
 refine zf _ ?_
 (all_goals refine qgp ?_ <;> (repeat' first | exact trivial | intro hc | refine And.intro ?_ ?_) <;> refine Lf.mk ?_)
 ·exact xy rfl (by dsimp only; rw [if_pos hc, if_pos hc])
 ·exact xy rfl (by dsimp only; rw [if_neg hc, if_neg hc])
def arC (s : RB) (line : Int) : Ob := .cells [.loc 0 0, .sl 3 (s.rest.map wN) none, .int .i64 line]
def xJ (b : Bld) (s : RB) : Bld := { b with fe := s.fe, fa := s.fa }
def wY (q : List zk) (b : Bld) (s : RB) (line : Int) : List Ob := bO q (xJ b s) ++ [arC s line]
theorem zrE (b : Bld) : ∀ d ∈ zJ b, ClL 6 d.cells := by
 have h1 : ∀ d ∈ b.shut.map y6, ClL 6 d.cells := by
  intro d hd
  obtain ⟨l, _, rfl⟩ := List.mem_map.1 hd
  exact ClL.cons ClD.sl ClL.nil
 unfold zJ
 split
 ·intro d hd
  rcases List.mem_append.1 hd with hd | hd
  ·exact h1 d hd
  ·rw [List.mem_singleton] at hd
   subst hd
   exact ClL.cons (ClD.tok (by decide)) ClL.nil
 ·exact h1
theorem ke {n : Nat} (l : List zx) : ∀ d ∈ l.map xm, ClL n d.cells := by
 intro d hd
 obtain ⟨x, _, rfl⟩ := List.mem_map.1 hd
 exact .cons .int (.cons .int (.cons .int (.cons .int (.cons .int (.cons .int (.cons .int (.cons .bool (.cons .int (.cons .str (.cons .int (.cons .int (.cons .int .nil))))))))))))
theorem jy {n : Nat} (l : List zz) : ∀ d ∈ l.map yF, ClL n d.cells := by
 intro d hd
 obtain ⟨x, _, rfl⟩ := List.mem_map.1 hd
 exact .cons .str (.cons .int .nil)
theorem ClD.up {n m : Nat} {d : D} (h : ClD n d) (hn : n ≤ m) : ClD m d := fun f hf => h f fun k hk => hf k (by omega)
theorem ClO.up {n m : Nat} {o : Ob} (h : ClO n o) (hn : n ≤ m) : ClO m o := fun f hf => h f fun k hk => hf k (by omega)
theorem xc (q : List zk) (b : Bld) : ∀ o ∈ bO q b, ClO 6 o := by
 intro o ho
 simp only [bO, bT, List.mem_cons, List.not_mem_nil, or_false] at ho
 rcases ho with rfl | rfl | rfl | rfl | rfl | rfl
 ·exact .cells (.cons .sl (.cons (.osl (by decide)) (.cons (.osl (by decide)) (.cons (.tok (by decide)) (.cons (.osl (by decide)) (.cons .int (.cons .nilsl (.cons .nilsl (.cons .nilsl (.cons .int (.cons .int .nil)))))))))))
 ·exact .arr (ke _)
 ·exact .arr (jy _)
 ·exact .spare
 ·exact .arr (zrE _)
 ·unfold zda
  split
  ·exact .spare
  ·exact .dead
theorem zam (q : List zk) (b : Bld) (s : RB) (line : Int) : ∀ o ∈ wY q b s line, ClO 7 o := by
 intro o ho
 rcases List.mem_append.1 ho with ho | ho
 ·exact ClO.up (xc _ _ o ho) (by decide)
 ·rw [List.mem_singleton] at ho
  subst ho
  exact .cells (.cons (.loc (by decide)) (.cons .sl (.cons .int .nil)))
theorem wH {c : List UInt8} {t : yB} {r : List yB} {e a : Int} : zL c ⟨t :: r, e, a⟩ = if t.kind = 3 ∧ t.text = c then (true, ⟨r, e, a⟩) else (false, ⟨t :: r, e, a⟩) := by unfold zL; rfl
theorem take_nil {c : List UInt8} {e a : Int} : zL c ⟨[], e, a⟩ = (false, ⟨[], e, a⟩) := by unfold zL; rfl
theorem zn7 : za Tryz.prog zbq (yh (fun ((_, s, _, _) : Bld × RB × List UInt8 × List zk × Int) => s.rest.length ≤ 1000000000) (fun (_, _, c, _, _) => [.loc 6 0, .str c])
  (fun (b, s, _, q, line) => wY q b s line) (fun (_, s, c, _, _) => .bool (zL c s).1) fun (b, s, c, q, line) => wY q b (zL c s).2 line) := by
 refine zg zj Tryz.func127 rfl (by decide) ?_
 rintro ⟨b, ⟨r, e, a⟩, c, q, line⟩ hr
 have hr : r.length ≤ 1000000000 := hr
 refine ⟨Nat.le_refl _, by simp [Tryz.f127], fun E hE => ?_⟩
 cases r with
 | nil =>
  refine zf _ ?_
  (all_goals refine qgp ?_ <;> (repeat' first | exact trivial | intro hc | refine And.intro ?_ ?_) <;> refine Lf.mk ?_)
  exact zlQ (by rw [take_nil]) (by dsimp only; rw [take_nil]) (Nat.le_of_eq rfl)
 | cons t r =>
  have hr2 : r.length + 1 ≤ 1000000000 := hr
  refine zf _ ?_
  (all_goals refine qgp ?_ <;> (repeat' first | exact trivial | intro hc | refine And.intro ?_ ?_) <;> refine Lf.mk ?_)
  ·exact zvV (by rw [wH, if_pos ⟨by assumption, by assumption⟩]) (by dsimp only; rw [wH, if_pos ⟨by assumption, by assumption⟩]; rfl) (Nat.le_of_eq rfl)
  ·exact zlQ (by rw [wH, if_neg (fun h => hc h.2)]) (by dsimp only; rw [wH, if_neg (fun h => hc h.2)]) (Nat.le_of_eq rfl)
  ·exact zlQ (by rw [wH, if_neg (fun h => hc h.1)]) (by dsimp only; rw [wH, if_neg (fun h => hc h.1)]) (Nat.le_of_eq rfl)
theorem zoR (q : List zk) (b : Bld) (e line : Int) : Ob.cells [.sl 2 (q.map x9) none, .osl 13 1 b.items.length 0 b.items.length, .osl 2 2 b.syms.length 0 b.syms.length, .sl 1 (b.marks.map (.int .i64)) (some 3),
  .osl 1 4 (zJ b).length 0 (zJ b).length, .int .i64 b.shut.length, .nilsl, .nilsl, .nilsl, .int .i64 (if b.fe = 0 then e else b.fe), .int .i64 (if b.fe = 0 then line else b.fa)] :: bT b = bO q (yA b e line) := by
 unfold yA
 by_cases h : b.fe = 0
 ·rw [if_pos h, if_pos h, if_pos h]; rfl
 ·rw [if_neg h, if_neg h, if_neg h]; rfl
theorem yQ {av : List D} {L : List Ob} {KP : D → Prop} {KW : D → List Ob → Prop} (q : List zk) (b : Bld) (e line : Int) (X : List Ob) (hL : L = bO q b ++ X) (has : av = [.loc 0 0, .int .i64 e, .int .i64 line])
  (hK : KW .ff (bO q (yA b e line) ++ X)) : zn Tryz.prog vL av L KP KW := by
 subst has
 refine xL zgJ X ((.sl 2 (q.map x9) none, .osl 13 1 b.items.length 0 b.items.length, .osl 2 2 b.syms.length 0 b.syms.length, .sl 1 (b.marks.map (.int .i64)) (some 3),
  .osl 1 4 (zJ b).length 0 (zJ b).length, .int .i64 b.shut.length, .nilsl, .nilsl, .nilsl), b.fe, b.fa, e, line, bT b) trivial hL (LeL.refl _) rfl ?_ .ff (xc q b) ?_ ?_
 ·exact .cons (.loc (Nat.lt_of_lt_of_le (by decide : 0 < 6) (Nat.le_of_eq rfl))) (.cons .int (.cons .int .nil))
 ·dsimp only
  rw [zoR]
  exact xc q _
 ·dsimp only
  rw [zoR]
  exact hK
attribute [local irreducible] zh.kids zh.kind zh.n zh.name zda xb yy zJ
def kx (s : RB) (q : List zk) : Prop := wt (s.rest.map tk) ≤ 1048576 ∧ q.length ≤ 1000000000
theorem ziA : ∀ l : List zbl, l.length ≤ wt l
 | [] => Nat.le_refl _
 | t :: l => by have := ziA l; rw [wt]; simp; omega
theorem zoS : ∀ (l : List zbl) (k : Nat), wt (l.drop k) ≤ wt l
 | [], k => by simp
 | t :: l, 0 => Nat.le_refl _
 | t :: l, k + 1 => by have := zoS l k; rw [List.drop_succ_cons, wt]; omega
theorem zwb (l : List zbl) : 0 ≤ (xQ l).2.1 ∧ (xQ l).2.1 ≤ l.length := by
 unfold xQ
 have := zgH l
 split
 ·dsimp only; omega
 ·dsimp only; omega
theorem zvc (q : List zk) (b : Bld) (s : RB) (e line l2 : Int) (X : List Ob) : bO q (yA (xJ b s) e line) ++ (arC s l2 :: X) = wY q b (vM s e line) l2 ++ X := by
 unfold yA vM wY xJ
 by_cases h : s.fe = 0
 ·rw [if_pos h, if_pos h]; rfl
 ·rw [if_neg h, if_neg h]; rfl
theorem ky {av : List D} {L : List Ob} {KP : D → Prop} {KW : D → List Ob → Prop} (q : List zk) (b : Bld) (s : RB) (e line : Int) (X : List Ob) (hL : L = wY q b s line ++ X) (has : av = [.loc 0 0, .int .i64 e, .int .i64 line])
  (hK : KW .ff (wY q b (vM s e line) line ++ X)) : zn Tryz.prog vL av L KP KW :=
 yQ q (xJ b s) e line (arC s line :: X) hL has (by rw [zvc]; exact hK)
theorem zan {n : Nat} (v : zq) : ClD n (yE v) := .agg (.cons .str (.cons .int .nil))
theorem vO {n0 : Nat} {q : List zk} {b : Bld} {s s' : RB} {line : Int} {r d : D} {L : List Ob} (X : List Ob) (hL : L = wY q b s' line ++ X) (hs : s' = s) (hr : r = d) (hn : n0 ≤ 7) (hd : ClD 7 d) : zE n0 r d L (wY q b s line) := by
 subst hs; subst hr
 exact kq (wY q b s' line) X hL hn hd (zam _ _ _ _)
theorem zn8 : za Tryz.prog za5 (yh (fun ((_, s, q, _) : Bld × RB × List zk × Int) => kx s q) (fun _ => [.loc 6 0])
  (fun (b, s, q, line) => wY q b s line) (fun (_, s, q, line) => yE (xV q line s).1) fun (b, s, q, line) => wY q b (xV q line s).2 line) := by
 refine zg zj Tryz.func175 rfl (by decide) ?_
 rintro ⟨b, s, q, line⟩ ⟨hw, hq⟩
 refine ⟨Nat.le_refl _, by simp [Tryz.f175], fun E hE => ?_⟩
 have hl : s.rest.length ≤ 1048576 := by have := ziA (s.rest.map tk); rw [List.length_map] at this; omega
 have hn := zwb (s.rest.map tk)
 rw [List.length_map] at hn
 have hnodes := zrD (s.rest.map tk)
 have hV : xV q line s = if (xQ (s.rest.map tk)).2.2 = 0 then
  ((xk q (xQ (s.rest.map tk)).1).1, if (xk q (xQ (s.rest.map tk)).1).2 = 0 then ⟨s.rest.drop (xQ (s.rest.map tk)).2.1.toNat, s.fe, s.fa⟩
    else vM ⟨s.rest.drop (xQ (s.rest.map tk)).2.1.toNat, s.fe, s.fa⟩ (xk q (xQ (s.rest.map tk)).1).2 line)
  else (noV, vM s (xQ (s.rest.map tk)).2.2 line) := rfl
 refine zf _ ?_
 (all_goals refine qgp (Lf.mk ?_))
 refine ze zn5 (s.rest.map tk) (by show (s.rest.map tk).length ≤ _; rw [List.length_map]; omega) (VS.mk (LeL.of_eq (by rw [zto]))) ?_
 generalize xQ (s.rest.map tk) = P at *
 obtain ⟨e, n, err⟩ := P
 dsimp only at hV hn hnodes ⊢
 (all_goals refine qgp ?_ <;> (repeat' first | exact trivial | intro hc | refine And.intro ?_ ?_) <;> refine Lf.mk ?_)
 ·rw [if_neg hc] at hV
  refine ky q b s err line [_, _] rfl rfl ?_
  (all_goals refine qgp (Lf.mk ?_))
  rw [hV]
  exact vO [_, _] rfl rfl rfl (Nat.le_of_eq rfl) (zan _)
 ·rw [if_pos hc] at hV
  refine ze (ziu q hq (yy e)) e ⟨Nat.le_refl _, by omega⟩ (VS.mk (LeL.of_eq rfl)) ?_
  generalize xk q e = V at *
  obtain ⟨⟨vn, vi⟩, ve⟩ := V
  dsimp only at hV ⊢
  (all_goals refine qgp ?_ <;> (repeat' first | exact trivial | intro hc | refine And.intro ?_ ?_) <;> refine Lf.mk ?_)
  ·rw [if_neg hc] at hV
   refine ky q b ⟨s.rest.drop n.toNat, s.fe, s.fa⟩ ve line [_, _, _] rfl rfl ?_
   (all_goals refine qgp (Lf.mk ?_))
   rw [hV]
   exact vO [_, _, _] rfl rfl rfl (Nat.le_of_eq rfl) (zan _)
  ·rw [if_pos hc] at hV
   rw [hV]
   exact vO (s' := ⟨s.rest.drop n.toNat, s.fe, s.fa⟩) [_, _, _] rfl rfl rfl (Nat.le_of_eq rfl) (zan _)
theorem zcP {av : List D} {L : List Ob} {KP : D → Prop} {KW : D → List Ob → Prop} (q : List zk) (b : Bld) (s : RB) (c : List UInt8) (line : Int) (X : List Ob) (hl : s.rest.length ≤ 1000000000) (hL : L = wY q b s line ++ X) (has : av = [.loc 6 0, .str c])
  (hK : KW (.bool (zL c s).1) (wY q b (zL c s).2 line ++ X)) : zn Tryz.prog zbq av L KP KW := by
 subst has
 exact xL zn7 X (b, s, c, q, line) hl hL (LeL.refl _) rfl (.cons (.loc (Nat.lt_of_lt_of_le (by decide : 6 < 7) (Nat.le_of_eq rfl))) (.cons .str .nil)) .bool (zam _ _ _ _) (zam _ _ _ _) hK
theorem zbB {av : List D} {L : List Ob} {KP : D → Prop} {KW : D → List Ob → Prop} (q : List zk) (b : Bld) (s : RB) (line : Int) (X : List Ob) (hl : kx s q) (hL : L = wY q b s line ++ X) (has : av = [.loc 6 0])
  (hK : KW (yE (xV q line s).1) (wY q b (xV q line s).2 line ++ X)) : zn Tryz.prog za5 av L KP KW := by
 subst has
 exact xL zn8 X (b, s, q, line) hl hL (LeL.refl _) rfl (.cons (.loc (Nat.lt_of_lt_of_le (by decide : 6 < 7) (Nat.le_of_eq rfl))) .nil) (zan _) (zam _ _ _ _) (zam _ _ _ _) hK
theorem zee {c : List UInt8} {s : RB} (h : (zL c s).1 = false) : (zL c s).2 = s := by
 obtain ⟨r, e, a⟩ := s
 cases r with
 | nil => rw [take_nil]
 | cons t r =>
  rw [wH] at h ⊢
  split at h
  ·cases h
  ·rw [if_neg (by assumption)]
theorem zhl {c : List UInt8} {s : RB} {q : List zk} (h : kx s q) : kx (zL c s).2 q := by
 obtain ⟨r, e, a⟩ := s
 cases r with
 | nil => rw [take_nil]; exact h
 | cons t r =>
  rw [wH]
  split
  ·refine ⟨?_, h.2⟩
   have := h.1
   rw [List.map_cons, wt] at this
   show wt (r.map tk) ≤ _
   omega
  ·exact h
theorem ztq (c : List UInt8) (s : RB) : ∀ t ∈ (zL c s).2.rest, t ∈ s.rest := by
 obtain ⟨r, e, a⟩ := s
 cases r with
 | nil => rw [take_nil]; exact fun _ h => h
 | cons t r =>
  rw [wH]
  split
  ·exact fun _ h => List.mem_cons_of_mem _ h
  ·exact fun _ h => h
theorem zgh {s : RB} {q : List zk} (h : kx s q) : s.rest.length ≤ 1048576 := by have := h.1; have := ziA (s.rest.map tk); rw [List.length_map] at this; omega
theorem zwc {s : RB} (h : (zL [35] s).1 = false) (h' : (zL [64] s).1 = false) (h2 : (zL [61] s).1 = false) : qI s = ([], s) := by
 unfold qI
 rw [if_neg (by rw [h]; decide), if_neg (by rw [h']; decide), if_neg (by rw [h2]; decide)]
theorem kA {n : Nat} (o : AOp) : ClD n (vX o) := .agg (.cons .str (.cons .int (.cons .str (.cons .int .nil))))
theorem zwd {s : RB} (h : (zL [35] s).1 = true) : qI s = ([35], (zL [35] s).2) := by unfold qI; rw [if_pos h]
theorem zwe {s : RB} (h : (zL [35] s).1 = false) (h1 : (zL [64] s).1 = true) : qI s = ([64], (zL [64] s).2) := by
 unfold qI; rw [if_neg (by rw [h]; decide), if_pos h1]
theorem zwf {s : RB} (h : (zL [35] s).1 = false) (h1 : (zL [64] s).1 = false) (h2 : (zL [61] s).1 = true) : qI s = ([61], (zL [61] s).2) := by
 unfold qI; rw [if_neg (by rw [h]; decide), if_neg (by rw [h1]; decide), if_pos h2]
theorem zmG {q : List zk} {line : Int} {sg : List UInt8} {s : RB} (h : ¬ (sg = [] ∨ sg = [64])) : zak q line sg s = (⟨sg, 0, (xV q line s).1⟩, (xV q line s).2) := by
 unfold zak; rw [if_neg fun e => h e.1, if_neg fun e => h (.inr e)]
theorem zmH {q : List zk} {line : Int} {sg : List UInt8} {t : yB} {r : List yB} {e a : Int} (h : sg = [] ∨ sg = [64]) (h1 : 0 ≤ wx t) : zak q line sg ⟨t :: r, e, a⟩ = (⟨if sg = [] then [114] else sg, wx t, noV⟩, ⟨r, e, a⟩) := by
 unfold zak; rw [if_pos ⟨h, h1⟩]; rfl
theorem zoT {q : List zk} {line : Int} {s : RB} (h : zjt s.rest < 0) : zak q line [64] s = (⟨[64], 0, noV⟩, vM s 2 line) := by
 unfold zak; rw [if_neg fun e => by omega, if_pos rfl]
theorem zoU {q : List zk} {line : Int} {s : RB} (h : zjt s.rest < 0) : zak q line [] s = (⟨[], 0, (xV q line s).1⟩, (xV q line s).2) := by
 unfold zak; rw [if_neg fun e => by omega, if_neg (by decide)]
theorem zrF : za Tryz.prog zb5 (yh (fun ((_, s, q, _) : Bld × RB × List zk × Int) => kx s q ∧ ∀ t ∈ s.rest, t.text.length ≤ 1000000000) (fun _ => [.loc 6 0])
  (fun (b, s, q, line) => wY q b s line) (fun (_, s, q, line) => vX (yV q line s).1) fun (b, s, q, line) => wY q b (yV q line s).2 line) := by
 refine zg zj Tryz.func126 rfl (by decide) ?_
 rintro ⟨b, s, q, line⟩ ⟨hv, htx⟩
 have hv : kx s q := hv
 have htx : ∀ t ∈ s.rest, t.text.length ≤ 1000000000 := htx
 refine ⟨Nat.le_refl _, by simp [Tryz.f126], fun E hE => ?_⟩
 have hl := zgh hv
 refine zf _ ?_
 (all_goals refine qgp (Lf.mk ?_))
 refine zdV (zf _ ?_)
 (all_goals refine qgp ?_ <;> (repeat' first | exact trivial | intro hc | refine And.intro ?_ ?_) <;> refine Lf.mk ?_)
 refine zcP q b s [35] line [_, _] (by omega) rfl rfl ?_
 cases h35 : (zL [35] s).1 with
 | true =>
  have hone : yV q line s = (⟨[35], 0, (xV q line (zL [35] s).2).1⟩, (xV q line (zL [35] s).2).2) := by unfold yV; rw [zwd h35]; exact zmG (sg := [35]) (by decide)
  (all_goals refine qgp ?_ <;> (repeat' first | exact trivial | intro hc | refine And.intro ?_ ?_) <;> refine Lf.mk ?_)
  (any_goals (first | (exfalso; refine Bool.false_ne_true ?_; assumption) | (exfalso; refine Bool.false_ne_true (Eq.symm ?_); assumption) | (exfalso; refine absurd trivial ?_; assumption) | skip))
  all_goals first
   | (exfalso; exact absurd (by assumption : ([35] : List UInt8) = [64]) (by decide))
   | (exfalso; exact absurd (by assumption : ([35] : List UInt8) = []) (by decide))
   | skip
  all_goals (refine zbB q b (zL [35] s).2 line [_, _] (zhl hv) rfl rfl ?_)
  (all_goals refine qgp (Lf.mk ?_))
  all_goals (dsimp only; rw [hone])
  all_goals exact vO [_, _] rfl rfl rfl (Nat.le_of_eq rfl) (kA _)
 | false =>
  rw [zee h35]
  (all_goals refine qgp ?_ <;> (repeat' first | exact trivial | intro hc | refine And.intro ?_ ?_) <;> refine Lf.mk ?_)
  (any_goals (first | (exfalso; refine Bool.false_ne_true ?_; assumption) | (exfalso; refine Bool.false_ne_true (Eq.symm ?_); assumption) | (exfalso; refine absurd trivial ?_; assumption) | skip))
  refine zb1 (zf _ ?_)
  (all_goals refine qgp ?_ <;> (repeat' first | exact trivial | intro hc | refine And.intro ?_ ?_) <;> refine Lf.mk ?_)
  refine zcP q b s [64] line [_, _] (by omega) rfl rfl ?_
  cases h64 : (zL [64] s).1 with
  | true =>
   have hone : yV q line s = zak q line [64] (zL [64] s).2 := by unfold yV; rw [zwe h35 h64]
   have hsub : ∀ t ∈ (zL [64] s).2.rest, t.text.length ≤ 1000000000 := fun t ht => htx t (ztq _ _ t ht)
   have hl2 := zgh (zhl (c := [64]) hv)
   generalize (zL [64] s).2 = s' at *
   obtain ⟨r, e, a⟩ := s'
   cases r with
   | nil =>
    have hone : yV q line s = (⟨[64], 0, noV⟩, vM ⟨[], e, a⟩ 2 line) := by rw [hone]; exact zoT (show zjt [] < 0 by decide)
    (all_goals refine qgp ?_ <;> (repeat' first | exact trivial | intro hc | refine And.intro ?_ ?_) <;> refine Lf.mk ?_)
    (any_goals (first | (exfalso; refine Bool.false_ne_true ?_; assumption) | (exfalso; refine Bool.false_ne_true (Eq.symm ?_); assumption) | (exfalso; refine absurd trivial ?_; assumption) | skip))
    all_goals first
     | (exfalso; exact absurd (by assumption : ¬ ([64] : List UInt8) = [64]) (by decide))
     | skip
    refine ky q b ⟨[], e, a⟩ 2 line [_, _] rfl rfl ?_
    (all_goals refine qgp (Lf.mk ?_))
    dsimp only
    rw [hone]
    exact vO [_, _] rfl rfl rfl (Nat.le_of_eq rfl) (kA _)
   | cons t r =>
    have hl2 : r.length + 1 ≤ 1048576 := hl2
    (all_goals refine qgp ?_ <;> (repeat' first | exact trivial | intro hc | refine And.intro ?_ ?_) <;> refine Lf.mk ?_)
    (any_goals (first | (exfalso; refine Bool.false_ne_true ?_; assumption) | (exfalso; refine Bool.false_ne_true (Eq.symm ?_); assumption) | (exfalso; refine absurd trivial ?_; assumption) | skip))
    all_goals first
     | (exfalso; exact absurd trivial (by assumption))
     | (exfalso; exact absurd (by assumption : ([64] : List UInt8) = []) (by decide))
     | (exfalso; exact absurd (by assumption : ¬ ([64] : List UInt8) = [64]) (by decide))
     | skip
    refine ze zal t (hsub t List.mem_cons_self) (VS.mk (LeL.of_eq rfl)) ?_
    (all_goals refine qgp ?_ <;> (repeat' first | exact trivial | intro hc | refine And.intro ?_ ?_) <;> refine Lf.mk ?_)
    all_goals first
     | (exfalso; exact absurd trivial (by assumption))
     | (exfalso; exact absurd (by assumption : ([64] : List UInt8) = []) (by decide))
     | (exfalso; exact absurd (by assumption : ¬ ([64] : List UInt8) = [64]) (by decide))
     | skip
    ·have hone : yV q line s = (⟨[64], wx t, noV⟩, ⟨r, e, a⟩) := by rw [hone]; exact zmH (.inr rfl) (by assumption)
     dsimp only
     rw [hone]
     exact vO (s' := ⟨r, e, a⟩) [_, _] rfl rfl rfl (Nat.le_of_eq rfl) (kA _)
    ·have hone : yV q line s = (⟨[64], 0, noV⟩, vM ⟨t :: r, e, a⟩ 2 line) := by rw [hone]; exact zoT (show wx t < 0 by omega)
     refine ky q b ⟨t :: r, e, a⟩ 2 line [_, _] rfl rfl ?_
     (all_goals refine qgp (Lf.mk ?_))
     dsimp only
     rw [hone]
     exact vO [_, _] rfl rfl rfl (Nat.le_of_eq rfl) (kA _)
  | false =>
   rw [zee h64]
   (all_goals refine qgp ?_ <;> (repeat' first | exact trivial | intro hc | refine And.intro ?_ ?_) <;> refine Lf.mk ?_)
   (any_goals (first | (exfalso; refine Bool.false_ne_true ?_; assumption) | (exfalso; refine Bool.false_ne_true (Eq.symm ?_); assumption) | (exfalso; refine absurd trivial ?_; assumption) | skip))
   refine zb1 (zf _ ?_)
   (all_goals refine qgp ?_ <;> (repeat' first | exact trivial | intro hc | refine And.intro ?_ ?_) <;> refine Lf.mk ?_)
   refine zcP q b s [61] line [_, _] (by omega) rfl rfl ?_
   cases h61 : (zL [61] s).1 with
   | true =>
    have hone : yV q line s = (⟨[61], 0, (xV q line (zL [61] s).2).1⟩, (xV q line (zL [61] s).2).2) := by unfold yV; rw [zwf h35 h64 h61]; exact zmG (sg := [61]) (by decide)
    (all_goals refine qgp ?_ <;> (repeat' first | exact trivial | intro hc | refine And.intro ?_ ?_) <;> refine Lf.mk ?_)
    (any_goals (first | (exfalso; refine Bool.false_ne_true ?_; assumption) | (exfalso; refine Bool.false_ne_true (Eq.symm ?_); assumption) | (exfalso; refine absurd trivial ?_; assumption) | skip))
    all_goals first
     | (exfalso; exact absurd (by assumption : ([61] : List UInt8) = [64]) (by decide))
     | (exfalso; exact absurd (by assumption : ([61] : List UInt8) = []) (by decide))
     | skip
    all_goals (refine zbB q b (zL [61] s).2 line [_, _] (zhl hv) rfl rfl ?_)
    (all_goals refine qgp (Lf.mk ?_))
    all_goals (dsimp only; rw [hone])
    all_goals exact vO [_, _] rfl rfl rfl (Nat.le_of_eq rfl) (kA _)
   | false =>
    have hone : yV q line s = zak q line [] s := by unfold yV; rw [zwc h35 h64 h61]
    rw [zee h61]
    clear h35 h64 h61
    obtain ⟨r, e, a⟩ := s
    cases r with
    | nil =>
     have hone : yV q line ⟨[], e, a⟩ = (⟨[], 0, (xV q line ⟨[], e, a⟩).1⟩, (xV q line ⟨[], e, a⟩).2) := by rw [hone]; exact zoU (show zjt [] < 0 by decide)
     (all_goals refine qgp ?_ <;> (repeat' first | exact trivial | intro hc | refine And.intro ?_ ?_) <;> refine Lf.mk ?_)
     (any_goals (first | (exfalso; refine Bool.false_ne_true ?_; assumption) | (exfalso; refine Bool.false_ne_true (Eq.symm ?_); assumption) | (exfalso; refine absurd trivial ?_; assumption) | skip))
     refine zb1 (zf _ ?_)
     (all_goals refine qgp ?_ <;> (repeat' first | exact trivial | intro hc | refine And.intro ?_ ?_) <;> refine Lf.mk ?_)
     all_goals first
      | (exfalso; exact absurd trivial (by assumption))
      | (exfalso; exact absurd (by assumption : ([] : List UInt8) = [64]) (by decide))
      | skip
     refine zbB q b ⟨[], e, a⟩ line [_, _] hv rfl rfl ?_
     (all_goals refine qgp (Lf.mk ?_))
     dsimp only
     rw [hone]
     exact vO [_, _] rfl rfl rfl (Nat.le_of_eq rfl) (kA _)
    | cons t r =>
     have hl2 : r.length + 1 ≤ 1048576 := hl
     (all_goals refine qgp ?_ <;> (repeat' first | exact trivial | intro hc | refine And.intro ?_ ?_) <;> refine Lf.mk ?_)
     (any_goals (first | (exfalso; refine Bool.false_ne_true ?_; assumption) | (exfalso; refine Bool.false_ne_true (Eq.symm ?_); assumption) | (exfalso; refine absurd trivial ?_; assumption) | skip))
     refine zb1 (zf _ ?_)
     (all_goals refine qgp ?_ <;> (repeat' first | exact trivial | intro hc | refine And.intro ?_ ?_) <;> refine Lf.mk ?_)
     all_goals first
      | (exfalso; exact absurd trivial (by assumption))
      | (exfalso; exact absurd (by assumption : ([] : List UInt8) = [64]) (by decide))
      | (exfalso; exact absurd (by assumption : ¬ ([] : List UInt8) = []) (by decide))
      | skip
     refine ze zal t (htx t List.mem_cons_self) (VS.mk (LeL.of_eq rfl)) ?_
     (all_goals refine qgp ?_ <;> (repeat' first | exact trivial | intro hc | refine And.intro ?_ ?_) <;> refine Lf.mk ?_)
     all_goals first
      | (exfalso; exact absurd trivial (by assumption))
      | (exfalso; exact absurd (by assumption : ([] : List UInt8) = [64]) (by decide))
      | (exfalso; exact absurd (by assumption : ¬ ([] : List UInt8) = []) (by decide))
      | skip
     ·have hone : yV q line ⟨t :: r, e, a⟩ = (⟨[114], wx t, noV⟩, ⟨r, e, a⟩) := by rw [hone]; exact zmH (.inl rfl) (by assumption)
      dsimp only
      rw [hone]
      exact vO (s' := ⟨r, e, a⟩) [_, _] rfl rfl rfl (Nat.le_of_eq rfl) (kA _)
     ·have hone : yV q line ⟨t :: r, e, a⟩ = (⟨[], 0, (xV q line ⟨t :: r, e, a⟩).1⟩, (xV q line ⟨t :: r, e, a⟩).2) := by rw [hone]; exact zoU (show wx t < 0 by omega)
      refine zbB q b ⟨t :: r, e, a⟩ line [_, _] hv rfl rfl ?_
      (all_goals refine qgp (Lf.mk ?_))
      dsimp only
      rw [hone]
      exact vO [_, _] rfl rfl rfl (Nat.le_of_eq rfl) (kA _)
def x5 (s s' : RB) : Prop := s'.rest.length ≤ s.rest.length ∧ wt (s'.rest.map tk) ≤ wt (s.rest.map tk) ∧ ∀ t ∈ s'.rest, t ∈ s.rest
theorem x5.refl (s : RB) : x5 s s := ⟨Nat.le_refl _, Nat.le_refl _, fun _ h => h⟩
theorem x5.trans {a b c : RB} (h : x5 a b) (k : x5 b c) : x5 a c := ⟨Nat.le_trans k.1 h.1, Nat.le_trans k.2.1 h.2.1, fun t ht => h.2.2 t (k.2.2 t ht)⟩
theorem x5.fail {s s' : RB} (h : x5 s s') (e line : Int) : x5 s (vM s' e line) := by
 unfold vM
 split
 ·exact h
 ·exact h
theorem x5.drop {s : RB} (k : Nat) (e a : Int) : x5 s ⟨s.rest.drop k, e, a⟩ :=
 ⟨by simp, by show wt ((s.rest.drop k).map tk) ≤ _; rw [List.map_drop]; exact zoS _ _, fun t ht => List.mem_of_mem_drop ht⟩
theorem jz (c : List UInt8) (s : RB) : x5 s (zL c s).2 := by
 obtain ⟨r, e, a⟩ := s
 cases r with
 | nil => rw [take_nil]; exact .refl _
 | cons t r =>
  rw [wH]
  split
  ·exact x5.drop (s := ⟨t :: r, e, a⟩) 1 e a
  ·exact .refl _
theorem zp3 (q : List zk) (line : Int) (s : RB) : x5 s (xV q line s).2 := by
 unfold xV
 split
 ·dsimp only
  split
  ·exact .drop _ _ _
  ·exact (x5.drop _ _ _).fail _ _
 ·exact (x5.refl s).fail _ _
theorem zrG (s : RB) : x5 s (qI s).2 := by
 unfold qI
 split
 ·exact jz _ _
 split
 ·exact jz _ _
 split
 ·exact jz _ _
 ·exact .refl _
theorem zmI (q : List zk) (line : Int) (s : RB) : x5 s (yV q line s).2 := by
 unfold yV zak
 refine (zrG s).trans ?_
 split
 ·exact .drop _ _ _
 split
 ·exact (x5.refl _).fail _ _
 ·exact zp3 _ _ _
theorem zp4 (line : Int) (s : RB) : x5 s (xM line s) := by
 unfold xM
 split
 ·exact (jz _ _).fail _ _
 ·exact jz _ _
theorem ziB (line : Int) (s : RB) (h : (xM line s).fe = 0) : (xM line s).rest.length + 1 ≤ s.rest.length := by
 unfold xM at h ⊢
 split
 ·rename_i hc
  rw [if_pos hc] at h
  exfalso
  unfold vM at h
  split at h
  ·exact absurd (show (2 : Int) = 0 from h) (by decide)
  ·contradiction
 ·rename_i hc
  have ht : (zL [44] s).1 = true := by
   cases h1 : (zL [44] s).1 with
   | true => rfl
   | false => exact absurd (.inl h1) hc
  obtain ⟨r, e, a⟩ := s
  cases r with
  | nil => rw [take_nil] at ht; cases ht
  | cons t r =>
   rw [wH] at ht ⊢
   split at ht
   ·rw [if_pos (by assumption)]; exact Nat.le_refl _
   ·cases ht
theorem x5.val {s s' : RB} {q : List zk} (h : x5 s s') (hv : kx s q) : kx s' q := ⟨Nat.le_trans h.2.1 hv.1, hv.2⟩
theorem zhm {q : List zk} {line : Int} {out : List AOp} {s : RB} (h : s.rest = [] ∨ s.fe ≠ 0) : ∀ f, jg q line f out s = (out, s)
 | 0 => rfl
 | f + 1 => by rw [jg, if_pos h]
theorem zrH {q : List zk} {line : Int} {out : List AOp} {s : RB} (f : Nat) (h : ¬ (s.rest = [] ∨ s.fe ≠ 0)) : jg q line (f + 1) out s = if (yV q line s).2.rest = [] then (out ++ [(yV q line s).1], (yV q line s).2)
  else jg q line f (out ++ [(yV q line s).1]) (xM line (yV q line s).2) := by rw [jg, if_neg h]
theorem zrI (line : Int) (s : RB) : xM line s = if (zL [44] s).1 = false ∨ (zL [44] s).2.rest = [] then vM (zL [44] s).2 2 line else (zL [44] s).2 := rfl
attribute [local irreducible] yV xM jg
theorem ztr {av : List D} {L : List Ob} {KP : D → Prop} {KW : D → List Ob → Prop} (q : List zk) (b : Bld) (s : RB) (line : Int) (X : List Ob) (hl : kx s q) (ht : ∀ t ∈ s.rest, t.text.length ≤ 1000000000) (hL : L = wY q b s line ++ X) (has : av = [.loc 6 0])
  (hK : KW (vX (yV q line s).1) (wY q b (yV q line s).2 line ++ X)) : zn Tryz.prog zb5 av L KP KW := by
 subst has
 exact xL zrF X (b, s, q, line) ⟨hl, ht⟩ hL (LeL.refl _) rfl (.cons (.loc (Nat.lt_of_lt_of_le (by decide : 6 < 7) (Nat.le_of_eq rfl))) .nil) (kA _) (zam _ _ _ _) (zam _ _ _ _) hK
theorem zrJ : za Tryz.prog zb4 (yh (fun ((_, s, q, _) : Bld × RB × List zk × Int) => kx s q ∧ ∀ t ∈ s.rest, t.text.length ≤ 1000000000) (fun _ => [.loc 6 0])
  (fun (b, s, q, line) => wY q b s line) (fun (_, s, q, line) => .sl 4 ((xf q line s).1.map vX) none) fun (b, s, q, line) => wY q b (xf q line s).2 line) := by
 refine zg zj Tryz.func64 rfl (by decide) ?_
 rintro ⟨b, s, q, line⟩ ⟨hv, htx⟩
 have hv : kx s q := hv
 have htx : ∀ t ∈ s.rest, t.text.length ≤ 1000000000 := htx
 refine ⟨Nat.le_refl _, by simp [Tryz.f64], fun E hE => ?_⟩
 have hl0 := zgh hv
 have hE7 : E.L.length = 7 := by rw [hE]; rfl
 generalize hT : xf q line s = T
 have hT0 : jg q line (s.rest.length + 1) [] s = T := hT
 refine zf _ ?_
 (all_goals refine qgp (Lf.mk ?_))
 refine wW (qX 3 4 rfl) ?_
 refine xg (α := List AOp × RB × Nat) (fun p => x5 s p.2.1 ∧ (p.2.1.fe = 0 → p.2.1.rest.length + 1 ≤ p.2.2) ∧ jg q line p.2.2 p.1 p.2.1 = T ∧ p.1.length + p.2.1.rest.length ≤ s.rest.length + 1 ∧ (p.2.1.fe = 0 → p.1.length + p.2.1.rest.length ≤ s.rest.length))
  (fun p => [(0, .loc 6 0), (3, .sl 4 (p.1.map vX) (some 7))]) (fun p => wY q b p.2.1 line ++ [.spare p.1.length]) (fun p => p.2.1.rest.length + if p.2.1.fe = 0 then 1 else 0) (fun _ => by rw [hE7]; exact Nat.le_succ 7) ([], s, s.rest.length + 1)
  ⟨.refl _, fun _ => Nat.le_refl _, hT0, by simp, fun _ => by simp⟩ ?_ ?_
 ·exact yC rfl ⟨rfl, rfl, trivial⟩
 rintro ⟨out, s1, f⟩ ⟨i1, i2, i3, i4, i5⟩
 dsimp only at i1 i2 i3 i4 i5 ⊢
 have hv1 := i1.val hv
 have hl1 := zgh hv1
 refine zf _ ?_
 (all_goals refine qgp ?_ <;> (repeat' first | exact trivial | intro hc | refine And.intro ?_ ?_) <;> refine Lf.mk ?_)
 ·have hfe : s1.fe = 0 := hc
  have hne : s1.rest ≠ [] := fun h => by simp only [h, List.length_nil] at *; omega
  have hf := i2 hfe
  have hol := i5 hfe
  obtain ⟨f, rfl⟩ : ∃ g, f = g + 1 := ⟨f - 1, by omega⟩
  rw [zrH f (fun e => e.elim hne (fun e => e hfe))] at i3
  have hone := zmI q line s1
  refine ztr q b s1 line [_] hv1 (fun t ht => htx t (i1.2.2 t ht)) rfl rfl ?_
  generalize yV q line s1 = W at *
  obtain ⟨o, s2⟩ := W
  dsimp only at i3 hone ⊢
  have hl2 := hone.1
  (all_goals refine qgk (Lf.mk ?_))
  refine wM ((out ++ [o]).map vX) (by rw [List.map_append]; rfl) ?_
  rw [List.length_map]
  (all_goals refine qgp ?_ <;> (repeat' first | exact trivial | intro hc | refine And.intro ?_ ?_) <;> refine Lf.mk ?_)
  ·have hre : s2.rest = [] := List.eq_nil_of_length_eq_zero (by omega)
   rw [if_pos hre] at i3
   refine vI (LeD.strip _ _ _) ?_ (Nat.le_of_eq rfl)
   rw [hT, ← i3]
   exact vO [_] rfl rfl rfl (Nat.le_of_eq rfl) .sl
  ·have hre : ¬ s2.rest = [] := fun h => by rw [h] at hc; exact hc rfl
   rw [if_neg hre] at i3
   have hl3 := jz [44] s2
   have hcl := zp4 line s2
   have hce := ziB line s2
   have hcd : xM line s2 = if (zL [44] s2).1 = false ∨ (zL [44] s2).2.rest = [] then vM (zL [44] s2).2 2 line else (zL [44] s2).2 := zrI line s2
   refine zcP q b s2 [44] line [_] (by omega) rfl rfl ?_
   generalize zL [44] s2 = Y at *
   obtain ⟨y, s3⟩ := Y
   dsimp only at hcd hl3 ⊢
   have hl3 := hl3.1
   have hcl1 := hcl.1
   have hI : x5 s (xM line s2) ∧ ((xM line s2).fe = 0 → (xM line s2).rest.length + 1 ≤ f) ∧ jg q line f (out ++ [o]) (xM line s2) = T ∧ (out ++ [o]).length + (xM line s2).rest.length ≤ s.rest.length + 1 ∧
     ((xM line s2).fe = 0 → (out ++ [o]).length + (xM line s2).rest.length ≤ s.rest.length) := by
    refine ⟨i1.trans (hone.trans hcl), fun h => by have := hce h; omega, i3, ?_, fun h => ?_⟩
    ·rw [List.length_append, List.length_singleton]; omega
    ·have := hce h; rw [List.length_append, List.length_singleton]; omega
   have hmu : (xM line s2).rest.length + (if (xM line s2).fe = 0 then 1 else 0) < s1.rest.length + (if s1.fe = 0 then 1 else 0) := by
    rw [if_pos hfe]
    by_cases h : (xM line s2).fe = 0
    ·have := hce h; rw [if_pos h]; omega
    ·rw [if_neg h]; omega
   generalize xM line s2 = s4 at *
   (all_goals refine qgp ?_ <;> (repeat' first | exact trivial | intro hc | refine And.intro ?_ ?_) <;> refine Lf.mk ?_)
   ·rw [if_pos (.inl hc)] at hcd
    refine ky q b s3 2 line [_] rfl rfl ?_
    rw [← hcd]
    (all_goals refine qgp (Lf.mk ?_))
    exact y5 (out ++ [o], s4, f) hI hmu rfl ⟨rfl, rfl, trivial⟩
   ·rw [if_pos (.inr (List.eq_nil_of_length_eq_zero (by omega)))] at hcd
    refine ky q b s3 2 line [_] rfl rfl ?_
    rw [← hcd]
    (all_goals refine qgp (Lf.mk ?_))
    exact y5 (out ++ [o], s4, f) hI hmu rfl ⟨rfl, rfl, trivial⟩
   ·have hy : y = true := by assumption
    rw [if_neg (fun e => e.elim (fun h => by rw [hy] at h; cases h) (fun h => by rw [h] at hc; exact hc rfl))] at hcd
    rw [← hcd]
    exact y5 (out ++ [o], s4, f) hI hmu rfl ⟨rfl, rfl, trivial⟩
 ·have hfe : s1.fe ≠ 0 := hc
  rw [zhm (.inr hfe)] at i3
  refine vI (LeD.strip _ _ _) ?_ (Nat.le_of_eq rfl)
  rw [hT, ← i3]
  exact vO [_] rfl rfl rfl (Nat.le_of_eq rfl) .sl
 ·have hre : s1.rest = [] := List.eq_nil_of_length_eq_zero (by omega)
  rw [zhm (.inl hre)] at i3
  refine vI (LeD.strip _ _ _) ?_ (Nat.le_of_eq rfl)
  rw [hT, ← i3]
  exact vO [_] rfl rfl rfl (Nat.le_of_eq rfl) .sl
end Go.Proofs.YthmdddenbfbefaaGreatDoor
namespace Go.Proofs.YthmdddenbfbefaaGreatDoor
open Go Go.Plat
set_option linter.unusedVariables false
set_option linter.unusedSimpArgs false
set_option maxRecDepth 100000
set_option maxHeartbeats 2000000
attribute [local irreducible] AWP zy ye zF zn yt z6 zE zW Lib.itoa zY zp za zN yu zo zZ zh.kids zh.kind zh.n zh.name yp yq yj yl zt zu xf zw xk xb yy yV xQ wx zL
theorem zS {n0 : Nat} {q : List zk} {b b' : Bld} {r d : D} {L : List Ob} (X : List Ob) (hL : L = bO q b' ++ X) (hb : b' = b) (hr : r = d) (hn : n0 ≤ 6) (hd : ClD 6 d) : zE n0 r d L (bO q b) := by
 subst hb; subst hr
 exact kq (bO q b') X hL hn hd (xc _ _)
theorem zef : za Tryz.prog kC (yh (fun ((b, _, _) : Bld × zx × List zk) => b.items.length ≤ 1000000) (fun (_, x, _) => [.loc 0 0, xm x])
  (fun (b, _, q) => bO q b) (fun _ => .tup []) fun (b, x, q) => bO q (xu b x)) := by
 refine zg zj Tryz.func68 rfl (by decide) ?_
 rintro ⟨b, x, q⟩ hl
 have hl : b.items.length ≤ 1000000 := hl
 refine ⟨Nat.le_refl _, by simp [Tryz.f68], fun E hE => ?_⟩
 refine zf _ ?_
 (all_goals refine qgk (Lf.mk ?_))
 refine wM ((b.items ++ [x]).map xm) (by rw [List.map_append]; rfl) ?_
 rw [List.length_map]
 (all_goals refine qgk (Lf.mk ?_))
 exact zS (b' := xu b x) [_] rfl rfl rfl (Nat.le_of_eq rfl) .tup0
theorem zmJ {n : Nat} (x : zx) : ClD n (xm x) := .agg (.cons .int (.cons .int (.cons .int (.cons .int (.cons .int (.cons .int (.cons .int (.cons .bool (.cons .int (.cons .str (.cons .int (.cons .int (.cons .int .nil)))))))))))))
theorem yz {av : List D} {L : List Ob} {KP : D → Prop} {KW : D → List Ob → Prop} (q : List zk) (b : Bld) (x : zx) (X : List Ob) (hl : b.items.length ≤ 1000000) (hL : L = bO q b ++ X) (has : LeL av [.loc 0 0, xm x])
  (hK : KW (.tup []) (bO q (xu b x) ++ X)) : zn Tryz.prog kC av L KP KW := by
 refine zdp has ?_
 exact xL zef X (b, x, q) hl hL (LeL.refl _) rfl (.cons (.loc (Nat.lt_of_lt_of_le (by decide : 0 < 6) (Nat.le_of_eq rfl))) (.cons (zmJ x) .nil)) .tup0 (xc _ _) (xc _ _) hK
theorem yJ {k at_ line : Int} {i : Ins} {size : Int} {v : zq} {p x : Int} : LeL [.loc 0 0, .agg [.int .i64 k, .int .i64 at_, .int .i64 line, .int .i64 i.op, .int .i64 i.n, .int .i64 i.m, .int .i64 i.imm, .ff, .int .i64 size, .str v.name, .int .i64 v.n, .int .i64 p, .int .i64 x]]
  [.loc 0 0, xm ⟨k, at_, line, i, false, size, v, p, x⟩] :=
 .cons (.refl _) (.cons (.agg (.cons (.refl _) (.cons (.refl _) (.cons (.refl _) (.cons (.refl _) (.cons (.refl _) (.cons (.refl _) (.cons (.refl _) (.cons (.ff rfl) (.refl _)))))))))) .nil)
theorem vY (b : Bld) (e line : Int) : (yA b e line).items = b.items := by unfold yA; split <;> rfl
theorem zmK : za Tryz.prog jZ (yh (fun ((b, l, _, _) : Bld × List AOp × Int × List zk) => b.items.length ≤ 1000000 ∧ l.length ≤ 1000000000) (fun (_, l, line, _) => [.loc 0 0, .sl 4 (l.map vX) none, .int .i64 line])
  (fun (b, _, _, q) => bO q b) (fun _ => .tup []) fun (b, l, line, q) => bO q (qB b l line)) := by
 refine zg zj Tryz.func66 rfl (by decide) ?_
 rintro ⟨b, l, line, q⟩ ⟨hb, hl⟩
 have hb : b.items.length ≤ 1000000 := hb
 have hl : l.length ≤ 1000000000 := hl
 refine ⟨Nat.le_refl _, by simp [Tryz.f66], fun E hE => ?_⟩
 match l, hl with
 | [], _ =>
  refine zf _ ?_
  (all_goals refine qgp ?_ <;> (repeat' first | exact trivial | intro hc | refine And.intro ?_ ?_) <;> refine Lf.mk ?_)
  refine yQ q b 2 line [] rfl rfl ?_
  (all_goals refine qgp (Lf.mk ?_))
  exact zS [] rfl rfl rfl (Nat.le_of_eq rfl) .tup0
 | [o], _ =>
  have hA : qB b [o] line = if o.sign ≠ [] ∨ o.val.name ≠ [] then yA b 2 line else if o.val.n ≠ 1 ∧ o.val.n ≠ 2 ∧ o.val.n ≠ 4 ∧ o.val.n ≠ 8 ∧ o.val.n ≠ 16 then yA b 3 line
    else xu b ⟨8, 0, line, noI, false, o.val.n, noV, 0, 0⟩ := by
   unfold qB
   by_cases h : o.sign ≠ [] ∨ o.val.name ≠ []
   ·rw [if_pos h, if_pos (.inr h)]
   ·rw [if_neg h, if_neg (fun e => e.elim (fun e => e rfl) h)]; rfl
  refine zf _ ?_
  (all_goals refine qgp ?_ <;> (repeat' first | exact trivial | intro hc | refine And.intro ?_ ?_) <;> refine Lf.mk ?_)
  ·refine yQ q b 2 line [] rfl rfl ?_
   (all_goals refine qgp (Lf.mk ?_))
   exact zS [] rfl (by rw [hA, if_pos (.inl hc)]) rfl (Nat.le_of_eq rfl) .tup0
  ·refine yQ q b 2 line [] rfl rfl ?_
   (all_goals refine qgp (Lf.mk ?_))
   exact zS [] rfl (by rw [hA, if_pos (.inr hc)]) rfl (Nat.le_of_eq rfl) .tup0
  ·refine yQ q b 3 line [] rfl rfl ?_
   (all_goals refine qgp (Lf.mk ?_))
   exact zS [] rfl (by rw [hA, if_neg (fun e => e.elim (fun e => e (by assumption)) (fun e => e (by assumption))), if_pos ⟨by assumption, by assumption, by assumption, by assumption, hc⟩]) rfl (Nat.le_of_eq rfl) .tup0
  all_goals
   refine yz q b ⟨8, 0, line, noI, false, o.val.n, noV, 0, 0⟩ [] hb rfl yJ ?_
   (all_goals refine qgp (Lf.mk ?_))
   exact zS [] rfl (by rw [hA, if_neg (fun e => e.elim (fun e => e (by assumption)) (fun e => e (by assumption))), if_neg (fun e => by omega)]) rfl (Nat.le_of_eq rfl) .tup0
 | o :: o2 :: l, _ =>
  refine zf _ ?_
  (all_goals refine qgp ?_ <;> (repeat' first | exact trivial | intro hc | refine And.intro ?_ ?_) <;> refine Lf.mk ?_)
  refine yQ q b 2 line [] rfl rfl ?_
  (all_goals refine qgp (Lf.mk ?_))
  exact zS [] rfl (by unfold qB; rw [if_pos (.inl (by simp))]) rfl (Nat.le_of_eq rfl) .tup0
theorem zp5 (size line : Int) (b : Bld) (o : AOp) : (wG size line b o).items.length = b.items.length + 1 := by
 unfold wG xu
 dsimp only
 rw [List.length_append, List.length_singleton]
 split
 ·rw [vY]
 split
 ·rw [vY]
 split
 ·rw [vY]
 ·rfl
theorem zn9 : za Tryz.prog zaY (yh (fun ((b, size, l, _, _) : Bld × Int × List AOp × Int × List zk) => b.items.length + l.length ≤ 1000000 ∧ (size = 1 ∨ size = 2 ∨ size = 4)) (fun (_, size, l, line, _) => [.loc 0 0, .int .i64 size, .sl 4 (l.map vX) none, .int .i64 line])
  (fun (b, _, _, _, q) => bO q b) (fun _ => .tup []) fun (b, size, l, line, q) => bO q (kw b size l line)) := by
 refine zg zj Tryz.func65 rfl (by decide) ?_
 rintro ⟨b, size, l, line, q⟩ ⟨hb, hs⟩
 have hb : b.items.length + l.length ≤ 1000000 := hb
 have hs : size = 1 ∨ size = 2 ∨ size = 4 := hs
 have hE6 : ∀ E : xj, E.L = bO q b → E.L.length = 6 := fun E h => by rw [h]; rfl
 refine ⟨Nat.le_refl _, by simp [Tryz.f65], fun E hE => ?_⟩
 have hE6 := hE6 E hE
 obtain ⟨s, m, hz1, hz2, hz3, hz4, hz5, hz6, hz7, hz8⟩ : ∃ (s : Nat) (m : Int), 8 * size - 1 = (s : Int) ∧ s ≤ 60 ∧ (2 : Int) ^ s = m ∧ (2 : Int) ^ (s + 1) = m * 2 ∧ 0 ≤ m ∧ m ≤ 2147483648 ∧ zpZ size = -m ∧ zlb size = m * 2 - 1 := by
  rcases hs with rfl | rfl | rfl
  ·exact ⟨7, 128, by decide, by decide, by decide, by decide, by decide, by decide, by decide, by decide⟩
  ·exact ⟨15, 32768, by decide, by decide, by decide, by decide, by decide, by decide, by decide, by decide⟩
  ·exact ⟨31, 2147483648, by decide, by decide, by decide, by decide, by decide, by decide, by decide, by decide⟩
 generalize hT : kw b size l line = T
 have hT0 : l.foldl (wG size line) (if l = [] then yA b 2 line else b) = T := hT
 refine zf _ ?_
 (all_goals refine qgp ?_ <;> (repeat' first | exact trivial | intro hc | refine And.intro ?_ ?_) <;> refine Lf.mk ?_)
 ·have hnil : l = [] := List.eq_nil_of_length_eq_zero (by have hc : ((l.length : Nat) : Int) = 0 := hc; omega)
  subst hnil
  refine yQ q b 2 line [] rfl rfl ?_
  (all_goals refine qgp (Lf.mk ?_))
  refine zdV (zf _ ?_)
  (all_goals refine qgp ?_ <;> (repeat' first | exact trivial | intro hc | refine And.intro ?_ ?_) <;> refine Lf.mk ?_)
  exact zS [] rfl (by rw [hT, ← hT0]; rfl) rfl (Nat.le_of_eq rfl) .tup0
 ·have hne : ¬ l = [] := fun h => by rw [h] at hc; exact hc rfl
  rw [if_neg hne] at hT0
  refine xg (α := Nat × Bld) (fun p => p.1 ≤ l.length ∧ (l.drop p.1).foldl (wG size line) p.2 = T ∧ p.2.items.length + (l.length - p.1) ≤ 1000000)
   (fun p => [(0, .loc 0 0), (1, .int .i64 size), (3, .int .i64 line), (18, .sl 4 (l.map vX) none), (19, .int .i64 l.length), (20, .int .i64 p.1)]) (fun p => bO q p.2) (fun p => l.length - p.1) (fun _ => by rw [hE6]; exact Nat.le_refl 6) (0, b)
   ⟨Nat.zero_le _, hT0, by dsimp only; omega⟩ ?_ ?_
  ·exact yC rfl ⟨rfl, rfl, rfl, rfl, rfl, rfl, trivial⟩
  rintro ⟨k, b1⟩ ⟨i1, i2, i3⟩
  dsimp only at i1 i2 i3 ⊢
  refine zf _ ?_
  (all_goals refine qgp ?_ <;> (repeat' first | exact trivial | intro hc | refine And.intro ?_ ?_) <;> refine Lf.mk ?_)
  ·obtain ⟨o, ho⟩ := ya (l := l) (k := k) (by omega)
   have hkl : k < l.length := by omega
   have hget : l[k] = o := by rw [List.getElem?_eq_getElem hkl] at ho; exact Option.some.inj ho
   rw [List.drop_eq_getElem_cons hkl, hget, List.foldl_cons] at i2
   have hit := zp5 size line b1 o
   refine zl o (by omega) (by simpa using ho) ?_
   (all_goals refine qgp (Lf.mk ?_))
   refine qb (s := s) (m := m) hz1 (by omega) hz3 (by omega) (by omega) ?_
   (all_goals refine qgp (Lf.mk ?_))
   refine qb (s := s + 1) (m := m * 2) (by omega) (by omega) hz4 (by omega) (by omega) ?_
   (all_goals refine qgp ?_ <;> (repeat' first | exact trivial | intro hc | refine And.intro ?_ ?_) <;> refine Lf.mk ?_)
   all_goals first
    | (exfalso; exact absurd (by assumption : o.val.name = []) (by assumption))
    | skip
   ·have hd : wG size line b1 o = xu (yA b1 2 line) ⟨7, 0, line, noI, false, size, o.val, 0, 0⟩ := by unfold wG; rw [if_pos hc]
    rw [hd] at i2 hit
    refine yQ q b1 2 line [_] rfl rfl ?_
    (all_goals refine qgp (Lf.mk ?_))
    refine yz q (yA b1 2 line) ⟨7, 0, line, noI, false, size, o.val, 0, 0⟩ [_] (by rw [vY]; omega) rfl yJ ?_
    (all_goals refine qgp (Lf.mk ?_))
    exact q7 (k + 1, xu (yA b1 2 line) ⟨7, 0, line, noI, false, size, o.val, 0, 0⟩) [_] ⟨by show k + 1 ≤ _; omega, i2, by dsimp only; rw [hit]; omega⟩ (by dsimp only; omega) rfl (by rw [hE6]; exact Nat.le_refl 6) (xc _ _) ⟨rfl, rfl, rfl, rfl, rfl, rfl, trivial⟩
     (.cons (.loc (Nat.lt_of_lt_of_le (by decide : 0 < 6) (Nat.le_of_eq rfl))) (.cons .int (.cons .int (.cons .sl (.cons .int (.cons .int .nil))))))
   ·have hd : wG size line b1 o = xu (yA b1 8 line) ⟨7, 0, line, noI, false, size, o.val, 0, 0⟩ := by unfold wG; rw [if_neg (fun h => h (by assumption)), if_pos ⟨by assumption, hc⟩]
    rw [hd] at i2 hit
    refine yQ q b1 8 line [_] rfl rfl ?_
    (all_goals refine qgp (Lf.mk ?_))
    refine yz q (yA b1 8 line) ⟨7, 0, line, noI, false, size, o.val, 0, 0⟩ [_] (by rw [vY]; omega) rfl yJ ?_
    (all_goals refine qgp (Lf.mk ?_))
    exact q7 (k + 1, xu (yA b1 8 line) ⟨7, 0, line, noI, false, size, o.val, 0, 0⟩) [_] ⟨by show k + 1 ≤ _; omega, i2, by dsimp only; rw [hit]; omega⟩ (by dsimp only; omega) rfl (by rw [hE6]; exact Nat.le_refl 6) (xc _ _) ⟨rfl, rfl, rfl, rfl, rfl, rfl, trivial⟩
     (.cons (.loc (Nat.lt_of_lt_of_le (by decide : 0 < 6) (Nat.le_of_eq rfl))) (.cons .int (.cons .int (.cons .sl (.cons .int (.cons .int .nil))))))
   ·have hd : wG size line b1 o = xu b1 ⟨7, 0, line, noI, false, size, o.val, 0, 0⟩ := by unfold wG; rw [if_neg (fun h => h (by assumption)), if_neg (fun h => absurd h.2 (by assumption)), if_neg (fun h => absurd h.1 (by assumption))]
    rw [hd] at i2 hit
    refine yz q b1 ⟨7, 0, line, noI, false, size, o.val, 0, 0⟩ [_] (by omega) rfl yJ ?_
    (all_goals refine qgp (Lf.mk ?_))
    exact q7 (k + 1, xu b1 ⟨7, 0, line, noI, false, size, o.val, 0, 0⟩) [_] ⟨by show k + 1 ≤ _; omega, i2, by dsimp only; rw [hit]; omega⟩ (by dsimp only; omega) rfl (by rw [hE6]; exact Nat.le_refl 6) (xc _ _) ⟨rfl, rfl, rfl, rfl, rfl, rfl, trivial⟩
     (.cons (.loc (Nat.lt_of_lt_of_le (by decide : 0 < 6) (Nat.le_of_eq rfl))) (.cons .int (.cons .int (.cons .sl (.cons .int (.cons .int .nil))))))
   ·have hd : wG size line b1 o = xu (yA b1 3 line) ⟨7, 0, line, noI, false, size, o.val, 0, 0⟩ := by unfold wG; rw [if_neg (fun h => h (by assumption)), if_neg (fun h => absurd (by assumption) h.1), if_pos ⟨by assumption, .inl (by rw [hz7]; omega)⟩]
    rw [hd] at i2 hit
    refine yQ q b1 3 line [_] rfl rfl ?_
    (all_goals refine qgp (Lf.mk ?_))
    refine yz q (yA b1 3 line) ⟨7, 0, line, noI, false, size, o.val, 0, 0⟩ [_] (by rw [vY]; omega) rfl yJ ?_
    (all_goals refine qgp (Lf.mk ?_))
    exact q7 (k + 1, xu (yA b1 3 line) ⟨7, 0, line, noI, false, size, o.val, 0, 0⟩) [_] ⟨by show k + 1 ≤ _; omega, i2, by dsimp only; rw [hit]; omega⟩ (by dsimp only; omega) rfl (by rw [hE6]; exact Nat.le_refl 6) (xc _ _) ⟨rfl, rfl, rfl, rfl, rfl, rfl, trivial⟩
     (.cons (.loc (Nat.lt_of_lt_of_le (by decide : 0 < 6) (Nat.le_of_eq rfl))) (.cons .int (.cons .int (.cons .sl (.cons .int (.cons .int .nil))))))
   ·have hd : wG size line b1 o = xu (yA b1 3 line) ⟨7, 0, line, noI, false, size, o.val, 0, 0⟩ := by unfold wG; rw [if_neg (fun h => h (by assumption)), if_neg (fun h => absurd (by assumption) h.1), if_pos ⟨by assumption, .inr (by rw [hz8]; omega)⟩]
    rw [hd] at i2 hit
    refine yQ q b1 3 line [_] rfl rfl ?_
    (all_goals refine qgp (Lf.mk ?_))
    refine yz q (yA b1 3 line) ⟨7, 0, line, noI, false, size, o.val, 0, 0⟩ [_] (by rw [vY]; omega) rfl yJ ?_
    (all_goals refine qgp (Lf.mk ?_))
    exact q7 (k + 1, xu (yA b1 3 line) ⟨7, 0, line, noI, false, size, o.val, 0, 0⟩) [_] ⟨by show k + 1 ≤ _; omega, i2, by dsimp only; rw [hit]; omega⟩ (by dsimp only; omega) rfl (by rw [hE6]; exact Nat.le_refl 6) (xc _ _) ⟨rfl, rfl, rfl, rfl, rfl, rfl, trivial⟩
     (.cons (.loc (Nat.lt_of_lt_of_le (by decide : 0 < 6) (Nat.le_of_eq rfl))) (.cons .int (.cons .int (.cons .sl (.cons .int (.cons .int .nil))))))
   ·have hd : wG size line b1 o = xu b1 ⟨7, 0, line, noI, false, size, o.val, 0, 0⟩ := by unfold wG; rw [if_neg (fun h => h (by assumption)), if_neg (fun h => absurd (by assumption) h.1), if_neg (fun h => by rw [hz7, hz8] at h; omega)]
    rw [hd] at i2 hit
    refine yz q b1 ⟨7, 0, line, noI, false, size, o.val, 0, 0⟩ [_] (by omega) rfl yJ ?_
    (all_goals refine qgp (Lf.mk ?_))
    exact q7 (k + 1, xu b1 ⟨7, 0, line, noI, false, size, o.val, 0, 0⟩) [_] ⟨by show k + 1 ≤ _; omega, i2, by dsimp only; rw [hit]; omega⟩ (by dsimp only; omega) rfl (by rw [hE6]; exact Nat.le_refl 6) (xc _ _) ⟨rfl, rfl, rfl, rfl, rfl, rfl, trivial⟩
     (.cons (.loc (Nat.lt_of_lt_of_le (by decide : 0 < 6) (Nat.le_of_eq rfl))) (.cons .int (.cons .int (.cons .sl (.cons .int (.cons .int .nil))))))
  ·have hk : k = l.length := by omega
   subst hk
   rw [List.drop_length] at i2
   exact zS [] rfl (by rw [hT]; exact i2) rfl (Nat.le_of_eq rfl) .tup0
theorem zts (a : List (List zq)) (c : List zq) : ∀ (i : Nat) d d', (a.map y6 ++ [.sl 2 (c.map yE) (some 5)])[i]? = some d → ((a ++ [c]).map y6)[i]? = some d' → LeL d.cells d'.cells := by
 intro i d d' h1 h2
 rw [List.map_append] at h2
 rcases Nat.lt_or_ge i (a.map y6).length with h | h
 ·rw [List.getElem?_append_left h] at h1 h2
  rw [h1] at h2
  cases h2
  exact LeL.refl _
 ·rw [List.getElem?_append_right h] at h1 h2
  cases hi : i - (a.map y6).length with
  | zero =>
   rw [hi] at h1 h2
   cases h1
   cases h2
   exact .cons (.strip _ _ _) .nil
  | succ j => rw [hi] at h1; simp at h1
theorem zoa : za Tryz.prog zaX (yh (fun ((b, _, _) : Bld × Int × List zk) => b.items.length ≤ 1000000 ∧ b.shut.length ≤ 1000000) (fun (_, line, _) => [.loc 0 0, .int .i64 line])
  (fun (b, _, q) => bO q b) (fun _ => .tup []) fun (b, line, q) => bO q (vy b line)) := by
 refine zg zj Tryz.func38 rfl (by decide) ?_
 rintro ⟨⟨items, syms, marks, shut, has, cur, fe, fa⟩, line, q⟩ ⟨hl, hp⟩
 have hl : items.length ≤ 1000000 := hl
 have hp : shut.length ≤ 1000000 := hp
 refine ⟨Nat.le_refl _, by simp [Tryz.f38], fun E hE => ?_⟩
 cases has with
 | false =>
  have hlen : (zJ ⟨items, syms, marks, shut, false, cur, fe, fa⟩).length = shut.length := by unfold zJ; simp
  refine zf _ ?_
  (all_goals refine qgp ?_ <;> (repeat' first | exact trivial | intro hc | refine And.intro ?_ ?_) <;> refine Lf.mk ?_)
  exact zS (b' := ⟨items, syms, marks, shut, false, cur, fe, fa⟩) [] rfl rfl rfl (Nat.le_of_eq rfl) .tup0
 | true =>
  have hlen : (zJ ⟨items, syms, marks, shut, true, cur, fe, fa⟩).length = shut.length + 1 := by unfold zJ; simp
  refine zf _ ?_
  (all_goals refine qgp ?_ <;> (repeat' first | exact trivial | intro hc | refine And.intro ?_ ?_) <;> refine Lf.mk ?_)
  refine yz q ⟨items, syms, marks, shut, true, cur, fe, fa⟩ ⟨9, 0, line, noI, false, 0, noV, shut.length, 0⟩ [] hl rfl yJ ?_
  (all_goals refine qgp (Lf.mk ?_))
  refine qP (by show (-9223372036854775808 : Int) ≤ (shut.length : Int) + 1; omega) (by show (shut.length : Int) + 1 ≤ 9223372036854775807; omega) ?_
  (all_goals refine qgp (Lf.mk ?_))
  refine zuB (k := 4) (e := 1) (ds := shut.map y6 ++ [.sl 2 (cur.map yE) (some 5)]) ((shut ++ [cur]).map y6) rfl (by simp) (zts shut cur) ?_ (Nat.le_of_eq rfl)
  refine zsT (k := 5) (Nat.le_of_eq rfl) ?_ (Nat.le_of_eq rfl)
  refine xy rfl ?_
  show [Ob.cells _, _, _, _, _, _] = bO q ⟨items ++ [⟨9, 0, line, noI, false, 0, noV, shut.length, 0⟩], syms, marks, shut ++ [cur], false, [], fe, fa⟩
  unfold bO bC bT zda zJ xu
  simp
theorem zfz : za Tryz.prog kD (zA (fun ((l, _) : List zq × zq) => l.length ≤ 1000000000) (fun (l, x) => [.sl 2 (l.map yE) none, yE x]) fun (l, x) => .int .i64 (wg x l 0)) := by
 refine zg zj Tryz.func176 rfl (by decide) ?_
 rintro ⟨l, x⟩ hl
 have hl : l.length ≤ 1000000000 := hl
 refine ⟨Nat.le_refl _, by simp [Tryz.f176], fun E hE => ?_⟩
 refine zf _ ?_
 (all_goals refine qgo (Lf.mk ?_))
 refine xg (α := Nat) (fun k => k ≤ l.length ∧ wg x l 0 = wg x (l.drop k) k)
  (fun k => [(7, .int .i64 l.length), (8, .int .i64 k), (0, .sl 2 (l.map yE) none), (3, .loc 0 0)])
  (fun _ => [.cells [.str x.name, .int .i64 x.n]]) (fun k => l.length - k) (fun _ => by rw [hE]; exact Nat.zero_le _) 0 ⟨Nat.zero_le _, by simp⟩ ?_ ?_
 ·exact yC rfl ⟨rfl, rfl, rfl, rfl, trivial⟩
 rintro k ⟨hk, hf⟩
 refine zf _ ?_
 (all_goals refine qgo ?_ <;> (repeat' first | exact trivial | intro hc | refine And.intro ?_ ?_) <;> refine Lf.mk ?_)
 ·obtain ⟨s, hsk⟩ := ya (l := l) (k := k) (by omega)
  have hkl : k < l.length := by omega
  have hget : l[k] = s := by rw [List.getElem?_eq_getElem hkl] at hsk; exact Option.some.inj hsk
  rw [List.drop_eq_getElem_cons hkl, hget, wg] at hf
  refine zl s (by omega) (by simpa using hsk) ?_
  (all_goals refine qgo (Lf.mk ?_))
  refine zsH [.str, .int .i64] (by kernel_rfl) rfl ?_
  cases hb : (x.name == s.name && (x.n == s.n && true)) with
  | true =>
   rw [Bool.and_true, Bool.and_eq_true, beq_iff_eq, beq_iff_eq] at hb
   rw [if_pos ⟨hb.1.symm, hb.2.symm⟩] at hf
   (all_goals refine qgo ?_ <;> (repeat' first | exact trivial | intro hc | refine And.intro ?_ ?_) <;> refine Lf.mk ?_)
   (any_goals (first | (exfalso; refine Bool.false_ne_true ?_; assumption) | (exfalso; refine Bool.false_ne_true (Eq.symm ?_); assumption) | (exfalso; refine absurd trivial ?_; assumption) | skip))
   exact zb (VS.mk (LeD.of_eq (congrArg (D.int .i64) hf.symm)))
  | false =>
   have hne : ¬ (s.name = x.name ∧ s.n = x.n) := fun h => by rw [h.1, h.2] at hb; simp at hb
   rw [if_neg hne] at hf
   (all_goals refine qgo ?_ <;> (repeat' first | exact trivial | intro hc | refine And.intro ?_ ?_) <;> refine Lf.mk ?_)
   (any_goals (first | (exfalso; refine Bool.false_ne_true ?_; assumption) | (exfalso; refine Bool.false_ne_true (Eq.symm ?_); assumption) | (exfalso; refine absurd trivial ?_; assumption) | skip))
   exact y5 (k + 1) ⟨by omega, hf⟩ (by omega) rfl ⟨rfl, rfl, rfl, rfl, trivial⟩
 ·rw [List.drop_of_length_le (by omega), wg] at hf
  exact zb (VS.mk (LeD.of_eq (congrArg (D.int .i64) hf.symm)))
theorem ztt {v : zq} {l : List zq} (h : ¬ wg v l 0 < 0) : wQ v l = wg v l 0 ∧ wP v l = l := by unfold wQ wP; rw [if_neg h, if_neg h]; exact ⟨rfl, rfl⟩
theorem ztu {v : zq} {l : List zq} (h : wg v l 0 < 0) : wQ v l = l.length ∧ wP v l = l ++ [v] := by unfold wQ wP; rw [if_pos h, if_pos h]; exact ⟨rfl, rfl⟩
attribute [local irreducible] wg wQ wP
theorem zrK : za Tryz.prog qd (yh (fun ((b, _, _, _, _) : Bld × zq × Int × Int × List zk) => b.has = true ∧ b.items.length ≤ 1000000 ∧ b.shut.length ≤ 1000000 ∧ b.cur.length ≤ 1000000) (fun (_, v, reg, line, _) => [.loc 0 0, yE v, .int .i64 reg, .int .i64 line])
  (fun (b, _, _, _, q) => bO q b) (fun _ => .tup []) fun (b, v, reg, line, q) => bO q (kb b v reg line)) := by
 refine zg zj Tryz.func128 rfl (by decide) ?_
 rintro ⟨⟨items, syms, marks, shut, has, cur, fe, fa⟩, v, reg, line, q⟩ ⟨hh, hl, hp, hcu⟩
 have hh : has = true := hh
 subst hh
 have hl : items.length ≤ 1000000 := hl
 have hp : shut.length ≤ 1000000 := hp
 have hcu : cur.length ≤ 1000000 := hcu
 have hlen : (zJ ⟨items, syms, marks, shut, true, cur, fe, fa⟩).length = shut.length + 1 := by unfold zJ; simp
 refine ⟨Nat.le_refl _, by simp [Tryz.f128], fun E hE => ?_⟩
 refine zf _ ?_
 (all_goals refine qgp ?_ <;> (repeat' first | exact trivial | intro hc | refine And.intro ?_ ?_) <;> refine Lf.mk ?_)
 have hget : (zJ ⟨items, syms, marks, shut, true, cur, fe, fa⟩)[shut.length]? = some (.sl 2 (cur.map yE) (some 5)) := by
  show (shut.map y6 ++ [.sl 2 (cur.map yE) (some 5)])[shut.length]? = _
  simp
 refine wC (d := .sl 2 (cur.map yE) (some 5)) (Int.natCast_nonneg _) (by simpa using hget) ?_
 (all_goals refine qgp (Lf.mk ?_))
 refine ze zfz (cur, v) (by show cur.length ≤ _; omega) (VS.mk (LeL.of_eq rfl)) ?_
 by_cases hi : wg v cur 0 < 0
 ·obtain ⟨s1, s2⟩ := ztu hi
  (all_goals refine qgk ?_ <;> (repeat' first | exact trivial | intro hc | refine And.intro ?_ ?_) <;> refine Lf.mk ?_)
  ·refine wC (d := .sl 2 (cur.map yE) (some 5)) (Int.natCast_nonneg _) (by simpa using hget) ?_
   (all_goals refine qgk (Lf.mk ?_))
   refine wC (d := .sl 2 (cur.map yE) (some 5)) (Int.natCast_nonneg _) (by simpa using hget) ?_
   (all_goals refine qgk (Lf.mk ?_))
   refine wM ((cur ++ [v]).map yE) (by rw [List.map_append]; rfl) ?_
   rw [List.length_map]
   (all_goals refine qgk (Lf.mk ?_))
   refine wC (d := .sl 2 (cur.map yE) (some 5)) (Int.natCast_nonneg _) (by simpa using hget) ?_
   (all_goals refine qgp (Lf.mk ?_))
   have hset : (zJ ⟨items, syms, marks, shut, true, cur, fe, fa⟩).set (0 + ((shut.length : Nat) : Int).toNat) (.sl 2 ((cur ++ [v]).map yE) (some 5)) = zJ ⟨items, syms, marks, shut, true, cur ++ [v], fe, fa⟩ := by
    show (shut.map y6 ++ [D.sl 2 (cur.map yE) (some 5)]).set _ _ = shut.map y6 ++ [D.sl 2 ((cur ++ [v]).map yE) (some 5)]
    rw [Nat.zero_add, Int.toNat_natCast, List.set_append_right _ _ (by simp)]
    simp
   have hbC : bC q ⟨items, syms, marks, shut, true, cur, fe, fa⟩ = bC q ⟨items, syms, marks, shut, true, cur ++ [v], fe, fa⟩ := by
    unfold bC
    rw [hlen, show (zJ ⟨items, syms, marks, shut, true, cur ++ [v], fe, fa⟩).length = shut.length + 1 by unfold zJ; simp]
   refine yz q ⟨items, syms, marks, shut, true, cur ++ [v], fe, fa⟩ ⟨6, 0, line, ⟨24, reg, 0, 0⟩, false, 0, noV, shut.length, cur.length⟩ [.cells [.str v.name, .int .i64 v.n]] hl ?_ yJ ?_
   ·show Ob.cells (bC q _) :: Ob.arr 13 (items.map xm) :: Ob.arr 2 (syms.map yF) :: Ob.spare marks.length :: Ob.arr 1 (List.set _ _ _) :: Ob.spare (cur ++ [v]).length :: [Ob.cells [.str v.name, .int .i64 v.n]] = _
    rw [hbC]
    exact congrArg (fun x => Ob.cells (bC q ⟨items, syms, marks, shut, true, cur ++ [v], fe, fa⟩) :: [Ob.arr 13 (items.map xm), Ob.arr 2 (syms.map yF), Ob.spare marks.length, Ob.arr 1 x, Ob.spare (cur ++ [v]).length, Ob.cells [.str v.name, .int .i64 v.n]]) hset
   (all_goals refine qgp (Lf.mk ?_))
   refine zS [_] rfl ?_ rfl (Nat.le_of_eq rfl) .tup0
   unfold kb
   rw [s1, s2]
  ·exact absurd hi hc
 ·obtain ⟨s1, s2⟩ := ztt hi
  (all_goals refine qgp ?_ <;> (repeat' first | exact trivial | intro hc | refine And.intro ?_ ?_) <;> refine Lf.mk ?_)
  refine yz q ⟨items, syms, marks, shut, true, cur, fe, fa⟩ ⟨6, 0, line, ⟨24, reg, 0, 0⟩, false, 0, noV, shut.length, wg v cur 0⟩ [_] hl rfl yJ ?_
  (all_goals refine qgp (Lf.mk ?_))
  refine zS [_] rfl ?_ rfl (Nat.le_of_eq rfl) .tup0
  unfold kb
  rw [s1, s2]
end Go.Proofs.YthmdddenbfbefaaGreatDoor
namespace Go.Proofs.YthmdddenbfbefaaGreatDoor
open Go Go.Plat
set_option linter.unusedVariables false
set_option linter.unusedSimpArgs false
set_option maxRecDepth 100000
set_option maxHeartbeats 2000000
attribute [local irreducible] AWP zy ye zF zn yt z6 zE zW zY zp za zN yu zo zZ yp yq yj yl zt zu zw
def w64 (n : Int) : Int := IntKind.i64.wrap n
def upA (n of : Int) : Int := (n + of - 1) / of * of
def zdv (pools : List (List zq)) (k : Int) : Int := ((pools[k.toNat]?).getD []).length
def xn (pools : List (List zq)) (x : zx) (a : Int) : Int :=
 if x.kind = 2 ∧ x.long = true then 6 else if x.kind = 7 then x.size else if x.kind = 8 then upA a x.size - a else if x.kind = 9 then upA a 4 - a + 4 * zdv pools x.pool else 2
def yi (pools : List (List zq)) : List zx → Int → List zx × Int
 | [], a => ([], a)
 | x :: l, a => ({ x with at_ := a } :: (yi pools l (a + xn pools x a)).1, (yi pools l (a + xn pools x a)).2)
def itA (items : List zx) (k : Int) : zx := (items[k.toNat]?).getD ⟨0, 0, 0, noI, false, 0, noV, 0, 0⟩
def kf (items : List zx) (e m : Int) : Int := if m < items.length then (itA items m).at_ else e
def x4 (items : List zx) (e : Int) : List zz → List Int → List zz
 | s :: ss, m :: ms => ⟨s.name, kf items e m⟩ :: x4 items e ss ms
 | ss, _ => ss
def xA {α : Type} (p : α → Bool) : List α → Nat → Int
 | [], _ => -1
 | x :: l, k => if p x = true then k else xA p l (k + 1)
def zjy (n : List UInt8) (l : List zz) (k : Nat) : Int := xA (fun s => s.name == n) l k
def zcb (syms : List zz) (k : Int) : zz := (syms[k.toNat]?).getD ⟨[], 0⟩
def zT (syms : List zz) (v : zq) : Int × Int :=
 if v.name = [] then (0, 8) else if zjy v.name syms 0 < 0 then (0, 6) else (w64 ((zcb syms (zjy v.name syms 0)).at_ + v.n), 0)
def zcc (op : Int) : Int := match xl op with | some r => r.shape | none => 0
def zcQ (op a : Int) : Int := if op = 24 then a + 4 - (a + 4) % 4 else a + 4
def ofA (op : Int) : Int := if op = 24 then 4 else 2
def zeg (op a to : Int) : Int := w64 ((w64 (to - zcQ op a)).tdiv (ofA op))
def wi (op a to : Int) : Int × Int :=
 if (w64 (to - zcQ op a)).tmod (ofA op) ≠ 0 then (0, 11)
 else if zeg op a to < zc9 (zcc op) ∨ zau (zcc op) < zeg op a to then (zeg op a to, 3) else (zeg op a to, 0)
def xB (syms : List zz) (x : zx) : Bool := decide (x.kind = 2 ∧ x.long = false ∧ (zT syms x.val).2 = 0 ∧ (wi x.ins.op x.at_ (zT syms x.val).1).2 = 3)
def yT (syms : List zz) (x : zx) : zx := if xB syms x = true then { x with long := true } else x
structure Lay where
 items : List zx
 syms : List zz
def yK (pools : List (List zq)) (marks : List Int) (s : Lay) : Lay × Int :=
 (⟨(yi pools s.items 0).1, x4 (yi pools s.items 0).1 (yi pools s.items 0).2 s.syms marks⟩, (yi pools s.items 0).2)
def zcd (pools : List (List zq)) (marks : List Int) : Nat → Lay → Lay × Int
 | 0, s => (s, 0)
 | f + 1, s => if ((yK pools marks s).1.items.any (xB (yK pools marks s).1.syms)) = false ∨ 8000 < (yK pools marks s).2
   then (⟨(yK pools marks s).1.items.map (yT (yK pools marks s).1.syms), (yK pools marks s).1.syms⟩, (yK pools marks s).2)
   else zcd pools marks f ⟨(yK pools marks s).1.items.map (yT (yK pools marks s).1.syms), (yK pools marks s).1.syms⟩
def wj (l : List zx) : Nat := (l.filter fun x => decide (x.kind = 2 ∧ x.long = false)).length
def yG (pools : List (List zq)) (marks : List Int) (s : Lay) : Lay × Int := zcd pools marks (wj s.items + 1) s
structure Out where
 code : List UInt8
 rels : List jf
 fe : Int
 fa : Int
def w6 (o : Out) (e line : Int) : Out := if o.fe = 0 then ⟨o.code, o.rels, e, line⟩ else o
def xC (o : Out) (i : Ins) (line : Int) : Out := if yU i = 0 then ⟨o.code ++ [ym (vA i / 256), ym (vA i)], o.rels, o.fe, o.fa⟩ else w6 o (yU i) line
def xT (o : Out) (i : Ins) (a to line : Int) : Out := if (wi i.op a to).2 = 0 then xC o ⟨i.op, i.n, i.m, (wi i.op a to).1⟩ line else w6 o (wi i.op a to).2 line
def vZ (o : Out) (x : zx) (to : Int) : Out :=
 if x.long = false then xT o x.ins x.at_ to x.line else xC (xT (xC o ⟨w64 (35 - x.ins.op), 0, 0, 1⟩ x.line) ⟨19, 0, 0, 0⟩ (x.at_ + 2) to x.line) ⟨1, 0, 0, 0⟩ x.line
def zhn (syms : List zz) (at_ size : Int) (v : zq) : jf := if (zT syms v).2 = 0 then ⟨at_, size, [], zd (zT syms v).1 32⟩ else ⟨at_, size, v.name, v.n⟩
def xZ (syms : List zz) (o : Out) (v : zq) (size : Nat) : Out :=
 if v.name = [] then ⟨yb (o.code ++ List.replicate size 0) o.code.length size v.n, o.rels, o.fe, o.fa⟩
 else ⟨o.code ++ List.replicate size 0, o.rels ++ [zhn syms o.code.length size v], o.fe, o.fa⟩
def wk (o : Out) (to : Int) : Out := ⟨o.code ++ List.replicate (to - o.code.length).toNat 0, o.rels, o.fe, o.fa⟩
def zmL (p : Int) (l : List zx) (k : Nat) : Int := xA (fun y => y.kind == 9 && y.pool == p) l k
def vP (pools : List (List zq)) (items : List zx) (syms : List zz) (o : Out) (x : zx) : Out :=
 if x.kind = 7 then (if x.at_ % x.size ≠ 0 then w6 o 11 x.line else xZ syms o x.val x.size.toNat)
 else if x.kind = 8 then wk o (upA x.at_ x.size)
 else if x.kind = 9 then ((pools[x.pool.toNat]?).getD []).foldl (fun o v => xZ syms o v 4) (wk o (upA x.at_ 4))
 else if x.at_ % 2 ≠ 0 then w6 o 11 x.line
 else if x.kind = 1 then xC o x.ins x.line
 else if x.kind = 6 then xT o x.ins x.at_ (upA (itA items (zmL x.pool items 0)).at_ 4 + 4 * x.idx) x.line
 else if (zT syms x.val).2 ≠ 0 then w6 o (zT syms x.val).2 x.line
 else if x.kind = 2 then vZ o x (zT syms x.val).1
 else xT o x.ins x.at_ (zT syms x.val).1 x.line
def vf (pools : List (List zq)) (items : List zx) (syms : List zz) (o : Out) : Out := items.foldl (fun o x => if o.fe = 0 then vP pools items syms o x else o) o
theorem zbC {α : Type} (p : α → Bool) : ∀ (l : List α) (k : Nat), xA p l k = -1 ∨ ∃ j : Nat, j < l.length ∧ xA p l k = ((k + j : Nat) : Int)
 | [], _ => .inl rfl
 | x :: l, k => by
  rw [xA]
  split
  ·exact .inr ⟨0, by simp, rfl⟩
  ·rcases zbC p l (k + 1) with h | ⟨j, h1, h2⟩
   ·exact .inl h
   ·exact .inr ⟨j + 1, by simp; omega, by rw [h2, Nat.add_right_comm, Nat.add_assoc]⟩
theorem zho {av : List D} {L : List Ob} {KP : D → Prop} {KW : D → List Ob → Prop} (g : Nat) (caps : List D) (p : zz → Bool) (l : List zz) (c0 c1 : Ob) (R : List Ob) (hl : l.length ≤ 1000000000)
  (hL : L = c0 :: c1 :: .arr 2 (l.map yF) :: R) (has : av = [.osl 2 2 l.length 0 l.length, .fn g caps])
  (hg : ∀ s ∈ l, ∀ (KP : D → Prop) (KW : D → List Ob → Prop), KW (.bool (p s)) L → zn Tryz.prog g (yF s :: caps) L KP KW)
  (hK : KW (.int .i64 (xA p l 0)) L) : zn Tryz.prog wZ av L KP KW := by
 subst has
 refine vU zj Tryz.func133 rfl (by decide) (.int .i64 (xA p l 0)) L (Nat.le_refl _) (by simp [Tryz.f133]) (fun E hE => ?_) hK
 have hE0 : E.L.length = L.length := by rw [hE]
 subst hL
 refine zf _ ?_
 (all_goals refine qgo (Lf.mk ?_))
 refine xg (α := Nat) (fun k => k ≤ l.length ∧ xA p l 0 = xA p (l.drop k) k)
  (fun k => [(0, .osl 2 2 l.length 0 l.length), (1, .fn g caps), (7, .int .i64 l.length), (8, .int .i64 k)]) (fun _ => c0 :: c1 :: .arr 2 (l.map yF) :: R) (fun k => l.length - k) (fun _ => by rw [hE0]; exact Nat.le_refl _) 0 ⟨Nat.zero_le _, by simp⟩ ?_ ?_
 ·exact yC rfl ⟨rfl, rfl, rfl, rfl, trivial⟩
 rintro k ⟨hk, hf⟩
 refine zf _ ?_
 (all_goals refine qgp ?_ <;> (repeat' first | exact trivial | intro hc | refine And.intro ?_ ?_) <;> refine Lf.mk ?_)
 ·obtain ⟨s, hsk⟩ := ya (l := l) (k := k) (by omega)
  have hkl : k < l.length := by omega
  have hget : l[k] = s := by rw [List.getElem?_eq_getElem hkl] at hsk; exact Option.some.inj hsk
  rw [List.drop_eq_getElem_cons hkl, hget, xA] at hf
  refine zl s (by omega) (by simpa using hsk) ?_
  (all_goals refine qgp (Lf.mk ?_))
  refine hg s (List.mem_of_getElem? hsk) _ _ ?_
  cases hb : p s with
  | true =>
   rw [hb, if_pos rfl] at hf
   (all_goals refine qgp ?_ <;> (repeat' first | exact trivial | intro hc | refine And.intro ?_ ?_) <;> refine Lf.mk ?_)
   (any_goals (first | (exfalso; refine Bool.false_ne_true ?_; assumption) | (exfalso; refine Bool.false_ne_true (Eq.symm ?_); assumption) | (exfalso; refine absurd trivial ?_; assumption) | skip))
   exact xy (by rw [hf]; rfl) rfl
  | false =>
   rw [hb, if_neg (by decide)] at hf
   (all_goals refine qgp ?_ <;> (repeat' first | exact trivial | intro hc | refine And.intro ?_ ?_) <;> refine Lf.mk ?_)
   (any_goals (first | (exfalso; refine Bool.false_ne_true ?_; assumption) | (exfalso; refine Bool.false_ne_true (Eq.symm ?_); assumption) | (exfalso; refine absurd trivial ?_; assumption) | skip))
   exact y5 (k + 1) ⟨by omega, hf⟩ (by omega) rfl ⟨rfl, rfl, rfl, rfl, trivial⟩
 ·rw [List.drop_of_length_le (by omega), xA] at hf
  exact xy (by rw [hf]; rfl) rfl
theorem zrL {av : List D} {L : List Ob} {KP : D → Prop} {KW : D → List Ob → Prop} (g : Nat) (caps : List D) (p : zx → Bool) (l : List zx) (c0 : Ob) (R : List Ob) (hl : l.length ≤ 1000000000)
  (hL : L = c0 :: .arr 13 (l.map xm) :: R) (has : av = [.osl 13 1 l.length 0 l.length, .fn g caps])
  (hg : ∀ s ∈ l, ∀ (KP : D → Prop) (KW : D → List Ob → Prop), KW (.bool (p s)) L → zn Tryz.prog g (xm s :: caps) L KP KW)
  (hK : KW (.int .i64 (xA p l 0)) L) : zn Tryz.prog q8 av L KP KW := by
 subst has
 refine vU zj Tryz.func76 rfl (by decide) (.int .i64 (xA p l 0)) L (Nat.le_refl _) (by simp [Tryz.f76]) (fun E hE => ?_) hK
 have hE0 : E.L.length = L.length := by rw [hE]
 subst hL
 refine zf _ ?_
 (all_goals refine qgo (Lf.mk ?_))
 refine xg (α := Nat) (fun k => k ≤ l.length ∧ xA p l 0 = xA p (l.drop k) k)
  (fun k => [(0, .osl 13 1 l.length 0 l.length), (1, .fn g caps), (7, .int .i64 l.length), (8, .int .i64 k)]) (fun _ => c0 :: .arr 13 (l.map xm) :: R) (fun k => l.length - k) (fun _ => by rw [hE0]; exact Nat.le_refl _) 0 ⟨Nat.zero_le _, by simp⟩ ?_ ?_
 ·exact yC rfl ⟨rfl, rfl, rfl, rfl, trivial⟩
 rintro k ⟨hk, hf⟩
 refine zf _ ?_
 (all_goals refine qgp ?_ <;> (repeat' first | exact trivial | intro hc | refine And.intro ?_ ?_) <;> refine Lf.mk ?_)
 ·obtain ⟨s, hsk⟩ := ya (l := l) (k := k) (by omega)
  have hkl : k < l.length := by omega
  have hget : l[k] = s := by rw [List.getElem?_eq_getElem hkl] at hsk; exact Option.some.inj hsk
  rw [List.drop_eq_getElem_cons hkl, hget, xA] at hf
  refine zl s (by omega) (by simpa using hsk) ?_
  (all_goals refine qgp (Lf.mk ?_))
  refine hg s (List.mem_of_getElem? hsk) _ _ ?_
  cases hb : p s with
  | true =>
   rw [hb, if_pos rfl] at hf
   (all_goals refine qgp ?_ <;> (repeat' first | exact trivial | intro hc | refine And.intro ?_ ?_) <;> refine Lf.mk ?_)
   (any_goals (first | (exfalso; refine Bool.false_ne_true ?_; assumption) | (exfalso; refine Bool.false_ne_true (Eq.symm ?_); assumption) | (exfalso; refine absurd trivial ?_; assumption) | skip))
   exact xy (by rw [hf]; rfl) rfl
  | false =>
   rw [hb, if_neg (by decide)] at hf
   (all_goals refine qgp ?_ <;> (repeat' first | exact trivial | intro hc | refine And.intro ?_ ?_) <;> refine Lf.mk ?_)
   (any_goals (first | (exfalso; refine Bool.false_ne_true ?_; assumption) | (exfalso; refine Bool.false_ne_true (Eq.symm ?_); assumption) | (exfalso; refine absurd trivial ?_; assumption) | skip))
   exact y5 (k + 1) ⟨by omega, hf⟩ (by omega) rfl ⟨rfl, rfl, rfl, rfl, trivial⟩
 ·rw [List.drop_of_length_le (by omega), xA] at hf
  exact xy (by rw [hf]; rfl) rfl
theorem ztv {av : List D} {L : List Ob} {KP : D → Prop} {KW : D → List Ob → Prop} (g : Nat) (caps : List D) (p : zk → Bool) (l : List zk) (hl : l.length ≤ 1000000000)
  (has : av = [.sl 2 (l.map x9) none, .fn g caps])
  (hg : ∀ s ∈ l, ∀ (KP : D → Prop) (KW : D → List Ob → Prop), KW (.bool (p s)) L → zn Tryz.prog g (x9 s :: caps) L KP KW)
  (hK : KW (.int .i64 (xA p l 0)) L) : zn Tryz.prog w0 av L KP KW := by
 subst has
 refine vU zj Tryz.func174 rfl (by decide) (.int .i64 (xA p l 0)) L (Nat.le_refl _) (by simp [Tryz.f174]) (fun E hE => ?_) hK
 have hE0 : E.L.length = L.length := by rw [hE]
 refine zf _ ?_
 (all_goals refine qgo (Lf.mk ?_))
 refine xg (α := Nat) (fun k => k ≤ l.length ∧ xA p l 0 = xA p (l.drop k) k)
  (fun k => [(0, .sl 2 (l.map x9) none), (1, .fn g caps), (7, .int .i64 l.length), (8, .int .i64 k)]) (fun _ => L) (fun k => l.length - k) (fun _ => by rw [hE0]; exact Nat.le_refl _) 0 ⟨Nat.zero_le _, by simp⟩ ?_ ?_
 ·exact yC rfl ⟨rfl, rfl, rfl, rfl, trivial⟩
 rintro k ⟨hk, hf⟩
 refine zf _ ?_
 (all_goals refine qgp ?_ <;> (repeat' first | exact trivial | intro hc | refine And.intro ?_ ?_) <;> refine Lf.mk ?_)
 ·obtain ⟨s, hsk⟩ := ya (l := l) (k := k) (by omega)
  have hkl : k < l.length := by omega
  have hget : l[k] = s := by rw [List.getElem?_eq_getElem hkl] at hsk; exact Option.some.inj hsk
  rw [List.drop_eq_getElem_cons hkl, hget, xA] at hf
  refine zl s (by omega) (by simpa using hsk) ?_
  (all_goals refine qgp (Lf.mk ?_))
  refine hg s (List.mem_of_getElem? hsk) _ _ ?_
  cases hb : p s with
  | true =>
   rw [hb, if_pos rfl] at hf
   (all_goals refine qgp ?_ <;> (repeat' first | exact trivial | intro hc | refine And.intro ?_ ?_) <;> refine Lf.mk ?_)
   (any_goals (first | (exfalso; refine Bool.false_ne_true ?_; assumption) | (exfalso; refine Bool.false_ne_true (Eq.symm ?_); assumption) | (exfalso; refine absurd trivial ?_; assumption) | skip))
   exact xy (by rw [hf]; rfl) rfl
  | false =>
   rw [hb, if_neg (by decide)] at hf
   (all_goals refine qgp ?_ <;> (repeat' first | exact trivial | intro hc | refine And.intro ?_ ?_) <;> refine Lf.mk ?_)
   (any_goals (first | (exfalso; refine Bool.false_ne_true ?_; assumption) | (exfalso; refine Bool.false_ne_true (Eq.symm ?_); assumption) | (exfalso; refine absurd trivial ?_; assumption) | skip))
   exact y5 (k + 1) ⟨by omega, hf⟩ (by omega) rfl ⟨rfl, rfl, rfl, rfl, trivial⟩
 ·rw [List.drop_of_length_le (by omega), xA] at hf
  exact xy (by rw [hf]; rfl) rfl
theorem zjz {α : Type} (p : α → Bool) : ∀ (l : List α) (k : Nat), decide (0 ≤ xA p l k) = l.any p
 | [], _ => rfl
 | x :: l, k => by
  rw [xA, List.any_cons]
  cases h : p x with
  | true => rw [if_pos rfl]; simp
  | false => rw [if_neg (by decide), zjz p l (k + 1)]; simp
theorem ztw {av : List D} {L : List Ob} {KP : D → Prop} {KW : D → List Ob → Prop} (g : Nat) (caps : List D) (p : zz → Bool) (l : List zz) (c0 c1 : Ob) (R : List Ob) (hl : l.length ≤ 1000000000)
  (hL : L = c0 :: c1 :: .arr 2 (l.map yF) :: R) (has : av = [.osl 2 2 l.length 0 l.length, .fn g caps])
  (hg : ∀ s ∈ l, ∀ (KP : D → Prop) (KW : D → List Ob → Prop), KW (.bool (p s)) L → zn Tryz.prog g (yF s :: caps) L KP KW)
  (hK : KW (.bool (l.any p)) L) : zn Tryz.prog qK av L KP KW := by
 subst has
 refine vU zj Tryz.func122 rfl (by decide) (.bool (l.any p)) L (Nat.le_refl _) (by simp [Tryz.f122]) (fun E hE => ?_) hK
 have hE0 : E.L.length = L.length := by rw [hE]
 subst hL
 refine zf _ ?_
 (all_goals refine qgo (Lf.mk ?_))
 refine zho g caps p l c0 c1 R hl rfl rfl hg ?_
 (all_goals refine qgo (Lf.mk ?_))
 exact xy (congrArg D.bool (zjz p l 0)) rfl
theorem ztx {av : List D} {L : List Ob} {KP : D → Prop} {KW : D → List Ob → Prop} (g : Nat) (caps : List D) (p : zk → Bool) (l : List zk) (hl : l.length ≤ 1000000000)
  (has : av = [.sl 2 (l.map x9) none, .fn g caps])
  (hg : ∀ s ∈ l, ∀ (KP : D → Prop) (KW : D → List Ob → Prop), KW (.bool (p s)) L → zn Tryz.prog g (x9 s :: caps) L KP KW)
  (hK : KW (.bool (l.any p)) L) : zn Tryz.prog qL av L KP KW := by
 subst has
 refine vU zj Tryz.func124 rfl (by decide) (.bool (l.any p)) L (Nat.le_refl _) (by simp [Tryz.f124]) (fun E hE => ?_) hK
 have hE0 : E.L.length = L.length := by rw [hE]
 refine zf _ ?_
 (all_goals refine qgo (Lf.mk ?_))
 refine ztv g caps p l hl rfl hg ?_
 (all_goals refine qgo (Lf.mk ?_))
 exact xy (congrArg D.bool (zjz p l 0)) rfl
attribute [local irreducible] Lib.itoa zh.kids zh.kind zh.n zh.name xf xk xb wg yy yV xQ wx wQ zL wP
def bCk (q : List zk) (b : Bld) : List D := [.sl 2 (q.map x9) none, .osl 13 1 b.items.length 0 b.items.length, .osl 2 2 b.syms.length 0 b.syms.length, .sl 1 (b.marks.map (.int .i64)) (some 3),
 .osl 1 4 (b.shut.length + 1) 0 (b.shut.length + 1), .int .i64 b.shut.length, .nilsl, .nilsl, .nilsl, .int .i64 b.fe, .int .i64 b.fa]
def bOk (k : Nat) (q : List zk) (b : Bld) (X : List Ob) : List Ob :=
 [.cells (bCk q b), .arr 13 (b.items.map xm), .arr 2 (b.syms.map yF), .spare b.marks.length, .arr 1 (b.shut.map y6 ++ [.sl 2 (b.cur.map yE) (some k)]), .dead] ++ X ++ [.spare b.cur.length]
theorem zrM (q : List zk) (b : Bld) : ClL 5 (bC q b) :=
 .cons .sl (.cons (.osl (by decide)) (.cons (.osl (by decide)) (.cons (.tok (by decide)) (.cons (.osl (by decide)) (.cons .int (.cons .nilsl (.cons .nilsl (.cons .nilsl (.cons .int (.cons .int .nil))))))))))
theorem zcR {m : Nat → Option Nat} {k k' : Nat} (hm : m k = some k') (a : List (List zq)) (c : List zq) : yg m (.arr 1 (a.map y6 ++ [.sl 2 (c.map yE) (some k)])) (.arr 1 (a.map y6 ++ [.sl 2 (c.map yE) (some k')])) := by
 refine ⟨_, rfl, by simp, fun i d d' h1 h2 => ?_⟩
 rcases Nat.lt_or_ge i (a.map y6).length with h | h
 ·rw [List.getElem?_append_left h] at h1 h2
  rw [h1] at h2
  cases h2
  obtain ⟨l, _, rfl⟩ := List.mem_map.1 (List.mem_of_getElem? h1)
  exact ⟨rfl, ClL.ren (n := 0) (.cons .sl .nil) fun k hk => absurd hk (Nat.not_lt_zero _)⟩
 ·rw [List.getElem?_append_right h] at h1 h2
  cases hi : i - (a.map y6).length with
  | zero =>
   rw [hi] at h1 h2
   cases h1
   cases h2
   refine ⟨rfl, rfl, fun i d d' g1 g2 => ?_⟩
   cases i with
   | zero =>
    cases g1
    cases g2
    have : j9 m (.sl 2 (c.map yE) (some k)) (fun d' => d' = .sl 2 (c.map yE) (some k')) := by
     show zcr m 2 (c.map yE) (some k) (zaq m (c.map yE)) (fun d' => d' = .sl 2 (c.map yE) (some k'))
     unfold zcr
     simp [hm]
    obtain ⟨d', h3, rfl⟩ := wL this
    exact h3
   | succ i => cases g1
  | succ j => rw [hi] at h1; simp at h1
theorem zrN {av : List D} {KP : D → Prop} {KW : D → List Ob → Prop} {L : List Ob} (q : List zk) (items : List zx) (syms : List zz) (marks : List Int) (shut : List (List zq)) (cur : List zq) (fe fa : Int) (x : zx) (B : Ob) (hl : items.length ≤ 1000000)
  (hL : L = bOk 7 q ⟨items, syms, marks, shut, true, cur, fe, fa⟩ [B]) (has : LeL av [.loc 0 0, xm x]) (hK : KW (.tup []) (bOk 7 q ⟨items ++ [x], syms, marks, shut, true, cur, fe, fa⟩ [B])) : zn Tryz.prog kC av L KP KW := by
 refine zdp has ?_
 subst hL
 have hp : (zJ ⟨items, syms, marks, shut, true, cur, fe, fa⟩).length = shut.length + 1 := by unfold zJ; simp
 have hk : bCk q ⟨items, syms, marks, shut, true, cur, fe, fa⟩ = bC q ⟨items, syms, marks, shut, true, cur, fe, fa⟩ := by unfold bCk bC; rw [hp]
 have hk' : bCk q ⟨items ++ [x], syms, marks, shut, true, cur, fe, fa⟩ = bC q ⟨items ++ [x], syms, marks, shut, true, cur, fe, fa⟩ := by unfold bCk bC; rw [show (zJ ⟨items ++ [x], syms, marks, shut, true, cur, fe, fa⟩).length = shut.length + 1 from hp]
 refine zuC (.tup []) _ (fun w ρ vs hf hr => ?_) zef.can hK
 have key : ∀ k, k < 5 → zD [0, 1, 2, 3, 4, 7] 0 k = some k := by decide
 have key' : ∀ k, k < 5 → vj [0, 1, 2, 3, 4, 7] k = some k := by decide
 refine jJ zef (ks := [0, 1, 2, 3, 4, 7]) (js := [0, 1, 2, 3, 4, 7]) (as1 := [.loc 0 0, xm x]) (L1 := bO q ⟨items, syms, marks, shut, true, cur, fe, fa⟩) (d1 := .tup []) (d := .tup []) (L := bOk 7 q ⟨items, syms, marks, shut, true, cur, fe, fa⟩ [B]) (L' := bOk 7 q ⟨items ++ [x], syms, marks, shut, true, cur, fe, fa⟩ [B]) (L1' := bO q ⟨items ++ [x], syms, marks, shut, true, cur, fe, fa⟩)
  rfl (by intro k hk; show k < 8; revert k; decide) (fun _ _ => rfl) (fun i j h => by simp at h) ?_ rfl (fun i o' ho => ?_) ⟨(⟨items, syms, marks, shut, true, cur, fe, fa⟩, x, q), hl, LeL.refl _, rfl, rfl, rfl⟩ ?_ (Nat.le_refl 6) rfl (fun k hk hn => ?_) (fun i k hi => ?_) (fun i o ho => ?_) hf hr
 ·exact ClL.ren (n := 1) (.cons (.loc (by decide)) (.cons (zmJ x) .nil)) fun k hk => key k (by omega)
 ·match i, ho with
  | 0, ho => cases ho; exact ⟨0, _, rfl, rfl, by rw [hk]; exact ClO.cells (zrM _ _) _ key⟩
  | 1, ho => cases ho; exact ⟨1, _, rfl, rfl, ClO.arr (ke _) _ key⟩
  | 2, ho => cases ho; exact ⟨2, _, rfl, rfl, ClO.arr (jy _) _ key⟩
  | 3, ho => cases ho; exact ⟨3, _, rfl, rfl, rfl⟩
  | 4, ho => cases ho; exact ⟨4, _, rfl, rfl, zcR (k := 7) (k' := 5) (m := zD [0, 1, 2, 3, 4, 7] 0) rfl shut cur⟩
  | 5, ho => cases ho; exact ⟨7, _, rfl, rfl, rfl⟩
  | i + 6, ho => simp [bO, bT] at ho
 ·exact ClD.tup0 _ key'
 ·match k, hk, hn with
  | 0, _, hn => exact absurd (by decide) hn
  | 1, _, hn => exact absurd (by decide) hn
  | 2, _, hn => exact absurd (by decide) hn
  | 3, _, hn => exact absurd (by decide) hn
  | 4, _, hn => exact absurd (by decide) hn
  | 5, _, _ => rfl
  | 6, _, _ => rfl
  | 7, _, hn => exact absurd (by decide) hn
  | k + 8, hk, _ => exact absurd hk (by simp [bOk])
 ·match i, hi with
  | 0, hi => cases hi; exact ⟨_, _, rfl, rfl, by rw [hk']; exact ClO.cells (zrM _ _) _ key'⟩
  | 1, hi => cases hi; exact ⟨_, _, rfl, rfl, ClO.arr (ke _) _ key'⟩
  | 2, hi => cases hi; exact ⟨_, _, rfl, rfl, ClO.arr (jy _) _ key'⟩
  | 3, hi => cases hi; exact ⟨_, _, rfl, rfl, rfl⟩
  | 4, hi => cases hi; exact ⟨_, _, rfl, rfl, zcR (k := 5) (k' := 7) (m := vj [0, 1, 2, 3, 4, 7]) rfl shut cur⟩
  | 5, hi => cases hi; exact ⟨_, _, rfl, rfl, rfl⟩
  | i + 6, hi => simp at hi
 ·simp [bO, bT] at ho
theorem zty : za Tryz.prog qd (yh (fun ((b, _, _, _, _) : Bld × zq × Int × Int × List zk) => b.has = false ∧ b.cur = [] ∧ b.items.length ≤ 1000000 ∧ b.shut.length ≤ 1000000) (fun (_, v, reg, line, _) => [.loc 0 0, yE v, .int .i64 reg, .int .i64 line])
  (fun (b, _, _, _, q) => bO q b) (fun _ => .tup []) fun (b, v, reg, line, q) => bOk 6 q (kb b v reg line) []) := by
 refine zg zj Tryz.func128 rfl (by decide) ?_
 rintro ⟨⟨items, syms, marks, shut, has, cur, fe, fa⟩, v, reg, line, q⟩ ⟨hh, hcu, hl, hp⟩
 have hh : has = false := hh
 subst hh
 have hcu : cur = [] := hcu
 subst hcu
 have hl : items.length ≤ 1000000 := hl
 have hp : shut.length ≤ 1000000 := hp
 have hlen : (zJ ⟨items, syms, marks, shut, false, [], fe, fa⟩).length = shut.length := by unfold zJ; simp
 refine ⟨by show 6 ≤ 7; decide, by simp [Tryz.f128], fun E hE => ?_⟩
 refine zf _ ?_
 (all_goals refine qgp ?_ <;> (repeat' first | exact trivial | intro hc | refine And.intro ?_ ?_) <;> refine Lf.mk ?_)
 have hget : (zJ ⟨items, syms, marks, shut, false, [], fe, fa⟩ ++ [.nilsl])[shut.length]? = some .nilsl := by
  show (shut.map y6 ++ [D.nilsl])[shut.length]? = _
  simp
 refine wC (d := .nilsl) (Int.natCast_nonneg _) (by simpa using hget) ?_
 (all_goals refine qgp (Lf.mk ?_))
 refine ze zfz ([], v) (by show (0 : Nat) ≤ _; decide) (VS.mk (.cons (.nil 2) (LeL.refl _))) ?_
 have hidx : wg v [] 0 = -1 := by rw [wg]
 have s1 : wQ v [] = 0 := by unfold wQ; rw [hidx]; rfl
 have s2 : wP v [] = [v] := by unfold wP; rw [hidx]; rfl
 dsimp only
 rw [hidx]
 (all_goals refine qgk ?_ <;> (repeat' first | exact trivial | intro hc | refine And.intro ?_ ?_) <;> refine Lf.mk ?_)
 ·refine wC (d := .nilsl) (Int.natCast_nonneg _) (by simpa using hget) ?_
  (all_goals refine qgk (Lf.mk ?_))
  refine wC (d := .nilsl) (Int.natCast_nonneg _) (by simpa using hget) ?_
  (all_goals refine qgk (Lf.mk ?_))
  refine wM ([v].map yE) rfl ?_
  (all_goals refine qgk (Lf.mk ?_))
  refine wC (d := .nilsl) (Int.natCast_nonneg _) (by simpa using hget) ?_
  (all_goals refine qgp (Lf.mk ?_))
  have hset : (zJ ⟨items, syms, marks, shut, false, [], fe, fa⟩ ++ [D.nilsl]).set (0 + ((shut.length : Nat) : Int).toNat) (.sl 2 ([v].map yE) (some 7)) = shut.map y6 ++ [.sl 2 ([v].map yE) (some 7)] := by
   show (shut.map y6 ++ [D.nilsl]).set _ _ = _
   rw [Nat.zero_add, Int.toNat_natCast, List.set_append_right _ _ (by simp)]
   simp
  have hlen2 : (zJ ⟨items, syms, marks, shut, false, [], fe, fa⟩ ++ [D.nilsl]).length = shut.length + 1 := by rw [List.length_append, hlen]; rfl
  have e : ∀ (P : List D) (n : Nat), P = shut.map y6 ++ [.sl 2 ([v].map yE) (some 7)] → n = shut.length + 1 → [Ob.cells [.sl 2 (q.map x9) none, .osl 13 1 items.length 0 items.length, .osl 2 2 syms.length 0 syms.length,
    .sl 1 (marks.map (.int .i64)) (some 3), .osl 1 4 n 0 n, .int .i64 shut.length, .nilsl, .nilsl, .nilsl, .int .i64 fe, .int .i64 fa], .arr 13 (items.map xm), .arr 2 (syms.map yF), .spare marks.length, .arr 1 P, .dead,
    .cells [.str v.name, .int .i64 v.n], .spare 1] = bOk 7 q ⟨items, syms, marks, shut, true, [v], fe, fa⟩ [.cells [.str v.name, .int .i64 v.n]] := by
   rintro _ _ rfl rfl
   rfl
  refine zrN q items syms marks shut [v] fe fa ⟨6, 0, line, ⟨24, reg, 0, 0⟩, false, 0, noV, shut.length, 0⟩ (.cells [.str v.name, .int .i64 v.n]) hl (e _ _ hset hlen2) yJ ?_
  (all_goals refine qgp (Lf.mk ?_))
  have key' : ∀ k, k < 5 → zD [0, 1, 2, 3, 4, 5, 7] 0 k = some k := by decide
  have hlit : kb ⟨items, syms, marks, shut, false, [], fe, fa⟩ v reg line = ⟨items ++ [⟨6, 0, line, ⟨24, reg, 0, 0⟩, false, 0, noV, shut.length, 0⟩], syms, marks, shut, true, [v], fe, fa⟩ := by
   unfold kb xu
   rw [s1, s2]
  show zE _ _ _ _ (bOk 6 q (kb ⟨items, syms, marks, shut, false, [], fe, fa⟩ v reg line) [])
  rw [hlit]
  refine zfi [0, 1, 2, 3, 4, 5, 7] rfl rfl ?_ (ClD.tup0 (n := 5) _ key')
  refine .cons (o := .cells (bCk q ⟨items ++ [⟨6, 0, line, ⟨24, reg, 0, 0⟩, false, 0, noV, shut.length, 0⟩], syms, marks, shut, true, [v], fe, fa⟩)) rfl (ClO.cells (n := 5) ?_ _ key') (.cons (o := .arr 13 _) rfl (ClO.arr (n := 5) (ke _) _ key') (.cons (o := .arr 2 _) rfl (ClO.arr (n := 5) (jy _) _ key') (.cons (o := .spare _) rfl rfl
   (.cons (o := .arr 1 _) rfl (zcR (k := 7) (k' := 6) rfl _ _) (.cons (o := .dead) rfl rfl (.cons (o := .spare _) rfl rfl .nil))))))
  exact .cons .sl (.cons (.osl (by decide)) (.cons (.osl (by decide)) (.cons (.tok (by decide)) (.cons (.osl (by decide)) (.cons .int (.cons .nilsl (.cons .nilsl (.cons .nilsl (.cons .int (.cons .int .nil))))))))))
 ·exact absurd (by decide) hc
theorem ztz {l : List AOp} {k : Nat} {o : AOp} (h : l[k]? = some o) : x1 (l.take (k + 1)) = x1 (l.take k) ++ sgA o := by
 unfold x1
 rw [List.take_add_one, h]
 simp
theorem zwg {o : AOp} (h : o.sign.length ≤ 1) : (sgA o).length = 1 := by
 unfold sgA
 split
 ·rfl
 ·rename_i hn
  cases hs : o.sign with
  | nil => exact absurd hs hn
  | cons c r => rw [hs] at h; simp at h ⊢; exact h
theorem zgi : ∀ {l : List AOp}, (∀ o ∈ l, o.sign.length ≤ 1) → (x1 l).length = l.length
 | [], _ => rfl
 | o :: l, h => by
  have h1 := zwg (h o List.mem_cons_self)
  have h2 := zgi (l := l) fun x hx => h x (List.mem_cons_of_mem _ hx)
  unfold x1 at h2 ⊢
  rw [List.map_cons, List.flatten_cons, List.length_append, h1, h2, List.length_cons]
  omega
theorem zmM : za Tryz.prog zl6 (zA (fun l : List AOp => l.length ≤ 1000000 ∧ ∀ o ∈ l, o.sign.length ≤ 1) (fun l => [.sl 4 (l.map vX) none]) fun l => .sl 1 ((yL (x1 l)).map (.int .i64)) none) := by
 refine zg zj Tryz.func129 rfl (by decide) ?_
 rintro l ⟨hl, hs⟩
 refine ⟨Nat.le_refl _, by simp [Tryz.f129], fun E hE => ?_⟩
 refine zf _ ?_
 (all_goals refine qgo (Lf.mk ?_))
 refine z8 (α := Nat) (fun k => k ≤ l.length) (fun k => [(6, .sl 4 (l.map vX) none), (7, .int .i64 l.length), (8, .int .i64 k), (3, .str (x1 (l.take k)))]) (fun _ => []) (fun k => l.length - k) (fun _ => by simp [hE]) 0 (Nat.zero_le _) ?_ ?_
 ·(repeat' (first | (refine VS.mk ?_) | exact trivial | exact rfl | refine And.intro ?_ ?_))
 rintro k hk
 have hk : k ≤ l.length := hk
 have hlen : (x1 (l.take k)).length ≤ 1000000 := by
  rw [zgi fun o ho => hs o (List.mem_of_mem_take ho), List.length_take]; omega
 refine zf _ ?_
 (all_goals refine qgo ?_ <;> (repeat' first | exact trivial | intro hc | refine And.intro ?_ ?_) <;> refine Lf.mk ?_)
 ·obtain ⟨o, ho⟩ := ya (l := l) (k := k) (by omega)
  have hstep := ztz ho
  have hs1 := hs o (List.mem_of_getElem? ho)
  refine zl o (by omega) (by simpa using ho) ?_
  (all_goals refine qgo ?_ <;> (repeat' first | exact trivial | intro hc | refine And.intro ?_ ?_) <;> refine Lf.mk ?_)
  ·refine zh4 (by simp only [List.length_cons, List.length_nil]; omega) ?_
   (all_goals refine qgo (Lf.mk ?_))
   refine zC (k + 1) (by show k + 1 ≤ _; omega) (by omega) ?_
   rw [hstep, show sgA o = [112] by unfold sgA; rw [if_pos hc]]
   (repeat' (first | (refine VS.mk ?_) | exact trivial | exact rfl | refine And.intro ?_ ?_))
  ·refine zh4 (by omega) ?_
   (all_goals refine qgo (Lf.mk ?_))
   refine zC (k + 1) (by show k + 1 ≤ _; omega) (by omega) ?_
   rw [hstep, show sgA o = o.sign by unfold sgA; rw [if_neg hc]]
   (repeat' (first | (refine VS.mk ?_) | exact trivial | exact rfl | refine And.intro ?_ ?_))
 all_goals
  have hk2 : k = l.length := by omega
  clear hlen
  subst hk2
  simp only [List.take_length] at *
  refine zb (VS.mk ?_)
  unfold yL
  (repeat (first | (rw [if_pos (by assumption)]) | (rw [if_neg (by assumption)])))
  first
   | exact LeD.of_eq rfl
   | exact LeD.nil 1
def vo (q : List zk) (b b' : Bld) : List Ob := if b.has = false ∧ b'.has = true then bOk 6 q b' [] else bO q b'
theorem zmN (q : List zk) (b b' : Bld) : 6 ≤ (vo q b b').length := by
 unfold vo
 split
 ·exact Nat.le_succ 6
 ·exact Nat.le_refl 6
theorem vc {q : List zk} {b b' : Bld} (h : b'.has = b.has) : vo q b b' = bO q b' := by
 unfold vo
 rw [if_neg fun e => by rw [h, e.1] at e; exact absurd e.2 (by decide)]
theorem ztA {q : List zk} {b b' : Bld} (h : b.has = true) : vo q b b' = bO q b' := by
 unfold vo
 rw [if_neg fun e => by rw [h] at e; exact absurd e.1 (by decide)]
theorem zeh {q : List zk} {b b' : Bld} (h : b.has = false) (h' : b'.has = true) : vo q b b' = bOk 6 q b' [] := by
 unfold vo
 rw [if_pos ⟨h, h'⟩]
theorem kg (b : Bld) (e line : Int) : (yA b e line).has = b.has := by unfold yA; split <;> rfl
structure InB (b : Bld) : Prop where
 cur : b.has = false → b.cur = []
 items : b.items.length ≤ 1000000
 shut : b.shut.length ≤ 1000000
 curl : b.cur.length ≤ 1000000
theorem zp6 : za Tryz.prog qd (yh (fun ((b, _, _, _, _) : Bld × zq × Int × Int × List zk) => InB b) (fun (_, v, reg, line, _) => [.loc 0 0, yE v, .int .i64 reg, .int .i64 line])
  (fun (b, _, _, _, q) => bO q b) (fun _ => .tup []) fun (b, v, reg, line, q) => vo q b (kb b v reg line)) := by
 refine zsU zrK zty ?_
 rintro av L d L' ⟨⟨b, v, reg, line, q⟩, h, h1, h2, h3, h4⟩
 cases hb : b.has with
 | true => exact .inl ⟨(b, v, reg, line, q), ⟨hb, h.items, h.shut, h.curl⟩, h1, h2, h3, by rw [h4]; exact ztA hb⟩
 | false => exact .inr ⟨(b, v, reg, line, q), ⟨hb, h.cur hb, h.items, h.shut⟩, h1, h2, h3, by rw [h4]; exact zeh hb rfl⟩
theorem zoV (name : List UInt8) : ∀ (L : List Int) (p : Int × Int), xI name L p = p ∨ (xI name L p).2 ∈ L
 | [], p => .inl rfl
 | s :: L, p => by
  rw [xI]
  rcases zoV name L (if 0 < wO name s then (wO name s, s) else p) with h | h
  ·rw [h]
   split
   ·exact .inr List.mem_cons_self
   ·exact .inl rfl
  ·exact .inr (List.mem_cons_of_mem _ h)
theorem zrO (s : List UInt8) : ∀ x ∈ yL s, (x = 0 ∧ s.length = 0) ∨ ((x = 3 ∨ x = 4 ∨ x = 5 ∨ x = 6 ∨ x = 11) ∧ s.length = 1) ∨ ((x = 1 ∨ x = 2 ∨ x = 7 ∨ x = 8 ∨ x = 9 ∨ x = 10) ∧ s.length = 2) := by
 intro x hx
 unfold yL at hx
 repeat' split at hx
 all_goals first
  | (rename_i h; subst h; simp at hx; subst hx; decide)
  | (rename_i h; subst h; simp at hx; rcases hx with rfl | rfl <;> decide)
  | simp at hx
theorem zvd {name : List UInt8} {l : List AOp} (h : ∀ o ∈ l, o.sign.length ≤ 1) {S : Int × Int} (hS : xI name (yL (x1 l)) (0, 0) = S) : (S.1 = 0 ∧ S.2 = 0) ∨ (S.2 = 0 ∧ l.length = 0) ∨ ((S.2 = 3 ∨ S.2 = 4 ∨ S.2 = 5 ∨ S.2 = 6 ∨ S.2 = 11) ∧ l.length = 1) ∨
  ((S.2 = 1 ∨ S.2 = 2 ∨ S.2 = 7 ∨ S.2 = 8 ∨ S.2 = 9 ∨ S.2 = 10) ∧ l.length = 2) := by
 subst hS
 rcases zoV name (yL (x1 l)) (0, 0) with h1 | h1
 ·rw [h1]; exact .inl ⟨rfl, rfl⟩
 ·have := zrO _ _ h1
  rw [zgi h] at this
  exact .inr this
theorem zrP {av : List D} {L : List Ob} {KP : D → Prop} {KW : D → List Ob → Prop} (name : List UInt8) (s : Int) (has : av = [.str name, .int .i64 s]) (hK : KP (.int .i64 (wO name s))) : zn Tryz.prog zil av L KP KW := by
 subst has
 exact ze zpW (name, s) trivial (VS.mk (LeL.of_eq rfl)) hK
attribute [local irreducible] wO yU
def zmO : List (D × D) := [(.int .i64 4, .int .i64 2), (.int .i64 5, .int .i64 3)]
theorem zmP {s : Int} (h : s = 4) : vS (.int .i64 s) zmO = some (.int .i64 2) := by subst h; rfl
theorem zmQ {s : Int} (h : s = 5) : vS (.int .i64 s) zmO = some (.int .i64 3) := by subst h; rfl
def zjA : List (D × D) := [(.int .i64 5, .int .i64 3), (.int .i64 4, .int .i64 2)]
theorem zkU {s : Int} (h : s = 5) : vS (.int .i64 s) zjA = some (.int .i64 3) := by subst h; rfl
theorem zkV {s : Int} (h : s = 4) : vS (.int .i64 s) zjA = some (.int .i64 2) := by subst h; rfl
def zmR : List (D × D) := [(.int .i64 7, .int .i64 4), (.int .i64 8, .int .i64 5)]
theorem zmS {s : Int} (h : s = 7) : vS (.int .i64 s) zmR = some (.int .i64 4) := by subst h; rfl
theorem zmT {s : Int} (h : s = 8) : vS (.int .i64 s) zmR = some (.int .i64 5) := by subst h; rfl
def zjB : List (D × D) := [(.int .i64 8, .int .i64 5), (.int .i64 7, .int .i64 4)]
theorem zkW {s : Int} (h : s = 8) : vS (.int .i64 s) zjB = some (.int .i64 5) := by subst h; rfl
theorem zkX {s : Int} (h : s = 7) : vS (.int .i64 s) zjB = some (.int .i64 4) := by subst h; rfl
theorem zwh {op sh line : Int} {l : List AOp} (h : sh = 1) : wF op sh l line = ⟨1, 0, line, ⟨op, (aop l 1).reg, 0, (aop l 0).val.n⟩, false, 0, (aop l 0).val, 0, 0⟩ := by subst h; rfl
theorem zwi {op sh line : Int} {l : List AOp} (h : sh = 2 ∨ sh = 9 ∨ sh = 10) : wF op sh l line = ⟨1, 0, line, ⟨op, (aop l 1).reg, (aop l 0).reg, 0⟩, false, 0, noV, 0, 0⟩ := by rcases h with rfl | rfl | rfl <;> rfl
theorem zwj {op sh line : Int} {l : List AOp} (h : sh = 3 ∨ sh = 6) : wF op sh l line = ⟨1, 0, line, ⟨op, (aop l 0).reg, 0, 0⟩, false, 0, noV, 0, 0⟩ := by rcases h with rfl | rfl <;> rfl
theorem zwk {op sh line : Int} {l : List AOp} (h : sh = 4) : wF op sh l line = ⟨2, 0, line, ⟨op, 0, 0, 0⟩, false, 0, (aop l 0).val, 0, 0⟩ := by subst h; rfl
theorem zwl {op sh line : Int} {l : List AOp} (h : sh = 5) : wF op sh l line = ⟨3, 0, line, ⟨op, 0, 0, 0⟩, false, 0, (aop l 0).val, 0, 0⟩ := by subst h; rfl
theorem zwm {op sh line : Int} {l : List AOp} (h : sh = 7) : wF op sh l line = ⟨4, 0, line, ⟨op, (aop l 1).reg, 0, 0⟩, false, 0, (aop l 0).val, 0, 0⟩ := by subst h; rfl
theorem zwn {op sh line : Int} {l : List AOp} (h : sh = 8) : wF op sh l line = ⟨5, 0, line, ⟨op, (aop l 1).reg, 0, 0⟩, false, 0, (aop l 0).val, 0, 0⟩ := by subst h; rfl
theorem zve {op sh line : Int} {l : List AOp} (h : sh = 11) : wF op sh l line = ⟨1, 0, line, ⟨op, 0, 0, (aop l 0).val.n⟩, false, 0, (aop l 0).val, 0, 0⟩ := by subst h; rfl
theorem zwo {op sh line : Int} {l : List AOp} (h : sh = 0) : wF op sh l line = ⟨1, 0, line, ⟨op, 0, 0, 0⟩, false, 0, noV, 0, 0⟩ := by subst h; rfl
theorem zp7 (s : List UInt8) : (yL s).length ≤ 2 := by
 unfold yL
 repeat' split
 all_goals decide
theorem zgK : za Tryz.prog j0 (yh (fun ((b, _, l, _, _) : Bld × List UInt8 × List AOp × Int × List zk) => InB b ∧ l.length ≤ 1000000 ∧ ∀ o ∈ l, o.sign.length ≤ 1) (fun (_, name, l, line, _) => [.loc 0 0, .str name, .sl 4 (l.map vX) none, .int .i64 line])
  (fun (b, _, _, _, q) => bO q b) (fun _ => .tup []) fun (b, name, l, line, q) => vo q b (xp b name l line)) := by
 refine zg zj Tryz.func67 rfl (by decide) ?_
 rintro ⟨b, name, l, line, q⟩ ⟨hb, hl, hs⟩
 have hl : l.length ≤ 1000000 := hl
 have hs : ∀ o ∈ l, o.sign.length ≤ 1 := hs
 refine ⟨zmN _ _ _, by simp [Tryz.f67], fun E hE => ?_⟩
 have hE6 : E.L.length = 6 := by rw [hE]; rfl
 have hget : ∀ k : Nat, k < l.length → l[k]? = some (aop l k) := fun k hk => by unfold aop; rw [List.getElem?_eq_getElem hk]; rfl
 refine zdq (α := Unit) (fun _ => ¬ (name = [109, 111, 118, 46, 108] ∧ l.length = 2 ∧ (aop l 0).sign = [61] ∧ (aop l 1).sign = [114]))
  (fun _ => [(0, .loc 0 0), (1, .str name), (2, .sl 4 (l.map vX) none), (3, .int .i64 line)]) (fun _ => bO q b) ?_ ?_
 ·refine zf _ ?_
  (all_goals refine qgp ?_ <;> (repeat' first | exact trivial | intro hc | refine And.intro ?_ ?_) <;> refine Lf.mk ?_)
  ·refine zl (aop l 0) (by decide) (hget 0 (by omega)) ?_
   (all_goals refine qgp ?_ <;> (repeat' first | exact trivial | intro hc | refine And.intro ?_ ?_) <;> refine Lf.mk ?_)
   ·refine zl (aop l 1) (by decide) (hget 1 (by omega)) ?_
    (all_goals refine qgp ?_ <;> (repeat' first | exact trivial | intro hc | refine And.intro ?_ ?_) <;> refine Lf.mk ?_)
    ·refine zl (aop l 0) (by decide) (hget 0 (by omega)) ?_
     (all_goals refine qgp (Lf.mk ?_))
     refine zl (aop l 1) (by decide) (hget 1 (by omega)) ?_
     (all_goals refine qgp (Lf.mk ?_))
     refine zlU zp6 (b, (aop l 0).val, (aop l 1).reg, line, q) hb rfl (LeL.refl _) ?_
     (all_goals refine qgp (Lf.mk ?_))
     refine xy rfl ?_
     show vo q b _ = vo q b (xp b name l line)
     unfold xp
     rw [if_pos ⟨by assumption, by omega, by assumption, by assumption⟩]
    ·exact ⟨(), fun h => absurd h.2.2.2 hc, yC rfl ⟨rfl, rfl, rfl, rfl, trivial⟩⟩
   ·exact ⟨(), fun h => absurd h.2.2.1 hc, yC rfl ⟨rfl, rfl, rfl, rfl, trivial⟩⟩
  ·exact ⟨(), fun h => by have := h.2.1; omega, yC rfl ⟨rfl, rfl, rfl, rfl, trivial⟩⟩
  ·exact ⟨(), fun h => absurd h.1 hc, yC rfl ⟨rfl, rfl, rfl, rfl, trivial⟩⟩
 ·rintro _ hM
  have hgo : xp b name l line = if (xI name (yL (x1 l)) (0, 0)).1 = 0 then yA b 1 line else if ((xI name (yL (x1 l)) (0, 0)).2 = 1 ∨ (xI name (yL (x1 l)) (0, 0)).2 = 11) ∧ (aop l 0).val.name ≠ [] then yA b 8 line
    else if yU (wF (xI name (yL (x1 l)) (0, 0)).1 (xI name (yL (x1 l)) (0, 0)).2 l line).ins = 0 then xu b (wF (xI name (yL (x1 l)) (0, 0)).1 (xI name (yL (x1 l)) (0, 0)).2 l line)
    else yA b (yU (wF (xI name (yL (x1 l)) (0, 0)).1 (xI name (yL (x1 l)) (0, 0)).2 l line).ins) line := by
   unfold xp
   rw [if_neg hM]
  have hB : vo q b (xp b name l line) = bO q (xp b name l line) := by
   refine vc ?_
   rw [hgo]
   repeat' split
   all_goals first | rw [kg] | rfl
  show AWP _ _ _ _ (qa _ _ _ _ (vo q b (xp b name l line))) _ _
  rw [hB]
  generalize xp b name l line = B at *
  refine zf _ ?_
  (all_goals refine qgp (Lf.mk ?_))
  refine ze zmM l ⟨hl, hs⟩ (VS.mk (LeL.of_eq rfl)) ?_
  have hlen := zgi hs
  have hS0 := zvd hs (name := name) rfl
  have hTl := zp7 (x1 l)
  generalize hS : xI name (yL (x1 l)) (0, 0) = S at *
  generalize hT : yL (x1 l) = T at *
  (all_goals refine qgp (Lf.mk ?_))
  refine xg (α := Nat × Int × Int) (fun p => p.1 ≤ T.length ∧ xI name (T.drop p.1) p.2 = S) (fun p => [(48, .sl 1 (T.map (.int .i64)) none), (49, .int .i64 T.length), (50, .int .i64 p.1), (8, .int .i64 p.2.1), (9, .int .i64 p.2.2), (0, .loc 0 0), (1, .str name), (2, .sl 4 (l.map vX) none), (3, .int .i64 line)])
   (fun _ => bO q b) (fun p => T.length - p.1) (fun _ => by rw [hE6]; exact Nat.le_refl 6) (0, 0, 0) ⟨Nat.zero_le _, hS⟩ ?_ ?_
  ·exact yC rfl ⟨rfl, rfl, rfl, rfl, rfl, rfl, rfl, rfl, rfl, trivial⟩
  rintro ⟨k, o, sh⟩ ⟨hk, hp⟩
  dsimp only at hk hp ⊢
  refine zf _ ?_
  (all_goals refine zxc ?_ <;> (repeat' first | exact trivial | intro hc | refine And.intro ?_ ?_) <;> refine Lf.mk ?_)
  ·obtain ⟨x, hx⟩ := ya (l := T) (k := k) (by omega)
   have hkl : k < T.length := by omega
   have hgx : T[k] = x := by rw [List.getElem?_eq_getElem hkl] at hx; exact Option.some.inj hx
   rw [List.drop_eq_getElem_cons hkl, hgx, xI] at hp
   refine zl x (by omega) (by simpa using hx) ?_
   (all_goals refine qgp (Lf.mk ?_))
   refine zrP name x rfl ?_
   (all_goals refine qgp ?_ <;> (repeat' first | exact trivial | intro hc | refine And.intro ?_ ?_) <;> refine Lf.mk ?_)
   ·rw [if_pos (by omega)] at hp
    exact y5 (k + 1, wO name x, x) ⟨by show k + 1 ≤ _; omega, hp⟩ (by dsimp only; omega) rfl ⟨rfl, rfl, rfl, rfl, rfl, rfl, rfl, rfl, rfl, trivial⟩
   ·rw [if_neg (by omega)] at hp
    exact y5 (k + 1, o, sh) ⟨by show k + 1 ≤ _; omega, hp⟩ (by dsimp only; omega) rfl ⟨rfl, rfl, rfl, rfl, rfl, rfl, rfl, rfl, rfl, trivial⟩
  all_goals
   have hk2 : k = T.length := by omega
   rw [hk2, List.drop_length, xI] at hp
   obtain ⟨rfl, rfl⟩ : o = S.1 ∧ sh = S.2 := by rw [← hp]; exact ⟨rfl, rfl⟩
  all_goals first
   | (have hS4 : S.2 = 4 ∨ S.2 = 5 := by omega
      refine zqX ?_; refine zlJ zj mixed 1 2 [0, 2, 1, 3, 4, 5, 6, 7, 8, 9, 10, 11, 12, 13] [0, 2, 1, 3, 4, 5, 6, 7, 8, 9, 10, 11, 12, 13] rfl rfl rfl ?_ ?_)
   | (have hS7 : S.2 = 7 ∨ S.2 = 8 := by omega
      refine zqX ?_; refine zlJ zj mixed 1 2 [0, 2, 1, 3, 4, 5, 6, 7, 8, 9, 10, 11, 12, 13, 14, 15, 16, 17, 18, 19, 20] [0, 2, 1, 3, 4, 5, 6, 7, 8, 9, 10, 11, 12, 13, 14, 15, 16, 17, 18, 19, 20] rfl rfl rfl ?_ ?_)
   | (refine zcx ?_)
   | skip
  all_goals (try (all_goals refine qgo (Lf.mk ?_)))
  all_goals (try (refine jG (show _ = [(D.int .i64 4, D.int .i64 2)] from rfl) ?_; (all_goals refine qgo (Lf.mk ?_)); refine jG (show _ = zmO from rfl) ?_; (all_goals refine qgo (Lf.mk ?_)); first | (refine kn (zmP (show S.2 = 4 by omega)) ?_) | (refine kn (zmQ (show S.2 = 5 by omega)) ?_)))
  all_goals (try (refine jG (show _ = [(D.int .i64 5, D.int .i64 3)] from rfl) ?_; (all_goals refine qgo (Lf.mk ?_)); refine jG (show _ = zjA from rfl) ?_; (all_goals refine qgo (Lf.mk ?_)); first | (refine kn (zkU (show S.2 = 5 by omega)) ?_) | (refine kn (zkV (show S.2 = 4 by omega)) ?_)))
  all_goals (try (refine jG (show _ = [(D.int .i64 7, D.int .i64 4)] from rfl) ?_; (all_goals refine qgo (Lf.mk ?_)); refine jG (show _ = zmR from rfl) ?_; (all_goals refine qgo (Lf.mk ?_)); first | (refine kn (zmS (show S.2 = 7 by omega)) ?_) | (refine kn (zmT (show S.2 = 8 by omega)) ?_)))
  all_goals (try (refine jG (show _ = [(D.int .i64 8, D.int .i64 5)] from rfl) ?_; (all_goals refine qgo (Lf.mk ?_)); refine jG (show _ = zjB from rfl) ?_; (all_goals refine qgo (Lf.mk ?_)); first | (refine kn (zkW (show S.2 = 8 by omega)) ?_) | (refine kn (zkX (show S.2 = 7 by omega)) ?_)))
  all_goals (try (all_goals refine qgo (Lf.mk ?_)))
  all_goals (try (refine zl (aop l 0) (by decide) (hget 0 (by omega)) ?_; (all_goals refine qgo ?_ <;> (repeat' first | exact trivial | intro hc | refine And.intro ?_ ?_) <;> refine Lf.mk ?_)))
  all_goals (try (exfalso; first | omega | exact absurd trivial (by assumption)))
  all_goals (try (refine zl (aop l 1) (by decide) (hget 1 (by omega)) ?_; (all_goals refine qgo ?_ <;> (repeat' first | exact trivial | intro hc | refine And.intro ?_ ?_) <;> refine Lf.mk ?_)))
  all_goals (try (exfalso; first | omega | exact absurd trivial (by assumption)))
  all_goals (try (refine zl (aop l 0) (by decide) (hget 0 (by omega)) ?_; (all_goals refine qgo ?_ <;> (repeat' first | exact trivial | intro hc | refine And.intro ?_ ?_) <;> refine Lf.mk ?_)))
  all_goals (try (exfalso; first | omega | exact absurd trivial (by assumption)))
  all_goals (try (refine zl (aop l 1) (by decide) (hget 1 (by omega)) ?_; (all_goals refine qgo ?_ <;> (repeat' first | exact trivial | intro hc | refine And.intro ?_ ?_) <;> refine Lf.mk ?_)))
  all_goals (try (exfalso; first | omega | exact absurd trivial (by assumption)))
  all_goals (try (refine yQ q b 1 line [] rfl rfl ?_; (all_goals refine qgp (Lf.mk ?_)); exact zS [] rfl (by rw [hgo, if_pos (by assumption)]) rfl (Nat.le_of_eq rfl) .tup0))
  all_goals first
   | (have hd := zwh (op := S.1) (line := line) (l := l) (show S.2 = 1 by omega); rw [hd] at hgo; clear hd; rw [if_neg (by omega)] at hgo)
   | (have hd := zwi (op := S.1) (line := line) (l := l) (show S.2 = 2 ∨ S.2 = 9 ∨ S.2 = 10 by omega); rw [hd] at hgo; clear hd; rw [if_neg (by omega)] at hgo)
   | (have hd := zwj (op := S.1) (line := line) (l := l) (show S.2 = 3 ∨ S.2 = 6 by omega); rw [hd] at hgo; clear hd; rw [if_neg (by omega)] at hgo)
   | (have hd := zwk (op := S.1) (line := line) (l := l) (show S.2 = 4 by omega); rw [hd] at hgo; clear hd; rw [if_neg (by omega)] at hgo)
   | (have hd := zwl (op := S.1) (line := line) (l := l) (show S.2 = 5 by omega); rw [hd] at hgo; clear hd; rw [if_neg (by omega)] at hgo)
   | (have hd := zwm (op := S.1) (line := line) (l := l) (show S.2 = 7 by omega); rw [hd] at hgo; clear hd; rw [if_neg (by omega)] at hgo)
   | (have hd := zwn (op := S.1) (line := line) (l := l) (show S.2 = 8 by omega); rw [hd] at hgo; clear hd; rw [if_neg (by omega)] at hgo)
   | (have hd := zve (op := S.1) (line := line) (l := l) (show S.2 = 11 by omega); rw [hd] at hgo; clear hd; rw [if_neg (by omega)] at hgo)
   | (have hd := zwo (op := S.1) (line := line) (l := l) (show S.2 = 0 by omega); rw [hd] at hgo; clear hd; rw [if_neg (by omega)] at hgo)
  all_goals (try (refine yQ q b 8 line [_] rfl rfl ?_; (all_goals refine qgp (Lf.mk ?_)); exact zS [_] rfl (by rw [hgo, if_pos ⟨by omega, by assumption⟩]) rfl (Nat.le_of_eq rfl) .tup0))
  all_goals rw [if_neg (fun h => by first | exact absurd (by assumption) h.2 | omega)] at hgo
  all_goals first
   | (refine ze vl ⟨S.1, (aop l 1).reg, 0, (aop l 0).val.n⟩ trivial (VS.mk (LeL.of_eq rfl)) ?_)
   | (refine ze vl ⟨S.1, (aop l 1).reg, (aop l 0).reg, 0⟩ trivial (VS.mk (LeL.of_eq rfl)) ?_)
   | (refine ze vl ⟨S.1, (aop l 0).reg, 0, 0⟩ trivial (VS.mk (LeL.of_eq rfl)) ?_)
   | (refine ze vl ⟨S.1, 0, 0, 0⟩ trivial (VS.mk (LeL.of_eq rfl)) ?_)
   | (refine ze vl ⟨S.1, (aop l 1).reg, 0, 0⟩ trivial (VS.mk (LeL.of_eq rfl)) ?_)
   | (refine ze vl ⟨S.1, 0, 0, (aop l 0).val.n⟩ trivial (VS.mk (LeL.of_eq rfl)) ?_)
  all_goals (all_goals refine qgp ?_ <;> (repeat' first | exact trivial | intro hc | refine And.intro ?_ ?_) <;> refine Lf.mk ?_)
  all_goals first
   | (refine yQ q b _ line [_] rfl rfl ?_; (all_goals refine qgp (Lf.mk ?_)); exact zS [_] rfl (by rw [hgo, if_neg (by assumption)]) rfl (Nat.le_of_eq rfl) .tup0)
   | (refine yz q b ⟨1, 0, line, ⟨S.1, (aop l 1).reg, 0, (aop l 0).val.n⟩, false, 0, (aop l 0).val, 0, 0⟩ [_] hb.items rfl yJ ?_; (all_goals refine qgp (Lf.mk ?_)); exact zS [_] rfl (by rw [hgo, if_pos (by assumption)]) rfl (Nat.le_of_eq rfl) .tup0)
   | (refine yz q b ⟨1, 0, line, ⟨S.1, (aop l 1).reg, (aop l 0).reg, 0⟩, false, 0, noV, 0, 0⟩ [_] hb.items rfl yJ ?_; (all_goals refine qgp (Lf.mk ?_)); exact zS [_] rfl (by rw [hgo, if_pos (by assumption)]) rfl (Nat.le_of_eq rfl) .tup0)
   | (refine yz q b ⟨1, 0, line, ⟨S.1, (aop l 0).reg, 0, 0⟩, false, 0, noV, 0, 0⟩ [_] hb.items rfl yJ ?_; (all_goals refine qgp (Lf.mk ?_)); exact zS [_] rfl (by rw [hgo, if_pos (by assumption)]) rfl (Nat.le_of_eq rfl) .tup0)
   | (refine yz q b ⟨2, 0, line, ⟨S.1, 0, 0, 0⟩, false, 0, (aop l 0).val, 0, 0⟩ [_] hb.items rfl yJ ?_; (all_goals refine qgp ?_ <;> (repeat' first | exact trivial | intro hc | refine And.intro ?_ ?_) <;> refine Lf.mk ?_); exact zS [_] rfl (by rw [hgo, if_pos (by assumption)]) rfl (Nat.le_of_eq rfl) .tup0)
   | (refine yz q b ⟨3, 0, line, ⟨S.1, 0, 0, 0⟩, false, 0, (aop l 0).val, 0, 0⟩ [_] hb.items rfl yJ ?_; (all_goals refine qgp ?_ <;> (repeat' first | exact trivial | intro hc | refine And.intro ?_ ?_) <;> refine Lf.mk ?_); exact zS [_] rfl (by rw [hgo, if_pos (by assumption)]) rfl (Nat.le_of_eq rfl) .tup0)
   | (refine yz q b ⟨4, 0, line, ⟨S.1, (aop l 1).reg, 0, 0⟩, false, 0, (aop l 0).val, 0, 0⟩ [_] hb.items rfl yJ ?_; (all_goals refine qgp ?_ <;> (repeat' first | exact trivial | intro hc | refine And.intro ?_ ?_) <;> refine Lf.mk ?_); exact zS [_] rfl (by rw [hgo, if_pos (by assumption)]) rfl (Nat.le_of_eq rfl) .tup0)
   | (refine yz q b ⟨5, 0, line, ⟨S.1, (aop l 1).reg, 0, 0⟩, false, 0, (aop l 0).val, 0, 0⟩ [_] hb.items rfl yJ ?_; (all_goals refine qgp ?_ <;> (repeat' first | exact trivial | intro hc | refine And.intro ?_ ?_) <;> refine Lf.mk ?_); exact zS [_] rfl (by rw [hgo, if_pos (by assumption)]) rfl (Nat.le_of_eq rfl) .tup0)
   | (refine yz q b ⟨1, 0, line, ⟨S.1, 0, 0, (aop l 0).val.n⟩, false, 0, (aop l 0).val, 0, 0⟩ [_] hb.items rfl yJ ?_; (all_goals refine qgp (Lf.mk ?_)); exact zS [_] rfl (by rw [hgo, if_pos (by assumption)]) rfl (Nat.le_of_eq rfl) .tup0)
   | (refine yz q b ⟨1, 0, line, ⟨S.1, 0, 0, 0⟩, false, 0, noV, 0, 0⟩ [_] hb.items rfl yJ ?_; (all_goals refine qgp (Lf.mk ?_)); exact zS [_] rfl (by rw [hgo, if_pos (by assumption)]) rfl (Nat.le_of_eq rfl) .tup0)
   | (refine yQ q b _ line [_, _] rfl rfl ?_; (all_goals refine qgp (Lf.mk ?_)); exact zS [_, _] rfl (by rw [hgo, if_neg (by assumption)]) rfl (Nat.le_of_eq rfl) .tup0)
   | (refine yz q b ⟨1, 0, line, ⟨S.1, (aop l 1).reg, 0, (aop l 0).val.n⟩, false, 0, (aop l 0).val, 0, 0⟩ [_, _] hb.items rfl yJ ?_; (all_goals refine qgp ?_ <;> (repeat' first | exact trivial | intro hc | refine And.intro ?_ ?_) <;> refine Lf.mk ?_); exact zS [_, _] rfl (by rw [hgo, if_pos (by assumption)]) rfl (Nat.le_of_eq rfl) .tup0)
   | (refine yz q b ⟨1, 0, line, ⟨S.1, (aop l 1).reg, (aop l 0).reg, 0⟩, false, 0, noV, 0, 0⟩ [_, _] hb.items rfl yJ ?_; (all_goals refine qgp ?_ <;> (repeat' first | exact trivial | intro hc | refine And.intro ?_ ?_) <;> refine Lf.mk ?_); exact zS [_, _] rfl (by rw [hgo, if_pos (by assumption)]) rfl (Nat.le_of_eq rfl) .tup0)
   | (refine yz q b ⟨1, 0, line, ⟨S.1, (aop l 0).reg, 0, 0⟩, false, 0, noV, 0, 0⟩ [_, _] hb.items rfl yJ ?_; (all_goals refine qgp ?_ <;> (repeat' first | exact trivial | intro hc | refine And.intro ?_ ?_) <;> refine Lf.mk ?_); exact zS [_, _] rfl (by rw [hgo, if_pos (by assumption)]) rfl (Nat.le_of_eq rfl) .tup0)
   | (refine yz q b ⟨2, 0, line, ⟨S.1, 0, 0, 0⟩, false, 0, (aop l 0).val, 0, 0⟩ [_, _] hb.items rfl yJ ?_; (all_goals refine qgp (Lf.mk ?_)); exact zS [_, _] rfl (by rw [hgo, if_pos (by assumption)]) rfl (Nat.le_of_eq rfl) .tup0)
   | (refine yz q b ⟨3, 0, line, ⟨S.1, 0, 0, 0⟩, false, 0, (aop l 0).val, 0, 0⟩ [_, _] hb.items rfl yJ ?_; (all_goals refine qgp (Lf.mk ?_)); exact zS [_, _] rfl (by rw [hgo, if_pos (by assumption)]) rfl (Nat.le_of_eq rfl) .tup0)
   | (refine yz q b ⟨4, 0, line, ⟨S.1, (aop l 1).reg, 0, 0⟩, false, 0, (aop l 0).val, 0, 0⟩ [_, _] hb.items rfl yJ ?_; (all_goals refine qgp (Lf.mk ?_)); exact zS [_, _] rfl (by rw [hgo, if_pos (by assumption)]) rfl (Nat.le_of_eq rfl) .tup0)
   | (refine yz q b ⟨5, 0, line, ⟨S.1, (aop l 1).reg, 0, 0⟩, false, 0, (aop l 0).val, 0, 0⟩ [_, _] hb.items rfl yJ ?_; (all_goals refine qgp (Lf.mk ?_)); exact zS [_, _] rfl (by rw [hgo, if_pos (by assumption)]) rfl (Nat.le_of_eq rfl) .tup0)
   | (refine yz q b ⟨1, 0, line, ⟨S.1, 0, 0, (aop l 0).val.n⟩, false, 0, (aop l 0).val, 0, 0⟩ [_, _] hb.items rfl yJ ?_; (all_goals refine qgp ?_ <;> (repeat' first | exact trivial | intro hc | refine And.intro ?_ ?_) <;> refine Lf.mk ?_); exact zS [_, _] rfl (by rw [hgo, if_pos (by assumption)]) rfl (Nat.le_of_eq rfl) .tup0)
   | (refine yz q b ⟨1, 0, line, ⟨S.1, 0, 0, 0⟩, false, 0, noV, 0, 0⟩ [_, _] hb.items rfl yJ ?_; (all_goals refine qgp ?_ <;> (repeat' first | exact trivial | intro hc | refine And.intro ?_ ?_) <;> refine Lf.mk ?_); exact zS [_, _] rfl (by rw [hgo, if_pos (by assumption)]) rfl (Nat.le_of_eq rfl) .tup0)
attribute [local irreducible] yH
theorem zmU : za Tryz.prog jt (yh (fun _ : zz × yB => True) (fun (s, _) => [yF s, .loc 0 0]) (fun (_, t) => [.cells [.int .i64 t.kind, .int .i64 t.n, .str t.text]]) (fun (s, t) => .bool (s.name == t.text))
  fun (_, t) => [.cells [.int .i64 t.kind, .int .i64 t.n, .str t.text]]) := by
 refine zg zj Tryz.func123 rfl (by decide) ?_
 rintro ⟨s, t⟩ _
 refine ⟨Nat.le_refl _, by simp [Tryz.f123], fun E hE => ?_⟩
 refine zf _ ?_
 (all_goals refine qgo (Lf.mk ?_))
 exact kq [.cells [.int .i64 t.kind, .int .i64 t.n, .str t.text]] [_] rfl (Nat.le_refl 1) .bool (by intro o ho; rw [List.mem_singleton] at ho; subst ho; exact .cells (.cons .int (.cons .int (.cons .str .nil))))
theorem zmV : za Tryz.prog ju (yh (fun _ : zk × yB => True) (fun (s, _) => [x9 s, .loc 0 0]) (fun (_, t) => [.cells [.int .i64 t.kind, .int .i64 t.n, .str t.text]]) (fun (s, t) => .bool (s.name == t.text))
  fun (_, t) => [.cells [.int .i64 t.kind, .int .i64 t.n, .str t.text]]) := by
 refine zg zj Tryz.func125 rfl (by decide) ?_
 rintro ⟨s, t⟩ _
 refine ⟨Nat.le_refl _, by simp [Tryz.f125], fun E hE => ?_⟩
 refine zf _ ?_
 (all_goals refine qgo (Lf.mk ?_))
 exact kq [.cells [.int .i64 t.kind, .int .i64 t.n, .str t.text]] [_] rfl (Nat.le_refl 1) .bool (by intro o ho; rw [List.mem_singleton] at ho; subst ho; exact .cells (.cons .int (.cons .int (.cons .str .nil))))
def xN (q : List zk) (b : Bld) (t : yB) (line : Int) : Bld :=
 if yH t.text = false ∨ 0 ≤ wx t ∨ b.syms.any (fun s => s.name == t.text) = true ∨ q.any (fun s => s.name == t.text) = true then yA b 7 line else { b with syms := b.syms ++ [⟨t.text, 0⟩], marks := b.marks ++ [(b.items.length : Int)] }
theorem zob : za Tryz.prog jY (yh (fun ((b, t, _, q) : Bld × yB × Int × List zk) => b.items.length ≤ 1000000 ∧ b.syms.length ≤ 1000000 ∧ b.marks.length ≤ 1000000 ∧ q.length ≤ 1000000 ∧ t.text.length ≤ 1000000000) (fun (_, t, line, _) => [.loc 0 0, wN t, .int .i64 line])
  (fun (b, _, _, q) => bO q b) (fun _ => .tup []) fun (b, t, line, q) => bO q (xN q b t line)) := by
 refine zg zj Tryz.func62 rfl (by decide) ?_
 rintro ⟨b, t, line, q⟩ ⟨h1, h2, h3, h4, h5⟩
 have h1 : b.items.length ≤ 1000000 := h1
 have h2 : b.syms.length ≤ 1000000 := h2
 have h3 : b.marks.length ≤ 1000000 := h3
 have h4 : q.length ≤ 1000000 := h4
 have h5 : t.text.length ≤ 1000000000 := h5
 refine ⟨Nat.le_refl _, by simp [Tryz.f62], fun E hE => ?_⟩
 show AWP _ _ _ _ (qa _ _ _ _ (bO q (xN q b t line))) _ (bO q b)
 have hdef : xN q b t line = if yH t.text = false ∨ 0 ≤ wx t ∨ b.syms.any (fun s => s.name == t.text) = true ∨ q.any (fun s => s.name == t.text) = true then yA b 7 line else { b with syms := b.syms ++ [⟨t.text, 0⟩], marks := b.marks ++ [(b.items.length : Int)] } := rfl
 generalize xN q b t line = B at *
 refine zf _ ?_
 (all_goals refine qgp (Lf.mk ?_))
 refine ze zd1 t.text h5 (VS.mk (LeL.of_eq rfl)) ?_
 (all_goals refine qgp ?_ <;> (repeat' first | exact trivial | intro hc | refine And.intro ?_ ?_) <;> refine Lf.mk ?_)
 ·refine yQ q b 7 line [_] rfl rfl ?_
  (all_goals refine qgp (Lf.mk ?_))
  exact zS [_] rfl (by rw [hdef, if_pos (.inl (by simpa using hc))]) rfl (Nat.le_of_eq rfl) .tup0
 refine ze zal t h5 (VS.mk (LeL.of_eq rfl)) ?_
 (all_goals refine qgp ?_ <;> (repeat' first | exact trivial | intro hc | refine And.intro ?_ ?_) <;> refine Lf.mk ?_)
 ·refine yQ q b 7 line [_] rfl rfl ?_
  (all_goals refine qgp (Lf.mk ?_))
  exact zS [_] rfl (by rw [hdef, if_pos (.inr (.inl hc))]) rfl (Nat.le_of_eq rfl) .tup0
 refine ztw jt [.loc 6 0] (fun s => s.name == t.text) b.syms (.cells (bC q b)) (.arr 13 (b.items.map xm)) [.spare b.marks.length, .arr 1 (zJ b), zda b, .cells [.int .i64 t.kind, .int .i64 t.n, .str t.text]] (by omega) rfl rfl
  (fun s hs KP KW hK => ?_) ?_
 ·exact zX zmU [6] [6] (s, t) trivial rfl rfl ⟨VS.mk (LeL.refl _), VS.mk rfl, hK⟩
 cases hs : b.syms.any (fun s => s.name == t.text) with
 | true =>
  (all_goals refine qgp ?_ <;> (repeat' first | exact trivial | intro hc | refine And.intro ?_ ?_) <;> refine Lf.mk ?_)
  (any_goals (first | (exfalso; refine Bool.false_ne_true ?_; assumption) | (exfalso; refine Bool.false_ne_true (Eq.symm ?_); assumption) | (exfalso; refine absurd trivial ?_; assumption) | skip))
  refine yQ q b 7 line [_] rfl rfl ?_
  (all_goals refine qgp (Lf.mk ?_))
  exact zS [_] rfl (by rw [hdef, if_pos (.inr (.inr (.inl hs)))]) rfl (Nat.le_of_eq rfl) .tup0
 | false =>
  (all_goals refine qgp ?_ <;> (repeat' first | exact trivial | intro hc | refine And.intro ?_ ?_) <;> refine Lf.mk ?_)
  (any_goals (first | (exfalso; refine Bool.false_ne_true ?_; assumption) | (exfalso; refine Bool.false_ne_true (Eq.symm ?_); assumption) | (exfalso; refine absurd trivial ?_; assumption) | skip))
  refine ztx ju [.loc 6 0] (fun s => s.name == t.text) q (by omega) rfl (fun s hs KP KW hK => ?_) ?_
  ·exact zX zmV [6] [6] (s, t) trivial rfl rfl ⟨VS.mk (LeL.refl _), VS.mk rfl, hK⟩
  cases hq : q.any (fun s => s.name == t.text) with
  | true =>
   (all_goals refine qgp ?_ <;> (repeat' first | exact trivial | intro hc | refine And.intro ?_ ?_) <;> refine Lf.mk ?_)
   (any_goals (first | (exfalso; refine Bool.false_ne_true ?_; assumption) | (exfalso; refine Bool.false_ne_true (Eq.symm ?_); assumption) | (exfalso; refine absurd trivial ?_; assumption) | skip))
   refine yQ q b 7 line [_] rfl rfl ?_
   (all_goals refine qgp (Lf.mk ?_))
   exact zS [_] rfl (by rw [hdef, if_pos (.inr (.inr (.inr hq)))]) rfl (Nat.le_of_eq rfl) .tup0
  | false =>
   (all_goals refine qgk ?_ <;> (repeat' first | exact trivial | intro hc | refine And.intro ?_ ?_) <;> refine Lf.mk ?_)
   (any_goals (first | (exfalso; refine Bool.false_ne_true ?_; assumption) | (exfalso; refine Bool.false_ne_true (Eq.symm ?_); assumption) | (exfalso; refine absurd trivial ?_; assumption) | skip))
   refine wM ((b.syms ++ [(⟨t.text, 0⟩ : zz)]).map yF) (by rw [List.map_append]; rfl) ?_
   rw [List.length_map]
   (all_goals refine qgk (Lf.mk ?_))
   refine wM ((b.marks ++ [((b.items.length : Nat) : Int)]).map (D.int .i64)) (by rw [List.map_append]; rfl) ?_
   rw [List.length_map]
   (all_goals refine qgk (Lf.mk ?_))
   rw [if_neg (fun h => ?_)] at hdef
   ·rw [hdef]
    exact zS [_] rfl rfl rfl (Nat.le_of_eq rfl) .tup0
   ·rcases h with h | h | h | h
    ·simp_all
    ·omega
    ·rw [hs] at h; cases h
    ·rw [hq] at h; cases h
end Go.Proofs.YthmdddenbfbefaaGreatDoor
namespace Go.Proofs.YthmdddenbfbefaaGreatDoor
open Go Go.Plat
set_option linter.unusedVariables false
set_option linter.unusedSimpArgs false
set_option maxRecDepth 100000
set_option maxHeartbeats 2000000
attribute [local irreducible] AWP zy ye zF zn yt z6 zE zW Lib.itoa zY zp za zN yu zo zZ yp yq yj yl zt zu zw xk xQ wx
theorem zmW (q : List zk) (line : Int) : ∀ (f : Nat) (out : List AOp) (s : RB), s.fe = 0 → (jg q line f out s).1.length ≤ out.length + s.rest.length
 | 0, out, s, _ => Nat.le_add_right _ _
 | f + 1, out, s, hs => by
  rw [jg]
  split
  ·exact Nat.le_add_right _ _
  ·rename_i hn
   have h1 : 1 ≤ s.rest.length := by
    cases hr : s.rest with
    | nil => exact absurd (.inl hr) hn
    | cons a l => simp
   have h2 := (zmI q line s).1
   split
   ·simp only [List.length_append, List.length_cons, List.length_nil]; omega
   ·by_cases h3 : (xM line (yV q line s).2).fe = 0
    ·have h4 := ziB line _ h3
     have := zmW q line f (out ++ [(yV q line s).1]) _ h3
     simp only [List.length_append, List.length_cons, List.length_nil] at this
     omega
    ·rw [zhm (.inr h3)]
     simp only [List.length_append, List.length_cons, List.length_nil]; omega
theorem zmX (q : List zk) (line : Int) (s : RB) (h : s.fe = 0) : (xf q line s).1.length ≤ s.rest.length := by
 have := zmW q line (s.rest.length + 1) [] s h
 simpa [xf] using this
theorem zrQ (s : RB) : (qI s).1.length ≤ 1 := by
 unfold qI
 repeat' split
 all_goals simp
theorem zrR (q : List zk) (line : Int) (s : RB) : (yV q line s).1.sign.length ≤ 1 := by
 have := zrQ s
 unfold yV zak
 split
 ·dsimp only
  split
  ·simp
  ·exact this
 split
 ·exact this
 ·exact this
theorem zkf (q : List zk) (line : Int) : ∀ (f : Nat) (out : List AOp) (s : RB), (∀ o ∈ out, o.sign.length ≤ 1) → ∀ o ∈ (jg q line f out s).1, o.sign.length ≤ 1
 | 0, out, s, h => h
 | f + 1, out, s, h => by
  have h' : ∀ o ∈ out ++ [(yV q line s).1], o.sign.length ≤ 1 := by
   intro o ho
   rcases List.mem_append.1 ho with ho | ho
   ·exact h o ho
   ·rw [List.mem_singleton] at ho; subst ho; exact zrR q line s
  rw [jg]
  split
  ·exact h
  split
  ·exact h'
  ·exact zkf q line f _ _ h'
theorem zrS (q : List zk) (line : Int) (s : RB) : ∀ o ∈ (xf q line s).1, o.sign.length ≤ 1 := zkf q line _ [] s (by simp)
def yZ (q : List zk) (line : Int) : List yB → Bld → Bld × List yB
 | t :: c :: r, b => if t.kind = 1 ∧ c.kind = 3 ∧ c.text = [58] then yZ q line r (xN q b t line) else (b, t :: c :: r)
 | [t], b => (b, [t])
 | [], b => (b, [])
def zei (b : Bld) (w : List UInt8) (ops : List AOp) (line : Int) : Bld :=
 if w = [46, 98, 121, 116, 101] then kw b 1 ops line else if w = [46, 119, 111, 114, 100] then kw b 2 ops line else if w = [46, 108, 111, 110, 103] then kw b 4 ops line
 else if w = [46, 97, 108, 105, 103, 110] then qB b ops line else if w = [46, 112, 111, 111, 108] then (if 0 < ops.length then yA b 2 line else vy b line) else xp b w ops line
def zbD (q : List zk) (b : Bld) (line : Int) : List yB → Bld
 | [] => b
 | t :: r => if b.fe ≠ 0 then b else if t.kind ≠ 1 then yA b 2 line else
  if (xf q line ⟨r, b.fe, b.fa⟩).2.fe ≠ 0 then xJ b (xf q line ⟨r, b.fe, b.fa⟩).2 else zei (xJ b (xf q line ⟨r, b.fe, b.fa⟩).2) t.text (xf q line ⟨r, b.fe, b.fa⟩).1 line
def xK (q : List zk) (b : Bld) (x : yI) : Bld := zbD q (yZ q x.pos x.toks b).1 x.pos (yZ q x.pos x.toks b).2
structure z7 (b : Bld) (k : Nat) : Prop where
 items : b.items.length + k ≤ 1000000
 syms : b.syms.length + k ≤ 1000000
 marks : b.marks.length + k ≤ 1000000
 shut : b.shut.length + k ≤ 1000000
 curl : b.cur.length + k ≤ 1000000
 cur : b.has = false → b.cur = []
theorem z7.less {b : Bld} {k j : Nat} (h : z7 b k) (hj : j ≤ k) : z7 b j := ⟨by have := h.items; omega, by have := h.syms; omega, by have := h.marks; omega, by have := h.shut; omega, by have := h.curl; omega, h.cur⟩
theorem z7.inB {b : Bld} {k : Nat} (h : z7 b k) : InB b := ⟨h.cur, by have := h.items; omega, by have := h.shut; omega, by have := h.curl; omega⟩
theorem z7.fail {b : Bld} {k : Nat} (h : z7 b k) (e line : Int) : z7 (yA b e line) k := by
 unfold yA
 split
 ·exact ⟨h.items, h.syms, h.marks, h.shut, h.curl, h.cur⟩
 ·exact h
theorem z7.put {b : Bld} {k : Nat} (h : z7 b (k + 1)) (x : zx) : z7 (xu b x) k :=
 ⟨by have := h.items; simp only [xu, List.length_append, List.length_cons, List.length_nil]; omega, by have := h.syms; simp only [xu]; omega, by have := h.marks; simp only [xu]; omega, by have := h.shut; simp only [xu]; omega, by have := h.curl; simp only [xu]; omega, h.cur⟩
theorem z7.label {q : List zk} {b : Bld} {k : Nat} (h : z7 b (k + 1)) (t : yB) (line : Int) : z7 (xN q b t line) k := by
 unfold xN
 split
 ·exact (h.less (Nat.le_succ k)).fail _ _
 ·exact ⟨by have := h.items; dsimp only; omega, by have := h.syms; simp only [List.length_append, List.length_cons, List.length_nil]; omega, by have := h.marks; simp only [List.length_append, List.length_cons, List.length_nil]; omega, by have := h.shut; dsimp only; omega, by have := h.curl; dsimp only; omega, h.cur⟩
theorem z7.set {b : Bld} {k : Nat} (h : z7 b k) (s : RB) : z7 (xJ b s) k := ⟨h.items, h.syms, h.marks, h.shut, h.curl, h.cur⟩
theorem z7.dat {b : Bld} {k : Nat} (h : z7 b (k + 1)) (size line : Int) (o : AOp) : z7 (wG size line b o) k := by
 unfold wG
 repeat' split
 ·exact (h.fail _ _).put _
 ·exact (h.fail _ _).put _
 ·exact (h.fail _ _).put _
 ·exact h.put _
theorem z7.datas {size line : Int} : ∀ (l : List AOp) {b : Bld} {k : Nat}, z7 b (k + l.length) → z7 (l.foldl (wG size line) b) k
 | [], b, k, h => h
 | o :: l, b, k, h => z7.datas l (z7.dat (by rw [Nat.add_assoc]; exact h) size line o)
theorem z7.data {b : Bld} {k : Nat} {l : List AOp} (h : z7 b (k + l.length)) (size line : Int) : z7 (kw b size l line) k := by
 unfold kw
 refine z7.datas l ?_
 split
 ·exact h.fail _ _
 ·exact h
theorem z7.align {b : Bld} {k : Nat} {l : List AOp} (h : z7 b (k + 1)) (line : Int) : z7 (qB b l line) k := by
 unfold qB
 repeat' split
 ·exact (h.less (Nat.le_succ k)).fail _ _
 ·exact (h.less (Nat.le_succ k)).fail _ _
 ·exact h.put _
theorem z7.pool {b : Bld} {k : Nat} (h : z7 b (k + 1)) (line : Int) : z7 (vy b line) k := by
 unfold vy
 split
 ·have := h.put ⟨9, 0, line, noI, false, 0, noV, b.shut.length, 0⟩
  exact ⟨this.items, this.syms, this.marks, by have := h.shut; simp only [List.length_append, List.length_cons, List.length_nil]; omega, by have := h.curl; simp only [List.length_nil]; omega, fun _ => rfl⟩
 ·exact h.less (Nat.le_succ k)
theorem zrT (v : zq) (l : List zq) : (wP v l).length ≤ l.length + 1 := by
 unfold wP
 split
 ·simp
 ·omega
theorem z7.lit {b : Bld} {k : Nat} (h : z7 b (k + 1)) (v : zq) (reg line : Int) : z7 (kb b v reg line) k := by
 have hw := zrT v b.cur
 refine ⟨by have := h.items; simp only [kb, xu, List.length_append, List.length_cons, List.length_nil]; omega, by have := h.syms; simp only [kb, xu]; omega, by have := h.marks; simp only [kb, xu]; omega, by have := h.shut; simp only [kb, xu]; omega, ?_, fun h => by simp only [kb, xu] at h; cases h⟩
 have := h.curl
 simp only [kb, xu]; omega
theorem z7.instr {b : Bld} {k : Nat} (h : z7 b (k + 1)) (name : List UInt8) (l : List AOp) (line : Int) : z7 (xp b name l line) k := by
 unfold xp
 split
 ·exact h.lit _ _ _
 repeat' split
 ·exact (h.less (Nat.le_succ k)).fail _ _
 ·exact (h.less (Nat.le_succ k)).fail _ _
 ·exact h.put _
 ·exact (h.less (Nat.le_succ k)).fail _ _
theorem z7.word {b : Bld} {k : Nat} {l : List AOp} (h : z7 b (k + 1 + l.length)) (w : List UInt8) (line : Int) : z7 (zei b w l line) k := by
 have h1 : z7 b (k + 1) := h.less (by omega)
 have h2 : z7 b (k + l.length) := h.less (by omega)
 unfold zei
 repeat' split
 ·exact h2.data _ _
 ·exact h2.data _ _
 ·exact h2.data _ _
 ·exact h1.align _
 ·exact (h1.less (Nat.le_succ k)).fail _ _
 ·exact h1.pool _
 ·exact h1.instr _ _ _
theorem zfA {q : List zk} {line : Int} : ∀ (l : List yB) {b : Bld} {k : Nat}, z7 b (k + l.length) → z7 (yZ q line l b).1 (k + (yZ q line l b).2.length) ∧ (yZ q line l b).2.length ≤ l.length ∧
  wt ((yZ q line l b).2.map tk) ≤ wt (l.map tk) ∧ (∀ t ∈ (yZ q line l b).2, t ∈ l) ∧ (yZ q line l b).1.has = b.has
 | [], b, k, h => by rw [yZ]; exact ⟨h, Nat.le_refl _, Nat.le_refl _, fun _ h => h, rfl⟩
 | [t], b, k, h => by rw [yZ]; exact ⟨h, Nat.le_refl _, Nat.le_refl _, fun _ h => h, rfl⟩
 | t :: c :: r, b, k, h => by
  rw [yZ]
  split
  ·have hl : z7 (xN q b t line) (k + r.length) := (h.less (by simp only [List.length_cons]; omega) : z7 b (k + r.length + 1)).label t line
   obtain ⟨h1, h2, h3, h4, h5⟩ := zfA r hl
   refine ⟨h1, by simp only [List.length_cons]; omega, by simp only [List.map_cons, wt]; omega, fun x hx => List.mem_cons_of_mem _ (List.mem_cons_of_mem _ (h4 x hx)), h5.trans ?_⟩
   unfold xN
   split
   ·exact kg _ _ _
   ·rfl
  ·exact ⟨h, Nat.le_refl _, Nat.le_refl _, fun _ h => h, rfl⟩
theorem z7.rest {q : List zk} {b : Bld} {k : Nat} {l : List yB} (h : z7 b (k + l.length)) (line : Int) : z7 (zbD q b line l) k := by
 cases l with
 | nil => exact h
 | cons t r =>
  have h0 : z7 b k := h.less (by omega)
  rw [zbD]
  split
  ·exact h0
  rename_i hf
  have hf : b.fe = 0 := Classical.not_not.1 hf
  split
  ·exact h0.fail _ _
  split
  ·exact h0.set _
  ·have hl := zmX q line ⟨r, b.fe, b.fa⟩ hf
   have hl : (xf q line ⟨r, b.fe, b.fa⟩).1.length ≤ r.length := hl
   exact z7.word ((h.less (by simp only [List.length_cons]; omega)).set _) _ _
theorem z7.line {q : List zk} {b : Bld} {k : Nat} (x : yI) (h : z7 b (k + x.toks.length)) : z7 (xK q b x) k := (zfA x.toks h).1.rest x.pos
attribute [local irreducible] zh.kids zh.kind zh.n zh.name xf xb wO wg xN yH yy yV wQ zL wP yU
def zlc (x : yI) : Ob := .cells [.int .i64 x.pos, .sl 3 (x.toks.map wN) none]
theorem zp8 {av : List D} {L : List Ob} {KP : D → Prop} {KW : D → List Ob → Prop} (q : List zk) (b : Bld) (t : yB) (line : Int) (X : List Ob) {k : Nat} (hr : z7 b k) (hq : q.length ≤ 1000000) (ht : t.text.length ≤ 1000000000) (hL : L = bO q b ++ X) (has : av = [.loc 0 0, wN t, .int .i64 line])
  (hK : KW (.tup []) (bO q (xN q b t line) ++ X)) : zn Tryz.prog jY av L KP KW := by
 subst has
 have hr := hr.less (Nat.zero_le k)
 exact xL zob X (b, t, line, q) ⟨hr.items, hr.syms, hr.marks, hq, ht⟩ hL (LeL.refl _) rfl (.cons (.loc (Nat.lt_of_lt_of_le (by decide : 0 < 6) (Nat.le_of_eq rfl))) (.cons (.agg (.cons .int (.cons .int (.cons .str .nil)))) (.cons .int .nil))) .tup0 (xc _ _) (xc _ _) hK
theorem kX (q : List zk) (b : Bld) (i : Nat) (o : Ob) (h : (bO q b)[i]? = some o) : ClO 6 o := xc _ _ _ (List.mem_of_getElem? h)
theorem zrU (s : RB) (line : Int) : ClO 6 (arC s line) := .cells (.cons (.loc (by decide)) (.cons .sl (.cons .int .nil)))
theorem ztB {av : List D} {L : List Ob} {KP : D → Prop} {KW : D → List Ob → Prop} (q : List zk) (b : Bld) (s : RB) (line : Int) (Y : Ob) (hl : kx s q) (ht : ∀ t ∈ s.rest, t.text.length ≤ 1000000000) (hL : L = bO q (xJ b s) ++ [Y, arC s line]) (has : av = [.loc 7 0])
  (hK : KW (.sl 4 ((xf q line s).1.map vX) none) (bO q (xJ b (xf q line s).2) ++ [Y, arC (xf q line s).2 line])) : zn Tryz.prog zb4 av L KP KW := by
 subst has
 subst hL
 have key : ∀ k, k < 6 → zD [0, 1, 2, 3, 4, 5, 7] 0 k = some k := by decide
 have key' : ∀ k, k < 6 → vj [0, 1, 2, 3, 4, 5, 7] k = some k := by decide
 refine zsV (L' := bO q (xJ b (xf q line s).2) ++ [Y, arC (xf q line s).2 line]) (d := .sl 4 ((xf q line s).1.map vX) none) (as1 := [.loc 6 0]) (L1 := wY q b s line) (L1' := wY q b (xf q line s).2 line) (d1 := .sl 4 ((xf q line s).1.map vX) none) zrJ [0, 1, 2, 3, 4, 5, 7] rfl ⟨rfl, fun i d d' h1 h2 => ?_⟩ ?_ ⟨(b, s, q, line), ⟨hl, ht⟩, LeL.refl _, rfl, rfl, rfl⟩ (ClD.sl (n := 0) _ fun k hk => absurd hk (Nat.not_lt_zero k)) rfl rfl (fun k hk hn => ?_) (fun i k hi => ?_) hK
 ·cases i with
  | zero =>
   cases h1
   cases h2
   obtain ⟨d', h3, rfl⟩ := wL (show j9 (zD [0, 1, 2, 3, 4, 5, 7] 0) (.loc 7 0) (fun d' => d' = .loc 6 0) from rfl)
   exact h3
  | succ i => simp at h1
 ·exact .cons (o := .cells (bC q (xJ b s))) rfl (kX q (xJ b s) 0 _ rfl _ key) (.cons (o := .arr 13 (b.items.map xm)) rfl (kX q (xJ b s) 1 _ rfl _ key) (.cons (o := .arr 2 (b.syms.map yF)) rfl (kX q (xJ b s) 2 _ rfl _ key)
   (.cons (o := .spare b.marks.length) rfl (kX q (xJ b s) 3 _ rfl _ key) (.cons (o := .arr 1 (zJ (xJ b s))) rfl (kX q (xJ b s) 4 _ rfl _ key) (.cons (o := zda (xJ b s)) rfl (kX q (xJ b s) 5 _ rfl _ key) (.cons (o := arC s line) rfl (zrU s line _ key) .nil))))))
 ·match k, hk, hn with
  | 0, _, hn => exact absurd (by decide) hn
  | 1, _, hn => exact absurd (by decide) hn
  | 2, _, hn => exact absurd (by decide) hn
  | 3, _, hn => exact absurd (by decide) hn
  | 4, _, hn => exact absurd (by decide) hn
  | 5, _, hn => exact absurd (by decide) hn
  | 6, _, _ => rfl
  | 7, _, hn => exact absurd (by decide) hn
  | k + 8, hk, _ => exact absurd hk (by simp [bO, bT])
 ·match i, hi with
  | 0, hi => cases hi; exact ⟨.cells (bC q (xJ b (xf q line s).2)), _, rfl, rfl, kX q (xJ b (xf q line s).2) 0 _ rfl _ key'⟩
  | 1, hi => cases hi; exact ⟨.arr 13 (b.items.map xm), _, rfl, rfl, kX q (xJ b (xf q line s).2) 1 _ rfl _ key'⟩
  | 2, hi => cases hi; exact ⟨.arr 2 (b.syms.map yF), _, rfl, rfl, kX q (xJ b (xf q line s).2) 2 _ rfl _ key'⟩
  | 3, hi => cases hi; exact ⟨.spare b.marks.length, _, rfl, rfl, kX q (xJ b (xf q line s).2) 3 _ rfl _ key'⟩
  | 4, hi => cases hi; exact ⟨.arr 1 (zJ (xJ b (xf q line s).2)), _, rfl, rfl, kX q (xJ b (xf q line s).2) 4 _ rfl _ key'⟩
  | 5, hi => cases hi; exact ⟨zda (xJ b (xf q line s).2), _, rfl, rfl, kX q (xJ b (xf q line s).2) 5 _ rfl _ key'⟩
  | 6, hi => cases hi; exact ⟨arC (xf q line s).2 line, _, rfl, rfl, zrU _ _ _ key'⟩
  | i + 7, hi => simp at hi
theorem zgj {q : List zk} {b b' : Bld} (h : b'.has = true → b.has = true) : vo q b b' = bO q b' := by
 unfold vo
 rw [if_neg fun e => by have := h e.2; rw [e.1] at this; cases this]
def bOn (k : Nat) (q : List zk) (b : Bld) : List Ob :=
 [.cells (bCk q b), .arr 13 (b.items.map xm), .arr 2 (b.syms.map yF), .spare b.marks.length, .arr 1 (b.shut.map y6 ++ [.sl 2 (b.cur.map yE) (some k)]), .dead]
theorem zwp (q : List zk) (b : Bld) : ClL 5 (bCk q b) :=
 .cons .sl (.cons (.osl (by decide)) (.cons (.osl (by decide)) (.cons (.tok (by decide)) (.cons (.osl (by decide)) (.cons .int (.cons .nilsl (.cons .nilsl (.cons .nilsl (.cons .int (.cons .int .nil))))))))))
theorem zgk {m : Nat → Option Nat} {k k' : Nat} (q : List zk) (b : Bld) (hm : ∀ j, j < 5 → m j = some j) (hk : m k = some k') : ∀ (i : Nat) x y, (bOn k q b)[i]? = some x → (bOn k' q b)[i]? = some y → yg m x y := by
 intro i x y h1 h2
 match i, h1, h2 with
 | 0, h1, h2 => cases h1; cases h2; exact ClO.cells (zwp q b) _ hm
 | 1, h1, h2 => cases h1; cases h2; exact ClO.arr (n := 5) (ke _) _ hm
 | 2, h1, h2 => cases h1; cases h2; exact ClO.arr (n := 5) (jy _) _ hm
 | 3, h1, h2 => cases h1; cases h2; rfl
 | 4, h1, h2 => cases h1; cases h2; exact zcR hk _ _
 | 5, h1, h2 => cases h1; cases h2; rfl
 | i + 6, h1, h2 => simp [bOn] at h1
theorem zp9 {av : List D} {L : List Ob} {KP : D → Prop} {KW : D → List Ob → Prop} (q : List zk) (b : Bld) (name : List UInt8) (l : List AOp) (line : Int) (X : List Ob) (hb : InB b) (hl : l.length ≤ 1000000) (hs : ∀ o ∈ l, o.sign.length ≤ 1)
  (hL : L = bO q b ++ X) (has : av = [.loc 0 0, .str name, .sl 4 (l.map vX) none, .int .i64 line])
  (hK1 : ((xp b name l line).has = true → b.has = true) → KW (.tup []) (bO q (xp b name l line) ++ X))
  (hK2 : b.has = false → (xp b name l line).has = true → KW (.tup []) (bOn L.length q (xp b name l line) ++ X ++ [.spare (xp b name l line).cur.length])) : zn Tryz.prog j0 av L KP KW := by
 subst has
 have hcl : ClL (bO q b).length [.loc 0 0, .str name, .sl 4 (l.map vX) none, .int .i64 line] := .cons (.loc (Nat.lt_of_lt_of_le (by decide : 0 < 6) (Nat.le_of_eq rfl))) (.cons .str (.cons .sl (.cons .int .nil)))
 by_cases h : b.has = false ∧ (xp b name l line).has = true
 ·refine zj5 zgK (bO q b) X (bOn 6 q (xp b name l line)) (bOn L.length q (xp b name l line)) (.spare (xp b name l line).cur.length) (d := .tup []) hL ⟨(b, name, l, line, q), ⟨hb, hl, hs⟩, LeL.refl _, rfl, rfl, (zeh h.1 h.2).symm⟩ rfl rfl hcl .tup0 (xc _ _)
   (fun m hm hk => zgk q _ (fun j hj => hm j (Nat.lt_of_lt_of_le hj (by decide : 5 ≤ 6))) hk) .spare (hK2 h.1 h.2)
 ·have hn : (xp b name l line).has = true → b.has = true := fun e => by
   cases hb : b.has with
   | true => rfl
   | false => exact absurd ⟨hb, e⟩ h
  refine zhd zgK (bO q b) X (bO q (xp b name l line)) (d := .tup []) hL ⟨(b, name, l, line, q), ⟨hb, hl, hs⟩, LeL.refl _, rfl, rfl, (zgj hn).symm⟩ rfl hcl .tup0 (xc _ _) (xc _ _) (hK1 hn)
theorem zfB {av : List D} {L : List Ob} {KP : D → Prop} {KW : D → List Ob → Prop} (q : List zk) (b : Bld) (size : Int) (l : List AOp) (line : Int) (X : List Ob) (hl : b.items.length + l.length ≤ 1000000) (hs : size = 1 ∨ size = 2 ∨ size = 4)
  (hL : L = bO q b ++ X) (has : av = [.loc 0 0, .int .i64 size, .sl 4 (l.map vX) none, .int .i64 line]) (hK : KW (.tup []) (bO q (kw b size l line) ++ X)) : zn Tryz.prog zaY av L KP KW := by
 subst has
 exact xL zn9 X (b, size, l, line, q) ⟨hl, hs⟩ hL (LeL.refl _) rfl (.cons (.loc (Nat.lt_of_lt_of_le (by decide : 0 < 6) (Nat.le_of_eq rfl))) (.cons .int (.cons .sl (.cons .int .nil)))) .tup0 (xc _ _) (xc _ _) hK
theorem zqa {av : List D} {L : List Ob} {KP : D → Prop} {KW : D → List Ob → Prop} (q : List zk) (b : Bld) (l : List AOp) (line : Int) (X : List Ob) (hl : b.items.length ≤ 1000000) (hs : l.length ≤ 1000000000)
  (hL : L = bO q b ++ X) (has : av = [.loc 0 0, .sl 4 (l.map vX) none, .int .i64 line]) (hK : KW (.tup []) (bO q (qB b l line) ++ X)) : zn Tryz.prog jZ av L KP KW := by
 subst has
 exact xL zmK X (b, l, line, q) ⟨hl, hs⟩ hL (LeL.refl _) rfl (.cons (.loc (Nat.lt_of_lt_of_le (by decide : 0 < 6) (Nat.le_of_eq rfl))) (.cons .sl (.cons .int .nil))) .tup0 (xc _ _) (xc _ _) hK
theorem zkg {av : List D} {L : List Ob} {KP : D → Prop} {KW : D → List Ob → Prop} (q : List zk) (b : Bld) (line : Int) (X : List Ob) (hl : b.items.length ≤ 1000000) (hs : b.shut.length ≤ 1000000)
  (hL : L = bO q b ++ X) (has : av = [.loc 0 0, .int .i64 line]) (hK : KW (.tup []) (bO q (vy b line) ++ X)) : zn Tryz.prog zaX av L KP KW := by
 subst has
 exact xL zoa X (b, line, q) ⟨hl, hs⟩ hL (LeL.refl _) rfl (.cons (.loc (Nat.lt_of_lt_of_le (by decide : 0 < 6) (Nat.le_of_eq rfl))) (.cons .int .nil)) .tup0 (xc _ _) (xc _ _) hK
theorem zmY {size line : Int} : ∀ (l : List AOp) (b : Bld), (l.foldl (wG size line) b).has = b.has
 | [], b => rfl
 | o :: l, b => by
  rw [List.foldl_cons, zmY l]
  unfold wG
  repeat' split
  all_goals first | exact kg _ _ _ | rfl
theorem zfC (b : Bld) (size : Int) (l : List AOp) (line : Int) : (kw b size l line).has = b.has := by
 unfold kw
 rw [zmY]
 split
 ·exact kg _ _ _
 ·rfl
theorem zqb (b : Bld) (l : List AOp) (line : Int) : (qB b l line).has = b.has := by
 unfold qB
 repeat' split
 all_goals first | exact kg _ _ _ | rfl
theorem zrV (b : Bld) (line : Int) : (vy b line).has = true → b.has = true := by
 unfold vy
 split
 ·intro _; assumption
 ·exact id
theorem ziC : za Tryz.prog zaW (yh (fun ((b, x, q) : Bld × yI × List zk) => z7 b (1 + x.toks.length) ∧ wt (x.toks.map tk) ≤ 1048576 ∧ q.length ≤ 1000000) (fun (_, x, _) => [.loc 0 0, x3 x])
  (fun (b, _, q) => bO q b) (fun _ => .tup []) fun (b, x, q) => vo q b (xK q b x)) := by
 refine zg zj Tryz.func37 rfl (by decide) ?_
 rintro ⟨b, x, q⟩ ⟨hr, hw, hq⟩
 have hr : z7 b (1 + x.toks.length) := hr
 have hw : wt (x.toks.map tk) ≤ 1048576 := hw
 have hq : q.length ≤ 1000000 := hq
 have htx : ∀ t ∈ x.toks, t.text.length ≤ 1000000000 := fun t ht => by
  have : ∀ l : List yB, t ∈ l → t.text.length ≤ wt (l.map tk) := by
   intro l
   induction l with
   | nil => intro h; cases h
   | cons a l ih =>
    intro h
    rw [List.map_cons, wt]
    rcases List.mem_cons.1 h with rfl | h
    ·show t.text.length ≤ 1 + t.text.length + _; omega
    ·have := ih h; omega
  have := this _ ht
  omega
 refine ⟨zmN _ _ _, by simp [Tryz.f37], fun E hE => ?_⟩
 have hE6 : E.L.length = 6 := by rw [hE]; rfl
 have hlen : x.toks.length ≤ 1048576 := by have := ziA (x.toks.map tk); rw [List.length_map] at this; omega
 refine wX (zf _ ?_)
 (all_goals refine qgp (Lf.mk ?_))
 refine wX (zf _ ?_)
 (all_goals refine qgp (Lf.mk ?_))
 refine zdq (α := Unit) (fun _ => True) (fun _ => [(0, .loc 0 0), (3, .loc 6 0), (4, .sl 3 ((yZ q x.pos x.toks b).2.map wN) none)]) (fun _ => bO q (yZ q x.pos x.toks b).1 ++ [zlc x]) ?_ ?_
 ·refine zf _ ?_
  (all_goals refine qgp (Lf.mk ?_))
  have hout : ∀ (l : List yB) (b1 : Bld), yZ q x.pos l b1 = yZ q x.pos x.toks b → yZ q x.pos l b1 = (b1, l) → (yZ q x.pos x.toks b).1 = b1 ∧ (yZ q x.pos x.toks b).2 = l := fun l b1 h h' => by rw [← h, h']; exact ⟨rfl, rfl⟩
  refine xg (α := List yB × Bld) (fun p => yZ q x.pos p.1 p.2 = yZ q x.pos x.toks b ∧ z7 p.2 (1 + p.1.length) ∧ (∀ t ∈ p.1, t ∈ x.toks) ∧ p.1.length ≤ 1048576) (fun p => [(0, .loc 0 0), (3, .loc 6 0), (4, .sl 3 (p.1.map wN) none)])
   (fun p => bO q p.2 ++ [zlc x]) (fun p => p.1.length) (fun _ => by rw [hE6]; exact Nat.le_succ 6) (x.toks, b) ⟨rfl, hr, fun _ h => h, hlen⟩ ?_ ?_
  ·exact yC rfl ⟨rfl, rfl, rfl, trivial⟩
  rintro ⟨l, b1⟩ ⟨i1, i2, i3, i4⟩
  dsimp only at i1 i2 i3 i4 ⊢
  match l, i1, i2, i3, i4 with
  | [], i1, i2, i3, i4 =>
   refine zf _ ?_
   (all_goals refine qgp ?_ <;> (repeat' first | exact trivial | intro hc | refine And.intro ?_ ?_) <;> refine Lf.mk ?_)
   obtain ⟨h1, h2⟩ := hout [] b1 i1 (by rw [yZ])
   exact ⟨(), trivial, yC (by rw [h1]) ⟨rfl, rfl, by rw [h2]; rfl, trivial⟩⟩
  | [t], i1, i2, i3, i4 =>
   refine zf _ ?_
   (all_goals refine qgp ?_ <;> (repeat' first | exact trivial | intro hc | refine And.intro ?_ ?_) <;> refine Lf.mk ?_)
   obtain ⟨h1, h2⟩ := hout [t] b1 i1 (by rw [yZ])
   exact ⟨(), trivial, yC (by rw [h1]) ⟨rfl, rfl, by rw [h2]; rfl, trivial⟩⟩
  | t :: c :: r, i1, i2, i3, i4 =>
   have i4 : r.length + 1 + 1 ≤ 1048576 := i4
   refine zf _ ?_
   (all_goals refine qgp ?_ <;> (repeat' first | exact trivial | intro hc | refine And.intro ?_ ?_) <;> refine Lf.mk ?_)
   ·rw [yZ, if_pos ⟨by assumption, by assumption, by assumption⟩] at i1
    refine zp8 q b1 t x.pos [zlc x] i2 hq (htx t (i3 t List.mem_cons_self)) rfl rfl ?_
    (all_goals refine qgp (Lf.mk ?_))
    exact y5 (r, xN q b1 t x.pos) ⟨i1, z7.label (i2.less (by simp only [List.length_cons]; omega)) t x.pos, fun y hy => i3 y (List.mem_cons_of_mem _ (List.mem_cons_of_mem _ hy)), show r.length ≤ 1048576 by omega⟩ (by simp only [List.length_cons]; omega) rfl ⟨rfl, rfl, rfl, trivial⟩
   all_goals
    obtain ⟨h1, h2⟩ := hout (t :: c :: r) b1 i1 (by rw [yZ, if_neg]; rintro ⟨e1, e2, e3⟩; first | exact absurd e1 hc | exact absurd e2 hc | exact absurd e3 hc)
    exact ⟨(), trivial, yC (by rw [h1]) ⟨rfl, rfl, by rw [h2]; rfl, trivial⟩⟩
 ·rintro _ _
  obtain ⟨g1, g2, g3, g4, g5⟩ := zfA x.toks hr
  have hB : xK q b x = zbD q (yZ q x.pos x.toks b).1 x.pos (yZ q x.pos x.toks b).2 := rfl
  show AWP _ _ _ _ (qa _ _ _ _ (vo q b (xK q b x))) _ _
  have hO : vo q b (xK q b x) = vo q (yZ q x.pos x.toks b).1 (xK q b x) := by unfold vo; rw [g5]
  rw [hO, hB]
  generalize (yZ q x.pos x.toks b).1 = b1 at *
  generalize (yZ q x.pos x.toks b).2 = l at *
  clear hO hB
  cases l with
  | nil =>
   refine zf _ ?_
   (all_goals refine qgp ?_ <;> (repeat' first | exact trivial | intro hc | refine And.intro ?_ ?_) <;> refine Lf.mk ?_)
   rw [zbD, vc rfl]
   exact zS [_] rfl rfl rfl (Nat.le_of_eq rfl) .tup0
  | cons t r =>
   have g2 : r.length + 1 ≤ x.toks.length := g2
   rw [zbD]
   refine zf _ ?_
   (all_goals refine qgp ?_ <;> (repeat' first | exact trivial | intro hc | refine And.intro ?_ ?_) <;> refine Lf.mk ?_)
   ·rw [if_pos hc, vc rfl]
    exact zS [_] rfl rfl rfl (Nat.le_of_eq rfl) .tup0
   ·rw [if_neg (fun h => h (by assumption)), if_pos hc, vc (kg _ _ _)]
    refine yQ q b1 2 x.pos [_] rfl rfl ?_
    (all_goals refine qgp (Lf.mk ?_))
    exact zS [_] rfl rfl rfl (Nat.le_of_eq rfl) .tup0
   ·have hfe : b1.fe = 0 := by assumption
    rw [if_neg (fun h => h hfe), if_neg (fun h => h hc)]
    have hAl := zmX q x.pos ⟨r, b1.fe, b1.fa⟩ hfe
    have hAs := zrS q x.pos ⟨r, b1.fe, b1.fa⟩
    rw [List.map_cons, wt] at g3
    refine ztB q b1 ⟨r, b1.fe, b1.fa⟩ x.pos (zlc x) ⟨by show wt (r.map tk) ≤ _; omega, by omega⟩ (fun y hy => htx y (g4 y (List.mem_cons_of_mem _ hy))) rfl rfl ?_
    generalize xf q x.pos ⟨r, b1.fe, b1.fa⟩ = A at *
    obtain ⟨ops, s2⟩ := A
    dsimp only at hAl hAs ⊢
    have hroom : z7 (xJ b1 s2) (1 + ops.length) := (g1.less (by simp only [List.length_cons]; omega)).set s2
    have hops : ops.length ≤ 1000000 := by have := hroom.items; omega
    have hb2 : (xJ b1 s2).has = b1.has := rfl
    rw [show s2.fe = (xJ b1 s2).fe from rfl, show ∀ b', vo q b1 b' = vo q (xJ b1 s2) b' from fun b' => rfl]
    generalize xJ b1 s2 = b2 at *
    have hin := hroom.inB
    have hri := hroom.items
    have hrs := hroom.shut
    (all_goals refine qgp ?_ <;> (repeat' first | exact trivial | intro hc | refine And.intro ?_ ?_) <;> refine Lf.mk ?_)
    ·rw [if_pos hc, vc rfl]
     exact zS [_, _] rfl rfl rfl (Nat.le_of_eq rfl) .tup0
    all_goals rw [if_neg (fun h => h (by assumption))]
    all_goals unfold zei
    all_goals (repeat (first | (rw [if_pos (by assumption)]) | (rw [if_neg (by assumption)])))
    ·rw [vc (zfC _ _ _ _)]
     refine zfB q b2 1 ops x.pos [_, _] (by omega) (by decide) rfl rfl ?_
     (all_goals refine qgp (Lf.mk ?_))
     exact zS [_, _] rfl rfl rfl (Nat.le_of_eq rfl) .tup0
    ·rw [vc (zfC _ _ _ _)]
     refine zfB q b2 2 ops x.pos [_, _] (by omega) (by decide) rfl rfl ?_
     (all_goals refine qgp (Lf.mk ?_))
     exact zS [_, _] rfl rfl rfl (Nat.le_of_eq rfl) .tup0
    ·rw [vc (zfC _ _ _ _)]
     refine zfB q b2 4 ops x.pos [_, _] (by omega) (by decide) rfl rfl ?_
     (all_goals refine qgp (Lf.mk ?_))
     exact zS [_, _] rfl rfl rfl (Nat.le_of_eq rfl) .tup0
    ·rw [vc (zqb _ _ _)]
     refine zqa q b2 ops x.pos [_, _] (by omega) (by omega) rfl rfl ?_
     (all_goals refine qgp (Lf.mk ?_))
     exact zS [_, _] rfl rfl rfl (Nat.le_of_eq rfl) .tup0
    ·rw [if_pos (show 0 < ops.length by omega), vc (kg _ _ _)]
     refine yQ q b2 2 x.pos [_, _] rfl rfl ?_
     (all_goals refine qgp (Lf.mk ?_))
     exact zS [_, _] rfl rfl rfl (Nat.le_of_eq rfl) .tup0
    ·rw [if_neg (show ¬ 0 < ops.length by omega), zgj (zrV _ _)]
     refine zkg q b2 x.pos [_, _] (by omega) (by omega) rfl rfl ?_
     (all_goals refine qgp (Lf.mk ?_))
     exact zS [_, _] rfl rfl rfl (Nat.le_of_eq rfl) .tup0
    ·refine zp9 q b2 t.text ops x.pos [_, _] hin hops hAs rfl rfl (fun hn => ?_) (fun hn hn' => ?_)
     ·rw [zgj hn]
      (all_goals refine qgp (Lf.mk ?_))
      exact zS [_, _] rfl rfl rfl (Nat.le_of_eq rfl) .tup0
     ·rw [zeh hn hn']
      (all_goals refine qgp (Lf.mk ?_))
      have key : ∀ k, k < 5 → zD [0, 1, 2, 3, 4, 5, 8] 0 k = some k := by decide
      generalize xp b2 t.text ops x.pos = b3 at *
      refine zfi [0, 1, 2, 3, 4, 5, 8] rfl rfl ?_ (ClD.tup0 (n := 5) _ key)
      have hr := zgk (m := zD [0, 1, 2, 3, 4, 5, 8] 0) (k := 8) (k' := 6) q b3 key rfl
      exact .cons (o := .cells (bCk q b3)) rfl (hr 0 _ _ rfl rfl) (.cons (o := .arr 13 (b3.items.map xm)) rfl (hr 1 _ _ rfl rfl) (.cons (o := .arr 2 (b3.syms.map yF)) rfl (hr 2 _ _ rfl rfl) (.cons (o := .spare b3.marks.length) rfl (hr 3 _ _ rfl rfl)
       (.cons (o := .arr 1 (b3.shut.map y6 ++ [.sl 2 (b3.cur.map yE) (some 8)])) rfl (hr 4 _ _ rfl rfl) (.cons (o := .dead) rfl rfl (.cons (o := .spare b3.cur.length) rfl rfl .nil))))))
theorem kP {n k : Int} (h : 0 < k) : upA n k ≤ n + k - 1 ∧ n ≤ upA n k := by
 unfold upA
 have h1 := Int.ediv_mul_le (n + k - 1) (b := k) (by omega)
 have h2 := Int.lt_ediv_add_one_mul_self (n + k - 1) h
 rw [Int.add_mul, Int.one_mul] at h2
 omega
theorem zce : za Tryz.prog zsZ (zA (fun ((n, k) : Int × Int) => 0 ≤ n ∧ n ≤ 1000000000000000 ∧ 0 < k ∧ k ≤ 1000000) (fun (n, k) => [.int .i64 n, .int .i64 k]) fun (n, k) => .int .i64 (upA n k)) := by
 refine zg zj Tryz.func74 rfl (by decide) ?_
 rintro ⟨n, k⟩ ⟨h1, h2, h3, h4⟩
 have h1 : 0 ≤ n := h1
 have h2 : n ≤ 1000000000000000 := h2
 have h3 : 0 < k := h3
 have h4 : k ≤ 1000000 := h4
 have hu := kP (n := n) h3
 refine ⟨Nat.le_refl _, by simp [Tryz.f74], fun E hE => ?_⟩
 refine zf _ ?_
 (all_goals refine qgp (Lf.mk ?_))
 refine qP (show -9223372036854775808 ≤ upA n k by omega) (show upA n k ≤ 9223372036854775807 by omega) ?_
 (all_goals refine qgp (Lf.mk ?_))
 exact zb (VS.mk (LeD.refl _))
def wv (pools : List (List zq)) (x : zx) : Prop := (x.kind = 8 → 0 < x.size ∧ x.size ≤ 16) ∧ (x.kind = 7 → 0 < x.size ∧ x.size ≤ 4) ∧ (x.kind = 9 → 0 ≤ x.pool ∧ x.pool < pools.length) ∧ ∀ p ∈ pools, p.length ≤ 1000000
theorem zqc : za Tryz.prog za4 (yh (fun ((b, k, x, a, _) : Bld × Nat × zx × Int × List zk) => b.has = false ∧ b.items[k]? = some x ∧ wv b.shut x ∧ 0 ≤ a ∧ a ≤ 100000000000000) (fun (b, k, _, a, _) => [.loc 0 0, .aloc 1 b.items.length k 0, .int .i64 a])
  (fun (b, _, _, _, q) => bO q b) (fun (b, _, x, a, _) => .int .i64 (xn b.shut x a)) fun (b, _, _, _, q) => bO q b) := by
 refine zg zj Tryz.func132 rfl (by decide) ?_
 rintro ⟨⟨items, syms, marks, shut, has, cur, fe, fa⟩, k, x, a, q⟩ ⟨hh, hx, ⟨hs1, hs2, hs3, hs4⟩, ha0, ha1⟩
 have hh : has = false := hh
 subst hh
 have hx : items[k]? = some x := hx
 have hs3 : x.kind = 9 → 0 ≤ x.pool ∧ x.pool < shut.length := hs3
 have hs4 : ∀ p ∈ shut, p.length ≤ 1000000 := hs4
 have ha0 : 0 ≤ a := ha0
 have ha1 : a ≤ 100000000000000 := ha1
 refine ⟨Nat.le_refl _, by simp [Tryz.f132], fun E hE => ?_⟩
 refine zf _ ?_
 (all_goals refine qgp (Lf.mk ?_))
 have hxn : items[((k : Nat) : Int).toNat]? = some x := by rw [Int.toNat_natCast]; exact hx
 have hz : xn shut x a = if x.kind = 2 ∧ x.long = true then 6 else if x.kind = 7 then x.size else if x.kind = 8 then upA a x.size - a else if x.kind = 9 then upA a 4 - a + 4 * zdv shut x.pool else 2 := rfl
 have hu4 := kP (n := a) (k := 4) (by decide)
 show zW (items.map xm) _ _
 refine zl x (Int.natCast_nonneg k) hxn ?_
 (all_goals refine qgp ?_ <;> (repeat' first | exact trivial | intro hc | refine And.intro ?_ ?_) <;> refine Lf.mk ?_)
 ·refine zl x (Int.natCast_nonneg k) hxn ?_
  (all_goals refine qgp ?_ <;> (repeat' first | exact trivial | intro hc | refine And.intro ?_ ?_) <;> refine Lf.mk ?_)
  ·refine xy ?_ rfl
   show D.int .i64 6 = D.int .i64 (xn shut x a)
   rw [hz, if_pos ⟨by assumption, by assumption⟩]
  ·refine xy ?_ rfl
   show D.int .i64 2 = D.int .i64 (xn shut x a)
   rw [hz, if_neg (fun h => by simp_all), if_neg (by omega), if_neg (by omega), if_neg (by omega)]
 ·refine zl x (Int.natCast_nonneg k) hxn ?_
  (all_goals refine qgp (Lf.mk ?_))
  refine xy ?_ rfl
  show D.int .i64 x.size = D.int .i64 (xn shut x a)
  rw [hz, if_neg (by omega), if_pos hc]
 ·have h8 := hs1 hc
  have hu := kP (n := a) h8.1
  refine zl x (Int.natCast_nonneg k) hxn ?_
  (all_goals refine qgp (Lf.mk ?_))
  refine ze zce (a, x.size) ⟨ha0, by show a ≤ _; omega, h8.1, by show x.size ≤ _; omega⟩ (VS.mk (LeL.of_eq rfl)) ?_
  (all_goals refine qgp (Lf.mk ?_))
  refine xy ?_ rfl
  show D.int .i64 (upA a x.size - a) = D.int .i64 (xn shut x a)
  rw [hz, if_neg (by omega), if_neg (by omega), if_pos hc]
 ·have h9 := hs3 hc
  refine ze zce (a, 4) ⟨ha0, by show a ≤ _; omega, by decide, by decide⟩ (VS.mk (LeL.of_eq rfl)) ?_
  (all_goals refine qgp (Lf.mk ?_))
  refine zl x (Int.natCast_nonneg k) hxn ?_
  (all_goals refine qgp (Lf.mk ?_))
  have hpl : (zJ ⟨items, syms, marks, shut, false, cur, fe, fa⟩).length = shut.length := by unfold zJ; simp
  refine xa ⟨h9.1, by rw [hpl]; exact h9.2⟩ ?_
  (all_goals refine qgp (Lf.mk ?_))
  have hp : ((shut[x.pool.toNat]?).getD []).length ≤ 1000000 := by
   cases hg : shut[x.pool.toNat]? with
   | none => simp
   | some p => exact hs4 p (List.mem_of_getElem? hg)
  (all_goals refine qgp (Lf.mk ?_))
  have hgp : (zJ ⟨items, syms, marks, shut, false, cur, fe, fa⟩)[((0 + x.pool.toNat : Nat) : Int).toNat]? = some (y6 ((shut[x.pool.toNat]?).getD [])) := by
   have hlt : x.pool.toNat < shut.length := by omega
   rw [Int.toNat_natCast, Nat.zero_add]
   unfold zJ
   simp [List.getElem?_eq_getElem hlt]
  refine wC (Int.natCast_nonneg _) hgp ?_
  (all_goals refine qgp (Lf.mk ?_))
  refine xy ?_ rfl
  show _ = D.int .i64 (xn shut x a)
  rw [hz, if_neg (by omega), if_neg (by omega), if_neg (by omega), if_pos hc]
  rfl
 ·refine xy ?_ rfl
  show D.int .i64 2 = D.int .i64 (xn shut x a)
  rw [hz, if_neg (by omega), if_neg (by omega), if_neg (by omega), if_neg (by omega)]
attribute [local irreducible] xn
theorem zej (pools : List (List zq)) : ∀ (l : List zx) (a : Int), (yi pools l a).1.length = l.length
 | [], a => rfl
 | x :: l, a => by rw [yi]; simp [zej pools l]
theorem zjC {pools : List (List zq)} {x : zx} {a : Int} (h : wv pools x) (h0 : 0 ≤ a) : 0 ≤ xn pools x a ∧ xn pools x a ≤ 5000000 := by
 obtain ⟨h8, h7, h9, hp⟩ := h
 have hu4 := kP (n := a) (k := 4) (by decide)
 have hl : zdv pools x.pool ≤ 1000000 ∧ 0 ≤ zdv pools x.pool := by
  unfold zdv
  cases hg : pools[x.pool.toNat]? with
  | none => simp
  | some p => have := hp p (List.mem_of_getElem? hg); simp; omega
 unfold xn
 split
 ·omega
 split
 ·rename_i h; have := h7 h; omega
 split
 ·rename_i h
  have := h8 h
  have hu := kP (n := a) this.1
  omega
 split
 ·omega
 ·omega
theorem zoW {α : Type} {f : α → D} {a b : List α} {x : α} (y : α) {k : Nat} (hk : a.length = k) {d : D} (hd : d = f y) : ((a ++ x :: b).map f).set (0 + ((k : Nat) : Int).toNat) d = ((a ++ [y]) ++ b).map f := by
 subst hd; subst hk
 rw [Nat.zero_add, Int.toNat_natCast, List.map_append, List.set_append_right _ _ (by simp)]
 simp
theorem zdw {α : Type} {a b : List α} {x : α} {k : Nat} (hk : a.length = k) : (a ++ x :: b)[k]? = some x := by
 subst hk
 rw [List.getElem?_append_right (Nat.le_refl _)]
 simp
theorem zgl {q : List zk} {b b' : Bld} (h1 : b.items.length = b'.items.length) (h2 : b.syms.length = b'.syms.length) (h3 : b.marks = b'.marks) (h4 : zJ b = zJ b') (h5 : b.shut = b'.shut) (h6 : b.fe = b'.fe) (h7 : b.fa = b'.fa) : bC q b = bC q b' := by
 unfold bC
 rw [h1, h2, h3, h4, h5, h6, h7]
theorem zrW {av : List D} {L : List Ob} {KP : D → Prop} {KW : D → List Ob → Prop} (q : List zk) (b : Bld) (k : Nat) (x : zx) (a : Int) (hh : b.has = false) (hx : b.items[k]? = some x) (hs : wv b.shut x) (h0 : 0 ≤ a) (h1 : a ≤ 100000000000000) (hL : L = bO q b)
  (has : av = [.loc 0 0, .aloc 1 b.items.length k 0, .int .i64 a]) (hK : KW (.int .i64 (xn b.shut x a)) (bO q b)) : zn Tryz.prog za4 av L KP KW := by
 subst has
 exact zlU zqc (b, k, x, a, q) ⟨hh, hx, hs, h0, h1⟩ hL (LeL.refl _) hK
theorem zhp {α : Type} {f : α → D} {a b : List α} {x : α} (y : α) {k : Nat} (hk : a.length = k) {d : D} (hd : d = f y) : ((a ++ x :: b).map f).set (0 + ((k : Nat) : Int).toNat) d = (a ++ y :: b).map f := by
 rw [zoW y hk hd, List.append_assoc]; rfl
theorem zgL (items : List zx) (e : Int) : ∀ (ss : List zz) (ms : List Int) (s : zz) (m : Int), ss.length = ms.length → x4 items e (ss ++ [s]) (ms ++ [m]) = x4 items e ss ms ++ [⟨s.name, kf items e m⟩]
 | [], [], s, m, _ => rfl
 | a :: ss, b :: ms, s, m, h => by
  show _ :: x4 items e (ss ++ [s]) (ms ++ [m]) = _ :: (x4 items e ss ms ++ _)
  rw [zgL items e ss ms s m (by simpa using h)]
 | [], _ :: _, _, _, h => by simp at h
 | _ :: _, [], _, _, h => by simp at h
theorem zbE (items : List zx) (e : Int) : ∀ (ss : List zz) (ms : List Int), (x4 items e ss ms).length = ss.length
 | [], _ => by rw [x4]; intro _ _ _ _ h; cases h
 | s :: ss, [] => rfl
 | s :: ss, m :: ms => by rw [x4, List.length_cons, zbE items e ss ms, List.length_cons]
theorem zoc : za Tryz.prog j5 (yh (fun ((b, _) : Bld × List zk) => b.has = false ∧ (∀ x ∈ b.items, wv b.shut x) ∧ b.items.length ≤ 1000000 ∧ b.marks.length = b.syms.length ∧ b.marks.length ≤ 1000000 ∧ ∀ m ∈ b.marks, 0 ≤ m) (fun _ => [.loc 0 0])
  (fun (b, q) => bO q b) (fun (b, _) => .int .i64 (yi b.shut b.items 0).2) fun (b, q) => bO q { b with items := (yi b.shut b.items 0).1, syms := x4 (yi b.shut b.items 0).1 (yi b.shut b.items 0).2 b.syms b.marks }) := by
 refine zg zj Tryz.func69 rfl (by decide) ?_
 rintro ⟨⟨items, syms, marks, shut, has, cur, fe, fa⟩, q⟩ ⟨hh, hsz, hil, hms, hml, hm0⟩
 have hh : has = false := hh
 subst hh
 have hsz : ∀ x ∈ items, wv shut x := hsz
 have hil : items.length ≤ 1000000 := hil
 have hms : marks.length = syms.length := hms
 have hml : marks.length ≤ 1000000 := hml
 have hm0 : ∀ m ∈ marks, 0 ≤ m := hm0
 refine ⟨Nat.le_refl _, by simp [Tryz.f69], fun E hE => ?_⟩
 have hE6 : E.L.length = 6 := by rw [hE]; rfl
 show AWP _ _ _ _ (qa _ _ _ (.int .i64 (yi shut items 0).2) (bO q ⟨(yi shut items 0).1, x4 (yi shut items 0).1 (yi shut items 0).2 syms marks, marks, shut, false, cur, fe, fa⟩)) _ (bO q ⟨items, syms, marks, shut, false, cur, fe, fa⟩)
 have hPl := zej shut items 0
 generalize hP : yi shut items 0 = P at *
 obtain ⟨PI, PE⟩ := P
 dsimp only at hPl ⊢
 refine zf _ ?_
 (all_goals refine qgp (Lf.mk ?_))
 refine xg (α := Nat × Int) (fun p => p.1 ≤ items.length ∧ yi shut (items.drop p.1) p.2 = (PI.drop p.1, PE) ∧ 0 ≤ p.2 ∧ p.2 ≤ 5000000 * (p.1 : Int)) (fun p => [(0, .loc 0 0), (3, .int .i64 p.2), (11, .int .i64 items.length), (12, .int .i64 p.1)])
  (fun p => bO q ⟨PI.take p.1 ++ items.drop p.1, syms, marks, shut, false, cur, fe, fa⟩) (fun p => items.length - p.1) (fun _ => by rw [hE6]; exact Nat.le_refl 6) (0, 0) ⟨Nat.zero_le _, hP, Int.le_refl 0, by simp⟩ ?_ ?_
 ·exact yC rfl ⟨rfl, rfl, rfl, rfl, trivial⟩
 rintro ⟨k, a⟩ ⟨i1, i2, i3, i4⟩
 dsimp only at i1 i2 i3 i4 ⊢
 have hlen : (PI.take k ++ items.drop k).length = items.length := by rw [List.length_append, List.length_take, List.length_drop]; omega
 refine zf _ ?_
 (all_goals refine qgp ?_ <;> (repeat' first | exact trivial | intro hc | refine And.intro ?_ ?_) <;> refine Lf.mk ?_)
 ·have hkl : k < items.length := by omega
  obtain ⟨x, hx⟩ := ya (l := items) (k := k) (by omega)
  have hgx : items[k] = x := by rw [List.getElem?_eq_getElem hkl] at hx; exact Option.some.inj hx
  have hxs := hsz x (List.mem_of_getElem? hx)
  have hsl := zjC (a := a) hxs i3
  rw [List.drop_eq_getElem_cons hkl, hgx, yi] at i2
  obtain ⟨e1, e2⟩ := Prod.mk.inj i2
  have hkP : k < PI.length := by omega
  rw [List.drop_eq_getElem_cons hkP] at e1
  obtain ⟨e3, e4⟩ := List.cons.inj e1
  have hnext : yi shut (items.drop (k + 1)) (a + xn shut x a) = (PI.drop (k + 1), PE) := by rw [← e4, ← e2]
  have htake : PI.take (k + 1) = PI.take k ++ [{ x with at_ := a }] := by rw [List.take_succ_eq_append_getElem hkP, ← e3]
  have hlk : (PI.take k).length = k := by rw [List.length_take]; omega
  have hdrop : items.drop k = x :: items.drop (k + 1) := by rw [List.drop_eq_getElem_cons hkl, hgx]
  have hmid := zdw (a := PI.take k) (b := items.drop (k + 1)) (x := x) hlk
  have hlen2 : (PI.take (k + 1) ++ items.drop (k + 1)).length = items.length := by rw [List.length_append, List.length_take, List.length_drop]; omega
  rw [hdrop] at hlen ⊢
  refine zl x (Int.natCast_nonneg _) (by rw [Int.toNat_natCast, Nat.zero_add, Int.toNat_natCast]; exact hmid) ?_
  (all_goals refine qgk (Lf.mk ?_))
  refine wM ((PI.take (k + 1) ++ items.drop (k + 1)).map xm) (by rw [htake]; exact zoW { x with at_ := a } hlk rfl) ?_
  (all_goals refine qgk (Lf.mk ?_))
  have hb : (PI.take k ++ x :: items.drop (k + 1)).length = (PI.take (k + 1) ++ items.drop (k + 1)).length := by rw [hlen, hlen2]
  have hx2 : (PI.take (k + 1) ++ items.drop (k + 1))[k]? = some { x with at_ := a } := by rw [htake, List.append_assoc]; exact zdw hlk
  have hs2 : xn shut { x with at_ := a } a = xn shut x a := by unfold xn; rfl
  refine zrW q ⟨PI.take (k + 1) ++ items.drop (k + 1), syms, marks, shut, false, cur, fe, fa⟩ k { x with at_ := a } a rfl hx2 hxs i3 (by omega) ?_ ?_ ?_
  ·exact congrArg (fun c => Ob.cells c :: bT ⟨PI.take (k + 1) ++ items.drop (k + 1), syms, marks, shut, false, cur, fe, fa⟩) (zgl hb rfl rfl rfl rfl rfl rfl)
  ·show [D.loc 0 0, .aloc 1 (PI.take k ++ x :: items.drop (k + 1)).length (0 + ((k : Nat) : Int).toNat) 0, .int .i64 a] = _
   rw [hb, Nat.zero_add, Int.toNat_natCast]
  rw [show xn (Bld.shut ⟨PI.take (k + 1) ++ items.drop (k + 1), syms, marks, shut, false, cur, fe, fa⟩) { x with at_ := a } a = xn shut x a from hs2]
  (all_goals refine qgp (Lf.mk ?_))
  exact y5 (k + 1, a + xn shut x a) ⟨by show k + 1 ≤ _; omega, hnext, by dsimp only; omega, by dsimp only; omega⟩ (by dsimp only; omega) rfl ⟨rfl, rfl, rfl, rfl, trivial⟩
 ·have hk : k = items.length := by omega
  rw [hk, List.drop_length, yi] at i2
  obtain ⟨e1, e2⟩ := Prod.mk.inj i2
  have hI : PI.take k ++ items.drop k = PI := by rw [hk, List.drop_length, List.append_nil, ← hPl, List.take_length]
  rw [hI] at hlen ⊢
  subst e2
  clear e1 i2
  refine xg (α := Nat) (fun j => j ≤ marks.length) (fun j => [(0, .loc 0 0), (3, .int .i64 a), (38, .sl 1 (marks.map (.int .i64)) none), (39, .int .i64 marks.length), (40, .int .i64 j)])
   (fun j => bO q ⟨PI, x4 PI a (syms.take j) (marks.take j) ++ syms.drop j, marks, shut, false, cur, fe, fa⟩) (fun j => marks.length - j) (fun _ => by rw [hE6]; exact Nat.le_refl 6) 0 (Nat.zero_le _) ?_ ?_
  ·refine zhe rfl ⟨.refl _, .refl _, .strip _ _ _, .refl _, .refl _, trivial⟩
  intro j hj
  have hj : j ≤ marks.length := hj
  refine zf _ ?_
  have hSl : (x4 PI a (syms.take j) (marks.take j)).length = j := by rw [zbE, List.length_take]; omega
  (all_goals refine qgp ?_ <;> (repeat' first | exact trivial | intro hc | refine And.intro ?_ ?_) <;> refine Lf.mk ?_)
  ·have hjm : j < marks.length := by omega
   have hjs : j < syms.length := by omega
   obtain ⟨m, hm⟩ := ya (l := marks) (k := j) (by omega)
   obtain ⟨s, hs⟩ := ya (l := syms) (k := j) (by omega)
   have hgm : marks[j] = m := by rw [List.getElem?_eq_getElem hjm] at hm; exact Option.some.inj hm
   have hgs : syms[j] = s := by rw [List.getElem?_eq_getElem hjs] at hs; exact Option.some.inj hs
   have hm0 := hm0 m (List.mem_of_getElem? hm)
   have hdrop : syms.drop j = s :: syms.drop (j + 1) := by rw [List.drop_eq_getElem_cons hjs, hgs]
   have hsn : x4 PI a (syms.take (j + 1)) (marks.take (j + 1)) = x4 PI a (syms.take j) (marks.take j) ++ [⟨s.name, kf PI a m⟩] := by
    rw [List.take_succ_eq_append_getElem hjs, List.take_succ_eq_append_getElem hjm, hgs, hgm]
    exact zgL _ _ _ _ _ _ (by rw [List.length_take, List.length_take]; omega)
   generalize x4 PI a (syms.take j) (marks.take j) = SJ at *
   rw [hdrop]
   refine zl m (by omega) (by simpa using hm) ?_
   have hlen3 : (SJ ++ s :: syms.drop (j + 1)).length = syms.length := by rw [List.length_append, List.length_cons, List.length_drop]; omega
   have hmid := zdw (a := SJ) (b := syms.drop (j + 1)) (x := s) hSl
   (all_goals refine qgk (Lf.mk ?_))
   refine zl s (Int.natCast_nonneg _) (by rw [Int.toNat_natCast, Nat.zero_add, Int.toNat_natCast]; exact hmid) ?_
   (all_goals refine qgk (Lf.mk ?_))
   refine wM ((SJ ++ (⟨s.name, a⟩ : zz) :: syms.drop (j + 1)).map yF) (zhp ⟨s.name, a⟩ hSl rfl) ?_
   (all_goals refine qgk ?_ <;> (repeat' first | exact trivial | intro hc | refine And.intro ?_ ?_) <;> refine Lf.mk ?_)
   ·have hmn : m.toNat < PI.length := by omega
    have hmk : kf PI a m = (itA PI m).at_ := by unfold kf; rw [if_pos hc]
    have hit : PI[m.toNat]? = some (itA PI m) := by unfold itA; rw [List.getElem?_eq_getElem hmn]; rfl
    have hmid2 := zdw (a := SJ) (b := syms.drop (j + 1)) (x := (⟨s.name, a⟩ : zz)) hSl
    refine zl (itA PI m) (Int.natCast_nonneg _) (by rw [Int.toNat_natCast, Nat.zero_add]; exact hit) ?_
    (all_goals refine qgk (Lf.mk ?_))
    refine zl (⟨s.name, a⟩ : zz) (Int.natCast_nonneg _) (by rw [Int.toNat_natCast, Nat.zero_add, Int.toNat_natCast]; exact hmid2) ?_
    (all_goals refine qgk (Lf.mk ?_))
    refine wM ((SJ ++ (⟨s.name, (itA PI m).at_⟩ : zz) :: syms.drop (j + 1)).map yF) (zhp ⟨s.name, (itA PI m).at_⟩ hSl rfl) ?_
    (all_goals refine qgk (Lf.mk ?_))
    refine y5 (j + 1) (by show j + 1 ≤ _; omega) (by omega) ?_ ⟨rfl, rfl, rfl, rfl, rfl, trivial⟩
    dsimp only
    rw [hsn, hmk, List.append_assoc]
    exact congrArg (fun c => Ob.cells c :: bT ⟨PI, SJ ++ (⟨s.name, (itA PI m).at_⟩ : zz) :: syms.drop (j + 1), marks, shut, false, cur, fe, fa⟩) (zgl rfl (by simp) rfl rfl rfl rfl rfl)
   ·have hmk : kf PI a m = a := by unfold kf; rw [if_neg hc]
    refine y5 (j + 1) (by show j + 1 ≤ _; omega) (by omega) ?_ ⟨rfl, rfl, rfl, rfl, rfl, trivial⟩
    dsimp only
    rw [hsn, hmk, List.append_assoc]
    exact congrArg (fun c => Ob.cells c :: bT ⟨PI, SJ ++ (⟨s.name, a⟩ : zz) :: syms.drop (j + 1), marks, shut, false, cur, fe, fa⟩) (zgl rfl (by simp) rfl rfl rfl rfl rfl)
  ·have hj2 : j = marks.length := by omega
   rw [hj2, List.take_length, hms, List.take_length, List.drop_length, List.append_nil]
   exact xy rfl rfl
attribute [local irreducible] xl
theorem zmZ {n : Int} {K : D → Prop} (h : K (.int .i64 (w64 n))) : zy .i64 n K := by unfold zy; exact h
theorem zwX {x y : Int} {K : D → Prop} (hy : y ≠ 0) (h : K (.int .i64 (x.tmod y))) : yq .i64 x y K := by unfold yq; exact ⟨hy, h⟩
theorem zwY {x y : Int} {K : D → Prop} (hy : y ≠ 0) (h : K (.int .i64 (w64 (x.tdiv y)))) : yp .i64 x y K := by unfold yp; exact ⟨hy, h⟩
theorem zew : za Tryz.prog vV (yh (fun _ : zz × zq => True) (fun (s, _) => [yF s, .loc 0 0]) (fun (_, v) => [.cells [.str v.name, .int .i64 v.n]]) (fun (s, v) => .bool (s.name == v.name))
  fun (_, v) => [.cells [.str v.name, .int .i64 v.n]]) := by
 refine zg zj Tryz.func134 rfl (by decide) ?_
 rintro ⟨s, v⟩ _
 refine ⟨Nat.le_refl _, by simp [Tryz.f134], fun E hE => ?_⟩
 refine zf _ ?_
 (all_goals refine qgo (Lf.mk ?_))
 exact kq [.cells [.str v.name, .int .i64 v.n]] [_] rfl (Nat.le_refl 1) .bool (by intro o ho; rw [List.mem_singleton] at ho; subst ho; exact .cells (.cons .str (.cons .int .nil)))
theorem zm0 : za Tryz.prog w2 (yh (fun ((b, _, _) : Bld × zq × List zk) => b.syms.length ≤ 1000000) (fun (_, v, _) => [.loc 0 0, yE v])
  (fun (b, _, q) => bO q b) (fun (b, v, _) => .tup [.int .i64 (zT b.syms v).1, .int .i64 (zT b.syms v).2]) fun (b, _, q) => bO q b) := by
 refine zg zj Tryz.func70 rfl (by decide) ?_
 rintro ⟨b, v, q⟩ hl
 have hl : b.syms.length ≤ 1000000 := hl
 refine ⟨Nat.le_refl _, by simp [Tryz.f70], fun E hE => ?_⟩
 show AWP _ _ _ _ (qa _ _ _ (.tup [.int .i64 (zT b.syms v).1, .int .i64 (zT b.syms v).2]) (bO q b)) _ (bO q b)
 have hT : zT b.syms v = if v.name = [] then (0, 8) else if zjy v.name b.syms 0 < 0 then (0, 6) else (w64 ((zcb b.syms (zjy v.name b.syms 0)).at_ + v.n), 0) := rfl
 generalize zT b.syms v = T at *
 refine zf _ ?_
 (all_goals refine qgp ?_ <;> (repeat' first | exact trivial | intro hc | refine And.intro ?_ ?_) <;> refine Lf.mk ?_)
 ·rw [if_pos hc] at hT
  subst hT
  exact zS [_] rfl rfl rfl (Nat.le_of_eq rfl) (.tup (.cons .int (.cons .int .nil)))
 rw [if_neg hc] at hT
 refine zho vV [.loc 6 0] (fun s => s.name == v.name) b.syms (.cells (bC q b)) (.arr 13 (b.items.map xm)) [.spare b.marks.length, .arr 1 (zJ b), zda b, .cells [.str v.name, .int .i64 v.n]] (by omega) rfl rfl
  (fun s hs KP KW hK => ?_) ?_
 ·exact zX zew [6] [6] (s, v) trivial rfl rfl ⟨VS.mk (LeL.refl _), VS.mk rfl, hK⟩
 have hp := zbC (fun s : zz => s.name == v.name) b.syms 0
 have hT : T = if xA (fun s : zz => s.name == v.name) b.syms 0 < 0 then (0, 6) else (w64 ((zcb b.syms (xA (fun s : zz => s.name == v.name) b.syms 0)).at_ + v.n), 0) := hT
 generalize xA (fun s : zz => s.name == v.name) b.syms 0 = p at *
 (all_goals refine qgp ?_ <;> (repeat' first | exact trivial | intro hc | refine And.intro ?_ ?_) <;> refine Lf.mk ?_)
 ·rw [if_pos hc] at hT
  subst hT
  exact zS [_] rfl rfl rfl (Nat.le_of_eq rfl) (.tup (.cons .int (.cons .int .nil)))
 have hpl : p.toNat < b.syms.length := by
  rcases hp with h | ⟨j, h1, h2⟩
  ·omega
  ·rw [h2, Int.toNat_natCast, Nat.zero_add]; exact h1
 have hs : b.syms[p.toNat]? = some (zcb b.syms p) := by unfold zcb; rw [List.getElem?_eq_getElem hpl]; rfl
 rw [if_neg hc] at hT
 refine zl (zcb b.syms p) (Int.natCast_nonneg _) (by rw [Int.toNat_natCast, Nat.zero_add]; exact hs) ?_
 (all_goals refine qgp (Lf.mk ?_))
 refine zmZ ?_
 (all_goals refine qgp (Lf.mk ?_))
 subst hT
 exact zS [_] rfl rfl rfl (Nat.le_of_eq rfl) (.tup (.cons .int (.cons .int .nil)))
theorem zrX : ∀ i : Fin 64, (~~~ (3#64)).getLsbD i = decide (2 ≤ i.1) := by decide
theorem zvf (x : BitVec 64) : x &&& ~~~ (3#64) = (x >>> 2) <<< 2 := by
 apply BitVec.eq_of_getLsbD_eq
 intro i hi
 rw [BitVec.getLsbD_and, zrX ⟨i, hi⟩, BitVec.getLsbD_shiftLeft, BitVec.getLsbD_ushiftRight]
 by_cases h : 2 ≤ i
 ·simp [h, hi, show ¬ i < 2 by omega, show 2 + (i - 2) = i by omega]
 ·simp [h, show i < 2 by omega]
theorem zwq {n : Int} (h0 : 0 ≤ n) (h1 : n ≤ 9223372036854775807) : zw .andNot .i64 n 3 = n - n % 4 := by
 obtain ⟨a, rfl⟩ := Int.eq_ofNat_of_zero_le h0
 have ha : a ≤ 9223372036854775807 := by omega
 unfold zw
 have e : (BitVec.ofInt IntKind.i64.bits (a : Int) &&& ~~~ BitVec.ofInt IntKind.i64.bits 3).toNat = a / 4 * 4 := by
  have e2 : BitVec.ofInt IntKind.i64.bits (a : Int) = BitVec.ofNat 64 a := rfl
  rw [e2]
  show (BitVec.ofNat 64 a &&& ~~~ (3#64)).toNat = _
  rw [zvf, BitVec.toNat_shiftLeft, BitVec.toNat_ushiftRight, BitVec.toNat_ofNat, Nat.mod_eq_of_lt (by omega : a < 2 ^ 64), Nat.shiftRight_eq_div_pow, Nat.shiftLeft_eq]
  omega
 show IntKind.i64.wrap ((_ : Nat) : Int) = _
 rw [e, ja (by omega) (by omega)]
 omega
theorem ztC (op : Int) : ∃ s : List UInt8, kv op = .tup [.str s, .int .i64 (zcc op)] := by
 unfold kv zcc
 cases xl op with
 | none => exact ⟨[], rfl⟩
 | some r => exact ⟨r.name, rfl⟩
theorem ziD : za Tryz.prog zpD (zA (fun ((_, a, _) : Int × Int × Int) => 0 ≤ a ∧ a ≤ 1000000000000000) (fun (op, a, to) => [.int .i64 op, .int .i64 a, .int .i64 to])
  fun (op, a, to) => .tup [.int .i64 (wi op a to).1, .int .i64 (wi op a to).2]) := by
 refine zg zj Tryz.func71 rfl (by decide) ?_
 rintro ⟨op, a, to⟩ ⟨h0, h1⟩
 have h0 : 0 ≤ a := h0
 have h1 : a ≤ 1000000000000000 := h1
 refine ⟨Nat.le_refl _, by simp [Tryz.f71], fun E hE => ?_⟩
 show AWP _ _ _ _ (qa _ _ _ (.tup [.int .i64 (wi op a to).1, .int .i64 (wi op a to).2]) []) _ []
 have hA : wi op a to = if (w64 (to - zcQ op a)).tmod (ofA op) ≠ 0 then (0, 11)
  else if zeg op a to < zc9 (zcc op) ∨ zau (zcc op) < zeg op a to then (zeg op a to, 3) else (zeg op a to, 0) := rfl
 have hF : zeg op a to = w64 ((w64 (to - zcQ op a)).tdiv (ofA op)) := rfl
 obtain ⟨s, hI⟩ := ztC op
 have hof : ofA op ≠ 0 := by unfold ofA; split <;> decide
 generalize wi op a to = A at *
 generalize zcc op = sh at *
 refine wX (zf _ ?_)
 (all_goals refine qgp (Lf.mk ?_))
 refine wX (zf _ ?_)
 (all_goals refine qgp (Lf.mk ?_))
 refine zdq (α := Unit) (fun _ => True) (fun _ => [(0, .int .i64 op), (1, .int .i64 a), (2, .int .i64 to), (8, .int .i64 (zcQ op a)), (9, .int .i64 (ofA op))]) (fun _ => []) ?_ ?_
 ·refine zf _ ?_
  (all_goals refine qgp ?_ <;> (repeat' first | exact trivial | intro hc | refine And.intro ?_ ?_) <;> refine Lf.mk ?_)
  ·refine wb (zwq (by omega) (by omega)) ?_
   (all_goals refine qgp (Lf.mk ?_))
   refine ⟨(), trivial, yC rfl ⟨rfl, rfl, rfl, ?_, ?_, trivial⟩⟩
   ·show D.int .i64 (a + 4 - (a + 4) % 4) = _
    unfold zcQ; rw [if_pos hc]
   ·show D.int .i64 4 = _
    unfold ofA; rw [if_pos hc]
  ·refine ⟨(), trivial, yC rfl ⟨rfl, rfl, rfl, ?_, ?_, trivial⟩⟩
   ·show D.int .i64 (a + 4) = _
    unfold zcQ; rw [if_neg hc]
   ·show D.int .i64 2 = _
    unfold ofA; rw [if_neg hc]
 ·rintro _ _
  refine zf _ ?_
  generalize zcQ op a = fr at *
  generalize ofA op = o at *
  (all_goals refine qgp (Lf.mk ?_))
  refine zmZ ?_
  (all_goals refine qgp (Lf.mk ?_))
  refine zwX hof ?_
  (all_goals refine qgp ?_ <;> (repeat' first | exact trivial | intro hc | refine And.intro ?_ ?_) <;> refine Lf.mk ?_)
  ·rw [if_pos hc] at hA
   subst hA
   exact zb (VS.mk (LeD.refl _))
  ·rw [if_neg (fun h => h hc)] at hA
   refine zmZ ?_
   (all_goals refine qgp (Lf.mk ?_))
   refine zwY hof ?_
   (all_goals refine qgp (Lf.mk ?_))
   refine ze zby op trivial (VS.mk (LeL.of_eq rfl)) ?_
   rw [hI]
   rw [← hF]
   (all_goals refine qgp (Lf.mk ?_))
   refine ze zgI sh trivial (VS.mk (LeL.of_eq rfl)) ?_
   (all_goals refine qgp ?_ <;> (repeat' first | exact trivial | intro hc | refine And.intro ?_ ?_) <;> refine Lf.mk ?_)
   ·rw [if_pos (.inl hc)] at hA
    subst hA
    exact zb (VS.mk (LeD.refl _))
   ·rw [if_pos (.inr hc)] at hA
    subst hA
    exact zb (VS.mk (LeD.refl _))
   ·rw [if_neg (by omega)] at hA
    subst hA
    exact zb (VS.mk (LeD.refl _))
attribute [local irreducible] wi zT
structure jS (shut : List (List zq)) (marks : List Int) (s : Lay) : Prop where
 size : ∀ x ∈ s.items, wv shut x
 items : s.items.length ≤ 1000000
 len : marks.length = s.syms.length
 marksl : marks.length ≤ 1000000
 pos : ∀ m ∈ marks, 0 ≤ m
theorem zfD {pools : List (List zq)} : ∀ (l : List zx) (a : Int), 0 ≤ a → (∀ x ∈ l, wv pools x) → ∀ x ∈ (yi pools l a).1, wv pools x ∧ 0 ≤ x.at_ ∧ x.at_ ≤ a + 5000000 * (l.length : Int)
 | [], a, h0, _, x, hx => by cases hx
 | y :: l, a, h0, hs, x, hx => by
  have hy := hs y List.mem_cons_self
  have hz := zjC (a := a) hy h0
  rw [yi] at hx
  rcases List.mem_cons.1 hx with rfl | hx
  ·exact ⟨hy, h0, by dsimp only; simp only [List.length_cons]; omega⟩
  ·obtain ⟨h1, h2, h3⟩ := zfD l (a + xn pools y a) (by omega) (fun z hz => hs z (List.mem_cons_of_mem _ hz)) x hx
   exact ⟨h1, h2, by simp only [List.length_cons]; omega⟩
theorem zcf (pools : List (List zq)) : ∀ (l : List zx) (a : Int), wj (yi pools l a).1 = wj l
 | [], a => rfl
 | x :: l, a => by
  have ih := zcf pools l (a + xn pools x a)
  unfold wj at ih ⊢
  rw [yi, List.filter_cons, List.filter_cons]
  split
  ·rw [List.length_cons, List.length_cons, ih]
  ·exact ih
theorem zrY {pools : List (List zq)} {syms : List zz} {x : zx} (h : wv pools x) : wv pools (yT syms x) := by
 unfold yT
 split
 ·exact h
 ·exact h
theorem zek (syms : List zz) : ∀ l : List zx, wj (l.map (yT syms)) ≤ wj l ∧ (l.any (xB syms) = true → wj (l.map (yT syms)) < wj l)
 | [] => ⟨Nat.le_refl _, fun h => by cases h⟩
 | x :: l => by
  obtain ⟨h1, h2⟩ := zek syms l
  unfold wj at h1 h2 ⊢
  rw [List.map_cons, List.filter_cons, List.filter_cons, List.any_cons]
  cases hm : xB syms x with
  | true =>
   have hs : x.kind = 2 ∧ x.long = false := by unfold xB at hm; simp at hm; exact ⟨hm.1, hm.2.1⟩
   have hg : yT syms x = { x with long := true } := by unfold yT; rw [if_pos hm]
   rw [hg]
   rw [if_neg (show ¬ decide (x.kind = 2 ∧ true = false) = true by simp), if_pos (show decide (x.kind = 2 ∧ x.long = false) = true by simpa using hs), List.length_cons]
   exact ⟨by omega, fun _ => by omega⟩
  | false =>
   have hg : yT syms x = x := by unfold yT; rw [if_neg (by rw [hm]; decide)]
   rw [hg, Bool.false_or]
   split
   ·rw [List.length_cons, List.length_cons]
    exact ⟨by omega, fun h => by have := h2 h; omega⟩
   ·exact ⟨h1, h2⟩
theorem jS.place {shut : List (List zq)} {marks : List Int} {s : Lay} (h : jS shut marks s) : jS shut marks (yK shut marks s).1 :=
 ⟨fun x hx => (zfD s.items 0 (Int.le_refl 0) h.size x hx).1, by show (yi shut s.items 0).1.length ≤ _; rw [zej]; exact h.items, by show _ = (x4 _ _ _ _).length; rw [zbE]; exact h.len, h.marksl, h.pos⟩
theorem jS.grow {shut : List (List zq)} {marks : List Int} {s : Lay} {syms : List zz} (h : jS shut marks s) : jS shut marks ⟨s.items.map (yT syms), s.syms⟩ :=
 ⟨fun x hx => by obtain ⟨y, hy, rfl⟩ := List.mem_map.1 hx; exact zrY (h.size y hy), by rw [List.length_map]; exact h.items, h.len, h.marksl, h.pos⟩
theorem zod {av : List D} {L : List Ob} {KP : D → Prop} {KW : D → List Ob → Prop} (q : List zk) (b : Bld) (v : zq) (X : List Ob) (hl : b.syms.length ≤ 1000000) (hL : L = bO q b ++ X) (has : av = [.loc 0 0, yE v])
  (hK : KW (.tup [.int .i64 (zT b.syms v).1, .int .i64 (zT b.syms v).2]) (bO q b ++ X)) : zn Tryz.prog w2 av L KP KW := by
 subst has
 exact xL zm0 X (b, v, q) hl hL (LeL.refl _) rfl (.cons (.loc (Nat.lt_of_lt_of_le (by decide : 0 < 6) (Nat.le_of_eq rfl))) (.cons (zan v) .nil)) (.tup (.cons .int (.cons .int .nil))) (xc _ _) (xc _ _) hK
theorem zqd {av : List D} {L : List Ob} {KP : D → Prop} {KW : D → List Ob → Prop} (q : List zk) (s : Lay) (marks : List Int) (shut : List (List zq)) (cur : List zq) (fe fa : Int) (X : List Ob) (h : jS shut marks s) (hL : L = bO q ⟨s.items, s.syms, marks, shut, false, cur, fe, fa⟩ ++ X) (has : av = [.loc 0 0])
  (hK : KW (.int .i64 (yK shut marks s).2) (bO q ⟨(yK shut marks s).1.items, (yK shut marks s).1.syms, marks, shut, false, cur, fe, fa⟩ ++ X)) : zn Tryz.prog j5 av L KP KW := by
 subst has
 exact xL zoc X (⟨s.items, s.syms, marks, shut, false, cur, fe, fa⟩, q) ⟨rfl, h.size, h.items, h.len, h.marksl, h.pos⟩ hL (LeL.refl _) rfl (.cons (.loc (Nat.lt_of_lt_of_le (by decide : 0 < 6) (Nat.le_of_eq rfl))) .nil) .int (xc _ _) (xc _ _) hK
theorem zdb (shut : List (List zq)) (marks : List Int) (f : Nat) (s : Lay) : zcd shut marks (f + 1) s = if ((yK shut marks s).1.items.any (xB (yK shut marks s).1.syms)) = false ∨ 8000 < (yK shut marks s).2
      then (⟨(yK shut marks s).1.items.map (yT (yK shut marks s).1.syms), (yK shut marks s).1.syms⟩, (yK shut marks s).2)
      else zcd shut marks f ⟨(yK shut marks s).1.items.map (yT (yK shut marks s).1.syms), (yK shut marks s).1.syms⟩ := rfl
theorem zoe : za Tryz.prog zez (yh (fun ((s, marks, shut, _, _, _, _) : Lay × List Int × List (List zq) × List zq × Int × Int × List zk) => jS shut marks s) (fun _ => [.loc 0 0])
  (fun (s, marks, shut, cur, fe, fa, q) => bO q ⟨s.items, s.syms, marks, shut, false, cur, fe, fa⟩) (fun (s, marks, shut, _, _, _, _) => .int .i64 (yG shut marks s).2)
  fun (s, marks, shut, cur, fe, fa, q) => bO q ⟨(yG shut marks s).1.items, (yG shut marks s).1.syms, marks, shut, false, cur, fe, fa⟩) := by
 refine zg zj Tryz.func39 rfl (by decide) ?_
 rintro ⟨s, marks, shut, cur, fe, fa, q⟩ h
 have h : jS shut marks s := h
 refine ⟨Nat.le_refl _, by simp [Tryz.f39], fun E hE => ?_⟩
 have hE6 : E.L.length = 6 := by rw [hE]; rfl
 show AWP _ _ _ _ (qa _ _ _ (.int .i64 (yG shut marks s).2) (bO q ⟨(yG shut marks s).1.items, (yG shut marks s).1.syms, marks, shut, false, cur, fe, fa⟩)) _ (bO q ⟨s.items, s.syms, marks, shut, false, cur, fe, fa⟩)
 generalize hT : yG shut marks s = T
 have hT : zcd shut marks (wj s.items + 1) s = T := hT
 refine zf _ ?_
 (all_goals refine qgp (Lf.mk ?_))
 refine xg (α := Nat × Lay) (fun p => zcd shut marks p.1 p.2 = T ∧ wj p.2.items < p.1 ∧ jS shut marks p.2) (fun _ => [(0, .loc 0 0)]) (fun p => bO q ⟨p.2.items, p.2.syms, marks, shut, false, cur, fe, fa⟩) (fun p => p.1)
  (fun _ => by rw [hE6]; exact Nat.le_refl 6) (wj s.items + 1, s) ⟨hT, Nat.lt_succ_self _, h⟩ ?_ ?_
 ·exact yC rfl ⟨rfl, trivial⟩
 rintro ⟨f, s1⟩ ⟨i1, i2, i3⟩
 dsimp only at i1 i2 i3 ⊢
 obtain ⟨f, rfl⟩ : ∃ g, f = g + 1 := ⟨f - 1, by omega⟩
 rw [zdb] at i1
 have hpl := i3.place
 have hat : ∀ x ∈ (yK shut marks s1).1.items, 0 ≤ x.at_ ∧ x.at_ ≤ 1000000000000000 := fun x hx => by
  obtain ⟨_, h1, h2⟩ := zfD s1.items 0 (Int.le_refl 0) i3.size x hx
  have := i3.items
  exact ⟨h1, by omega⟩
 have hsh : wj (yK shut marks s1).1.items = wj s1.items := zcf shut s1.items 0
 refine zf _ ?_
 (all_goals refine qgp (Lf.mk ?_))
 refine zqd q s1 marks shut cur fe fa [] i3 rfl rfl ?_
 generalize yK shut marks s1 = P at *
 obtain ⟨⟨PI, PS⟩, n⟩ := P
 dsimp only at i1 hpl hat hsh ⊢
 have hPIl : PI.length ≤ 1000000 := hpl.items
 have hgs := zek PS PI
 have hgl := hpl.grow (syms := PS)
 dsimp only at hgl
 (all_goals refine qgp (Lf.mk ?_))
 refine xg (α := Nat) (fun k => k ≤ PI.length) (fun k => [(0, .loc 0 0), (3, .int .i64 n), (4, .bool ((PI.take k).any (xB PS))), (17, .int .i64 PI.length), (18, .int .i64 k)])
  (fun k => bO q ⟨(PI.take k).map (yT PS) ++ PI.drop k, PS, marks, shut, false, cur, fe, fa⟩) (fun k => PI.length - k) (fun _ => by rw [hE6]; exact Nat.le_refl 6) 0 (Nat.zero_le _) ?_ ?_
 ·exact zhe rfl ⟨.refl _, .refl _, .ff rfl, .refl _, .refl _, trivial⟩
 intro k hk
 have hk : k ≤ PI.length := hk
 refine zf _ ?_
 (all_goals refine qgp ?_ <;> (repeat' first | exact trivial | intro hc | refine And.intro ?_ ?_) <;> refine Lf.mk ?_)
 ·have hkl : k < PI.length := by omega
  obtain ⟨x, hx⟩ := ya (l := PI) (k := k) (by omega)
  have hgx : PI[k] = x := by rw [List.getElem?_eq_getElem hkl] at hx; exact Option.some.inj hx
  have hxa := hat x (List.mem_of_getElem? hx)
  have hdrop : PI.drop k = x :: PI.drop (k + 1) := by rw [List.drop_eq_getElem_cons hkl, hgx]
  have htake : (PI.take (k + 1)).map (yT PS) = (PI.take k).map (yT PS) ++ [yT PS x] := by rw [List.take_succ_eq_append_getElem hkl, hgx, List.map_append]; rfl
  have hany : (PI.take (k + 1)).any (xB PS) = ((PI.take k).any (xB PS) || xB PS x) := by rw [List.take_succ_eq_append_getElem hkl, hgx, List.any_append, List.any_cons, List.any_nil, Bool.or_false]
  have hGl : ((PI.take k).map (yT PS)).length = k := by rw [List.length_map, List.length_take]; omega
  rw [hdrop]
  generalize (PI.take k).map (yT PS) = G at *
  generalize (PI.take k).any (xB PS) = c at *
  have hmid := zdw (a := G) (b := PI.drop (k + 1)) (x := x) hGl
  have hget : (G ++ x :: PI.drop (k + 1))[(((0 + ((k : Nat) : Int).toNat : Nat)) : Int).toNat]? = some x := by rw [Int.toNat_natCast, Nat.zero_add, Int.toNat_natCast]; exact hmid
  have hno : xB PS x = false → yT PS x = x := fun h => by unfold yT; rw [if_neg (by rw [h]; decide)]
  have hyes : xB PS x = true → yT PS x = { x with long := true } := fun h => by unfold yT; rw [if_pos h]
  have hms : xB PS x = decide (x.kind = 2 ∧ x.long = false ∧ (zT PS x.val).2 = 0 ∧ (wi x.ins.op x.at_ (zT PS x.val).1).2 = 3) := rfl
  have hLn : xB PS x = false → bO q ⟨G ++ x :: PI.drop (k + 1), PS, marks, shut, false, cur, fe, fa⟩ = bO q ⟨(PI.take (k + 1)).map (yT PS) ++ PI.drop (k + 1), PS, marks, shut, false, cur, fe, fa⟩ := fun h => by rw [htake, hno h, List.append_assoc]; rfl
  have hAn : xB PS x = false → (PI.take (k + 1)).any (xB PS) = c := fun h => by rw [hany, h, Bool.or_false]
  have stop : ∀ {σ : List (Nat × D)}, xB PS x = false → zdW σ [(0, .loc 0 0), (3, .int .i64 n), (4, .bool c), (17, .int .i64 PI.length), (18, .int .i64 ((k : Int) + 1))] →
    zp E.L.length (fun k => k ≤ PI.length) (fun k => [(0, .loc 0 0), (3, .int .i64 n), (4, .bool ((PI.take k).any (xB PS))), (17, .int .i64 PI.length), (18, .int .i64 k)])
     (fun k => bO q ⟨(PI.take k).map (yT PS) ++ PI.drop k, PS, marks, shut, false, cur, fe, fa⟩) (fun k => PI.length - k) k σ (bO q ⟨G ++ x :: PI.drop (k + 1), PS, marks, shut, false, cur, fe, fa⟩) := fun {σ} hm hs =>
   y5 (k + 1) (by show k + 1 ≤ _; omega) (by omega) (hLn hm) (by rw [hAn hm]; exact hs)
  refine zl x (Int.natCast_nonneg _) hget ?_
  (all_goals refine qgp ?_ <;> (repeat' first | exact trivial | intro hc | refine And.intro ?_ ?_) <;> refine Lf.mk ?_)
  ·refine stop (by rw [hms]; simp [hc]) ?_
   exact ⟨rfl, rfl, rfl, rfl, rfl, trivial⟩
  refine zl x (Int.natCast_nonneg _) hget ?_
  (all_goals refine qgp ?_ <;> (repeat' first | exact trivial | intro hc | refine And.intro ?_ ?_) <;> refine Lf.mk ?_)
  ·refine stop (by rw [hms]; simp [hc]) ?_
   exact ⟨rfl, rfl, rfl, rfl, rfl, trivial⟩
  refine zl x (Int.natCast_nonneg _) hget ?_
  (all_goals refine qgp (Lf.mk ?_))
  refine zod q ⟨G ++ x :: PI.drop (k + 1), PS, marks, shut, false, cur, fe, fa⟩ x.val [] (by show PS.length ≤ _; have := hpl.len; have := hpl.marksl; dsimp only at *; omega) rfl rfl ?_
  rw [show Bld.syms ⟨G ++ x :: PI.drop (k + 1), PS, marks, shut, false, cur, fe, fa⟩ = PS from rfl]
  generalize zT PS x.val = W at *
  obtain ⟨to, e⟩ := W
  dsimp only at hms ⊢
  (all_goals refine qgp ?_ <;> (repeat' first | exact trivial | intro hc | refine And.intro ?_ ?_) <;> refine Lf.mk ?_)
  ·refine zl x (Int.natCast_nonneg _) hget ?_
   (all_goals refine qgp (Lf.mk ?_))
   refine zl x (Int.natCast_nonneg _) hget ?_
   (all_goals refine qgp (Lf.mk ?_))
   refine ze ziD (x.ins.op, x.at_, to) hxa (VS.mk (LeL.of_eq rfl)) ?_
   (all_goals refine qgk ?_ <;> (repeat' first | exact trivial | intro hc | refine And.intro ?_ ?_) <;> refine Lf.mk ?_)
   ·have hm : xB PS x = true := by rw [hms]; simp [*]
    refine zl x (Int.natCast_nonneg _) hget ?_
    (all_goals refine qgk (Lf.mk ?_))
    refine jr ?_
    (all_goals refine qgk (Lf.mk ?_))
    refine zj6 (k + 1) (by show k + 1 ≤ _; omega) (by omega) (wz (zsW (k := 1) (e := 13) ((G ++ { x with long := true } :: PI.drop (k + 1)).map xm) rfl (by simp) ?_) (zhe ?_ ⟨.refl _, .refl _, ?_, .refl _, .refl _, trivial⟩))
    ·rw [← zhp (f := xm) (x := x) { x with long := true } hGl rfl]
     exact zuE (.cons (.refl _) (.cons (.refl _) (.cons (.refl _) (.cons (.refl _) (.cons (.refl _) (.cons (.refl _) (.cons (.refl _) (.cons (.tt rfl) (LeL.refl _)))))))))
    ·dsimp only
     rw [htake, hyes hm, List.append_assoc]
     exact congrArg (fun c => Ob.cells c :: bT ⟨G ++ { x with long := true } :: PI.drop (k + 1), PS, marks, shut, false, cur, fe, fa⟩) (zgl (by simp) rfl rfl rfl rfl rfl rfl)
    ·rw [hany, hm, Bool.or_true]
     exact .tt rfl
   ·refine stop (by rw [hms]; simp [hc]) ?_
    exact ⟨rfl, rfl, rfl, rfl, rfl, trivial⟩
  ·refine stop (by rw [hms]; simp [hc]) ?_
   exact ⟨rfl, rfl, rfl, rfl, rfl, trivial⟩
 all_goals
  have hk2 : k = PI.length := by omega
  have hT : PI.take k = PI := by rw [hk2, List.take_length]
  have hD : PI.drop k = [] := by rw [hk2, List.drop_length]
  rw [hT, hD, List.append_nil]
 ·rw [hT] at hc
  rw [if_pos (.inl hc)] at i1
  subst i1
  exact xy rfl rfl
 ·rw [if_pos (.inr hc)] at i1
  subst i1
  exact xy rfl rfl
 ·have hany : (PI.take k).any (xB PS) = true := by assumption
  rw [hT] at hany
  rw [if_neg (fun h => h.elim (fun h => by rw [hany] at h; cases h) (fun h => by omega))] at i1
  have := hgs.2 hany
  exact y5 (f, ⟨PI.map (yT PS), PS⟩) ⟨i1, by dsimp only; omega, hgl⟩ (by dsimp only; omega) rfl ⟨rfl, trivial⟩
end Go.Proofs.YthmdddenbfbefaaGreatDoor
