/-
  A part of the proof: what the given program's functions answer, each once; conditions that are enough for it.
-/
import Derived.Test.YthmdddenbfbefaaGreatDoorSt1
import Derived.Test.YthmdddenbfbefaaGreatDoorFw3
namespace Go.Proofs.YthmdddenbfbefaaGreatDoor
open Go Go.Plat
set_option linter.unusedVariables false
set_option linter.unusedSimpArgs false
set_option maxRecDepth 100000
set_option maxHeartbeats 2000000
attribute [local irreducible] AWP zC yg zJ zo yw z8 zH z1 z6 zt za zP yx zp z7 yt yu yi yk zw zx zy
structure zbD where
 at_ : Int
 size : Int
 name : List UInt8
 add : Int
 deriving DecidableEq
structure xc where
 code : List UInt8
 syms : List zu
 rels : List zbD
 deriving DecidableEq
def zbE (r : zbD) : D := .agg [.int .i64 r.at_, .int .i64 r.size, .str r.name, .int .i64 r.add]
def qP (o : xc) : D := .agg [vC o.code, .sl 2 (o.syms.map yJ) none, .sl 4 (o.rels.map zbE) none]
def w7 (n : Int) : List zu → List (List UInt8) → Option Int
 | [], _ => none
 | s :: l, had => if yL s.name = false ∨ s.name ∈ had then some 7 else if s.at_ < 0 ∨ n < s.at_ then some 3 else w7 n l (s.name :: had)
def kP (n : Int) : List zbD → Int → Int
 | [], _ => 0
 | r :: l, last => if r.size ≠ 2 ∧ r.size ≠ 4 then 1 else if r.at_ < last ∨ n - r.size < r.at_ then 3 else if r.at_ % r.size ≠ 0 then 11 else if r.name ≠ [] ∧ yL r.name = false then 7 else if zg r.add 32 ≠ r.add then 3 else kP n l (r.at_ + r.size)
def wu (o : xc) : Int := if 8000 < o.code.length ∨ 255 < o.syms.length ∨ 16000 < o.rels.length then 4 else match w7 o.code.length o.syms [] with
 | some e => e
 | none => kP o.code.length o.rels 0
def kY (l : List zu) : List (D × D) := l.map fun s => (.str s.name, .tt)
theorem zkG (l : List zu) : ∀ p ∈ kY l, jh .str p.1 = true := by
 intro p hp
 obtain ⟨r, _, rfl⟩ := List.mem_map.1 hp
 rfl
theorem ztY {m : Nat → Option Nat} (l : List zu) : ∀ p ∈ kY l, xD m p.2 p.2 := by
 intro p hp
 obtain ⟨r, _, rfl⟩ := List.mem_map.1 hp
 exact xn trivial
theorem zjQ (n : List UInt8) : ∀ l : List zu, (¬ n ∈ l.map (·.name)) → vR (.str n) (kY l) = none
 | [], _ => rfl
 | s :: l, h => by
  have h1 : (n == s.name) = false := beq_eq_false_iff_ne.2 fun e => h (by simp [e])
  simp only [kY, List.map_cons, vR, zbw, h1]
  have := zjQ n l fun hm => h (by simp at hm ⊢; exact .inr hm)
  unfold kY at this
  rw [this]
  rfl
theorem zpu {n : List UInt8} : ∀ {l : List zu}, n ∈ l.map (·.name) → qj (.str n) (kY l) = some .tt
 | [], h => by simp at h
 | s :: l, h => by
  by_cases h1 : n = s.name
  ·subst h1
   simp [qj, kY, vR, zbw]
  ·have h2 : (n == s.name) = false := beq_eq_false_iff_ne.2 h1
   have h3 : n ∈ l.map (·.name) := by
    simp only [List.map_cons, List.mem_cons] at h
    exact h.resolve_left h1
   have := zpu h3
   unfold qj kY at this ⊢
   simp only [List.map_cons, vR, zbw, h2]
   revert this
   cases vR (.str n) (l.map fun s => (D.str s.name, D.tt)) with
   | none => intro h; cases h
   | some j => intro h; simpa using h
theorem ztZ {n : List UInt8} {l : List zu} (h : ¬ n ∈ l.map (·.name)) : qj (.str n) (kY l) = none := by unfold qj; rw [zjQ n l h]; rfl
theorem zv0 {s : zu} {l : List zu} (h : ¬ s.name ∈ l.map (·.name)) : xI (.str s.name) .tt (kY l) = kY (l ++ [s]) := by
 rw [zcN (zjQ _ _ h)]
 simp [kY]
theorem zt0 {m : Nat → Option Nat} {K : Prop} (l : List zu) (h : K) : zjC m (kY l) K := ⟨ztY l, h⟩
theorem zt1 {m : Nat → Option Nat} {K : Prop} (h : K) : zjC m [] K := ⟨by simp, h⟩
theorem zt2 : kY [] = [] := rfl
attribute [local irreducible] zF ym yh yL kY zjC zg
theorem zfS : za Tryz.prog zov (zz (fun o : xc => (∀ r ∈ o.rels, -9223372036854775808 ≤ r.at_ ∧ r.at_ ≤ 9223372036854775807 ∧ r.name.length ≤ 1000000000) ∧ ∀ s ∈ o.syms, s.name.length ≤ 1000000000) (fun o => [qP o]) fun o => .int .i64 (wu o)) := by
 refine zf zj Tryz.func85 rfl (by decide) ?_
 rintro o ⟨ho, hs⟩
 refine ⟨Nat.le_refl _, by simp [Tryz.f85], fun E hE => ?_⟩
 refine ze _ ?_
 (all_goals refine qgo ?_ <;> (repeat' first | exact trivial | intro hc | refine And.intro ?_ ?_) <;> refine Lf.mk ?_)
 ·refine zd (VS.mk (LeD.of_eq (congrArg (D.int .i64) ?_)))
  unfold wu; rw [if_pos (by omega)]
 ·refine zd (VS.mk (LeD.of_eq (congrArg (D.int .i64) ?_)))
  unfold wu; rw [if_pos (by omega)]
 ·refine zd (VS.mk (LeD.of_eq (congrArg (D.int .i64) ?_)))
  unfold wu; rw [if_pos (by omega)]
 have hw : wu o = match w7 o.code.length o.syms [] with
   | some e => e
   | none => kP o.code.length o.rels 0 := by unfold wu; rw [if_neg (by omega)]
 refine yb (α := Nat) (fun k => k ≤ o.syms.length ∧ w7 o.code.length o.syms [] = w7 o.code.length (o.syms.drop k) ((o.syms.take k).map (·.name)).reverse)
  (fun k => [(27, .sl 2 (o.syms.map yJ) none), (28, .int .i64 o.syms.length), (29, .int .i64 k), (1, .loc 0 0), (3, .mp 1)])
  (fun k => [.cells [vC o.code, .sl 2 (o.syms.map yJ) none, .sl 4 (o.rels.map zbE) none], .map (kY (o.syms.take k))]) (fun k => o.syms.length - k) (fun _ => by simp [hE]) 0 ⟨Nat.zero_le _, by simp⟩ ?_ ?_
 ·(repeat' (first | (refine VS.mk ?_) | exact trivial | exact rfl | refine And.intro ?_ ?_))
  refine zt1 ?_
  refine VS.mk ?_
  rw [List.take_zero, zt2]
  rfl
 rintro k ⟨hk, hsw⟩
 refine ze _ ?_
 (all_goals refine qgo ?_ <;> (repeat' first | exact trivial | intro hc | refine And.intro ?_ ?_) <;> refine Lf.mk ?_)
 ·obtain ⟨s, hsk⟩ := yj (l := o.syms) (k := k) (by omega)
  have hkl : k < o.syms.length := by omega
  have hsm := hs s (List.mem_of_getElem? hsk)
  have hget : o.syms[k] = s := by rw [List.getElem?_eq_getElem hkl] at hsk; exact Option.some.inj hsk
  rw [List.drop_eq_getElem_cons hkl, hget] at hsw
  have htake : o.syms.take (k + 1) = o.syms.take k ++ [s] := by rw [List.take_succ_eq_append_getElem hkl, hget]
  have hmem : ∀ n : List UInt8, n ∈ ((o.syms.take k).map (·.name)).reverse ↔ n ∈ (o.syms.take k).map (·.name) := fun n => List.mem_reverse
  refine zk s (by omega) (by simpa using hsk) ?_
  (all_goals refine qgo (Lf.mk ?_))
  refine zb zen s.name hsm (VS.mk (by (first | exact LeL.refl _ | (repeat' (first | exact LeL.nil | exact LeD.refl _ | exact LeD.nil _ | exact LeD.strip _ _ _ | refine LeL.cons ?_ ?_ | refine LeD.tup ?_ | refine LeD.agg ?_))))) ?_
  (all_goals refine qgo ?_ <;> (repeat' first | exact trivial | intro hc | refine And.intro ?_ ?_) <;> refine Lf.mk ?_)
  ·refine zd (VS.mk (LeD.of_eq (congrArg (D.int .i64) ?_)))
   rw [hw, hsw, w7, if_pos (.inl hc)]
  refine xj (zkG _) ?_
  refine VS.mk ?_
  by_cases hin : s.name ∈ (o.syms.take k).map (·.name)
  ·refine kL (zpu hin) ?_
   (all_goals refine qgo (Lf.mk ?_))
   any_goals (refine zd (VS.mk (LeD.of_eq (congrArg (D.int .i64) ?_))))
   any_goals rw [hw, hsw, w7, if_pos (.inr ((hmem _).2 hin))]
  ·refine zvf (ztZ hin) ?_
   (all_goals refine qgo (Lf.mk ?_))
   refine xj (zkG _) ?_
   refine VS.mk ?_
   refine jS (zv0 hin) ?_
   have hstep : ¬ (yL s.name = false ∨ s.name ∈ ((o.syms.take k).map (·.name)).reverse) := by
    rintro (h | h)
    ·rw [hc] at h; cases h
    ·exact hin ((hmem _).1 h)
   (all_goals refine qgo ?_ <;> (repeat' first | exact trivial | intro hc | refine And.intro ?_ ?_) <;> refine Lf.mk ?_)
   ·refine zd (VS.mk (LeD.of_eq (congrArg (D.int .i64) ?_)))
    rw [hw, hsw, w7, if_neg hstep, if_pos (.inl hc)]
   ·refine zd (VS.mk (LeD.of_eq (congrArg (D.int .i64) ?_)))
    rw [hw, hsw, w7, if_neg hstep, if_pos (.inr hc)]
   ·have hnew : w7 o.code.length o.syms [] = w7 o.code.length (o.syms.drop (k + 1)) ((o.syms.take (k + 1)).map (·.name)).reverse := by
     rw [hsw, w7, if_neg hstep, if_neg (by omega), htake]
     simp
    refine zA (k + 1) ⟨by omega, hnew⟩ (by omega) ?_
    rw [htake]
    (repeat' (first | (refine VS.mk ?_) | exact trivial | exact rfl | refine And.intro ?_ ?_))
    refine zt0 _ ?_
    refine VS.mk ?_
    rfl
 ·obtain rfl : k = o.syms.length := by omega
  rw [List.drop_length, w7] at hsw
  rw [hsw] at hw
  have hw : wu o = kP o.code.length o.rels 0 := hw
  refine yb (α := Nat × Int) (fun p => p.1 ≤ o.rels.length ∧ 0 ≤ p.2 ∧ p.2 ≤ 8000 ∧ kP o.code.length o.rels 0 = kP o.code.length (o.rels.drop p.1) p.2)
   (fun p => [(59, .sl 4 (o.rels.map zbE) none), (60, .int .i64 o.rels.length), (61, .int .i64 p.1), (1, .loc 0 0), (6, .int .i64 p.2)])
   (fun _ => [.cells [vC o.code, .sl 2 (o.syms.map yJ) none, .sl 4 (o.rels.map zbE) none]]) (fun p => o.rels.length - p.1) (fun _ => by simp [hE]) (0, 0) ⟨Nat.zero_le _, by decide, by decide, by simp⟩ ?_ ?_
  ·(repeat' (first | (refine VS.mk ?_) | exact trivial | exact rfl | refine And.intro ?_ ?_))
  rintro ⟨k, last⟩ ⟨hk, hl0, hl1, hrw⟩
  dsimp only at hk hl0 hl1 hrw ⊢
  refine ze _ ?_
  (all_goals refine qgo ?_ <;> (repeat' first | exact trivial | intro hc | refine And.intro ?_ ?_) <;> refine Lf.mk ?_)
  ·obtain ⟨r, hrk⟩ := yj (l := o.rels) (k := k) (by omega)
   have hkl : k < o.rels.length := by omega
   obtain ⟨hr1, hr2, hr3⟩ := ho r (List.mem_of_getElem? hrk)
   have hget : o.rels[k] = r := by rw [List.getElem?_eq_getElem hkl] at hrk; exact Option.some.inj hrk
   rw [List.drop_eq_getElem_cons hkl, hget] at hrw
   rw [hrw, kP] at hw
   refine zk r (by omega) (by simpa using hrk) ?_
   (all_goals refine qgo ?_ <;> (repeat' first | exact trivial | intro hc | refine And.intro ?_ ?_) <;> refine Lf.mk ?_)
   any_goals (refine zb zen r.name hr3 (VS.mk (LeL.of_eq rfl)) ?_)
   (all_goals refine qgo ?_ <;> (repeat' first | exact trivial | intro hc | refine And.intro ?_ ?_) <;> refine Lf.mk ?_)
   any_goals (refine zb yp r.add trivial (VS.mk (LeL.of_eq rfl)) ?_)
   (all_goals refine qgo ?_ <;> (repeat' first | exact trivial | intro hc | refine And.intro ?_ ?_) <;> refine Lf.mk ?_)
   any_goals (refine zd (VS.mk (LeD.of_eq (congrArg (D.int .i64) ?_))); rw [hw])
   any_goals first
    | (rw [if_pos] <;> omega)
    | (rw [if_neg, if_pos] <;> omega)
    | (rw [if_neg, if_neg, if_pos] <;> omega)
    | (rw [if_neg, if_neg, if_neg, if_pos] <;> first | omega | (refine ⟨?_, ?_⟩ <;> assumption))
    | (rw [if_neg, if_neg, if_neg, if_neg, if_pos] <;> first | omega | assumption | (rintro ⟨h1, h2⟩; simp_all))
    | skip
   all_goals (
    have hnew : kP o.code.length o.rels 0 = kP o.code.length (o.rels.drop (k + 1)) (r.at_ + r.size) := by
     rw [hrw, kP]
     rw [if_neg, if_neg, if_neg, if_neg, if_neg]
     all_goals first
      | omega
      | exact fun h => h (by assumption)
      | (rintro ⟨h1, h2⟩; simp_all; done)
    refine zA (k + 1, r.at_ + r.size) ⟨by (dsimp only; omega), by (dsimp only; omega), by (dsimp only; omega), hnew⟩ (by dsimp only; omega) ?_
    (repeat' (first | (refine VS.mk ?_) | exact trivial | exact rfl | refine And.intro ?_ ?_)))
  ·refine zd (VS.mk (LeD.of_eq (congrArg (D.int .i64) ?_)))
   rw [hw, hrw, List.drop_of_length_le (by omega)]
   rfl
end Go.Proofs.YthmdddenbfbefaaGreatDoor
namespace Go.Proofs.YthmdddenbfbefaaGreatDoor
open Go Go.Plat
set_option linter.unusedVariables false
set_option linter.unusedSimpArgs false
set_option maxRecDepth 100000
set_option maxHeartbeats 2000000
attribute [local irreducible] AWP zC yg zJ zo yw z8 zH z1 z6 zt za zP yx zp z7 yt yu yi yk zw zx zy
def tk (t : yG) : zbA := ⟨t.kind, t.n, t.text⟩
theorem zt3 (l : List yG) : l.map wI = (l.map tk).map ztR := by rw [List.map_map]; rfl
structure AOp where
 sign : List UInt8
 reg : Int
 val : zr
def qn (o : AOp) : D := .agg [.str o.sign, .int .i64 o.reg, .str o.val.name, .int .i64 o.val.n]
def noV : zr := ⟨[], 0⟩
def x9 : List (List UInt8) := [[48], [49], [50], [51], [52], [53], [54], [55], [56], [57], [49, 48], [49, 49], [49, 50], [49, 51], [49, 52], [49, 53]]
def wR (t : yG) : Int := if t.kind = 1 ∧ t.text.headD 0 = 114 then vq (t.text.drop 1) x9 0 else -1
structure RB where
 rest : List yG
 fe : Int
 fa : Int
def qc (s : RB) (e line : Int) : RB := if s.fe = 0 then ⟨s.rest, e, line⟩ else s
def zM (c : List UInt8) (s : RB) : Bool × RB := match s.rest with
 | t :: r => if t.kind = 3 ∧ t.text = c then (true, ⟨r, s.fe, s.fa⟩) else (false, s)
 | [] => (false, s)
def x5 (q : List zl) (line : Int) (s : RB) : zr × RB :=
 if (xJ (s.rest.map tk)).2.2 = 0 then
  ((xb q (xJ (s.rest.map tk)).1).1, if (xb q (xJ (s.rest.map tk)).1).2 = 0 then ⟨s.rest.drop (xJ (s.rest.map tk)).2.1.toNat, s.fe, s.fa⟩
    else qc ⟨s.rest.drop (xJ (s.rest.map tk)).2.1.toNat, s.fe, s.fa⟩ (xb q (xJ (s.rest.map tk)).1).2 line)
 else (noV, qc s (xJ (s.rest.map tk)).2.2 line)
def q8 (s : RB) : List UInt8 × RB :=
 if (zM [35] s).1 = true then ([35], (zM [35] s).2) else if (zM [64] s).1 = true then ([64], (zM [64] s).2) else if (zM [61] s).1 = true then ([61], (zM [61] s).2) else ([], s)
def zjR : List yG → Int
 | [] => -1
 | t :: _ => wR t
def zaz (q : List zl) (line : Int) (sg : List UInt8) (s : RB) : AOp × RB :=
 if (sg = [] ∨ sg = [64]) ∧ 0 ≤ zjR s.rest then (⟨if sg = [] then [114] else sg, zjR s.rest, noV⟩, ⟨s.rest.drop 1, s.fe, s.fa⟩)
 else if sg = [64] then (⟨sg, 0, noV⟩, qc s 2 line)
 else (⟨sg, 0, (x5 q line s).1⟩, (x5 q line s).2)
def y0 (q : List zl) (line : Int) (s : RB) : AOp × RB := zaz q line (q8 s).1 (q8 s).2
def xT (line : Int) (s : RB) : RB := if (zM [44] s).1 = false ∨ (zM [44] s).2.rest = [] then qc (zM [44] s).2 2 line else (zM [44] s).2
def jw (q : List zl) (line : Int) : Nat → List AOp → RB → List AOp × RB
 | 0, out, s => (out, s)
 | f + 1, out, s => if s.rest = [] ∨ s.fe ≠ 0 then (out, s) else if (y0 q line s).2.rest = [] then (out ++ [(y0 q line s).1], (y0 q line s).2)
  else jw q line f (out ++ [(y0 q line s).1]) (xT line (y0 q line s).2)
def xw (q : List zl) (line : Int) (s : RB) : List AOp × RB := jw q line (s.rest.length + 1) [] s
def sgA (o : AOp) : List UInt8 := if o.sign = [] then [112] else o.sign
def wa (l : List AOp) : List UInt8 := (l.map sgA).flatten
def yS (s : List UInt8) : List Int :=
 if s = [] then [0] else if s = [35, 114] then [1] else if s = [114, 114] then [2] else if s = [114] then [3] else if s = [112] then [4, 5] else if s = [64] then [6]
 else if s = [112, 114] then [7, 8] else if s = [114, 64] then [9] else if s = [64, 114] then [10] else if s = [35] then [11] else []
structure zn where
 kind : Int
 at_ : Int
 line : Int
 ins : Ins
 long : Bool
 size : Int
 val : zr
 pool : Int
 idx : Int
def zxP (x : zn) : List D := [.int .i64 x.kind, .int .i64 x.at_, .int .i64 x.line, .int .i64 x.ins.op, .int .i64 x.ins.n, .int .i64 x.ins.m, .int .i64 x.ins.imm, .bool x.long, .int .i64 x.size,
 .str x.val.name, .int .i64 x.val.n, .int .i64 x.pool, .int .i64 x.idx]
def xp (x : zn) : D := .agg (zxP x)
def noI : Ins := ⟨0, 0, 0, 0⟩
structure Bld where
 items : List zn
 syms : List zu
 marks : List Int
 shut : List (List zr)
 has : Bool
 cur : List zr
 fe : Int
 fa : Int
def yD (b : Bld) (e line : Int) : Bld := if b.fe = 0 then { b with fe := e, fa := line } else b
def xA (b : Bld) (x : zn) : Bld := { b with items := b.items ++ [x] }
def wv (v : zr) : List zr → Nat → Int
 | [], _ => -1
 | x :: l, k => if x.name = v.name ∧ x.n = v.n then k else wv v l (k + 1)
def w8 (v : zr) (l : List zr) : List zr := if wv v l 0 < 0 then l ++ [v] else l
def w9 (v : zr) (l : List zr) : Int := if wv v l 0 < 0 then l.length else wv v l 0
def kB (b : Bld) (v : zr) (reg line : Int) : Bld :=
 xA { b with has := true, cur := w8 v b.cur } ⟨6, 0, line, ⟨24, reg, 0, 0⟩, false, 0, noV, b.shut.length, w9 v b.cur⟩
def vP (b : Bld) (line : Int) : Bld :=
 if b.has = true then { xA b ⟨9, 0, line, noI, false, 0, noV, b.shut.length, 0⟩ with shut := b.shut ++ [b.cur], has := false, cur := [] } else b
def xQ (name : List UInt8) : List Int → Int × Int → Int × Int
 | [], p => p
 | s :: l, p => xQ name l (if 0 < w6 name s then (w6 name s, s) else p)
def aop (l : List AOp) (k : Nat) : AOp := (l[k]?).getD ⟨[], 0, noV⟩
def wY (op shape : Int) (l : List AOp) (line : Int) : zn :=
 if shape = 1 then ⟨1, 0, line, ⟨op, (aop l 1).reg, 0, (aop l 0).val.n⟩, false, 0, (aop l 0).val, 0, 0⟩
 else if shape = 2 ∨ shape = 9 ∨ shape = 10 then ⟨1, 0, line, ⟨op, (aop l 1).reg, (aop l 0).reg, 0⟩, false, 0, noV, 0, 0⟩
 else if shape = 3 ∨ shape = 6 then ⟨1, 0, line, ⟨op, (aop l 0).reg, 0, 0⟩, false, 0, noV, 0, 0⟩
 else if shape = 4 then ⟨2, 0, line, ⟨op, 0, 0, 0⟩, false, 0, (aop l 0).val, 0, 0⟩
 else if shape = 5 then ⟨3, 0, line, ⟨op, 0, 0, 0⟩, false, 0, (aop l 0).val, 0, 0⟩
 else if shape = 7 then ⟨4, 0, line, ⟨op, (aop l 1).reg, 0, 0⟩, false, 0, (aop l 0).val, 0, 0⟩
 else if shape = 8 then ⟨5, 0, line, ⟨op, (aop l 1).reg, 0, 0⟩, false, 0, (aop l 0).val, 0, 0⟩
 else if shape = 11 then ⟨1, 0, line, ⟨op, 0, 0, (aop l 0).val.n⟩, false, 0, (aop l 0).val, 0, 0⟩
 else ⟨1, 0, line, ⟨op, 0, 0, 0⟩, false, 0, noV, 0, 0⟩
def xy (b : Bld) (name : List UInt8) (l : List AOp) (line : Int) : Bld :=
 if name = [109, 111, 118, 46, 108] ∧ l.length = 2 ∧ (aop l 0).sign = [61] ∧ (aop l 1).sign = [114] then kB b (aop l 0).val (aop l 1).reg line
 else if (xQ name (yS (wa l)) (0, 0)).1 = 0 then yD b 1 line
 else if ((xQ name (yS (wa l)) (0, 0)).2 = 1 ∨ (xQ name (yS (wa l)) (0, 0)).2 = 11) ∧ (aop l 0).val.name ≠ [] then yD b 8 line
 else if zU (wY (xQ name (yS (wa l)) (0, 0)).1 (xQ name (yS (wa l)) (0, 0)).2 l line).ins = 0
  then xA b (wY (xQ name (yS (wa l)) (0, 0)).1 (xQ name (yS (wa l)) (0, 0)).2 l line)
 else yD b (zU (wY (xQ name (yS (wa l)) (0, 0)).1 (xQ name (yS (wa l)) (0, 0)).2 l line).ins) line
def zw5 (size : Int) : Int := if size = 1 then -128 else if size = 2 then -32768 else -2147483648
def zu4 (size : Int) : Int := if size = 1 then 255 else if size = 2 then 65535 else 4294967295
def vf (size line : Int) (b : Bld) (o : AOp) : Bld :=
 xA (if o.sign ≠ [] then yD b 2 line else if o.val.name ≠ [] ∧ size = 1 then yD b 8 line else if o.val.name = [] ∧ (o.val.n < zw5 size ∨ zu4 size < o.val.n) then yD b 3 line else b)
  ⟨7, 0, line, noI, false, size, o.val, 0, 0⟩
def jl (b : Bld) (size : Int) (l : List AOp) (line : Int) : Bld := l.foldl (vf size line) (if l = [] then yD b 2 line else b)
def qX (b : Bld) (l : List AOp) (line : Int) : Bld :=
 if l.length ≠ 1 ∨ (aop l 0).sign ≠ [] ∨ (aop l 0).val.name ≠ [] then yD b 2 line
 else if (aop l 0).val.n ≠ 1 ∧ (aop l 0).val.n ≠ 2 ∧ (aop l 0).val.n ≠ 4 ∧ (aop l 0).val.n ≠ 8 ∧ (aop l 0).val.n ≠ 16 then yD b 3 line
 else xA b ⟨8, 0, line, noI, false, (aop l 0).val.n, noV, 0, 0⟩
theorem zez : za Tryz.prog zjJ (zz (fun n : Int => -9223372036854775808 ≤ n ∧ n ≤ 9223372036854775807) (fun n => [.int .i64 n]) fun n => .str (Lib.itoa n)) := by
 refine jH ⟨_, Tryz.func12, by decide, rfl⟩ ?_
 intro n hn w F hg vs hl hv
 match vs, hl with
 | [v], _ =>
  cases hv 0 _ v rfl rfl
  refine (Go.Proofs.Tryz.strconv_Itoa n hn.1 hn.2 w ?_).mono ?_
  ·exact hg.tab (g := 0) (ns := (List.range 20).map (10 ^ ·)) (by kernel_rfl) (by kernel_rfl) (by rw [List.map_map]; rfl) (by decide)
  ·rintro e w' ⟨rfl, k, os, rfl⟩
   exact ⟨_, rfl, .growD w k os, .str _⟩
def ww : List UInt8 → Int → Option Int
 | [], n => some n
 | c :: r, n => if 48 ≤ c.toNat ∧ c.toNat ≤ 57 then ww r (n * 10 + ((c.toNat : Int) - 48)) else none
theorem zqH (c : UInt8) (r : List UInt8) (n : Int) : ww (c :: r) n = if 48 ≤ c.toNat ∧ c.toNat ≤ 57 then ww r (n * 10 + ((c.toNat : Int) - 48)) else none := rfl
def ziW (s : List UInt8) : Bool := decide (s.headD 0 = 45 ∨ s.headD 0 = 43)
def qd (s : List UInt8) : Option Int :=
 if ziW s = true then (if s.length ≤ 1 then none else if s.headD 0 = 45 then (ww (s.drop 1) 0).map (fun n => -n) else ww (s.drop 1) 0) else ww s 0
def jm (r : Option Int) (e : D) : D := match r with | some n => .tup [.int .i64 n, .nilif] | none => .tup [.int .i64 0, e]
theorem jJ {t : List UInt8} {k : Nat} {n : Int} (hk : k < t.length) : ww (t.drop k) n = if 48 ≤ (t.getD k 0).toNat ∧ (t.getD k 0).toNat ≤ 57 then ww (t.drop (k + 1)) (n * 10 + (((t.getD k 0).toNat : Int) - 48)) else none := by
 rw [List.drop_eq_getElem_cons hk, zqH, List.getD_eq_getElem?_getD, List.getElem?_eq_getElem hk]
 rfl
theorem zpv (c : UInt8) : ((yq ((c.toNat : Int) - 48)).toNat : Int) = ((c.toNat : Int) - 48) % 256 := xO _
theorem zni {c : UInt8} (h : 9 < ((yq ((c.toNat : Int) - 48)).toNat : Int)) : ¬ (48 ≤ c.toNat ∧ c.toNat ≤ 57) := by rw [zpv] at h; omega
theorem zjS {c : UInt8} (h : ¬ 9 < ((yq ((c.toNat : Int) - 48)).toNat : Int)) : (48 ≤ c.toNat ∧ c.toNat ≤ 57) ∧ ((yq ((c.toNat : Int) - 48)).toNat : Int) = (c.toNat : Int) - 48 := by
 rw [zpv] at h ⊢
 have := c.toNat_lt
 omega
theorem jd (s : List UInt8) (c : UInt8) : (((s.getD (Int.toNat 0) 0).toNat : Int) = (c.toNat : Int)) ↔ s.headD 0 = c := by
 have : s.getD (Int.toNat 0) 0 = s.headD 0 := by cases s <;> rfl
 rw [this]
 refine ⟨fun h => ?_, fun h => by rw [h]⟩
 exact UInt8.toNat.inj (by omega)
theorem zsb {s : List UInt8} (h : s.headD 0 = 45) : qd s = if s.length ≤ 1 then none else (ww (s.drop 1) 0).map (fun n => -n) := by
 unfold qd ziW
 rw [if_pos (decide_eq_true (.inl h)), if_pos h]
theorem zsc {s : List UInt8} (h : ¬ s.headD 0 = 45) (h' : s.headD 0 = 43) : qd s = if s.length ≤ 1 then none else ww (s.drop 1) 0 := by
 unfold qd ziW
 rw [if_pos (decide_eq_true (.inr h')), if_neg h]
theorem zxQ {s : List UInt8} (h : ¬ s.headD 0 = 45) (h' : ¬ s.headD 0 = 43) : qd s = ww s 0 := by
 unfold qd ziW
 rw [if_neg (fun e => (of_decide_eq_true e).elim h h')]
attribute [local irreducible] ww Lib.itoa
def zsd (s : List UInt8) : Prop := 1 ≤ s.length ∧ s.length ≤ 2
def AtI (t : List UInt8) (p : Nat × Int) : Prop := p.1 ≤ t.length ∧ (p.1 = 0 → p.2 = 0) ∧ (p.1 ≤ 1 → p.2 ≤ 9) ∧ 0 ≤ p.2 ∧ p.2 ≤ 99 ∧ ww (t.drop p.1) p.2 = ww t 0
theorem zoK : za Tryz.prog zcF (zz (fun s : List UInt8 => zsd s) (fun s => [.str s]) fun s => jm (qd s) (.iface 300 (.int .i64 2))) := by
 refine zf zj Tryz.func194 rfl (by decide) ?_
 intro s hs
 obtain ⟨h1, h2⟩ := hs
 refine ⟨Nat.le_refl _, by simp [Tryz.f194], fun E hE => ?_⟩
 have ht : List.drop (Int.toNat 1) (List.take ((s.length : Int)).toNat s) = s.drop 1 := by rw [Int.toNat_natCast, List.take_length]; rfl
 have hl1 : (s.drop 1).length = s.length - 1 := by simp
 refine ze _ ?_
 (all_goals refine qgp ?_ <;> (repeat' first | exact trivial | intro hc | refine And.intro ?_ ?_) <;> refine Lf.mk ?_)
 all_goals (try rw [ht] at hc)
 all_goals (try rw [ht])
 ·have h45 := (jd s 45).1 (by assumption)
  refine zd (VS.mk (LeD.of_eq ?_))
  rw [zsb h45, if_pos (show s.length ≤ 1 by omega)]
  rfl
 ·have h45 := (jd s 45).1 (by assumption)
  have hAt : ∀ e, jm (qd s) e = jm ((ww (s.drop 1) 0).map (fun n => -n)) e := fun e => by rw [zsb h45, if_neg (show ¬ s.length ≤ 1 by omega)]
  have hl2 : (s.drop 1).length ≤ 2 := by omega
  clear ht
  generalize s.drop 1 = t at *
  refine yb (α := Nat × Int) (AtI t) (fun p => [(47, .sl 1 (t.map zE) none), (48, .int .i64 t.length), (49, .int .i64 p.1), (6, .int .i64 p.2), (5, .str s)])
   (fun _ => []) (fun p => t.length - p.1) (fun _ => by rw [hE]; exact Nat.le_refl _) (0, 0) ⟨Nat.zero_le _, fun _ => rfl, fun _ => by decide, by decide, by decide, rfl⟩ ?_ ?_
  ·(repeat' (first | (refine VS.mk ?_) | exact trivial | exact rfl | refine And.intro ?_ ?_))
  rintro ⟨k, n⟩ ⟨i1, i2, i3, i4, i5, i6⟩
  dsimp only at i1 i2 i3 i4 i5 i6 ⊢
  refine ze _ ?_
  (all_goals refine qgp ?_ <;> (repeat' first | exact trivial | intro hc | refine And.intro ?_ ?_) <;> refine Lf.mk ?_)
  ·have hst := jJ (n := n) (show k < t.length by omega)
   rw [if_neg (zni hc), i6] at hst
   refine zd (VS.mk (LeD.of_eq ?_))
   rw [hAt, hst]
   rfl
  ·obtain ⟨l1, l2⟩ := zjS hc
   have hst := jJ (n := n) (show k < t.length by omega)
   rw [if_pos l1, i6] at hst
   have hj : AtI t (k + 1, n * 10 + (((t.getD k 0).toNat : Int) - 48)) := by
    refine ⟨?_, ?_, ?_, ?_, ?_, hst.symm⟩ <;> dsimp only
    ·omega
    ·intro h; omega
    ·intro h; have := i2 (by omega); omega
    ·omega
    ·have := i3 (by omega); omega
   refine zA _ hj (by dsimp only; omega) ?_
   (repeat' (first | (refine VS.mk ?_) | exact trivial | exact rfl | refine And.intro ?_ ?_))
   all_goals rw [l2]
  all_goals
   have hk : k = t.length := by omega
   subst hk
   rw [List.drop_length] at i6
   have i6 : ww t 0 = some n := by rw [← i6, ww]
   refine zd (VS.mk (LeD.of_eq ?_))
   rw [hAt, i6]
   exact congrArg (fun x => D.tup [.int .i64 x, .nilif]) (Int.zero_sub n)
 ·have h45 : ¬ s.headD 0 = 45 := fun h => absurd ((jd s 45).2 h) (by assumption)
  have h43 := (jd s 43).1 (by assumption)
  refine zd (VS.mk (LeD.of_eq ?_))
  rw [zsc h45 h43, if_pos (show s.length ≤ 1 by omega)]
  rfl
 ·have h45 : ¬ s.headD 0 = 45 := fun h => absurd ((jd s 45).2 h) (by assumption)
  have h43 := (jd s 43).1 (by assumption)
  have hAt : ∀ e, jm (qd s) e = jm (ww (s.drop 1) 0) e := fun e => by rw [zsc h45 h43, if_neg (show ¬ s.length ≤ 1 by omega)]
  have hl2 : (s.drop 1).length ≤ 2 := by omega
  clear ht
  generalize s.drop 1 = t at *
  refine yb (α := Nat × Int) (AtI t) (fun p => [(47, .sl 1 (t.map zE) none), (48, .int .i64 t.length), (49, .int .i64 p.1), (6, .int .i64 p.2), (5, .str s)])
   (fun _ => []) (fun p => t.length - p.1) (fun _ => by rw [hE]; exact Nat.le_refl _) (0, 0) ⟨Nat.zero_le _, fun _ => rfl, fun _ => by decide, by decide, by decide, rfl⟩ ?_ ?_
  ·(repeat' (first | (refine VS.mk ?_) | exact trivial | exact rfl | refine And.intro ?_ ?_))
  rintro ⟨k, n⟩ ⟨i1, i2, i3, i4, i5, i6⟩
  dsimp only at i1 i2 i3 i4 i5 i6 ⊢
  refine ze _ ?_
  (all_goals refine qgp ?_ <;> (repeat' first | exact trivial | intro hc | refine And.intro ?_ ?_) <;> refine Lf.mk ?_)
  ·have hst := jJ (n := n) (show k < t.length by omega)
   rw [if_neg (zni hc), i6] at hst
   refine zd (VS.mk (LeD.of_eq ?_))
   rw [hAt, hst]
   rfl
  ·obtain ⟨l1, l2⟩ := zjS hc
   have hst := jJ (n := n) (show k < t.length by omega)
   rw [if_pos l1, i6] at hst
   have hj : AtI t (k + 1, n * 10 + (((t.getD k 0).toNat : Int) - 48)) := by
    refine ⟨?_, ?_, ?_, ?_, ?_, hst.symm⟩ <;> dsimp only
    ·omega
    ·intro h; omega
    ·intro h; have := i2 (by omega); omega
    ·omega
    ·have := i3 (by omega); omega
   refine zA _ hj (by dsimp only; omega) ?_
   (repeat' (first | (refine VS.mk ?_) | exact trivial | exact rfl | refine And.intro ?_ ?_))
   all_goals rw [l2]
  all_goals
   have hk : k = t.length := by omega
   subst hk
   rw [List.drop_length] at i6
   have i6 : ww t 0 = some n := by rw [← i6, ww]
   refine zd (VS.mk (LeD.of_eq ?_))
   rw [hAt, i6]
   rfl
 ·have h45 : ¬ s.headD 0 = 45 := fun h => absurd ((jd s 45).2 h) (by assumption)
  have h43 : ¬ s.headD 0 = 43 := fun h => absurd ((jd s 43).2 h) (by assumption)
  have hAt : ∀ e, jm (qd s) e = jm (ww s 0) e := fun e => by rw [zxQ h45 h43]
  refine yb (α := Nat × Int) (AtI s) (fun p => [(47, .sl 1 (s.map zE) none), (48, .int .i64 s.length), (49, .int .i64 p.1), (6, .int .i64 p.2), (5, .str s)])
   (fun _ => []) (fun p => s.length - p.1) (fun _ => by rw [hE]; exact Nat.le_refl _) (0, 0) ⟨Nat.zero_le _, fun _ => rfl, fun _ => by decide, by decide, by decide, rfl⟩ ?_ ?_
  ·(repeat' (first | (refine VS.mk ?_) | exact trivial | exact rfl | refine And.intro ?_ ?_))
  rintro ⟨k, n⟩ ⟨i1, i2, i3, i4, i5, i6⟩
  dsimp only at i1 i2 i3 i4 i5 i6 ⊢
  refine ze _ ?_
  (all_goals refine qgp ?_ <;> (repeat' first | exact trivial | intro hc | refine And.intro ?_ ?_) <;> refine Lf.mk ?_)
  ·have hst := jJ (n := n) (show k < s.length by omega)
   rw [if_neg (zni hc), i6] at hst
   refine zd (VS.mk (LeD.of_eq ?_))
   rw [hAt, hst]
   rfl
  ·obtain ⟨l1, l2⟩ := zjS hc
   have hst := jJ (n := n) (show k < s.length by omega)
   rw [if_pos l1, i6] at hst
   have hj : AtI s (k + 1, n * 10 + (((s.getD k 0).toNat : Int) - 48)) := by
    refine ⟨?_, ?_, ?_, ?_, ?_, hst.symm⟩ <;> dsimp only
    ·omega
    ·intro h; omega
    ·intro h; have := i2 (by omega); omega
    ·omega
    ·have := i3 (by omega); omega
   refine zA _ hj (by dsimp only; omega) ?_
   (repeat' (first | (refine VS.mk ?_) | exact trivial | exact rfl | refine And.intro ?_ ?_))
   all_goals rw [l2]
  all_goals
   have hk : k = s.length := by omega
   subst hk
   rw [List.drop_length] at i6
   have i6 : ww s 0 = some n := by rw [← i6, ww]
   refine zd (VS.mk (LeD.of_eq ?_))
   rw [hAt, i6]
   rfl
theorem zqI : za Tryz.prog zjL (zz (fun s : List UInt8 => zsd s) (fun s => [.str s]) fun s => jm (qd s) (.iface 301 .any)) := by
 refine zf zj Tryz.func173 rfl (by decide) ?_
 intro s hs
 refine ⟨Nat.le_refl _, by simp [Tryz.f173], fun E hE => ?_⟩
 refine ze _ ?_
 (all_goals refine qgp (Lf.mk ?_))
 refine zb zoK s hs (VS.mk (LeL.of_eq rfl)) ?_
 cases h : qd s with
 | some n =>
  dsimp only [jm]
  (all_goals refine qgp ?_ <;> (repeat' first | exact trivial | intro hc | refine And.intro ?_ ?_) <;> refine Lf.mk ?_)
  all_goals first
   | (exfalso; exact Bool.noConfusion hc)
   | (exfalso; refine absurd trivial ?_; assumption)
   | skip
  exact zd (VS.mk (LeD.of_eq rfl))
 | none =>
  dsimp only [jm]
  (all_goals refine qgp ?_ <;> (repeat' first | exact trivial | intro hc | refine And.intro ?_ ?_) <;> refine Lf.mk ?_)
  all_goals first
   | (exfalso; exact Bool.noConfusion hc)
   | (exfalso; refine absurd hc ?_; decide)
   | skip
  refine zb zg4 ([65, 116, 111, 105], s, 0, 0, 2) ⟨by have := hs.2; omega, .inr rfl⟩ (VS.mk (LeL.of_eq rfl)) ?_
  (all_goals refine qgp (Lf.mk ?_))
  exact zd (VS.mk (LeD.of_eq rfl))
theorem zjT (x : List UInt8) : ∀ (l : List (List UInt8)) (k : Nat), vq x l k = -1 ∨ x ∈ l
 | [], _ => .inl rfl
 | s :: l, k => by
  rw [vq]
  by_cases h : x = s
  ·exact .inr (by rw [h]; exact List.mem_cons_self)
  ·rw [if_neg h]
   exact (zjT x l (k + 1)).imp id (List.mem_cons_of_mem _)
theorem zv1 : x9.map (fun r => (vq r x9 0, qd r)) = (List.range 16).map (fun k : Nat => ((k : Int), some (k : Int))) := by kernel_rfl
theorem zv2 : (List.range 16).map (fun k => Lib.itoa ((k : Nat) : Int)) = x9 := by kernel_rfl
theorem zse {k : Nat} (hk : k < 16) : x9[k]? = some (Lib.itoa (k : Int)) ∧ vq (Lib.itoa (k : Int)) x9 0 = k ∧ qd (Lib.itoa (k : Int)) = some (k : Int) := by
 have h1 : x9[k]? = some (Lib.itoa (k : Int)) := by rw [← zv2, List.getElem?_map, List.getElem?_range hk]; rfl
 have h2 := congrArg (fun l => l[k]?) zv1
 simp only [List.getElem?_map, h1, List.getElem?_range hk, Option.map_some, Option.some.injEq, Prod.mk.injEq] at h2
 exact ⟨h1, h2⟩
theorem zv3 {s : List UInt8} {n : Int} (h0 : 0 ≤ n) (h1 : n ≤ 15) (h : Lib.itoa n = s) : vq s x9 0 = n := by
 obtain ⟨k, rfl⟩ := Int.eq_ofNat_of_zero_le h0
 rw [← h]
 exact (zse (by omega)).2.1
theorem ziX {s : List UInt8} (h : ∀ n, qd s = some n → ¬ (0 ≤ n ∧ n ≤ 15 ∧ Lib.itoa n = s)) : vq s x9 0 = -1 := by
 refine (zjT s x9 0).resolve_right fun hm => ?_
 obtain ⟨k, hk⟩ := List.getElem?_of_mem hm
 have hk16 : k < 16 := (List.getElem?_eq_some_iff.1 hk).1
 obtain ⟨h1, _, h3⟩ := zse hk16
 rw [h1] at hk
 cases hk
 exact h _ h3 ⟨by omega, by omega, rfl⟩
theorem znj {s : List UInt8} (h : s.length = 0 ∨ 2 < s.length) : vq s x9 0 = -1 := by
 refine (zjT s x9 0).resolve_right fun hm => ?_
 have : ∀ r ∈ x9, 1 ≤ r.length ∧ r.length ≤ 2 := by decide
 have := this s hm
 omega
attribute [local irreducible] qd x9 vq
theorem zaA : za Tryz.prog zjK (zz (fun t : yG => t.text.length ≤ 1000000000) (fun t => [wI t]) fun t => .int .i64 (wR t)) := by
 refine zf zj Tryz.func121 rfl (by decide) ?_
 rintro ⟨kd, n, s⟩ hs
 have hs : s.length ≤ 1000000000 := hs
 refine ⟨Nat.le_refl _, by simp [Tryz.f121], fun E hE => ?_⟩
 have ht : List.drop (Int.toNat 1) (List.take ((s.length : Int)).toNat s) = s.drop 1 := by rw [Int.toNat_natCast, List.take_length]; rfl
 have hl1 : (s.drop 1).length = s.length - 1 := by simp
 refine ze _ ?_
 (all_goals refine qgp ?_ <;> (repeat' first | exact trivial | intro hc | refine And.intro ?_ ?_) <;> refine Lf.mk ?_)
 ·refine zd (VS.mk (LeD.of_eq (congrArg (D.int .i64) ?_)))
  unfold wR
  rw [if_neg (fun e => hc e.1)]
 ·refine zd (VS.mk (LeD.of_eq (congrArg (D.int .i64) ?_)))
  unfold wR
  dsimp only
  rw [znj (.inl (by omega))]
  split <;> rfl
 ·refine zd (VS.mk (LeD.of_eq (congrArg (D.int .i64) ?_)))
  unfold wR
  dsimp only
  rw [znj (.inr (by omega))]
  split <;> rfl
 ·have h114 : ¬ s.headD 0 = 114 := fun h => absurd ((jd s 114).2 h) (by assumption)
  refine zd (VS.mk (LeD.of_eq (congrArg (D.int .i64) ?_)))
  unfold wR
  rw [if_neg (fun e => h114 e.2)]
 ·have h114 := (jd s 114).1 (by assumption)
  have hR : wR ⟨kd, n, s⟩ = vq (s.drop 1) x9 0 := by
   unfold wR
   rw [if_pos ⟨by assumption, h114⟩]
  dsimp only
  rw [ht, hR]
  refine zb zqI (s.drop 1) ⟨by omega, by omega⟩ (VS.mk (LeL.of_eq rfl)) ?_
  cases hat : qd (s.drop 1) with
  | none =>
   dsimp only [jm]
   (all_goals refine qgp ?_ <;> (repeat' first | exact trivial | intro hc | refine And.intro ?_ ?_) <;> refine Lf.mk ?_)
   (any_goals (first | (exfalso; refine Bool.false_ne_true ?_; assumption) | (exfalso; refine Bool.false_ne_true (Eq.symm ?_); assumption) | (exfalso; refine absurd trivial ?_; assumption) | skip))
   refine zd (VS.mk (LeD.of_eq (congrArg (D.int .i64) ?_)))
   rw [ziX fun m hm => by rw [hat] at hm; cases hm]
  | some m =>
   dsimp only [jm]
   (all_goals refine qgp ?_ <;> (repeat' first | exact trivial | intro hc | refine And.intro ?_ ?_) <;> refine Lf.mk ?_)
   (any_goals (first | (exfalso; refine Bool.false_ne_true ?_; assumption) | (exfalso; refine Bool.false_ne_true (Eq.symm ?_); assumption) | (exfalso; refine absurd trivial ?_; assumption) | skip))
   ·refine zd (VS.mk (LeD.of_eq (congrArg (D.int .i64) ?_)))
    rw [ziX fun q hm => by rw [hat] at hm; cases hm; omega]
   ·refine zd (VS.mk (LeD.of_eq (congrArg (D.int .i64) ?_)))
    rw [ziX fun q hm => by rw [hat] at hm; cases hm; omega]
   ·refine zb zez m ⟨by omega, by omega⟩ (VS.mk (LeL.of_eq rfl)) ?_
    (all_goals refine qgp ?_ <;> (repeat' first | exact trivial | intro hc | refine And.intro ?_ ?_) <;> refine Lf.mk ?_)
    all_goals (try rw [ht] at hc)
    all_goals (refine zd (VS.mk (LeD.of_eq (congrArg (D.int .i64) ?_))))
    ·rw [ziX fun q hm => by rw [hat] at hm; cases hm; exact fun e => hc e.2.2]
    ·rw [zv3 (by omega) (by omega) hc]
end Go.Proofs.YthmdddenbfbefaaGreatDoor
namespace Go.Proofs.YthmdddenbfbefaaGreatDoor
open Go Go.Plat
set_option linter.unusedVariables false
set_option linter.unusedSimpArgs false
set_option maxRecDepth 100000
set_option maxHeartbeats 2000000
attribute [local irreducible] AWP zC yg zJ zo yw z8 zH z1 z6 zt za zP yx zp z7 zh.kids zh.kind zh.n zh.name yt yu yi yk zw zx zy ym xk yh zF yL zg
def wt : List zbA → Nat
 | [] => 0
 | t :: l => 1 + t.text.length + wt l
def zeA (p : St → zh × St) : Prop := ∀ s, yr (p s).1 + 2 * wt (p s).2.rest ≤ 1 + 2 * wt s.rest
theorem zkH (k n : Int) (t : List UInt8) : yr (.mk k n t []) = 1 + t.length := by rw [yr, vF, Nat.add_zero]
theorem zsf (k n : Int) (a : zh) : yr (.mk k n [] [a]) = 1 + yr a := by rw [yr, vF, vF]; simp
theorem zsg (k n : Int) (a b : zh) : yr (.mk k n [] [a, b]) = 1 + yr a + yr b := by rw [yr, vF, vF, vF]; simp; omega
theorem zct : yr noE = 1 := by unfold noE; rw [zkH]; rfl
theorem zjU (l : List (List UInt8)) (s : St) : wt (zq l s).2.rest ≤ wt s.rest ∧ (0 ≤ (zq l s).1 → wt (zq l s).2.rest + 1 ≤ wt s.rest) := by
 obtain ⟨r, e⟩ := s
 cases r with
 | nil => exact ⟨Nat.le_refl _, fun h => by simp [zq] at h⟩
 | cons t r =>
  simp only [zq]
  split
  ·split
   ·simp only [wt]; exact ⟨by omega, fun _ => by omega⟩
   ·exact ⟨Nat.le_refl _, fun h => by simp at h⟩
  ·exact ⟨Nat.le_refl _, fun h => by simp at h⟩
theorem zkI {k : Nat} {sub : St → zh × St} (hs : zeA sub) : ∀ (g : Nat) (e : zh) (s : St), yr (vN k sub g e s).1 + 2 * wt (vN k sub g e s).2.rest ≤ yr e + 2 * wt s.rest
 | 0, e, s => Nat.le_refl _
 | g + 1, e, s => by
  rw [vN]
  obtain ⟨h1, h1'⟩ := zjU (yV k) s
  split
  ·split
   ·dsimp only; omega
   ·rename_i hn
    have h3 := h1' (by omega)
    have := zkI (k := k) hs g (.mk (zbn k (zq (yV k) s).1) 0 [] [e, (sub (zq (yV k) s).2).1]) (sub (zq (yV k) s).2).2
    rw [zsg] at this
    have h2 := hs (zq (yV k) s).2
    omega
  ·exact Nat.le_refl _
theorem zqJ {k : Nat} {sub : St → zh × St} (hs : zeA sub) : zeA (zcq k sub) := fun s => by
 have h1 := hs s
 have h2 := zkI (k := k) hs ((sub s).2.rest.length + 1) (sub s).1 (sub s).2
 unfold zcq; omega
theorem zjV {one : St → zh × St} (hs : zeA one) : ∀ j, zeA (atF one j)
 | 0 => hs
 | j + 1 => zqJ (zjV hs j)
theorem zt4 : zeA zdr := fun s => by
 obtain ⟨r, e⟩ := s
 cases r with
 | nil => simp [zdr, qF, zct, wt]
 | cons t r =>
  simp only [zdr]
  repeat' split
  all_goals (try rw [qF]); simp only [zct, zkH, wt, List.length_nil]; omega
theorem zsh {one : St → zh × St} (hs : zeA one) : zeA (wQ one) := fun s => by
 obtain ⟨h1, h1'⟩ := zjU yY s
 have h2 := hs (zq yY s).2
 have h3 := zjV hs 5 (zq yY s).2
 have h4 := (zjU qV (atF one 5 (zq yY s).2).2).1
 have h5 := zt4 (zq yY s).2
 have h6 := zfN (atF one 5 (zq yY s).2).1
 unfold wQ
 repeat' split
 all_goals (try dsimp only); (try rw [qF]); (try simp only [zsf, zct]); omega
theorem znk : ∀ f, zeA (qM f)
 | 0 => fun s => by rw [qM, qF, zct]; exact Nat.le_refl _
 | f + 1 => fun s => by rw [qM]; exact zsh (znk f) s
theorem zsi (L : List zbA) : yr (xJ L).1 ≤ 1 + 2 * wt L := by
 have h := zjV (znk 7) 5 ⟨L, 0⟩
 have h : yr (qy L).1 + 2 * wt (qy L).2.rest ≤ 1 + 2 * wt L := h
 unfold xJ
 split
 ·dsimp only; omega
 ·dsimp only; rw [zct]; omega
end Go.Proofs.YthmdddenbfbefaaGreatDoor
namespace Go.Proofs.YthmdddenbfbefaaGreatDoor
open Go Go.Plat
set_option linter.unusedVariables false
set_option linter.unusedSimpArgs false
set_option maxRecDepth 100000
set_option maxHeartbeats 2000000
attribute [local irreducible] AWP zC yg zJ zo yw z8 zH z1 Lib.itoa z6 zt za zP yx zp z7 yt yu yi yk zw zx zy xb xJ wR zM
def xd (l : List zr) : D := .sl 2 (l.map yH) none
def zK (b : Bld) : List D := match b.has with | true => b.shut.map xd ++ [.sl 2 (b.cur.map yH) (some 5)] | false => b.shut.map xd
def bC (q : List zl) (b : Bld) : List D := [.sl 2 (q.map wj) none, .osl 13 1 b.items.length 0 b.items.length, .osl 2 2 b.syms.length 0 b.syms.length, .sl 1 (b.marks.map (.int .i64)) (some 3),
 .osl 1 4 (zK b).length 0 (zK b).length, .int .i64 b.shut.length, .nilsl, .nilsl, .nilsl, .int .i64 b.fe, .int .i64 b.fa]
def zdv (b : Bld) : Ob := match b.has with | true => .spare b.cur.length | false => .dead
def bT (b : Bld) : List Ob := [.arr 13 (b.items.map xp), .arr 2 (b.syms.map yJ), .spare b.marks.length, .arr 1 (zK b), zdv b]
def bO (q : List zl) (b : Bld) : List Ob := .cells (bC q b) :: bT b
theorem zg8 : za Tryz.prog qb (ya (fun _ : (D × D × D × D × D × D × D × D × D) × Int × Int × Int × Int × List Ob => True) (fun (_, _, _, e, line, _) => [.loc 0 0, .int .i64 e, .int .i64 line])
  (fun ((c0, c1, c2, c3, c4, c5, c6, c7, c8), fe, fa, _, _, X) => .cells [c0, c1, c2, c3, c4, c5, c6, c7, c8, .int .i64 fe, .int .i64 fa] :: X) (fun _ => .ff)
  fun ((c0, c1, c2, c3, c4, c5, c6, c7, c8), fe, fa, e, line, X) => .cells [c0, c1, c2, c3, c4, c5, c6, c7, c8, .int .i64 (if fe = 0 then e else fe), .int .i64 (if fe = 0 then line else fa)] :: X) := by
 refine zf zj Tryz.func63 rfl (by decide) ?_
 rintro ⟨⟨c0, c1, c2, c3, c4, c5, c6, c7, c8⟩, fe, fa, e, line, X⟩ _
 refine ⟨Nat.le_refl _, by simp [Tryz.f63], fun E hE => ?_⟩
 refine ze _ ?_
 (all_goals refine qgp ?_ <;> (repeat' first | exact trivial | intro hc | refine And.intro ?_ ?_) <;> refine Lf.mk ?_)
 ·exact xx rfl (by dsimp only; rw [if_pos hc, if_pos hc])
 ·exact xx rfl (by dsimp only; rw [if_neg hc, if_neg hc])
def arC (s : RB) (line : Int) : Ob := .cells [.loc 0 0, .sl 3 (s.rest.map wI) none, .int .i64 line]
def xR (b : Bld) (s : RB) : Bld := { b with fe := s.fe, fa := s.fa }
def vg (q : List zl) (b : Bld) (s : RB) (line : Int) : List Ob := bO q (xR b s) ++ [arC s line]
theorem zsj (b : Bld) : ∀ d ∈ zK b, ClL 6 d.cells := by
 have h1 : ∀ d ∈ b.shut.map xd, ClL 6 d.cells := by
  intro d hd
  obtain ⟨l, _, rfl⟩ := List.mem_map.1 hd
  exact ClL.cons ClD.sl ClL.nil
 unfold zK
 split
 ·intro d hd
  rcases List.mem_append.1 hd with hd | hd
  ·exact h1 d hd
  ·rw [List.mem_singleton] at hd
   subst hd
   exact ClL.cons (ClD.tok (by decide)) ClL.nil
 ·exact h1
theorem kC {n : Nat} (l : List zn) : ∀ d ∈ l.map xp, ClL n d.cells := by
 intro d hd
 obtain ⟨x, _, rfl⟩ := List.mem_map.1 hd
 exact .cons .int (.cons .int (.cons .int (.cons .int (.cons .int (.cons .int (.cons .int (.cons .bool (.cons .int (.cons .str (.cons .int (.cons .int (.cons .int .nil))))))))))))
theorem jK {n : Nat} (l : List zu) : ∀ d ∈ l.map yJ, ClL n d.cells := by
 intro d hd
 obtain ⟨x, _, rfl⟩ := List.mem_map.1 hd
 exact .cons .str (.cons .int .nil)
theorem ClD.up {n m : Nat} {d : D} (h : ClD n d) (hn : n ≤ m) : ClD m d := fun f hf => h f fun k hk => hf k (by omega)
theorem ClO.up {n m : Nat} {o : Ob} (h : ClO n o) (hn : n ≤ m) : ClO m o := fun f hf => h f fun k hk => hf k (by omega)
theorem xl (q : List zl) (b : Bld) : ∀ o ∈ bO q b, ClO 6 o := by
 intro o ho
 simp only [bO, bT, List.mem_cons, List.not_mem_nil, or_false] at ho
 rcases ho with rfl | rfl | rfl | rfl | rfl | rfl
 ·exact .cells (.cons .sl (.cons (.osl (by decide)) (.cons (.osl (by decide)) (.cons (.tok (by decide)) (.cons (.osl (by decide)) (.cons .int (.cons .nilsl (.cons .nilsl (.cons .nilsl (.cons .int (.cons .int .nil)))))))))))
 ·exact .arr (kC _)
 ·exact .arr (jK _)
 ·exact .spare
 ·exact .arr (zsj _)
 ·unfold zdv
  split
  ·exact .spare
  ·exact .dead
theorem zaB (q : List zl) (b : Bld) (s : RB) (line : Int) : ∀ o ∈ vg q b s line, ClO 7 o := by
 intro o ho
 rcases List.mem_append.1 ho with ho | ho
 ·exact ClO.up (xl _ _ o ho) (by decide)
 ·rw [List.mem_singleton] at ho
  subst ho
  exact .cells (.cons (.loc (by decide)) (.cons .sl (.cons .int .nil)))
theorem wZ {c : List UInt8} {t : yG} {r : List yG} {e a : Int} : zM c ⟨t :: r, e, a⟩ = if t.kind = 3 ∧ t.text = c then (true, ⟨r, e, a⟩) else (false, ⟨t :: r, e, a⟩) := by unfold zM; rfl
theorem take_nil {c : List UInt8} {e a : Int} : zM c ⟨[], e, a⟩ = (false, ⟨[], e, a⟩) := by unfold zM; rfl
theorem zoL : za Tryz.prog zbK (ya (fun ((_, s, _, _) : Bld × RB × List UInt8 × List zl × Int) => s.rest.length ≤ 1000000000) (fun (_, _, c, _, _) => [.loc 6 0, .str c])
  (fun (b, s, _, q, line) => vg q b s line) (fun (_, s, c, _, _) => .bool (zM c s).1) fun (b, s, c, q, line) => vg q b (zM c s).2 line) := by
 refine zf zj Tryz.func127 rfl (by decide) ?_
 rintro ⟨b, ⟨r, e, a⟩, c, q, line⟩ hr
 have hr : r.length ≤ 1000000000 := hr
 refine ⟨Nat.le_refl _, by simp [Tryz.f127], fun E hE => ?_⟩
 cases r with
 | nil =>
  refine ze _ ?_
  (all_goals refine qgp ?_ <;> (repeat' first | exact trivial | intro hc | refine And.intro ?_ ?_) <;> refine Lf.mk ?_)
  exact zmt (by rw [take_nil]) (by dsimp only; rw [take_nil]) (Nat.le_of_eq rfl)
 | cons t r =>
  have hr2 : r.length + 1 ≤ 1000000000 := hr
  refine ze _ ?_
  (all_goals refine qgp ?_ <;> (repeat' first | exact trivial | intro hc | refine And.intro ?_ ?_) <;> refine Lf.mk ?_)
  ·exact zwQ (by rw [wZ, if_pos ⟨by assumption, by assumption⟩]) (by dsimp only; rw [wZ, if_pos ⟨by assumption, by assumption⟩]; rfl) (Nat.le_of_eq rfl)
  ·exact zmt (by rw [wZ, if_neg (fun h => hc h.2)]) (by dsimp only; rw [wZ, if_neg (fun h => hc h.2)]) (Nat.le_of_eq rfl)
  ·exact zmt (by rw [wZ, if_neg (fun h => hc h.1)]) (by dsimp only; rw [wZ, if_neg (fun h => hc h.1)]) (Nat.le_of_eq rfl)
theorem zpw (q : List zl) (b : Bld) (e line : Int) : Ob.cells [.sl 2 (q.map wj) none, .osl 13 1 b.items.length 0 b.items.length, .osl 2 2 b.syms.length 0 b.syms.length, .sl 1 (b.marks.map (.int .i64)) (some 3),
  .osl 1 4 (zK b).length 0 (zK b).length, .int .i64 b.shut.length, .nilsl, .nilsl, .nilsl, .int .i64 (if b.fe = 0 then e else b.fe), .int .i64 (if b.fe = 0 then line else b.fa)] :: bT b = bO q (yD b e line) := by
 unfold yD
 by_cases h : b.fe = 0
 ·rw [if_pos h, if_pos h, if_pos h]; rfl
 ·rw [if_neg h, if_neg h, if_neg h]; rfl
theorem yW {av : List D} {L : List Ob} {KP : D → Prop} {KW : D → List Ob → Prop} (q : List zl) (b : Bld) (e line : Int) (X : List Ob) (hL : L = bO q b ++ X) (has : av = [.loc 0 0, .int .i64 e, .int .i64 line])
  (hK : KW .ff (bO q (yD b e line) ++ X)) : zo Tryz.prog qb av L KP KW := by
 subst has
 refine xr zg8 X ((.sl 2 (q.map wj) none, .osl 13 1 b.items.length 0 b.items.length, .osl 2 2 b.syms.length 0 b.syms.length, .sl 1 (b.marks.map (.int .i64)) (some 3),
  .osl 1 4 (zK b).length 0 (zK b).length, .int .i64 b.shut.length, .nilsl, .nilsl, .nilsl), b.fe, b.fa, e, line, bT b) trivial hL (LeL.refl _) rfl ?_ .ff (xl q b) ?_ ?_
 ·exact .cons (.loc (Nat.lt_of_lt_of_le (by decide : 0 < 6) (Nat.le_of_eq rfl))) (.cons .int (.cons .int .nil))
 ·dsimp only
  rw [zpw]
  exact xl q _
 ·dsimp only
  rw [zpw]
  exact hK
attribute [local irreducible] zh.kids zh.kind zh.n zh.name zdv xk yr zK
def kQ (s : RB) (q : List zl) : Prop := wt (s.rest.map tk) ≤ 1048576 ∧ q.length ≤ 1000000000
theorem ziY : ∀ l : List zbA, l.length ≤ wt l
 | [] => Nat.le_refl _
 | t :: l => by have := ziY l; rw [wt]; simp; omega
theorem zpx : ∀ (l : List zbA) (k : Nat), wt (l.drop k) ≤ wt l
 | [], k => by simp
 | t :: l, 0 => Nat.le_refl _
 | t :: l, k + 1 => by have := zpx l k; rw [List.drop_succ_cons, wt]; omega
theorem zw6 (l : List zbA) : 0 ≤ (xJ l).2.1 ∧ (xJ l).2.1 ≤ l.length := by
 unfold xJ
 have := zg5 l
 split
 ·dsimp only; omega
 ·dsimp only; omega
theorem zv4 (q : List zl) (b : Bld) (s : RB) (e line l2 : Int) (X : List Ob) : bO q (yD (xR b s) e line) ++ (arC s l2 :: X) = vg q b (qc s e line) l2 ++ X := by
 unfold yD qc vg xR
 by_cases h : s.fe = 0
 ·rw [if_pos h, if_pos h]; rfl
 ·rw [if_neg h, if_neg h]; rfl
theorem kR {av : List D} {L : List Ob} {KP : D → Prop} {KW : D → List Ob → Prop} (q : List zl) (b : Bld) (s : RB) (e line : Int) (X : List Ob) (hL : L = vg q b s line ++ X) (has : av = [.loc 0 0, .int .i64 e, .int .i64 line])
  (hK : KW .ff (vg q b (qc s e line) line ++ X)) : zo Tryz.prog qb av L KP KW :=
 yW q (xR b s) e line (arC s line :: X) hL has (by rw [zv4]; exact hK)
theorem zaC {n : Nat} (v : zr) : ClD n (yH v) := .agg (.cons .str (.cons .int .nil))
theorem qe {n0 : Nat} {q : List zl} {b : Bld} {s s' : RB} {line : Int} {r d : D} {L : List Ob} (X : List Ob) (hL : L = vg q b s' line ++ X) (hs : s' = s) (hr : r = d) (hn : n0 ≤ 7) (hd : ClD 7 d) : zH n0 r d L (vg q b s line) := by
 subst hs; subst hr
 exact qZ (vg q b s' line) X hL hn hd (zaB _ _ _ _)
theorem zoM : za Tryz.prog zbm (ya (fun ((_, s, q, _) : Bld × RB × List zl × Int) => kQ s q) (fun _ => [.loc 6 0])
  (fun (b, s, q, line) => vg q b s line) (fun (_, s, q, line) => yH (x5 q line s).1) fun (b, s, q, line) => vg q b (x5 q line s).2 line) := by
 refine zf zj Tryz.func175 rfl (by decide) ?_
 rintro ⟨b, s, q, line⟩ ⟨hw, hq⟩
 refine ⟨Nat.le_refl _, by simp [Tryz.f175], fun E hE => ?_⟩
 have hl : s.rest.length ≤ 1048576 := by have := ziY (s.rest.map tk); rw [List.length_map] at this; omega
 have hn := zw6 (s.rest.map tk)
 rw [List.length_map] at hn
 have hnodes := zsi (s.rest.map tk)
 have hV : x5 q line s = if (xJ (s.rest.map tk)).2.2 = 0 then
  ((xb q (xJ (s.rest.map tk)).1).1, if (xb q (xJ (s.rest.map tk)).1).2 = 0 then ⟨s.rest.drop (xJ (s.rest.map tk)).2.1.toNat, s.fe, s.fa⟩
    else qc ⟨s.rest.drop (xJ (s.rest.map tk)).2.1.toNat, s.fe, s.fa⟩ (xb q (xJ (s.rest.map tk)).1).2 line)
  else (noV, qc s (xJ (s.rest.map tk)).2.2 line) := rfl
 refine ze _ ?_
 (all_goals refine qgp (Lf.mk ?_))
 refine zb zg6 (s.rest.map tk) (by show (s.rest.map tk).length ≤ _; rw [List.length_map]; omega) (VS.mk (LeL.of_eq (by rw [zt3]))) ?_
 generalize xJ (s.rest.map tk) = P at *
 obtain ⟨e, n, err⟩ := P
 dsimp only at hV hn hnodes ⊢
 (all_goals refine qgp ?_ <;> (repeat' first | exact trivial | intro hc | refine And.intro ?_ ?_) <;> refine Lf.mk ?_)
 ·rw [if_neg hc] at hV
  refine kR q b s err line [_, _] rfl rfl ?_
  (all_goals refine qgp (Lf.mk ?_))
  rw [hV]
  exact qe [_, _] rfl rfl rfl (Nat.le_of_eq rfl) (zaC _)
 ·rw [if_pos hc] at hV
  refine zb (zex q hq (yr e)) e ⟨Nat.le_refl _, by omega⟩ (VS.mk (LeL.of_eq rfl)) ?_
  generalize xb q e = V at *
  obtain ⟨⟨vn, vi⟩, ve⟩ := V
  dsimp only at hV ⊢
  (all_goals refine qgp ?_ <;> (repeat' first | exact trivial | intro hc | refine And.intro ?_ ?_) <;> refine Lf.mk ?_)
  ·rw [if_neg hc] at hV
   refine kR q b ⟨s.rest.drop n.toNat, s.fe, s.fa⟩ ve line [_, _, _] rfl rfl ?_
   (all_goals refine qgp (Lf.mk ?_))
   rw [hV]
   exact qe [_, _, _] rfl rfl rfl (Nat.le_of_eq rfl) (zaC _)
  ·rw [if_pos hc] at hV
   rw [hV]
   exact qe (s' := ⟨s.rest.drop n.toNat, s.fe, s.fa⟩) [_, _, _] rfl rfl rfl (Nat.le_of_eq rfl) (zaC _)
theorem zc8 {av : List D} {L : List Ob} {KP : D → Prop} {KW : D → List Ob → Prop} (q : List zl) (b : Bld) (s : RB) (c : List UInt8) (line : Int) (X : List Ob) (hl : s.rest.length ≤ 1000000000) (hL : L = vg q b s line ++ X) (has : av = [.loc 6 0, .str c])
  (hK : KW (.bool (zM c s).1) (vg q b (zM c s).2 line ++ X)) : zo Tryz.prog zbK av L KP KW := by
 subst has
 exact xr zoL X (b, s, c, q, line) hl hL (LeL.refl _) rfl (.cons (.loc (Nat.lt_of_lt_of_le (by decide : 6 < 7) (Nat.le_of_eq rfl))) (.cons .str .nil)) .bool (zaB _ _ _ _) (zaB _ _ _ _) hK
theorem zbS {av : List D} {L : List Ob} {KP : D → Prop} {KW : D → List Ob → Prop} (q : List zl) (b : Bld) (s : RB) (line : Int) (X : List Ob) (hl : kQ s q) (hL : L = vg q b s line ++ X) (has : av = [.loc 6 0])
  (hK : KW (yH (x5 q line s).1) (vg q b (x5 q line s).2 line ++ X)) : zo Tryz.prog zbm av L KP KW := by
 subst has
 exact xr zoM X (b, s, q, line) hl hL (LeL.refl _) rfl (.cons (.loc (Nat.lt_of_lt_of_le (by decide : 6 < 7) (Nat.le_of_eq rfl))) .nil) (zaC _) (zaB _ _ _ _) (zaB _ _ _ _) hK
theorem zeB {c : List UInt8} {s : RB} (h : (zM c s).1 = false) : (zM c s).2 = s := by
 obtain ⟨r, e, a⟩ := s
 cases r with
 | nil => rw [take_nil]
 | cons t r =>
  rw [wZ] at h ⊢
  split at h
  ·cases h
  ·rw [if_neg (by assumption)]
theorem zhK {c : List UInt8} {s : RB} {q : List zl} (h : kQ s q) : kQ (zM c s).2 q := by
 obtain ⟨r, e, a⟩ := s
 cases r with
 | nil => rw [take_nil]; exact h
 | cons t r =>
  rw [wZ]
  split
  ·refine ⟨?_, h.2⟩
   have := h.1
   rw [List.map_cons, wt] at this
   show wt (r.map tk) ≤ _
   omega
  ·exact h
theorem zt5 (c : List UInt8) (s : RB) : ∀ t ∈ (zM c s).2.rest, t ∈ s.rest := by
 obtain ⟨r, e, a⟩ := s
 cases r with
 | nil => rw [take_nil]; exact fun _ h => h
 | cons t r =>
  rw [wZ]
  split
  ·exact fun _ h => List.mem_cons_of_mem _ h
  ·exact fun _ h => h
theorem zgC {s : RB} {q : List zl} (h : kQ s q) : s.rest.length ≤ 1048576 := by have := h.1; have := ziY (s.rest.map tk); rw [List.length_map] at this; omega
theorem zw7 {s : RB} (h : (zM [35] s).1 = false) (h' : (zM [64] s).1 = false) (h2 : (zM [61] s).1 = false) : q8 s = ([], s) := by
 unfold q8
 rw [if_neg (by rw [h]; decide), if_neg (by rw [h']; decide), if_neg (by rw [h2]; decide)]
theorem kS {n : Nat} (o : AOp) : ClD n (qn o) := .agg (.cons .str (.cons .int (.cons .str (.cons .int .nil))))
theorem zw8 {s : RB} (h : (zM [35] s).1 = true) : q8 s = ([35], (zM [35] s).2) := by unfold q8; rw [if_pos h]
theorem zw9 {s : RB} (h : (zM [35] s).1 = false) (h1 : (zM [64] s).1 = true) : q8 s = ([64], (zM [64] s).2) := by
 unfold q8; rw [if_neg (by rw [h]; decide), if_pos h1]
theorem zxa {s : RB} (h : (zM [35] s).1 = false) (h1 : (zM [64] s).1 = false) (h2 : (zM [61] s).1 = true) : q8 s = ([61], (zM [61] s).2) := by
 unfold q8; rw [if_neg (by rw [h]; decide), if_neg (by rw [h1]; decide), if_pos h2]
theorem znl {q : List zl} {line : Int} {sg : List UInt8} {s : RB} (h : ¬ (sg = [] ∨ sg = [64])) : zaz q line sg s = (⟨sg, 0, (x5 q line s).1⟩, (x5 q line s).2) := by
 unfold zaz; rw [if_neg fun e => h e.1, if_neg fun e => h (.inr e)]
theorem znm {q : List zl} {line : Int} {sg : List UInt8} {t : yG} {r : List yG} {e a : Int} (h : sg = [] ∨ sg = [64]) (h1 : 0 ≤ wR t) : zaz q line sg ⟨t :: r, e, a⟩ = (⟨if sg = [] then [114] else sg, wR t, noV⟩, ⟨r, e, a⟩) := by
 unfold zaz; rw [if_pos ⟨h, h1⟩]; rfl
theorem zpy {q : List zl} {line : Int} {s : RB} (h : zjR s.rest < 0) : zaz q line [64] s = (⟨[64], 0, noV⟩, qc s 2 line) := by
 unfold zaz; rw [if_neg fun e => by omega, if_pos rfl]
theorem zpz {q : List zl} {line : Int} {s : RB} (h : zjR s.rest < 0) : zaz q line [] s = (⟨[], 0, (x5 q line s).1⟩, (x5 q line s).2) := by
 unfold zaz; rw [if_neg fun e => by omega, if_neg (by decide)]
theorem zsk : za Tryz.prog zcm (ya (fun ((_, s, q, _) : Bld × RB × List zl × Int) => kQ s q ∧ ∀ t ∈ s.rest, t.text.length ≤ 1000000000) (fun _ => [.loc 6 0])
  (fun (b, s, q, line) => vg q b s line) (fun (_, s, q, line) => qn (y0 q line s).1) fun (b, s, q, line) => vg q b (y0 q line s).2 line) := by
 refine zf zj Tryz.func126 rfl (by decide) ?_
 rintro ⟨b, s, q, line⟩ ⟨hv, htx⟩
 have hv : kQ s q := hv
 have htx : ∀ t ∈ s.rest, t.text.length ≤ 1000000000 := htx
 refine ⟨Nat.le_refl _, by simp [Tryz.f126], fun E hE => ?_⟩
 have hl := zgC hv
 refine ze _ ?_
 (all_goals refine qgp (Lf.mk ?_))
 refine zef (ze _ ?_)
 (all_goals refine qgp ?_ <;> (repeat' first | exact trivial | intro hc | refine And.intro ?_ ?_) <;> refine Lf.mk ?_)
 refine zc8 q b s [35] line [_, _] (by omega) rfl rfl ?_
 cases h35 : (zM [35] s).1 with
 | true =>
  have hone : y0 q line s = (⟨[35], 0, (x5 q line (zM [35] s).2).1⟩, (x5 q line (zM [35] s).2).2) := by unfold y0; rw [zw8 h35]; exact znl (sg := [35]) (by decide)
  (all_goals refine qgp ?_ <;> (repeat' first | exact trivial | intro hc | refine And.intro ?_ ?_) <;> refine Lf.mk ?_)
  (any_goals (first | (exfalso; refine Bool.false_ne_true ?_; assumption) | (exfalso; refine Bool.false_ne_true (Eq.symm ?_); assumption) | (exfalso; refine absurd trivial ?_; assumption) | skip))
  all_goals first
   | (exfalso; exact absurd (by assumption : ([35] : List UInt8) = [64]) (by decide))
   | (exfalso; exact absurd (by assumption : ([35] : List UInt8) = []) (by decide))
   | skip
  all_goals (refine zbS q b (zM [35] s).2 line [_, _] (zhK hv) rfl rfl ?_)
  (all_goals refine qgp (Lf.mk ?_))
  all_goals (dsimp only; rw [hone])
  all_goals exact qe [_, _] rfl rfl rfl (Nat.le_of_eq rfl) (kS _)
 | false =>
  rw [zeB h35]
  (all_goals refine qgp ?_ <;> (repeat' first | exact trivial | intro hc | refine And.intro ?_ ?_) <;> refine Lf.mk ?_)
  (any_goals (first | (exfalso; refine Bool.false_ne_true ?_; assumption) | (exfalso; refine Bool.false_ne_true (Eq.symm ?_); assumption) | (exfalso; refine absurd trivial ?_; assumption) | skip))
  refine zci (ze _ ?_)
  (all_goals refine qgp ?_ <;> (repeat' first | exact trivial | intro hc | refine And.intro ?_ ?_) <;> refine Lf.mk ?_)
  refine zc8 q b s [64] line [_, _] (by omega) rfl rfl ?_
  cases h64 : (zM [64] s).1 with
  | true =>
   have hone : y0 q line s = zaz q line [64] (zM [64] s).2 := by unfold y0; rw [zw9 h35 h64]
   have hsub : ∀ t ∈ (zM [64] s).2.rest, t.text.length ≤ 1000000000 := fun t ht => htx t (zt5 _ _ t ht)
   have hl2 := zgC (zhK (c := [64]) hv)
   generalize (zM [64] s).2 = s' at *
   obtain ⟨r, e, a⟩ := s'
   cases r with
   | nil =>
    have hone : y0 q line s = (⟨[64], 0, noV⟩, qc ⟨[], e, a⟩ 2 line) := by rw [hone]; exact zpy (show zjR [] < 0 by decide)
    (all_goals refine qgp ?_ <;> (repeat' first | exact trivial | intro hc | refine And.intro ?_ ?_) <;> refine Lf.mk ?_)
    (any_goals (first | (exfalso; refine Bool.false_ne_true ?_; assumption) | (exfalso; refine Bool.false_ne_true (Eq.symm ?_); assumption) | (exfalso; refine absurd trivial ?_; assumption) | skip))
    all_goals first
     | (exfalso; exact absurd (by assumption : ¬ ([64] : List UInt8) = [64]) (by decide))
     | skip
    refine kR q b ⟨[], e, a⟩ 2 line [_, _] rfl rfl ?_
    (all_goals refine qgp (Lf.mk ?_))
    dsimp only
    rw [hone]
    exact qe [_, _] rfl rfl rfl (Nat.le_of_eq rfl) (kS _)
   | cons t r =>
    have hl2 : r.length + 1 ≤ 1048576 := hl2
    (all_goals refine qgp ?_ <;> (repeat' first | exact trivial | intro hc | refine And.intro ?_ ?_) <;> refine Lf.mk ?_)
    (any_goals (first | (exfalso; refine Bool.false_ne_true ?_; assumption) | (exfalso; refine Bool.false_ne_true (Eq.symm ?_); assumption) | (exfalso; refine absurd trivial ?_; assumption) | skip))
    all_goals first
     | (exfalso; exact absurd trivial (by assumption))
     | (exfalso; exact absurd (by assumption : ([64] : List UInt8) = []) (by decide))
     | (exfalso; exact absurd (by assumption : ¬ ([64] : List UInt8) = [64]) (by decide))
     | skip
    refine zb zaA t (hsub t List.mem_cons_self) (VS.mk (LeL.of_eq rfl)) ?_
    (all_goals refine qgp ?_ <;> (repeat' first | exact trivial | intro hc | refine And.intro ?_ ?_) <;> refine Lf.mk ?_)
    all_goals first
     | (exfalso; exact absurd trivial (by assumption))
     | (exfalso; exact absurd (by assumption : ([64] : List UInt8) = []) (by decide))
     | (exfalso; exact absurd (by assumption : ¬ ([64] : List UInt8) = [64]) (by decide))
     | skip
    ·have hone : y0 q line s = (⟨[64], wR t, noV⟩, ⟨r, e, a⟩) := by rw [hone]; exact znm (.inr rfl) (by assumption)
     dsimp only
     rw [hone]
     exact qe (s' := ⟨r, e, a⟩) [_, _] rfl rfl rfl (Nat.le_of_eq rfl) (kS _)
    ·have hone : y0 q line s = (⟨[64], 0, noV⟩, qc ⟨t :: r, e, a⟩ 2 line) := by rw [hone]; exact zpy (show wR t < 0 by omega)
     refine kR q b ⟨t :: r, e, a⟩ 2 line [_, _] rfl rfl ?_
     (all_goals refine qgp (Lf.mk ?_))
     dsimp only
     rw [hone]
     exact qe [_, _] rfl rfl rfl (Nat.le_of_eq rfl) (kS _)
  | false =>
   rw [zeB h64]
   (all_goals refine qgp ?_ <;> (repeat' first | exact trivial | intro hc | refine And.intro ?_ ?_) <;> refine Lf.mk ?_)
   (any_goals (first | (exfalso; refine Bool.false_ne_true ?_; assumption) | (exfalso; refine Bool.false_ne_true (Eq.symm ?_); assumption) | (exfalso; refine absurd trivial ?_; assumption) | skip))
   refine zci (ze _ ?_)
   (all_goals refine qgp ?_ <;> (repeat' first | exact trivial | intro hc | refine And.intro ?_ ?_) <;> refine Lf.mk ?_)
   refine zc8 q b s [61] line [_, _] (by omega) rfl rfl ?_
   cases h61 : (zM [61] s).1 with
   | true =>
    have hone : y0 q line s = (⟨[61], 0, (x5 q line (zM [61] s).2).1⟩, (x5 q line (zM [61] s).2).2) := by unfold y0; rw [zxa h35 h64 h61]; exact znl (sg := [61]) (by decide)
    (all_goals refine qgp ?_ <;> (repeat' first | exact trivial | intro hc | refine And.intro ?_ ?_) <;> refine Lf.mk ?_)
    (any_goals (first | (exfalso; refine Bool.false_ne_true ?_; assumption) | (exfalso; refine Bool.false_ne_true (Eq.symm ?_); assumption) | (exfalso; refine absurd trivial ?_; assumption) | skip))
    all_goals first
     | (exfalso; exact absurd (by assumption : ([61] : List UInt8) = [64]) (by decide))
     | (exfalso; exact absurd (by assumption : ([61] : List UInt8) = []) (by decide))
     | skip
    all_goals (refine zbS q b (zM [61] s).2 line [_, _] (zhK hv) rfl rfl ?_)
    (all_goals refine qgp (Lf.mk ?_))
    all_goals (dsimp only; rw [hone])
    all_goals exact qe [_, _] rfl rfl rfl (Nat.le_of_eq rfl) (kS _)
   | false =>
    have hone : y0 q line s = zaz q line [] s := by unfold y0; rw [zw7 h35 h64 h61]
    rw [zeB h61]
    clear h35 h64 h61
    obtain ⟨r, e, a⟩ := s
    cases r with
    | nil =>
     have hone : y0 q line ⟨[], e, a⟩ = (⟨[], 0, (x5 q line ⟨[], e, a⟩).1⟩, (x5 q line ⟨[], e, a⟩).2) := by rw [hone]; exact zpz (show zjR [] < 0 by decide)
     (all_goals refine qgp ?_ <;> (repeat' first | exact trivial | intro hc | refine And.intro ?_ ?_) <;> refine Lf.mk ?_)
     (any_goals (first | (exfalso; refine Bool.false_ne_true ?_; assumption) | (exfalso; refine Bool.false_ne_true (Eq.symm ?_); assumption) | (exfalso; refine absurd trivial ?_; assumption) | skip))
     refine zci (ze _ ?_)
     (all_goals refine qgp ?_ <;> (repeat' first | exact trivial | intro hc | refine And.intro ?_ ?_) <;> refine Lf.mk ?_)
     all_goals first
      | (exfalso; exact absurd trivial (by assumption))
      | (exfalso; exact absurd (by assumption : ([] : List UInt8) = [64]) (by decide))
      | skip
     refine zbS q b ⟨[], e, a⟩ line [_, _] hv rfl rfl ?_
     (all_goals refine qgp (Lf.mk ?_))
     dsimp only
     rw [hone]
     exact qe [_, _] rfl rfl rfl (Nat.le_of_eq rfl) (kS _)
    | cons t r =>
     have hl2 : r.length + 1 ≤ 1048576 := hl
     (all_goals refine qgp ?_ <;> (repeat' first | exact trivial | intro hc | refine And.intro ?_ ?_) <;> refine Lf.mk ?_)
     (any_goals (first | (exfalso; refine Bool.false_ne_true ?_; assumption) | (exfalso; refine Bool.false_ne_true (Eq.symm ?_); assumption) | (exfalso; refine absurd trivial ?_; assumption) | skip))
     refine zci (ze _ ?_)
     (all_goals refine qgp ?_ <;> (repeat' first | exact trivial | intro hc | refine And.intro ?_ ?_) <;> refine Lf.mk ?_)
     all_goals first
      | (exfalso; exact absurd trivial (by assumption))
      | (exfalso; exact absurd (by assumption : ([] : List UInt8) = [64]) (by decide))
      | (exfalso; exact absurd (by assumption : ¬ ([] : List UInt8) = []) (by decide))
      | skip
     refine zb zaA t (htx t List.mem_cons_self) (VS.mk (LeL.of_eq rfl)) ?_
     (all_goals refine qgp ?_ <;> (repeat' first | exact trivial | intro hc | refine And.intro ?_ ?_) <;> refine Lf.mk ?_)
     all_goals first
      | (exfalso; exact absurd trivial (by assumption))
      | (exfalso; exact absurd (by assumption : ([] : List UInt8) = [64]) (by decide))
      | (exfalso; exact absurd (by assumption : ¬ ([] : List UInt8) = []) (by decide))
      | skip
     ·have hone : y0 q line ⟨t :: r, e, a⟩ = (⟨[114], wR t, noV⟩, ⟨r, e, a⟩) := by rw [hone]; exact znm (.inl rfl) (by assumption)
      dsimp only
      rw [hone]
      exact qe (s' := ⟨r, e, a⟩) [_, _] rfl rfl rfl (Nat.le_of_eq rfl) (kS _)
     ·have hone : y0 q line ⟨t :: r, e, a⟩ = (⟨[], 0, (x5 q line ⟨t :: r, e, a⟩).1⟩, (x5 q line ⟨t :: r, e, a⟩).2) := by rw [hone]; exact zpz (show wR t < 0 by omega)
      refine zbS q b ⟨t :: r, e, a⟩ line [_, _] hv rfl rfl ?_
      (all_goals refine qgp (Lf.mk ?_))
      dsimp only
      rw [hone]
      exact qe [_, _] rfl rfl rfl (Nat.le_of_eq rfl) (kS _)
def we (s s' : RB) : Prop := s'.rest.length ≤ s.rest.length ∧ wt (s'.rest.map tk) ≤ wt (s.rest.map tk) ∧ ∀ t ∈ s'.rest, t ∈ s.rest
theorem we.refl (s : RB) : we s s := ⟨Nat.le_refl _, Nat.le_refl _, fun _ h => h⟩
theorem we.trans {a b c : RB} (h : we a b) (k : we b c) : we a c := ⟨Nat.le_trans k.1 h.1, Nat.le_trans k.2.1 h.2.1, fun t ht => h.2.2 t (k.2.2 t ht)⟩
theorem we.fail {s s' : RB} (h : we s s') (e line : Int) : we s (qc s' e line) := by
 unfold qc
 split
 ·exact h
 ·exact h
theorem we.drop {s : RB} (k : Nat) (e a : Int) : we s ⟨s.rest.drop k, e, a⟩ :=
 ⟨by simp, by show wt ((s.rest.drop k).map tk) ≤ _; rw [List.map_drop]; exact zpx _ _, fun t ht => List.mem_of_mem_drop ht⟩
theorem jL (c : List UInt8) (s : RB) : we s (zM c s).2 := by
 obtain ⟨r, e, a⟩ := s
 cases r with
 | nil => rw [take_nil]; exact .refl _
 | cons t r =>
  rw [wZ]
  split
  ·exact we.drop (s := ⟨t :: r, e, a⟩) 1 e a
  ·exact .refl _
theorem zqK (q : List zl) (line : Int) (s : RB) : we s (x5 q line s).2 := by
 unfold x5
 split
 ·dsimp only
  split
  ·exact .drop _ _ _
  ·exact (we.drop _ _ _).fail _ _
 ·exact (we.refl s).fail _ _
theorem zsl (s : RB) : we s (q8 s).2 := by
 unfold q8
 split
 ·exact jL _ _
 split
 ·exact jL _ _
 split
 ·exact jL _ _
 ·exact .refl _
theorem znn (q : List zl) (line : Int) (s : RB) : we s (y0 q line s).2 := by
 unfold y0 zaz
 refine (zsl s).trans ?_
 split
 ·exact .drop _ _ _
 split
 ·exact (we.refl _).fail _ _
 ·exact zqK _ _ _
theorem zqL (line : Int) (s : RB) : we s (xT line s) := by
 unfold xT
 split
 ·exact (jL _ _).fail _ _
 ·exact jL _ _
theorem ziZ (line : Int) (s : RB) (h : (xT line s).fe = 0) : (xT line s).rest.length + 1 ≤ s.rest.length := by
 unfold xT at h ⊢
 split
 ·rename_i hc
  rw [if_pos hc] at h
  exfalso
  unfold qc at h
  split at h
  ·exact absurd (show (2 : Int) = 0 from h) (by decide)
  ·contradiction
 ·rename_i hc
  have ht : (zM [44] s).1 = true := by
   cases h1 : (zM [44] s).1 with
   | true => rfl
   | false => exact absurd (.inl h1) hc
  obtain ⟨r, e, a⟩ := s
  cases r with
  | nil => rw [take_nil] at ht; cases ht
  | cons t r =>
   rw [wZ] at ht ⊢
   split at ht
   ·rw [if_pos (by assumption)]; exact Nat.le_refl _
   ·cases ht
theorem we.val {s s' : RB} {q : List zl} (h : we s s') (hv : kQ s q) : kQ s' q := ⟨Nat.le_trans h.2.1 hv.1, hv.2⟩
theorem zhL {q : List zl} {line : Int} {out : List AOp} {s : RB} (h : s.rest = [] ∨ s.fe ≠ 0) : ∀ f, jw q line f out s = (out, s)
 | 0 => rfl
 | f + 1 => by rw [jw, if_pos h]
theorem zsm {q : List zl} {line : Int} {out : List AOp} {s : RB} (f : Nat) (h : ¬ (s.rest = [] ∨ s.fe ≠ 0)) : jw q line (f + 1) out s = if (y0 q line s).2.rest = [] then (out ++ [(y0 q line s).1], (y0 q line s).2)
  else jw q line f (out ++ [(y0 q line s).1]) (xT line (y0 q line s).2) := by rw [jw, if_neg h]
theorem zsn (line : Int) (s : RB) : xT line s = if (zM [44] s).1 = false ∨ (zM [44] s).2.rest = [] then qc (zM [44] s).2 2 line else (zM [44] s).2 := rfl
attribute [local irreducible] y0 xT jw
theorem zt6 {av : List D} {L : List Ob} {KP : D → Prop} {KW : D → List Ob → Prop} (q : List zl) (b : Bld) (s : RB) (line : Int) (X : List Ob) (hl : kQ s q) (ht : ∀ t ∈ s.rest, t.text.length ≤ 1000000000) (hL : L = vg q b s line ++ X) (has : av = [.loc 6 0])
  (hK : KW (qn (y0 q line s).1) (vg q b (y0 q line s).2 line ++ X)) : zo Tryz.prog zcm av L KP KW := by
 subst has
 exact xr zsk X (b, s, q, line) ⟨hl, ht⟩ hL (LeL.refl _) rfl (.cons (.loc (Nat.lt_of_lt_of_le (by decide : 6 < 7) (Nat.le_of_eq rfl))) .nil) (kS _) (zaB _ _ _ _) (zaB _ _ _ _) hK
theorem zso : za Tryz.prog zcl (ya (fun ((_, s, q, _) : Bld × RB × List zl × Int) => kQ s q ∧ ∀ t ∈ s.rest, t.text.length ≤ 1000000000) (fun _ => [.loc 6 0])
  (fun (b, s, q, line) => vg q b s line) (fun (_, s, q, line) => .sl 4 ((xw q line s).1.map qn) none) fun (b, s, q, line) => vg q b (xw q line s).2 line) := by
 refine zf zj Tryz.func64 rfl (by decide) ?_
 rintro ⟨b, s, q, line⟩ ⟨hv, htx⟩
 have hv : kQ s q := hv
 have htx : ∀ t ∈ s.rest, t.text.length ≤ 1000000000 := htx
 refine ⟨Nat.le_refl _, by simp [Tryz.f64], fun E hE => ?_⟩
 have hl0 := zgC hv
 have hE7 : E.L.length = 7 := by rw [hE]; rfl
 generalize hT : xw q line s = T
 have hT0 : jw q line (s.rest.length + 1) [] s = T := hT
 refine ze _ ?_
 (all_goals refine qgp (Lf.mk ?_))
 refine wP (kq 3 4 rfl) ?_
 refine y5 (α := List AOp × RB × Nat) (fun p => we s p.2.1 ∧ (p.2.1.fe = 0 → p.2.1.rest.length + 1 ≤ p.2.2) ∧ jw q line p.2.2 p.1 p.2.1 = T ∧ p.1.length + p.2.1.rest.length ≤ s.rest.length + 1 ∧ (p.2.1.fe = 0 → p.1.length + p.2.1.rest.length ≤ s.rest.length))
  (fun p => [(0, .loc 6 0), (3, .sl 4 (p.1.map qn) (some 7))]) (fun p => vg q b p.2.1 line ++ [.spare p.1.length]) (fun p => p.2.1.rest.length + if p.2.1.fe = 0 then 1 else 0) (fun _ => by rw [hE7]; exact Nat.le_succ 7) ([], s, s.rest.length + 1)
  ⟨.refl _, fun _ => Nat.le_refl _, hT0, by simp, fun _ => by simp⟩ ?_ ?_
 ·exact yv rfl ⟨rfl, rfl, trivial⟩
 rintro ⟨out, s1, f⟩ ⟨i1, i2, i3, i4, i5⟩
 dsimp only at i1 i2 i3 i4 i5 ⊢
 have hv1 := i1.val hv
 have hl1 := zgC hv1
 refine ze _ ?_
 (all_goals refine qgp ?_ <;> (repeat' first | exact trivial | intro hc | refine And.intro ?_ ?_) <;> refine Lf.mk ?_)
 ·have hfe : s1.fe = 0 := hc
  have hne : s1.rest ≠ [] := fun h => by simp only [h, List.length_nil] at *; omega
  have hf := i2 hfe
  have hol := i5 hfe
  obtain ⟨f, rfl⟩ : ∃ g, f = g + 1 := ⟨f - 1, by omega⟩
  rw [zsm f (fun e => e.elim hne (fun e => e hfe))] at i3
  have hone := znn q line s1
  refine zt6 q b s1 line [_] hv1 (fun t ht => htx t (i1.2.2 t ht)) rfl rfl ?_
  generalize y0 q line s1 = W at *
  obtain ⟨o, s2⟩ := W
  dsimp only at i3 hone ⊢
  have hl2 := hone.1
  (all_goals refine qgk (Lf.mk ?_))
  refine w4 ((out ++ [o]).map qn) (by rw [List.map_append]; rfl) ?_
  rw [List.length_map]
  (all_goals refine qgp ?_ <;> (repeat' first | exact trivial | intro hc | refine And.intro ?_ ?_) <;> refine Lf.mk ?_)
  ·have hre : s2.rest = [] := List.eq_nil_of_length_eq_zero (by omega)
   rw [if_pos hre] at i3
   refine v8 (LeD.strip _ _ _) ?_ (Nat.le_of_eq rfl)
   rw [hT, ← i3]
   exact qe [_] rfl rfl rfl (Nat.le_of_eq rfl) .sl
  ·have hre : ¬ s2.rest = [] := fun h => by rw [h] at hc; exact hc rfl
   rw [if_neg hre] at i3
   have hl3 := jL [44] s2
   have hcl := zqL line s2
   have hce := ziZ line s2
   have hcd : xT line s2 = if (zM [44] s2).1 = false ∨ (zM [44] s2).2.rest = [] then qc (zM [44] s2).2 2 line else (zM [44] s2).2 := zsn line s2
   refine zc8 q b s2 [44] line [_] (by omega) rfl rfl ?_
   generalize zM [44] s2 = Y at *
   obtain ⟨y, s3⟩ := Y
   dsimp only at hcd hl3 ⊢
   have hl3 := hl3.1
   have hcl1 := hcl.1
   have hI : we s (xT line s2) ∧ ((xT line s2).fe = 0 → (xT line s2).rest.length + 1 ≤ f) ∧ jw q line f (out ++ [o]) (xT line s2) = T ∧ (out ++ [o]).length + (xT line s2).rest.length ≤ s.rest.length + 1 ∧
     ((xT line s2).fe = 0 → (out ++ [o]).length + (xT line s2).rest.length ≤ s.rest.length) := by
    refine ⟨i1.trans (hone.trans hcl), fun h => by have := hce h; omega, i3, ?_, fun h => ?_⟩
    ·rw [List.length_append, List.length_singleton]; omega
    ·have := hce h; rw [List.length_append, List.length_singleton]; omega
   have hmu : (xT line s2).rest.length + (if (xT line s2).fe = 0 then 1 else 0) < s1.rest.length + (if s1.fe = 0 then 1 else 0) := by
    rw [if_pos hfe]
    by_cases h : (xT line s2).fe = 0
    ·have := hce h; rw [if_pos h]; omega
    ·rw [if_neg h]; omega
   generalize xT line s2 = s4 at *
   (all_goals refine qgp ?_ <;> (repeat' first | exact trivial | intro hc | refine And.intro ?_ ?_) <;> refine Lf.mk ?_)
   ·rw [if_pos (.inl hc)] at hcd
    refine kR q b s3 2 line [_] rfl rfl ?_
    rw [← hcd]
    (all_goals refine qgp (Lf.mk ?_))
    exact yP (out ++ [o], s4, f) hI hmu rfl ⟨rfl, rfl, trivial⟩
   ·rw [if_pos (.inr (List.eq_nil_of_length_eq_zero (by omega)))] at hcd
    refine kR q b s3 2 line [_] rfl rfl ?_
    rw [← hcd]
    (all_goals refine qgp (Lf.mk ?_))
    exact yP (out ++ [o], s4, f) hI hmu rfl ⟨rfl, rfl, trivial⟩
   ·have hy : y = true := by assumption
    rw [if_neg (fun e => e.elim (fun h => by rw [hy] at h; cases h) (fun h => by rw [h] at hc; exact hc rfl))] at hcd
    rw [← hcd]
    exact yP (out ++ [o], s4, f) hI hmu rfl ⟨rfl, rfl, trivial⟩
 ·have hfe : s1.fe ≠ 0 := hc
  rw [zhL (.inr hfe)] at i3
  refine v8 (LeD.strip _ _ _) ?_ (Nat.le_of_eq rfl)
  rw [hT, ← i3]
  exact qe [_] rfl rfl rfl (Nat.le_of_eq rfl) .sl
 ·have hre : s1.rest = [] := List.eq_nil_of_length_eq_zero (by omega)
  rw [zhL (.inl hre)] at i3
  refine v8 (LeD.strip _ _ _) ?_ (Nat.le_of_eq rfl)
  rw [hT, ← i3]
  exact qe [_] rfl rfl rfl (Nat.le_of_eq rfl) .sl
end Go.Proofs.YthmdddenbfbefaaGreatDoor
namespace Go.Proofs.YthmdddenbfbefaaGreatDoor
open Go Go.Plat
set_option linter.unusedVariables false
set_option linter.unusedSimpArgs false
set_option maxRecDepth 100000
set_option maxHeartbeats 2000000
attribute [local irreducible] AWP zC yg zJ zo yw z8 zH z1 Lib.itoa z6 zt za zP yx zp z7 zh.kids zh.kind zh.n zh.name yt yu yi yk zw zx xw zy xb xk yr y0 xJ wR zM
theorem zV {n0 : Nat} {q : List zl} {b b' : Bld} {r d : D} {L : List Ob} (X : List Ob) (hL : L = bO q b' ++ X) (hb : b' = b) (hr : r = d) (hn : n0 ≤ 6) (hd : ClD 6 d) : zH n0 r d L (bO q b) := by
 subst hb; subst hr
 exact qZ (bO q b') X hL hn hd (xl _ _)
theorem zeC : za Tryz.prog kV (ya (fun ((b, _, _) : Bld × zn × List zl) => b.items.length ≤ 1000000) (fun (_, x, _) => [.loc 0 0, xp x])
  (fun (b, _, q) => bO q b) (fun _ => .tup []) fun (b, x, q) => bO q (xA b x)) := by
 refine zf zj Tryz.func68 rfl (by decide) ?_
 rintro ⟨b, x, q⟩ hl
 have hl : b.items.length ≤ 1000000 := hl
 refine ⟨Nat.le_refl _, by simp [Tryz.f68], fun E hE => ?_⟩
 refine ze _ ?_
 (all_goals refine qgk (Lf.mk ?_))
 refine w4 ((b.items ++ [x]).map xp) (by rw [List.map_append]; rfl) ?_
 rw [List.length_map]
 (all_goals refine qgk (Lf.mk ?_))
 exact zV (b' := xA b x) [_] rfl rfl rfl (Nat.le_of_eq rfl) .tup0
theorem zno {n : Nat} (x : zn) : ClD n (xp x) := .agg (.cons .int (.cons .int (.cons .int (.cons .int (.cons .int (.cons .int (.cons .int (.cons .bool (.cons .int (.cons .str (.cons .int (.cons .int (.cons .int .nil)))))))))))))
theorem yB {av : List D} {L : List Ob} {KP : D → Prop} {KW : D → List Ob → Prop} (q : List zl) (b : Bld) (x : zn) (X : List Ob) (hl : b.items.length ≤ 1000000) (hL : L = bO q b ++ X) (has : LeL av [.loc 0 0, xp x])
  (hK : KW (.tup []) (bO q (xA b x) ++ X)) : zo Tryz.prog kV av L KP KW := by
 refine zdJ has ?_
 exact xr zeC X (b, x, q) hl hL (LeL.refl _) rfl (.cons (.loc (Nat.lt_of_lt_of_le (by decide : 0 < 6) (Nat.le_of_eq rfl))) (.cons (zno x) .nil)) .tup0 (xl _ _) (xl _ _) hK
theorem yM {k at_ line : Int} {i : Ins} {size : Int} {v : zr} {p x : Int} : LeL [.loc 0 0, .agg [.int .i64 k, .int .i64 at_, .int .i64 line, .int .i64 i.op, .int .i64 i.n, .int .i64 i.m, .int .i64 i.imm, .ff, .int .i64 size, .str v.name, .int .i64 v.n, .int .i64 p, .int .i64 x]]
  [.loc 0 0, xp ⟨k, at_, line, i, false, size, v, p, x⟩] :=
 .cons (.refl _) (.cons (.agg (.cons (.refl _) (.cons (.refl _) (.cons (.refl _) (.cons (.refl _) (.cons (.refl _) (.cons (.refl _) (.cons (.refl _) (.cons (.ff rfl) (.refl _)))))))))) .nil)
theorem qo (b : Bld) (e line : Int) : (yD b e line).items = b.items := by unfold yD; split <;> rfl
theorem znp : za Tryz.prog zaj (ya (fun ((b, l, _, _) : Bld × List AOp × Int × List zl) => b.items.length ≤ 1000000 ∧ l.length ≤ 1000000000) (fun (_, l, line, _) => [.loc 0 0, .sl 4 (l.map qn) none, .int .i64 line])
  (fun (b, _, _, q) => bO q b) (fun _ => .tup []) fun (b, l, line, q) => bO q (qX b l line)) := by
 refine zf zj Tryz.func66 rfl (by decide) ?_
 rintro ⟨b, l, line, q⟩ ⟨hb, hl⟩
 have hb : b.items.length ≤ 1000000 := hb
 have hl : l.length ≤ 1000000000 := hl
 refine ⟨Nat.le_refl _, by simp [Tryz.f66], fun E hE => ?_⟩
 match l, hl with
 | [], _ =>
  refine ze _ ?_
  (all_goals refine qgp ?_ <;> (repeat' first | exact trivial | intro hc | refine And.intro ?_ ?_) <;> refine Lf.mk ?_)
  refine yW q b 2 line [] rfl rfl ?_
  (all_goals refine qgp (Lf.mk ?_))
  exact zV [] rfl rfl rfl (Nat.le_of_eq rfl) .tup0
 | [o], _ =>
  have hA : qX b [o] line = if o.sign ≠ [] ∨ o.val.name ≠ [] then yD b 2 line else if o.val.n ≠ 1 ∧ o.val.n ≠ 2 ∧ o.val.n ≠ 4 ∧ o.val.n ≠ 8 ∧ o.val.n ≠ 16 then yD b 3 line
    else xA b ⟨8, 0, line, noI, false, o.val.n, noV, 0, 0⟩ := by
   unfold qX
   by_cases h : o.sign ≠ [] ∨ o.val.name ≠ []
   ·rw [if_pos h, if_pos (.inr h)]
   ·rw [if_neg h, if_neg (fun e => e.elim (fun e => e rfl) h)]; rfl
  refine ze _ ?_
  (all_goals refine qgp ?_ <;> (repeat' first | exact trivial | intro hc | refine And.intro ?_ ?_) <;> refine Lf.mk ?_)
  ·refine yW q b 2 line [] rfl rfl ?_
   (all_goals refine qgp (Lf.mk ?_))
   exact zV [] rfl (by rw [hA, if_pos (.inl hc)]) rfl (Nat.le_of_eq rfl) .tup0
  ·refine yW q b 2 line [] rfl rfl ?_
   (all_goals refine qgp (Lf.mk ?_))
   exact zV [] rfl (by rw [hA, if_pos (.inr hc)]) rfl (Nat.le_of_eq rfl) .tup0
  ·refine yW q b 3 line [] rfl rfl ?_
   (all_goals refine qgp (Lf.mk ?_))
   exact zV [] rfl (by rw [hA, if_neg (fun e => e.elim (fun e => e (by assumption)) (fun e => e (by assumption))), if_pos ⟨by assumption, by assumption, by assumption, by assumption, hc⟩]) rfl (Nat.le_of_eq rfl) .tup0
  all_goals
   refine yB q b ⟨8, 0, line, noI, false, o.val.n, noV, 0, 0⟩ [] hb rfl yM ?_
   (all_goals refine qgp (Lf.mk ?_))
   exact zV [] rfl (by rw [hA, if_neg (fun e => e.elim (fun e => e (by assumption)) (fun e => e (by assumption))), if_neg (fun e => by omega)]) rfl (Nat.le_of_eq rfl) .tup0
 | o :: o2 :: l, _ =>
  refine ze _ ?_
  (all_goals refine qgp ?_ <;> (repeat' first | exact trivial | intro hc | refine And.intro ?_ ?_) <;> refine Lf.mk ?_)
  refine yW q b 2 line [] rfl rfl ?_
  (all_goals refine qgp (Lf.mk ?_))
  exact zV [] rfl (by unfold qX; rw [if_pos (.inl (by simp))]) rfl (Nat.le_of_eq rfl) .tup0
theorem zqM (size line : Int) (b : Bld) (o : AOp) : (vf size line b o).items.length = b.items.length + 1 := by
 unfold vf xA
 dsimp only
 rw [List.length_append, List.length_singleton]
 split
 ·rw [qo]
 split
 ·rw [qo]
 split
 ·rw [qo]
 ·rfl
theorem zoN : za Tryz.prog zbf (ya (fun ((b, size, l, _, _) : Bld × Int × List AOp × Int × List zl) => b.items.length + l.length ≤ 1000000 ∧ (size = 1 ∨ size = 2 ∨ size = 4)) (fun (_, size, l, line, _) => [.loc 0 0, .int .i64 size, .sl 4 (l.map qn) none, .int .i64 line])
  (fun (b, _, _, _, q) => bO q b) (fun _ => .tup []) fun (b, size, l, line, q) => bO q (jl b size l line)) := by
 refine zf zj Tryz.func65 rfl (by decide) ?_
 rintro ⟨b, size, l, line, q⟩ ⟨hb, hs⟩
 have hb : b.items.length + l.length ≤ 1000000 := hb
 have hs : size = 1 ∨ size = 2 ∨ size = 4 := hs
 have hE6 : ∀ E : xo, E.L = bO q b → E.L.length = 6 := fun E h => by rw [h]; rfl
 refine ⟨Nat.le_refl _, by simp [Tryz.f65], fun E hE => ?_⟩
 have hE6 := hE6 E hE
 obtain ⟨s, m, hz1, hz2, hz3, hz4, hz5, hz6, hz7, hz8⟩ : ∃ (s : Nat) (m : Int), 8 * size - 1 = (s : Int) ∧ s ≤ 60 ∧ (2 : Int) ^ s = m ∧ (2 : Int) ^ (s + 1) = m * 2 ∧ 0 ≤ m ∧ m ≤ 2147483648 ∧ zw5 size = -m ∧ zu4 size = m * 2 - 1 := by
  rcases hs with rfl | rfl | rfl
  ·exact ⟨7, 128, by decide, by decide, by decide, by decide, by decide, by decide, by decide, by decide⟩
  ·exact ⟨15, 32768, by decide, by decide, by decide, by decide, by decide, by decide, by decide, by decide⟩
  ·exact ⟨31, 2147483648, by decide, by decide, by decide, by decide, by decide, by decide, by decide, by decide⟩
 generalize hT : jl b size l line = T
 have hT0 : l.foldl (vf size line) (if l = [] then yD b 2 line else b) = T := hT
 refine ze _ ?_
 (all_goals refine qgp ?_ <;> (repeat' first | exact trivial | intro hc | refine And.intro ?_ ?_) <;> refine Lf.mk ?_)
 ·have hnil : l = [] := List.eq_nil_of_length_eq_zero (by have hc : ((l.length : Nat) : Int) = 0 := hc; omega)
  subst hnil
  refine yW q b 2 line [] rfl rfl ?_
  (all_goals refine qgp (Lf.mk ?_))
  refine zef (ze _ ?_)
  (all_goals refine qgp ?_ <;> (repeat' first | exact trivial | intro hc | refine And.intro ?_ ?_) <;> refine Lf.mk ?_)
  exact zV [] rfl (by rw [hT, ← hT0]; rfl) rfl (Nat.le_of_eq rfl) .tup0
 ·have hne : ¬ l = [] := fun h => by rw [h] at hc; exact hc rfl
  rw [if_neg hne] at hT0
  refine y5 (α := Nat × Bld) (fun p => p.1 ≤ l.length ∧ (l.drop p.1).foldl (vf size line) p.2 = T ∧ p.2.items.length + (l.length - p.1) ≤ 1000000)
   (fun p => [(0, .loc 0 0), (1, .int .i64 size), (3, .int .i64 line), (18, .sl 4 (l.map qn) none), (19, .int .i64 l.length), (20, .int .i64 p.1)]) (fun p => bO q p.2) (fun p => l.length - p.1) (fun _ => by rw [hE6]; exact Nat.le_refl 6) (0, b)
   ⟨Nat.zero_le _, hT0, by dsimp only; omega⟩ ?_ ?_
  ·exact yv rfl ⟨rfl, rfl, rfl, rfl, rfl, rfl, trivial⟩
  rintro ⟨k, b1⟩ ⟨i1, i2, i3⟩
  dsimp only at i1 i2 i3 ⊢
  refine ze _ ?_
  (all_goals refine qgp ?_ <;> (repeat' first | exact trivial | intro hc | refine And.intro ?_ ?_) <;> refine Lf.mk ?_)
  ·obtain ⟨o, ho⟩ := yj (l := l) (k := k) (by omega)
   have hkl : k < l.length := by omega
   have hget : l[k] = o := by rw [List.getElem?_eq_getElem hkl] at ho; exact Option.some.inj ho
   rw [List.drop_eq_getElem_cons hkl, hget, List.foldl_cons] at i2
   have hit := zqM size line b1 o
   refine zk o (by omega) (by simpa using ho) ?_
   (all_goals refine qgp (Lf.mk ?_))
   refine qv (s := s) (m := m) hz1 (by omega) hz3 (by omega) (by omega) ?_
   (all_goals refine qgp (Lf.mk ?_))
   refine qv (s := s + 1) (m := m * 2) (by omega) (by omega) hz4 (by omega) (by omega) ?_
   (all_goals refine qgp ?_ <;> (repeat' first | exact trivial | intro hc | refine And.intro ?_ ?_) <;> refine Lf.mk ?_)
   all_goals first
    | (exfalso; exact absurd (by assumption : o.val.name = []) (by assumption))
    | skip
   ·have hd : vf size line b1 o = xA (yD b1 2 line) ⟨7, 0, line, noI, false, size, o.val, 0, 0⟩ := by unfold vf; rw [if_pos hc]
    rw [hd] at i2 hit
    refine yW q b1 2 line [_] rfl rfl ?_
    (all_goals refine qgp (Lf.mk ?_))
    refine yB q (yD b1 2 line) ⟨7, 0, line, noI, false, size, o.val, 0, 0⟩ [_] (by rw [qo]; omega) rfl yM ?_
    (all_goals refine qgp (Lf.mk ?_))
    exact kw (k + 1, xA (yD b1 2 line) ⟨7, 0, line, noI, false, size, o.val, 0, 0⟩) [_] ⟨by show k + 1 ≤ _; omega, i2, by dsimp only; rw [hit]; omega⟩ (by dsimp only; omega) rfl (by rw [hE6]; exact Nat.le_refl 6) (xl _ _) ⟨rfl, rfl, rfl, rfl, rfl, rfl, trivial⟩
     (.cons (.loc (Nat.lt_of_lt_of_le (by decide : 0 < 6) (Nat.le_of_eq rfl))) (.cons .int (.cons .int (.cons .sl (.cons .int (.cons .int .nil))))))
   ·have hd : vf size line b1 o = xA (yD b1 8 line) ⟨7, 0, line, noI, false, size, o.val, 0, 0⟩ := by unfold vf; rw [if_neg (fun h => h (by assumption)), if_pos ⟨by assumption, hc⟩]
    rw [hd] at i2 hit
    refine yW q b1 8 line [_] rfl rfl ?_
    (all_goals refine qgp (Lf.mk ?_))
    refine yB q (yD b1 8 line) ⟨7, 0, line, noI, false, size, o.val, 0, 0⟩ [_] (by rw [qo]; omega) rfl yM ?_
    (all_goals refine qgp (Lf.mk ?_))
    exact kw (k + 1, xA (yD b1 8 line) ⟨7, 0, line, noI, false, size, o.val, 0, 0⟩) [_] ⟨by show k + 1 ≤ _; omega, i2, by dsimp only; rw [hit]; omega⟩ (by dsimp only; omega) rfl (by rw [hE6]; exact Nat.le_refl 6) (xl _ _) ⟨rfl, rfl, rfl, rfl, rfl, rfl, trivial⟩
     (.cons (.loc (Nat.lt_of_lt_of_le (by decide : 0 < 6) (Nat.le_of_eq rfl))) (.cons .int (.cons .int (.cons .sl (.cons .int (.cons .int .nil))))))
   ·have hd : vf size line b1 o = xA b1 ⟨7, 0, line, noI, false, size, o.val, 0, 0⟩ := by unfold vf; rw [if_neg (fun h => h (by assumption)), if_neg (fun h => absurd h.2 (by assumption)), if_neg (fun h => absurd h.1 (by assumption))]
    rw [hd] at i2 hit
    refine yB q b1 ⟨7, 0, line, noI, false, size, o.val, 0, 0⟩ [_] (by omega) rfl yM ?_
    (all_goals refine qgp (Lf.mk ?_))
    exact kw (k + 1, xA b1 ⟨7, 0, line, noI, false, size, o.val, 0, 0⟩) [_] ⟨by show k + 1 ≤ _; omega, i2, by dsimp only; rw [hit]; omega⟩ (by dsimp only; omega) rfl (by rw [hE6]; exact Nat.le_refl 6) (xl _ _) ⟨rfl, rfl, rfl, rfl, rfl, rfl, trivial⟩
     (.cons (.loc (Nat.lt_of_lt_of_le (by decide : 0 < 6) (Nat.le_of_eq rfl))) (.cons .int (.cons .int (.cons .sl (.cons .int (.cons .int .nil))))))
   ·have hd : vf size line b1 o = xA (yD b1 3 line) ⟨7, 0, line, noI, false, size, o.val, 0, 0⟩ := by unfold vf; rw [if_neg (fun h => h (by assumption)), if_neg (fun h => absurd (by assumption) h.1), if_pos ⟨by assumption, .inl (by rw [hz7]; omega)⟩]
    rw [hd] at i2 hit
    refine yW q b1 3 line [_] rfl rfl ?_
    (all_goals refine qgp (Lf.mk ?_))
    refine yB q (yD b1 3 line) ⟨7, 0, line, noI, false, size, o.val, 0, 0⟩ [_] (by rw [qo]; omega) rfl yM ?_
    (all_goals refine qgp (Lf.mk ?_))
    exact kw (k + 1, xA (yD b1 3 line) ⟨7, 0, line, noI, false, size, o.val, 0, 0⟩) [_] ⟨by show k + 1 ≤ _; omega, i2, by dsimp only; rw [hit]; omega⟩ (by dsimp only; omega) rfl (by rw [hE6]; exact Nat.le_refl 6) (xl _ _) ⟨rfl, rfl, rfl, rfl, rfl, rfl, trivial⟩
     (.cons (.loc (Nat.lt_of_lt_of_le (by decide : 0 < 6) (Nat.le_of_eq rfl))) (.cons .int (.cons .int (.cons .sl (.cons .int (.cons .int .nil))))))
   ·have hd : vf size line b1 o = xA (yD b1 3 line) ⟨7, 0, line, noI, false, size, o.val, 0, 0⟩ := by unfold vf; rw [if_neg (fun h => h (by assumption)), if_neg (fun h => absurd (by assumption) h.1), if_pos ⟨by assumption, .inr (by rw [hz8]; omega)⟩]
    rw [hd] at i2 hit
    refine yW q b1 3 line [_] rfl rfl ?_
    (all_goals refine qgp (Lf.mk ?_))
    refine yB q (yD b1 3 line) ⟨7, 0, line, noI, false, size, o.val, 0, 0⟩ [_] (by rw [qo]; omega) rfl yM ?_
    (all_goals refine qgp (Lf.mk ?_))
    exact kw (k + 1, xA (yD b1 3 line) ⟨7, 0, line, noI, false, size, o.val, 0, 0⟩) [_] ⟨by show k + 1 ≤ _; omega, i2, by dsimp only; rw [hit]; omega⟩ (by dsimp only; omega) rfl (by rw [hE6]; exact Nat.le_refl 6) (xl _ _) ⟨rfl, rfl, rfl, rfl, rfl, rfl, trivial⟩
     (.cons (.loc (Nat.lt_of_lt_of_le (by decide : 0 < 6) (Nat.le_of_eq rfl))) (.cons .int (.cons .int (.cons .sl (.cons .int (.cons .int .nil))))))
   ·have hd : vf size line b1 o = xA b1 ⟨7, 0, line, noI, false, size, o.val, 0, 0⟩ := by unfold vf; rw [if_neg (fun h => h (by assumption)), if_neg (fun h => absurd (by assumption) h.1), if_neg (fun h => by rw [hz7, hz8] at h; omega)]
    rw [hd] at i2 hit
    refine yB q b1 ⟨7, 0, line, noI, false, size, o.val, 0, 0⟩ [_] (by omega) rfl yM ?_
    (all_goals refine qgp (Lf.mk ?_))
    exact kw (k + 1, xA b1 ⟨7, 0, line, noI, false, size, o.val, 0, 0⟩) [_] ⟨by show k + 1 ≤ _; omega, i2, by dsimp only; rw [hit]; omega⟩ (by dsimp only; omega) rfl (by rw [hE6]; exact Nat.le_refl 6) (xl _ _) ⟨rfl, rfl, rfl, rfl, rfl, rfl, trivial⟩
     (.cons (.loc (Nat.lt_of_lt_of_le (by decide : 0 < 6) (Nat.le_of_eq rfl))) (.cons .int (.cons .int (.cons .sl (.cons .int (.cons .int .nil))))))
  ·have hk : k = l.length := by omega
   subst hk
   rw [List.drop_length] at i2
   exact zV [] rfl (by rw [hT]; exact i2) rfl (Nat.le_of_eq rfl) .tup0
theorem zt7 (a : List (List zr)) (c : List zr) : ∀ (i : Nat) d d', (a.map xd ++ [.sl 2 (c.map yH) (some 5)])[i]? = some d → ((a ++ [c]).map xd)[i]? = some d' → LeL d.cells d'.cells := by
 intro i d d' h1 h2
 rw [List.map_append] at h2
 rcases Nat.lt_or_ge i (a.map xd).length with h | h
 ·rw [List.getElem?_append_left h] at h1 h2
  rw [h1] at h2
  cases h2
  exact LeL.refl _
 ·rw [List.getElem?_append_right h] at h1 h2
  cases hi : i - (a.map xd).length with
  | zero =>
   rw [hi] at h1 h2
   cases h1
   cases h2
   exact .cons (.strip _ _ _) .nil
  | succ j => rw [hi] at h1; simp at h1
theorem zoO : za Tryz.prog zbe (ya (fun ((b, _, _) : Bld × Int × List zl) => b.items.length ≤ 1000000 ∧ b.shut.length ≤ 1000000) (fun (_, line, _) => [.loc 0 0, .int .i64 line])
  (fun (b, _, q) => bO q b) (fun _ => .tup []) fun (b, line, q) => bO q (vP b line)) := by
 refine zf zj Tryz.func38 rfl (by decide) ?_
 rintro ⟨⟨items, syms, marks, shut, has, cur, fe, fa⟩, line, q⟩ ⟨hl, hp⟩
 have hl : items.length ≤ 1000000 := hl
 have hp : shut.length ≤ 1000000 := hp
 refine ⟨Nat.le_refl _, by simp [Tryz.f38], fun E hE => ?_⟩
 cases has with
 | false =>
  have hlen : (zK ⟨items, syms, marks, shut, false, cur, fe, fa⟩).length = shut.length := by unfold zK; simp
  refine ze _ ?_
  (all_goals refine qgp ?_ <;> (repeat' first | exact trivial | intro hc | refine And.intro ?_ ?_) <;> refine Lf.mk ?_)
  exact zV (b' := ⟨items, syms, marks, shut, false, cur, fe, fa⟩) [] rfl rfl rfl (Nat.le_of_eq rfl) .tup0
 | true =>
  have hlen : (zK ⟨items, syms, marks, shut, true, cur, fe, fa⟩).length = shut.length + 1 := by unfold zK; simp
  refine ze _ ?_
  (all_goals refine qgp ?_ <;> (repeat' first | exact trivial | intro hc | refine And.intro ?_ ?_) <;> refine Lf.mk ?_)
  refine yB q ⟨items, syms, marks, shut, true, cur, fe, fa⟩ ⟨9, 0, line, noI, false, 0, noV, shut.length, 0⟩ [] hl rfl yM ?_
  (all_goals refine qgp (Lf.mk ?_))
  refine qT (by show (-9223372036854775808 : Int) ≤ (shut.length : Int) + 1; omega) (by show (shut.length : Int) + 1 ≤ 9223372036854775807; omega) ?_
  (all_goals refine qgp (Lf.mk ?_))
  refine zvt (k := 4) (e := 1) (ds := shut.map xd ++ [.sl 2 (cur.map yH) (some 5)]) ((shut ++ [cur]).map xd) rfl (by simp) (zt7 shut cur) ?_ (Nat.le_of_eq rfl)
  refine ztz (k := 5) (Nat.le_of_eq rfl) ?_ (Nat.le_of_eq rfl)
  refine xx rfl ?_
  show [Ob.cells _, _, _, _, _, _] = bO q ⟨items ++ [⟨9, 0, line, noI, false, 0, noV, shut.length, 0⟩], syms, marks, shut ++ [cur], false, [], fe, fa⟩
  unfold bO bC bT zdv zK xA
  simp
theorem zfT : za Tryz.prog kW (zz (fun ((l, _) : List zr × zr) => l.length ≤ 1000000000) (fun (l, x) => [.sl 2 (l.map yH) none, yH x]) fun (l, x) => .int .i64 (wv x l 0)) := by
 refine zf zj Tryz.func176 rfl (by decide) ?_
 rintro ⟨l, x⟩ hl
 have hl : l.length ≤ 1000000000 := hl
 refine ⟨Nat.le_refl _, by simp [Tryz.f176], fun E hE => ?_⟩
 refine ze _ ?_
 (all_goals refine qgo (Lf.mk ?_))
 refine y5 (α := Nat) (fun k => k ≤ l.length ∧ wv x l 0 = wv x (l.drop k) k)
  (fun k => [(7, .int .i64 l.length), (8, .int .i64 k), (0, .sl 2 (l.map yH) none), (3, .loc 0 0)])
  (fun _ => [.cells [.str x.name, .int .i64 x.n]]) (fun k => l.length - k) (fun _ => by rw [hE]; exact Nat.zero_le _) 0 ⟨Nat.zero_le _, by simp⟩ ?_ ?_
 ·exact yv rfl ⟨rfl, rfl, rfl, rfl, trivial⟩
 rintro k ⟨hk, hf⟩
 refine ze _ ?_
 (all_goals refine qgo ?_ <;> (repeat' first | exact trivial | intro hc | refine And.intro ?_ ?_) <;> refine Lf.mk ?_)
 ·obtain ⟨s, hsk⟩ := yj (l := l) (k := k) (by omega)
  have hkl : k < l.length := by omega
  have hget : l[k] = s := by rw [List.getElem?_eq_getElem hkl] at hsk; exact Option.some.inj hsk
  rw [List.drop_eq_getElem_cons hkl, hget, wv] at hf
  refine zk s (by omega) (by simpa using hsk) ?_
  (all_goals refine qgo (Lf.mk ?_))
  refine ztn [.str, .int .i64] (by kernel_rfl) rfl ?_
  cases hb : (x.name == s.name && (x.n == s.n && true)) with
  | true =>
   rw [Bool.and_true, Bool.and_eq_true, beq_iff_eq, beq_iff_eq] at hb
   rw [if_pos ⟨hb.1.symm, hb.2.symm⟩] at hf
   (all_goals refine qgo ?_ <;> (repeat' first | exact trivial | intro hc | refine And.intro ?_ ?_) <;> refine Lf.mk ?_)
   (any_goals (first | (exfalso; refine Bool.false_ne_true ?_; assumption) | (exfalso; refine Bool.false_ne_true (Eq.symm ?_); assumption) | (exfalso; refine absurd trivial ?_; assumption) | skip))
   exact zd (VS.mk (LeD.of_eq (congrArg (D.int .i64) hf.symm)))
  | false =>
   have hne : ¬ (s.name = x.name ∧ s.n = x.n) := fun h => by rw [h.1, h.2] at hb; simp at hb
   rw [if_neg hne] at hf
   (all_goals refine qgo ?_ <;> (repeat' first | exact trivial | intro hc | refine And.intro ?_ ?_) <;> refine Lf.mk ?_)
   (any_goals (first | (exfalso; refine Bool.false_ne_true ?_; assumption) | (exfalso; refine Bool.false_ne_true (Eq.symm ?_); assumption) | (exfalso; refine absurd trivial ?_; assumption) | skip))
   exact yP (k + 1) ⟨by omega, hf⟩ (by omega) rfl ⟨rfl, rfl, rfl, rfl, trivial⟩
 ·rw [List.drop_of_length_le (by omega), wv] at hf
  exact zd (VS.mk (LeD.of_eq (congrArg (D.int .i64) hf.symm)))
theorem zt8 {v : zr} {l : List zr} (h : ¬ wv v l 0 < 0) : w9 v l = wv v l 0 ∧ w8 v l = l := by unfold w9 w8; rw [if_neg h, if_neg h]; exact ⟨rfl, rfl⟩
theorem zt9 {v : zr} {l : List zr} (h : wv v l 0 < 0) : w9 v l = l.length ∧ w8 v l = l ++ [v] := by unfold w9 w8; rw [if_pos h, if_pos h]; exact ⟨rfl, rfl⟩
attribute [local irreducible] wv w9 w8
theorem zsp : za Tryz.prog qx (ya (fun ((b, _, _, _, _) : Bld × zr × Int × Int × List zl) => b.has = true ∧ b.items.length ≤ 1000000 ∧ b.shut.length ≤ 1000000 ∧ b.cur.length ≤ 1000000) (fun (_, v, reg, line, _) => [.loc 0 0, yH v, .int .i64 reg, .int .i64 line])
  (fun (b, _, _, _, q) => bO q b) (fun _ => .tup []) fun (b, v, reg, line, q) => bO q (kB b v reg line)) := by
 refine zf zj Tryz.func128 rfl (by decide) ?_
 rintro ⟨⟨items, syms, marks, shut, has, cur, fe, fa⟩, v, reg, line, q⟩ ⟨hh, hl, hp, hcu⟩
 have hh : has = true := hh
 subst hh
 have hl : items.length ≤ 1000000 := hl
 have hp : shut.length ≤ 1000000 := hp
 have hcu : cur.length ≤ 1000000 := hcu
 have hlen : (zK ⟨items, syms, marks, shut, true, cur, fe, fa⟩).length = shut.length + 1 := by unfold zK; simp
 refine ⟨Nat.le_refl _, by simp [Tryz.f128], fun E hE => ?_⟩
 refine ze _ ?_
 (all_goals refine qgp ?_ <;> (repeat' first | exact trivial | intro hc | refine And.intro ?_ ?_) <;> refine Lf.mk ?_)
 have hget : (zK ⟨items, syms, marks, shut, true, cur, fe, fa⟩)[shut.length]? = some (.sl 2 (cur.map yH) (some 5)) := by
  show (shut.map xd ++ [.sl 2 (cur.map yH) (some 5)])[shut.length]? = _
  simp
 refine wV (d := .sl 2 (cur.map yH) (some 5)) (Int.natCast_nonneg _) (by simpa using hget) ?_
 (all_goals refine qgp (Lf.mk ?_))
 refine zb zfT (cur, v) (by show cur.length ≤ _; omega) (VS.mk (LeL.of_eq rfl)) ?_
 by_cases hi : wv v cur 0 < 0
 ·obtain ⟨s1, s2⟩ := zt9 hi
  (all_goals refine qgk ?_ <;> (repeat' first | exact trivial | intro hc | refine And.intro ?_ ?_) <;> refine Lf.mk ?_)
  ·refine wV (d := .sl 2 (cur.map yH) (some 5)) (Int.natCast_nonneg _) (by simpa using hget) ?_
   (all_goals refine qgk (Lf.mk ?_))
   refine wV (d := .sl 2 (cur.map yH) (some 5)) (Int.natCast_nonneg _) (by simpa using hget) ?_
   (all_goals refine qgk (Lf.mk ?_))
   refine w4 ((cur ++ [v]).map yH) (by rw [List.map_append]; rfl) ?_
   rw [List.length_map]
   (all_goals refine qgk (Lf.mk ?_))
   refine wV (d := .sl 2 (cur.map yH) (some 5)) (Int.natCast_nonneg _) (by simpa using hget) ?_
   (all_goals refine qgp (Lf.mk ?_))
   have hset : (zK ⟨items, syms, marks, shut, true, cur, fe, fa⟩).set (0 + ((shut.length : Nat) : Int).toNat) (.sl 2 ((cur ++ [v]).map yH) (some 5)) = zK ⟨items, syms, marks, shut, true, cur ++ [v], fe, fa⟩ := by
    show (shut.map xd ++ [D.sl 2 (cur.map yH) (some 5)]).set _ _ = shut.map xd ++ [D.sl 2 ((cur ++ [v]).map yH) (some 5)]
    rw [Nat.zero_add, Int.toNat_natCast, List.set_append_right _ _ (by simp)]
    simp
   have hbC : bC q ⟨items, syms, marks, shut, true, cur, fe, fa⟩ = bC q ⟨items, syms, marks, shut, true, cur ++ [v], fe, fa⟩ := by
    unfold bC
    rw [hlen, show (zK ⟨items, syms, marks, shut, true, cur ++ [v], fe, fa⟩).length = shut.length + 1 by unfold zK; simp]
   refine yB q ⟨items, syms, marks, shut, true, cur ++ [v], fe, fa⟩ ⟨6, 0, line, ⟨24, reg, 0, 0⟩, false, 0, noV, shut.length, cur.length⟩ [.cells [.str v.name, .int .i64 v.n]] hl ?_ yM ?_
   ·show Ob.cells (bC q _) :: Ob.arr 13 (items.map xp) :: Ob.arr 2 (syms.map yJ) :: Ob.spare marks.length :: Ob.arr 1 (List.set _ _ _) :: Ob.spare (cur ++ [v]).length :: [Ob.cells [.str v.name, .int .i64 v.n]] = _
    rw [hbC]
    exact congrArg (fun x => Ob.cells (bC q ⟨items, syms, marks, shut, true, cur ++ [v], fe, fa⟩) :: [Ob.arr 13 (items.map xp), Ob.arr 2 (syms.map yJ), Ob.spare marks.length, Ob.arr 1 x, Ob.spare (cur ++ [v]).length, Ob.cells [.str v.name, .int .i64 v.n]]) hset
   (all_goals refine qgp (Lf.mk ?_))
   refine zV [_] rfl ?_ rfl (Nat.le_of_eq rfl) .tup0
   unfold kB
   rw [s1, s2]
  ·exact absurd hi hc
 ·obtain ⟨s1, s2⟩ := zt8 hi
  (all_goals refine qgp ?_ <;> (repeat' first | exact trivial | intro hc | refine And.intro ?_ ?_) <;> refine Lf.mk ?_)
  refine yB q ⟨items, syms, marks, shut, true, cur, fe, fa⟩ ⟨6, 0, line, ⟨24, reg, 0, 0⟩, false, 0, noV, shut.length, wv v cur 0⟩ [_] hl rfl yM ?_
  (all_goals refine qgp (Lf.mk ?_))
  refine zV [_] rfl ?_ rfl (Nat.le_of_eq rfl) .tup0
  unfold kB
  rw [s1, s2]
end Go.Proofs.YthmdddenbfbefaaGreatDoor
namespace Go.Proofs.YthmdddenbfbefaaGreatDoor
open Go Go.Plat
set_option linter.unusedVariables false
set_option linter.unusedSimpArgs false
set_option maxRecDepth 100000
set_option maxHeartbeats 2000000
attribute [local irreducible] AWP zC yg zJ zo yw z8 zH z1 z6 zt za zP yx zp z7 yt yu yi yk zw zx zy
def w64 (n : Int) : Int := IntKind.i64.wrap n
def upA (n of : Int) : Int := (n + of - 1) / of * of
def zdQ (pools : List (List zr)) (k : Int) : Int := ((pools[k.toNat]?).getD []).length
def y7 (pools : List (List zr)) (x : zn) (a : Int) : Int :=
 if x.kind = 2 ∧ x.long = true then 6 else if x.kind = 7 then x.size else if x.kind = 8 then upA a x.size - a else if x.kind = 9 then upA a 4 - a + 4 * zdQ pools x.pool else 2
def yn (pools : List (List zr)) : List zn → Int → List zn × Int
 | [], a => ([], a)
 | x :: l, a => ({ x with at_ := a } :: (yn pools l (a + y7 pools x a)).1, (yn pools l (a + y7 pools x a)).2)
def itA (items : List zn) (k : Int) : zn := (items[k.toNat]?).getD ⟨0, 0, 0, noI, false, 0, noV, 0, 0⟩
def j9 (items : List zn) (e m : Int) : Int := if m < items.length then (itA items m).at_ else e
def wx (items : List zn) (e : Int) : List zu → List Int → List zu
 | s :: ss, m :: ms => ⟨s.name, j9 items e m⟩ :: wx items e ss ms
 | ss, _ => ss
def xF {α : Type} (p : α → Bool) : List α → Nat → Int
 | [], _ => -1
 | x :: l, k => if p x = true then k else xF p l (k + 1)
def zfU (n : List UInt8) (l : List zu) (k : Nat) : Int := xF (fun s => s.name == n) l k
def zcu (syms : List zu) (k : Int) : zu := (syms[k.toNat]?).getD ⟨[], 0⟩
def zO (syms : List zu) (v : zr) : Int × Int :=
 if v.name = [] then (0, 8) else if zfU v.name syms 0 < 0 then (0, 6) else (w64 ((zcu syms (zfU v.name syms 0)).at_ + v.n), 0)
def zaa (op : Int) : Int := match y6 op with | some r => r.shape | none => 0
def jn (op a : Int) : Int := if op = 24 then a + 4 - (a + 4) % 4 else a + 4
def ofA (op : Int) : Int := if op = 24 then 4 else 2
def zcv (op a to : Int) : Int := w64 ((w64 (to - jn op a)).tdiv (ofA op))
def xK (op a to : Int) : Int × Int :=
 if (w64 (to - jn op a)).tmod (ofA op) ≠ 0 then (0, 11)
 else if zcv op a to < vr (zaa op) ∨ wd (zaa op) < zcv op a to then (zcv op a to, 3) else (zcv op a to, 0)
def xz (syms : List zu) (x : zn) : Bool := decide (x.kind = 2 ∧ x.long = false ∧ (zO syms x.val).2 = 0 ∧ (xK x.ins.op x.at_ (zO syms x.val).1).2 = 3)
def yQ (syms : List zu) (x : zn) : zn := if xz syms x = true then { x with long := true } else x
structure Lay where
 items : List zn
 syms : List zu
def yR (pools : List (List zr)) (marks : List Int) (s : Lay) : Lay × Int :=
 (⟨(yn pools s.items 0).1, wx (yn pools s.items 0).1 (yn pools s.items 0).2 s.syms marks⟩, (yn pools s.items 0).2)
def zcw (pools : List (List zr)) (marks : List Int) : Nat → Lay → Lay × Int
 | 0, s => (s, 0)
 | f + 1, s => if ((yR pools marks s).1.items.any (xz (yR pools marks s).1.syms)) = false ∨ 8000 < (yR pools marks s).2
   then (⟨(yR pools marks s).1.items.map (yQ (yR pools marks s).1.syms), (yR pools marks s).1.syms⟩, (yR pools marks s).2)
   else zcw pools marks f ⟨(yR pools marks s).1.items.map (yQ (yR pools marks s).1.syms), (yR pools marks s).1.syms⟩
def xH (l : List zn) : Nat := (l.filter fun x => decide (x.kind = 2 ∧ x.long = false)).length
def yK (pools : List (List zr)) (marks : List Int) (s : Lay) : Lay × Int := zcw pools marks (xH s.items + 1) s
structure Out where
 code : List UInt8
 rels : List zbD
 fe : Int
 fa : Int
def vQ (o : Out) (e line : Int) : Out := if o.fe = 0 then ⟨o.code, o.rels, e, line⟩ else o
def xE (o : Out) (i : Ins) (line : Int) : Out := if zU i = 0 then ⟨o.code ++ [yq (yI i / 256), yq (yI i)], o.rels, o.fe, o.fa⟩ else vQ o (zU i) line
def xL (o : Out) (i : Ins) (a to line : Int) : Out := if (xK i.op a to).2 = 0 then xE o ⟨i.op, i.n, i.m, (xK i.op a to).1⟩ line else vQ o (xK i.op a to).2 line
def qf (o : Out) (x : zn) (to : Int) : Out :=
 if x.long = false then xL o x.ins x.at_ to x.line else xE (xL (xE o ⟨w64 (35 - x.ins.op), 0, 0, 1⟩ x.line) ⟨19, 0, 0, 0⟩ (x.at_ + 2) to x.line) ⟨1, 0, 0, 0⟩ x.line
def zhM (syms : List zu) (at_ size : Int) (v : zr) : zbD := if (zO syms v).2 = 0 then ⟨at_, size, [], zg (zO syms v).1 32⟩ else ⟨at_, size, v.name, v.n⟩
def wg (syms : List zu) (o : Out) (v : zr) (size : Nat) : Out :=
 if v.name = [] then ⟨xv (o.code ++ List.replicate size 0) o.code.length size v.n, o.rels, o.fe, o.fa⟩
 else ⟨o.code ++ List.replicate size 0, o.rels ++ [zhM syms o.code.length size v], o.fe, o.fa⟩
def wy (o : Out) (to : Int) : Out := ⟨o.code ++ List.replicate (to - o.code.length).toNat 0, o.rels, o.fe, o.fa⟩
def znq (p : Int) (l : List zn) (k : Nat) : Int := xF (fun y => y.kind == 9 && y.pool == p) l k
def wT (pools : List (List zr)) (items : List zn) (syms : List zu) (o : Out) (x : zn) : Out :=
 if x.kind = 7 then (if x.at_ % x.size ≠ 0 then vQ o 11 x.line else wg syms o x.val x.size.toNat)
 else if x.kind = 8 then wy o (upA x.at_ x.size)
 else if x.kind = 9 then ((pools[x.pool.toNat]?).getD []).foldl (fun o v => wg syms o v 4) (wy o (upA x.at_ 4))
 else if x.at_ % 2 ≠ 0 then vQ o 11 x.line
 else if x.kind = 1 then xE o x.ins x.line
 else if x.kind = 6 then xL o x.ins x.at_ (upA (itA items (znq x.pool items 0)).at_ 4 + 4 * x.idx) x.line
 else if (zO syms x.val).2 ≠ 0 then vQ o (zO syms x.val).2 x.line
 else if x.kind = 2 then qf o x (zO syms x.val).1
 else xL o x.ins x.at_ (zO syms x.val).1 x.line
def vA (pools : List (List zr)) (items : List zn) (syms : List zu) (o : Out) : Out := items.foldl (fun o x => if o.fe = 0 then wT pools items syms o x else o) o
theorem zbT {α : Type} (p : α → Bool) : ∀ (l : List α) (k : Nat), xF p l k = -1 ∨ ∃ j : Nat, j < l.length ∧ xF p l k = ((k + j : Nat) : Int)
 | [], _ => .inl rfl
 | x :: l, k => by
  rw [xF]
  split
  ·exact .inr ⟨0, by simp, rfl⟩
  ·rcases zbT p l (k + 1) with h | ⟨j, h1, h2⟩
   ·exact .inl h
   ·exact .inr ⟨j + 1, by simp; omega, by rw [h2, Nat.add_right_comm, Nat.add_assoc]⟩
theorem zhN {av : List D} {L : List Ob} {KP : D → Prop} {KW : D → List Ob → Prop} (g : Nat) (caps : List D) (p : zu → Bool) (l : List zu) (c0 c1 : Ob) (R : List Ob) (hl : l.length ≤ 1000000000)
  (hL : L = c0 :: c1 :: .arr 2 (l.map yJ) :: R) (has : av = [.osl 2 2 l.length 0 l.length, .fn g caps])
  (hg : ∀ s ∈ l, ∀ (KP : D → Prop) (KW : D → List Ob → Prop), KW (.bool (p s)) L → zo Tryz.prog g (yJ s :: caps) L KP KW)
  (hK : KW (.int .i64 (xF p l 0)) L) : zo Tryz.prog vh av L KP KW := by
 subst has
 refine ql zj Tryz.func133 rfl (by decide) (.int .i64 (xF p l 0)) L (Nat.le_refl _) (by simp [Tryz.f133]) (fun E hE => ?_) hK
 have hE0 : E.L.length = L.length := by rw [hE]
 subst hL
 refine ze _ ?_
 (all_goals refine qgo (Lf.mk ?_))
 refine y5 (α := Nat) (fun k => k ≤ l.length ∧ xF p l 0 = xF p (l.drop k) k)
  (fun k => [(0, .osl 2 2 l.length 0 l.length), (1, .fn g caps), (7, .int .i64 l.length), (8, .int .i64 k)]) (fun _ => c0 :: c1 :: .arr 2 (l.map yJ) :: R) (fun k => l.length - k) (fun _ => by rw [hE0]; exact Nat.le_refl _) 0 ⟨Nat.zero_le _, by simp⟩ ?_ ?_
 ·exact yv rfl ⟨rfl, rfl, rfl, rfl, trivial⟩
 rintro k ⟨hk, hf⟩
 refine ze _ ?_
 (all_goals refine qgp ?_ <;> (repeat' first | exact trivial | intro hc | refine And.intro ?_ ?_) <;> refine Lf.mk ?_)
 ·obtain ⟨s, hsk⟩ := yj (l := l) (k := k) (by omega)
  have hkl : k < l.length := by omega
  have hget : l[k] = s := by rw [List.getElem?_eq_getElem hkl] at hsk; exact Option.some.inj hsk
  rw [List.drop_eq_getElem_cons hkl, hget, xF] at hf
  refine zk s (by omega) (by simpa using hsk) ?_
  (all_goals refine qgp (Lf.mk ?_))
  refine hg s (List.mem_of_getElem? hsk) _ _ ?_
  cases hb : p s with
  | true =>
   rw [hb, if_pos rfl] at hf
   (all_goals refine qgp ?_ <;> (repeat' first | exact trivial | intro hc | refine And.intro ?_ ?_) <;> refine Lf.mk ?_)
   (any_goals (first | (exfalso; refine Bool.false_ne_true ?_; assumption) | (exfalso; refine Bool.false_ne_true (Eq.symm ?_); assumption) | (exfalso; refine absurd trivial ?_; assumption) | skip))
   exact xx (by rw [hf]; rfl) rfl
  | false =>
   rw [hb, if_neg (by decide)] at hf
   (all_goals refine qgp ?_ <;> (repeat' first | exact trivial | intro hc | refine And.intro ?_ ?_) <;> refine Lf.mk ?_)
   (any_goals (first | (exfalso; refine Bool.false_ne_true ?_; assumption) | (exfalso; refine Bool.false_ne_true (Eq.symm ?_); assumption) | (exfalso; refine absurd trivial ?_; assumption) | skip))
   exact yP (k + 1) ⟨by omega, hf⟩ (by omega) rfl ⟨rfl, rfl, rfl, rfl, trivial⟩
 ·rw [List.drop_of_length_le (by omega), xF] at hf
  exact xx (by rw [hf]; rfl) rfl
theorem zsq {av : List D} {L : List Ob} {KP : D → Prop} {KW : D → List Ob → Prop} (g : Nat) (caps : List D) (p : zn → Bool) (l : List zn) (c0 : Ob) (R : List Ob) (hl : l.length ≤ 1000000000)
  (hL : L = c0 :: .arr 13 (l.map xp) :: R) (has : av = [.osl 13 1 l.length 0 l.length, .fn g caps])
  (hg : ∀ s ∈ l, ∀ (KP : D → Prop) (KW : D → List Ob → Prop), KW (.bool (p s)) L → zo Tryz.prog g (xp s :: caps) L KP KW)
  (hK : KW (.int .i64 (xF p l 0)) L) : zo Tryz.prog kx av L KP KW := by
 subst has
 refine ql zj Tryz.func76 rfl (by decide) (.int .i64 (xF p l 0)) L (Nat.le_refl _) (by simp [Tryz.f76]) (fun E hE => ?_) hK
 have hE0 : E.L.length = L.length := by rw [hE]
 subst hL
 refine ze _ ?_
 (all_goals refine qgo (Lf.mk ?_))
 refine y5 (α := Nat) (fun k => k ≤ l.length ∧ xF p l 0 = xF p (l.drop k) k)
  (fun k => [(0, .osl 13 1 l.length 0 l.length), (1, .fn g caps), (7, .int .i64 l.length), (8, .int .i64 k)]) (fun _ => c0 :: .arr 13 (l.map xp) :: R) (fun k => l.length - k) (fun _ => by rw [hE0]; exact Nat.le_refl _) 0 ⟨Nat.zero_le _, by simp⟩ ?_ ?_
 ·exact yv rfl ⟨rfl, rfl, rfl, rfl, trivial⟩
 rintro k ⟨hk, hf⟩
 refine ze _ ?_
 (all_goals refine qgp ?_ <;> (repeat' first | exact trivial | intro hc | refine And.intro ?_ ?_) <;> refine Lf.mk ?_)
 ·obtain ⟨s, hsk⟩ := yj (l := l) (k := k) (by omega)
  have hkl : k < l.length := by omega
  have hget : l[k] = s := by rw [List.getElem?_eq_getElem hkl] at hsk; exact Option.some.inj hsk
  rw [List.drop_eq_getElem_cons hkl, hget, xF] at hf
  refine zk s (by omega) (by simpa using hsk) ?_
  (all_goals refine qgp (Lf.mk ?_))
  refine hg s (List.mem_of_getElem? hsk) _ _ ?_
  cases hb : p s with
  | true =>
   rw [hb, if_pos rfl] at hf
   (all_goals refine qgp ?_ <;> (repeat' first | exact trivial | intro hc | refine And.intro ?_ ?_) <;> refine Lf.mk ?_)
   (any_goals (first | (exfalso; refine Bool.false_ne_true ?_; assumption) | (exfalso; refine Bool.false_ne_true (Eq.symm ?_); assumption) | (exfalso; refine absurd trivial ?_; assumption) | skip))
   exact xx (by rw [hf]; rfl) rfl
  | false =>
   rw [hb, if_neg (by decide)] at hf
   (all_goals refine qgp ?_ <;> (repeat' first | exact trivial | intro hc | refine And.intro ?_ ?_) <;> refine Lf.mk ?_)
   (any_goals (first | (exfalso; refine Bool.false_ne_true ?_; assumption) | (exfalso; refine Bool.false_ne_true (Eq.symm ?_); assumption) | (exfalso; refine absurd trivial ?_; assumption) | skip))
   exact yP (k + 1) ⟨by omega, hf⟩ (by omega) rfl ⟨rfl, rfl, rfl, rfl, trivial⟩
 ·rw [List.drop_of_length_le (by omega), xF] at hf
  exact xx (by rw [hf]; rfl) rfl
theorem zua {av : List D} {L : List Ob} {KP : D → Prop} {KW : D → List Ob → Prop} (g : Nat) (caps : List D) (p : zl → Bool) (l : List zl) (hl : l.length ≤ 1000000000)
  (has : av = [.sl 2 (l.map wj) none, .fn g caps])
  (hg : ∀ s ∈ l, ∀ (KP : D → Prop) (KW : D → List Ob → Prop), KW (.bool (p s)) L → zo Tryz.prog g (wj s :: caps) L KP KW)
  (hK : KW (.int .i64 (xF p l 0)) L) : zo Tryz.prog vj av L KP KW := by
 subst has
 refine ql zj Tryz.func174 rfl (by decide) (.int .i64 (xF p l 0)) L (Nat.le_refl _) (by simp [Tryz.f174]) (fun E hE => ?_) hK
 have hE0 : E.L.length = L.length := by rw [hE]
 refine ze _ ?_
 (all_goals refine qgo (Lf.mk ?_))
 refine y5 (α := Nat) (fun k => k ≤ l.length ∧ xF p l 0 = xF p (l.drop k) k)
  (fun k => [(0, .sl 2 (l.map wj) none), (1, .fn g caps), (7, .int .i64 l.length), (8, .int .i64 k)]) (fun _ => L) (fun k => l.length - k) (fun _ => by rw [hE0]; exact Nat.le_refl _) 0 ⟨Nat.zero_le _, by simp⟩ ?_ ?_
 ·exact yv rfl ⟨rfl, rfl, rfl, rfl, trivial⟩
 rintro k ⟨hk, hf⟩
 refine ze _ ?_
 (all_goals refine qgp ?_ <;> (repeat' first | exact trivial | intro hc | refine And.intro ?_ ?_) <;> refine Lf.mk ?_)
 ·obtain ⟨s, hsk⟩ := yj (l := l) (k := k) (by omega)
  have hkl : k < l.length := by omega
  have hget : l[k] = s := by rw [List.getElem?_eq_getElem hkl] at hsk; exact Option.some.inj hsk
  rw [List.drop_eq_getElem_cons hkl, hget, xF] at hf
  refine zk s (by omega) (by simpa using hsk) ?_
  (all_goals refine qgp (Lf.mk ?_))
  refine hg s (List.mem_of_getElem? hsk) _ _ ?_
  cases hb : p s with
  | true =>
   rw [hb, if_pos rfl] at hf
   (all_goals refine qgp ?_ <;> (repeat' first | exact trivial | intro hc | refine And.intro ?_ ?_) <;> refine Lf.mk ?_)
   (any_goals (first | (exfalso; refine Bool.false_ne_true ?_; assumption) | (exfalso; refine Bool.false_ne_true (Eq.symm ?_); assumption) | (exfalso; refine absurd trivial ?_; assumption) | skip))
   exact xx (by rw [hf]; rfl) rfl
  | false =>
   rw [hb, if_neg (by decide)] at hf
   (all_goals refine qgp ?_ <;> (repeat' first | exact trivial | intro hc | refine And.intro ?_ ?_) <;> refine Lf.mk ?_)
   (any_goals (first | (exfalso; refine Bool.false_ne_true ?_; assumption) | (exfalso; refine Bool.false_ne_true (Eq.symm ?_); assumption) | (exfalso; refine absurd trivial ?_; assumption) | skip))
   exact yP (k + 1) ⟨by omega, hf⟩ (by omega) rfl ⟨rfl, rfl, rfl, rfl, trivial⟩
 ·rw [List.drop_of_length_le (by omega), xF] at hf
  exact xx (by rw [hf]; rfl) rfl
theorem zjW {α : Type} (p : α → Bool) : ∀ (l : List α) (k : Nat), decide (0 ≤ xF p l k) = l.any p
 | [], _ => rfl
 | x :: l, k => by
  rw [xF, List.any_cons]
  cases h : p x with
  | true => rw [if_pos rfl]; simp
  | false => rw [if_neg (by decide), zjW p l (k + 1)]; simp
theorem zub {av : List D} {L : List Ob} {KP : D → Prop} {KW : D → List Ob → Prop} (g : Nat) (caps : List D) (p : zu → Bool) (l : List zu) (c0 c1 : Ob) (R : List Ob) (hl : l.length ≤ 1000000000)
  (hL : L = c0 :: c1 :: .arr 2 (l.map yJ) :: R) (has : av = [.osl 2 2 l.length 0 l.length, .fn g caps])
  (hg : ∀ s ∈ l, ∀ (KP : D → Prop) (KW : D → List Ob → Prop), KW (.bool (p s)) L → zo Tryz.prog g (yJ s :: caps) L KP KW)
  (hK : KW (.bool (l.any p)) L) : zo Tryz.prog q9 av L KP KW := by
 subst has
 refine ql zj Tryz.func122 rfl (by decide) (.bool (l.any p)) L (Nat.le_refl _) (by simp [Tryz.f122]) (fun E hE => ?_) hK
 have hE0 : E.L.length = L.length := by rw [hE]
 subst hL
 refine ze _ ?_
 (all_goals refine qgo (Lf.mk ?_))
 refine zhN g caps p l c0 c1 R hl rfl rfl hg ?_
 (all_goals refine qgo (Lf.mk ?_))
 exact xx (congrArg D.bool (zjW p l 0)) rfl
theorem zuc {av : List D} {L : List Ob} {KP : D → Prop} {KW : D → List Ob → Prop} (g : Nat) (caps : List D) (p : zl → Bool) (l : List zl) (hl : l.length ≤ 1000000000)
  (has : av = [.sl 2 (l.map wj) none, .fn g caps])
  (hg : ∀ s ∈ l, ∀ (KP : D → Prop) (KW : D → List Ob → Prop), KW (.bool (p s)) L → zo Tryz.prog g (wj s :: caps) L KP KW)
  (hK : KW (.bool (l.any p)) L) : zo Tryz.prog ka av L KP KW := by
 subst has
 refine ql zj Tryz.func124 rfl (by decide) (.bool (l.any p)) L (Nat.le_refl _) (by simp [Tryz.f124]) (fun E hE => ?_) hK
 have hE0 : E.L.length = L.length := by rw [hE]
 refine ze _ ?_
 (all_goals refine qgo (Lf.mk ?_))
 refine zua g caps p l hl rfl hg ?_
 (all_goals refine qgo (Lf.mk ?_))
 exact xx (congrArg D.bool (zjW p l 0)) rfl
attribute [local irreducible] Lib.itoa zh.kids zh.kind zh.n zh.name xw xb xk wv yr y0 xJ wR w9 zM w8
def bCk (q : List zl) (b : Bld) : List D := [.sl 2 (q.map wj) none, .osl 13 1 b.items.length 0 b.items.length, .osl 2 2 b.syms.length 0 b.syms.length, .sl 1 (b.marks.map (.int .i64)) (some 3),
 .osl 1 4 (b.shut.length + 1) 0 (b.shut.length + 1), .int .i64 b.shut.length, .nilsl, .nilsl, .nilsl, .int .i64 b.fe, .int .i64 b.fa]
def bOk (k : Nat) (q : List zl) (b : Bld) (X : List Ob) : List Ob :=
 [.cells (bCk q b), .arr 13 (b.items.map xp), .arr 2 (b.syms.map yJ), .spare b.marks.length, .arr 1 (b.shut.map xd ++ [.sl 2 (b.cur.map yH) (some k)]), .dead] ++ X ++ [.spare b.cur.length]
theorem zsr (q : List zl) (b : Bld) : ClL 5 (bC q b) :=
 .cons .sl (.cons (.osl (by decide)) (.cons (.osl (by decide)) (.cons (.tok (by decide)) (.cons (.osl (by decide)) (.cons .int (.cons .nilsl (.cons .nilsl (.cons .nilsl (.cons .int (.cons .int .nil))))))))))
theorem zc9 {m : Nat → Option Nat} {k k' : Nat} (hm : m k = some k') (a : List (List zr)) (c : List zr) : yf m (.arr 1 (a.map xd ++ [.sl 2 (c.map yH) (some k)])) (.arr 1 (a.map xd ++ [.sl 2 (c.map yH) (some k')])) := by
 refine ⟨_, rfl, by simp, fun i d d' h1 h2 => ?_⟩
 rcases Nat.lt_or_ge i (a.map xd).length with h | h
 ·rw [List.getElem?_append_left h] at h1 h2
  rw [h1] at h2
  cases h2
  obtain ⟨l, _, rfl⟩ := List.mem_map.1 (List.mem_of_getElem? h1)
  exact ⟨rfl, ClL.ren (n := 0) (.cons .sl .nil) fun k hk => absurd hk (Nat.not_lt_zero _)⟩
 ·rw [List.getElem?_append_right h] at h1 h2
  cases hi : i - (a.map xd).length with
  | zero =>
   rw [hi] at h1 h2
   cases h1
   cases h2
   refine ⟨rfl, rfl, fun i d d' g1 g2 => ?_⟩
   cases i with
   | zero =>
    cases g1
    cases g2
    have : zap m (.sl 2 (c.map yH) (some k)) (fun d' => d' = .sl 2 (c.map yH) (some k')) := by
     show zcK m 2 (c.map yH) (some k) (zaG m (c.map yH)) (fun d' => d' = .sl 2 (c.map yH) (some k'))
     unfold zcK
     simp [hm]
    obtain ⟨d', h3, rfl⟩ := w3 this
    exact h3
   | succ i => cases g1
  | succ j => rw [hi] at h1; simp at h1
theorem zss {av : List D} {KP : D → Prop} {KW : D → List Ob → Prop} {L : List Ob} (q : List zl) (items : List zn) (syms : List zu) (marks : List Int) (shut : List (List zr)) (cur : List zr) (fe fa : Int) (x : zn) (B : Ob) (hl : items.length ≤ 1000000)
  (hL : L = bOk 7 q ⟨items, syms, marks, shut, true, cur, fe, fa⟩ [B]) (has : LeL av [.loc 0 0, xp x]) (hK : KW (.tup []) (bOk 7 q ⟨items ++ [x], syms, marks, shut, true, cur, fe, fa⟩ [B])) : zo Tryz.prog kV av L KP KW := by
 refine zdJ has ?_
 subst hL
 have hp : (zK ⟨items, syms, marks, shut, true, cur, fe, fa⟩).length = shut.length + 1 := by unfold zK; simp
 have hk : bCk q ⟨items, syms, marks, shut, true, cur, fe, fa⟩ = bC q ⟨items, syms, marks, shut, true, cur, fe, fa⟩ := by unfold bCk bC; rw [hp]
 have hk' : bCk q ⟨items ++ [x], syms, marks, shut, true, cur, fe, fa⟩ = bC q ⟨items ++ [x], syms, marks, shut, true, cur, fe, fa⟩ := by unfold bCk bC; rw [show (zK ⟨items ++ [x], syms, marks, shut, true, cur, fe, fa⟩).length = shut.length + 1 from hp]
 refine zvu (.tup []) _ (fun w ρ vs hf hr => ?_) zeC.can hK
 have key : ∀ k, k < 5 → zD [0, 1, 2, 3, 4, 7] 0 k = some k := by decide
 have key' : ∀ k, k < 5 → vD [0, 1, 2, 3, 4, 7] k = some k := by decide
 refine jU zeC (ks := [0, 1, 2, 3, 4, 7]) (js := [0, 1, 2, 3, 4, 7]) (as1 := [.loc 0 0, xp x]) (L1 := bO q ⟨items, syms, marks, shut, true, cur, fe, fa⟩) (d1 := .tup []) (d := .tup []) (L := bOk 7 q ⟨items, syms, marks, shut, true, cur, fe, fa⟩ [B]) (L' := bOk 7 q ⟨items ++ [x], syms, marks, shut, true, cur, fe, fa⟩ [B]) (L1' := bO q ⟨items ++ [x], syms, marks, shut, true, cur, fe, fa⟩)
  rfl (by intro k hk; show k < 8; revert k; decide) (fun _ _ => rfl) (fun i j h => by simp at h) ?_ rfl (fun i o' ho => ?_) ⟨(⟨items, syms, marks, shut, true, cur, fe, fa⟩, x, q), hl, LeL.refl _, rfl, rfl, rfl⟩ ?_ (Nat.le_refl 6) rfl (fun k hk hn => ?_) (fun i k hi => ?_) (fun i o ho => ?_) hf hr
 ·exact ClL.ren (n := 1) (.cons (.loc (by decide)) (.cons (zno x) .nil)) fun k hk => key k (by omega)
 ·match i, ho with
  | 0, ho => cases ho; exact ⟨0, _, rfl, rfl, by rw [hk]; exact ClO.cells (zsr _ _) _ key⟩
  | 1, ho => cases ho; exact ⟨1, _, rfl, rfl, ClO.arr (kC _) _ key⟩
  | 2, ho => cases ho; exact ⟨2, _, rfl, rfl, ClO.arr (jK _) _ key⟩
  | 3, ho => cases ho; exact ⟨3, _, rfl, rfl, rfl⟩
  | 4, ho => cases ho; exact ⟨4, _, rfl, rfl, zc9 (k := 7) (k' := 5) (m := zD [0, 1, 2, 3, 4, 7] 0) rfl shut cur⟩
  | 5, ho => cases ho; exact ⟨7, _, rfl, rfl, rfl⟩
  | i + 6, ho => simp [bO, bT] at ho
 ·exact ClD.tup0 _ key'
 ·match k, hk, hn with
  | 0, _, hn => exact absurd (by decide) hn
  | 1, _, hn => exact absurd (by decide) hn
  | 2, _, hn => exact absurd (by decide) hn
  | 3, _, hn => exact absurd (by decide) hn
  | 4, _, hn => exact absurd (by decide) hn
  | 5, _, _ => rfl
  | 6, _, _ => rfl
  | 7, _, hn => exact absurd (by decide) hn
  | k + 8, hk, _ => exact absurd hk (by simp [bOk])
 ·match i, hi with
  | 0, hi => cases hi; exact ⟨_, _, rfl, rfl, by rw [hk']; exact ClO.cells (zsr _ _) _ key'⟩
  | 1, hi => cases hi; exact ⟨_, _, rfl, rfl, ClO.arr (kC _) _ key'⟩
  | 2, hi => cases hi; exact ⟨_, _, rfl, rfl, ClO.arr (jK _) _ key'⟩
  | 3, hi => cases hi; exact ⟨_, _, rfl, rfl, rfl⟩
  | 4, hi => cases hi; exact ⟨_, _, rfl, rfl, zc9 (k := 5) (k' := 7) (m := vD [0, 1, 2, 3, 4, 7]) rfl shut cur⟩
  | 5, hi => cases hi; exact ⟨_, _, rfl, rfl, rfl⟩
  | i + 6, hi => simp at hi
 ·simp [bO, bT] at ho
theorem zud : za Tryz.prog qx (ya (fun ((b, _, _, _, _) : Bld × zr × Int × Int × List zl) => b.has = false ∧ b.cur = [] ∧ b.items.length ≤ 1000000 ∧ b.shut.length ≤ 1000000) (fun (_, v, reg, line, _) => [.loc 0 0, yH v, .int .i64 reg, .int .i64 line])
  (fun (b, _, _, _, q) => bO q b) (fun _ => .tup []) fun (b, v, reg, line, q) => bOk 6 q (kB b v reg line) []) := by
 refine zf zj Tryz.func128 rfl (by decide) ?_
 rintro ⟨⟨items, syms, marks, shut, has, cur, fe, fa⟩, v, reg, line, q⟩ ⟨hh, hcu, hl, hp⟩
 have hh : has = false := hh
 subst hh
 have hcu : cur = [] := hcu
 subst hcu
 have hl : items.length ≤ 1000000 := hl
 have hp : shut.length ≤ 1000000 := hp
 have hlen : (zK ⟨items, syms, marks, shut, false, [], fe, fa⟩).length = shut.length := by unfold zK; simp
 refine ⟨by show 6 ≤ 7; decide, by simp [Tryz.f128], fun E hE => ?_⟩
 refine ze _ ?_
 (all_goals refine qgp ?_ <;> (repeat' first | exact trivial | intro hc | refine And.intro ?_ ?_) <;> refine Lf.mk ?_)
 have hget : (zK ⟨items, syms, marks, shut, false, [], fe, fa⟩ ++ [.nilsl])[shut.length]? = some .nilsl := by
  show (shut.map xd ++ [D.nilsl])[shut.length]? = _
  simp
 refine wV (d := .nilsl) (Int.natCast_nonneg _) (by simpa using hget) ?_
 (all_goals refine qgp (Lf.mk ?_))
 refine zb zfT ([], v) (by show (0 : Nat) ≤ _; decide) (VS.mk (.cons (.nil 2) (LeL.refl _))) ?_
 have hidx : wv v [] 0 = -1 := by rw [wv]
 have s1 : w9 v [] = 0 := by unfold w9; rw [hidx]; rfl
 have s2 : w8 v [] = [v] := by unfold w8; rw [hidx]; rfl
 dsimp only
 rw [hidx]
 (all_goals refine qgk ?_ <;> (repeat' first | exact trivial | intro hc | refine And.intro ?_ ?_) <;> refine Lf.mk ?_)
 ·refine wV (d := .nilsl) (Int.natCast_nonneg _) (by simpa using hget) ?_
  (all_goals refine qgk (Lf.mk ?_))
  refine wV (d := .nilsl) (Int.natCast_nonneg _) (by simpa using hget) ?_
  (all_goals refine qgk (Lf.mk ?_))
  refine w4 ([v].map yH) rfl ?_
  (all_goals refine qgk (Lf.mk ?_))
  refine wV (d := .nilsl) (Int.natCast_nonneg _) (by simpa using hget) ?_
  (all_goals refine qgp (Lf.mk ?_))
  have hset : (zK ⟨items, syms, marks, shut, false, [], fe, fa⟩ ++ [D.nilsl]).set (0 + ((shut.length : Nat) : Int).toNat) (.sl 2 ([v].map yH) (some 7)) = shut.map xd ++ [.sl 2 ([v].map yH) (some 7)] := by
   show (shut.map xd ++ [D.nilsl]).set _ _ = _
   rw [Nat.zero_add, Int.toNat_natCast, List.set_append_right _ _ (by simp)]
   simp
  have hlen2 : (zK ⟨items, syms, marks, shut, false, [], fe, fa⟩ ++ [D.nilsl]).length = shut.length + 1 := by rw [List.length_append, hlen]; rfl
  have e : ∀ (P : List D) (n : Nat), P = shut.map xd ++ [.sl 2 ([v].map yH) (some 7)] → n = shut.length + 1 → [Ob.cells [.sl 2 (q.map wj) none, .osl 13 1 items.length 0 items.length, .osl 2 2 syms.length 0 syms.length,
    .sl 1 (marks.map (.int .i64)) (some 3), .osl 1 4 n 0 n, .int .i64 shut.length, .nilsl, .nilsl, .nilsl, .int .i64 fe, .int .i64 fa], .arr 13 (items.map xp), .arr 2 (syms.map yJ), .spare marks.length, .arr 1 P, .dead,
    .cells [.str v.name, .int .i64 v.n], .spare 1] = bOk 7 q ⟨items, syms, marks, shut, true, [v], fe, fa⟩ [.cells [.str v.name, .int .i64 v.n]] := by
   rintro _ _ rfl rfl
   rfl
  refine zss q items syms marks shut [v] fe fa ⟨6, 0, line, ⟨24, reg, 0, 0⟩, false, 0, noV, shut.length, 0⟩ (.cells [.str v.name, .int .i64 v.n]) hl (e _ _ hset hlen2) yM ?_
  (all_goals refine qgp (Lf.mk ?_))
  have key' : ∀ k, k < 5 → zD [0, 1, 2, 3, 4, 5, 7] 0 k = some k := by decide
  have hlit : kB ⟨items, syms, marks, shut, false, [], fe, fa⟩ v reg line = ⟨items ++ [⟨6, 0, line, ⟨24, reg, 0, 0⟩, false, 0, noV, shut.length, 0⟩], syms, marks, shut, true, [v], fe, fa⟩ := by
   unfold kB xA
   rw [s1, s2]
  show zH _ _ _ _ (bOk 6 q (kB ⟨items, syms, marks, shut, false, [], fe, fa⟩ v reg line) [])
  rw [hlit]
  refine zfC [0, 1, 2, 3, 4, 5, 7] rfl rfl ?_ (ClD.tup0 (n := 5) _ key')
  refine .cons (o := .cells (bCk q ⟨items ++ [⟨6, 0, line, ⟨24, reg, 0, 0⟩, false, 0, noV, shut.length, 0⟩], syms, marks, shut, true, [v], fe, fa⟩)) rfl (ClO.cells (n := 5) ?_ _ key') (.cons (o := .arr 13 _) rfl (ClO.arr (n := 5) (kC _) _ key') (.cons (o := .arr 2 _) rfl (ClO.arr (n := 5) (jK _) _ key') (.cons (o := .spare _) rfl rfl
   (.cons (o := .arr 1 _) rfl (zc9 (k := 7) (k' := 6) rfl _ _) (.cons (o := .dead) rfl rfl (.cons (o := .spare _) rfl rfl .nil))))))
  exact .cons .sl (.cons (.osl (by decide)) (.cons (.osl (by decide)) (.cons (.tok (by decide)) (.cons (.osl (by decide)) (.cons .int (.cons .nilsl (.cons .nilsl (.cons .nilsl (.cons .int (.cons .int .nil))))))))))
 ·exact absurd (by decide) hc
theorem zue {l : List AOp} {k : Nat} {o : AOp} (h : l[k]? = some o) : wa (l.take (k + 1)) = wa (l.take k) ++ sgA o := by
 unfold wa
 rw [List.take_add_one, h]
 simp
theorem zxb {o : AOp} (h : o.sign.length ≤ 1) : (sgA o).length = 1 := by
 unfold sgA
 split
 ·rfl
 ·rename_i hn
  cases hs : o.sign with
  | nil => exact absurd hs hn
  | cons c r => rw [hs] at h; simp at h ⊢; exact h
theorem zgD : ∀ {l : List AOp}, (∀ o ∈ l, o.sign.length ≤ 1) → (wa l).length = l.length
 | [], _ => rfl
 | o :: l, h => by
  have h1 := zxb (h o List.mem_cons_self)
  have h2 := zgD (l := l) fun x hx => h x (List.mem_cons_of_mem _ hx)
  unfold wa at h2 ⊢
  rw [List.map_cons, List.flatten_cons, List.length_append, h1, h2, List.length_cons]
  omega
theorem znr : za Tryz.prog zmJ (zz (fun l : List AOp => l.length ≤ 1000000 ∧ ∀ o ∈ l, o.sign.length ≤ 1) (fun l => [.sl 4 (l.map qn) none]) fun l => .sl 1 ((yS (wa l)).map (.int .i64)) none) := by
 refine zf zj Tryz.func129 rfl (by decide) ?_
 rintro l ⟨hl, hs⟩
 refine ⟨Nat.le_refl _, by simp [Tryz.f129], fun E hE => ?_⟩
 refine ze _ ?_
 (all_goals refine qgo (Lf.mk ?_))
 refine yb (α := Nat) (fun k => k ≤ l.length) (fun k => [(6, .sl 4 (l.map qn) none), (7, .int .i64 l.length), (8, .int .i64 k), (3, .str (wa (l.take k)))]) (fun _ => []) (fun k => l.length - k) (fun _ => by simp [hE]) 0 (Nat.zero_le _) ?_ ?_
 ·(repeat' (first | (refine VS.mk ?_) | exact trivial | exact rfl | refine And.intro ?_ ?_))
 rintro k hk
 have hk : k ≤ l.length := hk
 have hlen : (wa (l.take k)).length ≤ 1000000 := by
  rw [zgD fun o ho => hs o (List.mem_of_mem_take ho), List.length_take]; omega
 refine ze _ ?_
 (all_goals refine qgo ?_ <;> (repeat' first | exact trivial | intro hc | refine And.intro ?_ ?_) <;> refine Lf.mk ?_)
 ·obtain ⟨o, ho⟩ := yj (l := l) (k := k) (by omega)
  have hstep := zue ho
  have hs1 := hs o (List.mem_of_getElem? ho)
  refine zk o (by omega) (by simpa using ho) ?_
  (all_goals refine qgo ?_ <;> (repeat' first | exact trivial | intro hc | refine And.intro ?_ ?_) <;> refine Lf.mk ?_)
  ·refine ziu (by simp only [List.length_cons, List.length_nil]; omega) ?_
   (all_goals refine qgo (Lf.mk ?_))
   refine zA (k + 1) (by show k + 1 ≤ _; omega) (by omega) ?_
   rw [hstep, show sgA o = [112] by unfold sgA; rw [if_pos hc]]
   (repeat' (first | (refine VS.mk ?_) | exact trivial | exact rfl | refine And.intro ?_ ?_))
  ·refine ziu (by omega) ?_
   (all_goals refine qgo (Lf.mk ?_))
   refine zA (k + 1) (by show k + 1 ≤ _; omega) (by omega) ?_
   rw [hstep, show sgA o = o.sign by unfold sgA; rw [if_neg hc]]
   (repeat' (first | (refine VS.mk ?_) | exact trivial | exact rfl | refine And.intro ?_ ?_))
 all_goals
  have hk2 : k = l.length := by omega
  clear hlen
  subst hk2
  simp only [List.take_length] at *
  refine zd (VS.mk ?_)
  unfold yS
  (repeat (first | (rw [if_pos (by assumption)]) | (rw [if_neg (by assumption)])))
  first
   | exact LeD.of_eq rfl
   | exact LeD.nil 1
def vH (q : List zl) (b b' : Bld) : List Ob := if b.has = false ∧ b'.has = true then bOk 6 q b' [] else bO q b'
theorem zns (q : List zl) (b b' : Bld) : 6 ≤ (vH q b b').length := by
 unfold vH
 split
 ·exact Nat.le_succ 6
 ·exact Nat.le_refl 6
theorem vz {q : List zl} {b b' : Bld} (h : b'.has = b.has) : vH q b b' = bO q b' := by
 unfold vH
 rw [if_neg fun e => by rw [h, e.1] at e; exact absurd e.2 (by decide)]
theorem zuf {q : List zl} {b b' : Bld} (h : b.has = true) : vH q b b' = bO q b' := by
 unfold vH
 rw [if_neg fun e => by rw [h] at e; exact absurd e.1 (by decide)]
theorem zeD {q : List zl} {b b' : Bld} (h : b.has = false) (h' : b'.has = true) : vH q b b' = bOk 6 q b' [] := by
 unfold vH
 rw [if_pos ⟨h, h'⟩]
theorem kD (b : Bld) (e line : Int) : (yD b e line).has = b.has := by unfold yD; split <;> rfl
structure InB (b : Bld) : Prop where
 cur : b.has = false → b.cur = []
 items : b.items.length ≤ 1000000
 shut : b.shut.length ≤ 1000000
 curl : b.cur.length ≤ 1000000
theorem zqN : za Tryz.prog qx (ya (fun ((b, _, _, _, _) : Bld × zr × Int × Int × List zl) => InB b) (fun (_, v, reg, line, _) => [.loc 0 0, yH v, .int .i64 reg, .int .i64 line])
  (fun (b, _, _, _, q) => bO q b) (fun _ => .tup []) fun (b, v, reg, line, q) => vH q b (kB b v reg line)) := by
 refine ztA zsp zud ?_
 rintro av L d L' ⟨⟨b, v, reg, line, q⟩, h, h1, h2, h3, h4⟩
 cases hb : b.has with
 | true => exact .inl ⟨(b, v, reg, line, q), ⟨hb, h.items, h.shut, h.curl⟩, h1, h2, h3, by rw [h4]; exact zuf hb⟩
 | false => exact .inr ⟨(b, v, reg, line, q), ⟨hb, h.cur hb, h.items, h.shut⟩, h1, h2, h3, by rw [h4]; exact zeD hb rfl⟩
theorem zpA (name : List UInt8) : ∀ (L : List Int) (p : Int × Int), xQ name L p = p ∨ (xQ name L p).2 ∈ L
 | [], p => .inl rfl
 | s :: L, p => by
  rw [xQ]
  rcases zpA name L (if 0 < w6 name s then (w6 name s, s) else p) with h | h
  ·rw [h]
   split
   ·exact .inr List.mem_cons_self
   ·exact .inl rfl
  ·exact .inr (List.mem_cons_of_mem _ h)
theorem zst (s : List UInt8) : ∀ x ∈ yS s, (x = 0 ∧ s.length = 0) ∨ ((x = 3 ∨ x = 4 ∨ x = 5 ∨ x = 6 ∨ x = 11) ∧ s.length = 1) ∨ ((x = 1 ∨ x = 2 ∨ x = 7 ∨ x = 8 ∨ x = 9 ∨ x = 10) ∧ s.length = 2) := by
 intro x hx
 unfold yS at hx
 repeat' split at hx
 all_goals first
  | (rename_i h; subst h; simp at hx; subst hx; decide)
  | (rename_i h; subst h; simp at hx; rcases hx with rfl | rfl <;> decide)
  | simp at hx
theorem zv5 {name : List UInt8} {l : List AOp} (h : ∀ o ∈ l, o.sign.length ≤ 1) {S : Int × Int} (hS : xQ name (yS (wa l)) (0, 0) = S) : (S.1 = 0 ∧ S.2 = 0) ∨ (S.2 = 0 ∧ l.length = 0) ∨ ((S.2 = 3 ∨ S.2 = 4 ∨ S.2 = 5 ∨ S.2 = 6 ∨ S.2 = 11) ∧ l.length = 1) ∨
  ((S.2 = 1 ∨ S.2 = 2 ∨ S.2 = 7 ∨ S.2 = 8 ∨ S.2 = 9 ∨ S.2 = 10) ∧ l.length = 2) := by
 subst hS
 rcases zpA name (yS (wa l)) (0, 0) with h1 | h1
 ·rw [h1]; exact .inl ⟨rfl, rfl⟩
 ·have := zst _ _ h1
  rw [zgD h] at this
  exact .inr this
theorem zsu {av : List D} {L : List Ob} {KP : D → Prop} {KW : D → List Ob → Prop} (name : List UInt8) (s : Int) (has : av = [.str name, .int .i64 s]) (hK : KP (.int .i64 (w6 name s))) : zo Tryz.prog ziL av L KP KW := by
 subst has
 exact zb zqF (name, s) trivial (VS.mk (LeL.of_eq rfl)) hK
attribute [local irreducible] w6 zU
def znt : List (D × D) := [(.int .i64 4, .int .i64 2), (.int .i64 5, .int .i64 3)]
theorem znu {s : Int} (h : s = 4) : qj (.int .i64 s) znt = some (.int .i64 2) := by subst h; rfl
theorem znv {s : Int} (h : s = 5) : qj (.int .i64 s) znt = some (.int .i64 3) := by subst h; rfl
def zjX : List (D × D) := [(.int .i64 5, .int .i64 3), (.int .i64 4, .int .i64 2)]
theorem zlt {s : Int} (h : s = 5) : qj (.int .i64 s) zjX = some (.int .i64 3) := by subst h; rfl
theorem zlu {s : Int} (h : s = 4) : qj (.int .i64 s) zjX = some (.int .i64 2) := by subst h; rfl
def znw : List (D × D) := [(.int .i64 7, .int .i64 4), (.int .i64 8, .int .i64 5)]
theorem znx {s : Int} (h : s = 7) : qj (.int .i64 s) znw = some (.int .i64 4) := by subst h; rfl
theorem zny {s : Int} (h : s = 8) : qj (.int .i64 s) znw = some (.int .i64 5) := by subst h; rfl
def zjY : List (D × D) := [(.int .i64 8, .int .i64 5), (.int .i64 7, .int .i64 4)]
theorem zlv {s : Int} (h : s = 8) : qj (.int .i64 s) zjY = some (.int .i64 5) := by subst h; rfl
theorem zlw {s : Int} (h : s = 7) : qj (.int .i64 s) zjY = some (.int .i64 4) := by subst h; rfl
theorem zxc {op sh line : Int} {l : List AOp} (h : sh = 1) : wY op sh l line = ⟨1, 0, line, ⟨op, (aop l 1).reg, 0, (aop l 0).val.n⟩, false, 0, (aop l 0).val, 0, 0⟩ := by subst h; rfl
theorem zxd {op sh line : Int} {l : List AOp} (h : sh = 2 ∨ sh = 9 ∨ sh = 10) : wY op sh l line = ⟨1, 0, line, ⟨op, (aop l 1).reg, (aop l 0).reg, 0⟩, false, 0, noV, 0, 0⟩ := by rcases h with rfl | rfl | rfl <;> rfl
theorem zxe {op sh line : Int} {l : List AOp} (h : sh = 3 ∨ sh = 6) : wY op sh l line = ⟨1, 0, line, ⟨op, (aop l 0).reg, 0, 0⟩, false, 0, noV, 0, 0⟩ := by rcases h with rfl | rfl <;> rfl
theorem zxf {op sh line : Int} {l : List AOp} (h : sh = 4) : wY op sh l line = ⟨2, 0, line, ⟨op, 0, 0, 0⟩, false, 0, (aop l 0).val, 0, 0⟩ := by subst h; rfl
theorem zxg {op sh line : Int} {l : List AOp} (h : sh = 5) : wY op sh l line = ⟨3, 0, line, ⟨op, 0, 0, 0⟩, false, 0, (aop l 0).val, 0, 0⟩ := by subst h; rfl
theorem zxh {op sh line : Int} {l : List AOp} (h : sh = 7) : wY op sh l line = ⟨4, 0, line, ⟨op, (aop l 1).reg, 0, 0⟩, false, 0, (aop l 0).val, 0, 0⟩ := by subst h; rfl
theorem zxi {op sh line : Int} {l : List AOp} (h : sh = 8) : wY op sh l line = ⟨5, 0, line, ⟨op, (aop l 1).reg, 0, 0⟩, false, 0, (aop l 0).val, 0, 0⟩ := by subst h; rfl
theorem zv6 {op sh line : Int} {l : List AOp} (h : sh = 11) : wY op sh l line = ⟨1, 0, line, ⟨op, 0, 0, (aop l 0).val.n⟩, false, 0, (aop l 0).val, 0, 0⟩ := by subst h; rfl
theorem zxj {op sh line : Int} {l : List AOp} (h : sh = 0) : wY op sh l line = ⟨1, 0, line, ⟨op, 0, 0, 0⟩, false, 0, noV, 0, 0⟩ := by subst h; rfl
theorem zqO (s : List UInt8) : (yS s).length ≤ 2 := by
 unfold yS
 repeat' split
 all_goals decide
theorem zg9 : za Tryz.prog zak (ya (fun ((b, _, l, _, _) : Bld × List UInt8 × List AOp × Int × List zl) => InB b ∧ l.length ≤ 1000000 ∧ ∀ o ∈ l, o.sign.length ≤ 1) (fun (_, name, l, line, _) => [.loc 0 0, .str name, .sl 4 (l.map qn) none, .int .i64 line])
  (fun (b, _, _, _, q) => bO q b) (fun _ => .tup []) fun (b, name, l, line, q) => vH q b (xy b name l line)) := by
 refine zf zj Tryz.func67 rfl (by decide) ?_
 rintro ⟨b, name, l, line, q⟩ ⟨hb, hl, hs⟩
 have hl : l.length ≤ 1000000 := hl
 have hs : ∀ o ∈ l, o.sign.length ≤ 1 := hs
 refine ⟨zns _ _ _, by simp [Tryz.f67], fun E hE => ?_⟩
 have hE6 : E.L.length = 6 := by rw [hE]; rfl
 have hget : ∀ k : Nat, k < l.length → l[k]? = some (aop l k) := fun k hk => by unfold aop; rw [List.getElem?_eq_getElem hk]; rfl
 refine zdK (α := Unit) (fun _ => ¬ (name = [109, 111, 118, 46, 108] ∧ l.length = 2 ∧ (aop l 0).sign = [61] ∧ (aop l 1).sign = [114]))
  (fun _ => [(0, .loc 0 0), (1, .str name), (2, .sl 4 (l.map qn) none), (3, .int .i64 line)]) (fun _ => bO q b) ?_ ?_
 ·refine ze _ ?_
  (all_goals refine qgp ?_ <;> (repeat' first | exact trivial | intro hc | refine And.intro ?_ ?_) <;> refine Lf.mk ?_)
  ·refine zk (aop l 0) (by decide) (hget 0 (by omega)) ?_
   (all_goals refine qgp ?_ <;> (repeat' first | exact trivial | intro hc | refine And.intro ?_ ?_) <;> refine Lf.mk ?_)
   ·refine zk (aop l 1) (by decide) (hget 1 (by omega)) ?_
    (all_goals refine qgp ?_ <;> (repeat' first | exact trivial | intro hc | refine And.intro ?_ ?_) <;> refine Lf.mk ?_)
    ·refine zk (aop l 0) (by decide) (hget 0 (by omega)) ?_
     (all_goals refine qgp (Lf.mk ?_))
     refine zk (aop l 1) (by decide) (hget 1 (by omega)) ?_
     (all_goals refine qgp (Lf.mk ?_))
     refine zmx zqN (b, (aop l 0).val, (aop l 1).reg, line, q) hb rfl (LeL.refl _) ?_
     (all_goals refine qgp (Lf.mk ?_))
     refine xx rfl ?_
     show vH q b _ = vH q b (xy b name l line)
     unfold xy
     rw [if_pos ⟨by assumption, by omega, by assumption, by assumption⟩]
    ·exact ⟨(), fun h => absurd h.2.2.2 hc, yv rfl ⟨rfl, rfl, rfl, rfl, trivial⟩⟩
   ·exact ⟨(), fun h => absurd h.2.2.1 hc, yv rfl ⟨rfl, rfl, rfl, rfl, trivial⟩⟩
  ·exact ⟨(), fun h => by have := h.2.1; omega, yv rfl ⟨rfl, rfl, rfl, rfl, trivial⟩⟩
  ·exact ⟨(), fun h => absurd h.1 hc, yv rfl ⟨rfl, rfl, rfl, rfl, trivial⟩⟩
 ·rintro _ hM
  have hgo : xy b name l line = if (xQ name (yS (wa l)) (0, 0)).1 = 0 then yD b 1 line else if ((xQ name (yS (wa l)) (0, 0)).2 = 1 ∨ (xQ name (yS (wa l)) (0, 0)).2 = 11) ∧ (aop l 0).val.name ≠ [] then yD b 8 line
    else if zU (wY (xQ name (yS (wa l)) (0, 0)).1 (xQ name (yS (wa l)) (0, 0)).2 l line).ins = 0 then xA b (wY (xQ name (yS (wa l)) (0, 0)).1 (xQ name (yS (wa l)) (0, 0)).2 l line)
    else yD b (zU (wY (xQ name (yS (wa l)) (0, 0)).1 (xQ name (yS (wa l)) (0, 0)).2 l line).ins) line := by
   unfold xy
   rw [if_neg hM]
  have hB : vH q b (xy b name l line) = bO q (xy b name l line) := by
   refine vz ?_
   rw [hgo]
   repeat' split
   all_goals first | rw [kD] | rfl
  show AWP _ _ _ _ (vS _ _ _ _ (vH q b (xy b name l line))) _ _
  rw [hB]
  generalize xy b name l line = B at *
  refine ze _ ?_
  (all_goals refine qgp (Lf.mk ?_))
  refine zb znr l ⟨hl, hs⟩ (VS.mk (LeL.of_eq rfl)) ?_
  have hlen := zgD hs
  have hS0 := zv5 hs (name := name) rfl
  have hTl := zqO (wa l)
  generalize hS : xQ name (yS (wa l)) (0, 0) = S at *
  generalize hT : yS (wa l) = T at *
  (all_goals refine qgp (Lf.mk ?_))
  refine y5 (α := Nat × Int × Int) (fun p => p.1 ≤ T.length ∧ xQ name (T.drop p.1) p.2 = S) (fun p => [(48, .sl 1 (T.map (.int .i64)) none), (49, .int .i64 T.length), (50, .int .i64 p.1), (8, .int .i64 p.2.1), (9, .int .i64 p.2.2), (0, .loc 0 0), (1, .str name), (2, .sl 4 (l.map qn) none), (3, .int .i64 line)])
   (fun _ => bO q b) (fun p => T.length - p.1) (fun _ => by rw [hE6]; exact Nat.le_refl 6) (0, 0, 0) ⟨Nat.zero_le _, hS⟩ ?_ ?_
  ·exact yv rfl ⟨rfl, rfl, rfl, rfl, rfl, rfl, rfl, rfl, rfl, trivial⟩
  rintro ⟨k, o, sh⟩ ⟨hk, hp⟩
  dsimp only at hk hp ⊢
  refine ze _ ?_
  (all_goals refine zx9 ?_ <;> (repeat' first | exact trivial | intro hc | refine And.intro ?_ ?_) <;> refine Lf.mk ?_)
  ·obtain ⟨x, hx⟩ := yj (l := T) (k := k) (by omega)
   have hkl : k < T.length := by omega
   have hgx : T[k] = x := by rw [List.getElem?_eq_getElem hkl] at hx; exact Option.some.inj hx
   rw [List.drop_eq_getElem_cons hkl, hgx, xQ] at hp
   refine zk x (by omega) (by simpa using hx) ?_
   (all_goals refine qgp (Lf.mk ?_))
   refine zsu name x rfl ?_
   (all_goals refine qgp ?_ <;> (repeat' first | exact trivial | intro hc | refine And.intro ?_ ?_) <;> refine Lf.mk ?_)
   ·rw [if_pos (by omega)] at hp
    exact yP (k + 1, w6 name x, x) ⟨by show k + 1 ≤ _; omega, hp⟩ (by dsimp only; omega) rfl ⟨rfl, rfl, rfl, rfl, rfl, rfl, rfl, rfl, rfl, trivial⟩
   ·rw [if_neg (by omega)] at hp
    exact yP (k + 1, o, sh) ⟨by show k + 1 ≤ _; omega, hp⟩ (by dsimp only; omega) rfl ⟨rfl, rfl, rfl, rfl, rfl, rfl, rfl, rfl, rfl, trivial⟩
  all_goals
   have hk2 : k = T.length := by omega
   rw [hk2, List.drop_length, xQ] at hp
   obtain ⟨rfl, rfl⟩ : o = S.1 ∧ sh = S.2 := by rw [← hp]; exact ⟨rfl, rfl⟩
  all_goals first
   | (have hS4 : S.2 = 4 ∨ S.2 = 5 := by omega
      refine zrE ?_; refine zmm zj mixed 1 2 [0, 2, 1, 3, 4, 5, 6, 7, 8, 9, 10, 11, 12, 13] [0, 2, 1, 3, 4, 5, 6, 7, 8, 9, 10, 11, 12, 13] rfl rfl rfl ?_ ?_)
   | (have hS7 : S.2 = 7 ∨ S.2 = 8 := by omega
      refine zrE ?_; refine zmm zj mixed 1 2 [0, 2, 1, 3, 4, 5, 6, 7, 8, 9, 10, 11, 12, 13, 14, 15, 16, 17, 18, 19, 20] [0, 2, 1, 3, 4, 5, 6, 7, 8, 9, 10, 11, 12, 13, 14, 15, 16, 17, 18, 19, 20] rfl rfl rfl ?_ ?_)
   | (refine zcQ ?_)
   | skip
  all_goals (try (all_goals refine qgo (Lf.mk ?_)))
  all_goals (try (refine jS (show _ = [(D.int .i64 4, D.int .i64 2)] from rfl) ?_; (all_goals refine qgo (Lf.mk ?_)); refine jS (show _ = znt from rfl) ?_; (all_goals refine qgo (Lf.mk ?_)); first | (refine kL (znu (show S.2 = 4 by omega)) ?_) | (refine kL (znv (show S.2 = 5 by omega)) ?_)))
  all_goals (try (refine jS (show _ = [(D.int .i64 5, D.int .i64 3)] from rfl) ?_; (all_goals refine qgo (Lf.mk ?_)); refine jS (show _ = zjX from rfl) ?_; (all_goals refine qgo (Lf.mk ?_)); first | (refine kL (zlt (show S.2 = 5 by omega)) ?_) | (refine kL (zlu (show S.2 = 4 by omega)) ?_)))
  all_goals (try (refine jS (show _ = [(D.int .i64 7, D.int .i64 4)] from rfl) ?_; (all_goals refine qgo (Lf.mk ?_)); refine jS (show _ = znw from rfl) ?_; (all_goals refine qgo (Lf.mk ?_)); first | (refine kL (znx (show S.2 = 7 by omega)) ?_) | (refine kL (zny (show S.2 = 8 by omega)) ?_)))
  all_goals (try (refine jS (show _ = [(D.int .i64 8, D.int .i64 5)] from rfl) ?_; (all_goals refine qgo (Lf.mk ?_)); refine jS (show _ = zjY from rfl) ?_; (all_goals refine qgo (Lf.mk ?_)); first | (refine kL (zlv (show S.2 = 8 by omega)) ?_) | (refine kL (zlw (show S.2 = 7 by omega)) ?_)))
  all_goals (try (all_goals refine qgo (Lf.mk ?_)))
  all_goals (try (refine zk (aop l 0) (by decide) (hget 0 (by omega)) ?_; (all_goals refine qgo ?_ <;> (repeat' first | exact trivial | intro hc | refine And.intro ?_ ?_) <;> refine Lf.mk ?_)))
  all_goals (try (exfalso; first | omega | exact absurd trivial (by assumption)))
  all_goals (try (refine zk (aop l 1) (by decide) (hget 1 (by omega)) ?_; (all_goals refine qgo ?_ <;> (repeat' first | exact trivial | intro hc | refine And.intro ?_ ?_) <;> refine Lf.mk ?_)))
  all_goals (try (exfalso; first | omega | exact absurd trivial (by assumption)))
  all_goals (try (refine zk (aop l 0) (by decide) (hget 0 (by omega)) ?_; (all_goals refine qgo ?_ <;> (repeat' first | exact trivial | intro hc | refine And.intro ?_ ?_) <;> refine Lf.mk ?_)))
  all_goals (try (exfalso; first | omega | exact absurd trivial (by assumption)))
  all_goals (try (refine zk (aop l 1) (by decide) (hget 1 (by omega)) ?_; (all_goals refine qgo ?_ <;> (repeat' first | exact trivial | intro hc | refine And.intro ?_ ?_) <;> refine Lf.mk ?_)))
  all_goals (try (exfalso; first | omega | exact absurd trivial (by assumption)))
  all_goals (try (refine yW q b 1 line [] rfl rfl ?_; (all_goals refine qgp (Lf.mk ?_)); exact zV [] rfl (by rw [hgo, if_pos (by assumption)]) rfl (Nat.le_of_eq rfl) .tup0))
  all_goals first
   | (have hd := zxc (op := S.1) (line := line) (l := l) (show S.2 = 1 by omega); rw [hd] at hgo; clear hd; rw [if_neg (by omega)] at hgo)
   | (have hd := zxd (op := S.1) (line := line) (l := l) (show S.2 = 2 ∨ S.2 = 9 ∨ S.2 = 10 by omega); rw [hd] at hgo; clear hd; rw [if_neg (by omega)] at hgo)
   | (have hd := zxe (op := S.1) (line := line) (l := l) (show S.2 = 3 ∨ S.2 = 6 by omega); rw [hd] at hgo; clear hd; rw [if_neg (by omega)] at hgo)
   | (have hd := zxf (op := S.1) (line := line) (l := l) (show S.2 = 4 by omega); rw [hd] at hgo; clear hd; rw [if_neg (by omega)] at hgo)
   | (have hd := zxg (op := S.1) (line := line) (l := l) (show S.2 = 5 by omega); rw [hd] at hgo; clear hd; rw [if_neg (by omega)] at hgo)
   | (have hd := zxh (op := S.1) (line := line) (l := l) (show S.2 = 7 by omega); rw [hd] at hgo; clear hd; rw [if_neg (by omega)] at hgo)
   | (have hd := zxi (op := S.1) (line := line) (l := l) (show S.2 = 8 by omega); rw [hd] at hgo; clear hd; rw [if_neg (by omega)] at hgo)
   | (have hd := zv6 (op := S.1) (line := line) (l := l) (show S.2 = 11 by omega); rw [hd] at hgo; clear hd; rw [if_neg (by omega)] at hgo)
   | (have hd := zxj (op := S.1) (line := line) (l := l) (show S.2 = 0 by omega); rw [hd] at hgo; clear hd; rw [if_neg (by omega)] at hgo)
  all_goals (try (refine yW q b 8 line [_] rfl rfl ?_; (all_goals refine qgp (Lf.mk ?_)); exact zV [_] rfl (by rw [hgo, if_pos ⟨by omega, by assumption⟩]) rfl (Nat.le_of_eq rfl) .tup0))
  all_goals rw [if_neg (fun h => by first | exact absurd (by assumption) h.2 | omega)] at hgo
  all_goals first
   | (refine zb vG ⟨S.1, (aop l 1).reg, 0, (aop l 0).val.n⟩ trivial (VS.mk (LeL.of_eq rfl)) ?_)
   | (refine zb vG ⟨S.1, (aop l 1).reg, (aop l 0).reg, 0⟩ trivial (VS.mk (LeL.of_eq rfl)) ?_)
   | (refine zb vG ⟨S.1, (aop l 0).reg, 0, 0⟩ trivial (VS.mk (LeL.of_eq rfl)) ?_)
   | (refine zb vG ⟨S.1, 0, 0, 0⟩ trivial (VS.mk (LeL.of_eq rfl)) ?_)
   | (refine zb vG ⟨S.1, (aop l 1).reg, 0, 0⟩ trivial (VS.mk (LeL.of_eq rfl)) ?_)
   | (refine zb vG ⟨S.1, 0, 0, (aop l 0).val.n⟩ trivial (VS.mk (LeL.of_eq rfl)) ?_)
  all_goals (all_goals refine qgp ?_ <;> (repeat' first | exact trivial | intro hc | refine And.intro ?_ ?_) <;> refine Lf.mk ?_)
  all_goals first
   | (refine yW q b _ line [_] rfl rfl ?_; (all_goals refine qgp (Lf.mk ?_)); exact zV [_] rfl (by rw [hgo, if_neg (by assumption)]) rfl (Nat.le_of_eq rfl) .tup0)
   | (refine yB q b ⟨1, 0, line, ⟨S.1, (aop l 1).reg, 0, (aop l 0).val.n⟩, false, 0, (aop l 0).val, 0, 0⟩ [_] hb.items rfl yM ?_; (all_goals refine qgp (Lf.mk ?_)); exact zV [_] rfl (by rw [hgo, if_pos (by assumption)]) rfl (Nat.le_of_eq rfl) .tup0)
   | (refine yB q b ⟨1, 0, line, ⟨S.1, (aop l 1).reg, (aop l 0).reg, 0⟩, false, 0, noV, 0, 0⟩ [_] hb.items rfl yM ?_; (all_goals refine qgp (Lf.mk ?_)); exact zV [_] rfl (by rw [hgo, if_pos (by assumption)]) rfl (Nat.le_of_eq rfl) .tup0)
   | (refine yB q b ⟨1, 0, line, ⟨S.1, (aop l 0).reg, 0, 0⟩, false, 0, noV, 0, 0⟩ [_] hb.items rfl yM ?_; (all_goals refine qgp (Lf.mk ?_)); exact zV [_] rfl (by rw [hgo, if_pos (by assumption)]) rfl (Nat.le_of_eq rfl) .tup0)
   | (refine yB q b ⟨2, 0, line, ⟨S.1, 0, 0, 0⟩, false, 0, (aop l 0).val, 0, 0⟩ [_] hb.items rfl yM ?_; (all_goals refine qgp ?_ <;> (repeat' first | exact trivial | intro hc | refine And.intro ?_ ?_) <;> refine Lf.mk ?_); exact zV [_] rfl (by rw [hgo, if_pos (by assumption)]) rfl (Nat.le_of_eq rfl) .tup0)
   | (refine yB q b ⟨3, 0, line, ⟨S.1, 0, 0, 0⟩, false, 0, (aop l 0).val, 0, 0⟩ [_] hb.items rfl yM ?_; (all_goals refine qgp ?_ <;> (repeat' first | exact trivial | intro hc | refine And.intro ?_ ?_) <;> refine Lf.mk ?_); exact zV [_] rfl (by rw [hgo, if_pos (by assumption)]) rfl (Nat.le_of_eq rfl) .tup0)
   | (refine yB q b ⟨4, 0, line, ⟨S.1, (aop l 1).reg, 0, 0⟩, false, 0, (aop l 0).val, 0, 0⟩ [_] hb.items rfl yM ?_; (all_goals refine qgp ?_ <;> (repeat' first | exact trivial | intro hc | refine And.intro ?_ ?_) <;> refine Lf.mk ?_); exact zV [_] rfl (by rw [hgo, if_pos (by assumption)]) rfl (Nat.le_of_eq rfl) .tup0)
   | (refine yB q b ⟨5, 0, line, ⟨S.1, (aop l 1).reg, 0, 0⟩, false, 0, (aop l 0).val, 0, 0⟩ [_] hb.items rfl yM ?_; (all_goals refine qgp ?_ <;> (repeat' first | exact trivial | intro hc | refine And.intro ?_ ?_) <;> refine Lf.mk ?_); exact zV [_] rfl (by rw [hgo, if_pos (by assumption)]) rfl (Nat.le_of_eq rfl) .tup0)
   | (refine yB q b ⟨1, 0, line, ⟨S.1, 0, 0, (aop l 0).val.n⟩, false, 0, (aop l 0).val, 0, 0⟩ [_] hb.items rfl yM ?_; (all_goals refine qgp (Lf.mk ?_)); exact zV [_] rfl (by rw [hgo, if_pos (by assumption)]) rfl (Nat.le_of_eq rfl) .tup0)
   | (refine yB q b ⟨1, 0, line, ⟨S.1, 0, 0, 0⟩, false, 0, noV, 0, 0⟩ [_] hb.items rfl yM ?_; (all_goals refine qgp (Lf.mk ?_)); exact zV [_] rfl (by rw [hgo, if_pos (by assumption)]) rfl (Nat.le_of_eq rfl) .tup0)
   | (refine yW q b _ line [_, _] rfl rfl ?_; (all_goals refine qgp (Lf.mk ?_)); exact zV [_, _] rfl (by rw [hgo, if_neg (by assumption)]) rfl (Nat.le_of_eq rfl) .tup0)
   | (refine yB q b ⟨1, 0, line, ⟨S.1, (aop l 1).reg, 0, (aop l 0).val.n⟩, false, 0, (aop l 0).val, 0, 0⟩ [_, _] hb.items rfl yM ?_; (all_goals refine qgp ?_ <;> (repeat' first | exact trivial | intro hc | refine And.intro ?_ ?_) <;> refine Lf.mk ?_); exact zV [_, _] rfl (by rw [hgo, if_pos (by assumption)]) rfl (Nat.le_of_eq rfl) .tup0)
   | (refine yB q b ⟨1, 0, line, ⟨S.1, (aop l 1).reg, (aop l 0).reg, 0⟩, false, 0, noV, 0, 0⟩ [_, _] hb.items rfl yM ?_; (all_goals refine qgp ?_ <;> (repeat' first | exact trivial | intro hc | refine And.intro ?_ ?_) <;> refine Lf.mk ?_); exact zV [_, _] rfl (by rw [hgo, if_pos (by assumption)]) rfl (Nat.le_of_eq rfl) .tup0)
   | (refine yB q b ⟨1, 0, line, ⟨S.1, (aop l 0).reg, 0, 0⟩, false, 0, noV, 0, 0⟩ [_, _] hb.items rfl yM ?_; (all_goals refine qgp ?_ <;> (repeat' first | exact trivial | intro hc | refine And.intro ?_ ?_) <;> refine Lf.mk ?_); exact zV [_, _] rfl (by rw [hgo, if_pos (by assumption)]) rfl (Nat.le_of_eq rfl) .tup0)
   | (refine yB q b ⟨2, 0, line, ⟨S.1, 0, 0, 0⟩, false, 0, (aop l 0).val, 0, 0⟩ [_, _] hb.items rfl yM ?_; (all_goals refine qgp (Lf.mk ?_)); exact zV [_, _] rfl (by rw [hgo, if_pos (by assumption)]) rfl (Nat.le_of_eq rfl) .tup0)
   | (refine yB q b ⟨3, 0, line, ⟨S.1, 0, 0, 0⟩, false, 0, (aop l 0).val, 0, 0⟩ [_, _] hb.items rfl yM ?_; (all_goals refine qgp (Lf.mk ?_)); exact zV [_, _] rfl (by rw [hgo, if_pos (by assumption)]) rfl (Nat.le_of_eq rfl) .tup0)
   | (refine yB q b ⟨4, 0, line, ⟨S.1, (aop l 1).reg, 0, 0⟩, false, 0, (aop l 0).val, 0, 0⟩ [_, _] hb.items rfl yM ?_; (all_goals refine qgp (Lf.mk ?_)); exact zV [_, _] rfl (by rw [hgo, if_pos (by assumption)]) rfl (Nat.le_of_eq rfl) .tup0)
   | (refine yB q b ⟨5, 0, line, ⟨S.1, (aop l 1).reg, 0, 0⟩, false, 0, (aop l 0).val, 0, 0⟩ [_, _] hb.items rfl yM ?_; (all_goals refine qgp (Lf.mk ?_)); exact zV [_, _] rfl (by rw [hgo, if_pos (by assumption)]) rfl (Nat.le_of_eq rfl) .tup0)
   | (refine yB q b ⟨1, 0, line, ⟨S.1, 0, 0, (aop l 0).val.n⟩, false, 0, (aop l 0).val, 0, 0⟩ [_, _] hb.items rfl yM ?_; (all_goals refine qgp ?_ <;> (repeat' first | exact trivial | intro hc | refine And.intro ?_ ?_) <;> refine Lf.mk ?_); exact zV [_, _] rfl (by rw [hgo, if_pos (by assumption)]) rfl (Nat.le_of_eq rfl) .tup0)
   | (refine yB q b ⟨1, 0, line, ⟨S.1, 0, 0, 0⟩, false, 0, noV, 0, 0⟩ [_, _] hb.items rfl yM ?_; (all_goals refine qgp ?_ <;> (repeat' first | exact trivial | intro hc | refine And.intro ?_ ?_) <;> refine Lf.mk ?_); exact zV [_, _] rfl (by rw [hgo, if_pos (by assumption)]) rfl (Nat.le_of_eq rfl) .tup0)
attribute [local irreducible] yL
theorem znz : za Tryz.prog jF (ya (fun _ : zu × yG => True) (fun (s, _) => [yJ s, .loc 0 0]) (fun (_, t) => [.cells [.int .i64 t.kind, .int .i64 t.n, .str t.text]]) (fun (s, t) => .bool (s.name == t.text))
  fun (_, t) => [.cells [.int .i64 t.kind, .int .i64 t.n, .str t.text]]) := by
 refine zf zj Tryz.func123 rfl (by decide) ?_
 rintro ⟨s, t⟩ _
 refine ⟨Nat.le_refl _, by simp [Tryz.f123], fun E hE => ?_⟩
 refine ze _ ?_
 (all_goals refine qgo (Lf.mk ?_))
 exact qZ [.cells [.int .i64 t.kind, .int .i64 t.n, .str t.text]] [_] rfl (Nat.le_refl 1) .bool (by intro o ho; rw [List.mem_singleton] at ho; subst ho; exact .cells (.cons .int (.cons .int (.cons .str .nil))))
theorem znA : za Tryz.prog jG (ya (fun _ : zl × yG => True) (fun (s, _) => [wj s, .loc 0 0]) (fun (_, t) => [.cells [.int .i64 t.kind, .int .i64 t.n, .str t.text]]) (fun (s, t) => .bool (s.name == t.text))
  fun (_, t) => [.cells [.int .i64 t.kind, .int .i64 t.n, .str t.text]]) := by
 refine zf zj Tryz.func125 rfl (by decide) ?_
 rintro ⟨s, t⟩ _
 refine ⟨Nat.le_refl _, by simp [Tryz.f125], fun E hE => ?_⟩
 refine ze _ ?_
 (all_goals refine qgo (Lf.mk ?_))
 exact qZ [.cells [.int .i64 t.kind, .int .i64 t.n, .str t.text]] [_] rfl (Nat.le_refl 1) .bool (by intro o ho; rw [List.mem_singleton] at ho; subst ho; exact .cells (.cons .int (.cons .int (.cons .str .nil))))
def xU (q : List zl) (b : Bld) (t : yG) (line : Int) : Bld :=
 if yL t.text = false ∨ 0 ≤ wR t ∨ b.syms.any (fun s => s.name == t.text) = true ∨ q.any (fun s => s.name == t.text) = true then yD b 7 line else { b with syms := b.syms ++ [⟨t.text, 0⟩], marks := b.marks ++ [(b.items.length : Int)] }
theorem zoP : za Tryz.prog zai (ya (fun ((b, t, _, q) : Bld × yG × Int × List zl) => b.items.length ≤ 1000000 ∧ b.syms.length ≤ 1000000 ∧ b.marks.length ≤ 1000000 ∧ q.length ≤ 1000000 ∧ t.text.length ≤ 1000000000) (fun (_, t, line, _) => [.loc 0 0, wI t, .int .i64 line])
  (fun (b, _, _, q) => bO q b) (fun _ => .tup []) fun (b, t, line, q) => bO q (xU q b t line)) := by
 refine zf zj Tryz.func62 rfl (by decide) ?_
 rintro ⟨b, t, line, q⟩ ⟨h1, h2, h3, h4, h5⟩
 have h1 : b.items.length ≤ 1000000 := h1
 have h2 : b.syms.length ≤ 1000000 := h2
 have h3 : b.marks.length ≤ 1000000 := h3
 have h4 : q.length ≤ 1000000 := h4
 have h5 : t.text.length ≤ 1000000000 := h5
 refine ⟨Nat.le_refl _, by simp [Tryz.f62], fun E hE => ?_⟩
 show AWP _ _ _ _ (vS _ _ _ _ (bO q (xU q b t line))) _ (bO q b)
 have hdef : xU q b t line = if yL t.text = false ∨ 0 ≤ wR t ∨ b.syms.any (fun s => s.name == t.text) = true ∨ q.any (fun s => s.name == t.text) = true then yD b 7 line else { b with syms := b.syms ++ [⟨t.text, 0⟩], marks := b.marks ++ [(b.items.length : Int)] } := rfl
 generalize xU q b t line = B at *
 refine ze _ ?_
 (all_goals refine qgp (Lf.mk ?_))
 refine zb zen t.text h5 (VS.mk (LeL.of_eq rfl)) ?_
 (all_goals refine qgp ?_ <;> (repeat' first | exact trivial | intro hc | refine And.intro ?_ ?_) <;> refine Lf.mk ?_)
 ·refine yW q b 7 line [_] rfl rfl ?_
  (all_goals refine qgp (Lf.mk ?_))
  exact zV [_] rfl (by rw [hdef, if_pos (.inl (by simpa using hc))]) rfl (Nat.le_of_eq rfl) .tup0
 refine zb zaA t h5 (VS.mk (LeL.of_eq rfl)) ?_
 (all_goals refine qgp ?_ <;> (repeat' first | exact trivial | intro hc | refine And.intro ?_ ?_) <;> refine Lf.mk ?_)
 ·refine yW q b 7 line [_] rfl rfl ?_
  (all_goals refine qgp (Lf.mk ?_))
  exact zV [_] rfl (by rw [hdef, if_pos (.inr (.inl hc))]) rfl (Nat.le_of_eq rfl) .tup0
 refine zub jF [.loc 6 0] (fun s => s.name == t.text) b.syms (.cells (bC q b)) (.arr 13 (b.items.map xp)) [.spare b.marks.length, .arr 1 (zK b), zdv b, .cells [.int .i64 t.kind, .int .i64 t.n, .str t.text]] (by omega) rfl rfl
  (fun s hs KP KW hK => ?_) ?_
 ·exact zY znz [6] [6] (s, t) trivial rfl rfl ⟨VS.mk (LeL.refl _), VS.mk rfl, hK⟩
 cases hs : b.syms.any (fun s => s.name == t.text) with
 | true =>
  (all_goals refine qgp ?_ <;> (repeat' first | exact trivial | intro hc | refine And.intro ?_ ?_) <;> refine Lf.mk ?_)
  (any_goals (first | (exfalso; refine Bool.false_ne_true ?_; assumption) | (exfalso; refine Bool.false_ne_true (Eq.symm ?_); assumption) | (exfalso; refine absurd trivial ?_; assumption) | skip))
  refine yW q b 7 line [_] rfl rfl ?_
  (all_goals refine qgp (Lf.mk ?_))
  exact zV [_] rfl (by rw [hdef, if_pos (.inr (.inr (.inl hs)))]) rfl (Nat.le_of_eq rfl) .tup0
 | false =>
  (all_goals refine qgp ?_ <;> (repeat' first | exact trivial | intro hc | refine And.intro ?_ ?_) <;> refine Lf.mk ?_)
  (any_goals (first | (exfalso; refine Bool.false_ne_true ?_; assumption) | (exfalso; refine Bool.false_ne_true (Eq.symm ?_); assumption) | (exfalso; refine absurd trivial ?_; assumption) | skip))
  refine zuc jG [.loc 6 0] (fun s => s.name == t.text) q (by omega) rfl (fun s hs KP KW hK => ?_) ?_
  ·exact zY znA [6] [6] (s, t) trivial rfl rfl ⟨VS.mk (LeL.refl _), VS.mk rfl, hK⟩
  cases hq : q.any (fun s => s.name == t.text) with
  | true =>
   (all_goals refine qgp ?_ <;> (repeat' first | exact trivial | intro hc | refine And.intro ?_ ?_) <;> refine Lf.mk ?_)
   (any_goals (first | (exfalso; refine Bool.false_ne_true ?_; assumption) | (exfalso; refine Bool.false_ne_true (Eq.symm ?_); assumption) | (exfalso; refine absurd trivial ?_; assumption) | skip))
   refine yW q b 7 line [_] rfl rfl ?_
   (all_goals refine qgp (Lf.mk ?_))
   exact zV [_] rfl (by rw [hdef, if_pos (.inr (.inr (.inr hq)))]) rfl (Nat.le_of_eq rfl) .tup0
  | false =>
   (all_goals refine qgk ?_ <;> (repeat' first | exact trivial | intro hc | refine And.intro ?_ ?_) <;> refine Lf.mk ?_)
   (any_goals (first | (exfalso; refine Bool.false_ne_true ?_; assumption) | (exfalso; refine Bool.false_ne_true (Eq.symm ?_); assumption) | (exfalso; refine absurd trivial ?_; assumption) | skip))
   refine w4 ((b.syms ++ [(⟨t.text, 0⟩ : zu)]).map yJ) (by rw [List.map_append]; rfl) ?_
   rw [List.length_map]
   (all_goals refine qgk (Lf.mk ?_))
   refine w4 ((b.marks ++ [((b.items.length : Nat) : Int)]).map (D.int .i64)) (by rw [List.map_append]; rfl) ?_
   rw [List.length_map]
   (all_goals refine qgk (Lf.mk ?_))
   rw [if_neg (fun h => ?_)] at hdef
   ·rw [hdef]
    exact zV [_] rfl rfl rfl (Nat.le_of_eq rfl) .tup0
   ·rcases h with h | h | h | h
    ·simp_all
    ·omega
    ·rw [hs] at h; cases h
    ·rw [hq] at h; cases h
end Go.Proofs.YthmdddenbfbefaaGreatDoor
namespace Go.Proofs.YthmdddenbfbefaaGreatDoor
open Go Go.Plat
set_option linter.unusedVariables false
set_option linter.unusedSimpArgs false
set_option maxRecDepth 100000
set_option maxHeartbeats 2000000
attribute [local irreducible] AWP zC yg zJ zo yw z8 zH z1 Lib.itoa z6 zt za zP yx zp z7 yt yu yi yk zw zx zy xb xJ wR
theorem znB (q : List zl) (line : Int) : ∀ (f : Nat) (out : List AOp) (s : RB), s.fe = 0 → (jw q line f out s).1.length ≤ out.length + s.rest.length
 | 0, out, s, _ => Nat.le_add_right _ _
 | f + 1, out, s, hs => by
  rw [jw]
  split
  ·exact Nat.le_add_right _ _
  ·rename_i hn
   have h1 : 1 ≤ s.rest.length := by
    cases hr : s.rest with
    | nil => exact absurd (.inl hr) hn
    | cons a l => simp
   have h2 := (znn q line s).1
   split
   ·simp only [List.length_append, List.length_cons, List.length_nil]; omega
   ·by_cases h3 : (xT line (y0 q line s).2).fe = 0
    ·have h4 := ziZ line _ h3
     have := znB q line f (out ++ [(y0 q line s).1]) _ h3
     simp only [List.length_append, List.length_cons, List.length_nil] at this
     omega
    ·rw [zhL (.inr h3)]
     simp only [List.length_append, List.length_cons, List.length_nil]; omega
theorem znC (q : List zl) (line : Int) (s : RB) (h : s.fe = 0) : (xw q line s).1.length ≤ s.rest.length := by
 have := znB q line (s.rest.length + 1) [] s h
 simpa [xw] using this
theorem zsv (s : RB) : (q8 s).1.length ≤ 1 := by
 unfold q8
 repeat' split
 all_goals simp
theorem zsw (q : List zl) (line : Int) (s : RB) : (y0 q line s).1.sign.length ≤ 1 := by
 have := zsv s
 unfold y0 zaz
 split
 ·dsimp only
  split
  ·simp
  ·exact this
 split
 ·exact this
 ·exact this
theorem zkJ (q : List zl) (line : Int) : ∀ (f : Nat) (out : List AOp) (s : RB), (∀ o ∈ out, o.sign.length ≤ 1) → ∀ o ∈ (jw q line f out s).1, o.sign.length ≤ 1
 | 0, out, s, h => h
 | f + 1, out, s, h => by
  have h' : ∀ o ∈ out ++ [(y0 q line s).1], o.sign.length ≤ 1 := by
   intro o ho
   rcases List.mem_append.1 ho with ho | ho
   ·exact h o ho
   ·rw [List.mem_singleton] at ho; subst ho; exact zsw q line s
  rw [jw]
  split
  ·exact h
  split
  ·exact h'
  ·exact zkJ q line f _ _ h'
theorem zsx (q : List zl) (line : Int) (s : RB) : ∀ o ∈ (xw q line s).1, o.sign.length ≤ 1 := zkJ q line _ [] s (by simp)
def xe (q : List zl) (line : Int) : List yG → Bld → Bld × List yG
 | t :: c :: r, b => if t.kind = 1 ∧ c.kind = 3 ∧ c.text = [58] then xe q line r (xU q b t line) else (b, t :: c :: r)
 | [t], b => (b, [t])
 | [], b => (b, [])
def zgE (b : Bld) (w : List UInt8) (ops : List AOp) (line : Int) : Bld :=
 if w = [46, 98, 121, 116, 101] then jl b 1 ops line else if w = [46, 119, 111, 114, 100] then jl b 2 ops line else if w = [46, 108, 111, 110, 103] then jl b 4 ops line
 else if w = [46, 97, 108, 105, 103, 110] then qX b ops line else if w = [46, 112, 111, 111, 108] then (if 0 < ops.length then yD b 2 line else vP b line) else xy b w ops line
def zda (q : List zl) (b : Bld) (line : Int) : List yG → Bld
 | [] => b
 | t :: r => if b.fe ≠ 0 then b else if t.kind ≠ 1 then yD b 2 line else
  if (xw q line ⟨r, b.fe, b.fa⟩).2.fe ≠ 0 then xR b (xw q line ⟨r, b.fe, b.fa⟩).2 else zgE (xR b (xw q line ⟨r, b.fe, b.fa⟩).2) t.text (xw q line ⟨r, b.fe, b.fa⟩).1 line
def xZ (q : List zl) (b : Bld) (x : zN) : Bld := zda q (xe q x.pos x.toks b).1 x.pos (xe q x.pos x.toks b).2
structure zZ (b : Bld) (k : Nat) : Prop where
 items : b.items.length + k ≤ 1000000
 syms : b.syms.length + k ≤ 1000000
 marks : b.marks.length + k ≤ 1000000
 shut : b.shut.length + k ≤ 1000000
 curl : b.cur.length + k ≤ 1000000
 cur : b.has = false → b.cur = []
theorem zZ.less {b : Bld} {k j : Nat} (h : zZ b k) (hj : j ≤ k) : zZ b j := ⟨by have := h.items; omega, by have := h.syms; omega, by have := h.marks; omega, by have := h.shut; omega, by have := h.curl; omega, h.cur⟩
theorem zZ.inB {b : Bld} {k : Nat} (h : zZ b k) : InB b := ⟨h.cur, by have := h.items; omega, by have := h.shut; omega, by have := h.curl; omega⟩
theorem zZ.fail {b : Bld} {k : Nat} (h : zZ b k) (e line : Int) : zZ (yD b e line) k := by
 unfold yD
 split
 ·exact ⟨h.items, h.syms, h.marks, h.shut, h.curl, h.cur⟩
 ·exact h
theorem zZ.put {b : Bld} {k : Nat} (h : zZ b (k + 1)) (x : zn) : zZ (xA b x) k :=
 ⟨by have := h.items; simp only [xA, List.length_append, List.length_cons, List.length_nil]; omega, by have := h.syms; simp only [xA]; omega, by have := h.marks; simp only [xA]; omega, by have := h.shut; simp only [xA]; omega, by have := h.curl; simp only [xA]; omega, h.cur⟩
theorem zZ.label {q : List zl} {b : Bld} {k : Nat} (h : zZ b (k + 1)) (t : yG) (line : Int) : zZ (xU q b t line) k := by
 unfold xU
 split
 ·exact (h.less (Nat.le_succ k)).fail _ _
 ·exact ⟨by have := h.items; dsimp only; omega, by have := h.syms; simp only [List.length_append, List.length_cons, List.length_nil]; omega, by have := h.marks; simp only [List.length_append, List.length_cons, List.length_nil]; omega, by have := h.shut; dsimp only; omega, by have := h.curl; dsimp only; omega, h.cur⟩
theorem zZ.set {b : Bld} {k : Nat} (h : zZ b k) (s : RB) : zZ (xR b s) k := ⟨h.items, h.syms, h.marks, h.shut, h.curl, h.cur⟩
theorem zZ.dat {b : Bld} {k : Nat} (h : zZ b (k + 1)) (size line : Int) (o : AOp) : zZ (vf size line b o) k := by
 unfold vf
 repeat' split
 ·exact (h.fail _ _).put _
 ·exact (h.fail _ _).put _
 ·exact (h.fail _ _).put _
 ·exact h.put _
theorem zZ.datas {size line : Int} : ∀ (l : List AOp) {b : Bld} {k : Nat}, zZ b (k + l.length) → zZ (l.foldl (vf size line) b) k
 | [], b, k, h => h
 | o :: l, b, k, h => zZ.datas l (zZ.dat (by rw [Nat.add_assoc]; exact h) size line o)
theorem zZ.data {b : Bld} {k : Nat} {l : List AOp} (h : zZ b (k + l.length)) (size line : Int) : zZ (jl b size l line) k := by
 unfold jl
 refine zZ.datas l ?_
 split
 ·exact h.fail _ _
 ·exact h
theorem zZ.align {b : Bld} {k : Nat} {l : List AOp} (h : zZ b (k + 1)) (line : Int) : zZ (qX b l line) k := by
 unfold qX
 repeat' split
 ·exact (h.less (Nat.le_succ k)).fail _ _
 ·exact (h.less (Nat.le_succ k)).fail _ _
 ·exact h.put _
theorem zZ.pool {b : Bld} {k : Nat} (h : zZ b (k + 1)) (line : Int) : zZ (vP b line) k := by
 unfold vP
 split
 ·have := h.put ⟨9, 0, line, noI, false, 0, noV, b.shut.length, 0⟩
  exact ⟨this.items, this.syms, this.marks, by have := h.shut; simp only [List.length_append, List.length_cons, List.length_nil]; omega, by have := h.curl; simp only [List.length_nil]; omega, fun _ => rfl⟩
 ·exact h.less (Nat.le_succ k)
theorem zsy (v : zr) (l : List zr) : (w8 v l).length ≤ l.length + 1 := by
 unfold w8
 split
 ·simp
 ·omega
theorem zZ.lit {b : Bld} {k : Nat} (h : zZ b (k + 1)) (v : zr) (reg line : Int) : zZ (kB b v reg line) k := by
 have hw := zsy v b.cur
 refine ⟨by have := h.items; simp only [kB, xA, List.length_append, List.length_cons, List.length_nil]; omega, by have := h.syms; simp only [kB, xA]; omega, by have := h.marks; simp only [kB, xA]; omega, by have := h.shut; simp only [kB, xA]; omega, ?_, fun h => by simp only [kB, xA] at h; cases h⟩
 have := h.curl
 simp only [kB, xA]; omega
theorem zZ.instr {b : Bld} {k : Nat} (h : zZ b (k + 1)) (name : List UInt8) (l : List AOp) (line : Int) : zZ (xy b name l line) k := by
 unfold xy
 split
 ·exact h.lit _ _ _
 repeat' split
 ·exact (h.less (Nat.le_succ k)).fail _ _
 ·exact (h.less (Nat.le_succ k)).fail _ _
 ·exact h.put _
 ·exact (h.less (Nat.le_succ k)).fail _ _
theorem zZ.word {b : Bld} {k : Nat} {l : List AOp} (h : zZ b (k + 1 + l.length)) (w : List UInt8) (line : Int) : zZ (zgE b w l line) k := by
 have h1 : zZ b (k + 1) := h.less (by omega)
 have h2 : zZ b (k + l.length) := h.less (by omega)
 unfold zgE
 repeat' split
 ·exact h2.data _ _
 ·exact h2.data _ _
 ·exact h2.data _ _
 ·exact h1.align _
 ·exact (h1.less (Nat.le_succ k)).fail _ _
 ·exact h1.pool _
 ·exact h1.instr _ _ _
theorem zfV {q : List zl} {line : Int} : ∀ (l : List yG) {b : Bld} {k : Nat}, zZ b (k + l.length) → zZ (xe q line l b).1 (k + (xe q line l b).2.length) ∧ (xe q line l b).2.length ≤ l.length ∧
  wt ((xe q line l b).2.map tk) ≤ wt (l.map tk) ∧ (∀ t ∈ (xe q line l b).2, t ∈ l) ∧ (xe q line l b).1.has = b.has
 | [], b, k, h => by rw [xe]; exact ⟨h, Nat.le_refl _, Nat.le_refl _, fun _ h => h, rfl⟩
 | [t], b, k, h => by rw [xe]; exact ⟨h, Nat.le_refl _, Nat.le_refl _, fun _ h => h, rfl⟩
 | t :: c :: r, b, k, h => by
  rw [xe]
  split
  ·have hl : zZ (xU q b t line) (k + r.length) := (h.less (by simp only [List.length_cons]; omega) : zZ b (k + r.length + 1)).label t line
   obtain ⟨h1, h2, h3, h4, h5⟩ := zfV r hl
   refine ⟨h1, by simp only [List.length_cons]; omega, by simp only [List.map_cons, wt]; omega, fun x hx => List.mem_cons_of_mem _ (List.mem_cons_of_mem _ (h4 x hx)), h5.trans ?_⟩
   unfold xU
   split
   ·exact kD _ _ _
   ·rfl
  ·exact ⟨h, Nat.le_refl _, Nat.le_refl _, fun _ h => h, rfl⟩
theorem zZ.rest {q : List zl} {b : Bld} {k : Nat} {l : List yG} (h : zZ b (k + l.length)) (line : Int) : zZ (zda q b line l) k := by
 cases l with
 | nil => exact h
 | cons t r =>
  have h0 : zZ b k := h.less (by omega)
  rw [zda]
  split
  ·exact h0
  rename_i hf
  have hf : b.fe = 0 := Classical.not_not.1 hf
  split
  ·exact h0.fail _ _
  split
  ·exact h0.set _
  ·have hl := znC q line ⟨r, b.fe, b.fa⟩ hf
   have hl : (xw q line ⟨r, b.fe, b.fa⟩).1.length ≤ r.length := hl
   exact zZ.word ((h.less (by simp only [List.length_cons]; omega)).set _) _ _
theorem zZ.line {q : List zl} {b : Bld} {k : Nat} (x : zN) (h : zZ b (k + x.toks.length)) : zZ (xZ q b x) k := (zfV x.toks h).1.rest x.pos
attribute [local irreducible] zh.kids zh.kind zh.n zh.name xw xk w6 wv xU yL yr y0 w9 zM w8 zU
def zlL (x : zN) : Ob := .cells [.int .i64 x.pos, .sl 3 (x.toks.map wI) none]
theorem zqP {av : List D} {L : List Ob} {KP : D → Prop} {KW : D → List Ob → Prop} (q : List zl) (b : Bld) (t : yG) (line : Int) (X : List Ob) {k : Nat} (hr : zZ b k) (hq : q.length ≤ 1000000) (ht : t.text.length ≤ 1000000000) (hL : L = bO q b ++ X) (has : av = [.loc 0 0, wI t, .int .i64 line])
  (hK : KW (.tup []) (bO q (xU q b t line) ++ X)) : zo Tryz.prog zai av L KP KW := by
 subst has
 have hr := hr.less (Nat.zero_le k)
 exact xr zoP X (b, t, line, q) ⟨hr.items, hr.syms, hr.marks, hq, ht⟩ hL (LeL.refl _) rfl (.cons (.loc (Nat.lt_of_lt_of_le (by decide : 0 < 6) (Nat.le_of_eq rfl))) (.cons (.agg (.cons .int (.cons .int (.cons .str .nil)))) (.cons .int .nil))) .tup0 (xl _ _) (xl _ _) hK
theorem jo (q : List zl) (b : Bld) (i : Nat) (o : Ob) (h : (bO q b)[i]? = some o) : ClO 6 o := xl _ _ _ (List.mem_of_getElem? h)
theorem zsz (s : RB) (line : Int) : ClO 6 (arC s line) := .cells (.cons (.loc (by decide)) (.cons .sl (.cons .int .nil)))
theorem zug {av : List D} {L : List Ob} {KP : D → Prop} {KW : D → List Ob → Prop} (q : List zl) (b : Bld) (s : RB) (line : Int) (Y : Ob) (hl : kQ s q) (ht : ∀ t ∈ s.rest, t.text.length ≤ 1000000000) (hL : L = bO q (xR b s) ++ [Y, arC s line]) (has : av = [.loc 7 0])
  (hK : KW (.sl 4 ((xw q line s).1.map qn) none) (bO q (xR b (xw q line s).2) ++ [Y, arC (xw q line s).2 line])) : zo Tryz.prog zcl av L KP KW := by
 subst has
 subst hL
 have key : ∀ k, k < 6 → zD [0, 1, 2, 3, 4, 5, 7] 0 k = some k := by decide
 have key' : ∀ k, k < 6 → vD [0, 1, 2, 3, 4, 5, 7] k = some k := by decide
 refine ztB (L' := bO q (xR b (xw q line s).2) ++ [Y, arC (xw q line s).2 line]) (d := .sl 4 ((xw q line s).1.map qn) none) (as1 := [.loc 6 0]) (L1 := vg q b s line) (L1' := vg q b (xw q line s).2 line) (d1 := .sl 4 ((xw q line s).1.map qn) none) zso [0, 1, 2, 3, 4, 5, 7] rfl ⟨rfl, fun i d d' h1 h2 => ?_⟩ ?_ ⟨(b, s, q, line), ⟨hl, ht⟩, LeL.refl _, rfl, rfl, rfl⟩ (ClD.sl (n := 0) _ fun k hk => absurd hk (Nat.not_lt_zero k)) rfl rfl (fun k hk hn => ?_) (fun i k hi => ?_) hK
 ·cases i with
  | zero =>
   cases h1
   cases h2
   obtain ⟨d', h3, rfl⟩ := w3 (show zap (zD [0, 1, 2, 3, 4, 5, 7] 0) (.loc 7 0) (fun d' => d' = .loc 6 0) from rfl)
   exact h3
  | succ i => simp at h1
 ·exact .cons (o := .cells (bC q (xR b s))) rfl (jo q (xR b s) 0 _ rfl _ key) (.cons (o := .arr 13 (b.items.map xp)) rfl (jo q (xR b s) 1 _ rfl _ key) (.cons (o := .arr 2 (b.syms.map yJ)) rfl (jo q (xR b s) 2 _ rfl _ key)
   (.cons (o := .spare b.marks.length) rfl (jo q (xR b s) 3 _ rfl _ key) (.cons (o := .arr 1 (zK (xR b s))) rfl (jo q (xR b s) 4 _ rfl _ key) (.cons (o := zdv (xR b s)) rfl (jo q (xR b s) 5 _ rfl _ key) (.cons (o := arC s line) rfl (zsz s line _ key) .nil))))))
 ·match k, hk, hn with
  | 0, _, hn => exact absurd (by decide) hn
  | 1, _, hn => exact absurd (by decide) hn
  | 2, _, hn => exact absurd (by decide) hn
  | 3, _, hn => exact absurd (by decide) hn
  | 4, _, hn => exact absurd (by decide) hn
  | 5, _, hn => exact absurd (by decide) hn
  | 6, _, _ => rfl
  | 7, _, hn => exact absurd (by decide) hn
  | k + 8, hk, _ => exact absurd hk (by simp [bO, bT])
 ·match i, hi with
  | 0, hi => cases hi; exact ⟨.cells (bC q (xR b (xw q line s).2)), _, rfl, rfl, jo q (xR b (xw q line s).2) 0 _ rfl _ key'⟩
  | 1, hi => cases hi; exact ⟨.arr 13 (b.items.map xp), _, rfl, rfl, jo q (xR b (xw q line s).2) 1 _ rfl _ key'⟩
  | 2, hi => cases hi; exact ⟨.arr 2 (b.syms.map yJ), _, rfl, rfl, jo q (xR b (xw q line s).2) 2 _ rfl _ key'⟩
  | 3, hi => cases hi; exact ⟨.spare b.marks.length, _, rfl, rfl, jo q (xR b (xw q line s).2) 3 _ rfl _ key'⟩
  | 4, hi => cases hi; exact ⟨.arr 1 (zK (xR b (xw q line s).2)), _, rfl, rfl, jo q (xR b (xw q line s).2) 4 _ rfl _ key'⟩
  | 5, hi => cases hi; exact ⟨zdv (xR b (xw q line s).2), _, rfl, rfl, jo q (xR b (xw q line s).2) 5 _ rfl _ key'⟩
  | 6, hi => cases hi; exact ⟨arC (xw q line s).2 line, _, rfl, rfl, zsz _ _ _ key'⟩
  | i + 7, hi => simp at hi
theorem zgF {q : List zl} {b b' : Bld} (h : b'.has = true → b.has = true) : vH q b b' = bO q b' := by
 unfold vH
 rw [if_neg fun e => by have := h e.2; rw [e.1] at this; cases this]
def bOn (k : Nat) (q : List zl) (b : Bld) : List Ob :=
 [.cells (bCk q b), .arr 13 (b.items.map xp), .arr 2 (b.syms.map yJ), .spare b.marks.length, .arr 1 (b.shut.map xd ++ [.sl 2 (b.cur.map yH) (some k)]), .dead]
theorem zxk (q : List zl) (b : Bld) : ClL 5 (bCk q b) :=
 .cons .sl (.cons (.osl (by decide)) (.cons (.osl (by decide)) (.cons (.tok (by decide)) (.cons (.osl (by decide)) (.cons .int (.cons .nilsl (.cons .nilsl (.cons .nilsl (.cons .int (.cons .int .nil))))))))))
theorem zgG {m : Nat → Option Nat} {k k' : Nat} (q : List zl) (b : Bld) (hm : ∀ j, j < 5 → m j = some j) (hk : m k = some k') : ∀ (i : Nat) x y, (bOn k q b)[i]? = some x → (bOn k' q b)[i]? = some y → yf m x y := by
 intro i x y h1 h2
 match i, h1, h2 with
 | 0, h1, h2 => cases h1; cases h2; exact ClO.cells (zxk q b) _ hm
 | 1, h1, h2 => cases h1; cases h2; exact ClO.arr (n := 5) (kC _) _ hm
 | 2, h1, h2 => cases h1; cases h2; exact ClO.arr (n := 5) (jK _) _ hm
 | 3, h1, h2 => cases h1; cases h2; rfl
 | 4, h1, h2 => cases h1; cases h2; exact zc9 hk _ _
 | 5, h1, h2 => cases h1; cases h2; rfl
 | i + 6, h1, h2 => simp [bOn] at h1
theorem zqQ {av : List D} {L : List Ob} {KP : D → Prop} {KW : D → List Ob → Prop} (q : List zl) (b : Bld) (name : List UInt8) (l : List AOp) (line : Int) (X : List Ob) (hb : InB b) (hl : l.length ≤ 1000000) (hs : ∀ o ∈ l, o.sign.length ≤ 1)
  (hL : L = bO q b ++ X) (has : av = [.loc 0 0, .str name, .sl 4 (l.map qn) none, .int .i64 line])
  (hK1 : ((xy b name l line).has = true → b.has = true) → KW (.tup []) (bO q (xy b name l line) ++ X))
  (hK2 : b.has = false → (xy b name l line).has = true → KW (.tup []) (bOn L.length q (xy b name l line) ++ X ++ [.spare (xy b name l line).cur.length])) : zo Tryz.prog zak av L KP KW := by
 subst has
 have hcl : ClL (bO q b).length [.loc 0 0, .str name, .sl 4 (l.map qn) none, .int .i64 line] := .cons (.loc (Nat.lt_of_lt_of_le (by decide : 0 < 6) (Nat.le_of_eq rfl))) (.cons .str (.cons .sl (.cons .int .nil)))
 by_cases h : b.has = false ∧ (xy b name l line).has = true
 ·refine zkz zg9 (bO q b) X (bOn 6 q (xy b name l line)) (bOn L.length q (xy b name l line)) (.spare (xy b name l line).cur.length) (d := .tup []) hL ⟨(b, name, l, line, q), ⟨hb, hl, hs⟩, LeL.refl _, rfl, rfl, (zeD h.1 h.2).symm⟩ rfl rfl hcl .tup0 (xl _ _)
   (fun m hm hk => zgG q _ (fun j hj => hm j (Nat.lt_of_lt_of_le hj (by decide : 5 ≤ 6))) hk) .spare (hK2 h.1 h.2)
 ·have hn : (xy b name l line).has = true → b.has = true := fun e => by
   cases hb : b.has with
   | true => rfl
   | false => exact absurd ⟨hb, e⟩ h
  refine zhD zg9 (bO q b) X (bO q (xy b name l line)) (d := .tup []) hL ⟨(b, name, l, line, q), ⟨hb, hl, hs⟩, LeL.refl _, rfl, rfl, (zgF hn).symm⟩ rfl hcl .tup0 (xl _ _) (xl _ _) (hK1 hn)
theorem zfW {av : List D} {L : List Ob} {KP : D → Prop} {KW : D → List Ob → Prop} (q : List zl) (b : Bld) (size : Int) (l : List AOp) (line : Int) (X : List Ob) (hl : b.items.length + l.length ≤ 1000000) (hs : size = 1 ∨ size = 2 ∨ size = 4)
  (hL : L = bO q b ++ X) (has : av = [.loc 0 0, .int .i64 size, .sl 4 (l.map qn) none, .int .i64 line]) (hK : KW (.tup []) (bO q (jl b size l line) ++ X)) : zo Tryz.prog zbf av L KP KW := by
 subst has
 exact xr zoN X (b, size, l, line, q) ⟨hl, hs⟩ hL (LeL.refl _) rfl (.cons (.loc (Nat.lt_of_lt_of_le (by decide : 0 < 6) (Nat.le_of_eq rfl))) (.cons .int (.cons .sl (.cons .int .nil)))) .tup0 (xl _ _) (xl _ _) hK
theorem zqR {av : List D} {L : List Ob} {KP : D → Prop} {KW : D → List Ob → Prop} (q : List zl) (b : Bld) (l : List AOp) (line : Int) (X : List Ob) (hl : b.items.length ≤ 1000000) (hs : l.length ≤ 1000000000)
  (hL : L = bO q b ++ X) (has : av = [.loc 0 0, .sl 4 (l.map qn) none, .int .i64 line]) (hK : KW (.tup []) (bO q (qX b l line) ++ X)) : zo Tryz.prog zaj av L KP KW := by
 subst has
 exact xr znp X (b, l, line, q) ⟨hl, hs⟩ hL (LeL.refl _) rfl (.cons (.loc (Nat.lt_of_lt_of_le (by decide : 0 < 6) (Nat.le_of_eq rfl))) (.cons .sl (.cons .int .nil))) .tup0 (xl _ _) (xl _ _) hK
theorem zkK {av : List D} {L : List Ob} {KP : D → Prop} {KW : D → List Ob → Prop} (q : List zl) (b : Bld) (line : Int) (X : List Ob) (hl : b.items.length ≤ 1000000) (hs : b.shut.length ≤ 1000000)
  (hL : L = bO q b ++ X) (has : av = [.loc 0 0, .int .i64 line]) (hK : KW (.tup []) (bO q (vP b line) ++ X)) : zo Tryz.prog zbe av L KP KW := by
 subst has
 exact xr zoO X (b, line, q) ⟨hl, hs⟩ hL (LeL.refl _) rfl (.cons (.loc (Nat.lt_of_lt_of_le (by decide : 0 < 6) (Nat.le_of_eq rfl))) (.cons .int .nil)) .tup0 (xl _ _) (xl _ _) hK
theorem znD {size line : Int} : ∀ (l : List AOp) (b : Bld), (l.foldl (vf size line) b).has = b.has
 | [], b => rfl
 | o :: l, b => by
  rw [List.foldl_cons, znD l]
  unfold vf
  repeat' split
  all_goals first | exact kD _ _ _ | rfl
theorem zfX (b : Bld) (size : Int) (l : List AOp) (line : Int) : (jl b size l line).has = b.has := by
 unfold jl
 rw [znD]
 split
 ·exact kD _ _ _
 ·rfl
theorem zqS (b : Bld) (l : List AOp) (line : Int) : (qX b l line).has = b.has := by
 unfold qX
 repeat' split
 all_goals first | exact kD _ _ _ | rfl
theorem zsA (b : Bld) (line : Int) : (vP b line).has = true → b.has = true := by
 unfold vP
 split
 ·intro _; assumption
 ·exact id
theorem zi0 : za Tryz.prog zbd (ya (fun ((b, x, q) : Bld × zN × List zl) => zZ b (1 + x.toks.length) ∧ wt (x.toks.map tk) ≤ 1048576 ∧ q.length ≤ 1000000) (fun (_, x, _) => [.loc 0 0, yZ x])
  (fun (b, _, q) => bO q b) (fun _ => .tup []) fun (b, x, q) => vH q b (xZ q b x)) := by
 refine zf zj Tryz.func37 rfl (by decide) ?_
 rintro ⟨b, x, q⟩ ⟨hr, hw, hq⟩
 have hr : zZ b (1 + x.toks.length) := hr
 have hw : wt (x.toks.map tk) ≤ 1048576 := hw
 have hq : q.length ≤ 1000000 := hq
 have htx : ∀ t ∈ x.toks, t.text.length ≤ 1000000000 := fun t ht => by
  have : ∀ l : List yG, t ∈ l → t.text.length ≤ wt (l.map tk) := by
   intro l
   induction l with
   | nil => intro h; cases h
   | cons a l ih =>
    intro h
    rw [List.map_cons, wt]
    rcases List.mem_cons.1 h with rfl | h
    ·show t.text.length ≤ 1 + t.text.length + _; omega
    ·have := ih h; omega
  have := this _ ht
  omega
 refine ⟨zns _ _ _, by simp [Tryz.f37], fun E hE => ?_⟩
 have hE6 : E.L.length = 6 := by rw [hE]; rfl
 have hlen : x.toks.length ≤ 1048576 := by have := ziY (x.toks.map tk); rw [List.length_map] at this; omega
 refine wq (ze _ ?_)
 (all_goals refine qgp (Lf.mk ?_))
 refine wq (ze _ ?_)
 (all_goals refine qgp (Lf.mk ?_))
 refine zdK (α := Unit) (fun _ => True) (fun _ => [(0, .loc 0 0), (3, .loc 6 0), (4, .sl 3 ((xe q x.pos x.toks b).2.map wI) none)]) (fun _ => bO q (xe q x.pos x.toks b).1 ++ [zlL x]) ?_ ?_
 ·refine ze _ ?_
  (all_goals refine qgp (Lf.mk ?_))
  have hout : ∀ (l : List yG) (b1 : Bld), xe q x.pos l b1 = xe q x.pos x.toks b → xe q x.pos l b1 = (b1, l) → (xe q x.pos x.toks b).1 = b1 ∧ (xe q x.pos x.toks b).2 = l := fun l b1 h h' => by rw [← h, h']; exact ⟨rfl, rfl⟩
  refine y5 (α := List yG × Bld) (fun p => xe q x.pos p.1 p.2 = xe q x.pos x.toks b ∧ zZ p.2 (1 + p.1.length) ∧ (∀ t ∈ p.1, t ∈ x.toks) ∧ p.1.length ≤ 1048576) (fun p => [(0, .loc 0 0), (3, .loc 6 0), (4, .sl 3 (p.1.map wI) none)])
   (fun p => bO q p.2 ++ [zlL x]) (fun p => p.1.length) (fun _ => by rw [hE6]; exact Nat.le_succ 6) (x.toks, b) ⟨rfl, hr, fun _ h => h, hlen⟩ ?_ ?_
  ·exact yv rfl ⟨rfl, rfl, rfl, trivial⟩
  rintro ⟨l, b1⟩ ⟨i1, i2, i3, i4⟩
  dsimp only at i1 i2 i3 i4 ⊢
  match l, i1, i2, i3, i4 with
  | [], i1, i2, i3, i4 =>
   refine ze _ ?_
   (all_goals refine qgp ?_ <;> (repeat' first | exact trivial | intro hc | refine And.intro ?_ ?_) <;> refine Lf.mk ?_)
   obtain ⟨h1, h2⟩ := hout [] b1 i1 (by rw [xe])
   exact ⟨(), trivial, yv (by rw [h1]) ⟨rfl, rfl, by rw [h2]; rfl, trivial⟩⟩
  | [t], i1, i2, i3, i4 =>
   refine ze _ ?_
   (all_goals refine qgp ?_ <;> (repeat' first | exact trivial | intro hc | refine And.intro ?_ ?_) <;> refine Lf.mk ?_)
   obtain ⟨h1, h2⟩ := hout [t] b1 i1 (by rw [xe])
   exact ⟨(), trivial, yv (by rw [h1]) ⟨rfl, rfl, by rw [h2]; rfl, trivial⟩⟩
  | t :: c :: r, i1, i2, i3, i4 =>
   have i4 : r.length + 1 + 1 ≤ 1048576 := i4
   refine ze _ ?_
   (all_goals refine qgp ?_ <;> (repeat' first | exact trivial | intro hc | refine And.intro ?_ ?_) <;> refine Lf.mk ?_)
   ·rw [xe, if_pos ⟨by assumption, by assumption, by assumption⟩] at i1
    refine zqP q b1 t x.pos [zlL x] i2 hq (htx t (i3 t List.mem_cons_self)) rfl rfl ?_
    (all_goals refine qgp (Lf.mk ?_))
    exact yP (r, xU q b1 t x.pos) ⟨i1, zZ.label (i2.less (by simp only [List.length_cons]; omega)) t x.pos, fun y hy => i3 y (List.mem_cons_of_mem _ (List.mem_cons_of_mem _ hy)), show r.length ≤ 1048576 by omega⟩ (by simp only [List.length_cons]; omega) rfl ⟨rfl, rfl, rfl, trivial⟩
   all_goals
    obtain ⟨h1, h2⟩ := hout (t :: c :: r) b1 i1 (by rw [xe, if_neg]; rintro ⟨e1, e2, e3⟩; first | exact absurd e1 hc | exact absurd e2 hc | exact absurd e3 hc)
    exact ⟨(), trivial, yv (by rw [h1]) ⟨rfl, rfl, by rw [h2]; rfl, trivial⟩⟩
 ·rintro _ _
  obtain ⟨g1, g2, g3, g4, g5⟩ := zfV x.toks hr
  have hB : xZ q b x = zda q (xe q x.pos x.toks b).1 x.pos (xe q x.pos x.toks b).2 := rfl
  show AWP _ _ _ _ (vS _ _ _ _ (vH q b (xZ q b x))) _ _
  have hO : vH q b (xZ q b x) = vH q (xe q x.pos x.toks b).1 (xZ q b x) := by unfold vH; rw [g5]
  rw [hO, hB]
  generalize (xe q x.pos x.toks b).1 = b1 at *
  generalize (xe q x.pos x.toks b).2 = l at *
  clear hO hB
  cases l with
  | nil =>
   refine ze _ ?_
   (all_goals refine qgp ?_ <;> (repeat' first | exact trivial | intro hc | refine And.intro ?_ ?_) <;> refine Lf.mk ?_)
   rw [zda, vz rfl]
   exact zV [_] rfl rfl rfl (Nat.le_of_eq rfl) .tup0
  | cons t r =>
   have g2 : r.length + 1 ≤ x.toks.length := g2
   rw [zda]
   refine ze _ ?_
   (all_goals refine qgp ?_ <;> (repeat' first | exact trivial | intro hc | refine And.intro ?_ ?_) <;> refine Lf.mk ?_)
   ·rw [if_pos hc, vz rfl]
    exact zV [_] rfl rfl rfl (Nat.le_of_eq rfl) .tup0
   ·rw [if_neg (fun h => h (by assumption)), if_pos hc, vz (kD _ _ _)]
    refine yW q b1 2 x.pos [_] rfl rfl ?_
    (all_goals refine qgp (Lf.mk ?_))
    exact zV [_] rfl rfl rfl (Nat.le_of_eq rfl) .tup0
   ·have hfe : b1.fe = 0 := by assumption
    rw [if_neg (fun h => h hfe), if_neg (fun h => h hc)]
    have hAl := znC q x.pos ⟨r, b1.fe, b1.fa⟩ hfe
    have hAs := zsx q x.pos ⟨r, b1.fe, b1.fa⟩
    rw [List.map_cons, wt] at g3
    refine zug q b1 ⟨r, b1.fe, b1.fa⟩ x.pos (zlL x) ⟨by show wt (r.map tk) ≤ _; omega, by omega⟩ (fun y hy => htx y (g4 y (List.mem_cons_of_mem _ hy))) rfl rfl ?_
    generalize xw q x.pos ⟨r, b1.fe, b1.fa⟩ = A at *
    obtain ⟨ops, s2⟩ := A
    dsimp only at hAl hAs ⊢
    have hroom : zZ (xR b1 s2) (1 + ops.length) := (g1.less (by simp only [List.length_cons]; omega)).set s2
    have hops : ops.length ≤ 1000000 := by have := hroom.items; omega
    have hb2 : (xR b1 s2).has = b1.has := rfl
    rw [show s2.fe = (xR b1 s2).fe from rfl, show ∀ b', vH q b1 b' = vH q (xR b1 s2) b' from fun b' => rfl]
    generalize xR b1 s2 = b2 at *
    have hin := hroom.inB
    have hri := hroom.items
    have hrs := hroom.shut
    (all_goals refine qgp ?_ <;> (repeat' first | exact trivial | intro hc | refine And.intro ?_ ?_) <;> refine Lf.mk ?_)
    ·rw [if_pos hc, vz rfl]
     exact zV [_, _] rfl rfl rfl (Nat.le_of_eq rfl) .tup0
    all_goals rw [if_neg (fun h => h (by assumption))]
    all_goals unfold zgE
    all_goals (repeat (first | (rw [if_pos (by assumption)]) | (rw [if_neg (by assumption)])))
    ·rw [vz (zfX _ _ _ _)]
     refine zfW q b2 1 ops x.pos [_, _] (by omega) (by decide) rfl rfl ?_
     (all_goals refine qgp (Lf.mk ?_))
     exact zV [_, _] rfl rfl rfl (Nat.le_of_eq rfl) .tup0
    ·rw [vz (zfX _ _ _ _)]
     refine zfW q b2 2 ops x.pos [_, _] (by omega) (by decide) rfl rfl ?_
     (all_goals refine qgp (Lf.mk ?_))
     exact zV [_, _] rfl rfl rfl (Nat.le_of_eq rfl) .tup0
    ·rw [vz (zfX _ _ _ _)]
     refine zfW q b2 4 ops x.pos [_, _] (by omega) (by decide) rfl rfl ?_
     (all_goals refine qgp (Lf.mk ?_))
     exact zV [_, _] rfl rfl rfl (Nat.le_of_eq rfl) .tup0
    ·rw [vz (zqS _ _ _)]
     refine zqR q b2 ops x.pos [_, _] (by omega) (by omega) rfl rfl ?_
     (all_goals refine qgp (Lf.mk ?_))
     exact zV [_, _] rfl rfl rfl (Nat.le_of_eq rfl) .tup0
    ·rw [if_pos (show 0 < ops.length by omega), vz (kD _ _ _)]
     refine yW q b2 2 x.pos [_, _] rfl rfl ?_
     (all_goals refine qgp (Lf.mk ?_))
     exact zV [_, _] rfl rfl rfl (Nat.le_of_eq rfl) .tup0
    ·rw [if_neg (show ¬ 0 < ops.length by omega), zgF (zsA _ _)]
     refine zkK q b2 x.pos [_, _] (by omega) (by omega) rfl rfl ?_
     (all_goals refine qgp (Lf.mk ?_))
     exact zV [_, _] rfl rfl rfl (Nat.le_of_eq rfl) .tup0
    ·refine zqQ q b2 t.text ops x.pos [_, _] hin hops hAs rfl rfl (fun hn => ?_) (fun hn hn' => ?_)
     ·rw [zgF hn]
      (all_goals refine qgp (Lf.mk ?_))
      exact zV [_, _] rfl rfl rfl (Nat.le_of_eq rfl) .tup0
     ·rw [zeD hn hn']
      (all_goals refine qgp (Lf.mk ?_))
      have key : ∀ k, k < 5 → zD [0, 1, 2, 3, 4, 5, 8] 0 k = some k := by decide
      generalize xy b2 t.text ops x.pos = b3 at *
      refine zfC [0, 1, 2, 3, 4, 5, 8] rfl rfl ?_ (ClD.tup0 (n := 5) _ key)
      have hr := zgG (m := zD [0, 1, 2, 3, 4, 5, 8] 0) (k := 8) (k' := 6) q b3 key rfl
      exact .cons (o := .cells (bCk q b3)) rfl (hr 0 _ _ rfl rfl) (.cons (o := .arr 13 (b3.items.map xp)) rfl (hr 1 _ _ rfl rfl) (.cons (o := .arr 2 (b3.syms.map yJ)) rfl (hr 2 _ _ rfl rfl) (.cons (o := .spare b3.marks.length) rfl (hr 3 _ _ rfl rfl)
       (.cons (o := .arr 1 (b3.shut.map xd ++ [.sl 2 (b3.cur.map yH) (some 8)])) rfl (hr 4 _ _ rfl rfl) (.cons (o := .dead) rfl rfl (.cons (o := .spare b3.cur.length) rfl rfl .nil))))))
theorem je {n k : Int} (h : 0 < k) : upA n k ≤ n + k - 1 ∧ n ≤ upA n k := by
 unfold upA
 have h1 := Int.ediv_mul_le (n + k - 1) (b := k) (by omega)
 have h2 := Int.lt_ediv_add_one_mul_self (n + k - 1) h
 rw [Int.add_mul, Int.one_mul] at h2
 omega
theorem zcx : za Tryz.prog ztF (zz (fun ((n, k) : Int × Int) => 0 ≤ n ∧ n ≤ 1000000000000000 ∧ 0 < k ∧ k ≤ 1000000) (fun (n, k) => [.int .i64 n, .int .i64 k]) fun (n, k) => .int .i64 (upA n k)) := by
 refine zf zj Tryz.func74 rfl (by decide) ?_
 rintro ⟨n, k⟩ ⟨h1, h2, h3, h4⟩
 have h1 : 0 ≤ n := h1
 have h2 : n ≤ 1000000000000000 := h2
 have h3 : 0 < k := h3
 have h4 : k ≤ 1000000 := h4
 have hu := je (n := n) h3
 refine ⟨Nat.le_refl _, by simp [Tryz.f74], fun E hE => ?_⟩
 refine ze _ ?_
 (all_goals refine qgp (Lf.mk ?_))
 refine qT (show -9223372036854775808 ≤ upA n k by omega) (show upA n k ≤ 9223372036854775807 by omega) ?_
 (all_goals refine qgp (Lf.mk ?_))
 exact zd (VS.mk (LeD.refl _))
def wN (pools : List (List zr)) (x : zn) : Prop := (x.kind = 8 → 0 < x.size ∧ x.size ≤ 16) ∧ (x.kind = 7 → 0 < x.size ∧ x.size ≤ 4) ∧ (x.kind = 9 → 0 ≤ x.pool ∧ x.pool < pools.length) ∧ ∀ p ∈ pools, p.length ≤ 1000000
theorem zqT : za Tryz.prog zbl (ya (fun ((b, k, x, a, _) : Bld × Nat × zn × Int × List zl) => b.has = false ∧ b.items[k]? = some x ∧ wN b.shut x ∧ 0 ≤ a ∧ a ≤ 100000000000000) (fun (b, k, _, a, _) => [.loc 0 0, .aloc 1 b.items.length k 0, .int .i64 a])
  (fun (b, _, _, _, q) => bO q b) (fun (b, _, x, a, _) => .int .i64 (y7 b.shut x a)) fun (b, _, _, _, q) => bO q b) := by
 refine zf zj Tryz.func132 rfl (by decide) ?_
 rintro ⟨⟨items, syms, marks, shut, has, cur, fe, fa⟩, k, x, a, q⟩ ⟨hh, hx, ⟨hs1, hs2, hs3, hs4⟩, ha0, ha1⟩
 have hh : has = false := hh
 subst hh
 have hx : items[k]? = some x := hx
 have hs3 : x.kind = 9 → 0 ≤ x.pool ∧ x.pool < shut.length := hs3
 have hs4 : ∀ p ∈ shut, p.length ≤ 1000000 := hs4
 have ha0 : 0 ≤ a := ha0
 have ha1 : a ≤ 100000000000000 := ha1
 refine ⟨Nat.le_refl _, by simp [Tryz.f132], fun E hE => ?_⟩
 refine ze _ ?_
 (all_goals refine qgp (Lf.mk ?_))
 have hxn : items[((k : Nat) : Int).toNat]? = some x := by rw [Int.toNat_natCast]; exact hx
 have hz : y7 shut x a = if x.kind = 2 ∧ x.long = true then 6 else if x.kind = 7 then x.size else if x.kind = 8 then upA a x.size - a else if x.kind = 9 then upA a 4 - a + 4 * zdQ shut x.pool else 2 := rfl
 have hu4 := je (n := a) (k := 4) (by decide)
 show z1 (items.map xp) _ _
 refine zk x (Int.natCast_nonneg k) hxn ?_
 (all_goals refine qgp ?_ <;> (repeat' first | exact trivial | intro hc | refine And.intro ?_ ?_) <;> refine Lf.mk ?_)
 ·refine zk x (Int.natCast_nonneg k) hxn ?_
  (all_goals refine qgp ?_ <;> (repeat' first | exact trivial | intro hc | refine And.intro ?_ ?_) <;> refine Lf.mk ?_)
  ·refine xx ?_ rfl
   show D.int .i64 6 = D.int .i64 (y7 shut x a)
   rw [hz, if_pos ⟨by assumption, by assumption⟩]
  ·refine xx ?_ rfl
   show D.int .i64 2 = D.int .i64 (y7 shut x a)
   rw [hz, if_neg (fun h => by simp_all), if_neg (by omega), if_neg (by omega), if_neg (by omega)]
 ·refine zk x (Int.natCast_nonneg k) hxn ?_
  (all_goals refine qgp (Lf.mk ?_))
  refine xx ?_ rfl
  show D.int .i64 x.size = D.int .i64 (y7 shut x a)
  rw [hz, if_neg (by omega), if_pos hc]
 ·have h8 := hs1 hc
  have hu := je (n := a) h8.1
  refine zk x (Int.natCast_nonneg k) hxn ?_
  (all_goals refine qgp (Lf.mk ?_))
  refine zb zcx (a, x.size) ⟨ha0, by show a ≤ _; omega, h8.1, by show x.size ≤ _; omega⟩ (VS.mk (LeL.of_eq rfl)) ?_
  (all_goals refine qgp (Lf.mk ?_))
  refine xx ?_ rfl
  show D.int .i64 (upA a x.size - a) = D.int .i64 (y7 shut x a)
  rw [hz, if_neg (by omega), if_neg (by omega), if_pos hc]
 ·have h9 := hs3 hc
  refine zb zcx (a, 4) ⟨ha0, by show a ≤ _; omega, by decide, by decide⟩ (VS.mk (LeL.of_eq rfl)) ?_
  (all_goals refine qgp (Lf.mk ?_))
  refine zk x (Int.natCast_nonneg k) hxn ?_
  (all_goals refine qgp (Lf.mk ?_))
  have hpl : (zK ⟨items, syms, marks, shut, false, cur, fe, fa⟩).length = shut.length := by unfold zK; simp
  refine xj ⟨h9.1, by rw [hpl]; exact h9.2⟩ ?_
  (all_goals refine qgp (Lf.mk ?_))
  have hp : ((shut[x.pool.toNat]?).getD []).length ≤ 1000000 := by
   cases hg : shut[x.pool.toNat]? with
   | none => simp
   | some p => exact hs4 p (List.mem_of_getElem? hg)
  (all_goals refine qgp (Lf.mk ?_))
  have hgp : (zK ⟨items, syms, marks, shut, false, cur, fe, fa⟩)[((0 + x.pool.toNat : Nat) : Int).toNat]? = some (xd ((shut[x.pool.toNat]?).getD [])) := by
   have hlt : x.pool.toNat < shut.length := by omega
   rw [Int.toNat_natCast, Nat.zero_add]
   unfold zK
   simp [List.getElem?_eq_getElem hlt]
  refine wV (Int.natCast_nonneg _) hgp ?_
  (all_goals refine qgp (Lf.mk ?_))
  refine xx ?_ rfl
  show _ = D.int .i64 (y7 shut x a)
  rw [hz, if_neg (by omega), if_neg (by omega), if_neg (by omega), if_pos hc]
  rfl
 ·refine xx ?_ rfl
  show D.int .i64 2 = D.int .i64 (y7 shut x a)
  rw [hz, if_neg (by omega), if_neg (by omega), if_neg (by omega), if_neg (by omega)]
attribute [local irreducible] y7
theorem zeE (pools : List (List zr)) : ∀ (l : List zn) (a : Int), (yn pools l a).1.length = l.length
 | [], a => rfl
 | x :: l, a => by rw [yn]; simp [zeE pools l]
theorem zjZ {pools : List (List zr)} {x : zn} {a : Int} (h : wN pools x) (h0 : 0 ≤ a) : 0 ≤ y7 pools x a ∧ y7 pools x a ≤ 5000000 := by
 obtain ⟨h8, h7, h9, hp⟩ := h
 have hu4 := je (n := a) (k := 4) (by decide)
 have hl : zdQ pools x.pool ≤ 1000000 ∧ 0 ≤ zdQ pools x.pool := by
  unfold zdQ
  cases hg : pools[x.pool.toNat]? with
  | none => simp
  | some p => have := hp p (List.mem_of_getElem? hg); simp; omega
 unfold y7
 split
 ·omega
 split
 ·rename_i h; have := h7 h; omega
 split
 ·rename_i h
  have := h8 h
  have hu := je (n := a) this.1
  omega
 split
 ·omega
 ·omega
theorem zpB {α : Type} {f : α → D} {a b : List α} {x : α} (y : α) {k : Nat} (hk : a.length = k) {d : D} (hd : d = f y) : ((a ++ x :: b).map f).set (0 + ((k : Nat) : Int).toNat) d = ((a ++ [y]) ++ b).map f := by
 subst hd; subst hk
 rw [Nat.zero_add, Int.toNat_natCast, List.map_append, List.set_append_right _ _ (by simp)]
 simp
theorem zdR {α : Type} {a b : List α} {x : α} {k : Nat} (hk : a.length = k) : (a ++ x :: b)[k]? = some x := by
 subst hk
 rw [List.getElem?_append_right (Nat.le_refl _)]
 simp
theorem zgH {q : List zl} {b b' : Bld} (h1 : b.items.length = b'.items.length) (h2 : b.syms.length = b'.syms.length) (h3 : b.marks = b'.marks) (h4 : zK b = zK b') (h5 : b.shut = b'.shut) (h6 : b.fe = b'.fe) (h7 : b.fa = b'.fa) : bC q b = bC q b' := by
 unfold bC
 rw [h1, h2, h3, h4, h5, h6, h7]
theorem zsB {av : List D} {L : List Ob} {KP : D → Prop} {KW : D → List Ob → Prop} (q : List zl) (b : Bld) (k : Nat) (x : zn) (a : Int) (hh : b.has = false) (hx : b.items[k]? = some x) (hs : wN b.shut x) (h0 : 0 ≤ a) (h1 : a ≤ 100000000000000) (hL : L = bO q b)
  (has : av = [.loc 0 0, .aloc 1 b.items.length k 0, .int .i64 a]) (hK : KW (.int .i64 (y7 b.shut x a)) (bO q b)) : zo Tryz.prog zbl av L KP KW := by
 subst has
 exact zmx zqT (b, k, x, a, q) ⟨hh, hx, hs, h0, h1⟩ hL (LeL.refl _) hK
theorem zhO {α : Type} {f : α → D} {a b : List α} {x : α} (y : α) {k : Nat} (hk : a.length = k) {d : D} (hd : d = f y) : ((a ++ x :: b).map f).set (0 + ((k : Nat) : Int).toNat) d = (a ++ y :: b).map f := by
 rw [zpB y hk hd, List.append_assoc]; rfl
theorem zha (items : List zn) (e : Int) : ∀ (ss : List zu) (ms : List Int) (s : zu) (m : Int), ss.length = ms.length → wx items e (ss ++ [s]) (ms ++ [m]) = wx items e ss ms ++ [⟨s.name, j9 items e m⟩]
 | [], [], s, m, _ => rfl
 | a :: ss, b :: ms, s, m, h => by
  show _ :: wx items e (ss ++ [s]) (ms ++ [m]) = _ :: (wx items e ss ms ++ _)
  rw [zha items e ss ms s m (by simpa using h)]
 | [], _ :: _, _, _, h => by simp at h
 | _ :: _, [], _, _, h => by simp at h
theorem zbU (items : List zn) (e : Int) : ∀ (ss : List zu) (ms : List Int), (wx items e ss ms).length = ss.length
 | [], _ => by rw [wx]; intro _ _ _ _ h; cases h
 | s :: ss, [] => rfl
 | s :: ss, m :: ms => by rw [wx, List.length_cons, zbU items e ss ms, List.length_cons]
theorem zoQ : za Tryz.prog zal (ya (fun ((b, _) : Bld × List zl) => b.has = false ∧ (∀ x ∈ b.items, wN b.shut x) ∧ b.items.length ≤ 1000000 ∧ b.marks.length = b.syms.length ∧ b.marks.length ≤ 1000000 ∧ ∀ m ∈ b.marks, 0 ≤ m) (fun _ => [.loc 0 0])
  (fun (b, q) => bO q b) (fun (b, _) => .int .i64 (yn b.shut b.items 0).2) fun (b, q) => bO q { b with items := (yn b.shut b.items 0).1, syms := wx (yn b.shut b.items 0).1 (yn b.shut b.items 0).2 b.syms b.marks }) := by
 refine zf zj Tryz.func69 rfl (by decide) ?_
 rintro ⟨⟨items, syms, marks, shut, has, cur, fe, fa⟩, q⟩ ⟨hh, hsz, hil, hms, hml, hm0⟩
 have hh : has = false := hh
 subst hh
 have hsz : ∀ x ∈ items, wN shut x := hsz
 have hil : items.length ≤ 1000000 := hil
 have hms : marks.length = syms.length := hms
 have hml : marks.length ≤ 1000000 := hml
 have hm0 : ∀ m ∈ marks, 0 ≤ m := hm0
 refine ⟨Nat.le_refl _, by simp [Tryz.f69], fun E hE => ?_⟩
 have hE6 : E.L.length = 6 := by rw [hE]; rfl
 show AWP _ _ _ _ (vS _ _ _ (.int .i64 (yn shut items 0).2) (bO q ⟨(yn shut items 0).1, wx (yn shut items 0).1 (yn shut items 0).2 syms marks, marks, shut, false, cur, fe, fa⟩)) _ (bO q ⟨items, syms, marks, shut, false, cur, fe, fa⟩)
 have hPl := zeE shut items 0
 generalize hP : yn shut items 0 = P at *
 obtain ⟨PI, PE⟩ := P
 dsimp only at hPl ⊢
 refine ze _ ?_
 (all_goals refine qgp (Lf.mk ?_))
 refine y5 (α := Nat × Int) (fun p => p.1 ≤ items.length ∧ yn shut (items.drop p.1) p.2 = (PI.drop p.1, PE) ∧ 0 ≤ p.2 ∧ p.2 ≤ 5000000 * (p.1 : Int)) (fun p => [(0, .loc 0 0), (3, .int .i64 p.2), (11, .int .i64 items.length), (12, .int .i64 p.1)])
  (fun p => bO q ⟨PI.take p.1 ++ items.drop p.1, syms, marks, shut, false, cur, fe, fa⟩) (fun p => items.length - p.1) (fun _ => by rw [hE6]; exact Nat.le_refl 6) (0, 0) ⟨Nat.zero_le _, hP, Int.le_refl 0, by simp⟩ ?_ ?_
 ·exact yv rfl ⟨rfl, rfl, rfl, rfl, trivial⟩
 rintro ⟨k, a⟩ ⟨i1, i2, i3, i4⟩
 dsimp only at i1 i2 i3 i4 ⊢
 have hlen : (PI.take k ++ items.drop k).length = items.length := by rw [List.length_append, List.length_take, List.length_drop]; omega
 refine ze _ ?_
 (all_goals refine qgp ?_ <;> (repeat' first | exact trivial | intro hc | refine And.intro ?_ ?_) <;> refine Lf.mk ?_)
 ·have hkl : k < items.length := by omega
  obtain ⟨x, hx⟩ := yj (l := items) (k := k) (by omega)
  have hgx : items[k] = x := by rw [List.getElem?_eq_getElem hkl] at hx; exact Option.some.inj hx
  have hxs := hsz x (List.mem_of_getElem? hx)
  have hsl := zjZ (a := a) hxs i3
  rw [List.drop_eq_getElem_cons hkl, hgx, yn] at i2
  obtain ⟨e1, e2⟩ := Prod.mk.inj i2
  have hkP : k < PI.length := by omega
  rw [List.drop_eq_getElem_cons hkP] at e1
  obtain ⟨e3, e4⟩ := List.cons.inj e1
  have hnext : yn shut (items.drop (k + 1)) (a + y7 shut x a) = (PI.drop (k + 1), PE) := by rw [← e4, ← e2]
  have htake : PI.take (k + 1) = PI.take k ++ [{ x with at_ := a }] := by rw [List.take_succ_eq_append_getElem hkP, ← e3]
  have hlk : (PI.take k).length = k := by rw [List.length_take]; omega
  have hdrop : items.drop k = x :: items.drop (k + 1) := by rw [List.drop_eq_getElem_cons hkl, hgx]
  have hmid := zdR (a := PI.take k) (b := items.drop (k + 1)) (x := x) hlk
  have hlen2 : (PI.take (k + 1) ++ items.drop (k + 1)).length = items.length := by rw [List.length_append, List.length_take, List.length_drop]; omega
  rw [hdrop] at hlen ⊢
  refine zk x (Int.natCast_nonneg _) (by rw [Int.toNat_natCast, Nat.zero_add, Int.toNat_natCast]; exact hmid) ?_
  (all_goals refine qgk (Lf.mk ?_))
  refine w4 ((PI.take (k + 1) ++ items.drop (k + 1)).map xp) (by rw [htake]; exact zpB { x with at_ := a } hlk rfl) ?_
  (all_goals refine qgk (Lf.mk ?_))
  have hb : (PI.take k ++ x :: items.drop (k + 1)).length = (PI.take (k + 1) ++ items.drop (k + 1)).length := by rw [hlen, hlen2]
  have hx2 : (PI.take (k + 1) ++ items.drop (k + 1))[k]? = some { x with at_ := a } := by rw [htake, List.append_assoc]; exact zdR hlk
  have hs2 : y7 shut { x with at_ := a } a = y7 shut x a := by unfold y7; rfl
  refine zsB q ⟨PI.take (k + 1) ++ items.drop (k + 1), syms, marks, shut, false, cur, fe, fa⟩ k { x with at_ := a } a rfl hx2 hxs i3 (by omega) ?_ ?_ ?_
  ·exact congrArg (fun c => Ob.cells c :: bT ⟨PI.take (k + 1) ++ items.drop (k + 1), syms, marks, shut, false, cur, fe, fa⟩) (zgH hb rfl rfl rfl rfl rfl rfl)
  ·show [D.loc 0 0, .aloc 1 (PI.take k ++ x :: items.drop (k + 1)).length (0 + ((k : Nat) : Int).toNat) 0, .int .i64 a] = _
   rw [hb, Nat.zero_add, Int.toNat_natCast]
  rw [show y7 (Bld.shut ⟨PI.take (k + 1) ++ items.drop (k + 1), syms, marks, shut, false, cur, fe, fa⟩) { x with at_ := a } a = y7 shut x a from hs2]
  (all_goals refine qgp (Lf.mk ?_))
  exact yP (k + 1, a + y7 shut x a) ⟨by show k + 1 ≤ _; omega, hnext, by dsimp only; omega, by dsimp only; omega⟩ (by dsimp only; omega) rfl ⟨rfl, rfl, rfl, rfl, trivial⟩
 ·have hk : k = items.length := by omega
  rw [hk, List.drop_length, yn] at i2
  obtain ⟨e1, e2⟩ := Prod.mk.inj i2
  have hI : PI.take k ++ items.drop k = PI := by rw [hk, List.drop_length, List.append_nil, ← hPl, List.take_length]
  rw [hI] at hlen ⊢
  subst e2
  clear e1 i2
  refine y5 (α := Nat) (fun j => j ≤ marks.length) (fun j => [(0, .loc 0 0), (3, .int .i64 a), (38, .sl 1 (marks.map (.int .i64)) none), (39, .int .i64 marks.length), (40, .int .i64 j)])
   (fun j => bO q ⟨PI, wx PI a (syms.take j) (marks.take j) ++ syms.drop j, marks, shut, false, cur, fe, fa⟩) (fun j => marks.length - j) (fun _ => by rw [hE6]; exact Nat.le_refl 6) 0 (Nat.zero_le _) ?_ ?_
  ·refine zhE rfl ⟨.refl _, .refl _, .strip _ _ _, .refl _, .refl _, trivial⟩
  intro j hj
  have hj : j ≤ marks.length := hj
  refine ze _ ?_
  have hSl : (wx PI a (syms.take j) (marks.take j)).length = j := by rw [zbU, List.length_take]; omega
  (all_goals refine qgp ?_ <;> (repeat' first | exact trivial | intro hc | refine And.intro ?_ ?_) <;> refine Lf.mk ?_)
  ·have hjm : j < marks.length := by omega
   have hjs : j < syms.length := by omega
   obtain ⟨m, hm⟩ := yj (l := marks) (k := j) (by omega)
   obtain ⟨s, hs⟩ := yj (l := syms) (k := j) (by omega)
   have hgm : marks[j] = m := by rw [List.getElem?_eq_getElem hjm] at hm; exact Option.some.inj hm
   have hgs : syms[j] = s := by rw [List.getElem?_eq_getElem hjs] at hs; exact Option.some.inj hs
   have hm0 := hm0 m (List.mem_of_getElem? hm)
   have hdrop : syms.drop j = s :: syms.drop (j + 1) := by rw [List.drop_eq_getElem_cons hjs, hgs]
   have hsn : wx PI a (syms.take (j + 1)) (marks.take (j + 1)) = wx PI a (syms.take j) (marks.take j) ++ [⟨s.name, j9 PI a m⟩] := by
    rw [List.take_succ_eq_append_getElem hjs, List.take_succ_eq_append_getElem hjm, hgs, hgm]
    exact zha _ _ _ _ _ _ (by rw [List.length_take, List.length_take]; omega)
   generalize wx PI a (syms.take j) (marks.take j) = SJ at *
   rw [hdrop]
   refine zk m (by omega) (by simpa using hm) ?_
   have hlen3 : (SJ ++ s :: syms.drop (j + 1)).length = syms.length := by rw [List.length_append, List.length_cons, List.length_drop]; omega
   have hmid := zdR (a := SJ) (b := syms.drop (j + 1)) (x := s) hSl
   (all_goals refine qgk (Lf.mk ?_))
   refine zk s (Int.natCast_nonneg _) (by rw [Int.toNat_natCast, Nat.zero_add, Int.toNat_natCast]; exact hmid) ?_
   (all_goals refine qgk (Lf.mk ?_))
   refine w4 ((SJ ++ (⟨s.name, a⟩ : zu) :: syms.drop (j + 1)).map yJ) (zhO ⟨s.name, a⟩ hSl rfl) ?_
   (all_goals refine qgk ?_ <;> (repeat' first | exact trivial | intro hc | refine And.intro ?_ ?_) <;> refine Lf.mk ?_)
   ·have hmn : m.toNat < PI.length := by omega
    have hmk : j9 PI a m = (itA PI m).at_ := by unfold j9; rw [if_pos hc]
    have hit : PI[m.toNat]? = some (itA PI m) := by unfold itA; rw [List.getElem?_eq_getElem hmn]; rfl
    have hmid2 := zdR (a := SJ) (b := syms.drop (j + 1)) (x := (⟨s.name, a⟩ : zu)) hSl
    refine zk (itA PI m) (Int.natCast_nonneg _) (by rw [Int.toNat_natCast, Nat.zero_add]; exact hit) ?_
    (all_goals refine qgk (Lf.mk ?_))
    refine zk (⟨s.name, a⟩ : zu) (Int.natCast_nonneg _) (by rw [Int.toNat_natCast, Nat.zero_add, Int.toNat_natCast]; exact hmid2) ?_
    (all_goals refine qgk (Lf.mk ?_))
    refine w4 ((SJ ++ (⟨s.name, (itA PI m).at_⟩ : zu) :: syms.drop (j + 1)).map yJ) (zhO ⟨s.name, (itA PI m).at_⟩ hSl rfl) ?_
    (all_goals refine qgk (Lf.mk ?_))
    refine yP (j + 1) (by show j + 1 ≤ _; omega) (by omega) ?_ ⟨rfl, rfl, rfl, rfl, rfl, trivial⟩
    dsimp only
    rw [hsn, hmk, List.append_assoc]
    exact congrArg (fun c => Ob.cells c :: bT ⟨PI, SJ ++ (⟨s.name, (itA PI m).at_⟩ : zu) :: syms.drop (j + 1), marks, shut, false, cur, fe, fa⟩) (zgH rfl (by simp) rfl rfl rfl rfl rfl)
   ·have hmk : j9 PI a m = a := by unfold j9; rw [if_neg hc]
    refine yP (j + 1) (by show j + 1 ≤ _; omega) (by omega) ?_ ⟨rfl, rfl, rfl, rfl, rfl, trivial⟩
    dsimp only
    rw [hsn, hmk, List.append_assoc]
    exact congrArg (fun c => Ob.cells c :: bT ⟨PI, SJ ++ (⟨s.name, a⟩ : zu) :: syms.drop (j + 1), marks, shut, false, cur, fe, fa⟩) (zgH rfl (by simp) rfl rfl rfl rfl rfl)
  ·have hj2 : j = marks.length := by omega
   rw [hj2, List.take_length, hms, List.take_length, List.drop_length, List.append_nil]
   exact xx rfl rfl
attribute [local irreducible] y6
theorem znE {n : Int} {K : D → Prop} (h : K (.int .i64 (w64 n))) : zC .i64 n K := by unfold zC; exact h
theorem zxR {x y : Int} {K : D → Prop} (hy : y ≠ 0) (h : K (.int .i64 (x.tmod y))) : yu .i64 x y K := by unfold yu; exact ⟨hy, h⟩
theorem zxS {x y : Int} {K : D → Prop} (hy : y ≠ 0) (h : K (.int .i64 (w64 (x.tdiv y)))) : yt .i64 x y K := by unfold yt; exact ⟨hy, h⟩
theorem zeS : za Tryz.prog qm (ya (fun _ : zu × zr => True) (fun (s, _) => [yJ s, .loc 0 0]) (fun (_, v) => [.cells [.str v.name, .int .i64 v.n]]) (fun (s, v) => .bool (s.name == v.name))
  fun (_, v) => [.cells [.str v.name, .int .i64 v.n]]) := by
 refine zf zj Tryz.func134 rfl (by decide) ?_
 rintro ⟨s, v⟩ _
 refine ⟨Nat.le_refl _, by simp [Tryz.f134], fun E hE => ?_⟩
 refine ze _ ?_
 (all_goals refine qgo (Lf.mk ?_))
 exact qZ [.cells [.str v.name, .int .i64 v.n]] [_] rfl (Nat.le_refl 1) .bool (by intro o ho; rw [List.mem_singleton] at ho; subst ho; exact .cells (.cons .str (.cons .int .nil)))
theorem znF : za Tryz.prog vl (ya (fun ((b, _, _) : Bld × zr × List zl) => b.syms.length ≤ 1000000) (fun (_, v, _) => [.loc 0 0, yH v])
  (fun (b, _, q) => bO q b) (fun (b, v, _) => .tup [.int .i64 (zO b.syms v).1, .int .i64 (zO b.syms v).2]) fun (b, _, q) => bO q b) := by
 refine zf zj Tryz.func70 rfl (by decide) ?_
 rintro ⟨b, v, q⟩ hl
 have hl : b.syms.length ≤ 1000000 := hl
 refine ⟨Nat.le_refl _, by simp [Tryz.f70], fun E hE => ?_⟩
 show AWP _ _ _ _ (vS _ _ _ (.tup [.int .i64 (zO b.syms v).1, .int .i64 (zO b.syms v).2]) (bO q b)) _ (bO q b)
 have hT : zO b.syms v = if v.name = [] then (0, 8) else if zfU v.name b.syms 0 < 0 then (0, 6) else (w64 ((zcu b.syms (zfU v.name b.syms 0)).at_ + v.n), 0) := rfl
 generalize zO b.syms v = T at *
 refine ze _ ?_
 (all_goals refine qgp ?_ <;> (repeat' first | exact trivial | intro hc | refine And.intro ?_ ?_) <;> refine Lf.mk ?_)
 ·rw [if_pos hc] at hT
  subst hT
  exact zV [_] rfl rfl rfl (Nat.le_of_eq rfl) (.tup (.cons .int (.cons .int .nil)))
 rw [if_neg hc] at hT
 refine zhN qm [.loc 6 0] (fun s => s.name == v.name) b.syms (.cells (bC q b)) (.arr 13 (b.items.map xp)) [.spare b.marks.length, .arr 1 (zK b), zdv b, .cells [.str v.name, .int .i64 v.n]] (by omega) rfl rfl
  (fun s hs KP KW hK => ?_) ?_
 ·exact zY zeS [6] [6] (s, v) trivial rfl rfl ⟨VS.mk (LeL.refl _), VS.mk rfl, hK⟩
 have hp := zbT (fun s : zu => s.name == v.name) b.syms 0
 have hT : T = if xF (fun s : zu => s.name == v.name) b.syms 0 < 0 then (0, 6) else (w64 ((zcu b.syms (xF (fun s : zu => s.name == v.name) b.syms 0)).at_ + v.n), 0) := hT
 generalize xF (fun s : zu => s.name == v.name) b.syms 0 = p at *
 (all_goals refine qgp ?_ <;> (repeat' first | exact trivial | intro hc | refine And.intro ?_ ?_) <;> refine Lf.mk ?_)
 ·rw [if_pos hc] at hT
  subst hT
  exact zV [_] rfl rfl rfl (Nat.le_of_eq rfl) (.tup (.cons .int (.cons .int .nil)))
 have hpl : p.toNat < b.syms.length := by
  rcases hp with h | ⟨j, h1, h2⟩
  ·omega
  ·rw [h2, Int.toNat_natCast, Nat.zero_add]; exact h1
 have hs : b.syms[p.toNat]? = some (zcu b.syms p) := by unfold zcu; rw [List.getElem?_eq_getElem hpl]; rfl
 rw [if_neg hc] at hT
 refine zk (zcu b.syms p) (Int.natCast_nonneg _) (by rw [Int.toNat_natCast, Nat.zero_add]; exact hs) ?_
 (all_goals refine qgp (Lf.mk ?_))
 refine znE ?_
 (all_goals refine qgp (Lf.mk ?_))
 subst hT
 exact zV [_] rfl rfl rfl (Nat.le_of_eq rfl) (.tup (.cons .int (.cons .int .nil)))
theorem zsC : ∀ i : Fin 64, (~~~ (3#64)).getLsbD i = decide (2 ≤ i.1) := by decide
theorem zv7 (x : BitVec 64) : x &&& ~~~ (3#64) = (x >>> 2) <<< 2 := by
 apply BitVec.eq_of_getLsbD_eq
 intro i hi
 rw [BitVec.getLsbD_and, zsC ⟨i, hi⟩, BitVec.getLsbD_shiftLeft, BitVec.getLsbD_ushiftRight]
 by_cases h : 2 ≤ i
 ·simp [h, hi, show ¬ i < 2 by omega, show 2 + (i - 2) = i by omega]
 ·simp [h, show i < 2 by omega]
theorem zxl {n : Int} (h0 : 0 ≤ n) (h1 : n ≤ 9223372036854775807) : zy .andNot .i64 n 3 = n - n % 4 := by
 obtain ⟨a, rfl⟩ := Int.eq_ofNat_of_zero_le h0
 have ha : a ≤ 9223372036854775807 := by omega
 unfold zy
 have e : (BitVec.ofInt IntKind.i64.bits (a : Int) &&& ~~~ BitVec.ofInt IntKind.i64.bits 3).toNat = a / 4 * 4 := by
  have e2 : BitVec.ofInt IntKind.i64.bits (a : Int) = BitVec.ofNat 64 a := rfl
  rw [e2]
  show (BitVec.ofNat 64 a &&& ~~~ (3#64)).toNat = _
  rw [zv7, BitVec.toNat_shiftLeft, BitVec.toNat_ushiftRight, BitVec.toNat_ofNat, Nat.mod_eq_of_lt (by omega : a < 2 ^ 64), Nat.shiftRight_eq_div_pow, Nat.shiftLeft_eq]
  omega
 show IntKind.i64.wrap ((_ : Nat) : Int) = _
 rw [e, kg (by omega) (by omega)]
 omega
theorem zuh (op : Int) : ∃ s : List UInt8, kO op = .tup [.str s, .int .i64 (zaa op)] := by
 unfold kO zaa
 cases y6 op with
 | none => exact ⟨[], rfl⟩
 | some r => exact ⟨r.name, rfl⟩
theorem zi1 : za Tryz.prog zqm (zz (fun ((_, a, _) : Int × Int × Int) => 0 ≤ a ∧ a ≤ 1000000000000000) (fun (op, a, to) => [.int .i64 op, .int .i64 a, .int .i64 to])
  fun (op, a, to) => .tup [.int .i64 (xK op a to).1, .int .i64 (xK op a to).2]) := by
 refine zf zj Tryz.func71 rfl (by decide) ?_
 rintro ⟨op, a, to⟩ ⟨h0, h1⟩
 have h0 : 0 ≤ a := h0
 have h1 : a ≤ 1000000000000000 := h1
 refine ⟨Nat.le_refl _, by simp [Tryz.f71], fun E hE => ?_⟩
 show AWP _ _ _ _ (vS _ _ _ (.tup [.int .i64 (xK op a to).1, .int .i64 (xK op a to).2]) []) _ []
 have hA : xK op a to = if (w64 (to - jn op a)).tmod (ofA op) ≠ 0 then (0, 11)
  else if zcv op a to < vr (zaa op) ∨ wd (zaa op) < zcv op a to then (zcv op a to, 3) else (zcv op a to, 0) := rfl
 have hF : zcv op a to = w64 ((w64 (to - jn op a)).tdiv (ofA op)) := rfl
 obtain ⟨s, hI⟩ := zuh op
 have hof : ofA op ≠ 0 := by unfold ofA; split <;> decide
 generalize xK op a to = A at *
 generalize zaa op = sh at *
 refine wq (ze _ ?_)
 (all_goals refine qgp (Lf.mk ?_))
 refine wq (ze _ ?_)
 (all_goals refine qgp (Lf.mk ?_))
 refine zdK (α := Unit) (fun _ => True) (fun _ => [(0, .int .i64 op), (1, .int .i64 a), (2, .int .i64 to), (8, .int .i64 (jn op a)), (9, .int .i64 (ofA op))]) (fun _ => []) ?_ ?_
 ·refine ze _ ?_
  (all_goals refine qgp ?_ <;> (repeat' first | exact trivial | intro hc | refine And.intro ?_ ?_) <;> refine Lf.mk ?_)
  ·refine wm (zxl (by omega) (by omega)) ?_
   (all_goals refine qgp (Lf.mk ?_))
   refine ⟨(), trivial, yv rfl ⟨rfl, rfl, rfl, ?_, ?_, trivial⟩⟩
   ·show D.int .i64 (a + 4 - (a + 4) % 4) = _
    unfold jn; rw [if_pos hc]
   ·show D.int .i64 4 = _
    unfold ofA; rw [if_pos hc]
  ·refine ⟨(), trivial, yv rfl ⟨rfl, rfl, rfl, ?_, ?_, trivial⟩⟩
   ·show D.int .i64 (a + 4) = _
    unfold jn; rw [if_neg hc]
   ·show D.int .i64 2 = _
    unfold ofA; rw [if_neg hc]
 ·rintro _ _
  refine ze _ ?_
  generalize jn op a = fr at *
  generalize ofA op = o at *
  (all_goals refine qgp (Lf.mk ?_))
  refine znE ?_
  (all_goals refine qgp (Lf.mk ?_))
  refine zxR hof ?_
  (all_goals refine qgp ?_ <;> (repeat' first | exact trivial | intro hc | refine And.intro ?_ ?_) <;> refine Lf.mk ?_)
  ·rw [if_pos hc] at hA
   subst hA
   exact zd (VS.mk (LeD.refl _))
  ·rw [if_neg (fun h => h hc)] at hA
   refine znE ?_
   (all_goals refine qgp (Lf.mk ?_))
   refine zxS hof ?_
   (all_goals refine qgp (Lf.mk ?_))
   refine zb zbR op trivial (VS.mk (LeL.of_eq rfl)) ?_
   rw [hI]
   rw [← hF]
   (all_goals refine qgp (Lf.mk ?_))
   refine zb zg7 sh trivial (VS.mk (LeL.of_eq rfl)) ?_
   (all_goals refine qgp ?_ <;> (repeat' first | exact trivial | intro hc | refine And.intro ?_ ?_) <;> refine Lf.mk ?_)
   ·rw [if_pos (.inl hc)] at hA
    subst hA
    exact zd (VS.mk (LeD.refl _))
   ·rw [if_pos (.inr hc)] at hA
    subst hA
    exact zd (VS.mk (LeD.refl _))
   ·rw [if_neg (by omega)] at hA
    subst hA
    exact zd (VS.mk (LeD.refl _))
attribute [local irreducible] xK zO
structure zab (shut : List (List zr)) (marks : List Int) (s : Lay) : Prop where
 size : ∀ x ∈ s.items, wN shut x
 items : s.items.length ≤ 1000000
 len : marks.length = s.syms.length
 marksl : marks.length ≤ 1000000
 pos : ∀ m ∈ marks, 0 ≤ m
theorem zfY {pools : List (List zr)} : ∀ (l : List zn) (a : Int), 0 ≤ a → (∀ x ∈ l, wN pools x) → ∀ x ∈ (yn pools l a).1, wN pools x ∧ 0 ≤ x.at_ ∧ x.at_ ≤ a + 5000000 * (l.length : Int)
 | [], a, h0, _, x, hx => by cases hx
 | y :: l, a, h0, hs, x, hx => by
  have hy := hs y List.mem_cons_self
  have hz := zjZ (a := a) hy h0
  rw [yn] at hx
  rcases List.mem_cons.1 hx with rfl | hx
  ·exact ⟨hy, h0, by dsimp only; simp only [List.length_cons]; omega⟩
  ·obtain ⟨h1, h2, h3⟩ := zfY l (a + y7 pools y a) (by omega) (fun z hz => hs z (List.mem_cons_of_mem _ hz)) x hx
   exact ⟨h1, h2, by simp only [List.length_cons]; omega⟩
theorem zcy (pools : List (List zr)) : ∀ (l : List zn) (a : Int), xH (yn pools l a).1 = xH l
 | [], a => rfl
 | x :: l, a => by
  have ih := zcy pools l (a + y7 pools x a)
  unfold xH at ih ⊢
  rw [yn, List.filter_cons, List.filter_cons]
  split
  ·rw [List.length_cons, List.length_cons, ih]
  ·exact ih
theorem zsD {pools : List (List zr)} {syms : List zu} {x : zn} (h : wN pools x) : wN pools (yQ syms x) := by
 unfold yQ
 split
 ·exact h
 ·exact h
theorem zeF (syms : List zu) : ∀ l : List zn, xH (l.map (yQ syms)) ≤ xH l ∧ (l.any (xz syms) = true → xH (l.map (yQ syms)) < xH l)
 | [] => ⟨Nat.le_refl _, fun h => by cases h⟩
 | x :: l => by
  obtain ⟨h1, h2⟩ := zeF syms l
  unfold xH at h1 h2 ⊢
  rw [List.map_cons, List.filter_cons, List.filter_cons, List.any_cons]
  cases hm : xz syms x with
  | true =>
   have hs : x.kind = 2 ∧ x.long = false := by unfold xz at hm; simp at hm; exact ⟨hm.1, hm.2.1⟩
   have hg : yQ syms x = { x with long := true } := by unfold yQ; rw [if_pos hm]
   rw [hg]
   rw [if_neg (show ¬ decide (x.kind = 2 ∧ true = false) = true by simp), if_pos (show decide (x.kind = 2 ∧ x.long = false) = true by simpa using hs), List.length_cons]
   exact ⟨by omega, fun _ => by omega⟩
  | false =>
   have hg : yQ syms x = x := by unfold yQ; rw [if_neg (by rw [hm]; decide)]
   rw [hg, Bool.false_or]
   split
   ·rw [List.length_cons, List.length_cons]
    exact ⟨by omega, fun h => by have := h2 h; omega⟩
   ·exact ⟨h1, h2⟩
theorem zab.place {shut : List (List zr)} {marks : List Int} {s : Lay} (h : zab shut marks s) : zab shut marks (yR shut marks s).1 :=
 ⟨fun x hx => (zfY s.items 0 (Int.le_refl 0) h.size x hx).1, by show (yn shut s.items 0).1.length ≤ _; rw [zeE]; exact h.items, by show _ = (wx _ _ _ _).length; rw [zbU]; exact h.len, h.marksl, h.pos⟩
theorem zab.grow {shut : List (List zr)} {marks : List Int} {s : Lay} {syms : List zu} (h : zab shut marks s) : zab shut marks ⟨s.items.map (yQ syms), s.syms⟩ :=
 ⟨fun x hx => by obtain ⟨y, hy, rfl⟩ := List.mem_map.1 hx; exact zsD (h.size y hy), by rw [List.length_map]; exact h.items, h.len, h.marksl, h.pos⟩
theorem zoR {av : List D} {L : List Ob} {KP : D → Prop} {KW : D → List Ob → Prop} (q : List zl) (b : Bld) (v : zr) (X : List Ob) (hl : b.syms.length ≤ 1000000) (hL : L = bO q b ++ X) (has : av = [.loc 0 0, yH v])
  (hK : KW (.tup [.int .i64 (zO b.syms v).1, .int .i64 (zO b.syms v).2]) (bO q b ++ X)) : zo Tryz.prog vl av L KP KW := by
 subst has
 exact xr znF X (b, v, q) hl hL (LeL.refl _) rfl (.cons (.loc (Nat.lt_of_lt_of_le (by decide : 0 < 6) (Nat.le_of_eq rfl))) (.cons (zaC v) .nil)) (.tup (.cons .int (.cons .int .nil))) (xl _ _) (xl _ _) hK
theorem zqU {av : List D} {L : List Ob} {KP : D → Prop} {KW : D → List Ob → Prop} (q : List zl) (s : Lay) (marks : List Int) (shut : List (List zr)) (cur : List zr) (fe fa : Int) (X : List Ob) (h : zab shut marks s) (hL : L = bO q ⟨s.items, s.syms, marks, shut, false, cur, fe, fa⟩ ++ X) (has : av = [.loc 0 0])
  (hK : KW (.int .i64 (yR shut marks s).2) (bO q ⟨(yR shut marks s).1.items, (yR shut marks s).1.syms, marks, shut, false, cur, fe, fa⟩ ++ X)) : zo Tryz.prog zal av L KP KW := by
 subst has
 exact xr zoQ X (⟨s.items, s.syms, marks, shut, false, cur, fe, fa⟩, q) ⟨rfl, h.size, h.items, h.len, h.marksl, h.pos⟩ hL (LeL.refl _) rfl (.cons (.loc (Nat.lt_of_lt_of_le (by decide : 0 < 6) (Nat.le_of_eq rfl))) .nil) .int (xl _ _) (xl _ _) hK
theorem zaN (shut : List (List zr)) (marks : List Int) (f : Nat) (s : Lay) : zcw shut marks (f + 1) s = if ((yR shut marks s).1.items.any (xz (yR shut marks s).1.syms)) = false ∨ 8000 < (yR shut marks s).2
      then (⟨(yR shut marks s).1.items.map (yQ (yR shut marks s).1.syms), (yR shut marks s).1.syms⟩, (yR shut marks s).2)
      else zcw shut marks f ⟨(yR shut marks s).1.items.map (yQ (yR shut marks s).1.syms), (yR shut marks s).1.syms⟩ := rfl
theorem zoS : za Tryz.prog zeU (ya (fun ((s, marks, shut, _, _, _, _) : Lay × List Int × List (List zr) × List zr × Int × Int × List zl) => zab shut marks s) (fun _ => [.loc 0 0])
  (fun (s, marks, shut, cur, fe, fa, q) => bO q ⟨s.items, s.syms, marks, shut, false, cur, fe, fa⟩) (fun (s, marks, shut, _, _, _, _) => .int .i64 (yK shut marks s).2)
  fun (s, marks, shut, cur, fe, fa, q) => bO q ⟨(yK shut marks s).1.items, (yK shut marks s).1.syms, marks, shut, false, cur, fe, fa⟩) := by
 refine zf zj Tryz.func39 rfl (by decide) ?_
 rintro ⟨s, marks, shut, cur, fe, fa, q⟩ h
 have h : zab shut marks s := h
 refine ⟨Nat.le_refl _, by simp [Tryz.f39], fun E hE => ?_⟩
 have hE6 : E.L.length = 6 := by rw [hE]; rfl
 show AWP _ _ _ _ (vS _ _ _ (.int .i64 (yK shut marks s).2) (bO q ⟨(yK shut marks s).1.items, (yK shut marks s).1.syms, marks, shut, false, cur, fe, fa⟩)) _ (bO q ⟨s.items, s.syms, marks, shut, false, cur, fe, fa⟩)
 generalize hT : yK shut marks s = T
 have hT : zcw shut marks (xH s.items + 1) s = T := hT
 refine ze _ ?_
 (all_goals refine qgp (Lf.mk ?_))
 refine y5 (α := Nat × Lay) (fun p => zcw shut marks p.1 p.2 = T ∧ xH p.2.items < p.1 ∧ zab shut marks p.2) (fun _ => [(0, .loc 0 0)]) (fun p => bO q ⟨p.2.items, p.2.syms, marks, shut, false, cur, fe, fa⟩) (fun p => p.1)
  (fun _ => by rw [hE6]; exact Nat.le_refl 6) (xH s.items + 1, s) ⟨hT, Nat.lt_succ_self _, h⟩ ?_ ?_
 ·exact yv rfl ⟨rfl, trivial⟩
 rintro ⟨f, s1⟩ ⟨i1, i2, i3⟩
 dsimp only at i1 i2 i3 ⊢
 obtain ⟨f, rfl⟩ : ∃ g, f = g + 1 := ⟨f - 1, by omega⟩
 rw [zaN] at i1
 have hpl := i3.place
 have hat : ∀ x ∈ (yR shut marks s1).1.items, 0 ≤ x.at_ ∧ x.at_ ≤ 1000000000000000 := fun x hx => by
  obtain ⟨_, h1, h2⟩ := zfY s1.items 0 (Int.le_refl 0) i3.size x hx
  have := i3.items
  exact ⟨h1, by omega⟩
 have hsh : xH (yR shut marks s1).1.items = xH s1.items := zcy shut s1.items 0
 refine ze _ ?_
 (all_goals refine qgp (Lf.mk ?_))
 refine zqU q s1 marks shut cur fe fa [] i3 rfl rfl ?_
 generalize yR shut marks s1 = P at *
 obtain ⟨⟨PI, PS⟩, n⟩ := P
 dsimp only at i1 hpl hat hsh ⊢
 have hPIl : PI.length ≤ 1000000 := hpl.items
 have hgs := zeF PS PI
 have hgl := hpl.grow (syms := PS)
 dsimp only at hgl
 (all_goals refine qgp (Lf.mk ?_))
 refine y5 (α := Nat) (fun k => k ≤ PI.length) (fun k => [(0, .loc 0 0), (3, .int .i64 n), (4, .bool ((PI.take k).any (xz PS))), (17, .int .i64 PI.length), (18, .int .i64 k)])
  (fun k => bO q ⟨(PI.take k).map (yQ PS) ++ PI.drop k, PS, marks, shut, false, cur, fe, fa⟩) (fun k => PI.length - k) (fun _ => by rw [hE6]; exact Nat.le_refl 6) 0 (Nat.zero_le _) ?_ ?_
 ·exact zhE rfl ⟨.refl _, .refl _, .ff rfl, .refl _, .refl _, trivial⟩
 intro k hk
 have hk : k ≤ PI.length := hk
 refine ze _ ?_
 (all_goals refine qgp ?_ <;> (repeat' first | exact trivial | intro hc | refine And.intro ?_ ?_) <;> refine Lf.mk ?_)
 ·have hkl : k < PI.length := by omega
  obtain ⟨x, hx⟩ := yj (l := PI) (k := k) (by omega)
  have hgx : PI[k] = x := by rw [List.getElem?_eq_getElem hkl] at hx; exact Option.some.inj hx
  have hxa := hat x (List.mem_of_getElem? hx)
  have hdrop : PI.drop k = x :: PI.drop (k + 1) := by rw [List.drop_eq_getElem_cons hkl, hgx]
  have htake : (PI.take (k + 1)).map (yQ PS) = (PI.take k).map (yQ PS) ++ [yQ PS x] := by rw [List.take_succ_eq_append_getElem hkl, hgx, List.map_append]; rfl
  have hany : (PI.take (k + 1)).any (xz PS) = ((PI.take k).any (xz PS) || xz PS x) := by rw [List.take_succ_eq_append_getElem hkl, hgx, List.any_append, List.any_cons, List.any_nil, Bool.or_false]
  have hGl : ((PI.take k).map (yQ PS)).length = k := by rw [List.length_map, List.length_take]; omega
  rw [hdrop]
  generalize (PI.take k).map (yQ PS) = G at *
  generalize (PI.take k).any (xz PS) = c at *
  have hmid := zdR (a := G) (b := PI.drop (k + 1)) (x := x) hGl
  have hget : (G ++ x :: PI.drop (k + 1))[(((0 + ((k : Nat) : Int).toNat : Nat)) : Int).toNat]? = some x := by rw [Int.toNat_natCast, Nat.zero_add, Int.toNat_natCast]; exact hmid
  have hno : xz PS x = false → yQ PS x = x := fun h => by unfold yQ; rw [if_neg (by rw [h]; decide)]
  have hyes : xz PS x = true → yQ PS x = { x with long := true } := fun h => by unfold yQ; rw [if_pos h]
  have hms : xz PS x = decide (x.kind = 2 ∧ x.long = false ∧ (zO PS x.val).2 = 0 ∧ (xK x.ins.op x.at_ (zO PS x.val).1).2 = 3) := rfl
  have hLn : xz PS x = false → bO q ⟨G ++ x :: PI.drop (k + 1), PS, marks, shut, false, cur, fe, fa⟩ = bO q ⟨(PI.take (k + 1)).map (yQ PS) ++ PI.drop (k + 1), PS, marks, shut, false, cur, fe, fa⟩ := fun h => by rw [htake, hno h, List.append_assoc]; rfl
  have hAn : xz PS x = false → (PI.take (k + 1)).any (xz PS) = c := fun h => by rw [hany, h, Bool.or_false]
  have stop : ∀ {σ : List (Nat × D)}, xz PS x = false → zeg σ [(0, .loc 0 0), (3, .int .i64 n), (4, .bool c), (17, .int .i64 PI.length), (18, .int .i64 ((k : Int) + 1))] →
    zt E.L.length (fun k => k ≤ PI.length) (fun k => [(0, .loc 0 0), (3, .int .i64 n), (4, .bool ((PI.take k).any (xz PS))), (17, .int .i64 PI.length), (18, .int .i64 k)])
     (fun k => bO q ⟨(PI.take k).map (yQ PS) ++ PI.drop k, PS, marks, shut, false, cur, fe, fa⟩) (fun k => PI.length - k) k σ (bO q ⟨G ++ x :: PI.drop (k + 1), PS, marks, shut, false, cur, fe, fa⟩) := fun {σ} hm hs =>
   yP (k + 1) (by show k + 1 ≤ _; omega) (by omega) (hLn hm) (by rw [hAn hm]; exact hs)
  refine zk x (Int.natCast_nonneg _) hget ?_
  (all_goals refine qgp ?_ <;> (repeat' first | exact trivial | intro hc | refine And.intro ?_ ?_) <;> refine Lf.mk ?_)
  ·refine stop (by rw [hms]; simp [hc]) ?_
   exact ⟨rfl, rfl, rfl, rfl, rfl, trivial⟩
  refine zk x (Int.natCast_nonneg _) hget ?_
  (all_goals refine qgp ?_ <;> (repeat' first | exact trivial | intro hc | refine And.intro ?_ ?_) <;> refine Lf.mk ?_)
  ·refine stop (by rw [hms]; simp [hc]) ?_
   exact ⟨rfl, rfl, rfl, rfl, rfl, trivial⟩
  refine zk x (Int.natCast_nonneg _) hget ?_
  (all_goals refine qgp (Lf.mk ?_))
  refine zoR q ⟨G ++ x :: PI.drop (k + 1), PS, marks, shut, false, cur, fe, fa⟩ x.val [] (by show PS.length ≤ _; have := hpl.len; have := hpl.marksl; dsimp only at *; omega) rfl rfl ?_
  rw [show Bld.syms ⟨G ++ x :: PI.drop (k + 1), PS, marks, shut, false, cur, fe, fa⟩ = PS from rfl]
  generalize zO PS x.val = W at *
  obtain ⟨to, e⟩ := W
  dsimp only at hms ⊢
  (all_goals refine qgp ?_ <;> (repeat' first | exact trivial | intro hc | refine And.intro ?_ ?_) <;> refine Lf.mk ?_)
  ·refine zk x (Int.natCast_nonneg _) hget ?_
   (all_goals refine qgp (Lf.mk ?_))
   refine zk x (Int.natCast_nonneg _) hget ?_
   (all_goals refine qgp (Lf.mk ?_))
   refine zb zi1 (x.ins.op, x.at_, to) hxa (VS.mk (LeL.of_eq rfl)) ?_
   (all_goals refine qgk ?_ <;> (repeat' first | exact trivial | intro hc | refine And.intro ?_ ?_) <;> refine Lf.mk ?_)
   ·have hm : xz PS x = true := by rw [hms]; simp [*]
    refine zk x (Int.natCast_nonneg _) hget ?_
    (all_goals refine qgk (Lf.mk ?_))
    refine jE ?_
    (all_goals refine qgk (Lf.mk ?_))
    refine zkA (k + 1) (by show k + 1 ≤ _; omega) (by omega) (wo (ztC (k := 1) (e := 13) ((G ++ { x with long := true } :: PI.drop (k + 1)).map xp) rfl (by simp) ?_) (zhE ?_ ⟨.refl _, .refl _, ?_, .refl _, .refl _, trivial⟩))
    ·rw [← zhO (f := xp) (x := x) { x with long := true } hGl rfl]
     exact zvw (.cons (.refl _) (.cons (.refl _) (.cons (.refl _) (.cons (.refl _) (.cons (.refl _) (.cons (.refl _) (.cons (.refl _) (.cons (.tt rfl) (LeL.refl _)))))))))
    ·dsimp only
     rw [htake, hyes hm, List.append_assoc]
     exact congrArg (fun c => Ob.cells c :: bT ⟨G ++ { x with long := true } :: PI.drop (k + 1), PS, marks, shut, false, cur, fe, fa⟩) (zgH (by simp) rfl rfl rfl rfl rfl rfl)
    ·rw [hany, hm, Bool.or_true]
     exact .tt rfl
   ·refine stop (by rw [hms]; simp [hc]) ?_
    exact ⟨rfl, rfl, rfl, rfl, rfl, trivial⟩
  ·refine stop (by rw [hms]; simp [hc]) ?_
   exact ⟨rfl, rfl, rfl, rfl, rfl, trivial⟩
 all_goals
  have hk2 : k = PI.length := by omega
  have hT : PI.take k = PI := by rw [hk2, List.take_length]
  have hD : PI.drop k = [] := by rw [hk2, List.drop_length]
  rw [hT, hD, List.append_nil]
 ·rw [hT] at hc
  rw [if_pos (.inl hc)] at i1
  subst i1
  exact xx rfl rfl
 ·rw [if_pos (.inr hc)] at i1
  subst i1
  exact xx rfl rfl
 ·have hany : (PI.take k).any (xz PS) = true := by assumption
  rw [hT] at hany
  rw [if_neg (fun h => h.elim (fun h => by rw [hany] at h; cases h) (fun h => by omega))] at i1
  have := hgs.2 hany
  exact yP (f, ⟨PI.map (yQ PS), PS⟩) ⟨i1, by dsimp only; omega, hgl⟩ (by dsimp only; omega) rfl ⟨rfl, trivial⟩
end Go.Proofs.YthmdddenbfbefaaGreatDoor
