/-
  A part of the proof: what the given program's functions answer, each once; conditions that are enough for it.
-/
import Derived.Test.YtnkdeacghopkiaaGreatDoorSt1
import Derived.Test.YtnkdeacghopkiaaGreatDoorFw3
namespace Go.Proofs.YtnkdeacghopkiaaGreatDoor
open Go Go.Plat
set_option linter.unusedVariables false
set_option linter.unusedSimpArgs false
set_option maxRecDepth 100000
set_option maxHeartbeats 2000000
attribute [local irreducible] AWP zN yv zU zo yC yh zG yb yf zx za zY yz zr yg yx yy yn yo zw zy zT
structure zd6 where
 at_ : Int
 size : Int
 name : List UInt8
 add : Int
 deriving DecidableEq
structure zad where
 code : List UInt8
 syms : List zZ
 rels : List zd6
 deriving DecidableEq
def jE (r : zd6) : D := .agg [.int .i64 r.at_, .int .i64 r.size, .str r.name, .int .i64 r.add]
def zmq (o : zad) : D := .agg [zm o.code, .sl 2 (o.syms.map xm) none, .sl 4 (o.rels.map jE) none]
def vz (n : Int) : List zZ → List (List UInt8) → Option Int
 | [], _ => none
 | s :: l, had => if yQ s.name = false ∨ s.name ∈ had then some 7 else if s.at_ < 0 ∨ n < s.at_ then some 3 else vz n l (s.name :: had)
def kJ (n : Int) : List zd6 → Int → Int
 | [], _ => 0
 | r :: l, last => if r.size ≠ 2 ∧ r.size ≠ 4 then 1 else if r.at_ < last ∨ n - r.size < r.at_ then 3 else if r.at_ % r.size ≠ 0 then 11 else if r.name ≠ [] ∧ yQ r.name = false then 7 else if zE r.add 32 ≠ r.add then 3 else kJ n l (r.at_ + r.size)
def xA (o : zad) : Int := if 8000 < o.code.length ∨ 255 < o.syms.length ∨ 16000 < o.rels.length then 4 else match vz o.code.length o.syms [] with
 | some e => e
 | none => kJ o.code.length o.rels 0
def kx (l : List zZ) : List (D × D) := l.map fun s => (.str s.name, .tt)
theorem zj0 (l : List zZ) : ∀ p ∈ kx l, kF .str p.1 = true := by
 intro p hp
 obtain ⟨r, _, rfl⟩ := List.mem_map.1 hp
 rfl
theorem zsI {m : Nat → Option Nat} (l : List zZ) : ∀ p ∈ kx l, xk m p.2 p.2 := by
 intro p hp
 obtain ⟨r, _, rfl⟩ := List.mem_map.1 hp
 exact y8 trivial
theorem zjg (n : List UInt8) : ∀ l : List zZ, (¬ n ∈ l.map (·.name)) → vl (.str n) (kx l) = none
 | [], _ => rfl
 | s :: l, h => by
  have h1 : (n == s.name) = false := beq_eq_false_iff_ne.2 fun e => h (by simp [e])
  simp only [kx, List.map_cons, vl, za6, h1]
  have := zjg n l fun hm => h (by simp at hm ⊢; exact .inr hm)
  unfold kx at this
  rw [this]
  rfl
theorem zoP {n : List UInt8} : ∀ {l : List zZ}, n ∈ l.map (·.name) → vG (.str n) (kx l) = some .tt
 | [], h => by simp at h
 | s :: l, h => by
  by_cases h1 : n = s.name
  ·subst h1
   simp [vG, kx, vl, za6]
  ·have h2 : (n == s.name) = false := beq_eq_false_iff_ne.2 h1
   have h3 : n ∈ l.map (·.name) := by
    simp only [List.map_cons, List.mem_cons] at h
    exact h.resolve_left h1
   have := zoP h3
   unfold vG kx at this ⊢
   simp only [List.map_cons, vl, za6, h2]
   revert this
   cases vl (.str n) (l.map fun s => (D.str s.name, D.tt)) with
   | none => intro h; cases h
   | some j => intro h; simpa using h
theorem zsJ {n : List UInt8} {l : List zZ} (h : ¬ n ∈ l.map (·.name)) : vG (.str n) (kx l) = none := by unfold vG; rw [zjg n l h]; rfl
theorem zuf {s : zZ} {l : List zZ} (h : ¬ s.name ∈ l.map (·.name)) : za7 (.str s.name) .tt (kx l) = kx (l ++ [s]) := by
 rw [zco (zjg _ _ h)]
 simp [kx]
theorem zsK {m : Nat → Option Nat} {K : Prop} (l : List zZ) (h : K) : zi1 m (kx l) K := ⟨zsI l, h⟩
theorem zsL {m : Nat → Option Nat} {K : Prop} (h : K) : zi1 m [] K := ⟨by simp, h⟩
theorem zsM : kx [] = [] := rfl
attribute [local irreducible] zI ym yq yQ kx zi1 zE
theorem zmr : za Tryz.prog znH (zz (fun o : zad => (∀ r ∈ o.rels, -9223372036854775808 ≤ r.at_ ∧ r.at_ ≤ 9223372036854775807 ∧ r.name.length ≤ 1000000000) ∧ ∀ s ∈ o.syms, s.name.length ≤ 1000000000) (fun o => [zmq o]) fun o => .int .i64 (xA o)) := by
 refine ze zi Tryz.func40 rfl (by decide) ?_
 rintro o ⟨ho, hs⟩
 refine ⟨Nat.le_refl _, by simp [Tryz.f40], fun E hE => ?_⟩
 refine zb _ ?_
 (all_goals refine qgo ?_ <;> (repeat' first | exact trivial | intro hc | refine And.intro ?_ ?_) <;> refine Lf.mk ?_)
 ·refine zf (VS.mk (LeD.of_eq (congrArg (D.int .i64) ?_)))
  unfold xA; rw [if_pos (by omega)]
 ·refine zf (VS.mk (LeD.of_eq (congrArg (D.int .i64) ?_)))
  unfold xA; rw [if_pos (by omega)]
 ·refine zf (VS.mk (LeD.of_eq (congrArg (D.int .i64) ?_)))
  unfold xA; rw [if_pos (by omega)]
 have hw : xA o = match vz o.code.length o.syms [] with
   | some e => e
   | none => kJ o.code.length o.rels 0 := by unfold xA; rw [if_neg (by omega)]
 refine yu (α := Nat) (fun k => k ≤ o.syms.length ∧ vz o.code.length o.syms [] = vz o.code.length (o.syms.drop k) ((o.syms.take k).map (·.name)).reverse)
  (fun k => [(27, .sl 2 (o.syms.map xm) none), (28, .int .i64 o.syms.length), (29, .int .i64 k), (1, .loc 0 0), (3, .mp 1)])
  (fun k => [.cells [zm o.code, .sl 2 (o.syms.map xm) none, .sl 4 (o.rels.map jE) none], .map (kx (o.syms.take k))]) (fun k => o.syms.length - k) (fun _ => by simp [hE]) 0 ⟨Nat.zero_le _, by simp⟩ ?_ ?_
 ·(repeat' (first | (refine VS.mk ?_) | exact trivial | exact rfl | refine And.intro ?_ ?_))
  refine zsL ?_
  refine VS.mk ?_
  rw [List.take_zero, zsM]
  rfl
 rintro k ⟨hk, hsw⟩
 refine zb _ ?_
 (all_goals refine qgo ?_ <;> (repeat' first | exact trivial | intro hc | refine And.intro ?_ ?_) <;> refine Lf.mk ?_)
 ·obtain ⟨s, hsk⟩ := yi (l := o.syms) (k := k) (by omega)
  have hkl : k < o.syms.length := by omega
  have hsm := hs s (List.mem_of_getElem? hsk)
  have hget : o.syms[k] = s := by rw [List.getElem?_eq_getElem hkl] at hsk; exact Option.some.inj hsk
  rw [List.drop_eq_getElem_cons hkl, hget] at hsw
  have htake : o.syms.take (k + 1) = o.syms.take k ++ [s] := by rw [List.take_succ_eq_append_getElem hkl, hget]
  have hmem : ∀ n : List UInt8, n ∈ ((o.syms.take k).map (·.name)).reverse ↔ n ∈ (o.syms.take k).map (·.name) := fun n => List.mem_reverse
  refine zk s (by omega) (by simpa using hsk) ?_
  (all_goals refine qgo (Lf.mk ?_))
  refine zd zdS s.name hsm (VS.mk (by (first | exact LeL.refl _ | (repeat' (first | exact LeL.nil | exact LeD.refl _ | exact LeD.nil _ | exact LeD.strip _ _ _ | refine LeL.cons ?_ ?_ | refine LeD.tup ?_ | refine LeD.agg ?_))))) ?_
  (all_goals refine qgo ?_ <;> (repeat' first | exact trivial | intro hc | refine And.intro ?_ ?_) <;> refine Lf.mk ?_)
  ·refine zf (VS.mk (LeD.of_eq (congrArg (D.int .i64) ?_)))
   rw [hw, hsw, vz, if_pos (.inl hc)]
  refine yY (zj0 _) ?_
  refine VS.mk ?_
  by_cases hin : s.name ∈ (o.syms.take k).map (·.name)
  ·refine ka (zoP hin) ?_
   (all_goals refine qgo (Lf.mk ?_))
   any_goals (refine zf (VS.mk (LeD.of_eq (congrArg (D.int .i64) ?_))))
   any_goals rw [hw, hsw, vz, if_pos (.inr ((hmem _).2 hin))]
  ·refine ztE (zsJ hin) ?_
   (all_goals refine qgo (Lf.mk ?_))
   refine yY (zj0 _) ?_
   refine VS.mk ?_
   refine jt (zuf hin) ?_
   have hstep : ¬ (yQ s.name = false ∨ s.name ∈ ((o.syms.take k).map (·.name)).reverse) := by
    rintro (h | h)
    ·rw [hc] at h; cases h
    ·exact hin ((hmem _).1 h)
   (all_goals refine qgo ?_ <;> (repeat' first | exact trivial | intro hc | refine And.intro ?_ ?_) <;> refine Lf.mk ?_)
   ·refine zf (VS.mk (LeD.of_eq (congrArg (D.int .i64) ?_)))
    rw [hw, hsw, vz, if_neg hstep, if_pos (.inl hc)]
   ·refine zf (VS.mk (LeD.of_eq (congrArg (D.int .i64) ?_)))
    rw [hw, hsw, vz, if_neg hstep, if_pos (.inr hc)]
   ·have hnew : vz o.code.length o.syms [] = vz o.code.length (o.syms.drop (k + 1)) ((o.syms.take (k + 1)).map (·.name)).reverse := by
     rw [hsw, vz, if_neg hstep, if_neg (by omega), htake]
     simp
    refine zL (k + 1) ⟨by omega, hnew⟩ (by omega) ?_
    rw [htake]
    (repeat' (first | (refine VS.mk ?_) | exact trivial | exact rfl | refine And.intro ?_ ?_))
    refine zsK _ ?_
    refine VS.mk ?_
    rfl
 ·obtain rfl : k = o.syms.length := by omega
  rw [List.drop_length, vz] at hsw
  rw [hsw] at hw
  have hw : xA o = kJ o.code.length o.rels 0 := hw
  refine yu (α := Nat × Int) (fun p => p.1 ≤ o.rels.length ∧ 0 ≤ p.2 ∧ p.2 ≤ 8000 ∧ kJ o.code.length o.rels 0 = kJ o.code.length (o.rels.drop p.1) p.2)
   (fun p => [(59, .sl 4 (o.rels.map jE) none), (60, .int .i64 o.rels.length), (61, .int .i64 p.1), (1, .loc 0 0), (6, .int .i64 p.2)])
   (fun _ => [.cells [zm o.code, .sl 2 (o.syms.map xm) none, .sl 4 (o.rels.map jE) none]]) (fun p => o.rels.length - p.1) (fun _ => by simp [hE]) (0, 0) ⟨Nat.zero_le _, by decide, by decide, by simp⟩ ?_ ?_
  ·(repeat' (first | (refine VS.mk ?_) | exact trivial | exact rfl | refine And.intro ?_ ?_))
  rintro ⟨k, last⟩ ⟨hk, hl0, hl1, hrw⟩
  dsimp only at hk hl0 hl1 hrw ⊢
  refine zb _ ?_
  (all_goals refine qgo ?_ <;> (repeat' first | exact trivial | intro hc | refine And.intro ?_ ?_) <;> refine Lf.mk ?_)
  ·obtain ⟨r, hrk⟩ := yi (l := o.rels) (k := k) (by omega)
   have hkl : k < o.rels.length := by omega
   obtain ⟨hr1, hr2, hr3⟩ := ho r (List.mem_of_getElem? hrk)
   have hget : o.rels[k] = r := by rw [List.getElem?_eq_getElem hkl] at hrk; exact Option.some.inj hrk
   rw [List.drop_eq_getElem_cons hkl, hget] at hrw
   rw [hrw, kJ] at hw
   refine zk r (by omega) (by simpa using hrk) ?_
   (all_goals refine qgo ?_ <;> (repeat' first | exact trivial | intro hc | refine And.intro ?_ ?_) <;> refine Lf.mk ?_)
   any_goals (refine zd zdS r.name hr3 (VS.mk (LeL.of_eq rfl)) ?_)
   (all_goals refine qgo ?_ <;> (repeat' first | exact trivial | intro hc | refine And.intro ?_ ?_) <;> refine Lf.mk ?_)
   any_goals (refine zd wa r.add trivial (VS.mk (LeL.of_eq rfl)) ?_)
   (all_goals refine qgo ?_ <;> (repeat' first | exact trivial | intro hc | refine And.intro ?_ ?_) <;> refine Lf.mk ?_)
   any_goals (refine zf (VS.mk (LeD.of_eq (congrArg (D.int .i64) ?_))); rw [hw])
   any_goals first
    | (rw [if_pos] <;> omega)
    | (rw [if_neg, if_pos] <;> omega)
    | (rw [if_neg, if_neg, if_pos] <;> omega)
    | (rw [if_neg, if_neg, if_neg, if_pos] <;> first | omega | (refine ⟨?_, ?_⟩ <;> assumption))
    | (rw [if_neg, if_neg, if_neg, if_neg, if_pos] <;> first | omega | assumption | (rintro ⟨h1, h2⟩; simp_all))
    | skip
   all_goals (
    have hnew : kJ o.code.length o.rels 0 = kJ o.code.length (o.rels.drop (k + 1)) (r.at_ + r.size) := by
     rw [hrw, kJ]
     rw [if_neg, if_neg, if_neg, if_neg, if_neg]
     all_goals first
      | omega
      | exact fun h => h (by assumption)
      | (rintro ⟨h1, h2⟩; simp_all; done)
    refine zL (k + 1, r.at_ + r.size) ⟨by (dsimp only; omega), by (dsimp only; omega), by (dsimp only; omega), hnew⟩ (by dsimp only; omega) ?_
    (repeat' (first | (refine VS.mk ?_) | exact trivial | exact rfl | refine And.intro ?_ ?_)))
  ·refine zf (VS.mk (LeD.of_eq (congrArg (D.int .i64) ?_)))
   rw [hw, hrw, List.drop_of_length_le (by omega)]
   rfl
end Go.Proofs.YtnkdeacghopkiaaGreatDoor
namespace Go.Proofs.YtnkdeacghopkiaaGreatDoor
open Go Go.Plat
set_option linter.unusedVariables false
set_option linter.unusedSimpArgs false
set_option maxRecDepth 100000
set_option maxHeartbeats 2000000
attribute [local irreducible] AWP zN yv zU zo yC yh zG yb yf zx za zY yz zr yg yx yy yn yo zw zy zT
def tk (t : yJ) : zbb := ⟨t.kind, t.n, t.text⟩
theorem zsN (l : List yJ) : l.map wC = (l.map tk).map zsA := by rw [List.map_map]; rfl
structure AOp where
 sign : List UInt8
 reg : Int
 val : zq
def vP (o : AOp) : D := .agg [.str o.sign, .int .i64 o.reg, .str o.val.name, .int .i64 o.val.n]
def noV : zq := ⟨[], 0⟩
def xN : List (List UInt8) := [[48], [49], [50], [51], [52], [53], [54], [55], [56], [57], [49, 48], [49, 49], [49, 50], [49, 51], [49, 52], [49, 53]]
def ww (t : yJ) : Int := if t.kind = 1 ∧ t.text.headD 0 = 114 then wT (t.text.drop 1) xN 0 else -1
structure RB where
 rest : List yJ
 fe : Int
 fa : Int
def vA (s : RB) (e line : Int) : RB := if s.fe = 0 then ⟨s.rest, e, line⟩ else s
def zH (c : List UInt8) (s : RB) : Bool × RB := match s.rest with
 | t :: r => if t.kind = 3 ∧ t.text = c then (true, ⟨r, s.fe, s.fa⟩) else (false, s)
 | [] => (false, s)
def xJ (q : List zj) (line : Int) (s : RB) : zq × RB :=
 if (xI (s.rest.map tk)).2.2 = 0 then
  ((xf q (xI (s.rest.map tk)).1).1, if (xf q (xI (s.rest.map tk)).1).2 = 0 then ⟨s.rest.drop (xI (s.rest.map tk)).2.1.toNat, s.fe, s.fa⟩
    else vA ⟨s.rest.drop (xI (s.rest.map tk)).2.1.toNat, s.fe, s.fa⟩ (xf q (xI (s.rest.map tk)).1).2 line)
 else (noV, vA s (xI (s.rest.map tk)).2.2 line)
def qC (s : RB) : List UInt8 × RB :=
 if (zH [35] s).1 = true then ([35], (zH [35] s).2) else if (zH [64] s).1 = true then ([64], (zH [64] s).2) else if (zH [61] s).1 = true then ([61], (zH [61] s).2) else ([], s)
def zjh : List yJ → Int
 | [] => -1
 | t :: _ => ww t
def zae (q : List zj) (line : Int) (sg : List UInt8) (s : RB) : AOp × RB :=
 if (sg = [] ∨ sg = [64]) ∧ 0 ≤ zjh s.rest then (⟨if sg = [] then [114] else sg, zjh s.rest, noV⟩, ⟨s.rest.drop 1, s.fe, s.fa⟩)
 else if sg = [64] then (⟨sg, 0, noV⟩, vA s 2 line)
 else (⟨sg, 0, (xJ q line s).1⟩, (xJ q line s).2)
def yR (q : List zj) (line : Int) (s : RB) : AOp × RB := zae q line (qC s).1 (qC s).2
def xB (line : Int) (s : RB) : RB := if (zH [44] s).1 = false ∨ (zH [44] s).2.rest = [] then vA (zH [44] s).2 2 line else (zH [44] s).2
def ja (q : List zj) (line : Int) : Nat → List AOp → RB → List AOp × RB
 | 0, out, s => (out, s)
 | f + 1, out, s => if s.rest = [] ∨ s.fe ≠ 0 then (out, s) else if (yR q line s).2.rest = [] then (out ++ [(yR q line s).1], (yR q line s).2)
  else ja q line f (out ++ [(yR q line s).1]) (xB line (yR q line s).2)
def xn (q : List zj) (line : Int) (s : RB) : List AOp × RB := ja q line (s.rest.length + 1) [] s
def sgA (o : AOp) : List UInt8 := if o.sign = [] then [112] else o.sign
def xO (l : List AOp) : List UInt8 := (l.map sgA).flatten
def yF (s : List UInt8) : List Int :=
 if s = [] then [0] else if s = [35, 114] then [1] else if s = [114, 114] then [2] else if s = [114] then [3] else if s = [112] then [4, 5] else if s = [64] then [6]
 else if s = [112, 114] then [7, 8] else if s = [114, 64] then [9] else if s = [64, 114] then [10] else if s = [35] then [11] else []
structure zD where
 kind : Int
 at_ : Int
 line : Int
 ins : Ins
 long : Bool
 size : Int
 val : zq
 pool : Int
 idx : Int
def zvL (x : zD) : List D := [.int .i64 x.kind, .int .i64 x.at_, .int .i64 x.line, .int .i64 x.ins.op, .int .i64 x.ins.n, .int .i64 x.ins.m, .int .i64 x.ins.imm, .bool x.long, .int .i64 x.size,
 .str x.val.name, .int .i64 x.val.n, .int .i64 x.pool, .int .i64 x.idx]
def xa (x : zD) : D := .agg (zvL x)
def noI : Ins := ⟨0, 0, 0, 0⟩
structure Bld where
 items : List zD
 syms : List zZ
 marks : List Int
 shut : List (List zq)
 has : Bool
 cur : List zq
 fe : Int
 fa : Int
def yt (b : Bld) (e line : Int) : Bld := if b.fe = 0 then { b with fe := e, fa := line } else b
def xq (b : Bld) (x : zD) : Bld := { b with items := b.items ++ [x] }
def wd (v : zq) : List zq → Nat → Int
 | [], _ => -1
 | x :: l, k => if x.name = v.name ∧ x.n = v.n then k else wd v l (k + 1)
def wV (v : zq) (l : List zq) : List zq := if wd v l 0 < 0 then l ++ [v] else l
def wW (v : zq) (l : List zq) : Int := if wd v l 0 < 0 then l.length else wd v l 0
def qW (b : Bld) (v : zq) (reg line : Int) : Bld :=
 xq { b with has := true, cur := wV v b.cur } ⟨6, 0, line, ⟨24, reg, 0, 0⟩, false, 0, noV, b.shut.length, wW v b.cur⟩
def vS (b : Bld) (line : Int) : Bld :=
 if b.has = true then { xq b ⟨9, 0, line, noI, false, 0, noV, b.shut.length, 0⟩ with shut := b.shut ++ [b.cur], has := false, cur := [] } else b
def xw (name : List UInt8) : List Int → Int × Int → Int × Int
 | [], p => p
 | s :: l, p => xw name l (if 0 < wU name s then (wU name s, s) else p)
def aop (l : List AOp) (k : Nat) : AOp := (l[k]?).getD ⟨[], 0, noV⟩
def wx (op shape : Int) (l : List AOp) (line : Int) : zD :=
 if shape = 1 then ⟨1, 0, line, ⟨op, (aop l 1).reg, 0, (aop l 0).val.n⟩, false, 0, (aop l 0).val, 0, 0⟩
 else if shape = 2 ∨ shape = 9 ∨ shape = 10 then ⟨1, 0, line, ⟨op, (aop l 1).reg, (aop l 0).reg, 0⟩, false, 0, noV, 0, 0⟩
 else if shape = 3 ∨ shape = 6 then ⟨1, 0, line, ⟨op, (aop l 0).reg, 0, 0⟩, false, 0, noV, 0, 0⟩
 else if shape = 4 then ⟨2, 0, line, ⟨op, 0, 0, 0⟩, false, 0, (aop l 0).val, 0, 0⟩
 else if shape = 5 then ⟨3, 0, line, ⟨op, 0, 0, 0⟩, false, 0, (aop l 0).val, 0, 0⟩
 else if shape = 7 then ⟨4, 0, line, ⟨op, (aop l 1).reg, 0, 0⟩, false, 0, (aop l 0).val, 0, 0⟩
 else if shape = 8 then ⟨5, 0, line, ⟨op, (aop l 1).reg, 0, 0⟩, false, 0, (aop l 0).val, 0, 0⟩
 else if shape = 11 then ⟨1, 0, line, ⟨op, 0, 0, (aop l 0).val.n⟩, false, 0, (aop l 0).val, 0, 0⟩
 else ⟨1, 0, line, ⟨op, 0, 0, 0⟩, false, 0, noV, 0, 0⟩
def xj (b : Bld) (name : List UInt8) (l : List AOp) (line : Int) : Bld :=
 if name = [109, 111, 118, 46, 108] ∧ l.length = 2 ∧ (aop l 0).sign = [61] ∧ (aop l 1).sign = [114] then qW b (aop l 0).val (aop l 1).reg line
 else if (xw name (yF (xO l)) (0, 0)).1 = 0 then yt b 1 line
 else if ((xw name (yF (xO l)) (0, 0)).2 = 1 ∨ (xw name (yF (xO l)) (0, 0)).2 = 11) ∧ (aop l 0).val.name ≠ [] then yt b 8 line
 else if yS (wx (xw name (yF (xO l)) (0, 0)).1 (xw name (yF (xO l)) (0, 0)).2 l line).ins = 0
  then xq b (wx (xw name (yF (xO l)) (0, 0)).1 (xw name (yF (xO l)) (0, 0)).2 l line)
 else yt b (yS (wx (xw name (yF (xO l)) (0, 0)).1 (xw name (yF (xO l)) (0, 0)).2 l line).ins) line
def zu4 (size : Int) : Int := if size = 1 then -128 else if size = 2 then -32768 else -2147483648
def ztx (size : Int) : Int := if size = 1 then 255 else if size = 2 then 65535 else 4294967295
def wH (size line : Int) (b : Bld) (o : AOp) : Bld :=
 xq (if o.sign ≠ [] then yt b 2 line else if o.val.name ≠ [] ∧ size = 1 then yt b 8 line else if o.val.name = [] ∧ (o.val.n < zu4 size ∨ ztx size < o.val.n) then yt b 3 line else b)
  ⟨7, 0, line, noI, false, size, o.val, 0, 0⟩
def kK (b : Bld) (size : Int) (l : List AOp) (line : Int) : Bld := l.foldl (wH size line) (if l = [] then yt b 2 line else b)
def qv (b : Bld) (l : List AOp) (line : Int) : Bld :=
 if l.length ≠ 1 ∨ (aop l 0).sign ≠ [] ∨ (aop l 0).val.name ≠ [] then yt b 2 line
 else if (aop l 0).val.n ≠ 1 ∧ (aop l 0).val.n ≠ 2 ∧ (aop l 0).val.n ≠ 4 ∧ (aop l 0).val.n ≠ 8 ∧ (aop l 0).val.n ≠ 16 then yt b 3 line
 else xq b ⟨8, 0, line, noI, false, (aop l 0).val.n, noV, 0, 0⟩
theorem zpV : za Tryz.prog zja (zz (fun n : Int => -9223372036854775808 ≤ n ∧ n ≤ 9223372036854775807) (fun n => [.int .i64 n]) fun n => .str (Lib.itoa n)) := by
 refine jh ⟨_, Tryz.func11, by decide, rfl⟩ ?_
 intro n hn w F hg vs hl hv
 match vs, hl with
 | [v], _ =>
  cases hv 0 _ v rfl rfl
  refine (Go.Proofs.Tryz.strconv_Itoa n hn.1 hn.2 w ?_).mono ?_
  ·exact hg.tab (g := 0) (ns := (List.range 20).map (10 ^ ·)) (by kernel_rfl) (by kernel_rfl) (by rw [List.map_map]; rfl) (by decide)
  ·rintro e w' ⟨rfl, k, os, rfl⟩
   exact ⟨_, rfl, .growD w k os, .str _⟩
def x4 : List UInt8 → Int → Option Int
 | [], n => some n
 | c :: r, n => if 48 ≤ c.toNat ∧ c.toNat ≤ 57 then x4 r (n * 10 + ((c.toNat : Int) - 48)) else none
theorem zpW (c : UInt8) (r : List UInt8) (n : Int) : x4 (c :: r) n = if 48 ≤ c.toNat ∧ c.toNat ≤ 57 then x4 r (n * 10 + ((c.toNat : Int) - 48)) else none := rfl
def zil (s : List UInt8) : Bool := decide (s.headD 0 = 45 ∨ s.headD 0 = 43)
def vB (s : List UInt8) : Option Int :=
 if zil s = true then (if s.length ≤ 1 then none else if s.headD 0 = 45 then (x4 (s.drop 1) 0).map (fun n => -n) else x4 (s.drop 1) 0) else x4 s 0
def kL (r : Option Int) (e : D) : D := match r with | some n => .tup [.int .i64 n, .nilif] | none => .tup [.int .i64 0, e]
theorem ji {t : List UInt8} {k : Nat} {n : Int} (hk : k < t.length) : x4 (t.drop k) n = if 48 ≤ (t.getD k 0).toNat ∧ (t.getD k 0).toNat ≤ 57 then x4 (t.drop (k + 1)) (n * 10 + (((t.getD k 0).toNat : Int) - 48)) else none := by
 rw [List.drop_eq_getElem_cons hk, zpW, List.getD_eq_getElem?_getD, List.getElem?_eq_getElem hk]
 rfl
theorem zoQ (c : UInt8) : ((zt ((c.toNat : Int) - 48)).toNat : Int) = ((c.toNat : Int) - 48) % 256 := yD _
theorem zms {c : UInt8} (h : 9 < ((zt ((c.toNat : Int) - 48)).toNat : Int)) : ¬ (48 ≤ c.toNat ∧ c.toNat ≤ 57) := by rw [zoQ] at h; omega
theorem zji {c : UInt8} (h : ¬ 9 < ((zt ((c.toNat : Int) - 48)).toNat : Int)) : (48 ≤ c.toNat ∧ c.toNat ≤ 57) ∧ ((zt ((c.toNat : Int) - 48)).toNat : Int) = (c.toNat : Int) - 48 := by
 rw [zoQ] at h ⊢
 have := c.toNat_lt
 omega
theorem kC (s : List UInt8) (c : UInt8) : (((s.getD (Int.toNat 0) 0).toNat : Int) = (c.toNat : Int)) ↔ s.headD 0 = c := by
 have : s.getD (Int.toNat 0) 0 = s.headD 0 := by cases s <;> rfl
 rw [this]
 refine ⟨fun h => ?_, fun h => by rw [h]⟩
 exact UInt8.toNat.inj (by omega)
theorem zrl {s : List UInt8} (h : s.headD 0 = 45) : vB s = if s.length ≤ 1 then none else (x4 (s.drop 1) 0).map (fun n => -n) := by
 unfold vB zil
 rw [if_pos (decide_eq_true (.inl h)), if_pos h]
theorem zrm {s : List UInt8} (h : ¬ s.headD 0 = 45) (h' : s.headD 0 = 43) : vB s = if s.length ≤ 1 then none else x4 (s.drop 1) 0 := by
 unfold vB zil
 rw [if_pos (decide_eq_true (.inr h')), if_neg h]
theorem zvM {s : List UInt8} (h : ¬ s.headD 0 = 45) (h' : ¬ s.headD 0 = 43) : vB s = x4 s 0 := by
 unfold vB zil
 rw [if_neg (fun e => (of_decide_eq_true e).elim h h')]
attribute [local irreducible] x4 Lib.itoa
def zrn (s : List UInt8) : Prop := 1 ≤ s.length ∧ s.length ≤ 2
def AtI (t : List UInt8) (p : Nat × Int) : Prop := p.1 ≤ t.length ∧ (p.1 = 0 → p.2 = 0) ∧ (p.1 ≤ 1 → p.2 ≤ 9) ∧ 0 ≤ p.2 ∧ p.2 ≤ 99 ∧ x4 (t.drop p.1) p.2 = x4 t 0
theorem znW : za Tryz.prog zcg (zz (fun s : List UInt8 => zrn s) (fun s => [.str s]) fun s => kL (vB s) (.iface 288 (.int .i64 2))) := by
 refine ze zi Tryz.func191 rfl (by decide) ?_
 intro s hs
 obtain ⟨h1, h2⟩ := hs
 refine ⟨Nat.le_refl _, by simp [Tryz.f191], fun E hE => ?_⟩
 have ht : List.drop (Int.toNat 1) (List.take ((s.length : Int)).toNat s) = s.drop 1 := by rw [Int.toNat_natCast, List.take_length]; rfl
 have hl1 : (s.drop 1).length = s.length - 1 := by simp
 refine zb _ ?_
 (all_goals refine qgp ?_ <;> (repeat' first | exact trivial | intro hc | refine And.intro ?_ ?_) <;> refine Lf.mk ?_)
 all_goals (try rw [ht] at hc)
 all_goals (try rw [ht])
 ·have h45 := (kC s 45).1 (by assumption)
  refine zf (VS.mk (LeD.of_eq ?_))
  rw [zrl h45, if_pos (show s.length ≤ 1 by omega)]
  rfl
 ·have h45 := (kC s 45).1 (by assumption)
  have hAt : ∀ e, kL (vB s) e = kL ((x4 (s.drop 1) 0).map (fun n => -n)) e := fun e => by rw [zrl h45, if_neg (show ¬ s.length ≤ 1 by omega)]
  have hl2 : (s.drop 1).length ≤ 2 := by omega
  clear ht
  generalize s.drop 1 = t at *
  refine yu (α := Nat × Int) (AtI t) (fun p => [(47, .sl 1 (t.map zA) none), (48, .int .i64 t.length), (49, .int .i64 p.1), (6, .int .i64 p.2), (5, .str s)])
   (fun _ => []) (fun p => t.length - p.1) (fun _ => by rw [hE]; exact Nat.le_refl _) (0, 0) ⟨Nat.zero_le _, fun _ => rfl, fun _ => by decide, by decide, by decide, rfl⟩ ?_ ?_
  ·(repeat' (first | (refine VS.mk ?_) | exact trivial | exact rfl | refine And.intro ?_ ?_))
  rintro ⟨k, n⟩ ⟨i1, i2, i3, i4, i5, i6⟩
  dsimp only at i1 i2 i3 i4 i5 i6 ⊢
  refine zb _ ?_
  (all_goals refine qgp ?_ <;> (repeat' first | exact trivial | intro hc | refine And.intro ?_ ?_) <;> refine Lf.mk ?_)
  ·have hst := ji (n := n) (show k < t.length by omega)
   rw [if_neg (zms hc), i6] at hst
   refine zf (VS.mk (LeD.of_eq ?_))
   rw [hAt, hst]
   rfl
  ·obtain ⟨l1, l2⟩ := zji hc
   have hst := ji (n := n) (show k < t.length by omega)
   rw [if_pos l1, i6] at hst
   have hj : AtI t (k + 1, n * 10 + (((t.getD k 0).toNat : Int) - 48)) := by
    refine ⟨?_, ?_, ?_, ?_, ?_, hst.symm⟩ <;> dsimp only
    ·omega
    ·intro h; omega
    ·intro h; have := i2 (by omega); omega
    ·omega
    ·have := i3 (by omega); omega
   refine zL _ hj (by dsimp only; omega) ?_
   (repeat' (first | (refine VS.mk ?_) | exact trivial | exact rfl | refine And.intro ?_ ?_))
   all_goals rw [l2]
  all_goals
   have hk : k = t.length := by omega
   subst hk
   rw [List.drop_length] at i6
   have i6 : x4 t 0 = some n := by rw [← i6, x4]
   refine zf (VS.mk (LeD.of_eq ?_))
   rw [hAt, i6]
   exact congrArg (fun x => D.tup [.int .i64 x, .nilif]) (Int.zero_sub n)
 ·have h45 : ¬ s.headD 0 = 45 := fun h => absurd ((kC s 45).2 h) (by assumption)
  have h43 := (kC s 43).1 (by assumption)
  refine zf (VS.mk (LeD.of_eq ?_))
  rw [zrm h45 h43, if_pos (show s.length ≤ 1 by omega)]
  rfl
 ·have h45 : ¬ s.headD 0 = 45 := fun h => absurd ((kC s 45).2 h) (by assumption)
  have h43 := (kC s 43).1 (by assumption)
  have hAt : ∀ e, kL (vB s) e = kL (x4 (s.drop 1) 0) e := fun e => by rw [zrm h45 h43, if_neg (show ¬ s.length ≤ 1 by omega)]
  have hl2 : (s.drop 1).length ≤ 2 := by omega
  clear ht
  generalize s.drop 1 = t at *
  refine yu (α := Nat × Int) (AtI t) (fun p => [(47, .sl 1 (t.map zA) none), (48, .int .i64 t.length), (49, .int .i64 p.1), (6, .int .i64 p.2), (5, .str s)])
   (fun _ => []) (fun p => t.length - p.1) (fun _ => by rw [hE]; exact Nat.le_refl _) (0, 0) ⟨Nat.zero_le _, fun _ => rfl, fun _ => by decide, by decide, by decide, rfl⟩ ?_ ?_
  ·(repeat' (first | (refine VS.mk ?_) | exact trivial | exact rfl | refine And.intro ?_ ?_))
  rintro ⟨k, n⟩ ⟨i1, i2, i3, i4, i5, i6⟩
  dsimp only at i1 i2 i3 i4 i5 i6 ⊢
  refine zb _ ?_
  (all_goals refine qgp ?_ <;> (repeat' first | exact trivial | intro hc | refine And.intro ?_ ?_) <;> refine Lf.mk ?_)
  ·have hst := ji (n := n) (show k < t.length by omega)
   rw [if_neg (zms hc), i6] at hst
   refine zf (VS.mk (LeD.of_eq ?_))
   rw [hAt, hst]
   rfl
  ·obtain ⟨l1, l2⟩ := zji hc
   have hst := ji (n := n) (show k < t.length by omega)
   rw [if_pos l1, i6] at hst
   have hj : AtI t (k + 1, n * 10 + (((t.getD k 0).toNat : Int) - 48)) := by
    refine ⟨?_, ?_, ?_, ?_, ?_, hst.symm⟩ <;> dsimp only
    ·omega
    ·intro h; omega
    ·intro h; have := i2 (by omega); omega
    ·omega
    ·have := i3 (by omega); omega
   refine zL _ hj (by dsimp only; omega) ?_
   (repeat' (first | (refine VS.mk ?_) | exact trivial | exact rfl | refine And.intro ?_ ?_))
   all_goals rw [l2]
  all_goals
   have hk : k = t.length := by omega
   subst hk
   rw [List.drop_length] at i6
   have i6 : x4 t 0 = some n := by rw [← i6, x4]
   refine zf (VS.mk (LeD.of_eq ?_))
   rw [hAt, i6]
   rfl
 ·have h45 : ¬ s.headD 0 = 45 := fun h => absurd ((kC s 45).2 h) (by assumption)
  have h43 : ¬ s.headD 0 = 43 := fun h => absurd ((kC s 43).2 h) (by assumption)
  have hAt : ∀ e, kL (vB s) e = kL (x4 s 0) e := fun e => by rw [zvM h45 h43]
  refine yu (α := Nat × Int) (AtI s) (fun p => [(47, .sl 1 (s.map zA) none), (48, .int .i64 s.length), (49, .int .i64 p.1), (6, .int .i64 p.2), (5, .str s)])
   (fun _ => []) (fun p => s.length - p.1) (fun _ => by rw [hE]; exact Nat.le_refl _) (0, 0) ⟨Nat.zero_le _, fun _ => rfl, fun _ => by decide, by decide, by decide, rfl⟩ ?_ ?_
  ·(repeat' (first | (refine VS.mk ?_) | exact trivial | exact rfl | refine And.intro ?_ ?_))
  rintro ⟨k, n⟩ ⟨i1, i2, i3, i4, i5, i6⟩
  dsimp only at i1 i2 i3 i4 i5 i6 ⊢
  refine zb _ ?_
  (all_goals refine qgp ?_ <;> (repeat' first | exact trivial | intro hc | refine And.intro ?_ ?_) <;> refine Lf.mk ?_)
  ·have hst := ji (n := n) (show k < s.length by omega)
   rw [if_neg (zms hc), i6] at hst
   refine zf (VS.mk (LeD.of_eq ?_))
   rw [hAt, hst]
   rfl
  ·obtain ⟨l1, l2⟩ := zji hc
   have hst := ji (n := n) (show k < s.length by omega)
   rw [if_pos l1, i6] at hst
   have hj : AtI s (k + 1, n * 10 + (((s.getD k 0).toNat : Int) - 48)) := by
    refine ⟨?_, ?_, ?_, ?_, ?_, hst.symm⟩ <;> dsimp only
    ·omega
    ·intro h; omega
    ·intro h; have := i2 (by omega); omega
    ·omega
    ·have := i3 (by omega); omega
   refine zL _ hj (by dsimp only; omega) ?_
   (repeat' (first | (refine VS.mk ?_) | exact trivial | exact rfl | refine And.intro ?_ ?_))
   all_goals rw [l2]
  all_goals
   have hk : k = s.length := by omega
   subst hk
   rw [List.drop_length] at i6
   have i6 : x4 s 0 = some n := by rw [← i6, x4]
   refine zf (VS.mk (LeD.of_eq ?_))
   rw [hAt, i6]
   rfl
theorem zpX : za Tryz.prog zjd (zz (fun s : List UInt8 => zrn s) (fun s => [.str s]) fun s => kL (vB s) (.iface 290 .any)) := by
 refine ze zi Tryz.func174 rfl (by decide) ?_
 intro s hs
 refine ⟨Nat.le_refl _, by simp [Tryz.f174], fun E hE => ?_⟩
 refine zb _ ?_
 (all_goals refine qgp (Lf.mk ?_))
 refine zd znW s hs (VS.mk (LeL.of_eq rfl)) ?_
 cases h : vB s with
 | some n =>
  dsimp only [kL]
  (all_goals refine qgp ?_ <;> (repeat' first | exact trivial | intro hc | refine And.intro ?_ ?_) <;> refine Lf.mk ?_)
  all_goals first
   | (exfalso; exact Bool.noConfusion hc)
   | (exfalso; refine absurd trivial ?_; assumption)
   | skip
  exact zf (VS.mk (LeD.of_eq rfl))
 | none =>
  dsimp only [kL]
  (all_goals refine qgp ?_ <;> (repeat' first | exact trivial | intro hc | refine And.intro ?_ ?_) <;> refine Lf.mk ?_)
  all_goals first
   | (exfalso; exact Bool.noConfusion hc)
   | (exfalso; refine absurd hc ?_; decide)
   | skip
  refine zd zgs ([65, 116, 111, 105], s, 0, 0, 2) ⟨by have := hs.2; omega, .inr rfl⟩ (VS.mk (LeL.of_eq rfl)) ?_
  (all_goals refine qgp (Lf.mk ?_))
  exact zf (VS.mk (LeD.of_eq rfl))
theorem zjj (x : List UInt8) : ∀ (l : List (List UInt8)) (k : Nat), wT x l k = -1 ∨ x ∈ l
 | [], _ => .inl rfl
 | s :: l, k => by
  rw [wT]
  by_cases h : x = s
  ·exact .inr (by rw [h]; exact List.mem_cons_self)
  ·rw [if_neg h]
   exact (zjj x l (k + 1)).imp id (List.mem_cons_of_mem _)
theorem zug : xN.map (fun r => (wT r xN 0, vB r)) = (List.range 16).map (fun k : Nat => ((k : Int), some (k : Int))) := by kernel_rfl
theorem zuh : (List.range 16).map (fun k => Lib.itoa ((k : Nat) : Int)) = xN := by kernel_rfl
theorem zro {k : Nat} (hk : k < 16) : xN[k]? = some (Lib.itoa (k : Int)) ∧ wT (Lib.itoa (k : Int)) xN 0 = k ∧ vB (Lib.itoa (k : Int)) = some (k : Int) := by
 have h1 : xN[k]? = some (Lib.itoa (k : Int)) := by rw [← zuh, List.getElem?_map, List.getElem?_range hk]; rfl
 have h2 := congrArg (fun l => l[k]?) zug
 simp only [List.getElem?_map, h1, List.getElem?_range hk, Option.map_some, Option.some.injEq, Prod.mk.injEq] at h2
 exact ⟨h1, h2⟩
theorem zui {s : List UInt8} {n : Int} (h0 : 0 ≤ n) (h1 : n ≤ 15) (h : Lib.itoa n = s) : wT s xN 0 = n := by
 obtain ⟨k, rfl⟩ := Int.eq_ofNat_of_zero_le h0
 rw [← h]
 exact (zro (by omega)).2.1
theorem zim {s : List UInt8} (h : ∀ n, vB s = some n → ¬ (0 ≤ n ∧ n ≤ 15 ∧ Lib.itoa n = s)) : wT s xN 0 = -1 := by
 refine (zjj s xN 0).resolve_right fun hm => ?_
 obtain ⟨k, hk⟩ := List.getElem?_of_mem hm
 have hk16 : k < 16 := (List.getElem?_eq_some_iff.1 hk).1
 obtain ⟨h1, _, h3⟩ := zro hk16
 rw [h1] at hk
 cases hk
 exact h _ h3 ⟨by omega, by omega, rfl⟩
theorem zmt {s : List UInt8} (h : s.length = 0 ∨ 2 < s.length) : wT s xN 0 = -1 := by
 refine (zjj s xN 0).resolve_right fun hm => ?_
 have : ∀ r ∈ xN, 1 ≤ r.length ∧ r.length ≤ 2 := by decide
 have := this s hm
 omega
attribute [local irreducible] vB xN wT
theorem zaf : za Tryz.prog zjc (zz (fun t : yJ => t.text.length ≤ 1000000000) (fun t => [wC t]) fun t => .int .i64 (ww t)) := by
 refine ze zi Tryz.func149 rfl (by decide) ?_
 rintro ⟨kd, n, s⟩ hs
 have hs : s.length ≤ 1000000000 := hs
 refine ⟨Nat.le_refl _, by simp [Tryz.f149], fun E hE => ?_⟩
 have ht : List.drop (Int.toNat 1) (List.take ((s.length : Int)).toNat s) = s.drop 1 := by rw [Int.toNat_natCast, List.take_length]; rfl
 have hl1 : (s.drop 1).length = s.length - 1 := by simp
 refine zb _ ?_
 (all_goals refine qgp ?_ <;> (repeat' first | exact trivial | intro hc | refine And.intro ?_ ?_) <;> refine Lf.mk ?_)
 ·refine zf (VS.mk (LeD.of_eq (congrArg (D.int .i64) ?_)))
  unfold ww
  rw [if_neg (fun e => hc e.1)]
 ·refine zf (VS.mk (LeD.of_eq (congrArg (D.int .i64) ?_)))
  unfold ww
  dsimp only
  rw [zmt (.inl (by omega))]
  split <;> rfl
 ·refine zf (VS.mk (LeD.of_eq (congrArg (D.int .i64) ?_)))
  unfold ww
  dsimp only
  rw [zmt (.inr (by omega))]
  split <;> rfl
 ·have h114 : ¬ s.headD 0 = 114 := fun h => absurd ((kC s 114).2 h) (by assumption)
  refine zf (VS.mk (LeD.of_eq (congrArg (D.int .i64) ?_)))
  unfold ww
  rw [if_neg (fun e => h114 e.2)]
 ·have h114 := (kC s 114).1 (by assumption)
  have hR : ww ⟨kd, n, s⟩ = wT (s.drop 1) xN 0 := by
   unfold ww
   rw [if_pos ⟨by assumption, h114⟩]
  dsimp only
  rw [ht, hR]
  refine zd zpX (s.drop 1) ⟨by omega, by omega⟩ (VS.mk (LeL.of_eq rfl)) ?_
  cases hat : vB (s.drop 1) with
  | none =>
   dsimp only [kL]
   (all_goals refine qgp ?_ <;> (repeat' first | exact trivial | intro hc | refine And.intro ?_ ?_) <;> refine Lf.mk ?_)
   (any_goals (first | (exfalso; refine Bool.false_ne_true ?_; assumption) | (exfalso; refine Bool.false_ne_true (Eq.symm ?_); assumption) | (exfalso; refine absurd trivial ?_; assumption) | skip))
   refine zf (VS.mk (LeD.of_eq (congrArg (D.int .i64) ?_)))
   rw [zim fun m hm => by rw [hat] at hm; cases hm]
  | some m =>
   dsimp only [kL]
   (all_goals refine qgp ?_ <;> (repeat' first | exact trivial | intro hc | refine And.intro ?_ ?_) <;> refine Lf.mk ?_)
   (any_goals (first | (exfalso; refine Bool.false_ne_true ?_; assumption) | (exfalso; refine Bool.false_ne_true (Eq.symm ?_); assumption) | (exfalso; refine absurd trivial ?_; assumption) | skip))
   ·refine zf (VS.mk (LeD.of_eq (congrArg (D.int .i64) ?_)))
    rw [zim fun q hm => by rw [hat] at hm; cases hm; omega]
   ·refine zf (VS.mk (LeD.of_eq (congrArg (D.int .i64) ?_)))
    rw [zim fun q hm => by rw [hat] at hm; cases hm; omega]
   ·refine zd zpV m ⟨by omega, by omega⟩ (VS.mk (LeL.of_eq rfl)) ?_
    (all_goals refine qgp ?_ <;> (repeat' first | exact trivial | intro hc | refine And.intro ?_ ?_) <;> refine Lf.mk ?_)
    all_goals (try rw [ht] at hc)
    all_goals (refine zf (VS.mk (LeD.of_eq (congrArg (D.int .i64) ?_))))
    ·rw [zim fun q hm => by rw [hat] at hm; cases hm; exact fun e => hc e.2.2]
    ·rw [zui (by omega) (by omega) hc]
end Go.Proofs.YtnkdeacghopkiaaGreatDoor
namespace Go.Proofs.YtnkdeacghopkiaaGreatDoor
open Go Go.Plat
set_option linter.unusedVariables false
set_option linter.unusedSimpArgs false
set_option maxRecDepth 100000
set_option maxHeartbeats 2000000
attribute [local irreducible] AWP zN yv zU zo yC yh zG yb yf zx za zY yz zr yg zg.kids zg.kind zg.n zg.name yx yy yn yo zw zy zT ym y9 yq zI yQ zE
def wt : List zbb → Nat
 | [] => 0
 | t :: l => 1 + t.text.length + wt l
def zd7 (p : St → zg × St) : Prop := ∀ s, yr (p s).1 + 2 * wt (p s).2.rest ≤ 1 + 2 * wt s.rest
theorem zj1 (k n : Int) (t : List UInt8) : yr (.mk k n t []) = 1 + t.length := by rw [yr, va, Nat.add_zero]
theorem zrp (k n : Int) (a : zg) : yr (.mk k n [] [a]) = 1 + yr a := by rw [yr, va, va]; simp
theorem zrq (k n : Int) (a b : zg) : yr (.mk k n [] [a, b]) = 1 + yr a + yr b := by rw [yr, va, va, va]; simp; omega
theorem zb4 : yr noE = 1 := by unfold noE; rw [zj1]; rfl
theorem zjk (l : List (List UInt8)) (s : St) : wt (zp l s).2.rest ≤ wt s.rest ∧ (0 ≤ (zp l s).1 → wt (zp l s).2.rest + 1 ≤ wt s.rest) := by
 obtain ⟨r, e⟩ := s
 cases r with
 | nil => exact ⟨Nat.le_refl _, fun h => by simp [zp] at h⟩
 | cons t r =>
  simp only [zp]
  split
  ·split
   ·simp only [wt]; exact ⟨by omega, fun _ => by omega⟩
   ·exact ⟨Nat.le_refl _, fun h => by simp at h⟩
  ·exact ⟨Nat.le_refl _, fun h => by simp at h⟩
theorem zj2 {k : Nat} {sub : St → zg × St} (hs : zd7 sub) : ∀ (g : Nat) (e : zg) (s : St), yr (vj k sub g e s).1 + 2 * wt (vj k sub g e s).2.rest ≤ yr e + 2 * wt s.rest
 | 0, e, s => Nat.le_refl _
 | g + 1, e, s => by
  rw [vj]
  obtain ⟨h1, h1'⟩ := zjk (yG k) s
  split
  ·split
   ·dsimp only; omega
   ·rename_i hn
    have h3 := h1' (by omega)
    have := zj2 (k := k) hs g (.mk (zaT k (zp (yG k) s).1) 0 [] [e, (sub (zp (yG k) s).2).1]) (sub (zp (yG k) s).2).2
    rw [zrq] at this
    have h2 := hs (zp (yG k) s).2
    omega
  ·exact Nat.le_refl _
theorem zpY {k : Nat} {sub : St → zg × St} (hs : zd7 sub) : zd7 (zb2 k sub) := fun s => by
 have h1 := hs s
 have h2 := zj2 (k := k) hs ((sub s).2.rest.length + 1) (sub s).1 (sub s).2
 unfold zb2; omega
theorem zjl {one : St → zg × St} (hs : zd7 one) : ∀ j, zd7 (atF one j)
 | 0 => hs
 | j + 1 => zpY (zjl hs j)
theorem zsO : zd7 zcU := fun s => by
 obtain ⟨r, e⟩ := s
 cases r with
 | nil => simp [zcU, qc, zb4, wt]
 | cons t r =>
  simp only [zcU]
  repeat' split
  all_goals (try rw [qc]); simp only [zb4, zj1, wt, List.length_nil]; omega
theorem zrr {one : St → zg × St} (hs : zd7 one) : zd7 (wl one) := fun s => by
 obtain ⟨h1, h1'⟩ := zjk yL s
 have h2 := hs (zp yL s).2
 have h3 := zjl hs 5 (zp yL s).2
 have h4 := (zjk qu (atF one 5 (zp yL s).2).2).1
 have h5 := zsO (zp yL s).2
 have h6 := zfe (atF one 5 (zp yL s).2).1
 unfold wl
 repeat' split
 all_goals (try dsimp only); (try rw [qc]); (try simp only [zrp, zb4]); omega
theorem zmu : ∀ f, zd7 (qi f)
 | 0 => fun s => by rw [qi, qc, zb4]; exact Nat.le_refl _
 | f + 1 => fun s => by rw [qi]; exact zrr (zmu f) s
theorem zrs (L : List zbb) : yr (xI L).1 ≤ 1 + 2 * wt L := by
 have h := zjl (zmu 7) 5 ⟨L, 0⟩
 have h : yr (v6 L).1 + 2 * wt (v6 L).2.rest ≤ 1 + 2 * wt L := h
 unfold xI
 split
 ·dsimp only; omega
 ·dsimp only; rw [zb4]; omega
end Go.Proofs.YtnkdeacghopkiaaGreatDoor
namespace Go.Proofs.YtnkdeacghopkiaaGreatDoor
open Go Go.Plat
set_option linter.unusedVariables false
set_option linter.unusedSimpArgs false
set_option maxRecDepth 100000
set_option maxHeartbeats 2000000
attribute [local irreducible] AWP zN yv zU zo yC yh zG yb Lib.itoa yf zx za zY yz zr yg yx yy yn yo zw zy zT xf xI ww zH
def yZ (l : List zq) : D := .sl 2 (l.map yw) none
def zF (b : Bld) : List D := match b.has with | true => b.shut.map yZ ++ [.sl 2 (b.cur.map yw) (some 5)] | false => b.shut.map yZ
def bC (q : List zj) (b : Bld) : List D := [.sl 2 (q.map xY) none, .osl 13 1 b.items.length 0 b.items.length, .osl 2 2 b.syms.length 0 b.syms.length, .sl 1 (b.marks.map (.int .i64)) (some 3),
 .osl 1 4 (zF b).length 0 (zF b).length, .int .i64 b.shut.length, .nilsl, .nilsl, .nilsl, .int .i64 b.fe, .int .i64 b.fa]
def zcZ (b : Bld) : Ob := match b.has with | true => .spare b.cur.length | false => .dead
def bT (b : Bld) : List Ob := [.arr 13 (b.items.map xa), .arr 2 (b.syms.map xm), .spare b.marks.length, .arr 1 (zF b), zcZ b]
def bO (q : List zj) (b : Bld) : List Ob := .cells (bC q b) :: bT b
theorem zgv : za Tryz.prog vv (z1 (fun _ : (D × D × D × D × D × D × D × D × D) × Int × Int × Int × Int × List Ob => True) (fun (_, _, _, e, line, _) => [.loc 0 0, .int .i64 e, .int .i64 line])
  (fun ((c0, c1, c2, c3, c4, c5, c6, c7, c8), fe, fa, _, _, X) => .cells [c0, c1, c2, c3, c4, c5, c6, c7, c8, .int .i64 fe, .int .i64 fa] :: X) (fun _ => .ff)
  fun ((c0, c1, c2, c3, c4, c5, c6, c7, c8), fe, fa, e, line, X) => .cells [c0, c1, c2, c3, c4, c5, c6, c7, c8, .int .i64 (if fe = 0 then e else fe), .int .i64 (if fe = 0 then line else fa)] :: X) := by
 refine ze zi Tryz.func114 rfl (by decide) ?_
 rintro ⟨⟨c0, c1, c2, c3, c4, c5, c6, c7, c8⟩, fe, fa, e, line, X⟩ _
 refine ⟨Nat.le_refl _, by simp [Tryz.f114], fun E hE => ?_⟩
 refine zb _ ?_
 (all_goals refine qgp ?_ <;> (repeat' first | exact trivial | intro hc | refine And.intro ?_ ?_) <;> refine Lf.mk ?_)
 ·exact yM rfl (by dsimp only; rw [if_pos hc, if_pos hc])
 ·exact yM rfl (by dsimp only; rw [if_neg hc, if_neg hc])
def arC (s : RB) (line : Int) : Ob := .cells [.loc 0 0, .sl 3 (s.rest.map wC) none, .int .i64 line]
def xx (b : Bld) (s : RB) : Bld := { b with fe := s.fe, fa := s.fa }
def wI (q : List zj) (b : Bld) (s : RB) (line : Int) : List Ob := bO q (xx b s) ++ [arC s line]
theorem zrt (b : Bld) : ∀ d ∈ zF b, ClL 6 d.cells := by
 have h1 : ∀ d ∈ b.shut.map yZ, ClL 6 d.cells := by
  intro d hd
  obtain ⟨l, _, rfl⟩ := List.mem_map.1 hd
  exact ClL.cons ClD.sl ClL.nil
 unfold zF
 split
 ·intro d hd
  rcases List.mem_append.1 hd with hd | hd
  ·exact h1 d hd
  ·rw [List.mem_singleton] at hd
   subst hd
   exact ClL.cons (ClD.tok (by decide)) ClL.nil
 ·exact h1
theorem qX {n : Nat} (l : List zD) : ∀ d ∈ l.map xa, ClL n d.cells := by
 intro d hd
 obtain ⟨x, _, rfl⟩ := List.mem_map.1 hd
 exact .cons .int (.cons .int (.cons .int (.cons .int (.cons .int (.cons .int (.cons .int (.cons .bool (.cons .int (.cons .str (.cons .int (.cons .int (.cons .int .nil))))))))))))
theorem jj {n : Nat} (l : List zZ) : ∀ d ∈ l.map xm, ClL n d.cells := by
 intro d hd
 obtain ⟨x, _, rfl⟩ := List.mem_map.1 hd
 exact .cons .str (.cons .int .nil)
theorem ClD.up {n m : Nat} {d : D} (h : ClD n d) (hn : n ≤ m) : ClD m d := fun f hf => h f fun k hk => hf k (by omega)
theorem ClO.up {n m : Nat} {o : Ob} (h : ClO n o) (hn : n ≤ m) : ClO m o := fun f hf => h f fun k hk => hf k (by omega)
theorem y5 (q : List zj) (b : Bld) : ∀ o ∈ bO q b, ClO 6 o := by
 intro o ho
 simp only [bO, bT, List.mem_cons, List.not_mem_nil, or_false] at ho
 rcases ho with rfl | rfl | rfl | rfl | rfl | rfl
 ·exact .cells (.cons .sl (.cons (.osl (by decide)) (.cons (.osl (by decide)) (.cons (.tok (by decide)) (.cons (.osl (by decide)) (.cons .int (.cons .nilsl (.cons .nilsl (.cons .nilsl (.cons .int (.cons .int .nil)))))))))))
 ·exact .arr (qX _)
 ·exact .arr (jj _)
 ·exact .spare
 ·exact .arr (zrt _)
 ·unfold zcZ
  split
  ·exact .spare
  ·exact .dead
theorem zag (q : List zj) (b : Bld) (s : RB) (line : Int) : ∀ o ∈ wI q b s line, ClO 7 o := by
 intro o ho
 rcases List.mem_append.1 ho with ho | ho
 ·exact ClO.up (y5 _ _ o ho) (by decide)
 ·rw [List.mem_singleton] at ho
  subst ho
  exact .cells (.cons (.loc (by decide)) (.cons .sl (.cons .int .nil)))
theorem wy {c : List UInt8} {t : yJ} {r : List yJ} {e a : Int} : zH c ⟨t :: r, e, a⟩ = if t.kind = 3 ∧ t.text = c then (true, ⟨r, e, a⟩) else (false, ⟨t :: r, e, a⟩) := by unfold zH; rfl
theorem take_nil {c : List UInt8} {e a : Int} : zH c ⟨[], e, a⟩ = (false, ⟨[], e, a⟩) := by unfold zH; rfl
theorem znX : za Tryz.prog zbf (z1 (fun ((_, s, _, _) : Bld × RB × List UInt8 × List zj × Int) => s.rest.length ≤ 1000000000) (fun (_, _, c, _, _) => [.loc 6 0, .str c])
  (fun (b, s, _, q, line) => wI q b s line) (fun (_, s, c, _, _) => .bool (zH c s).1) fun (b, s, c, q, line) => wI q b (zH c s).2 line) := by
 refine ze zi Tryz.func154 rfl (by decide) ?_
 rintro ⟨b, ⟨r, e, a⟩, c, q, line⟩ hr
 have hr : r.length ≤ 1000000000 := hr
 refine ⟨Nat.le_refl _, by simp [Tryz.f154], fun E hE => ?_⟩
 cases r with
 | nil =>
  refine zb _ ?_
  (all_goals refine qgp ?_ <;> (repeat' first | exact trivial | intro hc | refine And.intro ?_ ?_) <;> refine Lf.mk ?_)
  exact zlF (by rw [take_nil]) (by dsimp only; rw [take_nil]) (Nat.le_of_eq rfl)
 | cons t r =>
  have hr2 : r.length + 1 ≤ 1000000000 := hr
  refine zb _ ?_
  (all_goals refine qgp ?_ <;> (repeat' first | exact trivial | intro hc | refine And.intro ?_ ?_) <;> refine Lf.mk ?_)
  ·exact zuO (by rw [wy, if_pos ⟨by assumption, by assumption⟩]) (by dsimp only; rw [wy, if_pos ⟨by assumption, by assumption⟩]; rfl) (Nat.le_of_eq rfl)
  ·exact zlF (by rw [wy, if_neg (fun h => hc h.2)]) (by dsimp only; rw [wy, if_neg (fun h => hc h.2)]) (Nat.le_of_eq rfl)
  ·exact zlF (by rw [wy, if_neg (fun h => hc h.1)]) (by dsimp only; rw [wy, if_neg (fun h => hc h.1)]) (Nat.le_of_eq rfl)
theorem zoR (q : List zj) (b : Bld) (e line : Int) : Ob.cells [.sl 2 (q.map xY) none, .osl 13 1 b.items.length 0 b.items.length, .osl 2 2 b.syms.length 0 b.syms.length, .sl 1 (b.marks.map (.int .i64)) (some 3),
  .osl 1 4 (zF b).length 0 (zF b).length, .int .i64 b.shut.length, .nilsl, .nilsl, .nilsl, .int .i64 (if b.fe = 0 then e else b.fe), .int .i64 (if b.fe = 0 then line else b.fa)] :: bT b = bO q (yt b e line) := by
 unfold yt
 by_cases h : b.fe = 0
 ·rw [if_pos h, if_pos h, if_pos h]; rfl
 ·rw [if_neg h, if_neg h, if_neg h]; rfl
theorem yH {av : List D} {L : List Ob} {KP : D → Prop} {KW : D → List Ob → Prop} (q : List zj) (b : Bld) (e line : Int) (X : List Ob) (hL : L = bO q b ++ X) (has : av = [.loc 0 0, .int .i64 e, .int .i64 line])
  (hK : KW .ff (bO q (yt b e line) ++ X)) : zo Tryz.prog vv av L KP KW := by
 subst has
 refine xg zgv X ((.sl 2 (q.map xY) none, .osl 13 1 b.items.length 0 b.items.length, .osl 2 2 b.syms.length 0 b.syms.length, .sl 1 (b.marks.map (.int .i64)) (some 3),
  .osl 1 4 (zF b).length 0 (zF b).length, .int .i64 b.shut.length, .nilsl, .nilsl, .nilsl), b.fe, b.fa, e, line, bT b) trivial hL (LeL.refl _) rfl ?_ .ff (y5 q b) ?_ ?_
 ·exact .cons (.loc (Nat.lt_of_lt_of_le (by decide : 0 < 6) (Nat.le_of_eq rfl))) (.cons .int (.cons .int .nil))
 ·dsimp only
  rw [zoR]
  exact y5 q _
 ·dsimp only
  rw [zoR]
  exact hK
attribute [local irreducible] zg.kids zg.kind zg.n zg.name zcZ y9 yr zF
def kf (s : RB) (q : List zj) : Prop := wt (s.rest.map tk) ≤ 1048576 ∧ q.length ≤ 1000000000
theorem zin : ∀ l : List zbb, l.length ≤ wt l
 | [] => Nat.le_refl _
 | t :: l => by have := zin l; rw [wt]; simp; omega
theorem zoS : ∀ (l : List zbb) (k : Nat), wt (l.drop k) ≤ wt l
 | [], k => by simp
 | t :: l, 0 => Nat.le_refl _
 | t :: l, k + 1 => by have := zoS l k; rw [List.drop_succ_cons, wt]; omega
theorem zu5 (l : List zbb) : 0 ≤ (xI l).2.1 ∧ (xI l).2.1 ≤ l.length := by
 unfold xI
 have := zgt l
 split
 ·dsimp only; omega
 ·dsimp only; omega
theorem zuj (q : List zj) (b : Bld) (s : RB) (e line l2 : Int) (X : List Ob) : bO q (yt (xx b s) e line) ++ (arC s l2 :: X) = wI q b (vA s e line) l2 ++ X := by
 unfold yt vA wI xx
 by_cases h : s.fe = 0
 ·rw [if_pos h, if_pos h]; rfl
 ·rw [if_neg h, if_neg h]; rfl
theorem kg {av : List D} {L : List Ob} {KP : D → Prop} {KW : D → List Ob → Prop} (q : List zj) (b : Bld) (s : RB) (e line : Int) (X : List Ob) (hL : L = wI q b s line ++ X) (has : av = [.loc 0 0, .int .i64 e, .int .i64 line])
  (hK : KW .ff (wI q b (vA s e line) line ++ X)) : zo Tryz.prog vv av L KP KW :=
 yH q (xx b s) e line (arC s line :: X) hL has (by rw [zuj]; exact hK)
theorem zah {n : Nat} (v : zq) : ClD n (yw v) := .agg (.cons .str (.cons .int .nil))
theorem vC {n0 : Nat} {q : List zj} {b : Bld} {s s' : RB} {line : Int} {r d : D} {L : List Ob} (X : List Ob) (hL : L = wI q b s' line ++ X) (hs : s' = s) (hr : r = d) (hn : n0 ≤ 7) (hd : ClD 7 d) : zG n0 r d L (wI q b s line) := by
 subst hs; subst hr
 exact xc (wI q b s' line) X hL hn hd (zag _ _ _ _)
theorem znY : za Tryz.prog zaP (z1 (fun ((_, s, q, _) : Bld × RB × List zj × Int) => kf s q) (fun _ => [.loc 6 0])
  (fun (b, s, q, line) => wI q b s line) (fun (_, s, q, line) => yw (xJ q line s).1) fun (b, s, q, line) => wI q b (xJ q line s).2 line) := by
 refine ze zi Tryz.func175 rfl (by decide) ?_
 rintro ⟨b, s, q, line⟩ ⟨hw, hq⟩
 refine ⟨Nat.le_refl _, by simp [Tryz.f175], fun E hE => ?_⟩
 have hl : s.rest.length ≤ 1048576 := by have := zin (s.rest.map tk); rw [List.length_map] at this; omega
 have hn := zu5 (s.rest.map tk)
 rw [List.length_map] at hn
 have hnodes := zrs (s.rest.map tk)
 have hV : xJ q line s = if (xI (s.rest.map tk)).2.2 = 0 then
  ((xf q (xI (s.rest.map tk)).1).1, if (xf q (xI (s.rest.map tk)).1).2 = 0 then ⟨s.rest.drop (xI (s.rest.map tk)).2.1.toNat, s.fe, s.fa⟩
    else vA ⟨s.rest.drop (xI (s.rest.map tk)).2.1.toNat, s.fe, s.fa⟩ (xf q (xI (s.rest.map tk)).1).2 line)
  else (noV, vA s (xI (s.rest.map tk)).2.2 line) := rfl
 refine zb _ ?_
 (all_goals refine qgp (Lf.mk ?_))
 refine zd znV (s.rest.map tk) (by show (s.rest.map tk).length ≤ _; rw [List.length_map]; omega) (VS.mk (LeL.of_eq (by rw [zsN]))) ?_
 generalize xI (s.rest.map tk) = P at *
 obtain ⟨e, n, err⟩ := P
 dsimp only at hV hn hnodes ⊢
 (all_goals refine qgp ?_ <;> (repeat' first | exact trivial | intro hc | refine And.intro ?_ ?_) <;> refine Lf.mk ?_)
 ·rw [if_neg hc] at hV
  refine kg q b s err line [_, _] rfl rfl ?_
  (all_goals refine qgp (Lf.mk ?_))
  rw [hV]
  exact vC [_, _] rfl rfl rfl (Nat.le_of_eq rfl) (zah _)
 ·rw [if_pos hc] at hV
  refine zd (zik q hq (yr e)) e ⟨Nat.le_refl _, by omega⟩ (VS.mk (LeL.of_eq rfl)) ?_
  generalize xf q e = V at *
  obtain ⟨⟨vn, vi⟩, ve⟩ := V
  dsimp only at hV ⊢
  (all_goals refine qgp ?_ <;> (repeat' first | exact trivial | intro hc | refine And.intro ?_ ?_) <;> refine Lf.mk ?_)
  ·rw [if_neg hc] at hV
   refine kg q b ⟨s.rest.drop n.toNat, s.fe, s.fa⟩ ve line [_, _, _] rfl rfl ?_
   (all_goals refine qgp (Lf.mk ?_))
   rw [hV]
   exact vC [_, _, _] rfl rfl rfl (Nat.le_of_eq rfl) (zah _)
  ·rw [if_pos hc] at hV
   rw [hV]
   exact vC (s' := ⟨s.rest.drop n.toNat, s.fe, s.fa⟩) [_, _, _] rfl rfl rfl (Nat.le_of_eq rfl) (zah _)
theorem zcz {av : List D} {L : List Ob} {KP : D → Prop} {KW : D → List Ob → Prop} (q : List zj) (b : Bld) (s : RB) (c : List UInt8) (line : Int) (X : List Ob) (hl : s.rest.length ≤ 1000000000) (hL : L = wI q b s line ++ X) (has : av = [.loc 6 0, .str c])
  (hK : KW (.bool (zH c s).1) (wI q b (zH c s).2 line ++ X)) : zo Tryz.prog zbf av L KP KW := by
 subst has
 exact xg znX X (b, s, c, q, line) hl hL (LeL.refl _) rfl (.cons (.loc (Nat.lt_of_lt_of_le (by decide : 6 < 7) (Nat.le_of_eq rfl))) (.cons .str .nil)) .bool (zag _ _ _ _) (zag _ _ _ _) hK
theorem zbn {av : List D} {L : List Ob} {KP : D → Prop} {KW : D → List Ob → Prop} (q : List zj) (b : Bld) (s : RB) (line : Int) (X : List Ob) (hl : kf s q) (hL : L = wI q b s line ++ X) (has : av = [.loc 6 0])
  (hK : KW (yw (xJ q line s).1) (wI q b (xJ q line s).2 line ++ X)) : zo Tryz.prog zaP av L KP KW := by
 subst has
 exact xg znY X (b, s, q, line) hl hL (LeL.refl _) rfl (.cons (.loc (Nat.lt_of_lt_of_le (by decide : 6 < 7) (Nat.le_of_eq rfl))) .nil) (zah _) (zag _ _ _ _) (zag _ _ _ _) hK
theorem zd8 {c : List UInt8} {s : RB} (h : (zH c s).1 = false) : (zH c s).2 = s := by
 obtain ⟨r, e, a⟩ := s
 cases r with
 | nil => rw [take_nil]
 | cons t r =>
  rw [wy] at h ⊢
  split at h
  ·cases h
  ·rw [if_neg (by assumption)]
theorem zg9 {c : List UInt8} {s : RB} {q : List zj} (h : kf s q) : kf (zH c s).2 q := by
 obtain ⟨r, e, a⟩ := s
 cases r with
 | nil => rw [take_nil]; exact h
 | cons t r =>
  rw [wy]
  split
  ·refine ⟨?_, h.2⟩
   have := h.1
   rw [List.map_cons, wt] at this
   show wt (r.map tk) ≤ _
   omega
  ·exact h
theorem zsP (c : List UInt8) (s : RB) : ∀ t ∈ (zH c s).2.rest, t ∈ s.rest := by
 obtain ⟨r, e, a⟩ := s
 cases r with
 | nil => rw [take_nil]; exact fun _ h => h
 | cons t r =>
  rw [wy]
  split
  ·exact fun _ h => List.mem_cons_of_mem _ h
  ·exact fun _ h => h
theorem zf1 {s : RB} {q : List zj} (h : kf s q) : s.rest.length ≤ 1048576 := by have := h.1; have := zin (s.rest.map tk); rw [List.length_map] at this; omega
theorem zu6 {s : RB} (h : (zH [35] s).1 = false) (h' : (zH [64] s).1 = false) (h2 : (zH [61] s).1 = false) : qC s = ([], s) := by
 unfold qC
 rw [if_neg (by rw [h]; decide), if_neg (by rw [h']; decide), if_neg (by rw [h2]; decide)]
theorem kh {n : Nat} (o : AOp) : ClD n (vP o) := .agg (.cons .str (.cons .int (.cons .str (.cons .int .nil))))
theorem zu7 {s : RB} (h : (zH [35] s).1 = true) : qC s = ([35], (zH [35] s).2) := by unfold qC; rw [if_pos h]
theorem zu8 {s : RB} (h : (zH [35] s).1 = false) (h1 : (zH [64] s).1 = true) : qC s = ([64], (zH [64] s).2) := by
 unfold qC; rw [if_neg (by rw [h]; decide), if_pos h1]
theorem zu9 {s : RB} (h : (zH [35] s).1 = false) (h1 : (zH [64] s).1 = false) (h2 : (zH [61] s).1 = true) : qC s = ([61], (zH [61] s).2) := by
 unfold qC; rw [if_neg (by rw [h]; decide), if_neg (by rw [h1]; decide), if_pos h2]
theorem zmv {q : List zj} {line : Int} {sg : List UInt8} {s : RB} (h : ¬ (sg = [] ∨ sg = [64])) : zae q line sg s = (⟨sg, 0, (xJ q line s).1⟩, (xJ q line s).2) := by
 unfold zae; rw [if_neg fun e => h e.1, if_neg fun e => h (.inr e)]
theorem zmw {q : List zj} {line : Int} {sg : List UInt8} {t : yJ} {r : List yJ} {e a : Int} (h : sg = [] ∨ sg = [64]) (h1 : 0 ≤ ww t) : zae q line sg ⟨t :: r, e, a⟩ = (⟨if sg = [] then [114] else sg, ww t, noV⟩, ⟨r, e, a⟩) := by
 unfold zae; rw [if_pos ⟨h, h1⟩]; rfl
theorem zoT {q : List zj} {line : Int} {s : RB} (h : zjh s.rest < 0) : zae q line [64] s = (⟨[64], 0, noV⟩, vA s 2 line) := by
 unfold zae; rw [if_neg fun e => by omega, if_pos rfl]
theorem zoU {q : List zj} {line : Int} {s : RB} (h : zjh s.rest < 0) : zae q line [] s = (⟨[], 0, (xJ q line s).1⟩, (xJ q line s).2) := by
 unfold zae; rw [if_neg fun e => by omega, if_neg (by decide)]
theorem zru : za Tryz.prog zbZ (z1 (fun ((_, s, q, _) : Bld × RB × List zj × Int) => kf s q ∧ ∀ t ∈ s.rest, t.text.length ≤ 1000000000) (fun _ => [.loc 6 0])
  (fun (b, s, q, line) => wI q b s line) (fun (_, s, q, line) => vP (yR q line s).1) fun (b, s, q, line) => wI q b (yR q line s).2 line) := by
 refine ze zi Tryz.func153 rfl (by decide) ?_
 rintro ⟨b, s, q, line⟩ ⟨hv, htx⟩
 have hv : kf s q := hv
 have htx : ∀ t ∈ s.rest, t.text.length ≤ 1000000000 := htx
 refine ⟨Nat.le_refl _, by simp [Tryz.f153], fun E hE => ?_⟩
 have hl := zf1 hv
 refine zb _ ?_
 (all_goals refine qgp (Lf.mk ?_))
 refine zdM (zb _ ?_)
 (all_goals refine qgp ?_ <;> (repeat' first | exact trivial | intro hc | refine And.intro ?_ ?_) <;> refine Lf.mk ?_)
 refine zcz q b s [35] line [_, _] (by omega) rfl rfl ?_
 cases h35 : (zH [35] s).1 with
 | true =>
  have hone : yR q line s = (⟨[35], 0, (xJ q line (zH [35] s).2).1⟩, (xJ q line (zH [35] s).2).2) := by unfold yR; rw [zu7 h35]; exact zmv (sg := [35]) (by decide)
  (all_goals refine qgp ?_ <;> (repeat' first | exact trivial | intro hc | refine And.intro ?_ ?_) <;> refine Lf.mk ?_)
  (any_goals (first | (exfalso; refine Bool.false_ne_true ?_; assumption) | (exfalso; refine Bool.false_ne_true (Eq.symm ?_); assumption) | (exfalso; refine absurd trivial ?_; assumption) | skip))
  all_goals first
   | (exfalso; exact absurd (by assumption : ([35] : List UInt8) = [64]) (by decide))
   | (exfalso; exact absurd (by assumption : ([35] : List UInt8) = []) (by decide))
   | skip
  all_goals (refine zbn q b (zH [35] s).2 line [_, _] (zg9 hv) rfl rfl ?_)
  (all_goals refine qgp (Lf.mk ?_))
  all_goals (dsimp only; rw [hone])
  all_goals exact vC [_, _] rfl rfl rfl (Nat.le_of_eq rfl) (kh _)
 | false =>
  rw [zd8 h35]
  (all_goals refine qgp ?_ <;> (repeat' first | exact trivial | intro hc | refine And.intro ?_ ?_) <;> refine Lf.mk ?_)
  (any_goals (first | (exfalso; refine Bool.false_ne_true ?_; assumption) | (exfalso; refine Bool.false_ne_true (Eq.symm ?_); assumption) | (exfalso; refine absurd trivial ?_; assumption) | skip))
  refine zbU (zb _ ?_)
  (all_goals refine qgp ?_ <;> (repeat' first | exact trivial | intro hc | refine And.intro ?_ ?_) <;> refine Lf.mk ?_)
  refine zcz q b s [64] line [_, _] (by omega) rfl rfl ?_
  cases h64 : (zH [64] s).1 with
  | true =>
   have hone : yR q line s = zae q line [64] (zH [64] s).2 := by unfold yR; rw [zu8 h35 h64]
   have hsub : ∀ t ∈ (zH [64] s).2.rest, t.text.length ≤ 1000000000 := fun t ht => htx t (zsP _ _ t ht)
   have hl2 := zf1 (zg9 (c := [64]) hv)
   generalize (zH [64] s).2 = s' at *
   obtain ⟨r, e, a⟩ := s'
   cases r with
   | nil =>
    have hone : yR q line s = (⟨[64], 0, noV⟩, vA ⟨[], e, a⟩ 2 line) := by rw [hone]; exact zoT (show zjh [] < 0 by decide)
    (all_goals refine qgp ?_ <;> (repeat' first | exact trivial | intro hc | refine And.intro ?_ ?_) <;> refine Lf.mk ?_)
    (any_goals (first | (exfalso; refine Bool.false_ne_true ?_; assumption) | (exfalso; refine Bool.false_ne_true (Eq.symm ?_); assumption) | (exfalso; refine absurd trivial ?_; assumption) | skip))
    all_goals first
     | (exfalso; exact absurd (by assumption : ¬ ([64] : List UInt8) = [64]) (by decide))
     | skip
    refine kg q b ⟨[], e, a⟩ 2 line [_, _] rfl rfl ?_
    (all_goals refine qgp (Lf.mk ?_))
    dsimp only
    rw [hone]
    exact vC [_, _] rfl rfl rfl (Nat.le_of_eq rfl) (kh _)
   | cons t r =>
    have hl2 : r.length + 1 ≤ 1048576 := hl2
    (all_goals refine qgp ?_ <;> (repeat' first | exact trivial | intro hc | refine And.intro ?_ ?_) <;> refine Lf.mk ?_)
    (any_goals (first | (exfalso; refine Bool.false_ne_true ?_; assumption) | (exfalso; refine Bool.false_ne_true (Eq.symm ?_); assumption) | (exfalso; refine absurd trivial ?_; assumption) | skip))
    all_goals first
     | (exfalso; exact absurd trivial (by assumption))
     | (exfalso; exact absurd (by assumption : ([64] : List UInt8) = []) (by decide))
     | (exfalso; exact absurd (by assumption : ¬ ([64] : List UInt8) = [64]) (by decide))
     | skip
    refine zd zaf t (hsub t List.mem_cons_self) (VS.mk (LeL.of_eq rfl)) ?_
    (all_goals refine qgp ?_ <;> (repeat' first | exact trivial | intro hc | refine And.intro ?_ ?_) <;> refine Lf.mk ?_)
    all_goals first
     | (exfalso; exact absurd trivial (by assumption))
     | (exfalso; exact absurd (by assumption : ([64] : List UInt8) = []) (by decide))
     | (exfalso; exact absurd (by assumption : ¬ ([64] : List UInt8) = [64]) (by decide))
     | skip
    ·have hone : yR q line s = (⟨[64], ww t, noV⟩, ⟨r, e, a⟩) := by rw [hone]; exact zmw (.inr rfl) (by assumption)
     dsimp only
     rw [hone]
     exact vC (s' := ⟨r, e, a⟩) [_, _] rfl rfl rfl (Nat.le_of_eq rfl) (kh _)
    ·have hone : yR q line s = (⟨[64], 0, noV⟩, vA ⟨t :: r, e, a⟩ 2 line) := by rw [hone]; exact zoT (show ww t < 0 by omega)
     refine kg q b ⟨t :: r, e, a⟩ 2 line [_, _] rfl rfl ?_
     (all_goals refine qgp (Lf.mk ?_))
     dsimp only
     rw [hone]
     exact vC [_, _] rfl rfl rfl (Nat.le_of_eq rfl) (kh _)
  | false =>
   rw [zd8 h64]
   (all_goals refine qgp ?_ <;> (repeat' first | exact trivial | intro hc | refine And.intro ?_ ?_) <;> refine Lf.mk ?_)
   (any_goals (first | (exfalso; refine Bool.false_ne_true ?_; assumption) | (exfalso; refine Bool.false_ne_true (Eq.symm ?_); assumption) | (exfalso; refine absurd trivial ?_; assumption) | skip))
   refine zbU (zb _ ?_)
   (all_goals refine qgp ?_ <;> (repeat' first | exact trivial | intro hc | refine And.intro ?_ ?_) <;> refine Lf.mk ?_)
   refine zcz q b s [61] line [_, _] (by omega) rfl rfl ?_
   cases h61 : (zH [61] s).1 with
   | true =>
    have hone : yR q line s = (⟨[61], 0, (xJ q line (zH [61] s).2).1⟩, (xJ q line (zH [61] s).2).2) := by unfold yR; rw [zu9 h35 h64 h61]; exact zmv (sg := [61]) (by decide)
    (all_goals refine qgp ?_ <;> (repeat' first | exact trivial | intro hc | refine And.intro ?_ ?_) <;> refine Lf.mk ?_)
    (any_goals (first | (exfalso; refine Bool.false_ne_true ?_; assumption) | (exfalso; refine Bool.false_ne_true (Eq.symm ?_); assumption) | (exfalso; refine absurd trivial ?_; assumption) | skip))
    all_goals first
     | (exfalso; exact absurd (by assumption : ([61] : List UInt8) = [64]) (by decide))
     | (exfalso; exact absurd (by assumption : ([61] : List UInt8) = []) (by decide))
     | skip
    all_goals (refine zbn q b (zH [61] s).2 line [_, _] (zg9 hv) rfl rfl ?_)
    (all_goals refine qgp (Lf.mk ?_))
    all_goals (dsimp only; rw [hone])
    all_goals exact vC [_, _] rfl rfl rfl (Nat.le_of_eq rfl) (kh _)
   | false =>
    have hone : yR q line s = zae q line [] s := by unfold yR; rw [zu6 h35 h64 h61]
    rw [zd8 h61]
    clear h35 h64 h61
    obtain ⟨r, e, a⟩ := s
    cases r with
    | nil =>
     have hone : yR q line ⟨[], e, a⟩ = (⟨[], 0, (xJ q line ⟨[], e, a⟩).1⟩, (xJ q line ⟨[], e, a⟩).2) := by rw [hone]; exact zoU (show zjh [] < 0 by decide)
     (all_goals refine qgp ?_ <;> (repeat' first | exact trivial | intro hc | refine And.intro ?_ ?_) <;> refine Lf.mk ?_)
     (any_goals (first | (exfalso; refine Bool.false_ne_true ?_; assumption) | (exfalso; refine Bool.false_ne_true (Eq.symm ?_); assumption) | (exfalso; refine absurd trivial ?_; assumption) | skip))
     refine zbU (zb _ ?_)
     (all_goals refine qgp ?_ <;> (repeat' first | exact trivial | intro hc | refine And.intro ?_ ?_) <;> refine Lf.mk ?_)
     all_goals first
      | (exfalso; exact absurd trivial (by assumption))
      | (exfalso; exact absurd (by assumption : ([] : List UInt8) = [64]) (by decide))
      | skip
     refine zbn q b ⟨[], e, a⟩ line [_, _] hv rfl rfl ?_
     (all_goals refine qgp (Lf.mk ?_))
     dsimp only
     rw [hone]
     exact vC [_, _] rfl rfl rfl (Nat.le_of_eq rfl) (kh _)
    | cons t r =>
     have hl2 : r.length + 1 ≤ 1048576 := hl
     (all_goals refine qgp ?_ <;> (repeat' first | exact trivial | intro hc | refine And.intro ?_ ?_) <;> refine Lf.mk ?_)
     (any_goals (first | (exfalso; refine Bool.false_ne_true ?_; assumption) | (exfalso; refine Bool.false_ne_true (Eq.symm ?_); assumption) | (exfalso; refine absurd trivial ?_; assumption) | skip))
     refine zbU (zb _ ?_)
     (all_goals refine qgp ?_ <;> (repeat' first | exact trivial | intro hc | refine And.intro ?_ ?_) <;> refine Lf.mk ?_)
     all_goals first
      | (exfalso; exact absurd trivial (by assumption))
      | (exfalso; exact absurd (by assumption : ([] : List UInt8) = [64]) (by decide))
      | (exfalso; exact absurd (by assumption : ¬ ([] : List UInt8) = []) (by decide))
      | skip
     refine zd zaf t (htx t List.mem_cons_self) (VS.mk (LeL.of_eq rfl)) ?_
     (all_goals refine qgp ?_ <;> (repeat' first | exact trivial | intro hc | refine And.intro ?_ ?_) <;> refine Lf.mk ?_)
     all_goals first
      | (exfalso; exact absurd trivial (by assumption))
      | (exfalso; exact absurd (by assumption : ([] : List UInt8) = [64]) (by decide))
      | (exfalso; exact absurd (by assumption : ¬ ([] : List UInt8) = []) (by decide))
      | skip
     ·have hone : yR q line ⟨t :: r, e, a⟩ = (⟨[114], ww t, noV⟩, ⟨r, e, a⟩) := by rw [hone]; exact zmw (.inl rfl) (by assumption)
      dsimp only
      rw [hone]
      exact vC (s' := ⟨r, e, a⟩) [_, _] rfl rfl rfl (Nat.le_of_eq rfl) (kh _)
     ·have hone : yR q line ⟨t :: r, e, a⟩ = (⟨[], 0, (xJ q line ⟨t :: r, e, a⟩).1⟩, (xJ q line ⟨t :: r, e, a⟩).2) := by rw [hone]; exact zoU (show ww t < 0 by omega)
      refine zbn q b ⟨t :: r, e, a⟩ line [_, _] hv rfl rfl ?_
      (all_goals refine qgp (Lf.mk ?_))
      dsimp only
      rw [hone]
      exact vC [_, _] rfl rfl rfl (Nat.le_of_eq rfl) (kh _)
def xT (s s' : RB) : Prop := s'.rest.length ≤ s.rest.length ∧ wt (s'.rest.map tk) ≤ wt (s.rest.map tk) ∧ ∀ t ∈ s'.rest, t ∈ s.rest
theorem xT.refl (s : RB) : xT s s := ⟨Nat.le_refl _, Nat.le_refl _, fun _ h => h⟩
theorem xT.trans {a b c : RB} (h : xT a b) (k : xT b c) : xT a c := ⟨Nat.le_trans k.1 h.1, Nat.le_trans k.2.1 h.2.1, fun t ht => h.2.2 t (k.2.2 t ht)⟩
theorem xT.fail {s s' : RB} (h : xT s s') (e line : Int) : xT s (vA s' e line) := by
 unfold vA
 split
 ·exact h
 ·exact h
theorem xT.drop {s : RB} (k : Nat) (e a : Int) : xT s ⟨s.rest.drop k, e, a⟩ :=
 ⟨by simp, by show wt ((s.rest.drop k).map tk) ≤ _; rw [List.map_drop]; exact zoS _ _, fun t ht => List.mem_of_mem_drop ht⟩
theorem jk (c : List UInt8) (s : RB) : xT s (zH c s).2 := by
 obtain ⟨r, e, a⟩ := s
 cases r with
 | nil => rw [take_nil]; exact .refl _
 | cons t r =>
  rw [wy]
  split
  ·exact xT.drop (s := ⟨t :: r, e, a⟩) 1 e a
  ·exact .refl _
theorem zpZ (q : List zj) (line : Int) (s : RB) : xT s (xJ q line s).2 := by
 unfold xJ
 split
 ·dsimp only
  split
  ·exact .drop _ _ _
  ·exact (xT.drop _ _ _).fail _ _
 ·exact (xT.refl s).fail _ _
theorem zrv (s : RB) : xT s (qC s).2 := by
 unfold qC
 split
 ·exact jk _ _
 split
 ·exact jk _ _
 split
 ·exact jk _ _
 ·exact .refl _
theorem zmx (q : List zj) (line : Int) (s : RB) : xT s (yR q line s).2 := by
 unfold yR zae
 refine (zrv s).trans ?_
 split
 ·exact .drop _ _ _
 split
 ·exact (xT.refl _).fail _ _
 ·exact zpZ _ _ _
theorem zp0 (line : Int) (s : RB) : xT s (xB line s) := by
 unfold xB
 split
 ·exact (jk _ _).fail _ _
 ·exact jk _ _
theorem zio (line : Int) (s : RB) (h : (xB line s).fe = 0) : (xB line s).rest.length + 1 ≤ s.rest.length := by
 unfold xB at h ⊢
 split
 ·rename_i hc
  rw [if_pos hc] at h
  exfalso
  unfold vA at h
  split at h
  ·exact absurd (show (2 : Int) = 0 from h) (by decide)
  ·contradiction
 ·rename_i hc
  have ht : (zH [44] s).1 = true := by
   cases h1 : (zH [44] s).1 with
   | true => rfl
   | false => exact absurd (.inl h1) hc
  obtain ⟨r, e, a⟩ := s
  cases r with
  | nil => rw [take_nil] at ht; cases ht
  | cons t r =>
   rw [wy] at ht ⊢
   split at ht
   ·rw [if_pos (by assumption)]; exact Nat.le_refl _
   ·cases ht
theorem xT.val {s s' : RB} {q : List zj} (h : xT s s') (hv : kf s q) : kf s' q := ⟨Nat.le_trans h.2.1 hv.1, hv.2⟩
theorem zha {q : List zj} {line : Int} {out : List AOp} {s : RB} (h : s.rest = [] ∨ s.fe ≠ 0) : ∀ f, ja q line f out s = (out, s)
 | 0 => rfl
 | f + 1 => by rw [ja, if_pos h]
theorem zrw {q : List zj} {line : Int} {out : List AOp} {s : RB} (f : Nat) (h : ¬ (s.rest = [] ∨ s.fe ≠ 0)) : ja q line (f + 1) out s = if (yR q line s).2.rest = [] then (out ++ [(yR q line s).1], (yR q line s).2)
  else ja q line f (out ++ [(yR q line s).1]) (xB line (yR q line s).2) := by rw [ja, if_neg h]
theorem zrx (line : Int) (s : RB) : xB line s = if (zH [44] s).1 = false ∨ (zH [44] s).2.rest = [] then vA (zH [44] s).2 2 line else (zH [44] s).2 := rfl
attribute [local irreducible] yR xB ja
theorem zsQ {av : List D} {L : List Ob} {KP : D → Prop} {KW : D → List Ob → Prop} (q : List zj) (b : Bld) (s : RB) (line : Int) (X : List Ob) (hl : kf s q) (ht : ∀ t ∈ s.rest, t.text.length ≤ 1000000000) (hL : L = wI q b s line ++ X) (has : av = [.loc 6 0])
  (hK : KW (vP (yR q line s).1) (wI q b (yR q line s).2 line ++ X)) : zo Tryz.prog zbZ av L KP KW := by
 subst has
 exact xg zru X (b, s, q, line) ⟨hl, ht⟩ hL (LeL.refl _) rfl (.cons (.loc (Nat.lt_of_lt_of_le (by decide : 6 < 7) (Nat.le_of_eq rfl))) .nil) (kh _) (zag _ _ _ _) (zag _ _ _ _) hK
theorem zry : za Tryz.prog zbY (z1 (fun ((_, s, q, _) : Bld × RB × List zj × Int) => kf s q ∧ ∀ t ∈ s.rest, t.text.length ≤ 1000000000) (fun _ => [.loc 6 0])
  (fun (b, s, q, line) => wI q b s line) (fun (_, s, q, line) => .sl 4 ((xn q line s).1.map vP) none) fun (b, s, q, line) => wI q b (xn q line s).2 line) := by
 refine ze zi Tryz.func115 rfl (by decide) ?_
 rintro ⟨b, s, q, line⟩ ⟨hv, htx⟩
 have hv : kf s q := hv
 have htx : ∀ t ∈ s.rest, t.text.length ≤ 1000000000 := htx
 refine ⟨Nat.le_refl _, by simp [Tryz.f115], fun E hE => ?_⟩
 have hl0 := zf1 hv
 have hE7 : E.L.length = 7 := by rw [hE]; rfl
 generalize hT : xn q line s = T
 have hT0 : ja q line (s.rest.length + 1) [] s = T := hT
 refine zb _ ?_
 (all_goals refine qgp (Lf.mk ?_))
 refine kX (j6 3 4 rfl) ?_
 refine z7 (α := List AOp × RB × Nat) (fun p => xT s p.2.1 ∧ (p.2.1.fe = 0 → p.2.1.rest.length + 1 ≤ p.2.2) ∧ ja q line p.2.2 p.1 p.2.1 = T ∧ p.1.length + p.2.1.rest.length ≤ s.rest.length + 1 ∧ (p.2.1.fe = 0 → p.1.length + p.2.1.rest.length ≤ s.rest.length))
  (fun p => [(0, .loc 6 0), (3, .sl 4 (p.1.map vP) (some 7))]) (fun p => wI q b p.2.1 line ++ [.spare p.1.length]) (fun p => p.2.1.rest.length + if p.2.1.fe = 0 then 1 else 0) (fun _ => by rw [hE7]; exact Nat.le_succ 7) ([], s, s.rest.length + 1)
  ⟨.refl _, fun _ => Nat.le_refl _, hT0, by simp, fun _ => by simp⟩ ?_ ?_
 ·exact zX rfl ⟨rfl, rfl, trivial⟩
 rintro ⟨out, s1, f⟩ ⟨i1, i2, i3, i4, i5⟩
 dsimp only at i1 i2 i3 i4 i5 ⊢
 have hv1 := i1.val hv
 have hl1 := zf1 hv1
 refine zb _ ?_
 (all_goals refine qgp ?_ <;> (repeat' first | exact trivial | intro hc | refine And.intro ?_ ?_) <;> refine Lf.mk ?_)
 ·have hfe : s1.fe = 0 := hc
  have hne : s1.rest ≠ [] := fun h => by simp only [h, List.length_nil] at *; omega
  have hf := i2 hfe
  have hol := i5 hfe
  obtain ⟨f, rfl⟩ : ∃ g, f = g + 1 := ⟨f - 1, by omega⟩
  rw [zrw f (fun e => e.elim hne (fun e => e hfe))] at i3
  have hone := zmx q line s1
  refine zsQ q b s1 line [_] hv1 (fun t ht => htx t (i1.2.2 t ht)) rfl rfl ?_
  generalize yR q line s1 = W at *
  obtain ⟨o, s2⟩ := W
  dsimp only at i3 hone ⊢
  have hl2 := hone.1
  (all_goals refine qgk (Lf.mk ?_))
  refine yV ((out ++ [o]).map vP) (by rw [List.map_append]; rfl) ?_
  rw [List.length_map]
  (all_goals refine qgp ?_ <;> (repeat' first | exact trivial | intro hc | refine And.intro ?_ ?_) <;> refine Lf.mk ?_)
  ·have hre : s2.rest = [] := List.eq_nil_of_length_eq_zero (by omega)
   rw [if_pos hre] at i3
   refine qr (LeD.strip _ _ _) ?_ (Nat.le_of_eq rfl)
   rw [hT, ← i3]
   exact vC [_] rfl rfl rfl (Nat.le_of_eq rfl) .sl
  ·have hre : ¬ s2.rest = [] := fun h => by rw [h] at hc; exact hc rfl
   rw [if_neg hre] at i3
   have hl3 := jk [44] s2
   have hcl := zp0 line s2
   have hce := zio line s2
   have hcd : xB line s2 = if (zH [44] s2).1 = false ∨ (zH [44] s2).2.rest = [] then vA (zH [44] s2).2 2 line else (zH [44] s2).2 := zrx line s2
   refine zcz q b s2 [44] line [_] (by omega) rfl rfl ?_
   generalize zH [44] s2 = Y at *
   obtain ⟨y, s3⟩ := Y
   dsimp only at hcd hl3 ⊢
   have hl3 := hl3.1
   have hcl1 := hcl.1
   have hI : xT s (xB line s2) ∧ ((xB line s2).fe = 0 → (xB line s2).rest.length + 1 ≤ f) ∧ ja q line f (out ++ [o]) (xB line s2) = T ∧ (out ++ [o]).length + (xB line s2).rest.length ≤ s.rest.length + 1 ∧
     ((xB line s2).fe = 0 → (out ++ [o]).length + (xB line s2).rest.length ≤ s.rest.length) := by
    refine ⟨i1.trans (hone.trans hcl), fun h => by have := hce h; omega, i3, ?_, fun h => ?_⟩
    ·rw [List.length_append, List.length_singleton]; omega
    ·have := hce h; rw [List.length_append, List.length_singleton]; omega
   have hmu : (xB line s2).rest.length + (if (xB line s2).fe = 0 then 1 else 0) < s1.rest.length + (if s1.fe = 0 then 1 else 0) := by
    rw [if_pos hfe]
    by_cases h : (xB line s2).fe = 0
    ·have := hce h; rw [if_pos h]; omega
    ·rw [if_neg h]; omega
   generalize xB line s2 = s4 at *
   (all_goals refine qgp ?_ <;> (repeat' first | exact trivial | intro hc | refine And.intro ?_ ?_) <;> refine Lf.mk ?_)
   ·rw [if_pos (.inl hc)] at hcd
    refine kg q b s3 2 line [_] rfl rfl ?_
    rw [← hcd]
    (all_goals refine qgp (Lf.mk ?_))
    exact zR (out ++ [o], s4, f) hI hmu rfl ⟨rfl, rfl, trivial⟩
   ·rw [if_pos (.inr (List.eq_nil_of_length_eq_zero (by omega)))] at hcd
    refine kg q b s3 2 line [_] rfl rfl ?_
    rw [← hcd]
    (all_goals refine qgp (Lf.mk ?_))
    exact zR (out ++ [o], s4, f) hI hmu rfl ⟨rfl, rfl, trivial⟩
   ·have hy : y = true := by assumption
    rw [if_neg (fun e => e.elim (fun h => by rw [hy] at h; cases h) (fun h => by rw [h] at hc; exact hc rfl))] at hcd
    rw [← hcd]
    exact zR (out ++ [o], s4, f) hI hmu rfl ⟨rfl, rfl, trivial⟩
 ·have hfe : s1.fe ≠ 0 := hc
  rw [zha (.inr hfe)] at i3
  refine qr (LeD.strip _ _ _) ?_ (Nat.le_of_eq rfl)
  rw [hT, ← i3]
  exact vC [_] rfl rfl rfl (Nat.le_of_eq rfl) .sl
 ·have hre : s1.rest = [] := List.eq_nil_of_length_eq_zero (by omega)
  rw [zha (.inl hre)] at i3
  refine qr (LeD.strip _ _ _) ?_ (Nat.le_of_eq rfl)
  rw [hT, ← i3]
  exact vC [_] rfl rfl rfl (Nat.le_of_eq rfl) .sl
end Go.Proofs.YtnkdeacghopkiaaGreatDoor
namespace Go.Proofs.YtnkdeacghopkiaaGreatDoor
open Go Go.Plat
set_option linter.unusedVariables false
set_option linter.unusedSimpArgs false
set_option maxRecDepth 100000
set_option maxHeartbeats 2000000
attribute [local irreducible] AWP zN yv zU zo yC yh zG yb Lib.itoa yf zx za zY yz zr yg zg.kids zg.kind zg.n zg.name yx yy yn yo zw zy xn zT xf y9 yr yR xI ww zH
theorem zO {n0 : Nat} {q : List zj} {b b' : Bld} {r d : D} {L : List Ob} (X : List Ob) (hL : L = bO q b' ++ X) (hb : b' = b) (hr : r = d) (hn : n0 ≤ 6) (hd : ClD 6 d) : zG n0 r d L (bO q b) := by
 subst hb; subst hr
 exact xc (bO q b') X hL hn hd (y5 _ _)
theorem zd9 : za Tryz.prog ku (z1 (fun ((b, _, _) : Bld × zD × List zj) => b.items.length ≤ 1000000) (fun (_, x, _) => [.loc 0 0, xa x])
  (fun (b, _, q) => bO q b) (fun _ => .tup []) fun (b, x, q) => bO q (xq b x)) := by
 refine ze zi Tryz.func119 rfl (by decide) ?_
 rintro ⟨b, x, q⟩ hl
 have hl : b.items.length ≤ 1000000 := hl
 refine ⟨Nat.le_refl _, by simp [Tryz.f119], fun E hE => ?_⟩
 refine zb _ ?_
 (all_goals refine qgk (Lf.mk ?_))
 refine yV ((b.items ++ [x]).map xa) (by rw [List.map_append]; rfl) ?_
 rw [List.length_map]
 (all_goals refine qgk (Lf.mk ?_))
 exact zO (b' := xq b x) [_] rfl rfl rfl (Nat.le_of_eq rfl) .tup0
theorem zmy {n : Nat} (x : zD) : ClD n (xa x) := .agg (.cons .int (.cons .int (.cons .int (.cons .int (.cons .int (.cons .int (.cons .int (.cons .bool (.cons .int (.cons .str (.cons .int (.cons .int (.cons .int .nil)))))))))))))
theorem yp {av : List D} {L : List Ob} {KP : D → Prop} {KW : D → List Ob → Prop} (q : List zj) (b : Bld) (x : zD) (X : List Ob) (hl : b.items.length ≤ 1000000) (hL : L = bO q b ++ X) (has : LeL av [.loc 0 0, xa x])
  (hK : KW (.tup []) (bO q (xq b x) ++ X)) : zo Tryz.prog ku av L KP KW := by
 refine zda has ?_
 exact xg zd9 X (b, x, q) hl hL (LeL.refl _) rfl (.cons (.loc (Nat.lt_of_lt_of_le (by decide : 0 < 6) (Nat.le_of_eq rfl))) (.cons (zmy x) .nil)) .tup0 (y5 _ _) (y5 _ _) hK
theorem yA {k at_ line : Int} {i : Ins} {size : Int} {v : zq} {p x : Int} : LeL [.loc 0 0, .agg [.int .i64 k, .int .i64 at_, .int .i64 line, .int .i64 i.op, .int .i64 i.n, .int .i64 i.m, .int .i64 i.imm, .ff, .int .i64 size, .str v.name, .int .i64 v.n, .int .i64 p, .int .i64 x]]
  [.loc 0 0, xa ⟨k, at_, line, i, false, size, v, p, x⟩] :=
 .cons (.refl _) (.cons (.agg (.cons (.refl _) (.cons (.refl _) (.cons (.refl _) (.cons (.refl _) (.cons (.refl _) (.cons (.refl _) (.cons (.refl _) (.cons (.ff rfl) (.refl _)))))))))) .nil)
theorem vQ (b : Bld) (e line : Int) : (yt b e line).items = b.items := by unfold yt; split <;> rfl
theorem zmz : za Tryz.prog jM (z1 (fun ((b, l, _, _) : Bld × List AOp × Int × List zj) => b.items.length ≤ 1000000 ∧ l.length ≤ 1000000000) (fun (_, l, line, _) => [.loc 0 0, .sl 4 (l.map vP) none, .int .i64 line])
  (fun (b, _, _, q) => bO q b) (fun _ => .tup []) fun (b, l, line, q) => bO q (qv b l line)) := by
 refine ze zi Tryz.func117 rfl (by decide) ?_
 rintro ⟨b, l, line, q⟩ ⟨hb, hl⟩
 have hb : b.items.length ≤ 1000000 := hb
 have hl : l.length ≤ 1000000000 := hl
 refine ⟨Nat.le_refl _, by simp [Tryz.f117], fun E hE => ?_⟩
 match l, hl with
 | [], _ =>
  refine zb _ ?_
  (all_goals refine qgp ?_ <;> (repeat' first | exact trivial | intro hc | refine And.intro ?_ ?_) <;> refine Lf.mk ?_)
  refine yH q b 2 line [] rfl rfl ?_
  (all_goals refine qgp (Lf.mk ?_))
  exact zO [] rfl rfl rfl (Nat.le_of_eq rfl) .tup0
 | [o], _ =>
  have hA : qv b [o] line = if o.sign ≠ [] ∨ o.val.name ≠ [] then yt b 2 line else if o.val.n ≠ 1 ∧ o.val.n ≠ 2 ∧ o.val.n ≠ 4 ∧ o.val.n ≠ 8 ∧ o.val.n ≠ 16 then yt b 3 line
    else xq b ⟨8, 0, line, noI, false, o.val.n, noV, 0, 0⟩ := by
   unfold qv
   by_cases h : o.sign ≠ [] ∨ o.val.name ≠ []
   ·rw [if_pos h, if_pos (.inr h)]
   ·rw [if_neg h, if_neg (fun e => e.elim (fun e => e rfl) h)]; rfl
  refine zb _ ?_
  (all_goals refine qgp ?_ <;> (repeat' first | exact trivial | intro hc | refine And.intro ?_ ?_) <;> refine Lf.mk ?_)
  ·refine yH q b 2 line [] rfl rfl ?_
   (all_goals refine qgp (Lf.mk ?_))
   exact zO [] rfl (by rw [hA, if_pos (.inl hc)]) rfl (Nat.le_of_eq rfl) .tup0
  ·refine yH q b 2 line [] rfl rfl ?_
   (all_goals refine qgp (Lf.mk ?_))
   exact zO [] rfl (by rw [hA, if_pos (.inr hc)]) rfl (Nat.le_of_eq rfl) .tup0
  ·refine yH q b 3 line [] rfl rfl ?_
   (all_goals refine qgp (Lf.mk ?_))
   exact zO [] rfl (by rw [hA, if_neg (fun e => e.elim (fun e => e (by assumption)) (fun e => e (by assumption))), if_pos ⟨by assumption, by assumption, by assumption, by assumption, hc⟩]) rfl (Nat.le_of_eq rfl) .tup0
  all_goals
   refine yp q b ⟨8, 0, line, noI, false, o.val.n, noV, 0, 0⟩ [] hb rfl yA ?_
   (all_goals refine qgp (Lf.mk ?_))
   exact zO [] rfl (by rw [hA, if_neg (fun e => e.elim (fun e => e (by assumption)) (fun e => e (by assumption))), if_neg (fun e => by omega)]) rfl (Nat.le_of_eq rfl) .tup0
 | o :: o2 :: l, _ =>
  refine zb _ ?_
  (all_goals refine qgp ?_ <;> (repeat' first | exact trivial | intro hc | refine And.intro ?_ ?_) <;> refine Lf.mk ?_)
  refine yH q b 2 line [] rfl rfl ?_
  (all_goals refine qgp (Lf.mk ?_))
  exact zO [] rfl (by unfold qv; rw [if_pos (.inl (by simp))]) rfl (Nat.le_of_eq rfl) .tup0
theorem zp1 (size line : Int) (b : Bld) (o : AOp) : (wH size line b o).items.length = b.items.length + 1 := by
 unfold wH xq
 dsimp only
 rw [List.length_append, List.length_singleton]
 split
 ·rw [vQ]
 split
 ·rw [vQ]
 split
 ·rw [vQ]
 ·rfl
theorem znZ : za Tryz.prog zaI (z1 (fun ((b, size, l, _, _) : Bld × Int × List AOp × Int × List zj) => b.items.length + l.length ≤ 1000000 ∧ (size = 1 ∨ size = 2 ∨ size = 4)) (fun (_, size, l, line, _) => [.loc 0 0, .int .i64 size, .sl 4 (l.map vP) none, .int .i64 line])
  (fun (b, _, _, _, q) => bO q b) (fun _ => .tup []) fun (b, size, l, line, q) => bO q (kK b size l line)) := by
 refine ze zi Tryz.func116 rfl (by decide) ?_
 rintro ⟨b, size, l, line, q⟩ ⟨hb, hs⟩
 have hb : b.items.length + l.length ≤ 1000000 := hb
 have hs : size = 1 ∨ size = 2 ∨ size = 4 := hs
 have hE6 : ∀ E : y3, E.L = bO q b → E.L.length = 6 := fun E h => by rw [h]; rfl
 refine ⟨Nat.le_refl _, by simp [Tryz.f116], fun E hE => ?_⟩
 have hE6 := hE6 E hE
 obtain ⟨s, m, hz1, hz2, hz3, hz4, hz5, hz6, hz7, hz8⟩ : ∃ (s : Nat) (m : Int), 8 * size - 1 = (s : Int) ∧ s ≤ 60 ∧ (2 : Int) ^ s = m ∧ (2 : Int) ^ (s + 1) = m * 2 ∧ 0 ≤ m ∧ m ≤ 2147483648 ∧ zu4 size = -m ∧ ztx size = m * 2 - 1 := by
  rcases hs with rfl | rfl | rfl
  ·exact ⟨7, 128, by decide, by decide, by decide, by decide, by decide, by decide, by decide, by decide⟩
  ·exact ⟨15, 32768, by decide, by decide, by decide, by decide, by decide, by decide, by decide, by decide⟩
  ·exact ⟨31, 2147483648, by decide, by decide, by decide, by decide, by decide, by decide, by decide, by decide⟩
 generalize hT : kK b size l line = T
 have hT0 : l.foldl (wH size line) (if l = [] then yt b 2 line else b) = T := hT
 refine zb _ ?_
 (all_goals refine qgp ?_ <;> (repeat' first | exact trivial | intro hc | refine And.intro ?_ ?_) <;> refine Lf.mk ?_)
 ·have hnil : l = [] := List.eq_nil_of_length_eq_zero (by have hc : ((l.length : Nat) : Int) = 0 := hc; omega)
  subst hnil
  refine yH q b 2 line [] rfl rfl ?_
  (all_goals refine qgp (Lf.mk ?_))
  refine zdM (zb _ ?_)
  (all_goals refine qgp ?_ <;> (repeat' first | exact trivial | intro hc | refine And.intro ?_ ?_) <;> refine Lf.mk ?_)
  exact zO [] rfl (by rw [hT, ← hT0]; rfl) rfl (Nat.le_of_eq rfl) .tup0
 ·have hne : ¬ l = [] := fun h => by rw [h] at hc; exact hc rfl
  rw [if_neg hne] at hT0
  refine z7 (α := Nat × Bld) (fun p => p.1 ≤ l.length ∧ (l.drop p.1).foldl (wH size line) p.2 = T ∧ p.2.items.length + (l.length - p.1) ≤ 1000000)
   (fun p => [(0, .loc 0 0), (1, .int .i64 size), (3, .int .i64 line), (18, .sl 4 (l.map vP) none), (19, .int .i64 l.length), (20, .int .i64 p.1)]) (fun p => bO q p.2) (fun p => l.length - p.1) (fun _ => by rw [hE6]; exact Nat.le_refl 6) (0, b)
   ⟨Nat.zero_le _, hT0, by dsimp only; omega⟩ ?_ ?_
  ·exact zX rfl ⟨rfl, rfl, rfl, rfl, rfl, rfl, trivial⟩
  rintro ⟨k, b1⟩ ⟨i1, i2, i3⟩
  dsimp only at i1 i2 i3 ⊢
  refine zb _ ?_
  (all_goals refine qgp ?_ <;> (repeat' first | exact trivial | intro hc | refine And.intro ?_ ?_) <;> refine Lf.mk ?_)
  ·obtain ⟨o, ho⟩ := yi (l := l) (k := k) (by omega)
   have hkl : k < l.length := by omega
   have hget : l[k] = o := by rw [List.getElem?_eq_getElem hkl] at ho; exact Option.some.inj ho
   rw [List.drop_eq_getElem_cons hkl, hget, List.foldl_cons] at i2
   have hit := zp1 size line b1 o
   refine zk o (by omega) (by simpa using ho) ?_
   (all_goals refine qgp (Lf.mk ?_))
   refine vW (s := s) (m := m) hz1 (by omega) hz3 (by omega) (by omega) ?_
   (all_goals refine qgp (Lf.mk ?_))
   refine vW (s := s + 1) (m := m * 2) (by omega) (by omega) hz4 (by omega) (by omega) ?_
   (all_goals refine qgp ?_ <;> (repeat' first | exact trivial | intro hc | refine And.intro ?_ ?_) <;> refine Lf.mk ?_)
   all_goals first
    | (exfalso; exact absurd (by assumption : o.val.name = []) (by assumption))
    | skip
   ·have hd : wH size line b1 o = xq (yt b1 2 line) ⟨7, 0, line, noI, false, size, o.val, 0, 0⟩ := by unfold wH; rw [if_pos hc]
    rw [hd] at i2 hit
    refine yH q b1 2 line [_] rfl rfl ?_
    (all_goals refine qgp (Lf.mk ?_))
    refine yp q (yt b1 2 line) ⟨7, 0, line, noI, false, size, o.val, 0, 0⟩ [_] (by rw [vQ]; omega) rfl yA ?_
    (all_goals refine qgp (Lf.mk ?_))
    exact wG (k + 1, xq (yt b1 2 line) ⟨7, 0, line, noI, false, size, o.val, 0, 0⟩) [_] ⟨by show k + 1 ≤ _; omega, i2, by dsimp only; rw [hit]; omega⟩ (by dsimp only; omega) rfl (by rw [hE6]; exact Nat.le_refl 6) (y5 _ _) ⟨rfl, rfl, rfl, rfl, rfl, rfl, trivial⟩
     (.cons (.loc (Nat.lt_of_lt_of_le (by decide : 0 < 6) (Nat.le_of_eq rfl))) (.cons .int (.cons .int (.cons .sl (.cons .int (.cons .int .nil))))))
   ·have hd : wH size line b1 o = xq (yt b1 8 line) ⟨7, 0, line, noI, false, size, o.val, 0, 0⟩ := by unfold wH; rw [if_neg (fun h => h (by assumption)), if_pos ⟨by assumption, hc⟩]
    rw [hd] at i2 hit
    refine yH q b1 8 line [_] rfl rfl ?_
    (all_goals refine qgp (Lf.mk ?_))
    refine yp q (yt b1 8 line) ⟨7, 0, line, noI, false, size, o.val, 0, 0⟩ [_] (by rw [vQ]; omega) rfl yA ?_
    (all_goals refine qgp (Lf.mk ?_))
    exact wG (k + 1, xq (yt b1 8 line) ⟨7, 0, line, noI, false, size, o.val, 0, 0⟩) [_] ⟨by show k + 1 ≤ _; omega, i2, by dsimp only; rw [hit]; omega⟩ (by dsimp only; omega) rfl (by rw [hE6]; exact Nat.le_refl 6) (y5 _ _) ⟨rfl, rfl, rfl, rfl, rfl, rfl, trivial⟩
     (.cons (.loc (Nat.lt_of_lt_of_le (by decide : 0 < 6) (Nat.le_of_eq rfl))) (.cons .int (.cons .int (.cons .sl (.cons .int (.cons .int .nil))))))
   ·have hd : wH size line b1 o = xq b1 ⟨7, 0, line, noI, false, size, o.val, 0, 0⟩ := by unfold wH; rw [if_neg (fun h => h (by assumption)), if_neg (fun h => absurd h.2 (by assumption)), if_neg (fun h => absurd h.1 (by assumption))]
    rw [hd] at i2 hit
    refine yp q b1 ⟨7, 0, line, noI, false, size, o.val, 0, 0⟩ [_] (by omega) rfl yA ?_
    (all_goals refine qgp (Lf.mk ?_))
    exact wG (k + 1, xq b1 ⟨7, 0, line, noI, false, size, o.val, 0, 0⟩) [_] ⟨by show k + 1 ≤ _; omega, i2, by dsimp only; rw [hit]; omega⟩ (by dsimp only; omega) rfl (by rw [hE6]; exact Nat.le_refl 6) (y5 _ _) ⟨rfl, rfl, rfl, rfl, rfl, rfl, trivial⟩
     (.cons (.loc (Nat.lt_of_lt_of_le (by decide : 0 < 6) (Nat.le_of_eq rfl))) (.cons .int (.cons .int (.cons .sl (.cons .int (.cons .int .nil))))))
   ·have hd : wH size line b1 o = xq (yt b1 3 line) ⟨7, 0, line, noI, false, size, o.val, 0, 0⟩ := by unfold wH; rw [if_neg (fun h => h (by assumption)), if_neg (fun h => absurd (by assumption) h.1), if_pos ⟨by assumption, .inl (by rw [hz7]; omega)⟩]
    rw [hd] at i2 hit
    refine yH q b1 3 line [_] rfl rfl ?_
    (all_goals refine qgp (Lf.mk ?_))
    refine yp q (yt b1 3 line) ⟨7, 0, line, noI, false, size, o.val, 0, 0⟩ [_] (by rw [vQ]; omega) rfl yA ?_
    (all_goals refine qgp (Lf.mk ?_))
    exact wG (k + 1, xq (yt b1 3 line) ⟨7, 0, line, noI, false, size, o.val, 0, 0⟩) [_] ⟨by show k + 1 ≤ _; omega, i2, by dsimp only; rw [hit]; omega⟩ (by dsimp only; omega) rfl (by rw [hE6]; exact Nat.le_refl 6) (y5 _ _) ⟨rfl, rfl, rfl, rfl, rfl, rfl, trivial⟩
     (.cons (.loc (Nat.lt_of_lt_of_le (by decide : 0 < 6) (Nat.le_of_eq rfl))) (.cons .int (.cons .int (.cons .sl (.cons .int (.cons .int .nil))))))
   ·have hd : wH size line b1 o = xq (yt b1 3 line) ⟨7, 0, line, noI, false, size, o.val, 0, 0⟩ := by unfold wH; rw [if_neg (fun h => h (by assumption)), if_neg (fun h => absurd (by assumption) h.1), if_pos ⟨by assumption, .inr (by rw [hz8]; omega)⟩]
    rw [hd] at i2 hit
    refine yH q b1 3 line [_] rfl rfl ?_
    (all_goals refine qgp (Lf.mk ?_))
    refine yp q (yt b1 3 line) ⟨7, 0, line, noI, false, size, o.val, 0, 0⟩ [_] (by rw [vQ]; omega) rfl yA ?_
    (all_goals refine qgp (Lf.mk ?_))
    exact wG (k + 1, xq (yt b1 3 line) ⟨7, 0, line, noI, false, size, o.val, 0, 0⟩) [_] ⟨by show k + 1 ≤ _; omega, i2, by dsimp only; rw [hit]; omega⟩ (by dsimp only; omega) rfl (by rw [hE6]; exact Nat.le_refl 6) (y5 _ _) ⟨rfl, rfl, rfl, rfl, rfl, rfl, trivial⟩
     (.cons (.loc (Nat.lt_of_lt_of_le (by decide : 0 < 6) (Nat.le_of_eq rfl))) (.cons .int (.cons .int (.cons .sl (.cons .int (.cons .int .nil))))))
   ·have hd : wH size line b1 o = xq b1 ⟨7, 0, line, noI, false, size, o.val, 0, 0⟩ := by unfold wH; rw [if_neg (fun h => h (by assumption)), if_neg (fun h => absurd (by assumption) h.1), if_neg (fun h => by rw [hz7, hz8] at h; omega)]
    rw [hd] at i2 hit
    refine yp q b1 ⟨7, 0, line, noI, false, size, o.val, 0, 0⟩ [_] (by omega) rfl yA ?_
    (all_goals refine qgp (Lf.mk ?_))
    exact wG (k + 1, xq b1 ⟨7, 0, line, noI, false, size, o.val, 0, 0⟩) [_] ⟨by show k + 1 ≤ _; omega, i2, by dsimp only; rw [hit]; omega⟩ (by dsimp only; omega) rfl (by rw [hE6]; exact Nat.le_refl 6) (y5 _ _) ⟨rfl, rfl, rfl, rfl, rfl, rfl, trivial⟩
     (.cons (.loc (Nat.lt_of_lt_of_le (by decide : 0 < 6) (Nat.le_of_eq rfl))) (.cons .int (.cons .int (.cons .sl (.cons .int (.cons .int .nil))))))
  ·have hk : k = l.length := by omega
   subst hk
   rw [List.drop_length] at i2
   exact zO [] rfl (by rw [hT]; exact i2) rfl (Nat.le_of_eq rfl) .tup0
theorem zsR (a : List (List zq)) (c : List zq) : ∀ (i : Nat) d d', (a.map yZ ++ [.sl 2 (c.map yw) (some 5)])[i]? = some d → ((a ++ [c]).map yZ)[i]? = some d' → LeL d.cells d'.cells := by
 intro i d d' h1 h2
 rw [List.map_append] at h2
 rcases Nat.lt_or_ge i (a.map yZ).length with h | h
 ·rw [List.getElem?_append_left h] at h1 h2
  rw [h1] at h2
  cases h2
  exact LeL.refl _
 ·rw [List.getElem?_append_right h] at h1 h2
  cases hi : i - (a.map yZ).length with
  | zero =>
   rw [hi] at h1 h2
   cases h1
   cases h2
   exact .cons (.strip _ _ _) .nil
  | succ j => rw [hi] at h1; simp at h1
theorem zn0 : za Tryz.prog zaH (z1 (fun ((b, _, _) : Bld × Int × List zj) => b.items.length ≤ 1000000 ∧ b.shut.length ≤ 1000000) (fun (_, line, _) => [.loc 0 0, .int .i64 line])
  (fun (b, _, q) => bO q b) (fun _ => .tup []) fun (b, line, q) => bO q (vS b line)) := by
 refine ze zi Tryz.func88 rfl (by decide) ?_
 rintro ⟨⟨items, syms, marks, shut, has, cur, fe, fa⟩, line, q⟩ ⟨hl, hp⟩
 have hl : items.length ≤ 1000000 := hl
 have hp : shut.length ≤ 1000000 := hp
 refine ⟨Nat.le_refl _, by simp [Tryz.f88], fun E hE => ?_⟩
 cases has with
 | false =>
  have hlen : (zF ⟨items, syms, marks, shut, false, cur, fe, fa⟩).length = shut.length := by unfold zF; simp
  refine zb _ ?_
  (all_goals refine qgp ?_ <;> (repeat' first | exact trivial | intro hc | refine And.intro ?_ ?_) <;> refine Lf.mk ?_)
  exact zO (b' := ⟨items, syms, marks, shut, false, cur, fe, fa⟩) [] rfl rfl rfl (Nat.le_of_eq rfl) .tup0
 | true =>
  have hlen : (zF ⟨items, syms, marks, shut, true, cur, fe, fa⟩).length = shut.length + 1 := by unfold zF; simp
  refine zb _ ?_
  (all_goals refine qgp ?_ <;> (repeat' first | exact trivial | intro hc | refine And.intro ?_ ?_) <;> refine Lf.mk ?_)
  refine yp q ⟨items, syms, marks, shut, true, cur, fe, fa⟩ ⟨9, 0, line, noI, false, 0, noV, shut.length, 0⟩ [] hl rfl yA ?_
  (all_goals refine qgp (Lf.mk ?_))
  refine qK (by show (-9223372036854775808 : Int) ≤ (shut.length : Int) + 1; omega) (by show (shut.length : Int) + 1 ≤ 9223372036854775807; omega) ?_
  (all_goals refine qgp (Lf.mk ?_))
  refine zot (k := 4) (e := 1) (ds := shut.map yZ ++ [.sl 2 (cur.map yw) (some 5)]) ((shut ++ [cur]).map yZ) rfl (by simp) (zsR shut cur) ?_ (Nat.le_of_eq rfl)
  refine zsn (k := 5) (Nat.le_of_eq rfl) ?_ (Nat.le_of_eq rfl)
  refine yM rfl ?_
  show [Ob.cells _, _, _, _, _, _] = bO q ⟨items ++ [⟨9, 0, line, noI, false, 0, noV, shut.length, 0⟩], syms, marks, shut ++ [cur], false, [], fe, fa⟩
  unfold bO bC bT zcZ zF xq
  simp
theorem zfh : za Tryz.prog kv (zz (fun ((l, _) : List zq × zq) => l.length ≤ 1000000000) (fun (l, x) => [.sl 2 (l.map yw) none, yw x]) fun (l, x) => .int .i64 (wd x l 0)) := by
 refine ze zi Tryz.func176 rfl (by decide) ?_
 rintro ⟨l, x⟩ hl
 have hl : l.length ≤ 1000000000 := hl
 refine ⟨Nat.le_refl _, by simp [Tryz.f176], fun E hE => ?_⟩
 refine zb _ ?_
 (all_goals refine qgo (Lf.mk ?_))
 refine z7 (α := Nat) (fun k => k ≤ l.length ∧ wd x l 0 = wd x (l.drop k) k)
  (fun k => [(7, .int .i64 l.length), (8, .int .i64 k), (0, .sl 2 (l.map yw) none), (3, .loc 0 0)])
  (fun _ => [.cells [.str x.name, .int .i64 x.n]]) (fun k => l.length - k) (fun _ => by rw [hE]; exact Nat.zero_le _) 0 ⟨Nat.zero_le _, by simp⟩ ?_ ?_
 ·exact zX rfl ⟨rfl, rfl, rfl, rfl, trivial⟩
 rintro k ⟨hk, hf⟩
 refine zb _ ?_
 (all_goals refine qgo ?_ <;> (repeat' first | exact trivial | intro hc | refine And.intro ?_ ?_) <;> refine Lf.mk ?_)
 ·obtain ⟨s, hsk⟩ := yi (l := l) (k := k) (by omega)
  have hkl : k < l.length := by omega
  have hget : l[k] = s := by rw [List.getElem?_eq_getElem hkl] at hsk; exact Option.some.inj hsk
  rw [List.drop_eq_getElem_cons hkl, hget, wd] at hf
  refine zk s (by omega) (by simpa using hsk) ?_
  (all_goals refine qgo (Lf.mk ?_))
  refine zlc [.str, .int .i64] (by kernel_rfl) rfl ?_
  cases hb : (x.name == s.name && (x.n == s.n && true)) with
  | true =>
   rw [Bool.and_true, Bool.and_eq_true, beq_iff_eq, beq_iff_eq] at hb
   rw [if_pos ⟨hb.1.symm, hb.2.symm⟩] at hf
   (all_goals refine qgo ?_ <;> (repeat' first | exact trivial | intro hc | refine And.intro ?_ ?_) <;> refine Lf.mk ?_)
   (any_goals (first | (exfalso; refine Bool.false_ne_true ?_; assumption) | (exfalso; refine Bool.false_ne_true (Eq.symm ?_); assumption) | (exfalso; refine absurd trivial ?_; assumption) | skip))
   exact zf (VS.mk (LeD.of_eq (congrArg (D.int .i64) hf.symm)))
  | false =>
   have hne : ¬ (s.name = x.name ∧ s.n = x.n) := fun h => by rw [h.1, h.2] at hb; simp at hb
   rw [if_neg hne] at hf
   (all_goals refine qgo ?_ <;> (repeat' first | exact trivial | intro hc | refine And.intro ?_ ?_) <;> refine Lf.mk ?_)
   (any_goals (first | (exfalso; refine Bool.false_ne_true ?_; assumption) | (exfalso; refine Bool.false_ne_true (Eq.symm ?_); assumption) | (exfalso; refine absurd trivial ?_; assumption) | skip))
   exact zR (k + 1) ⟨by omega, hf⟩ (by omega) rfl ⟨rfl, rfl, rfl, rfl, trivial⟩
 ·rw [List.drop_of_length_le (by omega), wd] at hf
  exact zf (VS.mk (LeD.of_eq (congrArg (D.int .i64) hf.symm)))
theorem zsS {v : zq} {l : List zq} (h : ¬ wd v l 0 < 0) : wW v l = wd v l 0 ∧ wV v l = l := by unfold wW wV; rw [if_neg h, if_neg h]; exact ⟨rfl, rfl⟩
theorem zsT {v : zq} {l : List zq} (h : wd v l 0 < 0) : wW v l = l.length ∧ wV v l = l ++ [v] := by unfold wW wV; rw [if_pos h, if_pos h]; exact ⟨rfl, rfl⟩
attribute [local irreducible] wd wW wV
theorem zrz : za Tryz.prog vY (z1 (fun ((b, _, _, _, _) : Bld × zq × Int × Int × List zj) => b.has = true ∧ b.items.length ≤ 1000000 ∧ b.shut.length ≤ 1000000 ∧ b.cur.length ≤ 1000000) (fun (_, v, reg, line, _) => [.loc 0 0, yw v, .int .i64 reg, .int .i64 line])
  (fun (b, _, _, _, q) => bO q b) (fun _ => .tup []) fun (b, v, reg, line, q) => bO q (qW b v reg line)) := by
 refine ze zi Tryz.func155 rfl (by decide) ?_
 rintro ⟨⟨items, syms, marks, shut, has, cur, fe, fa⟩, v, reg, line, q⟩ ⟨hh, hl, hp, hcu⟩
 have hh : has = true := hh
 subst hh
 have hl : items.length ≤ 1000000 := hl
 have hp : shut.length ≤ 1000000 := hp
 have hcu : cur.length ≤ 1000000 := hcu
 have hlen : (zF ⟨items, syms, marks, shut, true, cur, fe, fa⟩).length = shut.length + 1 := by unfold zF; simp
 refine ⟨Nat.le_refl _, by simp [Tryz.f155], fun E hE => ?_⟩
 refine zb _ ?_
 (all_goals refine qgp ?_ <;> (repeat' first | exact trivial | intro hc | refine And.intro ?_ ?_) <;> refine Lf.mk ?_)
 have hget : (zF ⟨items, syms, marks, shut, true, cur, fe, fa⟩)[shut.length]? = some (.sl 2 (cur.map yw) (some 5)) := by
  show (shut.map yZ ++ [.sl 2 (cur.map yw) (some 5)])[shut.length]? = _
  simp
 refine wJ (d := .sl 2 (cur.map yw) (some 5)) (Int.natCast_nonneg _) (by simpa using hget) ?_
 (all_goals refine qgp (Lf.mk ?_))
 refine zd zfh (cur, v) (by show cur.length ≤ _; omega) (VS.mk (LeL.of_eq rfl)) ?_
 by_cases hi : wd v cur 0 < 0
 ·obtain ⟨s1, s2⟩ := zsT hi
  (all_goals refine qgk ?_ <;> (repeat' first | exact trivial | intro hc | refine And.intro ?_ ?_) <;> refine Lf.mk ?_)
  ·refine wJ (d := .sl 2 (cur.map yw) (some 5)) (Int.natCast_nonneg _) (by simpa using hget) ?_
   (all_goals refine qgk (Lf.mk ?_))
   refine wJ (d := .sl 2 (cur.map yw) (some 5)) (Int.natCast_nonneg _) (by simpa using hget) ?_
   (all_goals refine qgk (Lf.mk ?_))
   refine yV ((cur ++ [v]).map yw) (by rw [List.map_append]; rfl) ?_
   rw [List.length_map]
   (all_goals refine qgk (Lf.mk ?_))
   refine wJ (d := .sl 2 (cur.map yw) (some 5)) (Int.natCast_nonneg _) (by simpa using hget) ?_
   (all_goals refine qgp (Lf.mk ?_))
   have hset : (zF ⟨items, syms, marks, shut, true, cur, fe, fa⟩).set (0 + ((shut.length : Nat) : Int).toNat) (.sl 2 ((cur ++ [v]).map yw) (some 5)) = zF ⟨items, syms, marks, shut, true, cur ++ [v], fe, fa⟩ := by
    show (shut.map yZ ++ [D.sl 2 (cur.map yw) (some 5)]).set _ _ = shut.map yZ ++ [D.sl 2 ((cur ++ [v]).map yw) (some 5)]
    rw [Nat.zero_add, Int.toNat_natCast, List.set_append_right _ _ (by simp)]
    simp
   have hbC : bC q ⟨items, syms, marks, shut, true, cur, fe, fa⟩ = bC q ⟨items, syms, marks, shut, true, cur ++ [v], fe, fa⟩ := by
    unfold bC
    rw [hlen, show (zF ⟨items, syms, marks, shut, true, cur ++ [v], fe, fa⟩).length = shut.length + 1 by unfold zF; simp]
   refine yp q ⟨items, syms, marks, shut, true, cur ++ [v], fe, fa⟩ ⟨6, 0, line, ⟨24, reg, 0, 0⟩, false, 0, noV, shut.length, cur.length⟩ [.cells [.str v.name, .int .i64 v.n]] hl ?_ yA ?_
   ·show Ob.cells (bC q _) :: Ob.arr 13 (items.map xa) :: Ob.arr 2 (syms.map xm) :: Ob.spare marks.length :: Ob.arr 1 (List.set _ _ _) :: Ob.spare (cur ++ [v]).length :: [Ob.cells [.str v.name, .int .i64 v.n]] = _
    rw [hbC]
    exact congrArg (fun x => Ob.cells (bC q ⟨items, syms, marks, shut, true, cur ++ [v], fe, fa⟩) :: [Ob.arr 13 (items.map xa), Ob.arr 2 (syms.map xm), Ob.spare marks.length, Ob.arr 1 x, Ob.spare (cur ++ [v]).length, Ob.cells [.str v.name, .int .i64 v.n]]) hset
   (all_goals refine qgp (Lf.mk ?_))
   refine zO [_] rfl ?_ rfl (Nat.le_of_eq rfl) .tup0
   unfold qW
   rw [s1, s2]
  ·exact absurd hi hc
 ·obtain ⟨s1, s2⟩ := zsS hi
  (all_goals refine qgp ?_ <;> (repeat' first | exact trivial | intro hc | refine And.intro ?_ ?_) <;> refine Lf.mk ?_)
  refine yp q ⟨items, syms, marks, shut, true, cur, fe, fa⟩ ⟨6, 0, line, ⟨24, reg, 0, 0⟩, false, 0, noV, shut.length, wd v cur 0⟩ [_] hl rfl yA ?_
  (all_goals refine qgp (Lf.mk ?_))
  refine zO [_] rfl ?_ rfl (Nat.le_of_eq rfl) .tup0
  unfold qW
  rw [s1, s2]
end Go.Proofs.YtnkdeacghopkiaaGreatDoor
namespace Go.Proofs.YtnkdeacghopkiaaGreatDoor
open Go Go.Plat
set_option linter.unusedVariables false
set_option linter.unusedSimpArgs false
set_option maxRecDepth 100000
set_option maxHeartbeats 2000000
attribute [local irreducible] AWP zN yv zU zo yC yh zG yb yf zx za zY yz zr yg yx yy yn yo zw zy zT
def w64 (n : Int) : Int := IntKind.i64.wrap n
def upA (n of : Int) : Int := (n + of - 1) / of * of
def zdf (pools : List (List zq)) (k : Int) : Int := ((pools[k.toNat]?).getD []).length
def xo (pools : List (List zq)) (x : zD) (a : Int) : Int :=
 if x.kind = 2 ∧ x.long = true then 6 else if x.kind = 7 then x.size else if x.kind = 8 then upA a x.size - a else if x.kind = 9 then upA a 4 - a + 4 * zdf pools x.pool else 2
def yB (pools : List (List zq)) : List zD → Int → List zD × Int
 | [], a => ([], a)
 | x :: l, a => ({ x with at_ := a } :: (yB pools l (a + xo pools x a)).1, (yB pools l (a + xo pools x a)).2)
def itA (items : List zD) (k : Int) : zD := (items[k.toNat]?).getD ⟨0, 0, 0, noI, false, 0, noV, 0, 0⟩
def zb5 (items : List zD) (e m : Int) : Int := if m < items.length then (itA items m).at_ else e
def wz (items : List zD) (e : Int) : List zZ → List Int → List zZ
 | s :: ss, m :: ms => ⟨s.name, zb5 items e m⟩ :: wz items e ss ms
 | ss, _ => ss
def y6 {α : Type} (p : α → Bool) : List α → Nat → Int
 | [], _ => -1
 | x :: l, k => if p x = true then k else y6 p l (k + 1)
def zjm (n : List UInt8) (l : List zZ) (k : Nat) : Int := y6 (fun s => s.name == n) l k
def zb6 (syms : List zZ) (k : Int) : zZ := (syms[k.toNat]?).getD ⟨[], 0⟩
def zS (syms : List zZ) (v : zq) : Int × Int :=
 if v.name = [] then (0, 8) else if zjm v.name syms 0 < 0 then (0, 6) else (w64 ((zb6 syms (zjm v.name syms 0)).at_ + v.n), 0)
def zb7 (op : Int) : Int := match xE op with | some r => r.shape | none => 0
def zcA (op a : Int) : Int := if op = 24 then a + 4 - (a + 4) % 4 else a + 4
def ofA (op : Int) : Int := if op = 24 then 4 else 2
def zea (op a to : Int) : Int := w64 ((w64 (to - zcA op a)).tdiv (ofA op))
def wg (op a to : Int) : Int × Int :=
 if (w64 (to - zcA op a)).tmod (ofA op) ≠ 0 then (0, 11)
 else if zea op a to < zcY (zb7 op) ∨ zaq (zb7 op) < zea op a to then (zea op a to, 3) else (zea op a to, 0)
def x5 (syms : List zZ) (x : zD) : Bool := decide (x.kind = 2 ∧ x.long = false ∧ (zS syms x.val).2 = 0 ∧ (wg x.ins.op x.at_ (zS syms x.val).1).2 = 3)
def xb (syms : List zZ) (x : zD) : zD := if x5 syms x = true then { x with long := true } else x
structure Lay where
 items : List zD
 syms : List zZ
def yO (pools : List (List zq)) (marks : List Int) (s : Lay) : Lay × Int :=
 (⟨(yB pools s.items 0).1, wz (yB pools s.items 0).1 (yB pools s.items 0).2 s.syms marks⟩, (yB pools s.items 0).2)
def zb8 (pools : List (List zq)) (marks : List Int) : Nat → Lay → Lay × Int
 | 0, s => (s, 0)
 | f + 1, s => if ((yO pools marks s).1.items.any (x5 (yO pools marks s).1.syms)) = false ∨ 8000 < (yO pools marks s).2
   then (⟨(yO pools marks s).1.items.map (xb (yO pools marks s).1.syms), (yO pools marks s).1.syms⟩, (yO pools marks s).2)
   else zb8 pools marks f ⟨(yO pools marks s).1.items.map (xb (yO pools marks s).1.syms), (yO pools marks s).1.syms⟩
def wA (l : List zD) : Nat := (l.filter fun x => decide (x.kind = 2 ∧ x.long = false)).length
def yE (pools : List (List zq)) (marks : List Int) (s : Lay) : Lay × Int := zb8 pools marks (wA s.items + 1) s
structure Out where
 code : List UInt8
 rels : List zd6
 fe : Int
 fa : Int
def vk (o : Out) (e line : Int) : Out := if o.fe = 0 then ⟨o.code, o.rels, e, line⟩ else o
def xy (o : Out) (i : Ins) (line : Int) : Out := if yS i = 0 then ⟨o.code ++ [zt (vO i / 256), zt (vO i)], o.rels, o.fe, o.fa⟩ else vk o (yS i) line
def xM (o : Out) (i : Ins) (a to line : Int) : Out := if (wg i.op a to).2 = 0 then xy o ⟨i.op, i.n, i.m, (wg i.op a to).1⟩ line else vk o (wg i.op a to).2 line
def qk (o : Out) (x : zD) (to : Int) : Out :=
 if x.long = false then xM o x.ins x.at_ to x.line else xy (xM (xy o ⟨w64 (35 - x.ins.op), 0, 0, 1⟩ x.line) ⟨19, 0, 0, 0⟩ (x.at_ + 2) to x.line) ⟨1, 0, 0, 0⟩ x.line
def zhb (syms : List zZ) (at_ size : Int) (v : zq) : zd6 := if (zS syms v).2 = 0 then ⟨at_, size, [], zE (zS syms v).1 32⟩ else ⟨at_, size, v.name, v.n⟩
def x6 (syms : List zZ) (o : Out) (v : zq) (size : Nat) : Out :=
 if v.name = [] then ⟨x1 (o.code ++ List.replicate size 0) o.code.length size v.n, o.rels, o.fe, o.fa⟩
 else ⟨o.code ++ List.replicate size 0, o.rels ++ [zhb syms o.code.length size v], o.fe, o.fa⟩
def x7 (o : Out) (to : Int) : Out := ⟨o.code ++ List.replicate (to - o.code.length).toNat 0, o.rels, o.fe, o.fa⟩
def zmA (p : Int) (l : List zD) (k : Nat) : Int := y6 (fun y => y.kind == 9 && y.pool == p) l k
def qD (pools : List (List zq)) (items : List zD) (syms : List zZ) (o : Out) (x : zD) : Out :=
 if x.kind = 7 then (if x.at_ % x.size ≠ 0 then vk o 11 x.line else x6 syms o x.val x.size.toNat)
 else if x.kind = 8 then x7 o (upA x.at_ x.size)
 else if x.kind = 9 then ((pools[x.pool.toNat]?).getD []).foldl (fun o v => x6 syms o v 4) (x7 o (upA x.at_ 4))
 else if x.at_ % 2 ≠ 0 then vk o 11 x.line
 else if x.kind = 1 then xy o x.ins x.line
 else if x.kind = 6 then xM o x.ins x.at_ (upA (itA items (zmA x.pool items 0)).at_ 4 + 4 * x.idx) x.line
 else if (zS syms x.val).2 ≠ 0 then vk o (zS syms x.val).2 x.line
 else if x.kind = 2 then qk o x (zS syms x.val).1
 else xM o x.ins x.at_ (zS syms x.val).1 x.line
def vr (pools : List (List zq)) (items : List zD) (syms : List zZ) (o : Out) : Out := items.foldl (fun o x => if o.fe = 0 then qD pools items syms o x else o) o
theorem zbo {α : Type} (p : α → Bool) : ∀ (l : List α) (k : Nat), y6 p l k = -1 ∨ ∃ j : Nat, j < l.length ∧ y6 p l k = ((k + j : Nat) : Int)
 | [], _ => .inl rfl
 | x :: l, k => by
  rw [y6]
  split
  ·exact .inr ⟨0, by simp, rfl⟩
  ·rcases zbo p l (k + 1) with h | ⟨j, h1, h2⟩
   ·exact .inl h
   ·exact .inr ⟨j + 1, by simp; omega, by rw [h2, Nat.add_right_comm, Nat.add_assoc]⟩
theorem zhc {av : List D} {L : List Ob} {KP : D → Prop} {KW : D → List Ob → Prop} (g : Nat) (caps : List D) (p : zZ → Bool) (l : List zZ) (c0 c1 : Ob) (R : List Ob) (hl : l.length ≤ 1000000000)
  (hL : L = c0 :: c1 :: .arr 2 (l.map xm) :: R) (has : av = [.osl 2 2 l.length 0 l.length, .fn g caps])
  (hg : ∀ s ∈ l, ∀ (KP : D → Prop) (KW : D → List Ob → Prop), KW (.bool (p s)) L → zo Tryz.prog g (xm s :: caps) L KP KW)
  (hK : KW (.int .i64 (y6 p l 0)) L) : zo Tryz.prog kq av L KP KW := by
 subst has
 refine xZ zi Tryz.func70 rfl (by decide) (.int .i64 (y6 p l 0)) L (Nat.le_refl _) (by simp [Tryz.f70]) (fun E hE => ?_) hK
 have hE0 : E.L.length = L.length := by rw [hE]
 subst hL
 refine zb _ ?_
 (all_goals refine qgo (Lf.mk ?_))
 refine z7 (α := Nat) (fun k => k ≤ l.length ∧ y6 p l 0 = y6 p (l.drop k) k)
  (fun k => [(0, .osl 2 2 l.length 0 l.length), (1, .fn g caps), (7, .int .i64 l.length), (8, .int .i64 k)]) (fun _ => c0 :: c1 :: .arr 2 (l.map xm) :: R) (fun k => l.length - k) (fun _ => by rw [hE0]; exact Nat.le_refl _) 0 ⟨Nat.zero_le _, by simp⟩ ?_ ?_
 ·exact zX rfl ⟨rfl, rfl, rfl, rfl, trivial⟩
 rintro k ⟨hk, hf⟩
 refine zb _ ?_
 (all_goals refine qgp ?_ <;> (repeat' first | exact trivial | intro hc | refine And.intro ?_ ?_) <;> refine Lf.mk ?_)
 ·obtain ⟨s, hsk⟩ := yi (l := l) (k := k) (by omega)
  have hkl : k < l.length := by omega
  have hget : l[k] = s := by rw [List.getElem?_eq_getElem hkl] at hsk; exact Option.some.inj hsk
  rw [List.drop_eq_getElem_cons hkl, hget, y6] at hf
  refine zk s (by omega) (by simpa using hsk) ?_
  (all_goals refine qgp (Lf.mk ?_))
  refine hg s (List.mem_of_getElem? hsk) _ _ ?_
  cases hb : p s with
  | true =>
   rw [hb, if_pos rfl] at hf
   (all_goals refine qgp ?_ <;> (repeat' first | exact trivial | intro hc | refine And.intro ?_ ?_) <;> refine Lf.mk ?_)
   (any_goals (first | (exfalso; refine Bool.false_ne_true ?_; assumption) | (exfalso; refine Bool.false_ne_true (Eq.symm ?_); assumption) | (exfalso; refine absurd trivial ?_; assumption) | skip))
   exact yM (by rw [hf]; rfl) rfl
  | false =>
   rw [hb, if_neg (by decide)] at hf
   (all_goals refine qgp ?_ <;> (repeat' first | exact trivial | intro hc | refine And.intro ?_ ?_) <;> refine Lf.mk ?_)
   (any_goals (first | (exfalso; refine Bool.false_ne_true ?_; assumption) | (exfalso; refine Bool.false_ne_true (Eq.symm ?_); assumption) | (exfalso; refine absurd trivial ?_; assumption) | skip))
   exact zR (k + 1) ⟨by omega, hf⟩ (by omega) rfl ⟨rfl, rfl, rfl, rfl, trivial⟩
 ·rw [List.drop_of_length_le (by omega), y6] at hf
  exact yM (by rw [hf]; rfl) rfl
theorem zrA {av : List D} {L : List Ob} {KP : D → Prop} {KW : D → List Ob → Prop} (g : Nat) (caps : List D) (p : zD → Bool) (l : List zD) (c0 : Ob) (R : List Ob) (hl : l.length ≤ 1000000000)
  (hL : L = c0 :: .arr 13 (l.map xa) :: R) (has : av = [.osl 13 1 l.length 0 l.length, .fn g caps])
  (hg : ∀ s ∈ l, ∀ (KP : D → Prop) (KW : D → List Ob → Prop), KW (.bool (p s)) L → zo Tryz.prog g (xa s :: caps) L KP KW)
  (hK : KW (.int .i64 (y6 p l 0)) L) : zo Tryz.prog qS av L KP KW := by
 subst has
 refine xZ zi Tryz.func127 rfl (by decide) (.int .i64 (y6 p l 0)) L (Nat.le_refl _) (by simp [Tryz.f127]) (fun E hE => ?_) hK
 have hE0 : E.L.length = L.length := by rw [hE]
 subst hL
 refine zb _ ?_
 (all_goals refine qgo (Lf.mk ?_))
 refine z7 (α := Nat) (fun k => k ≤ l.length ∧ y6 p l 0 = y6 p (l.drop k) k)
  (fun k => [(0, .osl 13 1 l.length 0 l.length), (1, .fn g caps), (7, .int .i64 l.length), (8, .int .i64 k)]) (fun _ => c0 :: .arr 13 (l.map xa) :: R) (fun k => l.length - k) (fun _ => by rw [hE0]; exact Nat.le_refl _) 0 ⟨Nat.zero_le _, by simp⟩ ?_ ?_
 ·exact zX rfl ⟨rfl, rfl, rfl, rfl, trivial⟩
 rintro k ⟨hk, hf⟩
 refine zb _ ?_
 (all_goals refine qgp ?_ <;> (repeat' first | exact trivial | intro hc | refine And.intro ?_ ?_) <;> refine Lf.mk ?_)
 ·obtain ⟨s, hsk⟩ := yi (l := l) (k := k) (by omega)
  have hkl : k < l.length := by omega
  have hget : l[k] = s := by rw [List.getElem?_eq_getElem hkl] at hsk; exact Option.some.inj hsk
  rw [List.drop_eq_getElem_cons hkl, hget, y6] at hf
  refine zk s (by omega) (by simpa using hsk) ?_
  (all_goals refine qgp (Lf.mk ?_))
  refine hg s (List.mem_of_getElem? hsk) _ _ ?_
  cases hb : p s with
  | true =>
   rw [hb, if_pos rfl] at hf
   (all_goals refine qgp ?_ <;> (repeat' first | exact trivial | intro hc | refine And.intro ?_ ?_) <;> refine Lf.mk ?_)
   (any_goals (first | (exfalso; refine Bool.false_ne_true ?_; assumption) | (exfalso; refine Bool.false_ne_true (Eq.symm ?_); assumption) | (exfalso; refine absurd trivial ?_; assumption) | skip))
   exact yM (by rw [hf]; rfl) rfl
  | false =>
   rw [hb, if_neg (by decide)] at hf
   (all_goals refine qgp ?_ <;> (repeat' first | exact trivial | intro hc | refine And.intro ?_ ?_) <;> refine Lf.mk ?_)
   (any_goals (first | (exfalso; refine Bool.false_ne_true ?_; assumption) | (exfalso; refine Bool.false_ne_true (Eq.symm ?_); assumption) | (exfalso; refine absurd trivial ?_; assumption) | skip))
   exact zR (k + 1) ⟨by omega, hf⟩ (by omega) rfl ⟨rfl, rfl, rfl, rfl, trivial⟩
 ·rw [List.drop_of_length_le (by omega), y6] at hf
  exact yM (by rw [hf]; rfl) rfl
theorem zsU {av : List D} {L : List Ob} {KP : D → Prop} {KW : D → List Ob → Prop} (g : Nat) (caps : List D) (p : zj → Bool) (l : List zj) (hl : l.length ≤ 1000000000)
  (has : av = [.sl 2 (l.map xY) none, .fn g caps])
  (hg : ∀ s ∈ l, ∀ (KP : D → Prop) (KW : D → List Ob → Prop), KW (.bool (p s)) L → zo Tryz.prog g (xY s :: caps) L KP KW)
  (hK : KW (.int .i64 (y6 p l 0)) L) : zo Tryz.prog wL av L KP KW := by
 subst has
 refine xZ zi Tryz.func173 rfl (by decide) (.int .i64 (y6 p l 0)) L (Nat.le_refl _) (by simp [Tryz.f173]) (fun E hE => ?_) hK
 have hE0 : E.L.length = L.length := by rw [hE]
 refine zb _ ?_
 (all_goals refine qgo (Lf.mk ?_))
 refine z7 (α := Nat) (fun k => k ≤ l.length ∧ y6 p l 0 = y6 p (l.drop k) k)
  (fun k => [(0, .sl 2 (l.map xY) none), (1, .fn g caps), (7, .int .i64 l.length), (8, .int .i64 k)]) (fun _ => L) (fun k => l.length - k) (fun _ => by rw [hE0]; exact Nat.le_refl _) 0 ⟨Nat.zero_le _, by simp⟩ ?_ ?_
 ·exact zX rfl ⟨rfl, rfl, rfl, rfl, trivial⟩
 rintro k ⟨hk, hf⟩
 refine zb _ ?_
 (all_goals refine qgp ?_ <;> (repeat' first | exact trivial | intro hc | refine And.intro ?_ ?_) <;> refine Lf.mk ?_)
 ·obtain ⟨s, hsk⟩ := yi (l := l) (k := k) (by omega)
  have hkl : k < l.length := by omega
  have hget : l[k] = s := by rw [List.getElem?_eq_getElem hkl] at hsk; exact Option.some.inj hsk
  rw [List.drop_eq_getElem_cons hkl, hget, y6] at hf
  refine zk s (by omega) (by simpa using hsk) ?_
  (all_goals refine qgp (Lf.mk ?_))
  refine hg s (List.mem_of_getElem? hsk) _ _ ?_
  cases hb : p s with
  | true =>
   rw [hb, if_pos rfl] at hf
   (all_goals refine qgp ?_ <;> (repeat' first | exact trivial | intro hc | refine And.intro ?_ ?_) <;> refine Lf.mk ?_)
   (any_goals (first | (exfalso; refine Bool.false_ne_true ?_; assumption) | (exfalso; refine Bool.false_ne_true (Eq.symm ?_); assumption) | (exfalso; refine absurd trivial ?_; assumption) | skip))
   exact yM (by rw [hf]; rfl) rfl
  | false =>
   rw [hb, if_neg (by decide)] at hf
   (all_goals refine qgp ?_ <;> (repeat' first | exact trivial | intro hc | refine And.intro ?_ ?_) <;> refine Lf.mk ?_)
   (any_goals (first | (exfalso; refine Bool.false_ne_true ?_; assumption) | (exfalso; refine Bool.false_ne_true (Eq.symm ?_); assumption) | (exfalso; refine absurd trivial ?_; assumption) | skip))
   exact zR (k + 1) ⟨by omega, hf⟩ (by omega) rfl ⟨rfl, rfl, rfl, rfl, trivial⟩
 ·rw [List.drop_of_length_le (by omega), y6] at hf
  exact yM (by rw [hf]; rfl) rfl
theorem zf2 {α : Type} (p : α → Bool) : ∀ (l : List α) (k : Nat), decide (0 ≤ y6 p l k) = l.any p
 | [], _ => rfl
 | x :: l, k => by
  rw [y6, List.any_cons]
  cases h : p x with
  | true => rw [if_pos rfl]; simp
  | false => rw [if_neg (by decide), zf2 p l (k + 1)]; simp
theorem zsV {av : List D} {L : List Ob} {KP : D → Prop} {KW : D → List Ob → Prop} (g : Nat) (caps : List D) (p : zZ → Bool) (l : List zZ) (c0 c1 : Ob) (R : List Ob) (hl : l.length ≤ 1000000000)
  (hL : L = c0 :: c1 :: .arr 2 (l.map xm) :: R) (has : av = [.osl 2 2 l.length 0 l.length, .fn g caps])
  (hg : ∀ s ∈ l, ∀ (KP : D → Prop) (KW : D → List Ob → Prop), KW (.bool (p s)) L → zo Tryz.prog g (xm s :: caps) L KP KW)
  (hK : KW (.bool (l.any p)) L) : zo Tryz.prog qF av L KP KW := by
 subst has
 refine xZ zi Tryz.func150 rfl (by decide) (.bool (l.any p)) L (Nat.le_refl _) (by simp [Tryz.f150]) (fun E hE => ?_) hK
 have hE0 : E.L.length = L.length := by rw [hE]
 subst hL
 refine zb _ ?_
 (all_goals refine qgo (Lf.mk ?_))
 refine zhc g caps p l c0 c1 R hl rfl rfl hg ?_
 (all_goals refine qgo (Lf.mk ?_))
 exact yM (congrArg D.bool (zf2 p l 0)) rfl
theorem zsW {av : List D} {L : List Ob} {KP : D → Prop} {KW : D → List Ob → Prop} (g : Nat) (caps : List D) (p : zj → Bool) (l : List zj) (hl : l.length ≤ 1000000000)
  (has : av = [.sl 2 (l.map xY) none, .fn g caps])
  (hg : ∀ s ∈ l, ∀ (KP : D → Prop) (KW : D → List Ob → Prop), KW (.bool (p s)) L → zo Tryz.prog g (xY s :: caps) L KP KW)
  (hK : KW (.bool (l.any p)) L) : zo Tryz.prog qE av L KP KW := by
 subst has
 refine xZ zi Tryz.func143 rfl (by decide) (.bool (l.any p)) L (Nat.le_refl _) (by simp [Tryz.f143]) (fun E hE => ?_) hK
 have hE0 : E.L.length = L.length := by rw [hE]
 refine zb _ ?_
 (all_goals refine qgo (Lf.mk ?_))
 refine zsU g caps p l hl rfl hg ?_
 (all_goals refine qgo (Lf.mk ?_))
 exact yM (congrArg D.bool (zf2 p l 0)) rfl
attribute [local irreducible] Lib.itoa zg.kids zg.kind zg.n zg.name xn xf y9 wd yr yR xI ww wW zH wV
def bCk (q : List zj) (b : Bld) : List D := [.sl 2 (q.map xY) none, .osl 13 1 b.items.length 0 b.items.length, .osl 2 2 b.syms.length 0 b.syms.length, .sl 1 (b.marks.map (.int .i64)) (some 3),
 .osl 1 4 (b.shut.length + 1) 0 (b.shut.length + 1), .int .i64 b.shut.length, .nilsl, .nilsl, .nilsl, .int .i64 b.fe, .int .i64 b.fa]
def bOk (k : Nat) (q : List zj) (b : Bld) (X : List Ob) : List Ob :=
 [.cells (bCk q b), .arr 13 (b.items.map xa), .arr 2 (b.syms.map xm), .spare b.marks.length, .arr 1 (b.shut.map yZ ++ [.sl 2 (b.cur.map yw) (some k)]), .dead] ++ X ++ [.spare b.cur.length]
theorem zrB (q : List zj) (b : Bld) : ClL 5 (bC q b) :=
 .cons .sl (.cons (.osl (by decide)) (.cons (.osl (by decide)) (.cons (.tok (by decide)) (.cons (.osl (by decide)) (.cons .int (.cons .nilsl (.cons .nilsl (.cons .nilsl (.cons .int (.cons .int .nil))))))))))
theorem zcB {m : Nat → Option Nat} {k k' : Nat} (hm : m k = some k') (a : List (List zq)) (c : List zq) : z8 m (.arr 1 (a.map yZ ++ [.sl 2 (c.map yw) (some k)])) (.arr 1 (a.map yZ ++ [.sl 2 (c.map yw) (some k')])) := by
 refine ⟨_, rfl, by simp, fun i d d' h1 h2 => ?_⟩
 rcases Nat.lt_or_ge i (a.map yZ).length with h | h
 ·rw [List.getElem?_append_left h] at h1 h2
  rw [h1] at h2
  cases h2
  obtain ⟨l, _, rfl⟩ := List.mem_map.1 (List.mem_of_getElem? h1)
  exact ⟨rfl, ClL.ren (n := 0) (.cons .sl .nil) fun k hk => absurd hk (Nat.not_lt_zero _)⟩
 ·rw [List.getElem?_append_right h] at h1 h2
  cases hi : i - (a.map yZ).length with
  | zero =>
   rw [hi] at h1 h2
   cases h1
   cases h2
   refine ⟨rfl, rfl, fun i d d' g1 g2 => ?_⟩
   cases i with
   | zero =>
    cases g1
    cases g2
    have : jT m (.sl 2 (c.map yw) (some k)) (fun d' => d' = .sl 2 (c.map yw) (some k')) := by
     show zcl m 2 (c.map yw) (some k) (zak m (c.map yw)) (fun d' => d' = .sl 2 (c.map yw) (some k'))
     unfold zcl
     simp [hm]
    obtain ⟨d', h3, rfl⟩ := wk this
    exact h3
   | succ i => cases g1
  | succ j => rw [hi] at h1; simp at h1
theorem zrC {av : List D} {KP : D → Prop} {KW : D → List Ob → Prop} {L : List Ob} (q : List zj) (items : List zD) (syms : List zZ) (marks : List Int) (shut : List (List zq)) (cur : List zq) (fe fa : Int) (x : zD) (B : Ob) (hl : items.length ≤ 1000000)
  (hL : L = bOk 7 q ⟨items, syms, marks, shut, true, cur, fe, fa⟩ [B]) (has : LeL av [.loc 0 0, xa x]) (hK : KW (.tup []) (bOk 7 q ⟨items ++ [x], syms, marks, shut, true, cur, fe, fa⟩ [B])) : zo Tryz.prog ku av L KP KW := by
 refine zda has ?_
 subst hL
 have hp : (zF ⟨items, syms, marks, shut, true, cur, fe, fa⟩).length = shut.length + 1 := by unfold zF; simp
 have hk : bCk q ⟨items, syms, marks, shut, true, cur, fe, fa⟩ = bC q ⟨items, syms, marks, shut, true, cur, fe, fa⟩ := by unfold bCk bC; rw [hp]
 have hk' : bCk q ⟨items ++ [x], syms, marks, shut, true, cur, fe, fa⟩ = bC q ⟨items ++ [x], syms, marks, shut, true, cur, fe, fa⟩ := by unfold bCk bC; rw [show (zF ⟨items ++ [x], syms, marks, shut, true, cur, fe, fa⟩).length = shut.length + 1 from hp]
 refine ztP (.tup []) _ (fun w ρ vs hf hr => ?_) zd9.can hK
 have key : ∀ k, k < 5 → zC [0, 1, 2, 3, 4, 7] 0 k = some k := by decide
 have key' : ∀ k, k < 5 → w7 [0, 1, 2, 3, 4, 7] k = some k := by decide
 refine jw zd9 (ks := [0, 1, 2, 3, 4, 7]) (js := [0, 1, 2, 3, 4, 7]) (as1 := [.loc 0 0, xa x]) (L1 := bO q ⟨items, syms, marks, shut, true, cur, fe, fa⟩) (d1 := .tup []) (d := .tup []) (L := bOk 7 q ⟨items, syms, marks, shut, true, cur, fe, fa⟩ [B]) (L' := bOk 7 q ⟨items ++ [x], syms, marks, shut, true, cur, fe, fa⟩ [B]) (L1' := bO q ⟨items ++ [x], syms, marks, shut, true, cur, fe, fa⟩)
  rfl (by intro k hk; show k < 8; revert k; decide) (fun _ _ => rfl) (fun i j h => by simp at h) ?_ rfl (fun i o' ho => ?_) ⟨(⟨items, syms, marks, shut, true, cur, fe, fa⟩, x, q), hl, LeL.refl _, rfl, rfl, rfl⟩ ?_ (Nat.le_refl 6) rfl (fun k hk hn => ?_) (fun i k hi => ?_) (fun i o ho => ?_) hf hr
 ·exact ClL.ren (n := 1) (.cons (.loc (by decide)) (.cons (zmy x) .nil)) fun k hk => key k (by omega)
 ·match i, ho with
  | 0, ho => cases ho; exact ⟨0, _, rfl, rfl, by rw [hk]; exact ClO.cells (zrB _ _) _ key⟩
  | 1, ho => cases ho; exact ⟨1, _, rfl, rfl, ClO.arr (qX _) _ key⟩
  | 2, ho => cases ho; exact ⟨2, _, rfl, rfl, ClO.arr (jj _) _ key⟩
  | 3, ho => cases ho; exact ⟨3, _, rfl, rfl, rfl⟩
  | 4, ho => cases ho; exact ⟨4, _, rfl, rfl, zcB (k := 7) (k' := 5) (m := zC [0, 1, 2, 3, 4, 7] 0) rfl shut cur⟩
  | 5, ho => cases ho; exact ⟨7, _, rfl, rfl, rfl⟩
  | i + 6, ho => simp [bO, bT] at ho
 ·exact ClD.tup0 _ key'
 ·match k, hk, hn with
  | 0, _, hn => exact absurd (by decide) hn
  | 1, _, hn => exact absurd (by decide) hn
  | 2, _, hn => exact absurd (by decide) hn
  | 3, _, hn => exact absurd (by decide) hn
  | 4, _, hn => exact absurd (by decide) hn
  | 5, _, _ => rfl
  | 6, _, _ => rfl
  | 7, _, hn => exact absurd (by decide) hn
  | k + 8, hk, _ => exact absurd hk (by simp [bOk])
 ·match i, hi with
  | 0, hi => cases hi; exact ⟨_, _, rfl, rfl, by rw [hk']; exact ClO.cells (zrB _ _) _ key'⟩
  | 1, hi => cases hi; exact ⟨_, _, rfl, rfl, ClO.arr (qX _) _ key'⟩
  | 2, hi => cases hi; exact ⟨_, _, rfl, rfl, ClO.arr (jj _) _ key'⟩
  | 3, hi => cases hi; exact ⟨_, _, rfl, rfl, rfl⟩
  | 4, hi => cases hi; exact ⟨_, _, rfl, rfl, zcB (k := 5) (k' := 7) (m := w7 [0, 1, 2, 3, 4, 7]) rfl shut cur⟩
  | 5, hi => cases hi; exact ⟨_, _, rfl, rfl, rfl⟩
  | i + 6, hi => simp at hi
 ·simp [bO, bT] at ho
theorem zsX : za Tryz.prog vY (z1 (fun ((b, _, _, _, _) : Bld × zq × Int × Int × List zj) => b.has = false ∧ b.cur = [] ∧ b.items.length ≤ 1000000 ∧ b.shut.length ≤ 1000000) (fun (_, v, reg, line, _) => [.loc 0 0, yw v, .int .i64 reg, .int .i64 line])
  (fun (b, _, _, _, q) => bO q b) (fun _ => .tup []) fun (b, v, reg, line, q) => bOk 6 q (qW b v reg line) []) := by
 refine ze zi Tryz.func155 rfl (by decide) ?_
 rintro ⟨⟨items, syms, marks, shut, has, cur, fe, fa⟩, v, reg, line, q⟩ ⟨hh, hcu, hl, hp⟩
 have hh : has = false := hh
 subst hh
 have hcu : cur = [] := hcu
 subst hcu
 have hl : items.length ≤ 1000000 := hl
 have hp : shut.length ≤ 1000000 := hp
 have hlen : (zF ⟨items, syms, marks, shut, false, [], fe, fa⟩).length = shut.length := by unfold zF; simp
 refine ⟨by show 6 ≤ 7; decide, by simp [Tryz.f155], fun E hE => ?_⟩
 refine zb _ ?_
 (all_goals refine qgp ?_ <;> (repeat' first | exact trivial | intro hc | refine And.intro ?_ ?_) <;> refine Lf.mk ?_)
 have hget : (zF ⟨items, syms, marks, shut, false, [], fe, fa⟩ ++ [.nilsl])[shut.length]? = some .nilsl := by
  show (shut.map yZ ++ [D.nilsl])[shut.length]? = _
  simp
 refine wJ (d := .nilsl) (Int.natCast_nonneg _) (by simpa using hget) ?_
 (all_goals refine qgp (Lf.mk ?_))
 refine zd zfh ([], v) (by show (0 : Nat) ≤ _; decide) (VS.mk (.cons (.nil 2) (LeL.refl _))) ?_
 have hidx : wd v [] 0 = -1 := by rw [wd]
 have s1 : wW v [] = 0 := by unfold wW; rw [hidx]; rfl
 have s2 : wV v [] = [v] := by unfold wV; rw [hidx]; rfl
 dsimp only
 rw [hidx]
 (all_goals refine qgk ?_ <;> (repeat' first | exact trivial | intro hc | refine And.intro ?_ ?_) <;> refine Lf.mk ?_)
 ·refine wJ (d := .nilsl) (Int.natCast_nonneg _) (by simpa using hget) ?_
  (all_goals refine qgk (Lf.mk ?_))
  refine wJ (d := .nilsl) (Int.natCast_nonneg _) (by simpa using hget) ?_
  (all_goals refine qgk (Lf.mk ?_))
  refine yV ([v].map yw) rfl ?_
  (all_goals refine qgk (Lf.mk ?_))
  refine wJ (d := .nilsl) (Int.natCast_nonneg _) (by simpa using hget) ?_
  (all_goals refine qgp (Lf.mk ?_))
  have hset : (zF ⟨items, syms, marks, shut, false, [], fe, fa⟩ ++ [D.nilsl]).set (0 + ((shut.length : Nat) : Int).toNat) (.sl 2 ([v].map yw) (some 7)) = shut.map yZ ++ [.sl 2 ([v].map yw) (some 7)] := by
   show (shut.map yZ ++ [D.nilsl]).set _ _ = _
   rw [Nat.zero_add, Int.toNat_natCast, List.set_append_right _ _ (by simp)]
   simp
  have hlen2 : (zF ⟨items, syms, marks, shut, false, [], fe, fa⟩ ++ [D.nilsl]).length = shut.length + 1 := by rw [List.length_append, hlen]; rfl
  have e : ∀ (P : List D) (n : Nat), P = shut.map yZ ++ [.sl 2 ([v].map yw) (some 7)] → n = shut.length + 1 → [Ob.cells [.sl 2 (q.map xY) none, .osl 13 1 items.length 0 items.length, .osl 2 2 syms.length 0 syms.length,
    .sl 1 (marks.map (.int .i64)) (some 3), .osl 1 4 n 0 n, .int .i64 shut.length, .nilsl, .nilsl, .nilsl, .int .i64 fe, .int .i64 fa], .arr 13 (items.map xa), .arr 2 (syms.map xm), .spare marks.length, .arr 1 P, .dead,
    .cells [.str v.name, .int .i64 v.n], .spare 1] = bOk 7 q ⟨items, syms, marks, shut, true, [v], fe, fa⟩ [.cells [.str v.name, .int .i64 v.n]] := by
   rintro _ _ rfl rfl
   rfl
  refine zrC q items syms marks shut [v] fe fa ⟨6, 0, line, ⟨24, reg, 0, 0⟩, false, 0, noV, shut.length, 0⟩ (.cells [.str v.name, .int .i64 v.n]) hl (e _ _ hset hlen2) yA ?_
  (all_goals refine qgp (Lf.mk ?_))
  have key' : ∀ k, k < 5 → zC [0, 1, 2, 3, 4, 5, 7] 0 k = some k := by decide
  have hlit : qW ⟨items, syms, marks, shut, false, [], fe, fa⟩ v reg line = ⟨items ++ [⟨6, 0, line, ⟨24, reg, 0, 0⟩, false, 0, noV, shut.length, 0⟩], syms, marks, shut, true, [v], fe, fa⟩ := by
   unfold qW xq
   rw [s1, s2]
  show zG _ _ _ _ (bOk 6 q (qW ⟨items, syms, marks, shut, false, [], fe, fa⟩ v reg line) [])
  rw [hlit]
  refine ze1 [0, 1, 2, 3, 4, 5, 7] rfl rfl ?_ (ClD.tup0 (n := 5) _ key')
  refine .cons (o := .cells (bCk q ⟨items ++ [⟨6, 0, line, ⟨24, reg, 0, 0⟩, false, 0, noV, shut.length, 0⟩], syms, marks, shut, true, [v], fe, fa⟩)) rfl (ClO.cells (n := 5) ?_ _ key') (.cons (o := .arr 13 _) rfl (ClO.arr (n := 5) (qX _) _ key') (.cons (o := .arr 2 _) rfl (ClO.arr (n := 5) (jj _) _ key') (.cons (o := .spare _) rfl rfl
   (.cons (o := .arr 1 _) rfl (zcB (k := 7) (k' := 6) rfl _ _) (.cons (o := .dead) rfl rfl (.cons (o := .spare _) rfl rfl .nil))))))
  exact .cons .sl (.cons (.osl (by decide)) (.cons (.osl (by decide)) (.cons (.tok (by decide)) (.cons (.osl (by decide)) (.cons .int (.cons .nilsl (.cons .nilsl (.cons .nilsl (.cons .int (.cons .int .nil))))))))))
 ·exact absurd (by decide) hc
theorem zsY {l : List AOp} {k : Nat} {o : AOp} (h : l[k]? = some o) : xO (l.take (k + 1)) = xO (l.take k) ++ sgA o := by
 unfold xO
 rw [List.take_add_one, h]
 simp
theorem zva {o : AOp} (h : o.sign.length ≤ 1) : (sgA o).length = 1 := by
 unfold sgA
 split
 ·rfl
 ·rename_i hn
  cases hs : o.sign with
  | nil => exact absurd hs hn
  | cons c r => rw [hs] at h; simp at h ⊢; exact h
theorem zf3 : ∀ {l : List AOp}, (∀ o ∈ l, o.sign.length ≤ 1) → (xO l).length = l.length
 | [], _ => rfl
 | o :: l, h => by
  have h1 := zva (h o List.mem_cons_self)
  have h2 := zf3 (l := l) fun x hx => h x (List.mem_cons_of_mem _ hx)
  unfold xO at h2 ⊢
  rw [List.map_cons, List.flatten_cons, List.length_append, h1, h2, List.length_cons]
  omega
theorem zmB : za Tryz.prog zlW (zz (fun l : List AOp => l.length ≤ 1000000 ∧ ∀ o ∈ l, o.sign.length ≤ 1) (fun l => [.sl 4 (l.map vP) none]) fun l => .sl 1 ((yF (xO l)).map (.int .i64)) none) := by
 refine ze zi Tryz.func156 rfl (by decide) ?_
 rintro l ⟨hl, hs⟩
 refine ⟨Nat.le_refl _, by simp [Tryz.f156], fun E hE => ?_⟩
 refine zb _ ?_
 (all_goals refine qgo (Lf.mk ?_))
 refine yu (α := Nat) (fun k => k ≤ l.length) (fun k => [(6, .sl 4 (l.map vP) none), (7, .int .i64 l.length), (8, .int .i64 k), (3, .str (xO (l.take k)))]) (fun _ => []) (fun k => l.length - k) (fun _ => by simp [hE]) 0 (Nat.zero_le _) ?_ ?_
 ·(repeat' (first | (refine VS.mk ?_) | exact trivial | exact rfl | refine And.intro ?_ ?_))
 rintro k hk
 have hk : k ≤ l.length := hk
 have hlen : (xO (l.take k)).length ≤ 1000000 := by
  rw [zf3 fun o ho => hs o (List.mem_of_mem_take ho), List.length_take]; omega
 refine zb _ ?_
 (all_goals refine qgo ?_ <;> (repeat' first | exact trivial | intro hc | refine And.intro ?_ ?_) <;> refine Lf.mk ?_)
 ·obtain ⟨o, ho⟩ := yi (l := l) (k := k) (by omega)
  have hstep := zsY ho
  have hs1 := hs o (List.mem_of_getElem? ho)
  refine zk o (by omega) (by simpa using ho) ?_
  (all_goals refine qgo ?_ <;> (repeat' first | exact trivial | intro hc | refine And.intro ?_ ?_) <;> refine Lf.mk ?_)
  ·refine zlq (by simp only [List.length_cons, List.length_nil]; omega) ?_
   (all_goals refine qgo (Lf.mk ?_))
   refine zL (k + 1) (by show k + 1 ≤ _; omega) (by omega) ?_
   rw [hstep, show sgA o = [112] by unfold sgA; rw [if_pos hc]]
   (repeat' (first | (refine VS.mk ?_) | exact trivial | exact rfl | refine And.intro ?_ ?_))
  ·refine zlq (by omega) ?_
   (all_goals refine qgo (Lf.mk ?_))
   refine zL (k + 1) (by show k + 1 ≤ _; omega) (by omega) ?_
   rw [hstep, show sgA o = o.sign by unfold sgA; rw [if_neg hc]]
   (repeat' (first | (refine VS.mk ?_) | exact trivial | exact rfl | refine And.intro ?_ ?_))
 all_goals
  have hk2 : k = l.length := by omega
  clear hlen
  subst hk2
  simp only [List.take_length] at *
  refine zf (VS.mk ?_)
  unfold yF
  (repeat (first | (rw [if_pos (by assumption)]) | (rw [if_neg (by assumption)])))
  first
   | exact LeD.of_eq rfl
   | exact LeD.nil 1
def vc (q : List zj) (b b' : Bld) : List Ob := if b.has = false ∧ b'.has = true then bOk 6 q b' [] else bO q b'
theorem zmC (q : List zj) (b b' : Bld) : 6 ≤ (vc q b b').length := by
 unfold vc
 split
 ·exact Nat.le_succ 6
 ·exact Nat.le_refl 6
theorem w4 {q : List zj} {b b' : Bld} (h : b'.has = b.has) : vc q b b' = bO q b' := by
 unfold vc
 rw [if_neg fun e => by rw [h, e.1] at e; exact absurd e.2 (by decide)]
theorem zsZ {q : List zj} {b b' : Bld} (h : b.has = true) : vc q b b' = bO q b' := by
 unfold vc
 rw [if_neg fun e => by rw [h] at e; exact absurd e.1 (by decide)]
theorem zeb {q : List zj} {b b' : Bld} (h : b.has = false) (h' : b'.has = true) : vc q b b' = bOk 6 q b' [] := by
 unfold vc
 rw [if_pos ⟨h, h'⟩]
theorem qY (b : Bld) (e line : Int) : (yt b e line).has = b.has := by unfold yt; split <;> rfl
structure InB (b : Bld) : Prop where
 cur : b.has = false → b.cur = []
 items : b.items.length ≤ 1000000
 shut : b.shut.length ≤ 1000000
 curl : b.cur.length ≤ 1000000
theorem zp2 : za Tryz.prog vY (z1 (fun ((b, _, _, _, _) : Bld × zq × Int × Int × List zj) => InB b) (fun (_, v, reg, line, _) => [.loc 0 0, yw v, .int .i64 reg, .int .i64 line])
  (fun (b, _, _, _, q) => bO q b) (fun _ => .tup []) fun (b, v, reg, line, q) => vc q b (qW b v reg line)) := by
 refine zso zrz zsX ?_
 rintro av L d L' ⟨⟨b, v, reg, line, q⟩, h, h1, h2, h3, h4⟩
 cases hb : b.has with
 | true => exact .inl ⟨(b, v, reg, line, q), ⟨hb, h.items, h.shut, h.curl⟩, h1, h2, h3, by rw [h4]; exact zsZ hb⟩
 | false => exact .inr ⟨(b, v, reg, line, q), ⟨hb, h.cur hb, h.items, h.shut⟩, h1, h2, h3, by rw [h4]; exact zeb hb rfl⟩
theorem zoV (name : List UInt8) : ∀ (L : List Int) (p : Int × Int), xw name L p = p ∨ (xw name L p).2 ∈ L
 | [], p => .inl rfl
 | s :: L, p => by
  rw [xw]
  rcases zoV name L (if 0 < wU name s then (wU name s, s) else p) with h | h
  ·rw [h]
   split
   ·exact .inr List.mem_cons_self
   ·exact .inl rfl
  ·exact .inr (List.mem_cons_of_mem _ h)
theorem zrD (s : List UInt8) : ∀ x ∈ yF s, (x = 0 ∧ s.length = 0) ∨ ((x = 3 ∨ x = 4 ∨ x = 5 ∨ x = 6 ∨ x = 11) ∧ s.length = 1) ∨ ((x = 1 ∨ x = 2 ∨ x = 7 ∨ x = 8 ∨ x = 9 ∨ x = 10) ∧ s.length = 2) := by
 intro x hx
 unfold yF at hx
 repeat' split at hx
 all_goals first
  | (rename_i h; subst h; simp at hx; subst hx; decide)
  | (rename_i h; subst h; simp at hx; rcases hx with rfl | rfl <;> decide)
  | simp at hx
theorem zuk {name : List UInt8} {l : List AOp} (h : ∀ o ∈ l, o.sign.length ≤ 1) {S : Int × Int} (hS : xw name (yF (xO l)) (0, 0) = S) : (S.1 = 0 ∧ S.2 = 0) ∨ (S.2 = 0 ∧ l.length = 0) ∨ ((S.2 = 3 ∨ S.2 = 4 ∨ S.2 = 5 ∨ S.2 = 6 ∨ S.2 = 11) ∧ l.length = 1) ∨
  ((S.2 = 1 ∨ S.2 = 2 ∨ S.2 = 7 ∨ S.2 = 8 ∨ S.2 = 9 ∨ S.2 = 10) ∧ l.length = 2) := by
 subst hS
 rcases zoV name (yF (xO l)) (0, 0) with h1 | h1
 ·rw [h1]; exact .inl ⟨rfl, rfl⟩
 ·have := zrD _ _ h1
  rw [zf3 h] at this
  exact .inr this
theorem zrE {av : List D} {L : List Ob} {KP : D → Prop} {KW : D → List Ob → Prop} (name : List UInt8) (s : Int) (has : av = [.str name, .int .i64 s]) (hK : KP (.int .i64 (wU name s))) : zo Tryz.prog zia av L KP KW := by
 subst has
 exact zd zpT (name, s) trivial (VS.mk (LeL.of_eq rfl)) hK
attribute [local irreducible] wU yS
def zmD : List (D × D) := [(.int .i64 4, .int .i64 2), (.int .i64 5, .int .i64 3)]
theorem zmE {s : Int} (h : s = 4) : vG (.int .i64 s) zmD = some (.int .i64 2) := by subst h; rfl
theorem zmF {s : Int} (h : s = 5) : vG (.int .i64 s) zmD = some (.int .i64 3) := by subst h; rfl
def zjn : List (D × D) := [(.int .i64 5, .int .i64 3), (.int .i64 4, .int .i64 2)]
theorem zkJ {s : Int} (h : s = 5) : vG (.int .i64 s) zjn = some (.int .i64 3) := by subst h; rfl
theorem zkK {s : Int} (h : s = 4) : vG (.int .i64 s) zjn = some (.int .i64 2) := by subst h; rfl
def zmG : List (D × D) := [(.int .i64 7, .int .i64 4), (.int .i64 8, .int .i64 5)]
theorem zmH {s : Int} (h : s = 7) : vG (.int .i64 s) zmG = some (.int .i64 4) := by subst h; rfl
theorem zmI {s : Int} (h : s = 8) : vG (.int .i64 s) zmG = some (.int .i64 5) := by subst h; rfl
def zjo : List (D × D) := [(.int .i64 8, .int .i64 5), (.int .i64 7, .int .i64 4)]
theorem zkL {s : Int} (h : s = 8) : vG (.int .i64 s) zjo = some (.int .i64 5) := by subst h; rfl
theorem zkM {s : Int} (h : s = 7) : vG (.int .i64 s) zjo = some (.int .i64 4) := by subst h; rfl
theorem zvb {op sh line : Int} {l : List AOp} (h : sh = 1) : wx op sh l line = ⟨1, 0, line, ⟨op, (aop l 1).reg, 0, (aop l 0).val.n⟩, false, 0, (aop l 0).val, 0, 0⟩ := by subst h; rfl
theorem zvc {op sh line : Int} {l : List AOp} (h : sh = 2 ∨ sh = 9 ∨ sh = 10) : wx op sh l line = ⟨1, 0, line, ⟨op, (aop l 1).reg, (aop l 0).reg, 0⟩, false, 0, noV, 0, 0⟩ := by rcases h with rfl | rfl | rfl <;> rfl
theorem zvd {op sh line : Int} {l : List AOp} (h : sh = 3 ∨ sh = 6) : wx op sh l line = ⟨1, 0, line, ⟨op, (aop l 0).reg, 0, 0⟩, false, 0, noV, 0, 0⟩ := by rcases h with rfl | rfl <;> rfl
theorem zve {op sh line : Int} {l : List AOp} (h : sh = 4) : wx op sh l line = ⟨2, 0, line, ⟨op, 0, 0, 0⟩, false, 0, (aop l 0).val, 0, 0⟩ := by subst h; rfl
theorem zvf {op sh line : Int} {l : List AOp} (h : sh = 5) : wx op sh l line = ⟨3, 0, line, ⟨op, 0, 0, 0⟩, false, 0, (aop l 0).val, 0, 0⟩ := by subst h; rfl
theorem zvg {op sh line : Int} {l : List AOp} (h : sh = 7) : wx op sh l line = ⟨4, 0, line, ⟨op, (aop l 1).reg, 0, 0⟩, false, 0, (aop l 0).val, 0, 0⟩ := by subst h; rfl
theorem zvh {op sh line : Int} {l : List AOp} (h : sh = 8) : wx op sh l line = ⟨5, 0, line, ⟨op, (aop l 1).reg, 0, 0⟩, false, 0, (aop l 0).val, 0, 0⟩ := by subst h; rfl
theorem zul {op sh line : Int} {l : List AOp} (h : sh = 11) : wx op sh l line = ⟨1, 0, line, ⟨op, 0, 0, (aop l 0).val.n⟩, false, 0, (aop l 0).val, 0, 0⟩ := by subst h; rfl
theorem zvi {op sh line : Int} {l : List AOp} (h : sh = 0) : wx op sh l line = ⟨1, 0, line, ⟨op, 0, 0, 0⟩, false, 0, noV, 0, 0⟩ := by subst h; rfl
theorem zp3 (s : List UInt8) : (yF s).length ≤ 2 := by
 unfold yF
 repeat' split
 all_goals decide
theorem zgw : za Tryz.prog jN (z1 (fun ((b, _, l, _, _) : Bld × List UInt8 × List AOp × Int × List zj) => InB b ∧ l.length ≤ 1000000 ∧ ∀ o ∈ l, o.sign.length ≤ 1) (fun (_, name, l, line, _) => [.loc 0 0, .str name, .sl 4 (l.map vP) none, .int .i64 line])
  (fun (b, _, _, _, q) => bO q b) (fun _ => .tup []) fun (b, name, l, line, q) => vc q b (xj b name l line)) := by
 refine ze zi Tryz.func118 rfl (by decide) ?_
 rintro ⟨b, name, l, line, q⟩ ⟨hb, hl, hs⟩
 have hl : l.length ≤ 1000000 := hl
 have hs : ∀ o ∈ l, o.sign.length ≤ 1 := hs
 refine ⟨zmC _ _ _, by simp [Tryz.f118], fun E hE => ?_⟩
 have hE6 : E.L.length = 6 := by rw [hE]; rfl
 have hget : ∀ k : Nat, k < l.length → l[k]? = some (aop l k) := fun k hk => by unfold aop; rw [List.getElem?_eq_getElem hk]; rfl
 refine j7 (α := Unit) (fun _ => ¬ (name = [109, 111, 118, 46, 108] ∧ l.length = 2 ∧ (aop l 0).sign = [61] ∧ (aop l 1).sign = [114]))
  (fun _ => [(0, .loc 0 0), (1, .str name), (2, .sl 4 (l.map vP) none), (3, .int .i64 line)]) (fun _ => bO q b) ?_ ?_
 ·refine zb _ ?_
  (all_goals refine qgp ?_ <;> (repeat' first | exact trivial | intro hc | refine And.intro ?_ ?_) <;> refine Lf.mk ?_)
  ·refine zk (aop l 0) (by decide) (hget 0 (by omega)) ?_
   (all_goals refine qgp ?_ <;> (repeat' first | exact trivial | intro hc | refine And.intro ?_ ?_) <;> refine Lf.mk ?_)
   ·refine zk (aop l 1) (by decide) (hget 1 (by omega)) ?_
    (all_goals refine qgp ?_ <;> (repeat' first | exact trivial | intro hc | refine And.intro ?_ ?_) <;> refine Lf.mk ?_)
    ·refine zk (aop l 0) (by decide) (hget 0 (by omega)) ?_
     (all_goals refine qgp (Lf.mk ?_))
     refine zk (aop l 1) (by decide) (hget 1 (by omega)) ?_
     (all_goals refine qgp (Lf.mk ?_))
     refine zbV zp2 (b, (aop l 0).val, (aop l 1).reg, line, q) hb rfl (LeL.refl _) ?_
     (all_goals refine qgp (Lf.mk ?_))
     refine yM rfl ?_
     show vc q b _ = vc q b (xj b name l line)
     unfold xj
     rw [if_pos ⟨by assumption, by omega, by assumption, by assumption⟩]
    ·exact ⟨(), fun h => absurd h.2.2.2 hc, zX rfl ⟨rfl, rfl, rfl, rfl, trivial⟩⟩
   ·exact ⟨(), fun h => absurd h.2.2.1 hc, zX rfl ⟨rfl, rfl, rfl, rfl, trivial⟩⟩
  ·exact ⟨(), fun h => by have := h.2.1; omega, zX rfl ⟨rfl, rfl, rfl, rfl, trivial⟩⟩
  ·exact ⟨(), fun h => absurd h.1 hc, zX rfl ⟨rfl, rfl, rfl, rfl, trivial⟩⟩
 ·rintro _ hM
  have hgo : xj b name l line = if (xw name (yF (xO l)) (0, 0)).1 = 0 then yt b 1 line else if ((xw name (yF (xO l)) (0, 0)).2 = 1 ∨ (xw name (yF (xO l)) (0, 0)).2 = 11) ∧ (aop l 0).val.name ≠ [] then yt b 8 line
    else if yS (wx (xw name (yF (xO l)) (0, 0)).1 (xw name (yF (xO l)) (0, 0)).2 l line).ins = 0 then xq b (wx (xw name (yF (xO l)) (0, 0)).1 (xw name (yF (xO l)) (0, 0)).2 l line)
    else yt b (yS (wx (xw name (yF (xO l)) (0, 0)).1 (xw name (yF (xO l)) (0, 0)).2 l line).ins) line := by
   unfold xj
   rw [if_neg hM]
  have hB : vc q b (xj b name l line) = bO q (xj b name l line) := by
   refine w4 ?_
   rw [hgo]
   repeat' split
   all_goals first | rw [qY] | rfl
  show AWP _ _ _ _ (vV _ _ _ _ (vc q b (xj b name l line))) _ _
  rw [hB]
  generalize xj b name l line = B at *
  refine zb _ ?_
  (all_goals refine qgp (Lf.mk ?_))
  refine zd zmB l ⟨hl, hs⟩ (VS.mk (LeL.of_eq rfl)) ?_
  have hlen := zf3 hs
  have hS0 := zuk hs (name := name) rfl
  have hTl := zp3 (xO l)
  generalize hS : xw name (yF (xO l)) (0, 0) = S at *
  generalize hT : yF (xO l) = T at *
  (all_goals refine qgp (Lf.mk ?_))
  refine z7 (α := Nat × Int × Int) (fun p => p.1 ≤ T.length ∧ xw name (T.drop p.1) p.2 = S) (fun p => [(48, .sl 1 (T.map (.int .i64)) none), (49, .int .i64 T.length), (50, .int .i64 p.1), (8, .int .i64 p.2.1), (9, .int .i64 p.2.2), (0, .loc 0 0), (1, .str name), (2, .sl 4 (l.map vP) none), (3, .int .i64 line)])
   (fun _ => bO q b) (fun p => T.length - p.1) (fun _ => by rw [hE6]; exact Nat.le_refl 6) (0, 0, 0) ⟨Nat.zero_le _, hS⟩ ?_ ?_
  ·exact zX rfl ⟨rfl, rfl, rfl, rfl, rfl, rfl, rfl, rfl, rfl, trivial⟩
  rintro ⟨k, o, sh⟩ ⟨hk, hp⟩
  dsimp only at hk hp ⊢
  refine zb _ ?_
  (all_goals refine zvW ?_ <;> (repeat' first | exact trivial | intro hc | refine And.intro ?_ ?_) <;> refine Lf.mk ?_)
  ·obtain ⟨x, hx⟩ := yi (l := T) (k := k) (by omega)
   have hkl : k < T.length := by omega
   have hgx : T[k] = x := by rw [List.getElem?_eq_getElem hkl] at hx; exact Option.some.inj hx
   rw [List.drop_eq_getElem_cons hkl, hgx, xw] at hp
   refine zk x (by omega) (by simpa using hx) ?_
   (all_goals refine qgp (Lf.mk ?_))
   refine zrE name x rfl ?_
   (all_goals refine qgp ?_ <;> (repeat' first | exact trivial | intro hc | refine And.intro ?_ ?_) <;> refine Lf.mk ?_)
   ·rw [if_pos (by omega)] at hp
    exact zR (k + 1, wU name x, x) ⟨by show k + 1 ≤ _; omega, hp⟩ (by dsimp only; omega) rfl ⟨rfl, rfl, rfl, rfl, rfl, rfl, rfl, rfl, rfl, trivial⟩
   ·rw [if_neg (by omega)] at hp
    exact zR (k + 1, o, sh) ⟨by show k + 1 ≤ _; omega, hp⟩ (by dsimp only; omega) rfl ⟨rfl, rfl, rfl, rfl, rfl, rfl, rfl, rfl, rfl, trivial⟩
  all_goals
   have hk2 : k = T.length := by omega
   rw [hk2, List.drop_length, xw] at hp
   obtain ⟨rfl, rfl⟩ : o = S.1 ∧ sh = S.2 := by rw [← hp]; exact ⟨rfl, rfl⟩
  all_goals first
   | (have hS4 : S.2 = 4 ∨ S.2 = 5 := by omega
      refine zhL ?_; refine zdK zi mixed 1 2 [0, 2, 1, 3, 4, 5, 6, 7, 8, 9, 10, 11, 12, 13] [0, 2, 1, 3, 4, 5, 6, 7, 8, 9, 10, 11, 12, 13] rfl rfl rfl ?_ ?_)
   | (have hS7 : S.2 = 7 ∨ S.2 = 8 := by omega
      refine zhL ?_; refine zdK zi mixed 1 2 [0, 2, 1, 3, 4, 5, 6, 7, 8, 9, 10, 11, 12, 13, 14, 15, 16, 17, 18, 19, 20] [0, 2, 1, 3, 4, 5, 6, 7, 8, 9, 10, 11, 12, 13, 14, 15, 16, 17, 18, 19, 20] rfl rfl rfl ?_ ?_)
   | (refine zfO ?_)
   | skip
  all_goals (try (all_goals refine qgo (Lf.mk ?_)))
  all_goals (try (refine jt (show _ = [(D.int .i64 4, D.int .i64 2)] from rfl) ?_; (all_goals refine qgo (Lf.mk ?_)); refine jt (show _ = zmD from rfl) ?_; (all_goals refine qgo (Lf.mk ?_)); first | (refine ka (zmE (show S.2 = 4 by omega)) ?_) | (refine ka (zmF (show S.2 = 5 by omega)) ?_)))
  all_goals (try (refine jt (show _ = [(D.int .i64 5, D.int .i64 3)] from rfl) ?_; (all_goals refine qgo (Lf.mk ?_)); refine jt (show _ = zjn from rfl) ?_; (all_goals refine qgo (Lf.mk ?_)); first | (refine ka (zkJ (show S.2 = 5 by omega)) ?_) | (refine ka (zkK (show S.2 = 4 by omega)) ?_)))
  all_goals (try (refine jt (show _ = [(D.int .i64 7, D.int .i64 4)] from rfl) ?_; (all_goals refine qgo (Lf.mk ?_)); refine jt (show _ = zmG from rfl) ?_; (all_goals refine qgo (Lf.mk ?_)); first | (refine ka (zmH (show S.2 = 7 by omega)) ?_) | (refine ka (zmI (show S.2 = 8 by omega)) ?_)))
  all_goals (try (refine jt (show _ = [(D.int .i64 8, D.int .i64 5)] from rfl) ?_; (all_goals refine qgo (Lf.mk ?_)); refine jt (show _ = zjo from rfl) ?_; (all_goals refine qgo (Lf.mk ?_)); first | (refine ka (zkL (show S.2 = 8 by omega)) ?_) | (refine ka (zkM (show S.2 = 7 by omega)) ?_)))
  all_goals (try (all_goals refine qgo (Lf.mk ?_)))
  all_goals (try (refine zk (aop l 0) (by decide) (hget 0 (by omega)) ?_; (all_goals refine qgo ?_ <;> (repeat' first | exact trivial | intro hc | refine And.intro ?_ ?_) <;> refine Lf.mk ?_)))
  all_goals (try (exfalso; first | omega | exact absurd trivial (by assumption)))
  all_goals (try (refine zk (aop l 1) (by decide) (hget 1 (by omega)) ?_; (all_goals refine qgo ?_ <;> (repeat' first | exact trivial | intro hc | refine And.intro ?_ ?_) <;> refine Lf.mk ?_)))
  all_goals (try (exfalso; first | omega | exact absurd trivial (by assumption)))
  all_goals (try (refine zk (aop l 0) (by decide) (hget 0 (by omega)) ?_; (all_goals refine qgo ?_ <;> (repeat' first | exact trivial | intro hc | refine And.intro ?_ ?_) <;> refine Lf.mk ?_)))
  all_goals (try (exfalso; first | omega | exact absurd trivial (by assumption)))
  all_goals (try (refine zk (aop l 1) (by decide) (hget 1 (by omega)) ?_; (all_goals refine qgo ?_ <;> (repeat' first | exact trivial | intro hc | refine And.intro ?_ ?_) <;> refine Lf.mk ?_)))
  all_goals (try (exfalso; first | omega | exact absurd trivial (by assumption)))
  all_goals (try (refine yH q b 1 line [] rfl rfl ?_; (all_goals refine qgp (Lf.mk ?_)); exact zO [] rfl (by rw [hgo, if_pos (by assumption)]) rfl (Nat.le_of_eq rfl) .tup0))
  all_goals first
   | (have hd := zvb (op := S.1) (line := line) (l := l) (show S.2 = 1 by omega); rw [hd] at hgo; clear hd; rw [if_neg (by omega)] at hgo)
   | (have hd := zvc (op := S.1) (line := line) (l := l) (show S.2 = 2 ∨ S.2 = 9 ∨ S.2 = 10 by omega); rw [hd] at hgo; clear hd; rw [if_neg (by omega)] at hgo)
   | (have hd := zvd (op := S.1) (line := line) (l := l) (show S.2 = 3 ∨ S.2 = 6 by omega); rw [hd] at hgo; clear hd; rw [if_neg (by omega)] at hgo)
   | (have hd := zve (op := S.1) (line := line) (l := l) (show S.2 = 4 by omega); rw [hd] at hgo; clear hd; rw [if_neg (by omega)] at hgo)
   | (have hd := zvf (op := S.1) (line := line) (l := l) (show S.2 = 5 by omega); rw [hd] at hgo; clear hd; rw [if_neg (by omega)] at hgo)
   | (have hd := zvg (op := S.1) (line := line) (l := l) (show S.2 = 7 by omega); rw [hd] at hgo; clear hd; rw [if_neg (by omega)] at hgo)
   | (have hd := zvh (op := S.1) (line := line) (l := l) (show S.2 = 8 by omega); rw [hd] at hgo; clear hd; rw [if_neg (by omega)] at hgo)
   | (have hd := zul (op := S.1) (line := line) (l := l) (show S.2 = 11 by omega); rw [hd] at hgo; clear hd; rw [if_neg (by omega)] at hgo)
   | (have hd := zvi (op := S.1) (line := line) (l := l) (show S.2 = 0 by omega); rw [hd] at hgo; clear hd; rw [if_neg (by omega)] at hgo)
  all_goals (try (refine yH q b 8 line [_] rfl rfl ?_; (all_goals refine qgp (Lf.mk ?_)); exact zO [_] rfl (by rw [hgo, if_pos ⟨by omega, by assumption⟩]) rfl (Nat.le_of_eq rfl) .tup0))
  all_goals rw [if_neg (fun h => by first | exact absurd (by assumption) h.2 | omega)] at hgo
  all_goals first
   | (refine zd vb ⟨S.1, (aop l 1).reg, 0, (aop l 0).val.n⟩ trivial (VS.mk (LeL.of_eq rfl)) ?_)
   | (refine zd vb ⟨S.1, (aop l 1).reg, (aop l 0).reg, 0⟩ trivial (VS.mk (LeL.of_eq rfl)) ?_)
   | (refine zd vb ⟨S.1, (aop l 0).reg, 0, 0⟩ trivial (VS.mk (LeL.of_eq rfl)) ?_)
   | (refine zd vb ⟨S.1, 0, 0, 0⟩ trivial (VS.mk (LeL.of_eq rfl)) ?_)
   | (refine zd vb ⟨S.1, (aop l 1).reg, 0, 0⟩ trivial (VS.mk (LeL.of_eq rfl)) ?_)
   | (refine zd vb ⟨S.1, 0, 0, (aop l 0).val.n⟩ trivial (VS.mk (LeL.of_eq rfl)) ?_)
  all_goals (all_goals refine qgp ?_ <;> (repeat' first | exact trivial | intro hc | refine And.intro ?_ ?_) <;> refine Lf.mk ?_)
  all_goals first
   | (refine yH q b _ line [_] rfl rfl ?_; (all_goals refine qgp (Lf.mk ?_)); exact zO [_] rfl (by rw [hgo, if_neg (by assumption)]) rfl (Nat.le_of_eq rfl) .tup0)
   | (refine yp q b ⟨1, 0, line, ⟨S.1, (aop l 1).reg, 0, (aop l 0).val.n⟩, false, 0, (aop l 0).val, 0, 0⟩ [_] hb.items rfl yA ?_; (all_goals refine qgp (Lf.mk ?_)); exact zO [_] rfl (by rw [hgo, if_pos (by assumption)]) rfl (Nat.le_of_eq rfl) .tup0)
   | (refine yp q b ⟨1, 0, line, ⟨S.1, (aop l 1).reg, (aop l 0).reg, 0⟩, false, 0, noV, 0, 0⟩ [_] hb.items rfl yA ?_; (all_goals refine qgp (Lf.mk ?_)); exact zO [_] rfl (by rw [hgo, if_pos (by assumption)]) rfl (Nat.le_of_eq rfl) .tup0)
   | (refine yp q b ⟨1, 0, line, ⟨S.1, (aop l 0).reg, 0, 0⟩, false, 0, noV, 0, 0⟩ [_] hb.items rfl yA ?_; (all_goals refine qgp (Lf.mk ?_)); exact zO [_] rfl (by rw [hgo, if_pos (by assumption)]) rfl (Nat.le_of_eq rfl) .tup0)
   | (refine yp q b ⟨2, 0, line, ⟨S.1, 0, 0, 0⟩, false, 0, (aop l 0).val, 0, 0⟩ [_] hb.items rfl yA ?_; (all_goals refine qgp ?_ <;> (repeat' first | exact trivial | intro hc | refine And.intro ?_ ?_) <;> refine Lf.mk ?_); exact zO [_] rfl (by rw [hgo, if_pos (by assumption)]) rfl (Nat.le_of_eq rfl) .tup0)
   | (refine yp q b ⟨3, 0, line, ⟨S.1, 0, 0, 0⟩, false, 0, (aop l 0).val, 0, 0⟩ [_] hb.items rfl yA ?_; (all_goals refine qgp ?_ <;> (repeat' first | exact trivial | intro hc | refine And.intro ?_ ?_) <;> refine Lf.mk ?_); exact zO [_] rfl (by rw [hgo, if_pos (by assumption)]) rfl (Nat.le_of_eq rfl) .tup0)
   | (refine yp q b ⟨4, 0, line, ⟨S.1, (aop l 1).reg, 0, 0⟩, false, 0, (aop l 0).val, 0, 0⟩ [_] hb.items rfl yA ?_; (all_goals refine qgp ?_ <;> (repeat' first | exact trivial | intro hc | refine And.intro ?_ ?_) <;> refine Lf.mk ?_); exact zO [_] rfl (by rw [hgo, if_pos (by assumption)]) rfl (Nat.le_of_eq rfl) .tup0)
   | (refine yp q b ⟨5, 0, line, ⟨S.1, (aop l 1).reg, 0, 0⟩, false, 0, (aop l 0).val, 0, 0⟩ [_] hb.items rfl yA ?_; (all_goals refine qgp ?_ <;> (repeat' first | exact trivial | intro hc | refine And.intro ?_ ?_) <;> refine Lf.mk ?_); exact zO [_] rfl (by rw [hgo, if_pos (by assumption)]) rfl (Nat.le_of_eq rfl) .tup0)
   | (refine yp q b ⟨1, 0, line, ⟨S.1, 0, 0, (aop l 0).val.n⟩, false, 0, (aop l 0).val, 0, 0⟩ [_] hb.items rfl yA ?_; (all_goals refine qgp (Lf.mk ?_)); exact zO [_] rfl (by rw [hgo, if_pos (by assumption)]) rfl (Nat.le_of_eq rfl) .tup0)
   | (refine yp q b ⟨1, 0, line, ⟨S.1, 0, 0, 0⟩, false, 0, noV, 0, 0⟩ [_] hb.items rfl yA ?_; (all_goals refine qgp (Lf.mk ?_)); exact zO [_] rfl (by rw [hgo, if_pos (by assumption)]) rfl (Nat.le_of_eq rfl) .tup0)
   | (refine yH q b _ line [_, _] rfl rfl ?_; (all_goals refine qgp (Lf.mk ?_)); exact zO [_, _] rfl (by rw [hgo, if_neg (by assumption)]) rfl (Nat.le_of_eq rfl) .tup0)
   | (refine yp q b ⟨1, 0, line, ⟨S.1, (aop l 1).reg, 0, (aop l 0).val.n⟩, false, 0, (aop l 0).val, 0, 0⟩ [_, _] hb.items rfl yA ?_; (all_goals refine qgp ?_ <;> (repeat' first | exact trivial | intro hc | refine And.intro ?_ ?_) <;> refine Lf.mk ?_); exact zO [_, _] rfl (by rw [hgo, if_pos (by assumption)]) rfl (Nat.le_of_eq rfl) .tup0)
   | (refine yp q b ⟨1, 0, line, ⟨S.1, (aop l 1).reg, (aop l 0).reg, 0⟩, false, 0, noV, 0, 0⟩ [_, _] hb.items rfl yA ?_; (all_goals refine qgp ?_ <;> (repeat' first | exact trivial | intro hc | refine And.intro ?_ ?_) <;> refine Lf.mk ?_); exact zO [_, _] rfl (by rw [hgo, if_pos (by assumption)]) rfl (Nat.le_of_eq rfl) .tup0)
   | (refine yp q b ⟨1, 0, line, ⟨S.1, (aop l 0).reg, 0, 0⟩, false, 0, noV, 0, 0⟩ [_, _] hb.items rfl yA ?_; (all_goals refine qgp ?_ <;> (repeat' first | exact trivial | intro hc | refine And.intro ?_ ?_) <;> refine Lf.mk ?_); exact zO [_, _] rfl (by rw [hgo, if_pos (by assumption)]) rfl (Nat.le_of_eq rfl) .tup0)
   | (refine yp q b ⟨2, 0, line, ⟨S.1, 0, 0, 0⟩, false, 0, (aop l 0).val, 0, 0⟩ [_, _] hb.items rfl yA ?_; (all_goals refine qgp (Lf.mk ?_)); exact zO [_, _] rfl (by rw [hgo, if_pos (by assumption)]) rfl (Nat.le_of_eq rfl) .tup0)
   | (refine yp q b ⟨3, 0, line, ⟨S.1, 0, 0, 0⟩, false, 0, (aop l 0).val, 0, 0⟩ [_, _] hb.items rfl yA ?_; (all_goals refine qgp (Lf.mk ?_)); exact zO [_, _] rfl (by rw [hgo, if_pos (by assumption)]) rfl (Nat.le_of_eq rfl) .tup0)
   | (refine yp q b ⟨4, 0, line, ⟨S.1, (aop l 1).reg, 0, 0⟩, false, 0, (aop l 0).val, 0, 0⟩ [_, _] hb.items rfl yA ?_; (all_goals refine qgp (Lf.mk ?_)); exact zO [_, _] rfl (by rw [hgo, if_pos (by assumption)]) rfl (Nat.le_of_eq rfl) .tup0)
   | (refine yp q b ⟨5, 0, line, ⟨S.1, (aop l 1).reg, 0, 0⟩, false, 0, (aop l 0).val, 0, 0⟩ [_, _] hb.items rfl yA ?_; (all_goals refine qgp (Lf.mk ?_)); exact zO [_, _] rfl (by rw [hgo, if_pos (by assumption)]) rfl (Nat.le_of_eq rfl) .tup0)
   | (refine yp q b ⟨1, 0, line, ⟨S.1, 0, 0, (aop l 0).val.n⟩, false, 0, (aop l 0).val, 0, 0⟩ [_, _] hb.items rfl yA ?_; (all_goals refine qgp ?_ <;> (repeat' first | exact trivial | intro hc | refine And.intro ?_ ?_) <;> refine Lf.mk ?_); exact zO [_, _] rfl (by rw [hgo, if_pos (by assumption)]) rfl (Nat.le_of_eq rfl) .tup0)
   | (refine yp q b ⟨1, 0, line, ⟨S.1, 0, 0, 0⟩, false, 0, noV, 0, 0⟩ [_, _] hb.items rfl yA ?_; (all_goals refine qgp ?_ <;> (repeat' first | exact trivial | intro hc | refine And.intro ?_ ?_) <;> refine Lf.mk ?_); exact zO [_, _] rfl (by rw [hgo, if_pos (by assumption)]) rfl (Nat.le_of_eq rfl) .tup0)
attribute [local irreducible] yQ
theorem zmJ : za Tryz.prog jf (z1 (fun _ : zZ × yJ => True) (fun (s, _) => [xm s, .loc 0 0]) (fun (_, t) => [.cells [.int .i64 t.kind, .int .i64 t.n, .str t.text]]) (fun (s, t) => .bool (s.name == t.text))
  fun (_, t) => [.cells [.int .i64 t.kind, .int .i64 t.n, .str t.text]]) := by
 refine ze zi Tryz.func151 rfl (by decide) ?_
 rintro ⟨s, t⟩ _
 refine ⟨Nat.le_refl _, by simp [Tryz.f151], fun E hE => ?_⟩
 refine zb _ ?_
 (all_goals refine qgo (Lf.mk ?_))
 exact xc [.cells [.int .i64 t.kind, .int .i64 t.n, .str t.text]] [_] rfl (Nat.le_refl 1) .bool (by intro o ho; rw [List.mem_singleton] at ho; subst ho; exact .cells (.cons .int (.cons .int (.cons .str .nil))))
theorem zmK : za Tryz.prog jg (z1 (fun _ : zj × yJ => True) (fun (s, _) => [xY s, .loc 0 0]) (fun (_, t) => [.cells [.int .i64 t.kind, .int .i64 t.n, .str t.text]]) (fun (s, t) => .bool (s.name == t.text))
  fun (_, t) => [.cells [.int .i64 t.kind, .int .i64 t.n, .str t.text]]) := by
 refine ze zi Tryz.func152 rfl (by decide) ?_
 rintro ⟨s, t⟩ _
 refine ⟨Nat.le_refl _, by simp [Tryz.f152], fun E hE => ?_⟩
 refine zb _ ?_
 (all_goals refine qgo (Lf.mk ?_))
 exact xc [.cells [.int .i64 t.kind, .int .i64 t.n, .str t.text]] [_] rfl (Nat.le_refl 1) .bool (by intro o ho; rw [List.mem_singleton] at ho; subst ho; exact .cells (.cons .int (.cons .int (.cons .str .nil))))
def xK (q : List zj) (b : Bld) (t : yJ) (line : Int) : Bld :=
 if yQ t.text = false ∨ 0 ≤ ww t ∨ b.syms.any (fun s => s.name == t.text) = true ∨ q.any (fun s => s.name == t.text) = true then yt b 7 line else { b with syms := b.syms ++ [⟨t.text, 0⟩], marks := b.marks ++ [(b.items.length : Int)] }
theorem zn1 : za Tryz.prog jL (z1 (fun ((b, t, _, q) : Bld × yJ × Int × List zj) => b.items.length ≤ 1000000 ∧ b.syms.length ≤ 1000000 ∧ b.marks.length ≤ 1000000 ∧ q.length ≤ 1000000 ∧ t.text.length ≤ 1000000000) (fun (_, t, line, _) => [.loc 0 0, wC t, .int .i64 line])
  (fun (b, _, _, q) => bO q b) (fun _ => .tup []) fun (b, t, line, q) => bO q (xK q b t line)) := by
 refine ze zi Tryz.func113 rfl (by decide) ?_
 rintro ⟨b, t, line, q⟩ ⟨h1, h2, h3, h4, h5⟩
 have h1 : b.items.length ≤ 1000000 := h1
 have h2 : b.syms.length ≤ 1000000 := h2
 have h3 : b.marks.length ≤ 1000000 := h3
 have h4 : q.length ≤ 1000000 := h4
 have h5 : t.text.length ≤ 1000000000 := h5
 refine ⟨Nat.le_refl _, by simp [Tryz.f113], fun E hE => ?_⟩
 show AWP _ _ _ _ (vV _ _ _ _ (bO q (xK q b t line))) _ (bO q b)
 have hdef : xK q b t line = if yQ t.text = false ∨ 0 ≤ ww t ∨ b.syms.any (fun s => s.name == t.text) = true ∨ q.any (fun s => s.name == t.text) = true then yt b 7 line else { b with syms := b.syms ++ [⟨t.text, 0⟩], marks := b.marks ++ [(b.items.length : Int)] } := rfl
 generalize xK q b t line = B at *
 refine zb _ ?_
 (all_goals refine qgp (Lf.mk ?_))
 refine zd zdS t.text h5 (VS.mk (LeL.of_eq rfl)) ?_
 (all_goals refine qgp ?_ <;> (repeat' first | exact trivial | intro hc | refine And.intro ?_ ?_) <;> refine Lf.mk ?_)
 ·refine yH q b 7 line [_] rfl rfl ?_
  (all_goals refine qgp (Lf.mk ?_))
  exact zO [_] rfl (by rw [hdef, if_pos (.inl (by simpa using hc))]) rfl (Nat.le_of_eq rfl) .tup0
 refine zd zaf t h5 (VS.mk (LeL.of_eq rfl)) ?_
 (all_goals refine qgp ?_ <;> (repeat' first | exact trivial | intro hc | refine And.intro ?_ ?_) <;> refine Lf.mk ?_)
 ·refine yH q b 7 line [_] rfl rfl ?_
  (all_goals refine qgp (Lf.mk ?_))
  exact zO [_] rfl (by rw [hdef, if_pos (.inr (.inl hc))]) rfl (Nat.le_of_eq rfl) .tup0
 refine zsV jf [.loc 6 0] (fun s => s.name == t.text) b.syms (.cells (bC q b)) (.arr 13 (b.items.map xa)) [.spare b.marks.length, .arr 1 (zF b), zcZ b, .cells [.int .i64 t.kind, .int .i64 t.n, .str t.text]] (by omega) rfl rfl
  (fun s hs KP KW hK => ?_) ?_
 ·exact ye zmJ [6] [6] (s, t) trivial rfl rfl ⟨VS.mk (LeL.refl _), VS.mk rfl, hK⟩
 cases hs : b.syms.any (fun s => s.name == t.text) with
 | true =>
  (all_goals refine qgp ?_ <;> (repeat' first | exact trivial | intro hc | refine And.intro ?_ ?_) <;> refine Lf.mk ?_)
  (any_goals (first | (exfalso; refine Bool.false_ne_true ?_; assumption) | (exfalso; refine Bool.false_ne_true (Eq.symm ?_); assumption) | (exfalso; refine absurd trivial ?_; assumption) | skip))
  refine yH q b 7 line [_] rfl rfl ?_
  (all_goals refine qgp (Lf.mk ?_))
  exact zO [_] rfl (by rw [hdef, if_pos (.inr (.inr (.inl hs)))]) rfl (Nat.le_of_eq rfl) .tup0
 | false =>
  (all_goals refine qgp ?_ <;> (repeat' first | exact trivial | intro hc | refine And.intro ?_ ?_) <;> refine Lf.mk ?_)
  (any_goals (first | (exfalso; refine Bool.false_ne_true ?_; assumption) | (exfalso; refine Bool.false_ne_true (Eq.symm ?_); assumption) | (exfalso; refine absurd trivial ?_; assumption) | skip))
  refine zsW jg [.loc 6 0] (fun s => s.name == t.text) q (by omega) rfl (fun s hs KP KW hK => ?_) ?_
  ·exact ye zmK [6] [6] (s, t) trivial rfl rfl ⟨VS.mk (LeL.refl _), VS.mk rfl, hK⟩
  cases hq : q.any (fun s => s.name == t.text) with
  | true =>
   (all_goals refine qgp ?_ <;> (repeat' first | exact trivial | intro hc | refine And.intro ?_ ?_) <;> refine Lf.mk ?_)
   (any_goals (first | (exfalso; refine Bool.false_ne_true ?_; assumption) | (exfalso; refine Bool.false_ne_true (Eq.symm ?_); assumption) | (exfalso; refine absurd trivial ?_; assumption) | skip))
   refine yH q b 7 line [_] rfl rfl ?_
   (all_goals refine qgp (Lf.mk ?_))
   exact zO [_] rfl (by rw [hdef, if_pos (.inr (.inr (.inr hq)))]) rfl (Nat.le_of_eq rfl) .tup0
  | false =>
   (all_goals refine qgk ?_ <;> (repeat' first | exact trivial | intro hc | refine And.intro ?_ ?_) <;> refine Lf.mk ?_)
   (any_goals (first | (exfalso; refine Bool.false_ne_true ?_; assumption) | (exfalso; refine Bool.false_ne_true (Eq.symm ?_); assumption) | (exfalso; refine absurd trivial ?_; assumption) | skip))
   refine yV ((b.syms ++ [(⟨t.text, 0⟩ : zZ)]).map xm) (by rw [List.map_append]; rfl) ?_
   rw [List.length_map]
   (all_goals refine qgk (Lf.mk ?_))
   refine yV ((b.marks ++ [((b.items.length : Nat) : Int)]).map (D.int .i64)) (by rw [List.map_append]; rfl) ?_
   rw [List.length_map]
   (all_goals refine qgk (Lf.mk ?_))
   rw [if_neg (fun h => ?_)] at hdef
   ·rw [hdef]
    exact zO [_] rfl rfl rfl (Nat.le_of_eq rfl) .tup0
   ·rcases h with h | h | h | h
    ·simp_all
    ·omega
    ·rw [hs] at h; cases h
    ·rw [hq] at h; cases h
end Go.Proofs.YtnkdeacghopkiaaGreatDoor
namespace Go.Proofs.YtnkdeacghopkiaaGreatDoor
open Go Go.Plat
set_option linter.unusedVariables false
set_option linter.unusedSimpArgs false
set_option maxRecDepth 100000
set_option maxHeartbeats 2000000
attribute [local irreducible] AWP zN yv zU zo yC yh zG yb Lib.itoa yf zx za zY yz zr yg yx yy yn yo zw zy zT xf xI ww
theorem zmL (q : List zj) (line : Int) : ∀ (f : Nat) (out : List AOp) (s : RB), s.fe = 0 → (ja q line f out s).1.length ≤ out.length + s.rest.length
 | 0, out, s, _ => Nat.le_add_right _ _
 | f + 1, out, s, hs => by
  rw [ja]
  split
  ·exact Nat.le_add_right _ _
  ·rename_i hn
   have h1 : 1 ≤ s.rest.length := by
    cases hr : s.rest with
    | nil => exact absurd (.inl hr) hn
    | cons a l => simp
   have h2 := (zmx q line s).1
   split
   ·simp only [List.length_append, List.length_cons, List.length_nil]; omega
   ·by_cases h3 : (xB line (yR q line s).2).fe = 0
    ·have h4 := zio line _ h3
     have := zmL q line f (out ++ [(yR q line s).1]) _ h3
     simp only [List.length_append, List.length_cons, List.length_nil] at this
     omega
    ·rw [zha (.inr h3)]
     simp only [List.length_append, List.length_cons, List.length_nil]; omega
theorem zmM (q : List zj) (line : Int) (s : RB) (h : s.fe = 0) : (xn q line s).1.length ≤ s.rest.length := by
 have := zmL q line (s.rest.length + 1) [] s h
 simpa [xn] using this
theorem zrF (s : RB) : (qC s).1.length ≤ 1 := by
 unfold qC
 repeat' split
 all_goals simp
theorem zrG (q : List zj) (line : Int) (s : RB) : (yR q line s).1.sign.length ≤ 1 := by
 have := zrF s
 unfold yR zae
 split
 ·dsimp only
  split
  ·simp
  ·exact this
 split
 ·exact this
 ·exact this
theorem zj3 (q : List zj) (line : Int) : ∀ (f : Nat) (out : List AOp) (s : RB), (∀ o ∈ out, o.sign.length ≤ 1) → ∀ o ∈ (ja q line f out s).1, o.sign.length ≤ 1
 | 0, out, s, h => h
 | f + 1, out, s, h => by
  have h' : ∀ o ∈ out ++ [(yR q line s).1], o.sign.length ≤ 1 := by
   intro o ho
   rcases List.mem_append.1 ho with ho | ho
   ·exact h o ho
   ·rw [List.mem_singleton] at ho; subst ho; exact zrG q line s
  rw [ja]
  split
  ·exact h
  split
  ·exact h'
  ·exact zj3 q line f _ _ h'
theorem zrH (q : List zj) (line : Int) (s : RB) : ∀ o ∈ (xn q line s).1, o.sign.length ≤ 1 := zj3 q line _ [] s (by simp)
def y0 (q : List zj) (line : Int) : List yJ → Bld → Bld × List yJ
 | t :: c :: r, b => if t.kind = 1 ∧ c.kind = 3 ∧ c.text = [58] then y0 q line r (xK q b t line) else (b, t :: c :: r)
 | [t], b => (b, [t])
 | [], b => (b, [])
def zf4 (b : Bld) (w : List UInt8) (ops : List AOp) (line : Int) : Bld :=
 if w = [46, 98, 121, 116, 101] then kK b 1 ops line else if w = [46, 119, 111, 114, 100] then kK b 2 ops line else if w = [46, 108, 111, 110, 103] then kK b 4 ops line
 else if w = [46, 97, 108, 105, 103, 110] then qv b ops line else if w = [46, 112, 111, 111, 108] then (if 0 < ops.length then yt b 2 line else vS b line) else xj b w ops line
def zcC (q : List zj) (b : Bld) (line : Int) : List yJ → Bld
 | [] => b
 | t :: r => if b.fe ≠ 0 then b else if t.kind ≠ 1 then yt b 2 line else
  if (xn q line ⟨r, b.fe, b.fa⟩).2.fe ≠ 0 then xx b (xn q line ⟨r, b.fe, b.fa⟩).2 else zf4 (xx b (xn q line ⟨r, b.fe, b.fa⟩).2) t.text (xn q line ⟨r, b.fe, b.fa⟩).1 line
def xU (q : List zj) (b : Bld) (x : y4) : Bld := zcC q (y0 q x.pos x.toks b).1 x.pos (y0 q x.pos x.toks b).2
structure zW (b : Bld) (k : Nat) : Prop where
 items : b.items.length + k ≤ 1000000
 syms : b.syms.length + k ≤ 1000000
 marks : b.marks.length + k ≤ 1000000
 shut : b.shut.length + k ≤ 1000000
 curl : b.cur.length + k ≤ 1000000
 cur : b.has = false → b.cur = []
theorem zW.less {b : Bld} {k j : Nat} (h : zW b k) (hj : j ≤ k) : zW b j := ⟨by have := h.items; omega, by have := h.syms; omega, by have := h.marks; omega, by have := h.shut; omega, by have := h.curl; omega, h.cur⟩
theorem zW.inB {b : Bld} {k : Nat} (h : zW b k) : InB b := ⟨h.cur, by have := h.items; omega, by have := h.shut; omega, by have := h.curl; omega⟩
theorem zW.fail {b : Bld} {k : Nat} (h : zW b k) (e line : Int) : zW (yt b e line) k := by
 unfold yt
 split
 ·exact ⟨h.items, h.syms, h.marks, h.shut, h.curl, h.cur⟩
 ·exact h
theorem zW.put {b : Bld} {k : Nat} (h : zW b (k + 1)) (x : zD) : zW (xq b x) k :=
 ⟨by have := h.items; simp only [xq, List.length_append, List.length_cons, List.length_nil]; omega, by have := h.syms; simp only [xq]; omega, by have := h.marks; simp only [xq]; omega, by have := h.shut; simp only [xq]; omega, by have := h.curl; simp only [xq]; omega, h.cur⟩
theorem zW.label {q : List zj} {b : Bld} {k : Nat} (h : zW b (k + 1)) (t : yJ) (line : Int) : zW (xK q b t line) k := by
 unfold xK
 split
 ·exact (h.less (Nat.le_succ k)).fail _ _
 ·exact ⟨by have := h.items; dsimp only; omega, by have := h.syms; simp only [List.length_append, List.length_cons, List.length_nil]; omega, by have := h.marks; simp only [List.length_append, List.length_cons, List.length_nil]; omega, by have := h.shut; dsimp only; omega, by have := h.curl; dsimp only; omega, h.cur⟩
theorem zW.set {b : Bld} {k : Nat} (h : zW b k) (s : RB) : zW (xx b s) k := ⟨h.items, h.syms, h.marks, h.shut, h.curl, h.cur⟩
theorem zW.dat {b : Bld} {k : Nat} (h : zW b (k + 1)) (size line : Int) (o : AOp) : zW (wH size line b o) k := by
 unfold wH
 repeat' split
 ·exact (h.fail _ _).put _
 ·exact (h.fail _ _).put _
 ·exact (h.fail _ _).put _
 ·exact h.put _
theorem zW.datas {size line : Int} : ∀ (l : List AOp) {b : Bld} {k : Nat}, zW b (k + l.length) → zW (l.foldl (wH size line) b) k
 | [], b, k, h => h
 | o :: l, b, k, h => zW.datas l (zW.dat (by rw [Nat.add_assoc]; exact h) size line o)
theorem zW.data {b : Bld} {k : Nat} {l : List AOp} (h : zW b (k + l.length)) (size line : Int) : zW (kK b size l line) k := by
 unfold kK
 refine zW.datas l ?_
 split
 ·exact h.fail _ _
 ·exact h
theorem zW.align {b : Bld} {k : Nat} {l : List AOp} (h : zW b (k + 1)) (line : Int) : zW (qv b l line) k := by
 unfold qv
 repeat' split
 ·exact (h.less (Nat.le_succ k)).fail _ _
 ·exact (h.less (Nat.le_succ k)).fail _ _
 ·exact h.put _
theorem zW.pool {b : Bld} {k : Nat} (h : zW b (k + 1)) (line : Int) : zW (vS b line) k := by
 unfold vS
 split
 ·have := h.put ⟨9, 0, line, noI, false, 0, noV, b.shut.length, 0⟩
  exact ⟨this.items, this.syms, this.marks, by have := h.shut; simp only [List.length_append, List.length_cons, List.length_nil]; omega, by have := h.curl; simp only [List.length_nil]; omega, fun _ => rfl⟩
 ·exact h.less (Nat.le_succ k)
theorem zrI (v : zq) (l : List zq) : (wV v l).length ≤ l.length + 1 := by
 unfold wV
 split
 ·simp
 ·omega
theorem zW.lit {b : Bld} {k : Nat} (h : zW b (k + 1)) (v : zq) (reg line : Int) : zW (qW b v reg line) k := by
 have hw := zrI v b.cur
 refine ⟨by have := h.items; simp only [qW, xq, List.length_append, List.length_cons, List.length_nil]; omega, by have := h.syms; simp only [qW, xq]; omega, by have := h.marks; simp only [qW, xq]; omega, by have := h.shut; simp only [qW, xq]; omega, ?_, fun h => by simp only [qW, xq] at h; cases h⟩
 have := h.curl
 simp only [qW, xq]; omega
theorem zW.instr {b : Bld} {k : Nat} (h : zW b (k + 1)) (name : List UInt8) (l : List AOp) (line : Int) : zW (xj b name l line) k := by
 unfold xj
 split
 ·exact h.lit _ _ _
 repeat' split
 ·exact (h.less (Nat.le_succ k)).fail _ _
 ·exact (h.less (Nat.le_succ k)).fail _ _
 ·exact h.put _
 ·exact (h.less (Nat.le_succ k)).fail _ _
theorem zW.word {b : Bld} {k : Nat} {l : List AOp} (h : zW b (k + 1 + l.length)) (w : List UInt8) (line : Int) : zW (zf4 b w l line) k := by
 have h1 : zW b (k + 1) := h.less (by omega)
 have h2 : zW b (k + l.length) := h.less (by omega)
 unfold zf4
 repeat' split
 ·exact h2.data _ _
 ·exact h2.data _ _
 ·exact h2.data _ _
 ·exact h1.align _
 ·exact (h1.less (Nat.le_succ k)).fail _ _
 ·exact h1.pool _
 ·exact h1.instr _ _ _
theorem zfi {q : List zj} {line : Int} : ∀ (l : List yJ) {b : Bld} {k : Nat}, zW b (k + l.length) → zW (y0 q line l b).1 (k + (y0 q line l b).2.length) ∧ (y0 q line l b).2.length ≤ l.length ∧
  wt ((y0 q line l b).2.map tk) ≤ wt (l.map tk) ∧ (∀ t ∈ (y0 q line l b).2, t ∈ l) ∧ (y0 q line l b).1.has = b.has
 | [], b, k, h => by rw [y0]; exact ⟨h, Nat.le_refl _, Nat.le_refl _, fun _ h => h, rfl⟩
 | [t], b, k, h => by rw [y0]; exact ⟨h, Nat.le_refl _, Nat.le_refl _, fun _ h => h, rfl⟩
 | t :: c :: r, b, k, h => by
  rw [y0]
  split
  ·have hl : zW (xK q b t line) (k + r.length) := (h.less (by simp only [List.length_cons]; omega) : zW b (k + r.length + 1)).label t line
   obtain ⟨h1, h2, h3, h4, h5⟩ := zfi r hl
   refine ⟨h1, by simp only [List.length_cons]; omega, by simp only [List.map_cons, wt]; omega, fun x hx => List.mem_cons_of_mem _ (List.mem_cons_of_mem _ (h4 x hx)), h5.trans ?_⟩
   unfold xK
   split
   ·exact qY _ _ _
   ·rfl
  ·exact ⟨h, Nat.le_refl _, Nat.le_refl _, fun _ h => h, rfl⟩
theorem zW.rest {q : List zj} {b : Bld} {k : Nat} {l : List yJ} (h : zW b (k + l.length)) (line : Int) : zW (zcC q b line l) k := by
 cases l with
 | nil => exact h
 | cons t r =>
  have h0 : zW b k := h.less (by omega)
  rw [zcC]
  split
  ·exact h0
  rename_i hf
  have hf : b.fe = 0 := Classical.not_not.1 hf
  split
  ·exact h0.fail _ _
  split
  ·exact h0.set _
  ·have hl := zmM q line ⟨r, b.fe, b.fa⟩ hf
   have hl : (xn q line ⟨r, b.fe, b.fa⟩).1.length ≤ r.length := hl
   exact zW.word ((h.less (by simp only [List.length_cons]; omega)).set _) _ _
theorem zW.line {q : List zj} {b : Bld} {k : Nat} (x : y4) (h : zW b (k + x.toks.length)) : zW (xU q b x) k := (zfi x.toks h).1.rest x.pos
attribute [local irreducible] zg.kids zg.kind zg.n zg.name xn y9 wU wd xK yQ yr yR wW zH wV yS
def zkY (x : y4) : Ob := .cells [.int .i64 x.pos, .sl 3 (x.toks.map wC) none]
theorem zp4 {av : List D} {L : List Ob} {KP : D → Prop} {KW : D → List Ob → Prop} (q : List zj) (b : Bld) (t : yJ) (line : Int) (X : List Ob) {k : Nat} (hr : zW b k) (hq : q.length ≤ 1000000) (ht : t.text.length ≤ 1000000000) (hL : L = bO q b ++ X) (has : av = [.loc 0 0, wC t, .int .i64 line])
  (hK : KW (.tup []) (bO q (xK q b t line) ++ X)) : zo Tryz.prog jL av L KP KW := by
 subst has
 have hr := hr.less (Nat.zero_le k)
 exact xg zn1 X (b, t, line, q) ⟨hr.items, hr.syms, hr.marks, hq, ht⟩ hL (LeL.refl _) rfl (.cons (.loc (Nat.lt_of_lt_of_le (by decide : 0 < 6) (Nat.le_of_eq rfl))) (.cons (.agg (.cons .int (.cons .int (.cons .str .nil)))) (.cons .int .nil))) .tup0 (y5 _ _) (y5 _ _) hK
theorem kM (q : List zj) (b : Bld) (i : Nat) (o : Ob) (h : (bO q b)[i]? = some o) : ClO 6 o := y5 _ _ _ (List.mem_of_getElem? h)
theorem zrJ (s : RB) (line : Int) : ClO 6 (arC s line) := .cells (.cons (.loc (by decide)) (.cons .sl (.cons .int .nil)))
theorem zs0 {av : List D} {L : List Ob} {KP : D → Prop} {KW : D → List Ob → Prop} (q : List zj) (b : Bld) (s : RB) (line : Int) (Y : Ob) (hl : kf s q) (ht : ∀ t ∈ s.rest, t.text.length ≤ 1000000000) (hL : L = bO q (xx b s) ++ [Y, arC s line]) (has : av = [.loc 7 0])
  (hK : KW (.sl 4 ((xn q line s).1.map vP) none) (bO q (xx b (xn q line s).2) ++ [Y, arC (xn q line s).2 line])) : zo Tryz.prog zbY av L KP KW := by
 subst has
 subst hL
 have key : ∀ k, k < 6 → zC [0, 1, 2, 3, 4, 5, 7] 0 k = some k := by decide
 have key' : ∀ k, k < 6 → w7 [0, 1, 2, 3, 4, 5, 7] k = some k := by decide
 refine zsp (L' := bO q (xx b (xn q line s).2) ++ [Y, arC (xn q line s).2 line]) (d := .sl 4 ((xn q line s).1.map vP) none) (as1 := [.loc 6 0]) (L1 := wI q b s line) (L1' := wI q b (xn q line s).2 line) (d1 := .sl 4 ((xn q line s).1.map vP) none) zry [0, 1, 2, 3, 4, 5, 7] rfl ⟨rfl, fun i d d' h1 h2 => ?_⟩ ?_ ⟨(b, s, q, line), ⟨hl, ht⟩, LeL.refl _, rfl, rfl, rfl⟩ (ClD.sl (n := 0) _ fun k hk => absurd hk (Nat.not_lt_zero k)) rfl rfl (fun k hk hn => ?_) (fun i k hi => ?_) hK
 ·cases i with
  | zero =>
   cases h1
   cases h2
   obtain ⟨d', h3, rfl⟩ := wk (show jT (zC [0, 1, 2, 3, 4, 5, 7] 0) (.loc 7 0) (fun d' => d' = .loc 6 0) from rfl)
   exact h3
  | succ i => simp at h1
 ·exact .cons (o := .cells (bC q (xx b s))) rfl (kM q (xx b s) 0 _ rfl _ key) (.cons (o := .arr 13 (b.items.map xa)) rfl (kM q (xx b s) 1 _ rfl _ key) (.cons (o := .arr 2 (b.syms.map xm)) rfl (kM q (xx b s) 2 _ rfl _ key)
   (.cons (o := .spare b.marks.length) rfl (kM q (xx b s) 3 _ rfl _ key) (.cons (o := .arr 1 (zF (xx b s))) rfl (kM q (xx b s) 4 _ rfl _ key) (.cons (o := zcZ (xx b s)) rfl (kM q (xx b s) 5 _ rfl _ key) (.cons (o := arC s line) rfl (zrJ s line _ key) .nil))))))
 ·match k, hk, hn with
  | 0, _, hn => exact absurd (by decide) hn
  | 1, _, hn => exact absurd (by decide) hn
  | 2, _, hn => exact absurd (by decide) hn
  | 3, _, hn => exact absurd (by decide) hn
  | 4, _, hn => exact absurd (by decide) hn
  | 5, _, hn => exact absurd (by decide) hn
  | 6, _, _ => rfl
  | 7, _, hn => exact absurd (by decide) hn
  | k + 8, hk, _ => exact absurd hk (by simp [bO, bT])
 ·match i, hi with
  | 0, hi => cases hi; exact ⟨.cells (bC q (xx b (xn q line s).2)), _, rfl, rfl, kM q (xx b (xn q line s).2) 0 _ rfl _ key'⟩
  | 1, hi => cases hi; exact ⟨.arr 13 (b.items.map xa), _, rfl, rfl, kM q (xx b (xn q line s).2) 1 _ rfl _ key'⟩
  | 2, hi => cases hi; exact ⟨.arr 2 (b.syms.map xm), _, rfl, rfl, kM q (xx b (xn q line s).2) 2 _ rfl _ key'⟩
  | 3, hi => cases hi; exact ⟨.spare b.marks.length, _, rfl, rfl, kM q (xx b (xn q line s).2) 3 _ rfl _ key'⟩
  | 4, hi => cases hi; exact ⟨.arr 1 (zF (xx b (xn q line s).2)), _, rfl, rfl, kM q (xx b (xn q line s).2) 4 _ rfl _ key'⟩
  | 5, hi => cases hi; exact ⟨zcZ (xx b (xn q line s).2), _, rfl, rfl, kM q (xx b (xn q line s).2) 5 _ rfl _ key'⟩
  | 6, hi => cases hi; exact ⟨arC (xn q line s).2 line, _, rfl, rfl, zrJ _ _ _ key'⟩
  | i + 7, hi => simp at hi
theorem zf5 {q : List zj} {b b' : Bld} (h : b'.has = true → b.has = true) : vc q b b' = bO q b' := by
 unfold vc
 rw [if_neg fun e => by have := h e.2; rw [e.1] at this; cases this]
def bOn (k : Nat) (q : List zj) (b : Bld) : List Ob :=
 [.cells (bCk q b), .arr 13 (b.items.map xa), .arr 2 (b.syms.map xm), .spare b.marks.length, .arr 1 (b.shut.map yZ ++ [.sl 2 (b.cur.map yw) (some k)]), .dead]
theorem zvj (q : List zj) (b : Bld) : ClL 5 (bCk q b) :=
 .cons .sl (.cons (.osl (by decide)) (.cons (.osl (by decide)) (.cons (.tok (by decide)) (.cons (.osl (by decide)) (.cons .int (.cons .nilsl (.cons .nilsl (.cons .nilsl (.cons .int (.cons .int .nil))))))))))
theorem zf6 {m : Nat → Option Nat} {k k' : Nat} (q : List zj) (b : Bld) (hm : ∀ j, j < 5 → m j = some j) (hk : m k = some k') : ∀ (i : Nat) x y, (bOn k q b)[i]? = some x → (bOn k' q b)[i]? = some y → z8 m x y := by
 intro i x y h1 h2
 match i, h1, h2 with
 | 0, h1, h2 => cases h1; cases h2; exact ClO.cells (zvj q b) _ hm
 | 1, h1, h2 => cases h1; cases h2; exact ClO.arr (n := 5) (qX _) _ hm
 | 2, h1, h2 => cases h1; cases h2; exact ClO.arr (n := 5) (jj _) _ hm
 | 3, h1, h2 => cases h1; cases h2; rfl
 | 4, h1, h2 => cases h1; cases h2; exact zcB hk _ _
 | 5, h1, h2 => cases h1; cases h2; rfl
 | i + 6, h1, h2 => simp [bOn] at h1
theorem zp5 {av : List D} {L : List Ob} {KP : D → Prop} {KW : D → List Ob → Prop} (q : List zj) (b : Bld) (name : List UInt8) (l : List AOp) (line : Int) (X : List Ob) (hb : InB b) (hl : l.length ≤ 1000000) (hs : ∀ o ∈ l, o.sign.length ≤ 1)
  (hL : L = bO q b ++ X) (has : av = [.loc 0 0, .str name, .sl 4 (l.map vP) none, .int .i64 line])
  (hK1 : ((xj b name l line).has = true → b.has = true) → KW (.tup []) (bO q (xj b name l line) ++ X))
  (hK2 : b.has = false → (xj b name l line).has = true → KW (.tup []) (bOn L.length q (xj b name l line) ++ X ++ [.spare (xj b name l line).cur.length])) : zo Tryz.prog jN av L KP KW := by
 subst has
 have hcl : ClL (bO q b).length [.loc 0 0, .str name, .sl 4 (l.map vP) none, .int .i64 line] := .cons (.loc (Nat.lt_of_lt_of_le (by decide : 0 < 6) (Nat.le_of_eq rfl))) (.cons .str (.cons .sl (.cons .int .nil)))
 by_cases h : b.has = false ∧ (xj b name l line).has = true
 ·refine zjS zgw (bO q b) X (bOn 6 q (xj b name l line)) (bOn L.length q (xj b name l line)) (.spare (xj b name l line).cur.length) (d := .tup []) hL ⟨(b, name, l, line, q), ⟨hb, hl, hs⟩, LeL.refl _, rfl, rfl, (zeb h.1 h.2).symm⟩ rfl rfl hcl .tup0 (y5 _ _)
   (fun m hm hk => zf6 q _ (fun j hj => hm j (Nat.lt_of_lt_of_le hj (by decide : 5 ≤ 6))) hk) .spare (hK2 h.1 h.2)
 ·have hn : (xj b name l line).has = true → b.has = true := fun e => by
   cases hb : b.has with
   | true => rfl
   | false => exact absurd ⟨hb, e⟩ h
  refine zg1 zgw (bO q b) X (bO q (xj b name l line)) (d := .tup []) hL ⟨(b, name, l, line, q), ⟨hb, hl, hs⟩, LeL.refl _, rfl, rfl, (zf5 hn).symm⟩ rfl hcl .tup0 (y5 _ _) (y5 _ _) (hK1 hn)
theorem zfj {av : List D} {L : List Ob} {KP : D → Prop} {KW : D → List Ob → Prop} (q : List zj) (b : Bld) (size : Int) (l : List AOp) (line : Int) (X : List Ob) (hl : b.items.length + l.length ≤ 1000000) (hs : size = 1 ∨ size = 2 ∨ size = 4)
  (hL : L = bO q b ++ X) (has : av = [.loc 0 0, .int .i64 size, .sl 4 (l.map vP) none, .int .i64 line]) (hK : KW (.tup []) (bO q (kK b size l line) ++ X)) : zo Tryz.prog zaI av L KP KW := by
 subst has
 exact xg znZ X (b, size, l, line, q) ⟨hl, hs⟩ hL (LeL.refl _) rfl (.cons (.loc (Nat.lt_of_lt_of_le (by decide : 0 < 6) (Nat.le_of_eq rfl))) (.cons .int (.cons .sl (.cons .int .nil)))) .tup0 (y5 _ _) (y5 _ _) hK
theorem zp6 {av : List D} {L : List Ob} {KP : D → Prop} {KW : D → List Ob → Prop} (q : List zj) (b : Bld) (l : List AOp) (line : Int) (X : List Ob) (hl : b.items.length ≤ 1000000) (hs : l.length ≤ 1000000000)
  (hL : L = bO q b ++ X) (has : av = [.loc 0 0, .sl 4 (l.map vP) none, .int .i64 line]) (hK : KW (.tup []) (bO q (qv b l line) ++ X)) : zo Tryz.prog jM av L KP KW := by
 subst has
 exact xg zmz X (b, l, line, q) ⟨hl, hs⟩ hL (LeL.refl _) rfl (.cons (.loc (Nat.lt_of_lt_of_le (by decide : 0 < 6) (Nat.le_of_eq rfl))) (.cons .sl (.cons .int .nil))) .tup0 (y5 _ _) (y5 _ _) hK
theorem zj4 {av : List D} {L : List Ob} {KP : D → Prop} {KW : D → List Ob → Prop} (q : List zj) (b : Bld) (line : Int) (X : List Ob) (hl : b.items.length ≤ 1000000) (hs : b.shut.length ≤ 1000000)
  (hL : L = bO q b ++ X) (has : av = [.loc 0 0, .int .i64 line]) (hK : KW (.tup []) (bO q (vS b line) ++ X)) : zo Tryz.prog zaH av L KP KW := by
 subst has
 exact xg zn0 X (b, line, q) ⟨hl, hs⟩ hL (LeL.refl _) rfl (.cons (.loc (Nat.lt_of_lt_of_le (by decide : 0 < 6) (Nat.le_of_eq rfl))) (.cons .int .nil)) .tup0 (y5 _ _) (y5 _ _) hK
theorem zmN {size line : Int} : ∀ (l : List AOp) (b : Bld), (l.foldl (wH size line) b).has = b.has
 | [], b => rfl
 | o :: l, b => by
  rw [List.foldl_cons, zmN l]
  unfold wH
  repeat' split
  all_goals first | exact qY _ _ _ | rfl
theorem zfk (b : Bld) (size : Int) (l : List AOp) (line : Int) : (kK b size l line).has = b.has := by
 unfold kK
 rw [zmN]
 split
 ·exact qY _ _ _
 ·rfl
theorem zp7 (b : Bld) (l : List AOp) (line : Int) : (qv b l line).has = b.has := by
 unfold qv
 repeat' split
 all_goals first | exact qY _ _ _ | rfl
theorem zrK (b : Bld) (line : Int) : (vS b line).has = true → b.has = true := by
 unfold vS
 split
 ·intro _; assumption
 ·exact id
theorem zip : za Tryz.prog zaG (z1 (fun ((b, x, q) : Bld × y4 × List zj) => zW b (1 + x.toks.length) ∧ wt (x.toks.map tk) ≤ 1048576 ∧ q.length ≤ 1000000) (fun (_, x, _) => [.loc 0 0, xR x])
  (fun (b, _, q) => bO q b) (fun _ => .tup []) fun (b, x, q) => vc q b (xU q b x)) := by
 refine ze zi Tryz.func87 rfl (by decide) ?_
 rintro ⟨b, x, q⟩ ⟨hr, hw, hq⟩
 have hr : zW b (1 + x.toks.length) := hr
 have hw : wt (x.toks.map tk) ≤ 1048576 := hw
 have hq : q.length ≤ 1000000 := hq
 have htx : ∀ t ∈ x.toks, t.text.length ≤ 1000000000 := fun t ht => by
  have : ∀ l : List yJ, t ∈ l → t.text.length ≤ wt (l.map tk) := by
   intro l
   induction l with
   | nil => intro h; cases h
   | cons a l ih =>
    intro h
    rw [List.map_cons, wt]
    rcases List.mem_cons.1 h with rfl | h
    ·show t.text.length ≤ 1 + t.text.length + _; omega
    ·have := ih h; omega
  have := this _ ht
  omega
 refine ⟨zmC _ _ _, by simp [Tryz.f87], fun E hE => ?_⟩
 have hE6 : E.L.length = 6 := by rw [hE]; rfl
 have hlen : x.toks.length ≤ 1048576 := by have := zin (x.toks.map tk); rw [List.length_map] at this; omega
 refine xv (zb _ ?_)
 (all_goals refine qgp (Lf.mk ?_))
 refine xv (zb _ ?_)
 (all_goals refine qgp (Lf.mk ?_))
 refine j7 (α := Unit) (fun _ => True) (fun _ => [(0, .loc 0 0), (3, .loc 6 0), (4, .sl 3 ((y0 q x.pos x.toks b).2.map wC) none)]) (fun _ => bO q (y0 q x.pos x.toks b).1 ++ [zkY x]) ?_ ?_
 ·refine zb _ ?_
  (all_goals refine qgp (Lf.mk ?_))
  have hout : ∀ (l : List yJ) (b1 : Bld), y0 q x.pos l b1 = y0 q x.pos x.toks b → y0 q x.pos l b1 = (b1, l) → (y0 q x.pos x.toks b).1 = b1 ∧ (y0 q x.pos x.toks b).2 = l := fun l b1 h h' => by rw [← h, h']; exact ⟨rfl, rfl⟩
  refine z7 (α := List yJ × Bld) (fun p => y0 q x.pos p.1 p.2 = y0 q x.pos x.toks b ∧ zW p.2 (1 + p.1.length) ∧ (∀ t ∈ p.1, t ∈ x.toks) ∧ p.1.length ≤ 1048576) (fun p => [(0, .loc 0 0), (3, .loc 6 0), (4, .sl 3 (p.1.map wC) none)])
   (fun p => bO q p.2 ++ [zkY x]) (fun p => p.1.length) (fun _ => by rw [hE6]; exact Nat.le_succ 6) (x.toks, b) ⟨rfl, hr, fun _ h => h, hlen⟩ ?_ ?_
  ·exact zX rfl ⟨rfl, rfl, rfl, trivial⟩
  rintro ⟨l, b1⟩ ⟨i1, i2, i3, i4⟩
  dsimp only at i1 i2 i3 i4 ⊢
  match l, i1, i2, i3, i4 with
  | [], i1, i2, i3, i4 =>
   refine zb _ ?_
   (all_goals refine qgp ?_ <;> (repeat' first | exact trivial | intro hc | refine And.intro ?_ ?_) <;> refine Lf.mk ?_)
   obtain ⟨h1, h2⟩ := hout [] b1 i1 (by rw [y0])
   exact ⟨(), trivial, zX (by rw [h1]) ⟨rfl, rfl, by rw [h2]; rfl, trivial⟩⟩
  | [t], i1, i2, i3, i4 =>
   refine zb _ ?_
   (all_goals refine qgp ?_ <;> (repeat' first | exact trivial | intro hc | refine And.intro ?_ ?_) <;> refine Lf.mk ?_)
   obtain ⟨h1, h2⟩ := hout [t] b1 i1 (by rw [y0])
   exact ⟨(), trivial, zX (by rw [h1]) ⟨rfl, rfl, by rw [h2]; rfl, trivial⟩⟩
  | t :: c :: r, i1, i2, i3, i4 =>
   have i4 : r.length + 1 + 1 ≤ 1048576 := i4
   refine zb _ ?_
   (all_goals refine qgp ?_ <;> (repeat' first | exact trivial | intro hc | refine And.intro ?_ ?_) <;> refine Lf.mk ?_)
   ·rw [y0, if_pos ⟨by assumption, by assumption, by assumption⟩] at i1
    refine zp4 q b1 t x.pos [zkY x] i2 hq (htx t (i3 t List.mem_cons_self)) rfl rfl ?_
    (all_goals refine qgp (Lf.mk ?_))
    exact zR (r, xK q b1 t x.pos) ⟨i1, zW.label (i2.less (by simp only [List.length_cons]; omega)) t x.pos, fun y hy => i3 y (List.mem_cons_of_mem _ (List.mem_cons_of_mem _ hy)), show r.length ≤ 1048576 by omega⟩ (by simp only [List.length_cons]; omega) rfl ⟨rfl, rfl, rfl, trivial⟩
   all_goals
    obtain ⟨h1, h2⟩ := hout (t :: c :: r) b1 i1 (by rw [y0, if_neg]; rintro ⟨e1, e2, e3⟩; first | exact absurd e1 hc | exact absurd e2 hc | exact absurd e3 hc)
    exact ⟨(), trivial, zX (by rw [h1]) ⟨rfl, rfl, by rw [h2]; rfl, trivial⟩⟩
 ·rintro _ _
  obtain ⟨g1, g2, g3, g4, g5⟩ := zfi x.toks hr
  have hB : xU q b x = zcC q (y0 q x.pos x.toks b).1 x.pos (y0 q x.pos x.toks b).2 := rfl
  show AWP _ _ _ _ (vV _ _ _ _ (vc q b (xU q b x))) _ _
  have hO : vc q b (xU q b x) = vc q (y0 q x.pos x.toks b).1 (xU q b x) := by unfold vc; rw [g5]
  rw [hO, hB]
  generalize (y0 q x.pos x.toks b).1 = b1 at *
  generalize (y0 q x.pos x.toks b).2 = l at *
  clear hO hB
  cases l with
  | nil =>
   refine zb _ ?_
   (all_goals refine qgp ?_ <;> (repeat' first | exact trivial | intro hc | refine And.intro ?_ ?_) <;> refine Lf.mk ?_)
   rw [zcC, w4 rfl]
   exact zO [_] rfl rfl rfl (Nat.le_of_eq rfl) .tup0
  | cons t r =>
   have g2 : r.length + 1 ≤ x.toks.length := g2
   rw [zcC]
   refine zb _ ?_
   (all_goals refine qgp ?_ <;> (repeat' first | exact trivial | intro hc | refine And.intro ?_ ?_) <;> refine Lf.mk ?_)
   ·rw [if_pos hc, w4 rfl]
    exact zO [_] rfl rfl rfl (Nat.le_of_eq rfl) .tup0
   ·rw [if_neg (fun h => h (by assumption)), if_pos hc, w4 (qY _ _ _)]
    refine yH q b1 2 x.pos [_] rfl rfl ?_
    (all_goals refine qgp (Lf.mk ?_))
    exact zO [_] rfl rfl rfl (Nat.le_of_eq rfl) .tup0
   ·have hfe : b1.fe = 0 := by assumption
    rw [if_neg (fun h => h hfe), if_neg (fun h => h hc)]
    have hAl := zmM q x.pos ⟨r, b1.fe, b1.fa⟩ hfe
    have hAs := zrH q x.pos ⟨r, b1.fe, b1.fa⟩
    rw [List.map_cons, wt] at g3
    refine zs0 q b1 ⟨r, b1.fe, b1.fa⟩ x.pos (zkY x) ⟨by show wt (r.map tk) ≤ _; omega, by omega⟩ (fun y hy => htx y (g4 y (List.mem_cons_of_mem _ hy))) rfl rfl ?_
    generalize xn q x.pos ⟨r, b1.fe, b1.fa⟩ = A at *
    obtain ⟨ops, s2⟩ := A
    dsimp only at hAl hAs ⊢
    have hroom : zW (xx b1 s2) (1 + ops.length) := (g1.less (by simp only [List.length_cons]; omega)).set s2
    have hops : ops.length ≤ 1000000 := by have := hroom.items; omega
    have hb2 : (xx b1 s2).has = b1.has := rfl
    rw [show s2.fe = (xx b1 s2).fe from rfl, show ∀ b', vc q b1 b' = vc q (xx b1 s2) b' from fun b' => rfl]
    generalize xx b1 s2 = b2 at *
    have hin := hroom.inB
    have hri := hroom.items
    have hrs := hroom.shut
    (all_goals refine qgp ?_ <;> (repeat' first | exact trivial | intro hc | refine And.intro ?_ ?_) <;> refine Lf.mk ?_)
    ·rw [if_pos hc, w4 rfl]
     exact zO [_, _] rfl rfl rfl (Nat.le_of_eq rfl) .tup0
    all_goals rw [if_neg (fun h => h (by assumption))]
    all_goals unfold zf4
    all_goals (repeat (first | (rw [if_pos (by assumption)]) | (rw [if_neg (by assumption)])))
    ·rw [w4 (zfk _ _ _ _)]
     refine zfj q b2 1 ops x.pos [_, _] (by omega) (by decide) rfl rfl ?_
     (all_goals refine qgp (Lf.mk ?_))
     exact zO [_, _] rfl rfl rfl (Nat.le_of_eq rfl) .tup0
    ·rw [w4 (zfk _ _ _ _)]
     refine zfj q b2 2 ops x.pos [_, _] (by omega) (by decide) rfl rfl ?_
     (all_goals refine qgp (Lf.mk ?_))
     exact zO [_, _] rfl rfl rfl (Nat.le_of_eq rfl) .tup0
    ·rw [w4 (zfk _ _ _ _)]
     refine zfj q b2 4 ops x.pos [_, _] (by omega) (by decide) rfl rfl ?_
     (all_goals refine qgp (Lf.mk ?_))
     exact zO [_, _] rfl rfl rfl (Nat.le_of_eq rfl) .tup0
    ·rw [w4 (zp7 _ _ _)]
     refine zp6 q b2 ops x.pos [_, _] (by omega) (by omega) rfl rfl ?_
     (all_goals refine qgp (Lf.mk ?_))
     exact zO [_, _] rfl rfl rfl (Nat.le_of_eq rfl) .tup0
    ·rw [if_pos (show 0 < ops.length by omega), w4 (qY _ _ _)]
     refine yH q b2 2 x.pos [_, _] rfl rfl ?_
     (all_goals refine qgp (Lf.mk ?_))
     exact zO [_, _] rfl rfl rfl (Nat.le_of_eq rfl) .tup0
    ·rw [if_neg (show ¬ 0 < ops.length by omega), zf5 (zrK _ _)]
     refine zj4 q b2 x.pos [_, _] (by omega) (by omega) rfl rfl ?_
     (all_goals refine qgp (Lf.mk ?_))
     exact zO [_, _] rfl rfl rfl (Nat.le_of_eq rfl) .tup0
    ·refine zp5 q b2 t.text ops x.pos [_, _] hin hops hAs rfl rfl (fun hn => ?_) (fun hn hn' => ?_)
     ·rw [zf5 hn]
      (all_goals refine qgp (Lf.mk ?_))
      exact zO [_, _] rfl rfl rfl (Nat.le_of_eq rfl) .tup0
     ·rw [zeb hn hn']
      (all_goals refine qgp (Lf.mk ?_))
      have key : ∀ k, k < 5 → zC [0, 1, 2, 3, 4, 5, 8] 0 k = some k := by decide
      generalize xj b2 t.text ops x.pos = b3 at *
      refine ze1 [0, 1, 2, 3, 4, 5, 8] rfl rfl ?_ (ClD.tup0 (n := 5) _ key)
      have hr := zf6 (m := zC [0, 1, 2, 3, 4, 5, 8] 0) (k := 8) (k' := 6) q b3 key rfl
      exact .cons (o := .cells (bCk q b3)) rfl (hr 0 _ _ rfl rfl) (.cons (o := .arr 13 (b3.items.map xa)) rfl (hr 1 _ _ rfl rfl) (.cons (o := .arr 2 (b3.syms.map xm)) rfl (hr 2 _ _ rfl rfl) (.cons (o := .spare b3.marks.length) rfl (hr 3 _ _ rfl rfl)
       (.cons (o := .arr 1 (b3.shut.map yZ ++ [.sl 2 (b3.cur.map yw) (some 8)])) rfl (hr 4 _ _ rfl rfl) (.cons (o := .dead) rfl rfl (.cons (o := .spare b3.cur.length) rfl rfl .nil))))))
theorem kD {n k : Int} (h : 0 < k) : upA n k ≤ n + k - 1 ∧ n ≤ upA n k := by
 unfold upA
 have h1 := Int.ediv_mul_le (n + k - 1) (b := k) (by omega)
 have h2 := Int.lt_ediv_add_one_mul_self (n + k - 1) h
 rw [Int.add_mul, Int.one_mul] at h2
 omega
theorem zb9 : za Tryz.prog zss (zz (fun ((n, k) : Int × Int) => 0 ≤ n ∧ n ≤ 1000000000000000 ∧ 0 < k ∧ k ≤ 1000000) (fun (n, k) => [.int .i64 n, .int .i64 k]) fun (n, k) => .int .i64 (upA n k)) := by
 refine ze zi Tryz.func125 rfl (by decide) ?_
 rintro ⟨n, k⟩ ⟨h1, h2, h3, h4⟩
 have h1 : 0 ≤ n := h1
 have h2 : n ≤ 1000000000000000 := h2
 have h3 : 0 < k := h3
 have h4 : k ≤ 1000000 := h4
 have hu := kD (n := n) h3
 refine ⟨Nat.le_refl _, by simp [Tryz.f125], fun E hE => ?_⟩
 refine zb _ ?_
 (all_goals refine qgp (Lf.mk ?_))
 refine qK (show -9223372036854775808 ≤ upA n k by omega) (show upA n k ≤ 9223372036854775807 by omega) ?_
 (all_goals refine qgp (Lf.mk ?_))
 exact zf (VS.mk (LeD.refl _))
def wi (pools : List (List zq)) (x : zD) : Prop := (x.kind = 8 → 0 < x.size ∧ x.size ≤ 16) ∧ (x.kind = 7 → 0 < x.size ∧ x.size ≤ 4) ∧ (x.kind = 9 → 0 ≤ x.pool ∧ x.pool < pools.length) ∧ ∀ p ∈ pools, p.length ≤ 1000000
theorem zp8 : za Tryz.prog zaO (z1 (fun ((b, k, x, a, _) : Bld × Nat × zD × Int × List zj) => b.has = false ∧ b.items[k]? = some x ∧ wi b.shut x ∧ 0 ≤ a ∧ a ≤ 100000000000000) (fun (b, k, _, a, _) => [.loc 0 0, .aloc 1 b.items.length k 0, .int .i64 a])
  (fun (b, _, _, _, q) => bO q b) (fun (b, _, x, a, _) => .int .i64 (xo b.shut x a)) fun (b, _, _, _, q) => bO q b) := by
 refine ze zi Tryz.func159 rfl (by decide) ?_
 rintro ⟨⟨items, syms, marks, shut, has, cur, fe, fa⟩, k, x, a, q⟩ ⟨hh, hx, ⟨hs1, hs2, hs3, hs4⟩, ha0, ha1⟩
 have hh : has = false := hh
 subst hh
 have hx : items[k]? = some x := hx
 have hs3 : x.kind = 9 → 0 ≤ x.pool ∧ x.pool < shut.length := hs3
 have hs4 : ∀ p ∈ shut, p.length ≤ 1000000 := hs4
 have ha0 : 0 ≤ a := ha0
 have ha1 : a ≤ 100000000000000 := ha1
 refine ⟨Nat.le_refl _, by simp [Tryz.f159], fun E hE => ?_⟩
 refine zb _ ?_
 (all_goals refine qgp (Lf.mk ?_))
 have hxn : items[((k : Nat) : Int).toNat]? = some x := by rw [Int.toNat_natCast]; exact hx
 have hz : xo shut x a = if x.kind = 2 ∧ x.long = true then 6 else if x.kind = 7 then x.size else if x.kind = 8 then upA a x.size - a else if x.kind = 9 then upA a 4 - a + 4 * zdf shut x.pool else 2 := rfl
 have hu4 := kD (n := a) (k := 4) (by decide)
 show yb (items.map xa) _ _
 refine zk x (Int.natCast_nonneg k) hxn ?_
 (all_goals refine qgp ?_ <;> (repeat' first | exact trivial | intro hc | refine And.intro ?_ ?_) <;> refine Lf.mk ?_)
 ·refine zk x (Int.natCast_nonneg k) hxn ?_
  (all_goals refine qgp ?_ <;> (repeat' first | exact trivial | intro hc | refine And.intro ?_ ?_) <;> refine Lf.mk ?_)
  ·refine yM ?_ rfl
   show D.int .i64 6 = D.int .i64 (xo shut x a)
   rw [hz, if_pos ⟨by assumption, by assumption⟩]
  ·refine yM ?_ rfl
   show D.int .i64 2 = D.int .i64 (xo shut x a)
   rw [hz, if_neg (fun h => by simp_all), if_neg (by omega), if_neg (by omega), if_neg (by omega)]
 ·refine zk x (Int.natCast_nonneg k) hxn ?_
  (all_goals refine qgp (Lf.mk ?_))
  refine yM ?_ rfl
  show D.int .i64 x.size = D.int .i64 (xo shut x a)
  rw [hz, if_neg (by omega), if_pos hc]
 ·have h8 := hs1 hc
  have hu := kD (n := a) h8.1
  refine zk x (Int.natCast_nonneg k) hxn ?_
  (all_goals refine qgp (Lf.mk ?_))
  refine zd zb9 (a, x.size) ⟨ha0, by show a ≤ _; omega, h8.1, by show x.size ≤ _; omega⟩ (VS.mk (LeL.of_eq rfl)) ?_
  (all_goals refine qgp (Lf.mk ?_))
  refine yM ?_ rfl
  show D.int .i64 (upA a x.size - a) = D.int .i64 (xo shut x a)
  rw [hz, if_neg (by omega), if_neg (by omega), if_pos hc]
 ·have h9 := hs3 hc
  refine zd zb9 (a, 4) ⟨ha0, by show a ≤ _; omega, by decide, by decide⟩ (VS.mk (LeL.of_eq rfl)) ?_
  (all_goals refine qgp (Lf.mk ?_))
  refine zk x (Int.natCast_nonneg k) hxn ?_
  (all_goals refine qgp (Lf.mk ?_))
  have hpl : (zF ⟨items, syms, marks, shut, false, cur, fe, fa⟩).length = shut.length := by unfold zF; simp
  refine yY ⟨h9.1, by rw [hpl]; exact h9.2⟩ ?_
  (all_goals refine qgp (Lf.mk ?_))
  have hp : ((shut[x.pool.toNat]?).getD []).length ≤ 1000000 := by
   cases hg : shut[x.pool.toNat]? with
   | none => simp
   | some p => exact hs4 p (List.mem_of_getElem? hg)
  (all_goals refine qgp (Lf.mk ?_))
  have hgp : (zF ⟨items, syms, marks, shut, false, cur, fe, fa⟩)[((0 + x.pool.toNat : Nat) : Int).toNat]? = some (yZ ((shut[x.pool.toNat]?).getD [])) := by
   have hlt : x.pool.toNat < shut.length := by omega
   rw [Int.toNat_natCast, Nat.zero_add]
   unfold zF
   simp [List.getElem?_eq_getElem hlt]
  refine wJ (Int.natCast_nonneg _) hgp ?_
  (all_goals refine qgp (Lf.mk ?_))
  refine yM ?_ rfl
  show _ = D.int .i64 (xo shut x a)
  rw [hz, if_neg (by omega), if_neg (by omega), if_neg (by omega), if_pos hc]
  rfl
 ·refine yM ?_ rfl
  show D.int .i64 2 = D.int .i64 (xo shut x a)
  rw [hz, if_neg (by omega), if_neg (by omega), if_neg (by omega), if_neg (by omega)]
attribute [local irreducible] xo
theorem zec (pools : List (List zq)) : ∀ (l : List zD) (a : Int), (yB pools l a).1.length = l.length
 | [], a => rfl
 | x :: l, a => by rw [yB]; simp [zec pools l]
theorem zjp {pools : List (List zq)} {x : zD} {a : Int} (h : wi pools x) (h0 : 0 ≤ a) : 0 ≤ xo pools x a ∧ xo pools x a ≤ 5000000 := by
 obtain ⟨h8, h7, h9, hp⟩ := h
 have hu4 := kD (n := a) (k := 4) (by decide)
 have hl : zdf pools x.pool ≤ 1000000 ∧ 0 ≤ zdf pools x.pool := by
  unfold zdf
  cases hg : pools[x.pool.toNat]? with
  | none => simp
  | some p => have := hp p (List.mem_of_getElem? hg); simp; omega
 unfold xo
 split
 ·omega
 split
 ·rename_i h; have := h7 h; omega
 split
 ·rename_i h
  have := h8 h
  have hu := kD (n := a) this.1
  omega
 split
 ·omega
 ·omega
theorem zoW {α : Type} {f : α → D} {a b : List α} {x : α} (y : α) {k : Nat} (hk : a.length = k) {d : D} (hd : d = f y) : ((a ++ x :: b).map f).set (0 + ((k : Nat) : Int).toNat) d = ((a ++ [y]) ++ b).map f := by
 subst hd; subst hk
 rw [Nat.zero_add, Int.toNat_natCast, List.map_append, List.set_append_right _ _ (by simp)]
 simp
theorem zdg {α : Type} {a b : List α} {x : α} {k : Nat} (hk : a.length = k) : (a ++ x :: b)[k]? = some x := by
 subst hk
 rw [List.getElem?_append_right (Nat.le_refl _)]
 simp
theorem zf7 {q : List zj} {b b' : Bld} (h1 : b.items.length = b'.items.length) (h2 : b.syms.length = b'.syms.length) (h3 : b.marks = b'.marks) (h4 : zF b = zF b') (h5 : b.shut = b'.shut) (h6 : b.fe = b'.fe) (h7 : b.fa = b'.fa) : bC q b = bC q b' := by
 unfold bC
 rw [h1, h2, h3, h4, h5, h6, h7]
theorem zrL {av : List D} {L : List Ob} {KP : D → Prop} {KW : D → List Ob → Prop} (q : List zj) (b : Bld) (k : Nat) (x : zD) (a : Int) (hh : b.has = false) (hx : b.items[k]? = some x) (hs : wi b.shut x) (h0 : 0 ≤ a) (h1 : a ≤ 100000000000000) (hL : L = bO q b)
  (has : av = [.loc 0 0, .aloc 1 b.items.length k 0, .int .i64 a]) (hK : KW (.int .i64 (xo b.shut x a)) (bO q b)) : zo Tryz.prog zaO av L KP KW := by
 subst has
 exact zbV zp8 (b, k, x, a, q) ⟨hh, hx, hs, h0, h1⟩ hL (LeL.refl _) hK
theorem zhd {α : Type} {f : α → D} {a b : List α} {x : α} (y : α) {k : Nat} (hk : a.length = k) {d : D} (hd : d = f y) : ((a ++ x :: b).map f).set (0 + ((k : Nat) : Int).toNat) d = (a ++ y :: b).map f := by
 rw [zoW y hk hd, List.append_assoc]; rfl
theorem zgx (items : List zD) (e : Int) : ∀ (ss : List zZ) (ms : List Int) (s : zZ) (m : Int), ss.length = ms.length → wz items e (ss ++ [s]) (ms ++ [m]) = wz items e ss ms ++ [⟨s.name, zb5 items e m⟩]
 | [], [], s, m, _ => rfl
 | a :: ss, b :: ms, s, m, h => by
  show _ :: wz items e (ss ++ [s]) (ms ++ [m]) = _ :: (wz items e ss ms ++ _)
  rw [zgx items e ss ms s m (by simpa using h)]
 | [], _ :: _, _, _, h => by simp at h
 | _ :: _, [], _, _, h => by simp at h
theorem zbp (items : List zD) (e : Int) : ∀ (ss : List zZ) (ms : List Int), (wz items e ss ms).length = ss.length
 | [], _ => by rw [wz]; intro _ _ _ _ h; cases h
 | s :: ss, [] => rfl
 | s :: ss, m :: ms => by rw [wz, List.length_cons, zbp items e ss ms, List.length_cons]
theorem zn2 : za Tryz.prog jO (z1 (fun ((b, _) : Bld × List zj) => b.has = false ∧ (∀ x ∈ b.items, wi b.shut x) ∧ b.items.length ≤ 1000000 ∧ b.marks.length = b.syms.length ∧ b.marks.length ≤ 1000000 ∧ ∀ m ∈ b.marks, 0 ≤ m) (fun _ => [.loc 0 0])
  (fun (b, q) => bO q b) (fun (b, _) => .int .i64 (yB b.shut b.items 0).2) fun (b, q) => bO q { b with items := (yB b.shut b.items 0).1, syms := wz (yB b.shut b.items 0).1 (yB b.shut b.items 0).2 b.syms b.marks }) := by
 refine ze zi Tryz.func120 rfl (by decide) ?_
 rintro ⟨⟨items, syms, marks, shut, has, cur, fe, fa⟩, q⟩ ⟨hh, hsz, hil, hms, hml, hm0⟩
 have hh : has = false := hh
 subst hh
 have hsz : ∀ x ∈ items, wi shut x := hsz
 have hil : items.length ≤ 1000000 := hil
 have hms : marks.length = syms.length := hms
 have hml : marks.length ≤ 1000000 := hml
 have hm0 : ∀ m ∈ marks, 0 ≤ m := hm0
 refine ⟨Nat.le_refl _, by simp [Tryz.f120], fun E hE => ?_⟩
 have hE6 : E.L.length = 6 := by rw [hE]; rfl
 show AWP _ _ _ _ (vV _ _ _ (.int .i64 (yB shut items 0).2) (bO q ⟨(yB shut items 0).1, wz (yB shut items 0).1 (yB shut items 0).2 syms marks, marks, shut, false, cur, fe, fa⟩)) _ (bO q ⟨items, syms, marks, shut, false, cur, fe, fa⟩)
 have hPl := zec shut items 0
 generalize hP : yB shut items 0 = P at *
 obtain ⟨PI, PE⟩ := P
 dsimp only at hPl ⊢
 refine zb _ ?_
 (all_goals refine qgp (Lf.mk ?_))
 refine z7 (α := Nat × Int) (fun p => p.1 ≤ items.length ∧ yB shut (items.drop p.1) p.2 = (PI.drop p.1, PE) ∧ 0 ≤ p.2 ∧ p.2 ≤ 5000000 * (p.1 : Int)) (fun p => [(0, .loc 0 0), (3, .int .i64 p.2), (11, .int .i64 items.length), (12, .int .i64 p.1)])
  (fun p => bO q ⟨PI.take p.1 ++ items.drop p.1, syms, marks, shut, false, cur, fe, fa⟩) (fun p => items.length - p.1) (fun _ => by rw [hE6]; exact Nat.le_refl 6) (0, 0) ⟨Nat.zero_le _, hP, Int.le_refl 0, by simp⟩ ?_ ?_
 ·exact zX rfl ⟨rfl, rfl, rfl, rfl, trivial⟩
 rintro ⟨k, a⟩ ⟨i1, i2, i3, i4⟩
 dsimp only at i1 i2 i3 i4 ⊢
 have hlen : (PI.take k ++ items.drop k).length = items.length := by rw [List.length_append, List.length_take, List.length_drop]; omega
 refine zb _ ?_
 (all_goals refine qgp ?_ <;> (repeat' first | exact trivial | intro hc | refine And.intro ?_ ?_) <;> refine Lf.mk ?_)
 ·have hkl : k < items.length := by omega
  obtain ⟨x, hx⟩ := yi (l := items) (k := k) (by omega)
  have hgx : items[k] = x := by rw [List.getElem?_eq_getElem hkl] at hx; exact Option.some.inj hx
  have hxs := hsz x (List.mem_of_getElem? hx)
  have hsl := zjp (a := a) hxs i3
  rw [List.drop_eq_getElem_cons hkl, hgx, yB] at i2
  obtain ⟨e1, e2⟩ := Prod.mk.inj i2
  have hkP : k < PI.length := by omega
  rw [List.drop_eq_getElem_cons hkP] at e1
  obtain ⟨e3, e4⟩ := List.cons.inj e1
  have hnext : yB shut (items.drop (k + 1)) (a + xo shut x a) = (PI.drop (k + 1), PE) := by rw [← e4, ← e2]
  have htake : PI.take (k + 1) = PI.take k ++ [{ x with at_ := a }] := by rw [List.take_succ_eq_append_getElem hkP, ← e3]
  have hlk : (PI.take k).length = k := by rw [List.length_take]; omega
  have hdrop : items.drop k = x :: items.drop (k + 1) := by rw [List.drop_eq_getElem_cons hkl, hgx]
  have hmid := zdg (a := PI.take k) (b := items.drop (k + 1)) (x := x) hlk
  have hlen2 : (PI.take (k + 1) ++ items.drop (k + 1)).length = items.length := by rw [List.length_append, List.length_take, List.length_drop]; omega
  rw [hdrop] at hlen ⊢
  refine zk x (Int.natCast_nonneg _) (by rw [Int.toNat_natCast, Nat.zero_add, Int.toNat_natCast]; exact hmid) ?_
  (all_goals refine qgk (Lf.mk ?_))
  refine yV ((PI.take (k + 1) ++ items.drop (k + 1)).map xa) (by rw [htake]; exact zoW { x with at_ := a } hlk rfl) ?_
  (all_goals refine qgk (Lf.mk ?_))
  have hb : (PI.take k ++ x :: items.drop (k + 1)).length = (PI.take (k + 1) ++ items.drop (k + 1)).length := by rw [hlen, hlen2]
  have hx2 : (PI.take (k + 1) ++ items.drop (k + 1))[k]? = some { x with at_ := a } := by rw [htake, List.append_assoc]; exact zdg hlk
  have hs2 : xo shut { x with at_ := a } a = xo shut x a := by unfold xo; rfl
  refine zrL q ⟨PI.take (k + 1) ++ items.drop (k + 1), syms, marks, shut, false, cur, fe, fa⟩ k { x with at_ := a } a rfl hx2 hxs i3 (by omega) ?_ ?_ ?_
  ·exact congrArg (fun c => Ob.cells c :: bT ⟨PI.take (k + 1) ++ items.drop (k + 1), syms, marks, shut, false, cur, fe, fa⟩) (zf7 hb rfl rfl rfl rfl rfl rfl)
  ·show [D.loc 0 0, .aloc 1 (PI.take k ++ x :: items.drop (k + 1)).length (0 + ((k : Nat) : Int).toNat) 0, .int .i64 a] = _
   rw [hb, Nat.zero_add, Int.toNat_natCast]
  rw [show xo (Bld.shut ⟨PI.take (k + 1) ++ items.drop (k + 1), syms, marks, shut, false, cur, fe, fa⟩) { x with at_ := a } a = xo shut x a from hs2]
  (all_goals refine qgp (Lf.mk ?_))
  exact zR (k + 1, a + xo shut x a) ⟨by show k + 1 ≤ _; omega, hnext, by dsimp only; omega, by dsimp only; omega⟩ (by dsimp only; omega) rfl ⟨rfl, rfl, rfl, rfl, trivial⟩
 ·have hk : k = items.length := by omega
  rw [hk, List.drop_length, yB] at i2
  obtain ⟨e1, e2⟩ := Prod.mk.inj i2
  have hI : PI.take k ++ items.drop k = PI := by rw [hk, List.drop_length, List.append_nil, ← hPl, List.take_length]
  rw [hI] at hlen ⊢
  subst e2
  clear e1 i2
  refine z7 (α := Nat) (fun j => j ≤ marks.length) (fun j => [(0, .loc 0 0), (3, .int .i64 a), (38, .sl 1 (marks.map (.int .i64)) none), (39, .int .i64 marks.length), (40, .int .i64 j)])
   (fun j => bO q ⟨PI, wz PI a (syms.take j) (marks.take j) ++ syms.drop j, marks, shut, false, cur, fe, fa⟩) (fun j => marks.length - j) (fun _ => by rw [hE6]; exact Nat.le_refl 6) 0 (Nat.zero_le _) ?_ ?_
  ·refine zg3 rfl ⟨.refl _, .refl _, .strip _ _ _, .refl _, .refl _, trivial⟩
  intro j hj
  have hj : j ≤ marks.length := hj
  refine zb _ ?_
  have hSl : (wz PI a (syms.take j) (marks.take j)).length = j := by rw [zbp, List.length_take]; omega
  (all_goals refine qgp ?_ <;> (repeat' first | exact trivial | intro hc | refine And.intro ?_ ?_) <;> refine Lf.mk ?_)
  ·have hjm : j < marks.length := by omega
   have hjs : j < syms.length := by omega
   obtain ⟨m, hm⟩ := yi (l := marks) (k := j) (by omega)
   obtain ⟨s, hs⟩ := yi (l := syms) (k := j) (by omega)
   have hgm : marks[j] = m := by rw [List.getElem?_eq_getElem hjm] at hm; exact Option.some.inj hm
   have hgs : syms[j] = s := by rw [List.getElem?_eq_getElem hjs] at hs; exact Option.some.inj hs
   have hm0 := hm0 m (List.mem_of_getElem? hm)
   have hdrop : syms.drop j = s :: syms.drop (j + 1) := by rw [List.drop_eq_getElem_cons hjs, hgs]
   have hsn : wz PI a (syms.take (j + 1)) (marks.take (j + 1)) = wz PI a (syms.take j) (marks.take j) ++ [⟨s.name, zb5 PI a m⟩] := by
    rw [List.take_succ_eq_append_getElem hjs, List.take_succ_eq_append_getElem hjm, hgs, hgm]
    exact zgx _ _ _ _ _ _ (by rw [List.length_take, List.length_take]; omega)
   generalize wz PI a (syms.take j) (marks.take j) = SJ at *
   rw [hdrop]
   refine zk m (by omega) (by simpa using hm) ?_
   have hlen3 : (SJ ++ s :: syms.drop (j + 1)).length = syms.length := by rw [List.length_append, List.length_cons, List.length_drop]; omega
   have hmid := zdg (a := SJ) (b := syms.drop (j + 1)) (x := s) hSl
   (all_goals refine qgk (Lf.mk ?_))
   refine zk s (Int.natCast_nonneg _) (by rw [Int.toNat_natCast, Nat.zero_add, Int.toNat_natCast]; exact hmid) ?_
   (all_goals refine qgk (Lf.mk ?_))
   refine yV ((SJ ++ (⟨s.name, a⟩ : zZ) :: syms.drop (j + 1)).map xm) (zhd ⟨s.name, a⟩ hSl rfl) ?_
   (all_goals refine qgk ?_ <;> (repeat' first | exact trivial | intro hc | refine And.intro ?_ ?_) <;> refine Lf.mk ?_)
   ·have hmn : m.toNat < PI.length := by omega
    have hmk : zb5 PI a m = (itA PI m).at_ := by unfold zb5; rw [if_pos hc]
    have hit : PI[m.toNat]? = some (itA PI m) := by unfold itA; rw [List.getElem?_eq_getElem hmn]; rfl
    have hmid2 := zdg (a := SJ) (b := syms.drop (j + 1)) (x := (⟨s.name, a⟩ : zZ)) hSl
    refine zk (itA PI m) (Int.natCast_nonneg _) (by rw [Int.toNat_natCast, Nat.zero_add]; exact hit) ?_
    (all_goals refine qgk (Lf.mk ?_))
    refine zk (⟨s.name, a⟩ : zZ) (Int.natCast_nonneg _) (by rw [Int.toNat_natCast, Nat.zero_add, Int.toNat_natCast]; exact hmid2) ?_
    (all_goals refine qgk (Lf.mk ?_))
    refine yV ((SJ ++ (⟨s.name, (itA PI m).at_⟩ : zZ) :: syms.drop (j + 1)).map xm) (zhd ⟨s.name, (itA PI m).at_⟩ hSl rfl) ?_
    (all_goals refine qgk (Lf.mk ?_))
    refine zR (j + 1) (by show j + 1 ≤ _; omega) (by omega) ?_ ⟨rfl, rfl, rfl, rfl, rfl, trivial⟩
    dsimp only
    rw [hsn, hmk, List.append_assoc]
    exact congrArg (fun c => Ob.cells c :: bT ⟨PI, SJ ++ (⟨s.name, (itA PI m).at_⟩ : zZ) :: syms.drop (j + 1), marks, shut, false, cur, fe, fa⟩) (zf7 rfl (by simp) rfl rfl rfl rfl rfl)
   ·have hmk : zb5 PI a m = a := by unfold zb5; rw [if_neg hc]
    refine zR (j + 1) (by show j + 1 ≤ _; omega) (by omega) ?_ ⟨rfl, rfl, rfl, rfl, rfl, trivial⟩
    dsimp only
    rw [hsn, hmk, List.append_assoc]
    exact congrArg (fun c => Ob.cells c :: bT ⟨PI, SJ ++ (⟨s.name, a⟩ : zZ) :: syms.drop (j + 1), marks, shut, false, cur, fe, fa⟩) (zf7 rfl (by simp) rfl rfl rfl rfl rfl)
  ·have hj2 : j = marks.length := by omega
   rw [hj2, List.take_length, hms, List.take_length, List.drop_length, List.append_nil]
   exact yM rfl rfl
attribute [local irreducible] xE
theorem zmO {n : Int} {K : D → Prop} (h : K (.int .i64 (w64 n))) : zN .i64 n K := by unfold zN; exact h
theorem zvN {x y : Int} {K : D → Prop} (hy : y ≠ 0) (h : K (.int .i64 (x.tmod y))) : yy .i64 x y K := by unfold yy; exact ⟨hy, h⟩
theorem zvO {x y : Int} {K : D → Prop} (hy : y ≠ 0) (h : K (.int .i64 (w64 (x.tdiv y)))) : yx .i64 x y K := by unfold yx; exact ⟨hy, h⟩
theorem zem : za Tryz.prog vN (z1 (fun _ : zZ × zq => True) (fun (s, _) => [xm s, .loc 0 0]) (fun (_, v) => [.cells [.str v.name, .int .i64 v.n]]) (fun (s, v) => .bool (s.name == v.name))
  fun (_, v) => [.cells [.str v.name, .int .i64 v.n]]) := by
 refine ze zi Tryz.func160 rfl (by decide) ?_
 rintro ⟨s, v⟩ _
 refine ⟨Nat.le_refl _, by simp [Tryz.f160], fun E hE => ?_⟩
 refine zb _ ?_
 (all_goals refine qgo (Lf.mk ?_))
 exact xc [.cells [.str v.name, .int .i64 v.n]] [_] rfl (Nat.le_refl 1) .bool (by intro o ho; rw [List.mem_singleton] at ho; subst ho; exact .cells (.cons .str (.cons .int .nil)))
theorem zmP : za Tryz.prog wR (z1 (fun ((b, _, _) : Bld × zq × List zj) => b.syms.length ≤ 1000000) (fun (_, v, _) => [.loc 0 0, yw v])
  (fun (b, _, q) => bO q b) (fun (b, v, _) => .tup [.int .i64 (zS b.syms v).1, .int .i64 (zS b.syms v).2]) fun (b, _, q) => bO q b) := by
 refine ze zi Tryz.func121 rfl (by decide) ?_
 rintro ⟨b, v, q⟩ hl
 have hl : b.syms.length ≤ 1000000 := hl
 refine ⟨Nat.le_refl _, by simp [Tryz.f121], fun E hE => ?_⟩
 show AWP _ _ _ _ (vV _ _ _ (.tup [.int .i64 (zS b.syms v).1, .int .i64 (zS b.syms v).2]) (bO q b)) _ (bO q b)
 have hT : zS b.syms v = if v.name = [] then (0, 8) else if zjm v.name b.syms 0 < 0 then (0, 6) else (w64 ((zb6 b.syms (zjm v.name b.syms 0)).at_ + v.n), 0) := rfl
 generalize zS b.syms v = T at *
 refine zb _ ?_
 (all_goals refine qgp ?_ <;> (repeat' first | exact trivial | intro hc | refine And.intro ?_ ?_) <;> refine Lf.mk ?_)
 ·rw [if_pos hc] at hT
  subst hT
  exact zO [_] rfl rfl rfl (Nat.le_of_eq rfl) (.tup (.cons .int (.cons .int .nil)))
 rw [if_neg hc] at hT
 refine zhc vN [.loc 6 0] (fun s => s.name == v.name) b.syms (.cells (bC q b)) (.arr 13 (b.items.map xa)) [.spare b.marks.length, .arr 1 (zF b), zcZ b, .cells [.str v.name, .int .i64 v.n]] (by omega) rfl rfl
  (fun s hs KP KW hK => ?_) ?_
 ·exact ye zem [6] [6] (s, v) trivial rfl rfl ⟨VS.mk (LeL.refl _), VS.mk rfl, hK⟩
 have hp := zbo (fun s : zZ => s.name == v.name) b.syms 0
 have hT : T = if y6 (fun s : zZ => s.name == v.name) b.syms 0 < 0 then (0, 6) else (w64 ((zb6 b.syms (y6 (fun s : zZ => s.name == v.name) b.syms 0)).at_ + v.n), 0) := hT
 generalize y6 (fun s : zZ => s.name == v.name) b.syms 0 = p at *
 (all_goals refine qgp ?_ <;> (repeat' first | exact trivial | intro hc | refine And.intro ?_ ?_) <;> refine Lf.mk ?_)
 ·rw [if_pos hc] at hT
  subst hT
  exact zO [_] rfl rfl rfl (Nat.le_of_eq rfl) (.tup (.cons .int (.cons .int .nil)))
 have hpl : p.toNat < b.syms.length := by
  rcases hp with h | ⟨j, h1, h2⟩
  ·omega
  ·rw [h2, Int.toNat_natCast, Nat.zero_add]; exact h1
 have hs : b.syms[p.toNat]? = some (zb6 b.syms p) := by unfold zb6; rw [List.getElem?_eq_getElem hpl]; rfl
 rw [if_neg hc] at hT
 refine zk (zb6 b.syms p) (Int.natCast_nonneg _) (by rw [Int.toNat_natCast, Nat.zero_add]; exact hs) ?_
 (all_goals refine qgp (Lf.mk ?_))
 refine zmO ?_
 (all_goals refine qgp (Lf.mk ?_))
 subst hT
 exact zO [_] rfl rfl rfl (Nat.le_of_eq rfl) (.tup (.cons .int (.cons .int .nil)))
theorem zrM : ∀ i : Fin 64, (~~~ (3#64)).getLsbD i = decide (2 ≤ i.1) := by decide
theorem zum (x : BitVec 64) : x &&& ~~~ (3#64) = (x >>> 2) <<< 2 := by
 apply BitVec.eq_of_getLsbD_eq
 intro i hi
 rw [BitVec.getLsbD_and, zrM ⟨i, hi⟩, BitVec.getLsbD_shiftLeft, BitVec.getLsbD_ushiftRight]
 by_cases h : 2 ≤ i
 ·simp [h, hi, show ¬ i < 2 by omega, show 2 + (i - 2) = i by omega]
 ·simp [h, show i < 2 by omega]
theorem zvk {n : Int} (h0 : 0 ≤ n) (h1 : n ≤ 9223372036854775807) : zT .andNot .i64 n 3 = n - n % 4 := by
 obtain ⟨a, rfl⟩ := Int.eq_ofNat_of_zero_le h0
 have ha : a ≤ 9223372036854775807 := by omega
 unfold zT
 have e : (BitVec.ofInt IntKind.i64.bits (a : Int) &&& ~~~ BitVec.ofInt IntKind.i64.bits 3).toNat = a / 4 * 4 := by
  have e2 : BitVec.ofInt IntKind.i64.bits (a : Int) = BitVec.ofNat 64 a := rfl
  rw [e2]
  show (BitVec.ofNat 64 a &&& ~~~ (3#64)).toNat = _
  rw [zum, BitVec.toNat_shiftLeft, BitVec.toNat_ushiftRight, BitVec.toNat_ofNat, Nat.mod_eq_of_lt (by omega : a < 2 ^ 64), Nat.shiftRight_eq_div_pow, Nat.shiftLeft_eq]
  omega
 show IntKind.i64.wrap ((_ : Nat) : Int) = _
 rw [e, kQ (by omega) (by omega)]
 omega
theorem zs1 (op : Int) : ∃ s : List UInt8, jD op = .tup [.str s, .int .i64 (zb7 op)] := by
 unfold jD zb7
 cases xE op with
 | none => exact ⟨[], rfl⟩
 | some r => exact ⟨r.name, rfl⟩
theorem ziq : za Tryz.prog zpI (zz (fun ((_, a, _) : Int × Int × Int) => 0 ≤ a ∧ a ≤ 1000000000000000) (fun (op, a, to) => [.int .i64 op, .int .i64 a, .int .i64 to])
  fun (op, a, to) => .tup [.int .i64 (wg op a to).1, .int .i64 (wg op a to).2]) := by
 refine ze zi Tryz.func122 rfl (by decide) ?_
 rintro ⟨op, a, to⟩ ⟨h0, h1⟩
 have h0 : 0 ≤ a := h0
 have h1 : a ≤ 1000000000000000 := h1
 refine ⟨Nat.le_refl _, by simp [Tryz.f122], fun E hE => ?_⟩
 show AWP _ _ _ _ (vV _ _ _ (.tup [.int .i64 (wg op a to).1, .int .i64 (wg op a to).2]) []) _ []
 have hA : wg op a to = if (w64 (to - zcA op a)).tmod (ofA op) ≠ 0 then (0, 11)
  else if zea op a to < zcY (zb7 op) ∨ zaq (zb7 op) < zea op a to then (zea op a to, 3) else (zea op a to, 0) := rfl
 have hF : zea op a to = w64 ((w64 (to - zcA op a)).tdiv (ofA op)) := rfl
 obtain ⟨s, hI⟩ := zs1 op
 have hof : ofA op ≠ 0 := by unfold ofA; split <;> decide
 generalize wg op a to = A at *
 generalize zb7 op = sh at *
 refine xv (zb _ ?_)
 (all_goals refine qgp (Lf.mk ?_))
 refine xv (zb _ ?_)
 (all_goals refine qgp (Lf.mk ?_))
 refine j7 (α := Unit) (fun _ => True) (fun _ => [(0, .int .i64 op), (1, .int .i64 a), (2, .int .i64 to), (8, .int .i64 (zcA op a)), (9, .int .i64 (ofA op))]) (fun _ => []) ?_ ?_
 ·refine zb _ ?_
  (all_goals refine qgp ?_ <;> (repeat' first | exact trivial | intro hc | refine And.intro ?_ ?_) <;> refine Lf.mk ?_)
  ·refine wK (zvk (by omega) (by omega)) ?_
   (all_goals refine qgp (Lf.mk ?_))
   refine ⟨(), trivial, zX rfl ⟨rfl, rfl, rfl, ?_, ?_, trivial⟩⟩
   ·show D.int .i64 (a + 4 - (a + 4) % 4) = _
    unfold zcA; rw [if_pos hc]
   ·show D.int .i64 4 = _
    unfold ofA; rw [if_pos hc]
  ·refine ⟨(), trivial, zX rfl ⟨rfl, rfl, rfl, ?_, ?_, trivial⟩⟩
   ·show D.int .i64 (a + 4) = _
    unfold zcA; rw [if_neg hc]
   ·show D.int .i64 2 = _
    unfold ofA; rw [if_neg hc]
 ·rintro _ _
  refine zb _ ?_
  generalize zcA op a = fr at *
  generalize ofA op = o at *
  (all_goals refine qgp (Lf.mk ?_))
  refine zmO ?_
  (all_goals refine qgp (Lf.mk ?_))
  refine zvN hof ?_
  (all_goals refine qgp ?_ <;> (repeat' first | exact trivial | intro hc | refine And.intro ?_ ?_) <;> refine Lf.mk ?_)
  ·rw [if_pos hc] at hA
   subst hA
   exact zf (VS.mk (LeD.refl _))
  ·rw [if_neg (fun h => h hc)] at hA
   refine zmO ?_
   (all_goals refine qgp (Lf.mk ?_))
   refine zvO hof ?_
   (all_goals refine qgp (Lf.mk ?_))
   refine zd zd5 op trivial (VS.mk (LeL.of_eq rfl)) ?_
   rw [hI]
   rw [← hF]
   (all_goals refine qgp (Lf.mk ?_))
   refine zd zgu sh trivial (VS.mk (LeL.of_eq rfl)) ?_
   (all_goals refine qgp ?_ <;> (repeat' first | exact trivial | intro hc | refine And.intro ?_ ?_) <;> refine Lf.mk ?_)
   ·rw [if_pos (.inl hc)] at hA
    subst hA
    exact zf (VS.mk (LeD.refl _))
   ·rw [if_pos (.inr hc)] at hA
    subst hA
    exact zf (VS.mk (LeD.refl _))
   ·rw [if_neg (by omega)] at hA
    subst hA
    exact zf (VS.mk (LeD.refl _))
attribute [local irreducible] wg zS
structure jF (shut : List (List zq)) (marks : List Int) (s : Lay) : Prop where
 size : ∀ x ∈ s.items, wi shut x
 items : s.items.length ≤ 1000000
 len : marks.length = s.syms.length
 marksl : marks.length ≤ 1000000
 pos : ∀ m ∈ marks, 0 ≤ m
theorem zfl {pools : List (List zq)} : ∀ (l : List zD) (a : Int), 0 ≤ a → (∀ x ∈ l, wi pools x) → ∀ x ∈ (yB pools l a).1, wi pools x ∧ 0 ≤ x.at_ ∧ x.at_ ≤ a + 5000000 * (l.length : Int)
 | [], a, h0, _, x, hx => by cases hx
 | y :: l, a, h0, hs, x, hx => by
  have hy := hs y List.mem_cons_self
  have hz := zjp (a := a) hy h0
  rw [yB] at hx
  rcases List.mem_cons.1 hx with rfl | hx
  ·exact ⟨hy, h0, by dsimp only; simp only [List.length_cons]; omega⟩
  ·obtain ⟨h1, h2, h3⟩ := zfl l (a + xo pools y a) (by omega) (fun z hz => hs z (List.mem_cons_of_mem _ hz)) x hx
   exact ⟨h1, h2, by simp only [List.length_cons]; omega⟩
theorem zca (pools : List (List zq)) : ∀ (l : List zD) (a : Int), wA (yB pools l a).1 = wA l
 | [], a => rfl
 | x :: l, a => by
  have ih := zca pools l (a + xo pools x a)
  unfold wA at ih ⊢
  rw [yB, List.filter_cons, List.filter_cons]
  split
  ·rw [List.length_cons, List.length_cons, ih]
  ·exact ih
theorem zrN {pools : List (List zq)} {syms : List zZ} {x : zD} (h : wi pools x) : wi pools (xb syms x) := by
 unfold xb
 split
 ·exact h
 ·exact h
theorem zed (syms : List zZ) : ∀ l : List zD, wA (l.map (xb syms)) ≤ wA l ∧ (l.any (x5 syms) = true → wA (l.map (xb syms)) < wA l)
 | [] => ⟨Nat.le_refl _, fun h => by cases h⟩
 | x :: l => by
  obtain ⟨h1, h2⟩ := zed syms l
  unfold wA at h1 h2 ⊢
  rw [List.map_cons, List.filter_cons, List.filter_cons, List.any_cons]
  cases hm : x5 syms x with
  | true =>
   have hs : x.kind = 2 ∧ x.long = false := by unfold x5 at hm; simp at hm; exact ⟨hm.1, hm.2.1⟩
   have hg : xb syms x = { x with long := true } := by unfold xb; rw [if_pos hm]
   rw [hg]
   rw [if_neg (show ¬ decide (x.kind = 2 ∧ true = false) = true by simp), if_pos (show decide (x.kind = 2 ∧ x.long = false) = true by simpa using hs), List.length_cons]
   exact ⟨by omega, fun _ => by omega⟩
  | false =>
   have hg : xb syms x = x := by unfold xb; rw [if_neg (by rw [hm]; decide)]
   rw [hg, Bool.false_or]
   split
   ·rw [List.length_cons, List.length_cons]
    exact ⟨by omega, fun h => by have := h2 h; omega⟩
   ·exact ⟨h1, h2⟩
theorem jF.place {shut : List (List zq)} {marks : List Int} {s : Lay} (h : jF shut marks s) : jF shut marks (yO shut marks s).1 :=
 ⟨fun x hx => (zfl s.items 0 (Int.le_refl 0) h.size x hx).1, by show (yB shut s.items 0).1.length ≤ _; rw [zec]; exact h.items, by show _ = (wz _ _ _ _).length; rw [zbp]; exact h.len, h.marksl, h.pos⟩
theorem jF.grow {shut : List (List zq)} {marks : List Int} {s : Lay} {syms : List zZ} (h : jF shut marks s) : jF shut marks ⟨s.items.map (xb syms), s.syms⟩ :=
 ⟨fun x hx => by obtain ⟨y, hy, rfl⟩ := List.mem_map.1 hx; exact zrN (h.size y hy), by rw [List.length_map]; exact h.items, h.len, h.marksl, h.pos⟩
theorem zn3 {av : List D} {L : List Ob} {KP : D → Prop} {KW : D → List Ob → Prop} (q : List zj) (b : Bld) (v : zq) (X : List Ob) (hl : b.syms.length ≤ 1000000) (hL : L = bO q b ++ X) (has : av = [.loc 0 0, yw v])
  (hK : KW (.tup [.int .i64 (zS b.syms v).1, .int .i64 (zS b.syms v).2]) (bO q b ++ X)) : zo Tryz.prog wR av L KP KW := by
 subst has
 exact xg zmP X (b, v, q) hl hL (LeL.refl _) rfl (.cons (.loc (Nat.lt_of_lt_of_le (by decide : 0 < 6) (Nat.le_of_eq rfl))) (.cons (zah v) .nil)) (.tup (.cons .int (.cons .int .nil))) (y5 _ _) (y5 _ _) hK
theorem zp9 {av : List D} {L : List Ob} {KP : D → Prop} {KW : D → List Ob → Prop} (q : List zj) (s : Lay) (marks : List Int) (shut : List (List zq)) (cur : List zq) (fe fa : Int) (X : List Ob) (h : jF shut marks s) (hL : L = bO q ⟨s.items, s.syms, marks, shut, false, cur, fe, fa⟩ ++ X) (has : av = [.loc 0 0])
  (hK : KW (.int .i64 (yO shut marks s).2) (bO q ⟨(yO shut marks s).1.items, (yO shut marks s).1.syms, marks, shut, false, cur, fe, fa⟩ ++ X)) : zo Tryz.prog jO av L KP KW := by
 subst has
 exact xg zn2 X (⟨s.items, s.syms, marks, shut, false, cur, fe, fa⟩, q) ⟨rfl, h.size, h.items, h.len, h.marksl, h.pos⟩ hL (LeL.refl _) rfl (.cons (.loc (Nat.lt_of_lt_of_le (by decide : 0 < 6) (Nat.le_of_eq rfl))) .nil) .int (y5 _ _) (y5 _ _) hK
theorem zgy (shut : List (List zq)) (marks : List Int) (f : Nat) (s : Lay) : zb8 shut marks (f + 1) s = if ((yO shut marks s).1.items.any (x5 (yO shut marks s).1.syms)) = false ∨ 8000 < (yO shut marks s).2
      then (⟨(yO shut marks s).1.items.map (xb (yO shut marks s).1.syms), (yO shut marks s).1.syms⟩, (yO shut marks s).2)
      else zb8 shut marks f ⟨(yO shut marks s).1.items.map (xb (yO shut marks s).1.syms), (yO shut marks s).1.syms⟩ := rfl
theorem zn4 : za Tryz.prog zeq (z1 (fun ((s, marks, shut, _, _, _, _) : Lay × List Int × List (List zq) × List zq × Int × Int × List zj) => jF shut marks s) (fun _ => [.loc 0 0])
  (fun (s, marks, shut, cur, fe, fa, q) => bO q ⟨s.items, s.syms, marks, shut, false, cur, fe, fa⟩) (fun (s, marks, shut, _, _, _, _) => .int .i64 (yE shut marks s).2)
  fun (s, marks, shut, cur, fe, fa, q) => bO q ⟨(yE shut marks s).1.items, (yE shut marks s).1.syms, marks, shut, false, cur, fe, fa⟩) := by
 refine ze zi Tryz.func89 rfl (by decide) ?_
 rintro ⟨s, marks, shut, cur, fe, fa, q⟩ h
 have h : jF shut marks s := h
 refine ⟨Nat.le_refl _, by simp [Tryz.f89], fun E hE => ?_⟩
 have hE6 : E.L.length = 6 := by rw [hE]; rfl
 show AWP _ _ _ _ (vV _ _ _ (.int .i64 (yE shut marks s).2) (bO q ⟨(yE shut marks s).1.items, (yE shut marks s).1.syms, marks, shut, false, cur, fe, fa⟩)) _ (bO q ⟨s.items, s.syms, marks, shut, false, cur, fe, fa⟩)
 generalize hT : yE shut marks s = T
 have hT : zb8 shut marks (wA s.items + 1) s = T := hT
 refine zb _ ?_
 (all_goals refine qgp (Lf.mk ?_))
 refine z7 (α := Nat × Lay) (fun p => zb8 shut marks p.1 p.2 = T ∧ wA p.2.items < p.1 ∧ jF shut marks p.2) (fun _ => [(0, .loc 0 0)]) (fun p => bO q ⟨p.2.items, p.2.syms, marks, shut, false, cur, fe, fa⟩) (fun p => p.1)
  (fun _ => by rw [hE6]; exact Nat.le_refl 6) (wA s.items + 1, s) ⟨hT, Nat.lt_succ_self _, h⟩ ?_ ?_
 ·exact zX rfl ⟨rfl, trivial⟩
 rintro ⟨f, s1⟩ ⟨i1, i2, i3⟩
 dsimp only at i1 i2 i3 ⊢
 obtain ⟨f, rfl⟩ : ∃ g, f = g + 1 := ⟨f - 1, by omega⟩
 rw [zgy] at i1
 have hpl := i3.place
 have hat : ∀ x ∈ (yO shut marks s1).1.items, 0 ≤ x.at_ ∧ x.at_ ≤ 1000000000000000 := fun x hx => by
  obtain ⟨_, h1, h2⟩ := zfl s1.items 0 (Int.le_refl 0) i3.size x hx
  have := i3.items
  exact ⟨h1, by omega⟩
 have hsh : wA (yO shut marks s1).1.items = wA s1.items := zca shut s1.items 0
 refine zb _ ?_
 (all_goals refine qgp (Lf.mk ?_))
 refine zp9 q s1 marks shut cur fe fa [] i3 rfl rfl ?_
 generalize yO shut marks s1 = P at *
 obtain ⟨⟨PI, PS⟩, n⟩ := P
 dsimp only at i1 hpl hat hsh ⊢
 have hPIl : PI.length ≤ 1000000 := hpl.items
 have hgs := zed PS PI
 have hgl := hpl.grow (syms := PS)
 dsimp only at hgl
 (all_goals refine qgp (Lf.mk ?_))
 refine z7 (α := Nat) (fun k => k ≤ PI.length) (fun k => [(0, .loc 0 0), (3, .int .i64 n), (4, .bool ((PI.take k).any (x5 PS))), (17, .int .i64 PI.length), (18, .int .i64 k)])
  (fun k => bO q ⟨(PI.take k).map (xb PS) ++ PI.drop k, PS, marks, shut, false, cur, fe, fa⟩) (fun k => PI.length - k) (fun _ => by rw [hE6]; exact Nat.le_refl 6) 0 (Nat.zero_le _) ?_ ?_
 ·exact zg3 rfl ⟨.refl _, .refl _, .ff rfl, .refl _, .refl _, trivial⟩
 intro k hk
 have hk : k ≤ PI.length := hk
 refine zb _ ?_
 (all_goals refine qgp ?_ <;> (repeat' first | exact trivial | intro hc | refine And.intro ?_ ?_) <;> refine Lf.mk ?_)
 ·have hkl : k < PI.length := by omega
  obtain ⟨x, hx⟩ := yi (l := PI) (k := k) (by omega)
  have hgx : PI[k] = x := by rw [List.getElem?_eq_getElem hkl] at hx; exact Option.some.inj hx
  have hxa := hat x (List.mem_of_getElem? hx)
  have hdrop : PI.drop k = x :: PI.drop (k + 1) := by rw [List.drop_eq_getElem_cons hkl, hgx]
  have htake : (PI.take (k + 1)).map (xb PS) = (PI.take k).map (xb PS) ++ [xb PS x] := by rw [List.take_succ_eq_append_getElem hkl, hgx, List.map_append]; rfl
  have hany : (PI.take (k + 1)).any (x5 PS) = ((PI.take k).any (x5 PS) || x5 PS x) := by rw [List.take_succ_eq_append_getElem hkl, hgx, List.any_append, List.any_cons, List.any_nil, Bool.or_false]
  have hGl : ((PI.take k).map (xb PS)).length = k := by rw [List.length_map, List.length_take]; omega
  rw [hdrop]
  generalize (PI.take k).map (xb PS) = G at *
  generalize (PI.take k).any (x5 PS) = c at *
  have hmid := zdg (a := G) (b := PI.drop (k + 1)) (x := x) hGl
  have hget : (G ++ x :: PI.drop (k + 1))[(((0 + ((k : Nat) : Int).toNat : Nat)) : Int).toNat]? = some x := by rw [Int.toNat_natCast, Nat.zero_add, Int.toNat_natCast]; exact hmid
  have hno : x5 PS x = false → xb PS x = x := fun h => by unfold xb; rw [if_neg (by rw [h]; decide)]
  have hyes : x5 PS x = true → xb PS x = { x with long := true } := fun h => by unfold xb; rw [if_pos h]
  have hms : x5 PS x = decide (x.kind = 2 ∧ x.long = false ∧ (zS PS x.val).2 = 0 ∧ (wg x.ins.op x.at_ (zS PS x.val).1).2 = 3) := rfl
  have hLn : x5 PS x = false → bO q ⟨G ++ x :: PI.drop (k + 1), PS, marks, shut, false, cur, fe, fa⟩ = bO q ⟨(PI.take (k + 1)).map (xb PS) ++ PI.drop (k + 1), PS, marks, shut, false, cur, fe, fa⟩ := fun h => by rw [htake, hno h, List.append_assoc]; rfl
  have hAn : x5 PS x = false → (PI.take (k + 1)).any (x5 PS) = c := fun h => by rw [hany, h, Bool.or_false]
  have stop : ∀ {σ : List (Nat × D)}, x5 PS x = false → zdN σ [(0, .loc 0 0), (3, .int .i64 n), (4, .bool c), (17, .int .i64 PI.length), (18, .int .i64 ((k : Int) + 1))] →
    zx E.L.length (fun k => k ≤ PI.length) (fun k => [(0, .loc 0 0), (3, .int .i64 n), (4, .bool ((PI.take k).any (x5 PS))), (17, .int .i64 PI.length), (18, .int .i64 k)])
     (fun k => bO q ⟨(PI.take k).map (xb PS) ++ PI.drop k, PS, marks, shut, false, cur, fe, fa⟩) (fun k => PI.length - k) k σ (bO q ⟨G ++ x :: PI.drop (k + 1), PS, marks, shut, false, cur, fe, fa⟩) := fun {σ} hm hs =>
   zR (k + 1) (by show k + 1 ≤ _; omega) (by omega) (hLn hm) (by rw [hAn hm]; exact hs)
  refine zk x (Int.natCast_nonneg _) hget ?_
  (all_goals refine qgp ?_ <;> (repeat' first | exact trivial | intro hc | refine And.intro ?_ ?_) <;> refine Lf.mk ?_)
  ·refine stop (by rw [hms]; simp [hc]) ?_
   exact ⟨rfl, rfl, rfl, rfl, rfl, trivial⟩
  refine zk x (Int.natCast_nonneg _) hget ?_
  (all_goals refine qgp ?_ <;> (repeat' first | exact trivial | intro hc | refine And.intro ?_ ?_) <;> refine Lf.mk ?_)
  ·refine stop (by rw [hms]; simp [hc]) ?_
   exact ⟨rfl, rfl, rfl, rfl, rfl, trivial⟩
  refine zk x (Int.natCast_nonneg _) hget ?_
  (all_goals refine qgp (Lf.mk ?_))
  refine zn3 q ⟨G ++ x :: PI.drop (k + 1), PS, marks, shut, false, cur, fe, fa⟩ x.val [] (by show PS.length ≤ _; have := hpl.len; have := hpl.marksl; dsimp only at *; omega) rfl rfl ?_
  rw [show Bld.syms ⟨G ++ x :: PI.drop (k + 1), PS, marks, shut, false, cur, fe, fa⟩ = PS from rfl]
  generalize zS PS x.val = W at *
  obtain ⟨to, e⟩ := W
  dsimp only at hms ⊢
  (all_goals refine qgp ?_ <;> (repeat' first | exact trivial | intro hc | refine And.intro ?_ ?_) <;> refine Lf.mk ?_)
  ·refine zk x (Int.natCast_nonneg _) hget ?_
   (all_goals refine qgp (Lf.mk ?_))
   refine zk x (Int.natCast_nonneg _) hget ?_
   (all_goals refine qgp (Lf.mk ?_))
   refine zd ziq (x.ins.op, x.at_, to) hxa (VS.mk (LeL.of_eq rfl)) ?_
   (all_goals refine qgk ?_ <;> (repeat' first | exact trivial | intro hc | refine And.intro ?_ ?_) <;> refine Lf.mk ?_)
   ·have hm : x5 PS x = true := by rw [hms]; simp [*]
    refine zk x (Int.natCast_nonneg _) hget ?_
    (all_goals refine qgk (Lf.mk ?_))
    refine j5 ?_
    (all_goals refine qgk (Lf.mk ?_))
    refine zjT (k + 1) (by show k + 1 ≤ _; omega) (by omega) (xt (zsq (k := 1) (e := 13) ((G ++ { x with long := true } :: PI.drop (k + 1)).map xa) rfl (by simp) ?_) (zg3 ?_ ⟨.refl _, .refl _, ?_, .refl _, .refl _, trivial⟩))
    ·rw [← zhd (f := xa) (x := x) { x with long := true } hGl rfl]
     exact zou (.cons (.refl _) (.cons (.refl _) (.cons (.refl _) (.cons (.refl _) (.cons (.refl _) (.cons (.refl _) (.cons (.refl _) (.cons (.tt rfl) (LeL.refl _)))))))))
    ·dsimp only
     rw [htake, hyes hm, List.append_assoc]
     exact congrArg (fun c => Ob.cells c :: bT ⟨G ++ { x with long := true } :: PI.drop (k + 1), PS, marks, shut, false, cur, fe, fa⟩) (zf7 (by simp) rfl rfl rfl rfl rfl rfl)
    ·rw [hany, hm, Bool.or_true]
     exact .tt rfl
   ·refine stop (by rw [hms]; simp [hc]) ?_
    exact ⟨rfl, rfl, rfl, rfl, rfl, trivial⟩
  ·refine stop (by rw [hms]; simp [hc]) ?_
   exact ⟨rfl, rfl, rfl, rfl, rfl, trivial⟩
 all_goals
  have hk2 : k = PI.length := by omega
  have hT : PI.take k = PI := by rw [hk2, List.take_length]
  have hD : PI.drop k = [] := by rw [hk2, List.drop_length]
  rw [hT, hD, List.append_nil]
 ·rw [hT] at hc
  rw [if_pos (.inl hc)] at i1
  subst i1
  exact yM rfl rfl
 ·rw [if_pos (.inr hc)] at i1
  subst i1
  exact yM rfl rfl
 ·have hany : (PI.take k).any (x5 PS) = true := by assumption
  rw [hT] at hany
  rw [if_neg (fun h => h.elim (fun h => by rw [hany] at h; cases h) (fun h => by omega))] at i1
  have := hgs.2 hany
  exact zR (f, ⟨PI.map (xb PS), PS⟩) ⟨i1, by dsimp only; omega, hgl⟩ (by dsimp only; omega) rfl ⟨rfl, trivial⟩
end Go.Proofs.YtnkdeacghopkiaaGreatDoor
