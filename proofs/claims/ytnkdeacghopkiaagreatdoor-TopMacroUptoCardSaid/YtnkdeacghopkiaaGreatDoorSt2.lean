/-
  A part of the proof: what the given program's functions answer, each once; conditions that are enough for it.
-/
import Derived.Test.YtnkdeacghopkiaaGreatDoorSt1
import Derived.Test.YtnkdeacghopkiaaGreatDoorFw3
namespace Go.Proofs.YtnkdeacghopkiaaGreatDoor
open Go Go.Plat
set_option linter.unusedVariables false
set_option linter.unusedSimpArgs false
set_option maxRecDepth 100000
set_option maxHeartbeats 2000000
attribute [local irreducible] AWP zA yh zE zn yu z6 zF zX zY zq za zL yv zo zZ yq yr yj ym zr zu zz
structure zbK where
 at_ : Int
 size : Int
 name : List UInt8
 add : Int
 deriving DecidableEq
structure y8 where
 code : List UInt8
 syms : List zC
 rels : List zbK
 deriving DecidableEq
def zbL (r : zbK) : D := .agg [.int .i64 r.at_, .int .i64 r.size, .str r.name, .int .i64 r.add]
def qS (o : y8) : D := .agg [vy o.code, .sl 2 (o.syms.map yK) none, .sl 4 (o.rels.map zbL) none]
def vL (n : Int) : List zC → List (List UInt8) → Option Int
 | [], _ => none
 | s :: l, had => if yH s.name = false ∨ s.name ∈ had then some 7 else if s.at_ < 0 ∨ n < s.at_ then some 3 else vL n l (s.name :: had)
def kP (n : Int) : List zbK → Int → Int
 | [], _ => 0
 | r :: l, last => if r.size ≠ 2 ∧ r.size ≠ 4 then 1 else if r.at_ < last ∨ n - r.size < r.at_ then 3 else if r.at_ % r.size ≠ 0 then 11 else if r.name ≠ [] ∧ yH r.name = false then 7 else if zh r.add 32 ≠ r.add then 3 else kP n l (r.at_ + r.size)
def wn (o : y8) : Int := if 8000 < o.code.length ∨ 255 < o.syms.length ∨ 16000 < o.rels.length then 4 else match vL o.code.length o.syms [] with
 | some e => e
 | none => kP o.code.length o.rels 0
def kX (l : List zC) : List (D × D) := l.map fun s => (.str s.name, .tt)
theorem zkW (l : List zC) : ∀ p ∈ kX l, jg .str p.1 = true := by
 intro p hp
 obtain ⟨r, _, rfl⟩ := List.mem_map.1 hp
 rfl
theorem zt9 {m : Nat → Option Nat} (l : List zC) : ∀ p ∈ kX l, xx m p.2 p.2 := by
 intro p hp
 obtain ⟨r, _, rfl⟩ := List.mem_map.1 hp
 exact xj trivial
theorem zj9 (n : List UInt8) : ∀ l : List zC, (¬ n ∈ l.map (·.name)) → vP (.str n) (kX l) = none
 | [], _ => rfl
 | s :: l, h => by
  have h1 : (n == s.name) = false := beq_eq_false_iff_ne.2 fun e => h (by simp [e])
  simp only [kX, List.map_cons, vP, zbD, h1]
  have := zj9 n l fun hm => h (by simp at hm ⊢; exact .inr hm)
  unfold kX at this
  rw [this]
  rfl
theorem zpK {n : List UInt8} : ∀ {l : List zC}, n ∈ l.map (·.name) → qi (.str n) (kX l) = some .tt
 | [], h => by simp at h
 | s :: l, h => by
  by_cases h1 : n = s.name
  ·subst h1
   simp [qi, kX, vP, zbD]
  ·have h2 : (n == s.name) = false := beq_eq_false_iff_ne.2 h1
   have h3 : n ∈ l.map (·.name) := by
    simp only [List.map_cons, List.mem_cons] at h
    exact h.resolve_left h1
   have := zpK h3
   unfold qi kX at this ⊢
   simp only [List.map_cons, vP, zbD, h2]
   revert this
   cases vP (.str n) (l.map fun s => (D.str s.name, D.tt)) with
   | none => intro h; cases h
   | some j => intro h; simpa using h
theorem zua {n : List UInt8} {l : List zC} (h : ¬ n ∈ l.map (·.name)) : qi (.str n) (kX l) = none := by unfold qi; rw [zj9 n l h]; rfl
theorem zv1 {s : zC} {l : List zC} (h : ¬ s.name ∈ l.map (·.name)) : xE (.str s.name) .tt (kX l) = kX (l ++ [s]) := by
 rw [zcX (zj9 _ _ h)]
 simp [kX]
theorem zub {m : Nat → Option Nat} {K : Prop} (l : List zC) (h : K) : zjX m (kX l) K := ⟨zt9 l, h⟩
theorem zuc {m : Nat → Option Nat} {K : Prop} (h : K) : zjX m [] K := ⟨by simp, h⟩
theorem zud : kX [] = [] := rfl
attribute [local irreducible] zK yt yA yH kX zjX zh
theorem zge : za Tryz.prog zoO (zx (fun o : y8 => (∀ r ∈ o.rels, -9223372036854775808 ≤ r.at_ ∧ r.at_ ≤ 9223372036854775807 ∧ r.name.length ≤ 1000000000) ∧ ∀ s ∈ o.syms, s.name.length ≤ 1000000000) (fun o => [qS o]) fun o => .int .i64 (wn o)) := by
 refine zf zj Tryz.func40 rfl (by decide) ?_
 rintro o ⟨ho, hs⟩
 refine ⟨Nat.le_refl _, by simp [Tryz.f40], fun E hE => ?_⟩
 refine ze _ ?_
 (all_goals refine qgo ?_ <;> (repeat' first | exact trivial | intro hc | refine And.intro ?_ ?_) <;> refine Lf.mk ?_)
 ·refine zd (VS.mk (LeD.of_eq (congrArg (D.int .i64) ?_)))
  unfold wn; rw [if_pos (by omega)]
 ·refine zd (VS.mk (LeD.of_eq (congrArg (D.int .i64) ?_)))
  unfold wn; rw [if_pos (by omega)]
 ·refine zd (VS.mk (LeD.of_eq (congrArg (D.int .i64) ?_)))
  unfold wn; rw [if_pos (by omega)]
 have hw : wn o = match vL o.code.length o.syms [] with
   | some e => e
   | none => kP o.code.length o.rels 0 := by unfold wn; rw [if_neg (by omega)]
 refine ye (α := Nat) (fun k => k ≤ o.syms.length ∧ vL o.code.length o.syms [] = vL o.code.length (o.syms.drop k) ((o.syms.take k).map (·.name)).reverse)
  (fun k => [(27, .sl 2 (o.syms.map yK) none), (28, .int .i64 o.syms.length), (29, .int .i64 k), (1, .loc 0 0), (3, .mp 1)])
  (fun k => [.cells [vy o.code, .sl 2 (o.syms.map yK) none, .sl 4 (o.rels.map zbL) none], .map (kX (o.syms.take k))]) (fun k => o.syms.length - k) (fun _ => by simp [hE]) 0 ⟨Nat.zero_le _, by simp⟩ ?_ ?_
 ·(repeat' (first | (refine VS.mk ?_) | exact trivial | exact rfl | refine And.intro ?_ ?_))
  refine zuc ?_
  refine VS.mk ?_
  rw [List.take_zero, zud]
  rfl
 rintro k ⟨hk, hsw⟩
 refine ze _ ?_
 (all_goals refine qgo ?_ <;> (repeat' first | exact trivial | intro hc | refine And.intro ?_ ?_) <;> refine Lf.mk ?_)
 ·obtain ⟨s, hsk⟩ := yf (l := o.syms) (k := k) (by omega)
  have hkl : k < o.syms.length := by omega
  have hsm := hs s (List.mem_of_getElem? hsk)
  have hget : o.syms[k] = s := by rw [List.getElem?_eq_getElem hkl] at hsk; exact Option.some.inj hsk
  rw [List.drop_eq_getElem_cons hkl, hget] at hsw
  have htake : o.syms.take (k + 1) = o.syms.take k ++ [s] := by rw [List.take_succ_eq_append_getElem hkl, hget]
  have hmem : ∀ n : List UInt8, n ∈ ((o.syms.take k).map (·.name)).reverse ↔ n ∈ (o.syms.take k).map (·.name) := fun n => List.mem_reverse
  refine zk s (by omega) (by simpa using hsk) ?_
  (all_goals refine qgo (Lf.mk ?_))
  refine zb j5 s.name hsm (VS.mk (by (first | exact LeL.refl _ | (repeat' (first | exact LeL.nil | exact LeD.refl _ | exact LeD.nil _ | exact LeD.strip _ _ _ | refine LeL.cons ?_ ?_ | refine LeD.tup ?_ | refine LeD.agg ?_))))) ?_
  (all_goals refine qgo ?_ <;> (repeat' first | exact trivial | intro hc | refine And.intro ?_ ?_) <;> refine Lf.mk ?_)
  ·refine zd (VS.mk (LeD.of_eq (congrArg (D.int .i64) ?_)))
   rw [hw, hsw, vL, if_pos (.inl hc)]
  refine xd (zkW _) ?_
  refine VS.mk ?_
  by_cases hin : s.name ∈ (o.syms.take k).map (·.name)
  ·refine kL (zpK hin) ?_
   (all_goals refine qgo (Lf.mk ?_))
   any_goals (refine zd (VS.mk (LeD.of_eq (congrArg (D.int .i64) ?_))))
   any_goals rw [hw, hsw, vL, if_pos (.inr ((hmem _).2 hin))]
  ·refine zvj (zua hin) ?_
   (all_goals refine qgo (Lf.mk ?_))
   refine xd (zkW _) ?_
   refine VS.mk ?_
   refine jT (zv1 hin) ?_
   have hstep : ¬ (yH s.name = false ∨ s.name ∈ ((o.syms.take k).map (·.name)).reverse) := by
    rintro (h | h)
    ·rw [hc] at h; cases h
    ·exact hin ((hmem _).1 h)
   (all_goals refine qgo ?_ <;> (repeat' first | exact trivial | intro hc | refine And.intro ?_ ?_) <;> refine Lf.mk ?_)
   ·refine zd (VS.mk (LeD.of_eq (congrArg (D.int .i64) ?_)))
    rw [hw, hsw, vL, if_neg hstep, if_pos (.inl hc)]
   ·refine zd (VS.mk (LeD.of_eq (congrArg (D.int .i64) ?_)))
    rw [hw, hsw, vL, if_neg hstep, if_pos (.inr hc)]
   ·have hnew : vL o.code.length o.syms [] = vL o.code.length (o.syms.drop (k + 1)) ((o.syms.take (k + 1)).map (·.name)).reverse := by
     rw [hsw, vL, if_neg hstep, if_neg (by omega), htake]
     simp
    refine zB (k + 1) ⟨by omega, hnew⟩ (by omega) ?_
    rw [htake]
    (repeat' (first | (refine VS.mk ?_) | exact trivial | exact rfl | refine And.intro ?_ ?_))
    refine zub _ ?_
    refine VS.mk ?_
    rfl
 ·obtain rfl : k = o.syms.length := by omega
  rw [List.drop_length, vL] at hsw
  rw [hsw] at hw
  have hw : wn o = kP o.code.length o.rels 0 := hw
  refine ye (α := Nat × Int) (fun p => p.1 ≤ o.rels.length ∧ 0 ≤ p.2 ∧ p.2 ≤ 8000 ∧ kP o.code.length o.rels 0 = kP o.code.length (o.rels.drop p.1) p.2)
   (fun p => [(59, .sl 4 (o.rels.map zbL) none), (60, .int .i64 o.rels.length), (61, .int .i64 p.1), (1, .loc 0 0), (6, .int .i64 p.2)])
   (fun _ => [.cells [vy o.code, .sl 2 (o.syms.map yK) none, .sl 4 (o.rels.map zbL) none]]) (fun p => o.rels.length - p.1) (fun _ => by simp [hE]) (0, 0) ⟨Nat.zero_le _, by decide, by decide, by simp⟩ ?_ ?_
  ·(repeat' (first | (refine VS.mk ?_) | exact trivial | exact rfl | refine And.intro ?_ ?_))
  rintro ⟨k, last⟩ ⟨hk, hl0, hl1, hrw⟩
  dsimp only at hk hl0 hl1 hrw ⊢
  refine ze _ ?_
  (all_goals refine qgo ?_ <;> (repeat' first | exact trivial | intro hc | refine And.intro ?_ ?_) <;> refine Lf.mk ?_)
  ·obtain ⟨r, hrk⟩ := yf (l := o.rels) (k := k) (by omega)
   have hkl : k < o.rels.length := by omega
   obtain ⟨hr1, hr2, hr3⟩ := ho r (List.mem_of_getElem? hrk)
   have hget : o.rels[k] = r := by rw [List.getElem?_eq_getElem hkl] at hrk; exact Option.some.inj hrk
   rw [List.drop_eq_getElem_cons hkl, hget] at hrw
   rw [hrw, kP] at hw
   refine zk r (by omega) (by simpa using hrk) ?_
   (all_goals refine qgo ?_ <;> (repeat' first | exact trivial | intro hc | refine And.intro ?_ ?_) <;> refine Lf.mk ?_)
   any_goals (refine zb j5 r.name hr3 (VS.mk (LeL.of_eq rfl)) ?_)
   (all_goals refine qgo ?_ <;> (repeat' first | exact trivial | intro hc | refine And.intro ?_ ?_) <;> refine Lf.mk ?_)
   any_goals (refine zb yx r.add trivial (VS.mk (LeL.of_eq rfl)) ?_)
   (all_goals refine qgo ?_ <;> (repeat' first | exact trivial | intro hc | refine And.intro ?_ ?_) <;> refine Lf.mk ?_)
   any_goals (refine zd (VS.mk (LeD.of_eq (congrArg (D.int .i64) ?_))); rw [hw])
   any_goals first
    | (rw [if_pos] <;> omega)
    | (rw [if_neg, if_pos] <;> omega)
    | (rw [if_neg, if_neg, if_pos] <;> omega)
    | (rw [if_neg, if_neg, if_neg, if_pos] <;> first | omega | (refine ⟨?_, ?_⟩ <;> assumption))
    | (rw [if_neg, if_neg, if_neg, if_neg, if_pos] <;> first | omega | assumption | (rintro ⟨h1, h2⟩; simp_all))
    | skip
   all_goals (
    have hnew : kP o.code.length o.rels 0 = kP o.code.length (o.rels.drop (k + 1)) (r.at_ + r.size) := by
     rw [hrw, kP]
     rw [if_neg, if_neg, if_neg, if_neg, if_neg]
     all_goals first
      | omega
      | exact fun h => h (by assumption)
      | (rintro ⟨h1, h2⟩; simp_all; done)
    refine zB (k + 1, r.at_ + r.size) ⟨by (dsimp only; omega), by (dsimp only; omega), by (dsimp only; omega), hnew⟩ (by dsimp only; omega) ?_
    (repeat' (first | (refine VS.mk ?_) | exact trivial | exact rfl | refine And.intro ?_ ?_)))
  ·refine zd (VS.mk (LeD.of_eq (congrArg (D.int .i64) ?_)))
   rw [hw, hrw, List.drop_of_length_le (by omega)]
   rfl
end Go.Proofs.YtnkdeacghopkiaaGreatDoor
namespace Go.Proofs.YtnkdeacghopkiaaGreatDoor
open Go Go.Plat
set_option linter.unusedVariables false
set_option linter.unusedSimpArgs false
set_option maxRecDepth 100000
set_option maxHeartbeats 2000000
attribute [local irreducible] AWP zA yh zE zn yu z6 zF zX zY zq za zL yv zo zZ yq yr yj ym zr zu zz
def tk (t : zH) : zbH := ⟨t.kind, t.n, t.text⟩
theorem zue (l : List zH) : l.map zJ = (l.map tk).map zt2 := by rw [List.map_map]; rfl
structure AOp where
 sign : List UInt8
 reg : Int
 val : zw
def qm (o : AOp) : D := .agg [.str o.sign, .int .i64 o.reg, .str o.val.name, .int .i64 o.val.n]
def noV : zw := ⟨[], 0⟩
def x5 : List (List UInt8) := [[48], [49], [50], [51], [52], [53], [54], [55], [56], [57], [49, 48], [49, 49], [49, 50], [49, 51], [49, 52], [49, 53]]
def wK (t : zH) : Int := if t.kind = 1 ∧ t.text.headD 0 = 114 then w9 (t.text.drop 1) x5 0 else -1
structure RB where
 rest : List zH
 fe : Int
 fa : Int
def qb (s : RB) (e line : Int) : RB := if s.fe = 0 then ⟨s.rest, e, line⟩ else s
def zP (c : List UInt8) (s : RB) : Bool × RB := match s.rest with
 | t :: r => if t.kind = 3 ∧ t.text = c then (true, ⟨r, s.fe, s.fa⟩) else (false, s)
 | [] => (false, s)
def xX (q : List zl) (line : Int) (s : RB) : zw × RB :=
 if (xQ (s.rest.map tk)).2.2 = 0 then
  ((xl q (xQ (s.rest.map tk)).1).1, if (xl q (xQ (s.rest.map tk)).1).2 = 0 then ⟨s.rest.drop (xQ (s.rest.map tk)).2.1.toNat, s.fe, s.fa⟩
    else qb ⟨s.rest.drop (xQ (s.rest.map tk)).2.1.toNat, s.fe, s.fa⟩ (xl q (xQ (s.rest.map tk)).1).2 line)
 else (noV, qb s (xQ (s.rest.map tk)).2.2 line)
def kf (s : RB) : List UInt8 × RB :=
 if (zP [35] s).1 = true then ([35], (zP [35] s).2) else if (zP [64] s).1 = true then ([64], (zP [64] s).2) else if (zP [61] s).1 = true then ([61], (zP [61] s).2) else ([], s)
def zka : List zH → Int
 | [] => -1
 | t :: _ => wK t
def zaA (q : List zl) (line : Int) (sg : List UInt8) (s : RB) : AOp × RB :=
 if (sg = [] ∨ sg = [64]) ∧ 0 ≤ zka s.rest then (⟨if sg = [] then [114] else sg, zka s.rest, noV⟩, ⟨s.rest.drop 1, s.fe, s.fa⟩)
 else if sg = [64] then (⟨sg, 0, noV⟩, qb s 2 line)
 else (⟨sg, 0, (xX q line s).1⟩, (xX q line s).2)
def yY (q : List zl) (line : Int) (s : RB) : AOp × RB := zaA q line (kf s).1 (kf s).2
def xM (line : Int) (s : RB) : RB := if (zP [44] s).1 = false ∨ (zP [44] s).2.rest = [] then qb (zP [44] s).2 2 line else (zP [44] s).2
def jv (q : List zl) (line : Int) : Nat → List AOp → RB → List AOp × RB
 | 0, out, s => (out, s)
 | f + 1, out, s => if s.rest = [] ∨ s.fe ≠ 0 then (out, s) else if (yY q line s).2.rest = [] then (out ++ [(yY q line s).1], (yY q line s).2)
  else jv q line f (out ++ [(yY q line s).1]) (xM line (yY q line s).2)
def xp (q : List zl) (line : Int) (s : RB) : List AOp × RB := jv q line (s.rest.length + 1) [] s
def sgA (o : AOp) : List UInt8 := if o.sign = [] then [112] else o.sign
def x6 (l : List AOp) : List UInt8 := (l.map sgA).flatten
def yP (s : List UInt8) : List Int :=
 if s = [] then [0] else if s = [35, 114] then [1] else if s = [114, 114] then [2] else if s = [114] then [3] else if s = [112] then [4, 5] else if s = [64] then [6]
 else if s = [112, 114] then [7, 8] else if s = [114, 64] then [9] else if s = [64, 114] then [10] else if s = [35] then [11] else []
structure zp where
 kind : Int
 at_ : Int
 line : Int
 ins : Ins
 long : Bool
 size : Int
 val : zw
 pool : Int
 idx : Int
def zxQ (x : zp) : List D := [.int .i64 x.kind, .int .i64 x.at_, .int .i64 x.line, .int .i64 x.ins.op, .int .i64 x.ins.n, .int .i64 x.ins.m, .int .i64 x.ins.imm, .bool x.long, .int .i64 x.size,
 .str x.val.name, .int .i64 x.val.n, .int .i64 x.pool, .int .i64 x.idx]
def xn (x : zp) : D := .agg (zxQ x)
def noI : Ins := ⟨0, 0, 0, 0⟩
structure Bld where
 items : List zp
 syms : List zC
 marks : List Int
 shut : List (List zw)
 has : Bool
 cur : List zw
 fe : Int
 fa : Int
def yG (b : Bld) (e line : Int) : Bld := if b.fe = 0 then { b with fe := e, fa := line } else b
def xt (b : Bld) (x : zp) : Bld := { b with items := b.items ++ [x] }
def wo (v : zw) : List zw → Nat → Int
 | [], _ => -1
 | x :: l, k => if x.name = v.name ∧ x.n = v.n then k else wo v l (k + 1)
def w1 (v : zw) (l : List zw) : List zw := if wo v l 0 < 0 then l ++ [v] else l
def w2 (v : zw) (l : List zw) : Int := if wo v l 0 < 0 then l.length else wo v l 0
def kE (b : Bld) (v : zw) (reg line : Int) : Bld :=
 xt { b with has := true, cur := w1 v b.cur } ⟨6, 0, line, ⟨24, reg, 0, 0⟩, false, 0, noV, b.shut.length, w2 v b.cur⟩
def vM (b : Bld) (line : Int) : Bld :=
 if b.has = true then { xt b ⟨9, 0, line, noI, false, 0, noV, b.shut.length, 0⟩ with shut := b.shut ++ [b.cur], has := false, cur := [] } else b
def xI (name : List UInt8) : List Int → Int × Int → Int × Int
 | [], p => p
 | s :: l, p => xI name l (if 0 < w0 name s then (w0 name s, s) else p)
def aop (l : List AOp) (k : Nat) : AOp := (l[k]?).getD ⟨[], 0, noV⟩
def wS (op shape : Int) (l : List AOp) (line : Int) : zp :=
 if shape = 1 then ⟨1, 0, line, ⟨op, (aop l 1).reg, 0, (aop l 0).val.n⟩, false, 0, (aop l 0).val, 0, 0⟩
 else if shape = 2 ∨ shape = 9 ∨ shape = 10 then ⟨1, 0, line, ⟨op, (aop l 1).reg, (aop l 0).reg, 0⟩, false, 0, noV, 0, 0⟩
 else if shape = 3 ∨ shape = 6 then ⟨1, 0, line, ⟨op, (aop l 0).reg, 0, 0⟩, false, 0, noV, 0, 0⟩
 else if shape = 4 then ⟨2, 0, line, ⟨op, 0, 0, 0⟩, false, 0, (aop l 0).val, 0, 0⟩
 else if shape = 5 then ⟨3, 0, line, ⟨op, 0, 0, 0⟩, false, 0, (aop l 0).val, 0, 0⟩
 else if shape = 7 then ⟨4, 0, line, ⟨op, (aop l 1).reg, 0, 0⟩, false, 0, (aop l 0).val, 0, 0⟩
 else if shape = 8 then ⟨5, 0, line, ⟨op, (aop l 1).reg, 0, 0⟩, false, 0, (aop l 0).val, 0, 0⟩
 else if shape = 11 then ⟨1, 0, line, ⟨op, 0, 0, (aop l 0).val.n⟩, false, 0, (aop l 0).val, 0, 0⟩
 else ⟨1, 0, line, ⟨op, 0, 0, 0⟩, false, 0, noV, 0, 0⟩
def xq (b : Bld) (name : List UInt8) (l : List AOp) (line : Int) : Bld :=
 if name = [109, 111, 118, 46, 108] ∧ l.length = 2 ∧ (aop l 0).sign = [61] ∧ (aop l 1).sign = [114] then kE b (aop l 0).val (aop l 1).reg line
 else if (xI name (yP (x6 l)) (0, 0)).1 = 0 then yG b 1 line
 else if ((xI name (yP (x6 l)) (0, 0)).2 = 1 ∨ (xI name (yP (x6 l)) (0, 0)).2 = 11) ∧ (aop l 0).val.name ≠ [] then yG b 8 line
 else if yy (wS (xI name (yP (x6 l)) (0, 0)).1 (xI name (yP (x6 l)) (0, 0)).2 l line).ins = 0
  then xt b (wS (xI name (yP (x6 l)) (0, 0)).1 (xI name (yP (x6 l)) (0, 0)).2 l line)
 else yG b (yy (wS (xI name (yP (x6 l)) (0, 0)).1 (xI name (yP (x6 l)) (0, 0)).2 l line).ins) line
def zw6 (size : Int) : Int := if size = 1 then -128 else if size = 2 then -32768 else -2147483648
def zvb (size : Int) : Int := if size = 1 then 255 else if size = 2 then 65535 else 4294967295
def va (size line : Int) (b : Bld) (o : AOp) : Bld :=
 xt (if o.sign ≠ [] then yG b 2 line else if o.val.name ≠ [] ∧ size = 1 then yG b 8 line else if o.val.name = [] ∧ (o.val.n < zw6 size ∨ zvb size < o.val.n) then yG b 3 line else b)
  ⟨7, 0, line, noI, false, size, o.val, 0, 0⟩
def jk (b : Bld) (size : Int) (l : List AOp) (line : Int) : Bld := l.foldl (va size line) (if l = [] then yG b 2 line else b)
def qZ (b : Bld) (l : List AOp) (line : Int) : Bld :=
 if l.length ≠ 1 ∨ (aop l 0).sign ≠ [] ∨ (aop l 0).val.name ≠ [] then yG b 2 line
 else if (aop l 0).val.n ≠ 1 ∧ (aop l 0).val.n ≠ 2 ∧ (aop l 0).val.n ≠ 4 ∧ (aop l 0).val.n ≠ 8 ∧ (aop l 0).val.n ≠ 16 then yG b 3 line
 else xt b ⟨8, 0, line, noI, false, (aop l 0).val.n, noV, 0, 0⟩
theorem zeS : za Tryz.prog zj4 (zx (fun n : Int => -9223372036854775808 ≤ n ∧ n ≤ 9223372036854775807) (fun n => [.int .i64 n]) fun n => .str (Lib.itoa n)) := by
 refine jG ⟨_, Tryz.func11, by decide, rfl⟩ ?_
 intro n hn w F hg vs hl hv
 match vs, hl with
 | [v], _ =>
  cases hv 0 _ v rfl rfl
  refine (Go.Proofs.Tryz.strconv_Itoa n hn.1 hn.2 w ?_).mono ?_
  ·exact hg.tab (g := 0) (ns := (List.range 20).map (10 ^ ·)) (by kernel_rfl) (by kernel_rfl) (by rw [List.map_map]; rfl) (by decide)
  ·rintro e w' ⟨rfl, k, os, rfl⟩
   exact ⟨_, rfl, .growD w k os, .str _⟩
def wq : List UInt8 → Int → Option Int
 | [], n => some n
 | c :: r, n => if 48 ≤ c.toNat ∧ c.toNat ≤ 57 then wq r (n * 10 + ((c.toNat : Int) - 48)) else none
theorem zqX (c : UInt8) (r : List UInt8) (n : Int) : wq (c :: r) n = if 48 ≤ c.toNat ∧ c.toNat ≤ 57 then wq r (n * 10 + ((c.toNat : Int) - 48)) else none := rfl
def zjf (s : List UInt8) : Bool := decide (s.headD 0 = 45 ∨ s.headD 0 = 43)
def qc (s : List UInt8) : Option Int :=
 if zjf s = true then (if s.length ≤ 1 then none else if s.headD 0 = 45 then (wq (s.drop 1) 0).map (fun n => -n) else wq (s.drop 1) 0) else wq s 0
def jl (r : Option Int) (e : D) : D := match r with | some n => .tup [.int .i64 n, .nilif] | none => .tup [.int .i64 0, e]
theorem jI {t : List UInt8} {k : Nat} {n : Int} (hk : k < t.length) : wq (t.drop k) n = if 48 ≤ (t.getD k 0).toNat ∧ (t.getD k 0).toNat ≤ 57 then wq (t.drop (k + 1)) (n * 10 + (((t.getD k 0).toNat : Int) - 48)) else none := by
 rw [List.drop_eq_getElem_cons hk, zqX, List.getD_eq_getElem?_getD, List.getElem?_eq_getElem hk]
 rfl
theorem zpL (c : UInt8) : ((yz ((c.toNat : Int) - 48)).toNat : Int) = ((c.toNat : Int) - 48) % 256 := xH _
theorem znn {c : UInt8} (h : 9 < ((yz ((c.toNat : Int) - 48)).toNat : Int)) : ¬ (48 ≤ c.toNat ∧ c.toNat ≤ 57) := by rw [zpL] at h; omega
theorem zkb {c : UInt8} (h : ¬ 9 < ((yz ((c.toNat : Int) - 48)).toNat : Int)) : (48 ≤ c.toNat ∧ c.toNat ≤ 57) ∧ ((yz ((c.toNat : Int) - 48)).toNat : Int) = (c.toNat : Int) - 48 := by
 rw [zpL] at h ⊢
 have := c.toNat_lt
 omega
theorem jb (s : List UInt8) (c : UInt8) : (((s.getD (Int.toNat 0) 0).toNat : Int) = (c.toNat : Int)) ↔ s.headD 0 = c := by
 have : s.getD (Int.toNat 0) 0 = s.headD 0 := by cases s <;> rfl
 rw [this]
 refine ⟨fun h => ?_, fun h => by rw [h]⟩
 exact UInt8.toNat.inj (by omega)
theorem zsl {s : List UInt8} (h : s.headD 0 = 45) : qc s = if s.length ≤ 1 then none else (wq (s.drop 1) 0).map (fun n => -n) := by
 unfold qc zjf
 rw [if_pos (decide_eq_true (.inl h)), if_pos h]
theorem zsm {s : List UInt8} (h : ¬ s.headD 0 = 45) (h' : s.headD 0 = 43) : qc s = if s.length ≤ 1 then none else wq (s.drop 1) 0 := by
 unfold qc zjf
 rw [if_pos (decide_eq_true (.inr h')), if_neg h]
theorem zxR {s : List UInt8} (h : ¬ s.headD 0 = 45) (h' : ¬ s.headD 0 = 43) : qc s = wq s 0 := by
 unfold qc zjf
 rw [if_neg (fun e => (of_decide_eq_true e).elim h h')]
attribute [local irreducible] wq Lib.itoa
def zsn (s : List UInt8) : Prop := 1 ≤ s.length ∧ s.length ≤ 2
def AtI (t : List UInt8) (p : Nat × Int) : Prop := p.1 ≤ t.length ∧ (p.1 = 0 → p.2 = 0) ∧ (p.1 ≤ 1 → p.2 ≤ 9) ∧ 0 ≤ p.2 ∧ p.2 ≤ 99 ∧ wq (t.drop p.1) p.2 = wq t 0
theorem zo4 : za Tryz.prog zcP (zx (fun s : List UInt8 => zsn s) (fun s => [.str s]) fun s => jl (qc s) (.iface 288 (.int .i64 2))) := by
 refine zf zj Tryz.func191 rfl (by decide) ?_
 intro s hs
 obtain ⟨h1, h2⟩ := hs
 refine ⟨Nat.le_refl _, by simp [Tryz.f191], fun E hE => ?_⟩
 have ht : List.drop (Int.toNat 1) (List.take ((s.length : Int)).toNat s) = s.drop 1 := by rw [Int.toNat_natCast, List.take_length]; rfl
 have hl1 : (s.drop 1).length = s.length - 1 := by simp
 refine ze _ ?_
 (all_goals refine qgp ?_ <;> (repeat' first | exact trivial | intro hc | refine And.intro ?_ ?_) <;> refine Lf.mk ?_)
 all_goals (try rw [ht] at hc)
 all_goals (try rw [ht])
 ·have h45 := (jb s 45).1 (by assumption)
  refine zd (VS.mk (LeD.of_eq ?_))
  rw [zsl h45, if_pos (show s.length ≤ 1 by omega)]
  rfl
 ·have h45 := (jb s 45).1 (by assumption)
  have hAt : ∀ e, jl (qc s) e = jl ((wq (s.drop 1) 0).map (fun n => -n)) e := fun e => by rw [zsl h45, if_neg (show ¬ s.length ≤ 1 by omega)]
  have hl2 : (s.drop 1).length ≤ 2 := by omega
  clear ht
  generalize s.drop 1 = t at *
  refine ye (α := Nat × Int) (AtI t) (fun p => [(47, .sl 1 (t.map zI) none), (48, .int .i64 t.length), (49, .int .i64 p.1), (6, .int .i64 p.2), (5, .str s)])
   (fun _ => []) (fun p => t.length - p.1) (fun _ => by rw [hE]; exact Nat.le_refl _) (0, 0) ⟨Nat.zero_le _, fun _ => rfl, fun _ => by decide, by decide, by decide, rfl⟩ ?_ ?_
  ·(repeat' (first | (refine VS.mk ?_) | exact trivial | exact rfl | refine And.intro ?_ ?_))
  rintro ⟨k, n⟩ ⟨i1, i2, i3, i4, i5, i6⟩
  dsimp only at i1 i2 i3 i4 i5 i6 ⊢
  refine ze _ ?_
  (all_goals refine qgp ?_ <;> (repeat' first | exact trivial | intro hc | refine And.intro ?_ ?_) <;> refine Lf.mk ?_)
  ·have hst := jI (n := n) (show k < t.length by omega)
   rw [if_neg (znn hc), i6] at hst
   refine zd (VS.mk (LeD.of_eq ?_))
   rw [hAt, hst]
   rfl
  ·obtain ⟨l1, l2⟩ := zkb hc
   have hst := jI (n := n) (show k < t.length by omega)
   rw [if_pos l1, i6] at hst
   have hj : AtI t (k + 1, n * 10 + (((t.getD k 0).toNat : Int) - 48)) := by
    refine ⟨?_, ?_, ?_, ?_, ?_, hst.symm⟩ <;> dsimp only
    ·omega
    ·intro h; omega
    ·intro h; have := i2 (by omega); omega
    ·omega
    ·have := i3 (by omega); omega
   refine zB _ hj (by dsimp only; omega) ?_
   (repeat' (first | (refine VS.mk ?_) | exact trivial | exact rfl | refine And.intro ?_ ?_))
   all_goals rw [l2]
  all_goals
   have hk : k = t.length := by omega
   subst hk
   rw [List.drop_length] at i6
   have i6 : wq t 0 = some n := by rw [← i6, wq]
   refine zd (VS.mk (LeD.of_eq ?_))
   rw [hAt, i6]
   exact congrArg (fun x => D.tup [.int .i64 x, .nilif]) (Int.zero_sub n)
 ·have h45 : ¬ s.headD 0 = 45 := fun h => absurd ((jb s 45).2 h) (by assumption)
  have h43 := (jb s 43).1 (by assumption)
  refine zd (VS.mk (LeD.of_eq ?_))
  rw [zsm h45 h43, if_pos (show s.length ≤ 1 by omega)]
  rfl
 ·have h45 : ¬ s.headD 0 = 45 := fun h => absurd ((jb s 45).2 h) (by assumption)
  have h43 := (jb s 43).1 (by assumption)
  have hAt : ∀ e, jl (qc s) e = jl (wq (s.drop 1) 0) e := fun e => by rw [zsm h45 h43, if_neg (show ¬ s.length ≤ 1 by omega)]
  have hl2 : (s.drop 1).length ≤ 2 := by omega
  clear ht
  generalize s.drop 1 = t at *
  refine ye (α := Nat × Int) (AtI t) (fun p => [(47, .sl 1 (t.map zI) none), (48, .int .i64 t.length), (49, .int .i64 p.1), (6, .int .i64 p.2), (5, .str s)])
   (fun _ => []) (fun p => t.length - p.1) (fun _ => by rw [hE]; exact Nat.le_refl _) (0, 0) ⟨Nat.zero_le _, fun _ => rfl, fun _ => by decide, by decide, by decide, rfl⟩ ?_ ?_
  ·(repeat' (first | (refine VS.mk ?_) | exact trivial | exact rfl | refine And.intro ?_ ?_))
  rintro ⟨k, n⟩ ⟨i1, i2, i3, i4, i5, i6⟩
  dsimp only at i1 i2 i3 i4 i5 i6 ⊢
  refine ze _ ?_
  (all_goals refine qgp ?_ <;> (repeat' first | exact trivial | intro hc | refine And.intro ?_ ?_) <;> refine Lf.mk ?_)
  ·have hst := jI (n := n) (show k < t.length by omega)
   rw [if_neg (znn hc), i6] at hst
   refine zd (VS.mk (LeD.of_eq ?_))
   rw [hAt, hst]
   rfl
  ·obtain ⟨l1, l2⟩ := zkb hc
   have hst := jI (n := n) (show k < t.length by omega)
   rw [if_pos l1, i6] at hst
   have hj : AtI t (k + 1, n * 10 + (((t.getD k 0).toNat : Int) - 48)) := by
    refine ⟨?_, ?_, ?_, ?_, ?_, hst.symm⟩ <;> dsimp only
    ·omega
    ·intro h; omega
    ·intro h; have := i2 (by omega); omega
    ·omega
    ·have := i3 (by omega); omega
   refine zB _ hj (by dsimp only; omega) ?_
   (repeat' (first | (refine VS.mk ?_) | exact trivial | exact rfl | refine And.intro ?_ ?_))
   all_goals rw [l2]
  all_goals
   have hk : k = t.length := by omega
   subst hk
   rw [List.drop_length] at i6
   have i6 : wq t 0 = some n := by rw [← i6, wq]
   refine zd (VS.mk (LeD.of_eq ?_))
   rw [hAt, i6]
   rfl
 ·have h45 : ¬ s.headD 0 = 45 := fun h => absurd ((jb s 45).2 h) (by assumption)
  have h43 : ¬ s.headD 0 = 43 := fun h => absurd ((jb s 43).2 h) (by assumption)
  have hAt : ∀ e, jl (qc s) e = jl (wq s 0) e := fun e => by rw [zxR h45 h43]
  refine ye (α := Nat × Int) (AtI s) (fun p => [(47, .sl 1 (s.map zI) none), (48, .int .i64 s.length), (49, .int .i64 p.1), (6, .int .i64 p.2), (5, .str s)])
   (fun _ => []) (fun p => s.length - p.1) (fun _ => by rw [hE]; exact Nat.le_refl _) (0, 0) ⟨Nat.zero_le _, fun _ => rfl, fun _ => by decide, by decide, by decide, rfl⟩ ?_ ?_
  ·(repeat' (first | (refine VS.mk ?_) | exact trivial | exact rfl | refine And.intro ?_ ?_))
  rintro ⟨k, n⟩ ⟨i1, i2, i3, i4, i5, i6⟩
  dsimp only at i1 i2 i3 i4 i5 i6 ⊢
  refine ze _ ?_
  (all_goals refine qgp ?_ <;> (repeat' first | exact trivial | intro hc | refine And.intro ?_ ?_) <;> refine Lf.mk ?_)
  ·have hst := jI (n := n) (show k < s.length by omega)
   rw [if_neg (znn hc), i6] at hst
   refine zd (VS.mk (LeD.of_eq ?_))
   rw [hAt, hst]
   rfl
  ·obtain ⟨l1, l2⟩ := zkb hc
   have hst := jI (n := n) (show k < s.length by omega)
   rw [if_pos l1, i6] at hst
   have hj : AtI s (k + 1, n * 10 + (((s.getD k 0).toNat : Int) - 48)) := by
    refine ⟨?_, ?_, ?_, ?_, ?_, hst.symm⟩ <;> dsimp only
    ·omega
    ·intro h; omega
    ·intro h; have := i2 (by omega); omega
    ·omega
    ·have := i3 (by omega); omega
   refine zB _ hj (by dsimp only; omega) ?_
   (repeat' (first | (refine VS.mk ?_) | exact trivial | exact rfl | refine And.intro ?_ ?_))
   all_goals rw [l2]
  all_goals
   have hk : k = s.length := by omega
   subst hk
   rw [List.drop_length] at i6
   have i6 : wq s 0 = some n := by rw [← i6, wq]
   refine zd (VS.mk (LeD.of_eq ?_))
   rw [hAt, i6]
   rfl
theorem zqY : za Tryz.prog zj6 (zx (fun s : List UInt8 => zsn s) (fun s => [.str s]) fun s => jl (qc s) (.iface 290 .any)) := by
 refine zf zj Tryz.func174 rfl (by decide) ?_
 intro s hs
 refine ⟨Nat.le_refl _, by simp [Tryz.f174], fun E hE => ?_⟩
 refine ze _ ?_
 (all_goals refine qgp (Lf.mk ?_))
 refine zb zo4 s hs (VS.mk (LeL.of_eq rfl)) ?_
 cases h : qc s with
 | some n =>
  dsimp only [jl]
  (all_goals refine qgp ?_ <;> (repeat' first | exact trivial | intro hc | refine And.intro ?_ ?_) <;> refine Lf.mk ?_)
  all_goals first
   | (exfalso; exact Bool.noConfusion hc)
   | (exfalso; refine absurd trivial ?_; assumption)
   | skip
  exact zd (VS.mk (LeD.of_eq rfl))
 | none =>
  dsimp only [jl]
  (all_goals refine qgp ?_ <;> (repeat' first | exact trivial | intro hc | refine And.intro ?_ ?_) <;> refine Lf.mk ?_)
  all_goals first
   | (exfalso; exact Bool.noConfusion hc)
   | (exfalso; refine absurd hc ?_; decide)
   | skip
  refine zb zhk ([65, 116, 111, 105], s, 0, 0, 2) ⟨by have := hs.2; omega, .inr rfl⟩ (VS.mk (LeL.of_eq rfl)) ?_
  (all_goals refine qgp (Lf.mk ?_))
  exact zd (VS.mk (LeD.of_eq rfl))
theorem zkc (x : List UInt8) : ∀ (l : List (List UInt8)) (k : Nat), w9 x l k = -1 ∨ x ∈ l
 | [], _ => .inl rfl
 | s :: l, k => by
  rw [w9]
  by_cases h : x = s
  ·exact .inr (by rw [h]; exact List.mem_cons_self)
  ·rw [if_neg h]
   exact (zkc x l (k + 1)).imp id (List.mem_cons_of_mem _)
theorem zv2 : x5.map (fun r => (w9 r x5 0, qc r)) = (List.range 16).map (fun k : Nat => ((k : Int), some (k : Int))) := by kernel_rfl
theorem zv3 : (List.range 16).map (fun k => Lib.itoa ((k : Nat) : Int)) = x5 := by kernel_rfl
theorem zso {k : Nat} (hk : k < 16) : x5[k]? = some (Lib.itoa (k : Int)) ∧ w9 (Lib.itoa (k : Int)) x5 0 = k ∧ qc (Lib.itoa (k : Int)) = some (k : Int) := by
 have h1 : x5[k]? = some (Lib.itoa (k : Int)) := by rw [← zv3, List.getElem?_map, List.getElem?_range hk]; rfl
 have h2 := congrArg (fun l => l[k]?) zv2
 simp only [List.getElem?_map, h1, List.getElem?_range hk, Option.map_some, Option.some.injEq, Prod.mk.injEq] at h2
 exact ⟨h1, h2⟩
theorem zv4 {s : List UInt8} {n : Int} (h0 : 0 ≤ n) (h1 : n ≤ 15) (h : Lib.itoa n = s) : w9 s x5 0 = n := by
 obtain ⟨k, rfl⟩ := Int.eq_ofNat_of_zero_le h0
 rw [← h]
 exact (zso (by omega)).2.1
theorem zjg {s : List UInt8} (h : ∀ n, qc s = some n → ¬ (0 ≤ n ∧ n ≤ 15 ∧ Lib.itoa n = s)) : w9 s x5 0 = -1 := by
 refine (zkc s x5 0).resolve_right fun hm => ?_
 obtain ⟨k, hk⟩ := List.getElem?_of_mem hm
 have hk16 : k < 16 := (List.getElem?_eq_some_iff.1 hk).1
 obtain ⟨h1, _, h3⟩ := zso hk16
 rw [h1] at hk
 cases hk
 exact h _ h3 ⟨by omega, by omega, rfl⟩
theorem zno {s : List UInt8} (h : s.length = 0 ∨ 2 < s.length) : w9 s x5 0 = -1 := by
 refine (zkc s x5 0).resolve_right fun hm => ?_
 have : ∀ r ∈ x5, 1 ≤ r.length ∧ r.length ≤ 2 := by decide
 have := this s hm
 omega
attribute [local irreducible] qc x5 w9
theorem zaB : za Tryz.prog zj5 (zx (fun t : zH => t.text.length ≤ 1000000000) (fun t => [zJ t]) fun t => .int .i64 (wK t)) := by
 refine zf zj Tryz.func149 rfl (by decide) ?_
 rintro ⟨kd, n, s⟩ hs
 have hs : s.length ≤ 1000000000 := hs
 refine ⟨Nat.le_refl _, by simp [Tryz.f149], fun E hE => ?_⟩
 have ht : List.drop (Int.toNat 1) (List.take ((s.length : Int)).toNat s) = s.drop 1 := by rw [Int.toNat_natCast, List.take_length]; rfl
 have hl1 : (s.drop 1).length = s.length - 1 := by simp
 refine ze _ ?_
 (all_goals refine qgp ?_ <;> (repeat' first | exact trivial | intro hc | refine And.intro ?_ ?_) <;> refine Lf.mk ?_)
 ·refine zd (VS.mk (LeD.of_eq (congrArg (D.int .i64) ?_)))
  unfold wK
  rw [if_neg (fun e => hc e.1)]
 ·refine zd (VS.mk (LeD.of_eq (congrArg (D.int .i64) ?_)))
  unfold wK
  dsimp only
  rw [zno (.inl (by omega))]
  split <;> rfl
 ·refine zd (VS.mk (LeD.of_eq (congrArg (D.int .i64) ?_)))
  unfold wK
  dsimp only
  rw [zno (.inr (by omega))]
  split <;> rfl
 ·have h114 : ¬ s.headD 0 = 114 := fun h => absurd ((jb s 114).2 h) (by assumption)
  refine zd (VS.mk (LeD.of_eq (congrArg (D.int .i64) ?_)))
  unfold wK
  rw [if_neg (fun e => h114 e.2)]
 ·have h114 := (jb s 114).1 (by assumption)
  have hR : wK ⟨kd, n, s⟩ = w9 (s.drop 1) x5 0 := by
   unfold wK
   rw [if_pos ⟨by assumption, h114⟩]
  dsimp only
  rw [ht, hR]
  refine zb zqY (s.drop 1) ⟨by omega, by omega⟩ (VS.mk (LeL.of_eq rfl)) ?_
  cases hat : qc (s.drop 1) with
  | none =>
   dsimp only [jl]
   (all_goals refine qgp ?_ <;> (repeat' first | exact trivial | intro hc | refine And.intro ?_ ?_) <;> refine Lf.mk ?_)
   (any_goals (first | (exfalso; refine Bool.false_ne_true ?_; assumption) | (exfalso; refine Bool.false_ne_true (Eq.symm ?_); assumption) | (exfalso; refine absurd trivial ?_; assumption) | skip))
   refine zd (VS.mk (LeD.of_eq (congrArg (D.int .i64) ?_)))
   rw [zjg fun m hm => by rw [hat] at hm; cases hm]
  | some m =>
   dsimp only [jl]
   (all_goals refine qgp ?_ <;> (repeat' first | exact trivial | intro hc | refine And.intro ?_ ?_) <;> refine Lf.mk ?_)
   (any_goals (first | (exfalso; refine Bool.false_ne_true ?_; assumption) | (exfalso; refine Bool.false_ne_true (Eq.symm ?_); assumption) | (exfalso; refine absurd trivial ?_; assumption) | skip))
   ·refine zd (VS.mk (LeD.of_eq (congrArg (D.int .i64) ?_)))
    rw [zjg fun q hm => by rw [hat] at hm; cases hm; omega]
   ·refine zd (VS.mk (LeD.of_eq (congrArg (D.int .i64) ?_)))
    rw [zjg fun q hm => by rw [hat] at hm; cases hm; omega]
   ·refine zb zeS m ⟨by omega, by omega⟩ (VS.mk (LeL.of_eq rfl)) ?_
    (all_goals refine qgp ?_ <;> (repeat' first | exact trivial | intro hc | refine And.intro ?_ ?_) <;> refine Lf.mk ?_)
    all_goals (try rw [ht] at hc)
    all_goals (refine zd (VS.mk (LeD.of_eq (congrArg (D.int .i64) ?_))))
    ·rw [zjg fun q hm => by rw [hat] at hm; cases hm; exact fun e => hc e.2.2]
    ·rw [zv4 (by omega) (by omega) hc]
end Go.Proofs.YtnkdeacghopkiaaGreatDoor
namespace Go.Proofs.YtnkdeacghopkiaaGreatDoor
open Go Go.Plat
set_option linter.unusedVariables false
set_option linter.unusedSimpArgs false
set_option maxRecDepth 100000
set_option maxHeartbeats 2000000
attribute [local irreducible] AWP zA yh zE zn yu z6 zF zX zY zq za zL yv zo zZ zg.kids zg.kind zg.n zg.name yq yr yj ym zr zu zz yt xe yA zK yH zh
def wt : List zbH → Nat
 | [] => 0
 | t :: l => 1 + t.text.length + wt l
def zeT (p : St → zg × St) : Prop := ∀ s, yD (p s).1 + 2 * wt (p s).2.rest ≤ 1 + 2 * wt s.rest
theorem zkX (k n : Int) (t : List UInt8) : yD (.mk k n t []) = 1 + t.length := by rw [yD, vB, Nat.add_zero]
theorem zsp (k n : Int) (a : zg) : yD (.mk k n [] [a]) = 1 + yD a := by rw [yD, vB, vB]; simp
theorem zsq (k n : Int) (a b : zg) : yD (.mk k n [] [a, b]) = 1 + yD a + yD b := by rw [yD, vB, vB, vB]; simp; omega
theorem zcA : yD noE = 1 := by unfold noE; rw [zkX]; rfl
theorem zkd (l : List (List UInt8)) (s : St) : wt (zt l s).2.rest ≤ wt s.rest ∧ (0 ≤ (zt l s).1 → wt (zt l s).2.rest + 1 ≤ wt s.rest) := by
 obtain ⟨r, e⟩ := s
 cases r with
 | nil => exact ⟨Nat.le_refl _, fun h => by simp [zt] at h⟩
 | cons t r =>
  simp only [zt]
  split
  ·split
   ·simp only [wt]; exact ⟨by omega, fun _ => by omega⟩
   ·exact ⟨Nat.le_refl _, fun h => by simp at h⟩
  ·exact ⟨Nat.le_refl _, fun h => by simp at h⟩
theorem zkY {k : Nat} {sub : St → zg × St} (hs : zeT sub) : ∀ (g : Nat) (e : zg) (s : St), yD (vJ k sub g e s).1 + 2 * wt (vJ k sub g e s).2.rest ≤ yD e + 2 * wt s.rest
 | 0, e, s => Nat.le_refl _
 | g + 1, e, s => by
  rw [vJ]
  obtain ⟨h1, h1'⟩ := zkd (yT k) s
  split
  ·split
   ·dsimp only; omega
   ·rename_i hn
    have h3 := h1' (by omega)
    have := zkY (k := k) hs g (.mk (zbr k (zt (yT k) s).1) 0 [] [e, (sub (zt (yT k) s).2).1]) (sub (zt (yT k) s).2).2
    rw [zsq] at this
    have h2 := hs (zt (yT k) s).2
    omega
  ·exact Nat.le_refl _
theorem zqZ {k : Nat} {sub : St → zg × St} (hs : zeT sub) : zeT (zcx k sub) := fun s => by
 have h1 := hs s
 have h2 := zkY (k := k) hs ((sub s).2.rest.length + 1) (sub s).1 (sub s).2
 unfold zcx; omega
theorem zke {one : St → zg × St} (hs : zeT one) : ∀ j, zeT (atF one j)
 | 0 => hs
 | j + 1 => zqZ (zke hs j)
theorem zuf : zeT zdF := fun s => by
 obtain ⟨r, e⟩ := s
 cases r with
 | nil => simp [zdF, qG, zcA, wt]
 | cons t r =>
  simp only [zdF]
  repeat' split
  all_goals (try rw [qG]); simp only [zcA, zkX, wt, List.length_nil]; omega
theorem zsr {one : St → zg × St} (hs : zeT one) : zeT (wJ one) := fun s => by
 obtain ⟨h1, h1'⟩ := zkd yW s
 have h2 := hs (zt yW s).2
 have h3 := zke hs 5 (zt yW s).2
 have h4 := (zkd qX (atF one 5 (zt yW s).2).2).1
 have h5 := zuf (zt yW s).2
 have h6 := zf9 (atF one 5 (zt yW s).2).1
 unfold wJ
 repeat' split
 all_goals (try dsimp only); (try rw [qG]); (try simp only [zsp, zcA]); omega
theorem znp : ∀ f, zeT (qP f)
 | 0 => fun s => by rw [qP, qG, zcA]; exact Nat.le_refl _
 | f + 1 => fun s => by rw [qP]; exact zsr (znp f) s
theorem zss (L : List zbH) : yD (xQ L).1 ≤ 1 + 2 * wt L := by
 have h := zke (znp 7) 5 ⟨L, 0⟩
 have h : yD (qz L).1 + 2 * wt (qz L).2.rest ≤ 1 + 2 * wt L := h
 unfold xQ
 split
 ·dsimp only; omega
 ·dsimp only; rw [zcA]; omega
end Go.Proofs.YtnkdeacghopkiaaGreatDoor
namespace Go.Proofs.YtnkdeacghopkiaaGreatDoor
open Go Go.Plat
set_option linter.unusedVariables false
set_option linter.unusedSimpArgs false
set_option maxRecDepth 100000
set_option maxHeartbeats 2000000
attribute [local irreducible] AWP zA yh zE zn yu z6 zF zX Lib.itoa zY zq za zL yv zo zZ yq yr yj ym zr zu zz xl xQ wK zP
def y9 (l : List zw) : D := .sl 2 (l.map yI) none
def zM (b : Bld) : List D := match b.has with | true => b.shut.map y9 ++ [.sl 2 (b.cur.map yI) (some 5)] | false => b.shut.map y9
def bC (q : List zl) (b : Bld) : List D := [.sl 2 (q.map we) none, .osl 13 1 b.items.length 0 b.items.length, .osl 2 2 b.syms.length 0 b.syms.length, .sl 1 (b.marks.map (.int .i64)) (some 3),
 .osl 1 4 (zM b).length 0 (zM b).length, .int .i64 b.shut.length, .nilsl, .nilsl, .nilsl, .int .i64 b.fe, .int .i64 b.fa]
def zdJ (b : Bld) : Ob := match b.has with | true => .spare b.cur.length | false => .dead
def bT (b : Bld) : List Ob := [.arr 13 (b.items.map xn), .arr 2 (b.syms.map yK), .spare b.marks.length, .arr 1 (zM b), zdJ b]
def bO (q : List zl) (b : Bld) : List Ob := .cells (bC q b) :: bT b
theorem zhn : za Tryz.prog v8 (ya (fun _ : (D × D × D × D × D × D × D × D × D) × Int × Int × Int × Int × List Ob => True) (fun (_, _, _, e, line, _) => [.loc 0 0, .int .i64 e, .int .i64 line])
  (fun ((c0, c1, c2, c3, c4, c5, c6, c7, c8), fe, fa, _, _, X) => .cells [c0, c1, c2, c3, c4, c5, c6, c7, c8, .int .i64 fe, .int .i64 fa] :: X) (fun _ => .ff)
  fun ((c0, c1, c2, c3, c4, c5, c6, c7, c8), fe, fa, e, line, X) => .cells [c0, c1, c2, c3, c4, c5, c6, c7, c8, .int .i64 (if fe = 0 then e else fe), .int .i64 (if fe = 0 then line else fa)] :: X) := by
 refine zf zj Tryz.func114 rfl (by decide) ?_
 rintro ⟨⟨c0, c1, c2, c3, c4, c5, c6, c7, c8⟩, fe, fa, e, line, X⟩ _
 refine ⟨Nat.le_refl _, by simp [Tryz.f114], fun E hE => ?_⟩
 refine ze _ ?_
 (all_goals refine qgp ?_ <;> (repeat' first | exact trivial | intro hc | refine And.intro ?_ ?_) <;> refine Lf.mk ?_)
 ·exact y6 rfl (by dsimp only; rw [if_pos hc, if_pos hc])
 ·exact y6 rfl (by dsimp only; rw [if_neg hc, if_neg hc])
def arC (s : RB) (line : Int) : Ob := .cells [.loc 0 0, .sl 3 (s.rest.map zJ) none, .int .i64 line]
def xJ (b : Bld) (s : RB) : Bld := { b with fe := s.fe, fa := s.fa }
def vb (q : List zl) (b : Bld) (s : RB) (line : Int) : List Ob := bO q (xJ b s) ++ [arC s line]
theorem zst (b : Bld) : ∀ d ∈ zM b, ClL 6 d.cells := by
 have h1 : ∀ d ∈ b.shut.map y9, ClL 6 d.cells := by
  intro d hd
  obtain ⟨l, _, rfl⟩ := List.mem_map.1 hd
  exact ClL.cons ClD.sl ClL.nil
 unfold zM
 split
 ·intro d hd
  rcases List.mem_append.1 hd with hd | hd
  ·exact h1 d hd
  ·rw [List.mem_singleton] at hd
   subst hd
   exact ClL.cons (ClD.tok (by decide)) ClL.nil
 ·exact h1
theorem kF {n : Nat} (l : List zp) : ∀ d ∈ l.map xn, ClL n d.cells := by
 intro d hd
 obtain ⟨x, _, rfl⟩ := List.mem_map.1 hd
 exact .cons .int (.cons .int (.cons .int (.cons .int (.cons .int (.cons .int (.cons .int (.cons .bool (.cons .int (.cons .str (.cons .int (.cons .int (.cons .int .nil))))))))))))
theorem jJ {n : Nat} (l : List zC) : ∀ d ∈ l.map yK, ClL n d.cells := by
 intro d hd
 obtain ⟨x, _, rfl⟩ := List.mem_map.1 hd
 exact .cons .str (.cons .int .nil)
theorem ClD.up {n m : Nat} {d : D} (h : ClD n d) (hn : n ≤ m) : ClD m d := fun f hf => h f fun k hk => hf k (by omega)
theorem ClO.up {n m : Nat} {o : Ob} (h : ClO n o) (hn : n ≤ m) : ClO m o := fun f hf => h f fun k hk => hf k (by omega)
theorem xf (q : List zl) (b : Bld) : ∀ o ∈ bO q b, ClO 6 o := by
 intro o ho
 simp only [bO, bT, List.mem_cons, List.not_mem_nil, or_false] at ho
 rcases ho with rfl | rfl | rfl | rfl | rfl | rfl
 ·exact .cells (.cons .sl (.cons (.osl (by decide)) (.cons (.osl (by decide)) (.cons (.tok (by decide)) (.cons (.osl (by decide)) (.cons .int (.cons .nilsl (.cons .nilsl (.cons .nilsl (.cons .int (.cons .int .nil)))))))))))
 ·exact .arr (kF _)
 ·exact .arr (jJ _)
 ·exact .spare
 ·exact .arr (zst _)
 ·unfold zdJ
  split
  ·exact .spare
  ·exact .dead
theorem zaC (q : List zl) (b : Bld) (s : RB) (line : Int) : ∀ o ∈ vb q b s line, ClO 7 o := by
 intro o ho
 rcases List.mem_append.1 ho with ho | ho
 ·exact ClO.up (xf _ _ o ho) (by decide)
 ·rw [List.mem_singleton] at ho
  subst ho
  exact .cells (.cons (.loc (by decide)) (.cons .sl (.cons .int .nil)))
theorem wU {c : List UInt8} {t : zH} {r : List zH} {e a : Int} : zP c ⟨t :: r, e, a⟩ = if t.kind = 3 ∧ t.text = c then (true, ⟨r, e, a⟩) else (false, ⟨t :: r, e, a⟩) := by unfold zP; rfl
theorem take_nil {c : List UInt8} {e a : Int} : zP c ⟨[], e, a⟩ = (false, ⟨[], e, a⟩) := by unfold zP; rfl
theorem zo5 : za Tryz.prog zbS (ya (fun ((_, s, _, _) : Bld × RB × List UInt8 × List zl × Int) => s.rest.length ≤ 1000000000) (fun (_, _, c, _, _) => [.loc 6 0, .str c])
  (fun (b, s, _, q, line) => vb q b s line) (fun (_, s, c, _, _) => .bool (zP c s).1) fun (b, s, c, q, line) => vb q b (zP c s).2 line) := by
 refine zf zj Tryz.func154 rfl (by decide) ?_
 rintro ⟨b, ⟨r, e, a⟩, c, q, line⟩ hr
 have hr : r.length ≤ 1000000000 := hr
 refine ⟨Nat.le_refl _, by simp [Tryz.f154], fun E hE => ?_⟩
 cases r with
 | nil =>
  refine ze _ ?_
  (all_goals refine qgp ?_ <;> (repeat' first | exact trivial | intro hc | refine And.intro ?_ ?_) <;> refine Lf.mk ?_)
  exact zmC (by rw [take_nil]) (by dsimp only; rw [take_nil]) (Nat.le_of_eq rfl)
 | cons t r =>
  have hr2 : r.length + 1 ≤ 1000000000 := hr
  refine ze _ ?_
  (all_goals refine qgp ?_ <;> (repeat' first | exact trivial | intro hc | refine And.intro ?_ ?_) <;> refine Lf.mk ?_)
  ·exact zwQ (by rw [wU, if_pos ⟨by assumption, by assumption⟩]) (by dsimp only; rw [wU, if_pos ⟨by assumption, by assumption⟩]; rfl) (Nat.le_of_eq rfl)
  ·exact zmC (by rw [wU, if_neg (fun h => hc h.2)]) (by dsimp only; rw [wU, if_neg (fun h => hc h.2)]) (Nat.le_of_eq rfl)
  ·exact zmC (by rw [wU, if_neg (fun h => hc h.1)]) (by dsimp only; rw [wU, if_neg (fun h => hc h.1)]) (Nat.le_of_eq rfl)
theorem zpM (q : List zl) (b : Bld) (e line : Int) : Ob.cells [.sl 2 (q.map we) none, .osl 13 1 b.items.length 0 b.items.length, .osl 2 2 b.syms.length 0 b.syms.length, .sl 1 (b.marks.map (.int .i64)) (some 3),
  .osl 1 4 (zM b).length 0 (zM b).length, .int .i64 b.shut.length, .nilsl, .nilsl, .nilsl, .int .i64 (if b.fe = 0 then e else b.fe), .int .i64 (if b.fe = 0 then line else b.fa)] :: bT b = bO q (yG b e line) := by
 unfold yG
 by_cases h : b.fe = 0
 ·rw [if_pos h, if_pos h, if_pos h]; rfl
 ·rw [if_neg h, if_neg h, if_neg h]; rfl
theorem yU {av : List D} {L : List Ob} {KP : D → Prop} {KW : D → List Ob → Prop} (q : List zl) (b : Bld) (e line : Int) (X : List Ob) (hL : L = bO q b ++ X) (has : av = [.loc 0 0, .int .i64 e, .int .i64 line])
  (hK : KW .ff (bO q (yG b e line) ++ X)) : zn Tryz.prog v8 av L KP KW := by
 subst has
 refine y7 zhn X ((.sl 2 (q.map we) none, .osl 13 1 b.items.length 0 b.items.length, .osl 2 2 b.syms.length 0 b.syms.length, .sl 1 (b.marks.map (.int .i64)) (some 3),
  .osl 1 4 (zM b).length 0 (zM b).length, .int .i64 b.shut.length, .nilsl, .nilsl, .nilsl), b.fe, b.fa, e, line, bT b) trivial hL (LeL.refl _) rfl ?_ .ff (xf q b) ?_ ?_
 ·exact .cons (.loc (Nat.lt_of_lt_of_le (by decide : 0 < 6) (Nat.le_of_eq rfl))) (.cons .int (.cons .int .nil))
 ·dsimp only
  rw [zpM]
  exact xf q _
 ·dsimp only
  rw [zpM]
  exact hK
attribute [local irreducible] zg.kids zg.kind zg.n zg.name zdJ xe yD zM
def kQ (s : RB) (q : List zl) : Prop := wt (s.rest.map tk) ≤ 1048576 ∧ q.length ≤ 1000000000
theorem zjh : ∀ l : List zbH, l.length ≤ wt l
 | [] => Nat.le_refl _
 | t :: l => by have := zjh l; rw [wt]; simp; omega
theorem zpN : ∀ (l : List zbH) (k : Nat), wt (l.drop k) ≤ wt l
 | [], k => by simp
 | t :: l, 0 => Nat.le_refl _
 | t :: l, k + 1 => by have := zpN l k; rw [List.drop_succ_cons, wt]; omega
theorem zw7 (l : List zbH) : 0 ≤ (xQ l).2.1 ∧ (xQ l).2.1 ≤ l.length := by
 unfold xQ
 have := zhl l
 split
 ·dsimp only; omega
 ·dsimp only; omega
theorem zv5 (q : List zl) (b : Bld) (s : RB) (e line l2 : Int) (X : List Ob) : bO q (yG (xJ b s) e line) ++ (arC s l2 :: X) = vb q b (qb s e line) l2 ++ X := by
 unfold yG qb vb xJ
 by_cases h : s.fe = 0
 ·rw [if_pos h, if_pos h]; rfl
 ·rw [if_neg h, if_neg h]; rfl
theorem kR {av : List D} {L : List Ob} {KP : D → Prop} {KW : D → List Ob → Prop} (q : List zl) (b : Bld) (s : RB) (e line : Int) (X : List Ob) (hL : L = vb q b s line ++ X) (has : av = [.loc 0 0, .int .i64 e, .int .i64 line])
  (hK : KW .ff (vb q b (qb s e line) line ++ X)) : zn Tryz.prog v8 av L KP KW :=
 yU q (xJ b s) e line (arC s line :: X) hL has (by rw [zv5]; exact hK)
theorem zaD {n : Nat} (v : zw) : ClD n (yI v) := .agg (.cons .str (.cons .int .nil))
theorem qe {n0 : Nat} {q : List zl} {b : Bld} {s s' : RB} {line : Int} {r d : D} {L : List Ob} (X : List Ob) (hL : L = vb q b s' line ++ X) (hs : s' = s) (hr : r = d) (hn : n0 ≤ 7) (hd : ClD 7 d) : zF n0 r d L (vb q b s line) := by
 subst hs; subst hr
 exact vU (vb q b s' line) X hL hn hd (zaC _ _ _ _)
theorem zo6 : za Tryz.prog zbq (ya (fun ((_, s, q, _) : Bld × RB × List zl × Int) => kQ s q) (fun _ => [.loc 6 0])
  (fun (b, s, q, line) => vb q b s line) (fun (_, s, q, line) => yI (xX q line s).1) fun (b, s, q, line) => vb q b (xX q line s).2 line) := by
 refine zf zj Tryz.func175 rfl (by decide) ?_
 rintro ⟨b, s, q, line⟩ ⟨hw, hq⟩
 refine ⟨Nat.le_refl _, by simp [Tryz.f175], fun E hE => ?_⟩
 have hl : s.rest.length ≤ 1048576 := by have := zjh (s.rest.map tk); rw [List.length_map] at this; omega
 have hn := zw7 (s.rest.map tk)
 rw [List.length_map] at hn
 have hnodes := zss (s.rest.map tk)
 have hV : xX q line s = if (xQ (s.rest.map tk)).2.2 = 0 then
  ((xl q (xQ (s.rest.map tk)).1).1, if (xl q (xQ (s.rest.map tk)).1).2 = 0 then ⟨s.rest.drop (xQ (s.rest.map tk)).2.1.toNat, s.fe, s.fa⟩
    else qb ⟨s.rest.drop (xQ (s.rest.map tk)).2.1.toNat, s.fe, s.fa⟩ (xl q (xQ (s.rest.map tk)).1).2 line)
  else (noV, qb s (xQ (s.rest.map tk)).2.2 line) := rfl
 refine ze _ ?_
 (all_goals refine qgp (Lf.mk ?_))
 refine zb zo3 (s.rest.map tk) (by show (s.rest.map tk).length ≤ _; rw [List.length_map]; omega) (VS.mk (LeL.of_eq (by rw [zue]))) ?_
 generalize xQ (s.rest.map tk) = P at *
 obtain ⟨e, n, err⟩ := P
 dsimp only at hV hn hnodes ⊢
 (all_goals refine qgp ?_ <;> (repeat' first | exact trivial | intro hc | refine And.intro ?_ ?_) <;> refine Lf.mk ?_)
 ·rw [if_neg hc] at hV
  refine kR q b s err line [_, _] rfl rfl ?_
  (all_goals refine qgp (Lf.mk ?_))
  rw [hV]
  exact qe [_, _] rfl rfl rfl (Nat.le_of_eq rfl) (zaD _)
 ·rw [if_pos hc] at hV
  refine zb (zjc q hq (yD e)) e ⟨Nat.le_refl _, by omega⟩ (VS.mk (LeL.of_eq rfl)) ?_
  generalize xl q e = V at *
  obtain ⟨⟨vn, vi⟩, ve⟩ := V
  dsimp only at hV ⊢
  (all_goals refine qgp ?_ <;> (repeat' first | exact trivial | intro hc | refine And.intro ?_ ?_) <;> refine Lf.mk ?_)
  ·rw [if_neg hc] at hV
   refine kR q b ⟨s.rest.drop n.toNat, s.fe, s.fa⟩ ve line [_, _, _] rfl rfl ?_
   (all_goals refine qgp (Lf.mk ?_))
   rw [hV]
   exact qe [_, _, _] rfl rfl rfl (Nat.le_of_eq rfl) (zaD _)
  ·rw [if_pos hc] at hV
   rw [hV]
   exact qe (s' := ⟨s.rest.drop n.toNat, s.fe, s.fa⟩) [_, _, _] rfl rfl rfl (Nat.le_of_eq rfl) (zaD _)
theorem zdj {av : List D} {L : List Ob} {KP : D → Prop} {KW : D → List Ob → Prop} (q : List zl) (b : Bld) (s : RB) (c : List UInt8) (line : Int) (X : List Ob) (hl : s.rest.length ≤ 1000000000) (hL : L = vb q b s line ++ X) (has : av = [.loc 6 0, .str c])
  (hK : KW (.bool (zP c s).1) (vb q b (zP c s).2 line ++ X)) : zn Tryz.prog zbS av L KP KW := by
 subst has
 exact y7 zo5 X (b, s, c, q, line) hl hL (LeL.refl _) rfl (.cons (.loc (Nat.lt_of_lt_of_le (by decide : 6 < 7) (Nat.le_of_eq rfl))) (.cons .str .nil)) .bool (zaC _ _ _ _) (zaC _ _ _ _) hK
theorem zb0 {av : List D} {L : List Ob} {KP : D → Prop} {KW : D → List Ob → Prop} (q : List zl) (b : Bld) (s : RB) (line : Int) (X : List Ob) (hl : kQ s q) (hL : L = vb q b s line ++ X) (has : av = [.loc 6 0])
  (hK : KW (yI (xX q line s).1) (vb q b (xX q line s).2 line ++ X)) : zn Tryz.prog zbq av L KP KW := by
 subst has
 exact y7 zo6 X (b, s, q, line) hl hL (LeL.refl _) rfl (.cons (.loc (Nat.lt_of_lt_of_le (by decide : 6 < 7) (Nat.le_of_eq rfl))) .nil) (zaD _) (zaC _ _ _ _) (zaC _ _ _ _) hK
theorem zeU {c : List UInt8} {s : RB} (h : (zP c s).1 = false) : (zP c s).2 = s := by
 obtain ⟨r, e, a⟩ := s
 cases r with
 | nil => rw [take_nil]
 | cons t r =>
  rw [wU] at h ⊢
  split at h
  ·cases h
  ·rw [if_neg (by assumption)]
theorem zh2 {c : List UInt8} {s : RB} {q : List zl} (h : kQ s q) : kQ (zP c s).2 q := by
 obtain ⟨r, e, a⟩ := s
 cases r with
 | nil => rw [take_nil]; exact h
 | cons t r =>
  rw [wU]
  split
  ·refine ⟨?_, h.2⟩
   have := h.1
   rw [List.map_cons, wt] at this
   show wt (r.map tk) ≤ _
   omega
  ·exact h
theorem zug (c : List UInt8) (s : RB) : ∀ t ∈ (zP c s).2.rest, t ∈ s.rest := by
 obtain ⟨r, e, a⟩ := s
 cases r with
 | nil => rw [take_nil]; exact fun _ h => h
 | cons t r =>
  rw [wU]
  split
  ·exact fun _ h => List.mem_cons_of_mem _ h
  ·exact fun _ h => h
theorem zgW {s : RB} {q : List zl} (h : kQ s q) : s.rest.length ≤ 1048576 := by have := h.1; have := zjh (s.rest.map tk); rw [List.length_map] at this; omega
theorem zw8 {s : RB} (h : (zP [35] s).1 = false) (h' : (zP [64] s).1 = false) (h2 : (zP [61] s).1 = false) : kf s = ([], s) := by
 unfold kf
 rw [if_neg (by rw [h]; decide), if_neg (by rw [h']; decide), if_neg (by rw [h2]; decide)]
theorem kS {n : Nat} (o : AOp) : ClD n (qm o) := .agg (.cons .str (.cons .int (.cons .str (.cons .int .nil))))
theorem zw9 {s : RB} (h : (zP [35] s).1 = true) : kf s = ([35], (zP [35] s).2) := by unfold kf; rw [if_pos h]
theorem zxa {s : RB} (h : (zP [35] s).1 = false) (h1 : (zP [64] s).1 = true) : kf s = ([64], (zP [64] s).2) := by
 unfold kf; rw [if_neg (by rw [h]; decide), if_pos h1]
theorem zxb {s : RB} (h : (zP [35] s).1 = false) (h1 : (zP [64] s).1 = false) (h2 : (zP [61] s).1 = true) : kf s = ([61], (zP [61] s).2) := by
 unfold kf; rw [if_neg (by rw [h]; decide), if_neg (by rw [h1]; decide), if_pos h2]
theorem znq {q : List zl} {line : Int} {sg : List UInt8} {s : RB} (h : ¬ (sg = [] ∨ sg = [64])) : zaA q line sg s = (⟨sg, 0, (xX q line s).1⟩, (xX q line s).2) := by
 unfold zaA; rw [if_neg fun e => h e.1, if_neg fun e => h (.inr e)]
theorem znr {q : List zl} {line : Int} {sg : List UInt8} {t : zH} {r : List zH} {e a : Int} (h : sg = [] ∨ sg = [64]) (h1 : 0 ≤ wK t) : zaA q line sg ⟨t :: r, e, a⟩ = (⟨if sg = [] then [114] else sg, wK t, noV⟩, ⟨r, e, a⟩) := by
 unfold zaA; rw [if_pos ⟨h, h1⟩]; rfl
theorem zpO {q : List zl} {line : Int} {s : RB} (h : zka s.rest < 0) : zaA q line [64] s = (⟨[64], 0, noV⟩, qb s 2 line) := by
 unfold zaA; rw [if_neg fun e => by omega, if_pos rfl]
theorem zpP {q : List zl} {line : Int} {s : RB} (h : zka s.rest < 0) : zaA q line [] s = (⟨[], 0, (xX q line s).1⟩, (xX q line s).2) := by
 unfold zaA; rw [if_neg fun e => by omega, if_neg (by decide)]
theorem zsu : za Tryz.prog zct (ya (fun ((_, s, q, _) : Bld × RB × List zl × Int) => kQ s q ∧ ∀ t ∈ s.rest, t.text.length ≤ 1000000000) (fun _ => [.loc 6 0])
  (fun (b, s, q, line) => vb q b s line) (fun (_, s, q, line) => qm (yY q line s).1) fun (b, s, q, line) => vb q b (yY q line s).2 line) := by
 refine zf zj Tryz.func153 rfl (by decide) ?_
 rintro ⟨b, s, q, line⟩ ⟨hv, htx⟩
 have hv : kQ s q := hv
 have htx : ∀ t ∈ s.rest, t.text.length ≤ 1000000000 := htx
 refine ⟨Nat.le_refl _, by simp [Tryz.f153], fun E hE => ?_⟩
 have hl := zgW hv
 refine ze _ ?_
 (all_goals refine qgp (Lf.mk ?_))
 refine qO (ze _ ?_)
 (all_goals refine qgp ?_ <;> (repeat' first | exact trivial | intro hc | refine And.intro ?_ ?_) <;> refine Lf.mk ?_)
 refine zdj q b s [35] line [_, _] (by omega) rfl rfl ?_
 cases h35 : (zP [35] s).1 with
 | true =>
  have hone : yY q line s = (⟨[35], 0, (xX q line (zP [35] s).2).1⟩, (xX q line (zP [35] s).2).2) := by unfold yY; rw [zw9 h35]; exact znq (sg := [35]) (by decide)
  (all_goals refine qgp ?_ <;> (repeat' first | exact trivial | intro hc | refine And.intro ?_ ?_) <;> refine Lf.mk ?_)
  (any_goals (first | (exfalso; refine Bool.false_ne_true ?_; assumption) | (exfalso; refine Bool.false_ne_true (Eq.symm ?_); assumption) | (exfalso; refine absurd trivial ?_; assumption) | skip))
  all_goals first
   | (exfalso; exact absurd (by assumption : ([35] : List UInt8) = [64]) (by decide))
   | (exfalso; exact absurd (by assumption : ([35] : List UInt8) = []) (by decide))
   | skip
  all_goals (refine zb0 q b (zP [35] s).2 line [_, _] (zh2 hv) rfl rfl ?_)
  (all_goals refine qgp (Lf.mk ?_))
  all_goals (dsimp only; rw [hone])
  all_goals exact qe [_, _] rfl rfl rfl (Nat.le_of_eq rfl) (kS _)
 | false =>
  rw [zeU h35]
  (all_goals refine qgp ?_ <;> (repeat' first | exact trivial | intro hc | refine And.intro ?_ ?_) <;> refine Lf.mk ?_)
  (any_goals (first | (exfalso; refine Bool.false_ne_true ?_; assumption) | (exfalso; refine Bool.false_ne_true (Eq.symm ?_); assumption) | (exfalso; refine absurd trivial ?_; assumption) | skip))
  refine vA (ze _ ?_)
  (all_goals refine qgp ?_ <;> (repeat' first | exact trivial | intro hc | refine And.intro ?_ ?_) <;> refine Lf.mk ?_)
  refine zdj q b s [64] line [_, _] (by omega) rfl rfl ?_
  cases h64 : (zP [64] s).1 with
  | true =>
   have hone : yY q line s = zaA q line [64] (zP [64] s).2 := by unfold yY; rw [zxa h35 h64]
   have hsub : ∀ t ∈ (zP [64] s).2.rest, t.text.length ≤ 1000000000 := fun t ht => htx t (zug _ _ t ht)
   have hl2 := zgW (zh2 (c := [64]) hv)
   generalize (zP [64] s).2 = s' at *
   obtain ⟨r, e, a⟩ := s'
   cases r with
   | nil =>
    have hone : yY q line s = (⟨[64], 0, noV⟩, qb ⟨[], e, a⟩ 2 line) := by rw [hone]; exact zpO (show zka [] < 0 by decide)
    (all_goals refine qgp ?_ <;> (repeat' first | exact trivial | intro hc | refine And.intro ?_ ?_) <;> refine Lf.mk ?_)
    (any_goals (first | (exfalso; refine Bool.false_ne_true ?_; assumption) | (exfalso; refine Bool.false_ne_true (Eq.symm ?_); assumption) | (exfalso; refine absurd trivial ?_; assumption) | skip))
    all_goals first
     | (exfalso; exact absurd (by assumption : ¬ ([64] : List UInt8) = [64]) (by decide))
     | skip
    refine kR q b ⟨[], e, a⟩ 2 line [_, _] rfl rfl ?_
    (all_goals refine qgp (Lf.mk ?_))
    dsimp only
    rw [hone]
    exact qe [_, _] rfl rfl rfl (Nat.le_of_eq rfl) (kS _)
   | cons t r =>
    have hl2 : r.length + 1 ≤ 1048576 := hl2
    (all_goals refine qgp ?_ <;> (repeat' first | exact trivial | intro hc | refine And.intro ?_ ?_) <;> refine Lf.mk ?_)
    (any_goals (first | (exfalso; refine Bool.false_ne_true ?_; assumption) | (exfalso; refine Bool.false_ne_true (Eq.symm ?_); assumption) | (exfalso; refine absurd trivial ?_; assumption) | skip))
    all_goals first
     | (exfalso; exact absurd trivial (by assumption))
     | (exfalso; exact absurd (by assumption : ([64] : List UInt8) = []) (by decide))
     | (exfalso; exact absurd (by assumption : ¬ ([64] : List UInt8) = [64]) (by decide))
     | skip
    refine zb zaB t (hsub t List.mem_cons_self) (VS.mk (LeL.of_eq rfl)) ?_
    (all_goals refine qgp ?_ <;> (repeat' first | exact trivial | intro hc | refine And.intro ?_ ?_) <;> refine Lf.mk ?_)
    all_goals first
     | (exfalso; exact absurd trivial (by assumption))
     | (exfalso; exact absurd (by assumption : ([64] : List UInt8) = []) (by decide))
     | (exfalso; exact absurd (by assumption : ¬ ([64] : List UInt8) = [64]) (by decide))
     | skip
    ·have hone : yY q line s = (⟨[64], wK t, noV⟩, ⟨r, e, a⟩) := by rw [hone]; exact znr (.inr rfl) (by assumption)
     dsimp only
     rw [hone]
     exact qe (s' := ⟨r, e, a⟩) [_, _] rfl rfl rfl (Nat.le_of_eq rfl) (kS _)
    ·have hone : yY q line s = (⟨[64], 0, noV⟩, qb ⟨t :: r, e, a⟩ 2 line) := by rw [hone]; exact zpO (show wK t < 0 by omega)
     refine kR q b ⟨t :: r, e, a⟩ 2 line [_, _] rfl rfl ?_
     (all_goals refine qgp (Lf.mk ?_))
     dsimp only
     rw [hone]
     exact qe [_, _] rfl rfl rfl (Nat.le_of_eq rfl) (kS _)
  | false =>
   rw [zeU h64]
   (all_goals refine qgp ?_ <;> (repeat' first | exact trivial | intro hc | refine And.intro ?_ ?_) <;> refine Lf.mk ?_)
   (any_goals (first | (exfalso; refine Bool.false_ne_true ?_; assumption) | (exfalso; refine Bool.false_ne_true (Eq.symm ?_); assumption) | (exfalso; refine absurd trivial ?_; assumption) | skip))
   refine vA (ze _ ?_)
   (all_goals refine qgp ?_ <;> (repeat' first | exact trivial | intro hc | refine And.intro ?_ ?_) <;> refine Lf.mk ?_)
   refine zdj q b s [61] line [_, _] (by omega) rfl rfl ?_
   cases h61 : (zP [61] s).1 with
   | true =>
    have hone : yY q line s = (⟨[61], 0, (xX q line (zP [61] s).2).1⟩, (xX q line (zP [61] s).2).2) := by unfold yY; rw [zxb h35 h64 h61]; exact znq (sg := [61]) (by decide)
    (all_goals refine qgp ?_ <;> (repeat' first | exact trivial | intro hc | refine And.intro ?_ ?_) <;> refine Lf.mk ?_)
    (any_goals (first | (exfalso; refine Bool.false_ne_true ?_; assumption) | (exfalso; refine Bool.false_ne_true (Eq.symm ?_); assumption) | (exfalso; refine absurd trivial ?_; assumption) | skip))
    all_goals first
     | (exfalso; exact absurd (by assumption : ([61] : List UInt8) = [64]) (by decide))
     | (exfalso; exact absurd (by assumption : ([61] : List UInt8) = []) (by decide))
     | skip
    all_goals (refine zb0 q b (zP [61] s).2 line [_, _] (zh2 hv) rfl rfl ?_)
    (all_goals refine qgp (Lf.mk ?_))
    all_goals (dsimp only; rw [hone])
    all_goals exact qe [_, _] rfl rfl rfl (Nat.le_of_eq rfl) (kS _)
   | false =>
    have hone : yY q line s = zaA q line [] s := by unfold yY; rw [zw8 h35 h64 h61]
    rw [zeU h61]
    clear h35 h64 h61
    obtain ⟨r, e, a⟩ := s
    cases r with
    | nil =>
     have hone : yY q line ⟨[], e, a⟩ = (⟨[], 0, (xX q line ⟨[], e, a⟩).1⟩, (xX q line ⟨[], e, a⟩).2) := by rw [hone]; exact zpP (show zka [] < 0 by decide)
     (all_goals refine qgp ?_ <;> (repeat' first | exact trivial | intro hc | refine And.intro ?_ ?_) <;> refine Lf.mk ?_)
     (any_goals (first | (exfalso; refine Bool.false_ne_true ?_; assumption) | (exfalso; refine Bool.false_ne_true (Eq.symm ?_); assumption) | (exfalso; refine absurd trivial ?_; assumption) | skip))
     refine vA (ze _ ?_)
     (all_goals refine qgp ?_ <;> (repeat' first | exact trivial | intro hc | refine And.intro ?_ ?_) <;> refine Lf.mk ?_)
     all_goals first
      | (exfalso; exact absurd trivial (by assumption))
      | (exfalso; exact absurd (by assumption : ([] : List UInt8) = [64]) (by decide))
      | skip
     refine zb0 q b ⟨[], e, a⟩ line [_, _] hv rfl rfl ?_
     (all_goals refine qgp (Lf.mk ?_))
     dsimp only
     rw [hone]
     exact qe [_, _] rfl rfl rfl (Nat.le_of_eq rfl) (kS _)
    | cons t r =>
     have hl2 : r.length + 1 ≤ 1048576 := hl
     (all_goals refine qgp ?_ <;> (repeat' first | exact trivial | intro hc | refine And.intro ?_ ?_) <;> refine Lf.mk ?_)
     (any_goals (first | (exfalso; refine Bool.false_ne_true ?_; assumption) | (exfalso; refine Bool.false_ne_true (Eq.symm ?_); assumption) | (exfalso; refine absurd trivial ?_; assumption) | skip))
     refine vA (ze _ ?_)
     (all_goals refine qgp ?_ <;> (repeat' first | exact trivial | intro hc | refine And.intro ?_ ?_) <;> refine Lf.mk ?_)
     all_goals first
      | (exfalso; exact absurd trivial (by assumption))
      | (exfalso; exact absurd (by assumption : ([] : List UInt8) = [64]) (by decide))
      | (exfalso; exact absurd (by assumption : ¬ ([] : List UInt8) = []) (by decide))
      | skip
     refine zb zaB t (htx t List.mem_cons_self) (VS.mk (LeL.of_eq rfl)) ?_
     (all_goals refine qgp ?_ <;> (repeat' first | exact trivial | intro hc | refine And.intro ?_ ?_) <;> refine Lf.mk ?_)
     all_goals first
      | (exfalso; exact absurd trivial (by assumption))
      | (exfalso; exact absurd (by assumption : ([] : List UInt8) = [64]) (by decide))
      | (exfalso; exact absurd (by assumption : ¬ ([] : List UInt8) = []) (by decide))
      | skip
     ·have hone : yY q line ⟨t :: r, e, a⟩ = (⟨[114], wK t, noV⟩, ⟨r, e, a⟩) := by rw [hone]; exact znr (.inl rfl) (by assumption)
      dsimp only
      rw [hone]
      exact qe (s' := ⟨r, e, a⟩) [_, _] rfl rfl rfl (Nat.le_of_eq rfl) (kS _)
     ·have hone : yY q line ⟨t :: r, e, a⟩ = (⟨[], 0, (xX q line ⟨t :: r, e, a⟩).1⟩, (xX q line ⟨t :: r, e, a⟩).2) := by rw [hone]; exact zpP (show wK t < 0 by omega)
      refine zb0 q b ⟨t :: r, e, a⟩ line [_, _] hv rfl rfl ?_
      (all_goals refine qgp (Lf.mk ?_))
      dsimp only
      rw [hone]
      exact qe [_, _] rfl rfl rfl (Nat.le_of_eq rfl) (kS _)
def wa (s s' : RB) : Prop := s'.rest.length ≤ s.rest.length ∧ wt (s'.rest.map tk) ≤ wt (s.rest.map tk) ∧ ∀ t ∈ s'.rest, t ∈ s.rest
theorem wa.refl (s : RB) : wa s s := ⟨Nat.le_refl _, Nat.le_refl _, fun _ h => h⟩
theorem wa.trans {a b c : RB} (h : wa a b) (k : wa b c) : wa a c := ⟨Nat.le_trans k.1 h.1, Nat.le_trans k.2.1 h.2.1, fun t ht => h.2.2 t (k.2.2 t ht)⟩
theorem wa.fail {s s' : RB} (h : wa s s') (e line : Int) : wa s (qb s' e line) := by
 unfold qb
 split
 ·exact h
 ·exact h
theorem wa.drop {s : RB} (k : Nat) (e a : Int) : wa s ⟨s.rest.drop k, e, a⟩ :=
 ⟨by simp, by show wt ((s.rest.drop k).map tk) ≤ _; rw [List.map_drop]; exact zpN _ _, fun t ht => List.mem_of_mem_drop ht⟩
theorem jK (c : List UInt8) (s : RB) : wa s (zP c s).2 := by
 obtain ⟨r, e, a⟩ := s
 cases r with
 | nil => rw [take_nil]; exact .refl _
 | cons t r =>
  rw [wU]
  split
  ·exact wa.drop (s := ⟨t :: r, e, a⟩) 1 e a
  ·exact .refl _
theorem zq0 (q : List zl) (line : Int) (s : RB) : wa s (xX q line s).2 := by
 unfold xX
 split
 ·dsimp only
  split
  ·exact .drop _ _ _
  ·exact (wa.drop _ _ _).fail _ _
 ·exact (wa.refl s).fail _ _
theorem zsv (s : RB) : wa s (kf s).2 := by
 unfold kf
 split
 ·exact jK _ _
 split
 ·exact jK _ _
 split
 ·exact jK _ _
 ·exact .refl _
theorem zns (q : List zl) (line : Int) (s : RB) : wa s (yY q line s).2 := by
 unfold yY zaA
 refine (zsv s).trans ?_
 split
 ·exact .drop _ _ _
 split
 ·exact (wa.refl _).fail _ _
 ·exact zq0 _ _ _
theorem zq1 (line : Int) (s : RB) : wa s (xM line s) := by
 unfold xM
 split
 ·exact (jK _ _).fail _ _
 ·exact jK _ _
theorem zji (line : Int) (s : RB) (h : (xM line s).fe = 0) : (xM line s).rest.length + 1 ≤ s.rest.length := by
 unfold xM at h ⊢
 split
 ·rename_i hc
  rw [if_pos hc] at h
  exfalso
  unfold qb at h
  split at h
  ·exact absurd (show (2 : Int) = 0 from h) (by decide)
  ·contradiction
 ·rename_i hc
  have ht : (zP [44] s).1 = true := by
   cases h1 : (zP [44] s).1 with
   | true => rfl
   | false => exact absurd (.inl h1) hc
  obtain ⟨r, e, a⟩ := s
  cases r with
  | nil => rw [take_nil] at ht; cases ht
  | cons t r =>
   rw [wU] at ht ⊢
   split at ht
   ·rw [if_pos (by assumption)]; exact Nat.le_refl _
   ·cases ht
theorem wa.val {s s' : RB} {q : List zl} (h : wa s s') (hv : kQ s q) : kQ s' q := ⟨Nat.le_trans h.2.1 hv.1, hv.2⟩
theorem zh3 {q : List zl} {line : Int} {out : List AOp} {s : RB} (h : s.rest = [] ∨ s.fe ≠ 0) : ∀ f, jv q line f out s = (out, s)
 | 0 => rfl
 | f + 1 => by rw [jv, if_pos h]
theorem zsw {q : List zl} {line : Int} {out : List AOp} {s : RB} (f : Nat) (h : ¬ (s.rest = [] ∨ s.fe ≠ 0)) : jv q line (f + 1) out s = if (yY q line s).2.rest = [] then (out ++ [(yY q line s).1], (yY q line s).2)
  else jv q line f (out ++ [(yY q line s).1]) (xM line (yY q line s).2) := by rw [jv, if_neg h]
theorem zsx (line : Int) (s : RB) : xM line s = if (zP [44] s).1 = false ∨ (zP [44] s).2.rest = [] then qb (zP [44] s).2 2 line else (zP [44] s).2 := rfl
attribute [local irreducible] yY xM jv
theorem zuh {av : List D} {L : List Ob} {KP : D → Prop} {KW : D → List Ob → Prop} (q : List zl) (b : Bld) (s : RB) (line : Int) (X : List Ob) (hl : kQ s q) (ht : ∀ t ∈ s.rest, t.text.length ≤ 1000000000) (hL : L = vb q b s line ++ X) (has : av = [.loc 6 0])
  (hK : KW (qm (yY q line s).1) (vb q b (yY q line s).2 line ++ X)) : zn Tryz.prog zct av L KP KW := by
 subst has
 exact y7 zsu X (b, s, q, line) ⟨hl, ht⟩ hL (LeL.refl _) rfl (.cons (.loc (Nat.lt_of_lt_of_le (by decide : 6 < 7) (Nat.le_of_eq rfl))) .nil) (kS _) (zaC _ _ _ _) (zaC _ _ _ _) hK
theorem zsy : za Tryz.prog zcr (ya (fun ((_, s, q, _) : Bld × RB × List zl × Int) => kQ s q ∧ ∀ t ∈ s.rest, t.text.length ≤ 1000000000) (fun _ => [.loc 6 0])
  (fun (b, s, q, line) => vb q b s line) (fun (_, s, q, line) => .sl 4 ((xp q line s).1.map qm) none) fun (b, s, q, line) => vb q b (xp q line s).2 line) := by
 refine zf zj Tryz.func115 rfl (by decide) ?_
 rintro ⟨b, s, q, line⟩ ⟨hv, htx⟩
 have hv : kQ s q := hv
 have htx : ∀ t ∈ s.rest, t.text.length ≤ 1000000000 := htx
 refine ⟨Nat.le_refl _, by simp [Tryz.f115], fun E hE => ?_⟩
 have hl0 := zgW hv
 have hE7 : E.L.length = 7 := by rw [hE]; rfl
 generalize hT : xp q line s = T
 have hT0 : jv q line (s.rest.length + 1) [] s = T := hT
 refine ze _ ?_
 (all_goals refine qgp (Lf.mk ?_))
 refine xF (qK 3 4 rfl) ?_
 refine yN (α := List AOp × RB × Nat) (fun p => wa s p.2.1 ∧ (p.2.1.fe = 0 → p.2.1.rest.length + 1 ≤ p.2.2) ∧ jv q line p.2.2 p.1 p.2.1 = T ∧ p.1.length + p.2.1.rest.length ≤ s.rest.length + 1 ∧ (p.2.1.fe = 0 → p.1.length + p.2.1.rest.length ≤ s.rest.length))
  (fun p => [(0, .loc 6 0), (3, .sl 4 (p.1.map qm) (some 7))]) (fun p => vb q b p.2.1 line ++ [.spare p.1.length]) (fun p => p.2.1.rest.length + if p.2.1.fe = 0 then 1 else 0) (fun _ => by rw [hE7]; exact Nat.le_succ 7) ([], s, s.rest.length + 1)
  ⟨.refl _, fun _ => Nat.le_refl _, hT0, by simp, fun _ => by simp⟩ ?_ ?_
 ·exact yn rfl ⟨rfl, rfl, trivial⟩
 rintro ⟨out, s1, f⟩ ⟨i1, i2, i3, i4, i5⟩
 dsimp only at i1 i2 i3 i4 i5 ⊢
 have hv1 := i1.val hv
 have hl1 := zgW hv1
 refine ze _ ?_
 (all_goals refine qgp ?_ <;> (repeat' first | exact trivial | intro hc | refine And.intro ?_ ?_) <;> refine Lf.mk ?_)
 ·have hfe : s1.fe = 0 := hc
  have hne : s1.rest ≠ [] := fun h => by simp only [h, List.length_nil] at *; omega
  have hf := i2 hfe
  have hol := i5 hfe
  obtain ⟨f, rfl⟩ : ∃ g, f = g + 1 := ⟨f - 1, by omega⟩
  rw [zsw f (fun e => e.elim hne (fun e => e hfe))] at i3
  have hone := zns q line s1
  refine zuh q b s1 line [_] hv1 (fun t ht => htx t (i1.2.2 t ht)) rfl rfl ?_
  generalize yY q line s1 = W at *
  obtain ⟨o, s2⟩ := W
  dsimp only at i3 hone ⊢
  have hl2 := hone.1
  (all_goals refine qgk (Lf.mk ?_))
  refine wZ ((out ++ [o]).map qm) (by rw [List.map_append]; rfl) ?_
  rw [List.length_map]
  (all_goals refine qgp ?_ <;> (repeat' first | exact trivial | intro hc | refine And.intro ?_ ?_) <;> refine Lf.mk ?_)
  ·have hre : s2.rest = [] := List.eq_nil_of_length_eq_zero (by omega)
   rw [if_pos hre] at i3
   refine v6 (LeD.strip _ _ _) ?_ (Nat.le_of_eq rfl)
   rw [hT, ← i3]
   exact qe [_] rfl rfl rfl (Nat.le_of_eq rfl) .sl
  ·have hre : ¬ s2.rest = [] := fun h => by rw [h] at hc; exact hc rfl
   rw [if_neg hre] at i3
   have hl3 := jK [44] s2
   have hcl := zq1 line s2
   have hce := zji line s2
   have hcd : xM line s2 = if (zP [44] s2).1 = false ∨ (zP [44] s2).2.rest = [] then qb (zP [44] s2).2 2 line else (zP [44] s2).2 := zsx line s2
   refine zdj q b s2 [44] line [_] (by omega) rfl rfl ?_
   generalize zP [44] s2 = Y at *
   obtain ⟨y, s3⟩ := Y
   dsimp only at hcd hl3 ⊢
   have hl3 := hl3.1
   have hcl1 := hcl.1
   have hI : wa s (xM line s2) ∧ ((xM line s2).fe = 0 → (xM line s2).rest.length + 1 ≤ f) ∧ jv q line f (out ++ [o]) (xM line s2) = T ∧ (out ++ [o]).length + (xM line s2).rest.length ≤ s.rest.length + 1 ∧
     ((xM line s2).fe = 0 → (out ++ [o]).length + (xM line s2).rest.length ≤ s.rest.length) := by
    refine ⟨i1.trans (hone.trans hcl), fun h => by have := hce h; omega, i3, ?_, fun h => ?_⟩
    ·rw [List.length_append, List.length_singleton]; omega
    ·have := hce h; rw [List.length_append, List.length_singleton]; omega
   have hmu : (xM line s2).rest.length + (if (xM line s2).fe = 0 then 1 else 0) < s1.rest.length + (if s1.fe = 0 then 1 else 0) := by
    rw [if_pos hfe]
    by_cases h : (xM line s2).fe = 0
    ·have := hce h; rw [if_pos h]; omega
    ·rw [if_neg h]; omega
   generalize xM line s2 = s4 at *
   (all_goals refine qgp ?_ <;> (repeat' first | exact trivial | intro hc | refine And.intro ?_ ?_) <;> refine Lf.mk ?_)
   ·rw [if_pos (.inl hc)] at hcd
    refine kR q b s3 2 line [_] rfl rfl ?_
    rw [← hcd]
    (all_goals refine qgp (Lf.mk ?_))
    exact yJ (out ++ [o], s4, f) hI hmu rfl ⟨rfl, rfl, trivial⟩
   ·rw [if_pos (.inr (List.eq_nil_of_length_eq_zero (by omega)))] at hcd
    refine kR q b s3 2 line [_] rfl rfl ?_
    rw [← hcd]
    (all_goals refine qgp (Lf.mk ?_))
    exact yJ (out ++ [o], s4, f) hI hmu rfl ⟨rfl, rfl, trivial⟩
   ·have hy : y = true := by assumption
    rw [if_neg (fun e => e.elim (fun h => by rw [hy] at h; cases h) (fun h => by rw [h] at hc; exact hc rfl))] at hcd
    rw [← hcd]
    exact yJ (out ++ [o], s4, f) hI hmu rfl ⟨rfl, rfl, trivial⟩
 ·have hfe : s1.fe ≠ 0 := hc
  rw [zh3 (.inr hfe)] at i3
  refine v6 (LeD.strip _ _ _) ?_ (Nat.le_of_eq rfl)
  rw [hT, ← i3]
  exact qe [_] rfl rfl rfl (Nat.le_of_eq rfl) .sl
 ·have hre : s1.rest = [] := List.eq_nil_of_length_eq_zero (by omega)
  rw [zh3 (.inl hre)] at i3
  refine v6 (LeD.strip _ _ _) ?_ (Nat.le_of_eq rfl)
  rw [hT, ← i3]
  exact qe [_] rfl rfl rfl (Nat.le_of_eq rfl) .sl
end Go.Proofs.YtnkdeacghopkiaaGreatDoor
namespace Go.Proofs.YtnkdeacghopkiaaGreatDoor
open Go Go.Plat
set_option linter.unusedVariables false
set_option linter.unusedSimpArgs false
set_option maxRecDepth 100000
set_option maxHeartbeats 2000000
attribute [local irreducible] AWP zA yh zE zn yu z6 zF zX Lib.itoa zY zq za zL yv zo zZ zg.kids zg.kind zg.n zg.name yq yr yj ym zr zu xp zz xl xe yD yY xQ wK zP
theorem zU {n0 : Nat} {q : List zl} {b b' : Bld} {r d : D} {L : List Ob} (X : List Ob) (hL : L = bO q b' ++ X) (hb : b' = b) (hr : r = d) (hn : n0 ≤ 6) (hd : ClD 6 d) : zF n0 r d L (bO q b) := by
 subst hb; subst hr
 exact vU (bO q b') X hL hn hd (xf _ _)
theorem zeV : za Tryz.prog kU (ya (fun ((b, _, _) : Bld × zp × List zl) => b.items.length ≤ 1000000) (fun (_, x, _) => [.loc 0 0, xn x])
  (fun (b, _, q) => bO q b) (fun _ => .tup []) fun (b, x, q) => bO q (xt b x)) := by
 refine zf zj Tryz.func119 rfl (by decide) ?_
 rintro ⟨b, x, q⟩ hl
 have hl : b.items.length ≤ 1000000 := hl
 refine ⟨Nat.le_refl _, by simp [Tryz.f119], fun E hE => ?_⟩
 refine ze _ ?_
 (all_goals refine qgk (Lf.mk ?_))
 refine wZ ((b.items ++ [x]).map xn) (by rw [List.map_append]; rfl) ?_
 rw [List.length_map]
 (all_goals refine qgk (Lf.mk ?_))
 exact zU (b' := xt b x) [_] rfl rfl rfl (Nat.le_of_eq rfl) .tup0
theorem znt {n : Nat} (x : zp) : ClD n (xn x) := .agg (.cons .int (.cons .int (.cons .int (.cons .int (.cons .int (.cons .int (.cons .int (.cons .bool (.cons .int (.cons .str (.cons .int (.cons .int (.cons .int .nil)))))))))))))
theorem yE {av : List D} {L : List Ob} {KP : D → Prop} {KW : D → List Ob → Prop} (q : List zl) (b : Bld) (x : zp) (X : List Ob) (hl : b.items.length ≤ 1000000) (hL : L = bO q b ++ X) (has : LeL av [.loc 0 0, xn x])
  (hK : KW (.tup []) (bO q (xt b x) ++ X)) : zn Tryz.prog kU av L KP KW := by
 refine zb9 has ?_
 exact y7 zeV X (b, x, q) hl hL (LeL.refl _) rfl (.cons (.loc (Nat.lt_of_lt_of_le (by decide : 0 < 6) (Nat.le_of_eq rfl))) (.cons (znt x) .nil)) .tup0 (xf _ _) (xf _ _) hK
theorem yM {k at_ line : Int} {i : Ins} {size : Int} {v : zw} {p x : Int} : LeL [.loc 0 0, .agg [.int .i64 k, .int .i64 at_, .int .i64 line, .int .i64 i.op, .int .i64 i.n, .int .i64 i.m, .int .i64 i.imm, .ff, .int .i64 size, .str v.name, .int .i64 v.n, .int .i64 p, .int .i64 x]]
  [.loc 0 0, xn ⟨k, at_, line, i, false, size, v, p, x⟩] :=
 .cons (.refl _) (.cons (.agg (.cons (.refl _) (.cons (.refl _) (.cons (.refl _) (.cons (.refl _) (.cons (.refl _) (.cons (.refl _) (.cons (.refl _) (.cons (.ff rfl) (.refl _)))))))))) .nil)
theorem qn (b : Bld) (e line : Int) : (yG b e line).items = b.items := by unfold yG; split <;> rfl
theorem znu : za Tryz.prog zaj (ya (fun ((b, l, _, _) : Bld × List AOp × Int × List zl) => b.items.length ≤ 1000000 ∧ l.length ≤ 1000000000) (fun (_, l, line, _) => [.loc 0 0, .sl 4 (l.map qm) none, .int .i64 line])
  (fun (b, _, _, q) => bO q b) (fun _ => .tup []) fun (b, l, line, q) => bO q (qZ b l line)) := by
 refine zf zj Tryz.func117 rfl (by decide) ?_
 rintro ⟨b, l, line, q⟩ ⟨hb, hl⟩
 have hb : b.items.length ≤ 1000000 := hb
 have hl : l.length ≤ 1000000000 := hl
 refine ⟨Nat.le_refl _, by simp [Tryz.f117], fun E hE => ?_⟩
 match l, hl with
 | [], _ =>
  refine ze _ ?_
  (all_goals refine qgp ?_ <;> (repeat' first | exact trivial | intro hc | refine And.intro ?_ ?_) <;> refine Lf.mk ?_)
  refine yU q b 2 line [] rfl rfl ?_
  (all_goals refine qgp (Lf.mk ?_))
  exact zU [] rfl rfl rfl (Nat.le_of_eq rfl) .tup0
 | [o], _ =>
  have hA : qZ b [o] line = if o.sign ≠ [] ∨ o.val.name ≠ [] then yG b 2 line else if o.val.n ≠ 1 ∧ o.val.n ≠ 2 ∧ o.val.n ≠ 4 ∧ o.val.n ≠ 8 ∧ o.val.n ≠ 16 then yG b 3 line
    else xt b ⟨8, 0, line, noI, false, o.val.n, noV, 0, 0⟩ := by
   unfold qZ
   by_cases h : o.sign ≠ [] ∨ o.val.name ≠ []
   ·rw [if_pos h, if_pos (.inr h)]
   ·rw [if_neg h, if_neg (fun e => e.elim (fun e => e rfl) h)]; rfl
  refine ze _ ?_
  (all_goals refine qgp ?_ <;> (repeat' first | exact trivial | intro hc | refine And.intro ?_ ?_) <;> refine Lf.mk ?_)
  ·refine yU q b 2 line [] rfl rfl ?_
   (all_goals refine qgp (Lf.mk ?_))
   exact zU [] rfl (by rw [hA, if_pos (.inl hc)]) rfl (Nat.le_of_eq rfl) .tup0
  ·refine yU q b 2 line [] rfl rfl ?_
   (all_goals refine qgp (Lf.mk ?_))
   exact zU [] rfl (by rw [hA, if_pos (.inr hc)]) rfl (Nat.le_of_eq rfl) .tup0
  ·refine yU q b 3 line [] rfl rfl ?_
   (all_goals refine qgp (Lf.mk ?_))
   exact zU [] rfl (by rw [hA, if_neg (fun e => e.elim (fun e => e (by assumption)) (fun e => e (by assumption))), if_pos ⟨by assumption, by assumption, by assumption, by assumption, hc⟩]) rfl (Nat.le_of_eq rfl) .tup0
  all_goals
   refine yE q b ⟨8, 0, line, noI, false, o.val.n, noV, 0, 0⟩ [] hb rfl yM ?_
   (all_goals refine qgp (Lf.mk ?_))
   exact zU [] rfl (by rw [hA, if_neg (fun e => e.elim (fun e => e (by assumption)) (fun e => e (by assumption))), if_neg (fun e => by omega)]) rfl (Nat.le_of_eq rfl) .tup0
 | o :: o2 :: l, _ =>
  refine ze _ ?_
  (all_goals refine qgp ?_ <;> (repeat' first | exact trivial | intro hc | refine And.intro ?_ ?_) <;> refine Lf.mk ?_)
  refine yU q b 2 line [] rfl rfl ?_
  (all_goals refine qgp (Lf.mk ?_))
  exact zU [] rfl (by unfold qZ; rw [if_pos (.inl (by simp))]) rfl (Nat.le_of_eq rfl) .tup0
theorem zq2 (size line : Int) (b : Bld) (o : AOp) : (va size line b o).items.length = b.items.length + 1 := by
 unfold va xt
 dsimp only
 rw [List.length_append, List.length_singleton]
 split
 ·rw [qn]
 split
 ·rw [qn]
 split
 ·rw [qn]
 ·rfl
theorem zo7 : za Tryz.prog zbj (ya (fun ((b, size, l, _, _) : Bld × Int × List AOp × Int × List zl) => b.items.length + l.length ≤ 1000000 ∧ (size = 1 ∨ size = 2 ∨ size = 4)) (fun (_, size, l, line, _) => [.loc 0 0, .int .i64 size, .sl 4 (l.map qm) none, .int .i64 line])
  (fun (b, _, _, _, q) => bO q b) (fun _ => .tup []) fun (b, size, l, line, q) => bO q (jk b size l line)) := by
 refine zf zj Tryz.func116 rfl (by decide) ?_
 rintro ⟨b, size, l, line, q⟩ ⟨hb, hs⟩
 have hb : b.items.length + l.length ≤ 1000000 := hb
 have hs : size = 1 ∨ size = 2 ∨ size = 4 := hs
 have hE6 : ∀ E : xk, E.L = bO q b → E.L.length = 6 := fun E h => by rw [h]; rfl
 refine ⟨Nat.le_refl _, by simp [Tryz.f116], fun E hE => ?_⟩
 have hE6 := hE6 E hE
 obtain ⟨s, m, hz1, hz2, hz3, hz4, hz5, hz6, hz7, hz8⟩ : ∃ (s : Nat) (m : Int), 8 * size - 1 = (s : Int) ∧ s ≤ 60 ∧ (2 : Int) ^ s = m ∧ (2 : Int) ^ (s + 1) = m * 2 ∧ 0 ≤ m ∧ m ≤ 2147483648 ∧ zw6 size = -m ∧ zvb size = m * 2 - 1 := by
  rcases hs with rfl | rfl | rfl
  ·exact ⟨7, 128, by decide, by decide, by decide, by decide, by decide, by decide, by decide, by decide⟩
  ·exact ⟨15, 32768, by decide, by decide, by decide, by decide, by decide, by decide, by decide, by decide⟩
  ·exact ⟨31, 2147483648, by decide, by decide, by decide, by decide, by decide, by decide, by decide, by decide⟩
 generalize hT : jk b size l line = T
 have hT0 : l.foldl (va size line) (if l = [] then yG b 2 line else b) = T := hT
 refine ze _ ?_
 (all_goals refine qgp ?_ <;> (repeat' first | exact trivial | intro hc | refine And.intro ?_ ?_) <;> refine Lf.mk ?_)
 ·have hnil : l = [] := List.eq_nil_of_length_eq_zero (by have hc : ((l.length : Nat) : Int) = 0 := hc; omega)
  subst hnil
  refine yU q b 2 line [] rfl rfl ?_
  (all_goals refine qgp (Lf.mk ?_))
  refine qO (ze _ ?_)
  (all_goals refine qgp ?_ <;> (repeat' first | exact trivial | intro hc | refine And.intro ?_ ?_) <;> refine Lf.mk ?_)
  exact zU [] rfl (by rw [hT, ← hT0]; rfl) rfl (Nat.le_of_eq rfl) .tup0
 ·have hne : ¬ l = [] := fun h => by rw [h] at hc; exact hc rfl
  rw [if_neg hne] at hT0
  refine yN (α := Nat × Bld) (fun p => p.1 ≤ l.length ∧ (l.drop p.1).foldl (va size line) p.2 = T ∧ p.2.items.length + (l.length - p.1) ≤ 1000000)
   (fun p => [(0, .loc 0 0), (1, .int .i64 size), (3, .int .i64 line), (18, .sl 4 (l.map qm) none), (19, .int .i64 l.length), (20, .int .i64 p.1)]) (fun p => bO q p.2) (fun p => l.length - p.1) (fun _ => by rw [hE6]; exact Nat.le_refl 6) (0, b)
   ⟨Nat.zero_le _, hT0, by dsimp only; omega⟩ ?_ ?_
  ·exact yn rfl ⟨rfl, rfl, rfl, rfl, rfl, rfl, trivial⟩
  rintro ⟨k, b1⟩ ⟨i1, i2, i3⟩
  dsimp only at i1 i2 i3 ⊢
  refine ze _ ?_
  (all_goals refine qgp ?_ <;> (repeat' first | exact trivial | intro hc | refine And.intro ?_ ?_) <;> refine Lf.mk ?_)
  ·obtain ⟨o, ho⟩ := yf (l := l) (k := k) (by omega)
   have hkl : k < l.length := by omega
   have hget : l[k] = o := by rw [List.getElem?_eq_getElem hkl] at ho; exact Option.some.inj ho
   rw [List.drop_eq_getElem_cons hkl, hget, List.foldl_cons] at i2
   have hit := zq2 size line b1 o
   refine zk o (by omega) (by simpa using ho) ?_
   (all_goals refine qgp (Lf.mk ?_))
   refine qv (s := s) (m := m) hz1 (by omega) hz3 (by omega) (by omega) ?_
   (all_goals refine qgp (Lf.mk ?_))
   refine qv (s := s + 1) (m := m * 2) (by omega) (by omega) hz4 (by omega) (by omega) ?_
   (all_goals refine qgp ?_ <;> (repeat' first | exact trivial | intro hc | refine And.intro ?_ ?_) <;> refine Lf.mk ?_)
   all_goals first
    | (exfalso; exact absurd (by assumption : o.val.name = []) (by assumption))
    | skip
   ·have hd : va size line b1 o = xt (yG b1 2 line) ⟨7, 0, line, noI, false, size, o.val, 0, 0⟩ := by unfold va; rw [if_pos hc]
    rw [hd] at i2 hit
    refine yU q b1 2 line [_] rfl rfl ?_
    (all_goals refine qgp (Lf.mk ?_))
    refine yE q (yG b1 2 line) ⟨7, 0, line, noI, false, size, o.val, 0, 0⟩ [_] (by rw [qn]; omega) rfl yM ?_
    (all_goals refine qgp (Lf.mk ?_))
    exact w8 (k + 1, xt (yG b1 2 line) ⟨7, 0, line, noI, false, size, o.val, 0, 0⟩) [_] ⟨by show k + 1 ≤ _; omega, i2, by dsimp only; rw [hit]; omega⟩ (by dsimp only; omega) rfl (by rw [hE6]; exact Nat.le_refl 6) (xf _ _) ⟨rfl, rfl, rfl, rfl, rfl, rfl, trivial⟩
     (.cons (.loc (Nat.lt_of_lt_of_le (by decide : 0 < 6) (Nat.le_of_eq rfl))) (.cons .int (.cons .int (.cons .sl (.cons .int (.cons .int .nil))))))
   ·have hd : va size line b1 o = xt (yG b1 8 line) ⟨7, 0, line, noI, false, size, o.val, 0, 0⟩ := by unfold va; rw [if_neg (fun h => h (by assumption)), if_pos ⟨by assumption, hc⟩]
    rw [hd] at i2 hit
    refine yU q b1 8 line [_] rfl rfl ?_
    (all_goals refine qgp (Lf.mk ?_))
    refine yE q (yG b1 8 line) ⟨7, 0, line, noI, false, size, o.val, 0, 0⟩ [_] (by rw [qn]; omega) rfl yM ?_
    (all_goals refine qgp (Lf.mk ?_))
    exact w8 (k + 1, xt (yG b1 8 line) ⟨7, 0, line, noI, false, size, o.val, 0, 0⟩) [_] ⟨by show k + 1 ≤ _; omega, i2, by dsimp only; rw [hit]; omega⟩ (by dsimp only; omega) rfl (by rw [hE6]; exact Nat.le_refl 6) (xf _ _) ⟨rfl, rfl, rfl, rfl, rfl, rfl, trivial⟩
     (.cons (.loc (Nat.lt_of_lt_of_le (by decide : 0 < 6) (Nat.le_of_eq rfl))) (.cons .int (.cons .int (.cons .sl (.cons .int (.cons .int .nil))))))
   ·have hd : va size line b1 o = xt b1 ⟨7, 0, line, noI, false, size, o.val, 0, 0⟩ := by unfold va; rw [if_neg (fun h => h (by assumption)), if_neg (fun h => absurd h.2 (by assumption)), if_neg (fun h => absurd h.1 (by assumption))]
    rw [hd] at i2 hit
    refine yE q b1 ⟨7, 0, line, noI, false, size, o.val, 0, 0⟩ [_] (by omega) rfl yM ?_
    (all_goals refine qgp (Lf.mk ?_))
    exact w8 (k + 1, xt b1 ⟨7, 0, line, noI, false, size, o.val, 0, 0⟩) [_] ⟨by show k + 1 ≤ _; omega, i2, by dsimp only; rw [hit]; omega⟩ (by dsimp only; omega) rfl (by rw [hE6]; exact Nat.le_refl 6) (xf _ _) ⟨rfl, rfl, rfl, rfl, rfl, rfl, trivial⟩
     (.cons (.loc (Nat.lt_of_lt_of_le (by decide : 0 < 6) (Nat.le_of_eq rfl))) (.cons .int (.cons .int (.cons .sl (.cons .int (.cons .int .nil))))))
   ·have hd : va size line b1 o = xt (yG b1 3 line) ⟨7, 0, line, noI, false, size, o.val, 0, 0⟩ := by unfold va; rw [if_neg (fun h => h (by assumption)), if_neg (fun h => absurd (by assumption) h.1), if_pos ⟨by assumption, .inl (by rw [hz7]; omega)⟩]
    rw [hd] at i2 hit
    refine yU q b1 3 line [_] rfl rfl ?_
    (all_goals refine qgp (Lf.mk ?_))
    refine yE q (yG b1 3 line) ⟨7, 0, line, noI, false, size, o.val, 0, 0⟩ [_] (by rw [qn]; omega) rfl yM ?_
    (all_goals refine qgp (Lf.mk ?_))
    exact w8 (k + 1, xt (yG b1 3 line) ⟨7, 0, line, noI, false, size, o.val, 0, 0⟩) [_] ⟨by show k + 1 ≤ _; omega, i2, by dsimp only; rw [hit]; omega⟩ (by dsimp only; omega) rfl (by rw [hE6]; exact Nat.le_refl 6) (xf _ _) ⟨rfl, rfl, rfl, rfl, rfl, rfl, trivial⟩
     (.cons (.loc (Nat.lt_of_lt_of_le (by decide : 0 < 6) (Nat.le_of_eq rfl))) (.cons .int (.cons .int (.cons .sl (.cons .int (.cons .int .nil))))))
   ·have hd : va size line b1 o = xt (yG b1 3 line) ⟨7, 0, line, noI, false, size, o.val, 0, 0⟩ := by unfold va; rw [if_neg (fun h => h (by assumption)), if_neg (fun h => absurd (by assumption) h.1), if_pos ⟨by assumption, .inr (by rw [hz8]; omega)⟩]
    rw [hd] at i2 hit
    refine yU q b1 3 line [_] rfl rfl ?_
    (all_goals refine qgp (Lf.mk ?_))
    refine yE q (yG b1 3 line) ⟨7, 0, line, noI, false, size, o.val, 0, 0⟩ [_] (by rw [qn]; omega) rfl yM ?_
    (all_goals refine qgp (Lf.mk ?_))
    exact w8 (k + 1, xt (yG b1 3 line) ⟨7, 0, line, noI, false, size, o.val, 0, 0⟩) [_] ⟨by show k + 1 ≤ _; omega, i2, by dsimp only; rw [hit]; omega⟩ (by dsimp only; omega) rfl (by rw [hE6]; exact Nat.le_refl 6) (xf _ _) ⟨rfl, rfl, rfl, rfl, rfl, rfl, trivial⟩
     (.cons (.loc (Nat.lt_of_lt_of_le (by decide : 0 < 6) (Nat.le_of_eq rfl))) (.cons .int (.cons .int (.cons .sl (.cons .int (.cons .int .nil))))))
   ·have hd : va size line b1 o = xt b1 ⟨7, 0, line, noI, false, size, o.val, 0, 0⟩ := by unfold va; rw [if_neg (fun h => h (by assumption)), if_neg (fun h => absurd (by assumption) h.1), if_neg (fun h => by rw [hz7, hz8] at h; omega)]
    rw [hd] at i2 hit
    refine yE q b1 ⟨7, 0, line, noI, false, size, o.val, 0, 0⟩ [_] (by omega) rfl yM ?_
    (all_goals refine qgp (Lf.mk ?_))
    exact w8 (k + 1, xt b1 ⟨7, 0, line, noI, false, size, o.val, 0, 0⟩) [_] ⟨by show k + 1 ≤ _; omega, i2, by dsimp only; rw [hit]; omega⟩ (by dsimp only; omega) rfl (by rw [hE6]; exact Nat.le_refl 6) (xf _ _) ⟨rfl, rfl, rfl, rfl, rfl, rfl, trivial⟩
     (.cons (.loc (Nat.lt_of_lt_of_le (by decide : 0 < 6) (Nat.le_of_eq rfl))) (.cons .int (.cons .int (.cons .sl (.cons .int (.cons .int .nil))))))
  ·have hk : k = l.length := by omega
   subst hk
   rw [List.drop_length] at i2
   exact zU [] rfl (by rw [hT]; exact i2) rfl (Nat.le_of_eq rfl) .tup0
theorem zui (a : List (List zw)) (c : List zw) : ∀ (i : Nat) d d', (a.map y9 ++ [.sl 2 (c.map yI) (some 5)])[i]? = some d → ((a ++ [c]).map y9)[i]? = some d' → LeL d.cells d'.cells := by
 intro i d d' h1 h2
 rw [List.map_append] at h2
 rcases Nat.lt_or_ge i (a.map y9).length with h | h
 ·rw [List.getElem?_append_left h] at h1 h2
  rw [h1] at h2
  cases h2
  exact LeL.refl _
 ·rw [List.getElem?_append_right h] at h1 h2
  cases hi : i - (a.map y9).length with
  | zero =>
   rw [hi] at h1 h2
   cases h1
   cases h2
   exact .cons (.strip _ _ _) .nil
  | succ j => rw [hi] at h1; simp at h1
theorem zo8 : za Tryz.prog zbh (ya (fun ((b, _, _) : Bld × Int × List zl) => b.items.length ≤ 1000000 ∧ b.shut.length ≤ 1000000) (fun (_, line, _) => [.loc 0 0, .int .i64 line])
  (fun (b, _, q) => bO q b) (fun _ => .tup []) fun (b, line, q) => bO q (vM b line)) := by
 refine zf zj Tryz.func88 rfl (by decide) ?_
 rintro ⟨⟨items, syms, marks, shut, has, cur, fe, fa⟩, line, q⟩ ⟨hl, hp⟩
 have hl : items.length ≤ 1000000 := hl
 have hp : shut.length ≤ 1000000 := hp
 refine ⟨Nat.le_refl _, by simp [Tryz.f88], fun E hE => ?_⟩
 cases has with
 | false =>
  have hlen : (zM ⟨items, syms, marks, shut, false, cur, fe, fa⟩).length = shut.length := by unfold zM; simp
  refine ze _ ?_
  (all_goals refine qgp ?_ <;> (repeat' first | exact trivial | intro hc | refine And.intro ?_ ?_) <;> refine Lf.mk ?_)
  exact zU (b' := ⟨items, syms, marks, shut, false, cur, fe, fa⟩) [] rfl rfl rfl (Nat.le_of_eq rfl) .tup0
 | true =>
  have hlen : (zM ⟨items, syms, marks, shut, true, cur, fe, fa⟩).length = shut.length + 1 := by unfold zM; simp
  refine ze _ ?_
  (all_goals refine qgp ?_ <;> (repeat' first | exact trivial | intro hc | refine And.intro ?_ ?_) <;> refine Lf.mk ?_)
  refine yE q ⟨items, syms, marks, shut, true, cur, fe, fa⟩ ⟨9, 0, line, noI, false, 0, noV, shut.length, 0⟩ [] hl rfl yM ?_
  (all_goals refine qgp (Lf.mk ?_))
  refine qu (by show (-9223372036854775808 : Int) ≤ (shut.length : Int) + 1; omega) (by show (shut.length : Int) + 1 ≤ 9223372036854775807; omega) ?_
  (all_goals refine qgp (Lf.mk ?_))
  refine zvx (k := 4) (e := 1) (ds := shut.map y9 ++ [.sl 2 (cur.map yI) (some 5)]) ((shut ++ [cur]).map y9) rfl (by simp) (zui shut cur) ?_ (Nat.le_of_eq rfl)
  refine ztM (k := 5) (Nat.le_of_eq rfl) ?_ (Nat.le_of_eq rfl)
  refine y6 rfl ?_
  show [Ob.cells _, _, _, _, _, _] = bO q ⟨items ++ [⟨9, 0, line, noI, false, 0, noV, shut.length, 0⟩], syms, marks, shut ++ [cur], false, [], fe, fa⟩
  unfold bO bC bT zdJ zM xt
  simp
theorem zgf : za Tryz.prog kV (zx (fun ((l, _) : List zw × zw) => l.length ≤ 1000000000) (fun (l, x) => [.sl 2 (l.map yI) none, yI x]) fun (l, x) => .int .i64 (wo x l 0)) := by
 refine zf zj Tryz.func176 rfl (by decide) ?_
 rintro ⟨l, x⟩ hl
 have hl : l.length ≤ 1000000000 := hl
 refine ⟨Nat.le_refl _, by simp [Tryz.f176], fun E hE => ?_⟩
 refine ze _ ?_
 (all_goals refine qgo (Lf.mk ?_))
 refine yN (α := Nat) (fun k => k ≤ l.length ∧ wo x l 0 = wo x (l.drop k) k)
  (fun k => [(7, .int .i64 l.length), (8, .int .i64 k), (0, .sl 2 (l.map yI) none), (3, .loc 0 0)])
  (fun _ => [.cells [.str x.name, .int .i64 x.n]]) (fun k => l.length - k) (fun _ => by rw [hE]; exact Nat.zero_le _) 0 ⟨Nat.zero_le _, by simp⟩ ?_ ?_
 ·exact yn rfl ⟨rfl, rfl, rfl, rfl, trivial⟩
 rintro k ⟨hk, hf⟩
 refine ze _ ?_
 (all_goals refine qgo ?_ <;> (repeat' first | exact trivial | intro hc | refine And.intro ?_ ?_) <;> refine Lf.mk ?_)
 ·obtain ⟨s, hsk⟩ := yf (l := l) (k := k) (by omega)
  have hkl : k < l.length := by omega
  have hget : l[k] = s := by rw [List.getElem?_eq_getElem hkl] at hsk; exact Option.some.inj hsk
  rw [List.drop_eq_getElem_cons hkl, hget, wo] at hf
  refine zk s (by omega) (by simpa using hsk) ?_
  (all_goals refine qgo (Lf.mk ?_))
  refine ztA [.str, .int .i64] (by kernel_rfl) rfl ?_
  cases hb : (x.name == s.name && (x.n == s.n && true)) with
  | true =>
   rw [Bool.and_true, Bool.and_eq_true, beq_iff_eq, beq_iff_eq] at hb
   rw [if_pos ⟨hb.1.symm, hb.2.symm⟩] at hf
   (all_goals refine qgo ?_ <;> (repeat' first | exact trivial | intro hc | refine And.intro ?_ ?_) <;> refine Lf.mk ?_)
   (any_goals (first | (exfalso; refine Bool.false_ne_true ?_; assumption) | (exfalso; refine Bool.false_ne_true (Eq.symm ?_); assumption) | (exfalso; refine absurd trivial ?_; assumption) | skip))
   exact zd (VS.mk (LeD.of_eq (congrArg (D.int .i64) hf.symm)))
  | false =>
   have hne : ¬ (s.name = x.name ∧ s.n = x.n) := fun h => by rw [h.1, h.2] at hb; simp at hb
   rw [if_neg hne] at hf
   (all_goals refine qgo ?_ <;> (repeat' first | exact trivial | intro hc | refine And.intro ?_ ?_) <;> refine Lf.mk ?_)
   (any_goals (first | (exfalso; refine Bool.false_ne_true ?_; assumption) | (exfalso; refine Bool.false_ne_true (Eq.symm ?_); assumption) | (exfalso; refine absurd trivial ?_; assumption) | skip))
   exact yJ (k + 1) ⟨by omega, hf⟩ (by omega) rfl ⟨rfl, rfl, rfl, rfl, trivial⟩
 ·rw [List.drop_of_length_le (by omega), wo] at hf
  exact zd (VS.mk (LeD.of_eq (congrArg (D.int .i64) hf.symm)))
theorem zuj {v : zw} {l : List zw} (h : ¬ wo v l 0 < 0) : w2 v l = wo v l 0 ∧ w1 v l = l := by unfold w2 w1; rw [if_neg h, if_neg h]; exact ⟨rfl, rfl⟩
theorem zuk {v : zw} {l : List zw} (h : wo v l 0 < 0) : w2 v l = l.length ∧ w1 v l = l ++ [v] := by unfold w2 w1; rw [if_pos h, if_pos h]; exact ⟨rfl, rfl⟩
attribute [local irreducible] wo w2 w1
theorem zsz : za Tryz.prog qy (ya (fun ((b, _, _, _, _) : Bld × zw × Int × Int × List zl) => b.has = true ∧ b.items.length ≤ 1000000 ∧ b.shut.length ≤ 1000000 ∧ b.cur.length ≤ 1000000) (fun (_, v, reg, line, _) => [.loc 0 0, yI v, .int .i64 reg, .int .i64 line])
  (fun (b, _, _, _, q) => bO q b) (fun _ => .tup []) fun (b, v, reg, line, q) => bO q (kE b v reg line)) := by
 refine zf zj Tryz.func155 rfl (by decide) ?_
 rintro ⟨⟨items, syms, marks, shut, has, cur, fe, fa⟩, v, reg, line, q⟩ ⟨hh, hl, hp, hcu⟩
 have hh : has = true := hh
 subst hh
 have hl : items.length ≤ 1000000 := hl
 have hp : shut.length ≤ 1000000 := hp
 have hcu : cur.length ≤ 1000000 := hcu
 have hlen : (zM ⟨items, syms, marks, shut, true, cur, fe, fa⟩).length = shut.length + 1 := by unfold zM; simp
 refine ⟨Nat.le_refl _, by simp [Tryz.f155], fun E hE => ?_⟩
 refine ze _ ?_
 (all_goals refine qgp ?_ <;> (repeat' first | exact trivial | intro hc | refine And.intro ?_ ?_) <;> refine Lf.mk ?_)
 have hget : (zM ⟨items, syms, marks, shut, true, cur, fe, fa⟩)[shut.length]? = some (.sl 2 (cur.map yI) (some 5)) := by
  show (shut.map y9 ++ [.sl 2 (cur.map yI) (some 5)])[shut.length]? = _
  simp
 refine wP (d := .sl 2 (cur.map yI) (some 5)) (Int.natCast_nonneg _) (by simpa using hget) ?_
 (all_goals refine qgp (Lf.mk ?_))
 refine zb zgf (cur, v) (by show cur.length ≤ _; omega) (VS.mk (LeL.of_eq rfl)) ?_
 by_cases hi : wo v cur 0 < 0
 ·obtain ⟨s1, s2⟩ := zuk hi
  (all_goals refine qgk ?_ <;> (repeat' first | exact trivial | intro hc | refine And.intro ?_ ?_) <;> refine Lf.mk ?_)
  ·refine wP (d := .sl 2 (cur.map yI) (some 5)) (Int.natCast_nonneg _) (by simpa using hget) ?_
   (all_goals refine qgk (Lf.mk ?_))
   refine wP (d := .sl 2 (cur.map yI) (some 5)) (Int.natCast_nonneg _) (by simpa using hget) ?_
   (all_goals refine qgk (Lf.mk ?_))
   refine wZ ((cur ++ [v]).map yI) (by rw [List.map_append]; rfl) ?_
   rw [List.length_map]
   (all_goals refine qgk (Lf.mk ?_))
   refine wP (d := .sl 2 (cur.map yI) (some 5)) (Int.natCast_nonneg _) (by simpa using hget) ?_
   (all_goals refine qgp (Lf.mk ?_))
   have hset : (zM ⟨items, syms, marks, shut, true, cur, fe, fa⟩).set (0 + ((shut.length : Nat) : Int).toNat) (.sl 2 ((cur ++ [v]).map yI) (some 5)) = zM ⟨items, syms, marks, shut, true, cur ++ [v], fe, fa⟩ := by
    show (shut.map y9 ++ [D.sl 2 (cur.map yI) (some 5)]).set _ _ = shut.map y9 ++ [D.sl 2 ((cur ++ [v]).map yI) (some 5)]
    rw [Nat.zero_add, Int.toNat_natCast, List.set_append_right _ _ (by simp)]
    simp
   have hbC : bC q ⟨items, syms, marks, shut, true, cur, fe, fa⟩ = bC q ⟨items, syms, marks, shut, true, cur ++ [v], fe, fa⟩ := by
    unfold bC
    rw [hlen, show (zM ⟨items, syms, marks, shut, true, cur ++ [v], fe, fa⟩).length = shut.length + 1 by unfold zM; simp]
   refine yE q ⟨items, syms, marks, shut, true, cur ++ [v], fe, fa⟩ ⟨6, 0, line, ⟨24, reg, 0, 0⟩, false, 0, noV, shut.length, cur.length⟩ [.cells [.str v.name, .int .i64 v.n]] hl ?_ yM ?_
   ·show Ob.cells (bC q _) :: Ob.arr 13 (items.map xn) :: Ob.arr 2 (syms.map yK) :: Ob.spare marks.length :: Ob.arr 1 (List.set _ _ _) :: Ob.spare (cur ++ [v]).length :: [Ob.cells [.str v.name, .int .i64 v.n]] = _
    rw [hbC]
    exact congrArg (fun x => Ob.cells (bC q ⟨items, syms, marks, shut, true, cur ++ [v], fe, fa⟩) :: [Ob.arr 13 (items.map xn), Ob.arr 2 (syms.map yK), Ob.spare marks.length, Ob.arr 1 x, Ob.spare (cur ++ [v]).length, Ob.cells [.str v.name, .int .i64 v.n]]) hset
   (all_goals refine qgp (Lf.mk ?_))
   refine zU [_] rfl ?_ rfl (Nat.le_of_eq rfl) .tup0
   unfold kE
   rw [s1, s2]
  ·exact absurd hi hc
 ·obtain ⟨s1, s2⟩ := zuj hi
  (all_goals refine qgp ?_ <;> (repeat' first | exact trivial | intro hc | refine And.intro ?_ ?_) <;> refine Lf.mk ?_)
  refine yE q ⟨items, syms, marks, shut, true, cur, fe, fa⟩ ⟨6, 0, line, ⟨24, reg, 0, 0⟩, false, 0, noV, shut.length, wo v cur 0⟩ [_] hl rfl yM ?_
  (all_goals refine qgp (Lf.mk ?_))
  refine zU [_] rfl ?_ rfl (Nat.le_of_eq rfl) .tup0
  unfold kE
  rw [s1, s2]
end Go.Proofs.YtnkdeacghopkiaaGreatDoor
namespace Go.Proofs.YtnkdeacghopkiaaGreatDoor
open Go Go.Plat
set_option linter.unusedVariables false
set_option linter.unusedSimpArgs false
set_option maxRecDepth 100000
set_option maxHeartbeats 2000000
attribute [local irreducible] AWP zA yh zE zn yu z6 zF zX zY zq za zL yv zo zZ yq yr yj ym zr zu zz
def w64 (n : Int) : Int := IntKind.i64.wrap n
def upA (n of : Int) : Int := (n + of - 1) / of * of
def zea (pools : List (List zw)) (k : Int) : Int := ((pools[k.toNat]?).getD []).length
def xg (pools : List (List zw)) (x : zp) (a : Int) : Int :=
 if x.kind = 2 ∧ x.long = true then 6 else if x.kind = 7 then x.size else if x.kind = 8 then upA a x.size - a else if x.kind = 9 then upA a 4 - a + 4 * zea pools x.pool else 2
def yC (pools : List (List zw)) : List zp → Int → List zp × Int
 | [], a => ([], a)
 | x :: l, a => ({ x with at_ := a } :: (yC pools l (a + xg pools x a)).1, (yC pools l (a + xg pools x a)).2)
def itA (items : List zp) (k : Int) : zp := (items[k.toNat]?).getD ⟨0, 0, 0, noI, false, 0, noV, 0, 0⟩
def zcB (items : List zp) (e m : Int) : Int := if m < items.length then (itA items m).at_ else e
def wV (items : List zp) (e : Int) : List zC → List Int → List zC
 | s :: ss, m :: ms => ⟨s.name, zcB items e m⟩ :: wV items e ss ms
 | ss, _ => ss
def xC {α : Type} (p : α → Bool) : List α → Nat → Int
 | [], _ => -1
 | x :: l, k => if p x = true then k else xC p l (k + 1)
def zkf (n : List UInt8) (l : List zC) (k : Nat) : Int := xC (fun s => s.name == n) l k
def zcC (syms : List zC) (k : Int) : zC := (syms[k.toNat]?).getD ⟨[], 0⟩
def zV (syms : List zC) (v : zw) : Int × Int :=
 if v.name = [] then (0, 8) else if zkf v.name syms 0 < 0 then (0, 6) else (w64 ((zcC syms (zkf v.name syms 0)).at_ + v.n), 0)
def zcD (op : Int) : Int := match xm op with | some r => r.shape | none => 0
def zdk (op a : Int) : Int := if op = 24 then a + 4 - (a + 4) % 4 else a + 4
def ofA (op : Int) : Int := if op = 24 then 4 else 2
def zeW (op a to : Int) : Int := w64 ((w64 (to - zdk op a)).tdiv (ofA op))
def wr (op a to : Int) : Int × Int :=
 if (w64 (to - zdk op a)).tmod (ofA op) ≠ 0 then (0, 11)
 else if zeW op a to < vR (zcD op) ∨ wD (zcD op) < zeW op a to then (zeW op a to, 3) else (zeW op a to, 0)
def xK (syms : List zC) (x : zp) : Bool := decide (x.kind = 2 ∧ x.long = false ∧ (zV syms x.val).2 = 0 ∧ (wr x.ins.op x.at_ (zV syms x.val).1).2 = 3)
def y0 (syms : List zC) (x : zp) : zp := if xK syms x = true then { x with long := true } else x
structure Lay where
 items : List zp
 syms : List zC
def yO (pools : List (List zw)) (marks : List Int) (s : Lay) : Lay × Int :=
 (⟨(yC pools s.items 0).1, wV (yC pools s.items 0).1 (yC pools s.items 0).2 s.syms marks⟩, (yC pools s.items 0).2)
def zcE (pools : List (List zw)) (marks : List Int) : Nat → Lay → Lay × Int
 | 0, s => (s, 0)
 | f + 1, s => if ((yO pools marks s).1.items.any (xK (yO pools marks s).1.syms)) = false ∨ 8000 < (yO pools marks s).2
   then (⟨(yO pools marks s).1.items.map (y0 (yO pools marks s).1.syms), (yO pools marks s).1.syms⟩, (yO pools marks s).2)
   else zcE pools marks f ⟨(yO pools marks s).1.items.map (y0 (yO pools marks s).1.syms), (yO pools marks s).1.syms⟩
def wu (l : List zp) : Nat := (l.filter fun x => decide (x.kind = 2 ∧ x.long = false)).length
def yL (pools : List (List zw)) (marks : List Int) (s : Lay) : Lay × Int := zcE pools marks (wu s.items + 1) s
structure Out where
 code : List UInt8
 rels : List zbK
 fe : Int
 fa : Int
def vN (o : Out) (e line : Int) : Out := if o.fe = 0 then ⟨o.code, o.rels, e, line⟩ else o
def xy (o : Out) (i : Ins) (line : Int) : Out := if yy i = 0 then ⟨o.code ++ [yz (xr i / 256), yz (xr i)], o.rels, o.fe, o.fa⟩ else vN o (yy i) line
def xS (o : Out) (i : Ins) (a to line : Int) : Out := if (wr i.op a to).2 = 0 then xy o ⟨i.op, i.n, i.m, (wr i.op a to).1⟩ line else vN o (wr i.op a to).2 line
def qo (o : Out) (x : zp) (to : Int) : Out :=
 if x.long = false then xS o x.ins x.at_ to x.line else xy (xS (xy o ⟨w64 (35 - x.ins.op), 0, 0, 1⟩ x.line) ⟨19, 0, 0, 0⟩ (x.at_ + 2) to x.line) ⟨1, 0, 0, 0⟩ x.line
def zh4 (syms : List zC) (at_ size : Int) (v : zw) : zbK := if (zV syms v).2 = 0 then ⟨at_, size, [], zh (zV syms v).1 32⟩ else ⟨at_, size, v.name, v.n⟩
def wb (syms : List zC) (o : Out) (v : zw) (size : Nat) : Out :=
 if v.name = [] then ⟨xo (o.code ++ List.replicate size 0) o.code.length size v.n, o.rels, o.fe, o.fa⟩
 else ⟨o.code ++ List.replicate size 0, o.rels ++ [zh4 syms o.code.length size v], o.fe, o.fa⟩
def wv (o : Out) (to : Int) : Out := ⟨o.code ++ List.replicate (to - o.code.length).toNat 0, o.rels, o.fe, o.fa⟩
def znv (p : Int) (l : List zp) (k : Nat) : Int := xC (fun y => y.kind == 9 && y.pool == p) l k
def vO (pools : List (List zw)) (items : List zp) (syms : List zC) (o : Out) (x : zp) : Out :=
 if x.kind = 7 then (if x.at_ % x.size ≠ 0 then vN o 11 x.line else wb syms o x.val x.size.toNat)
 else if x.kind = 8 then wv o (upA x.at_ x.size)
 else if x.kind = 9 then ((pools[x.pool.toNat]?).getD []).foldl (fun o v => wb syms o v 4) (wv o (upA x.at_ 4))
 else if x.at_ % 2 ≠ 0 then vN o 11 x.line
 else if x.kind = 1 then xy o x.ins x.line
 else if x.kind = 6 then xS o x.ins x.at_ (upA (itA items (znv x.pool items 0)).at_ 4 + 4 * x.idx) x.line
 else if (zV syms x.val).2 ≠ 0 then vN o (zV syms x.val).2 x.line
 else if x.kind = 2 then qo o x (zV syms x.val).1
 else xS o x.ins x.at_ (zV syms x.val).1 x.line
def vv (pools : List (List zw)) (items : List zp) (syms : List zC) (o : Out) : Out := items.foldl (fun o x => if o.fe = 0 then vO pools items syms o x else o) o
theorem zb1 {α : Type} (p : α → Bool) : ∀ (l : List α) (k : Nat), xC p l k = -1 ∨ ∃ j : Nat, j < l.length ∧ xC p l k = ((k + j : Nat) : Int)
 | [], _ => .inl rfl
 | x :: l, k => by
  rw [xC]
  split
  ·exact .inr ⟨0, by simp, rfl⟩
  ·rcases zb1 p l (k + 1) with h | ⟨j, h1, h2⟩
   ·exact .inl h
   ·exact .inr ⟨j + 1, by simp; omega, by rw [h2, Nat.add_right_comm, Nat.add_assoc]⟩
theorem zh5 {av : List D} {L : List Ob} {KP : D → Prop} {KW : D → List Ob → Prop} (g : Nat) (caps : List D) (p : zC → Bool) (l : List zC) (c0 c1 : Ob) (R : List Ob) (hl : l.length ≤ 1000000000)
  (hL : L = c0 :: c1 :: .arr 2 (l.map yK) :: R) (has : av = [.osl 2 2 l.length 0 l.length, .fn g caps])
  (hg : ∀ s ∈ l, ∀ (KP : D → Prop) (KW : D → List Ob → Prop), KW (.bool (p s)) L → zn Tryz.prog g (yK s :: caps) L KP KW)
  (hK : KW (.int .i64 (xC p l 0)) L) : zn Tryz.prog vc av L KP KW := by
 subst has
 refine wM zj Tryz.func70 rfl (by decide) (.int .i64 (xC p l 0)) L (Nat.le_refl _) (by simp [Tryz.f70]) (fun E hE => ?_) hK
 have hE0 : E.L.length = L.length := by rw [hE]
 subst hL
 refine ze _ ?_
 (all_goals refine qgo (Lf.mk ?_))
 refine yN (α := Nat) (fun k => k ≤ l.length ∧ xC p l 0 = xC p (l.drop k) k)
  (fun k => [(0, .osl 2 2 l.length 0 l.length), (1, .fn g caps), (7, .int .i64 l.length), (8, .int .i64 k)]) (fun _ => c0 :: c1 :: .arr 2 (l.map yK) :: R) (fun k => l.length - k) (fun _ => by rw [hE0]; exact Nat.le_refl _) 0 ⟨Nat.zero_le _, by simp⟩ ?_ ?_
 ·exact yn rfl ⟨rfl, rfl, rfl, rfl, trivial⟩
 rintro k ⟨hk, hf⟩
 refine ze _ ?_
 (all_goals refine qgp ?_ <;> (repeat' first | exact trivial | intro hc | refine And.intro ?_ ?_) <;> refine Lf.mk ?_)
 ·obtain ⟨s, hsk⟩ := yf (l := l) (k := k) (by omega)
  have hkl : k < l.length := by omega
  have hget : l[k] = s := by rw [List.getElem?_eq_getElem hkl] at hsk; exact Option.some.inj hsk
  rw [List.drop_eq_getElem_cons hkl, hget, xC] at hf
  refine zk s (by omega) (by simpa using hsk) ?_
  (all_goals refine qgp (Lf.mk ?_))
  refine hg s (List.mem_of_getElem? hsk) _ _ ?_
  cases hb : p s with
  | true =>
   rw [hb, if_pos rfl] at hf
   (all_goals refine qgp ?_ <;> (repeat' first | exact trivial | intro hc | refine And.intro ?_ ?_) <;> refine Lf.mk ?_)
   (any_goals (first | (exfalso; refine Bool.false_ne_true ?_; assumption) | (exfalso; refine Bool.false_ne_true (Eq.symm ?_); assumption) | (exfalso; refine absurd trivial ?_; assumption) | skip))
   exact y6 (by rw [hf]; rfl) rfl
  | false =>
   rw [hb, if_neg (by decide)] at hf
   (all_goals refine qgp ?_ <;> (repeat' first | exact trivial | intro hc | refine And.intro ?_ ?_) <;> refine Lf.mk ?_)
   (any_goals (first | (exfalso; refine Bool.false_ne_true ?_; assumption) | (exfalso; refine Bool.false_ne_true (Eq.symm ?_); assumption) | (exfalso; refine absurd trivial ?_; assumption) | skip))
   exact yJ (k + 1) ⟨by omega, hf⟩ (by omega) rfl ⟨rfl, rfl, rfl, rfl, trivial⟩
 ·rw [List.drop_of_length_le (by omega), xC] at hf
  exact y6 (by rw [hf]; rfl) rfl
theorem zsA {av : List D} {L : List Ob} {KP : D → Prop} {KW : D → List Ob → Prop} (g : Nat) (caps : List D) (p : zp → Bool) (l : List zp) (c0 : Ob) (R : List Ob) (hl : l.length ≤ 1000000000)
  (hL : L = c0 :: .arr 13 (l.map xn) :: R) (has : av = [.osl 13 1 l.length 0 l.length, .fn g caps])
  (hg : ∀ s ∈ l, ∀ (KP : D → Prop) (KW : D → List Ob → Prop), KW (.bool (p s)) L → zn Tryz.prog g (xn s :: caps) L KP KW)
  (hK : KW (.int .i64 (xC p l 0)) L) : zn Tryz.prog kB av L KP KW := by
 subst has
 refine wM zj Tryz.func127 rfl (by decide) (.int .i64 (xC p l 0)) L (Nat.le_refl _) (by simp [Tryz.f127]) (fun E hE => ?_) hK
 have hE0 : E.L.length = L.length := by rw [hE]
 subst hL
 refine ze _ ?_
 (all_goals refine qgo (Lf.mk ?_))
 refine yN (α := Nat) (fun k => k ≤ l.length ∧ xC p l 0 = xC p (l.drop k) k)
  (fun k => [(0, .osl 13 1 l.length 0 l.length), (1, .fn g caps), (7, .int .i64 l.length), (8, .int .i64 k)]) (fun _ => c0 :: .arr 13 (l.map xn) :: R) (fun k => l.length - k) (fun _ => by rw [hE0]; exact Nat.le_refl _) 0 ⟨Nat.zero_le _, by simp⟩ ?_ ?_
 ·exact yn rfl ⟨rfl, rfl, rfl, rfl, trivial⟩
 rintro k ⟨hk, hf⟩
 refine ze _ ?_
 (all_goals refine qgp ?_ <;> (repeat' first | exact trivial | intro hc | refine And.intro ?_ ?_) <;> refine Lf.mk ?_)
 ·obtain ⟨s, hsk⟩ := yf (l := l) (k := k) (by omega)
  have hkl : k < l.length := by omega
  have hget : l[k] = s := by rw [List.getElem?_eq_getElem hkl] at hsk; exact Option.some.inj hsk
  rw [List.drop_eq_getElem_cons hkl, hget, xC] at hf
  refine zk s (by omega) (by simpa using hsk) ?_
  (all_goals refine qgp (Lf.mk ?_))
  refine hg s (List.mem_of_getElem? hsk) _ _ ?_
  cases hb : p s with
  | true =>
   rw [hb, if_pos rfl] at hf
   (all_goals refine qgp ?_ <;> (repeat' first | exact trivial | intro hc | refine And.intro ?_ ?_) <;> refine Lf.mk ?_)
   (any_goals (first | (exfalso; refine Bool.false_ne_true ?_; assumption) | (exfalso; refine Bool.false_ne_true (Eq.symm ?_); assumption) | (exfalso; refine absurd trivial ?_; assumption) | skip))
   exact y6 (by rw [hf]; rfl) rfl
  | false =>
   rw [hb, if_neg (by decide)] at hf
   (all_goals refine qgp ?_ <;> (repeat' first | exact trivial | intro hc | refine And.intro ?_ ?_) <;> refine Lf.mk ?_)
   (any_goals (first | (exfalso; refine Bool.false_ne_true ?_; assumption) | (exfalso; refine Bool.false_ne_true (Eq.symm ?_); assumption) | (exfalso; refine absurd trivial ?_; assumption) | skip))
   exact yJ (k + 1) ⟨by omega, hf⟩ (by omega) rfl ⟨rfl, rfl, rfl, rfl, trivial⟩
 ·rw [List.drop_of_length_le (by omega), xC] at hf
  exact y6 (by rw [hf]; rfl) rfl
theorem zul {av : List D} {L : List Ob} {KP : D → Prop} {KW : D → List Ob → Prop} (g : Nat) (caps : List D) (p : zl → Bool) (l : List zl) (hl : l.length ≤ 1000000000)
  (has : av = [.sl 2 (l.map we) none, .fn g caps])
  (hg : ∀ s ∈ l, ∀ (KP : D → Prop) (KW : D → List Ob → Prop), KW (.bool (p s)) L → zn Tryz.prog g (we s :: caps) L KP KW)
  (hK : KW (.int .i64 (xC p l 0)) L) : zn Tryz.prog vd av L KP KW := by
 subst has
 refine wM zj Tryz.func173 rfl (by decide) (.int .i64 (xC p l 0)) L (Nat.le_refl _) (by simp [Tryz.f173]) (fun E hE => ?_) hK
 have hE0 : E.L.length = L.length := by rw [hE]
 refine ze _ ?_
 (all_goals refine qgo (Lf.mk ?_))
 refine yN (α := Nat) (fun k => k ≤ l.length ∧ xC p l 0 = xC p (l.drop k) k)
  (fun k => [(0, .sl 2 (l.map we) none), (1, .fn g caps), (7, .int .i64 l.length), (8, .int .i64 k)]) (fun _ => L) (fun k => l.length - k) (fun _ => by rw [hE0]; exact Nat.le_refl _) 0 ⟨Nat.zero_le _, by simp⟩ ?_ ?_
 ·exact yn rfl ⟨rfl, rfl, rfl, rfl, trivial⟩
 rintro k ⟨hk, hf⟩
 refine ze _ ?_
 (all_goals refine qgp ?_ <;> (repeat' first | exact trivial | intro hc | refine And.intro ?_ ?_) <;> refine Lf.mk ?_)
 ·obtain ⟨s, hsk⟩ := yf (l := l) (k := k) (by omega)
  have hkl : k < l.length := by omega
  have hget : l[k] = s := by rw [List.getElem?_eq_getElem hkl] at hsk; exact Option.some.inj hsk
  rw [List.drop_eq_getElem_cons hkl, hget, xC] at hf
  refine zk s (by omega) (by simpa using hsk) ?_
  (all_goals refine qgp (Lf.mk ?_))
  refine hg s (List.mem_of_getElem? hsk) _ _ ?_
  cases hb : p s with
  | true =>
   rw [hb, if_pos rfl] at hf
   (all_goals refine qgp ?_ <;> (repeat' first | exact trivial | intro hc | refine And.intro ?_ ?_) <;> refine Lf.mk ?_)
   (any_goals (first | (exfalso; refine Bool.false_ne_true ?_; assumption) | (exfalso; refine Bool.false_ne_true (Eq.symm ?_); assumption) | (exfalso; refine absurd trivial ?_; assumption) | skip))
   exact y6 (by rw [hf]; rfl) rfl
  | false =>
   rw [hb, if_neg (by decide)] at hf
   (all_goals refine qgp ?_ <;> (repeat' first | exact trivial | intro hc | refine And.intro ?_ ?_) <;> refine Lf.mk ?_)
   (any_goals (first | (exfalso; refine Bool.false_ne_true ?_; assumption) | (exfalso; refine Bool.false_ne_true (Eq.symm ?_); assumption) | (exfalso; refine absurd trivial ?_; assumption) | skip))
   exact yJ (k + 1) ⟨by omega, hf⟩ (by omega) rfl ⟨rfl, rfl, rfl, rfl, trivial⟩
 ·rw [List.drop_of_length_le (by omega), xC] at hf
  exact y6 (by rw [hf]; rfl) rfl
theorem zkg {α : Type} (p : α → Bool) : ∀ (l : List α) (k : Nat), decide (0 ≤ xC p l k) = l.any p
 | [], _ => rfl
 | x :: l, k => by
  rw [xC, List.any_cons]
  cases h : p x with
  | true => rw [if_pos rfl]; simp
  | false => rw [if_neg (by decide), zkg p l (k + 1)]; simp
theorem zum {av : List D} {L : List Ob} {KP : D → Prop} {KW : D → List Ob → Prop} (g : Nat) (caps : List D) (p : zC → Bool) (l : List zC) (c0 c1 : Ob) (R : List Ob) (hl : l.length ≤ 1000000000)
  (hL : L = c0 :: c1 :: .arr 2 (l.map yK) :: R) (has : av = [.osl 2 2 l.length 0 l.length, .fn g caps])
  (hg : ∀ s ∈ l, ∀ (KP : D → Prop) (KW : D → List Ob → Prop), KW (.bool (p s)) L → zn Tryz.prog g (yK s :: caps) L KP KW)
  (hK : KW (.bool (l.any p)) L) : zn Tryz.prog ki av L KP KW := by
 subst has
 refine wM zj Tryz.func150 rfl (by decide) (.bool (l.any p)) L (Nat.le_refl _) (by simp [Tryz.f150]) (fun E hE => ?_) hK
 have hE0 : E.L.length = L.length := by rw [hE]
 subst hL
 refine ze _ ?_
 (all_goals refine qgo (Lf.mk ?_))
 refine zh5 g caps p l c0 c1 R hl rfl rfl hg ?_
 (all_goals refine qgo (Lf.mk ?_))
 exact y6 (congrArg D.bool (zkg p l 0)) rfl
theorem zun {av : List D} {L : List Ob} {KP : D → Prop} {KW : D → List Ob → Prop} (g : Nat) (caps : List D) (p : zl → Bool) (l : List zl) (hl : l.length ≤ 1000000000)
  (has : av = [.sl 2 (l.map we) none, .fn g caps])
  (hg : ∀ s ∈ l, ∀ (KP : D → Prop) (KW : D → List Ob → Prop), KW (.bool (p s)) L → zn Tryz.prog g (we s :: caps) L KP KW)
  (hK : KW (.bool (l.any p)) L) : zn Tryz.prog kh av L KP KW := by
 subst has
 refine wM zj Tryz.func143 rfl (by decide) (.bool (l.any p)) L (Nat.le_refl _) (by simp [Tryz.f143]) (fun E hE => ?_) hK
 have hE0 : E.L.length = L.length := by rw [hE]
 refine ze _ ?_
 (all_goals refine qgo (Lf.mk ?_))
 refine zul g caps p l hl rfl hg ?_
 (all_goals refine qgo (Lf.mk ?_))
 exact y6 (congrArg D.bool (zkg p l 0)) rfl
attribute [local irreducible] Lib.itoa zg.kids zg.kind zg.n zg.name xp xl xe wo yD yY xQ wK w2 zP w1
def bCk (q : List zl) (b : Bld) : List D := [.sl 2 (q.map we) none, .osl 13 1 b.items.length 0 b.items.length, .osl 2 2 b.syms.length 0 b.syms.length, .sl 1 (b.marks.map (.int .i64)) (some 3),
 .osl 1 4 (b.shut.length + 1) 0 (b.shut.length + 1), .int .i64 b.shut.length, .nilsl, .nilsl, .nilsl, .int .i64 b.fe, .int .i64 b.fa]
def bOk (k : Nat) (q : List zl) (b : Bld) (X : List Ob) : List Ob :=
 [.cells (bCk q b), .arr 13 (b.items.map xn), .arr 2 (b.syms.map yK), .spare b.marks.length, .arr 1 (b.shut.map y9 ++ [.sl 2 (b.cur.map yI) (some k)]), .dead] ++ X ++ [.spare b.cur.length]
theorem zsB (q : List zl) (b : Bld) : ClL 5 (bC q b) :=
 .cons .sl (.cons (.osl (by decide)) (.cons (.osl (by decide)) (.cons (.tok (by decide)) (.cons (.osl (by decide)) (.cons .int (.cons .nilsl (.cons .nilsl (.cons .nilsl (.cons .int (.cons .int .nil))))))))))
theorem zdl {m : Nat → Option Nat} {k k' : Nat} (hm : m k = some k') (a : List (List zw)) (c : List zw) : yl m (.arr 1 (a.map y9 ++ [.sl 2 (c.map yI) (some k)])) (.arr 1 (a.map y9 ++ [.sl 2 (c.map yI) (some k')])) := by
 refine ⟨_, rfl, by simp, fun i d d' h1 h2 => ?_⟩
 rcases Nat.lt_or_ge i (a.map y9).length with h | h
 ·rw [List.getElem?_append_left h] at h1 h2
  rw [h1] at h2
  cases h2
  obtain ⟨l, _, rfl⟩ := List.mem_map.1 (List.mem_of_getElem? h1)
  exact ⟨rfl, ClL.ren (n := 0) (.cons .sl .nil) fun k hk => absurd hk (Nat.not_lt_zero _)⟩
 ·rw [List.getElem?_append_right h] at h1 h2
  cases hi : i - (a.map y9).length with
  | zero =>
   rw [hi] at h1 h2
   cases h1
   cases h2
   refine ⟨rfl, rfl, fun i d d' g1 g2 => ?_⟩
   cases i with
   | zero =>
    cases g1
    cases g2
    have : zap m (.sl 2 (c.map yI) (some k)) (fun d' => d' = .sl 2 (c.map yI) (some k')) := by
     show zcU m 2 (c.map yI) (some k) (zaH m (c.map yI)) (fun d' => d' = .sl 2 (c.map yI) (some k'))
     unfold zcU
     simp [hm]
    obtain ⟨d', h3, rfl⟩ := wY this
    exact h3
   | succ i => cases g1
  | succ j => rw [hi] at h1; simp at h1
theorem zsC {av : List D} {KP : D → Prop} {KW : D → List Ob → Prop} {L : List Ob} (q : List zl) (items : List zp) (syms : List zC) (marks : List Int) (shut : List (List zw)) (cur : List zw) (fe fa : Int) (x : zp) (B : Ob) (hl : items.length ≤ 1000000)
  (hL : L = bOk 7 q ⟨items, syms, marks, shut, true, cur, fe, fa⟩ [B]) (has : LeL av [.loc 0 0, xn x]) (hK : KW (.tup []) (bOk 7 q ⟨items ++ [x], syms, marks, shut, true, cur, fe, fa⟩ [B])) : zn Tryz.prog kU av L KP KW := by
 refine zb9 has ?_
 subst hL
 have hp : (zM ⟨items, syms, marks, shut, true, cur, fe, fa⟩).length = shut.length + 1 := by unfold zM; simp
 have hk : bCk q ⟨items, syms, marks, shut, true, cur, fe, fa⟩ = bC q ⟨items, syms, marks, shut, true, cur, fe, fa⟩ := by unfold bCk bC; rw [hp]
 have hk' : bCk q ⟨items ++ [x], syms, marks, shut, true, cur, fe, fa⟩ = bC q ⟨items ++ [x], syms, marks, shut, true, cur, fe, fa⟩ := by unfold bCk bC; rw [show (zM ⟨items ++ [x], syms, marks, shut, true, cur, fe, fa⟩).length = shut.length + 1 from hp]
 refine zvy (.tup []) _ (fun w ρ vs hf hr => ?_) zeV.can hK
 have key : ∀ k, k < 5 → zG [0, 1, 2, 3, 4, 7] 0 k = some k := by decide
 have key' : ∀ k, k < 5 → vz [0, 1, 2, 3, 4, 7] k = some k := by decide
 refine jX zeV (ks := [0, 1, 2, 3, 4, 7]) (js := [0, 1, 2, 3, 4, 7]) (as1 := [.loc 0 0, xn x]) (L1 := bO q ⟨items, syms, marks, shut, true, cur, fe, fa⟩) (d1 := .tup []) (d := .tup []) (L := bOk 7 q ⟨items, syms, marks, shut, true, cur, fe, fa⟩ [B]) (L' := bOk 7 q ⟨items ++ [x], syms, marks, shut, true, cur, fe, fa⟩ [B]) (L1' := bO q ⟨items ++ [x], syms, marks, shut, true, cur, fe, fa⟩)
  rfl (by intro k hk; show k < 8; revert k; decide) (fun _ _ => rfl) (fun i j h => by simp at h) ?_ rfl (fun i o' ho => ?_) ⟨(⟨items, syms, marks, shut, true, cur, fe, fa⟩, x, q), hl, LeL.refl _, rfl, rfl, rfl⟩ ?_ (Nat.le_refl 6) rfl (fun k hk hn => ?_) (fun i k hi => ?_) (fun i o ho => ?_) hf hr
 ·exact ClL.ren (n := 1) (.cons (.loc (by decide)) (.cons (znt x) .nil)) fun k hk => key k (by omega)
 ·match i, ho with
  | 0, ho => cases ho; exact ⟨0, _, rfl, rfl, by rw [hk]; exact ClO.cells (zsB _ _) _ key⟩
  | 1, ho => cases ho; exact ⟨1, _, rfl, rfl, ClO.arr (kF _) _ key⟩
  | 2, ho => cases ho; exact ⟨2, _, rfl, rfl, ClO.arr (jJ _) _ key⟩
  | 3, ho => cases ho; exact ⟨3, _, rfl, rfl, rfl⟩
  | 4, ho => cases ho; exact ⟨4, _, rfl, rfl, zdl (k := 7) (k' := 5) (m := zG [0, 1, 2, 3, 4, 7] 0) rfl shut cur⟩
  | 5, ho => cases ho; exact ⟨7, _, rfl, rfl, rfl⟩
  | i + 6, ho => simp [bO, bT] at ho
 ·exact ClD.tup0 _ key'
 ·match k, hk, hn with
  | 0, _, hn => exact absurd (by decide) hn
  | 1, _, hn => exact absurd (by decide) hn
  | 2, _, hn => exact absurd (by decide) hn
  | 3, _, hn => exact absurd (by decide) hn
  | 4, _, hn => exact absurd (by decide) hn
  | 5, _, _ => rfl
  | 6, _, _ => rfl
  | 7, _, hn => exact absurd (by decide) hn
  | k + 8, hk, _ => exact absurd hk (by simp [bOk])
 ·match i, hi with
  | 0, hi => cases hi; exact ⟨_, _, rfl, rfl, by rw [hk']; exact ClO.cells (zsB _ _) _ key'⟩
  | 1, hi => cases hi; exact ⟨_, _, rfl, rfl, ClO.arr (kF _) _ key'⟩
  | 2, hi => cases hi; exact ⟨_, _, rfl, rfl, ClO.arr (jJ _) _ key'⟩
  | 3, hi => cases hi; exact ⟨_, _, rfl, rfl, rfl⟩
  | 4, hi => cases hi; exact ⟨_, _, rfl, rfl, zdl (k := 5) (k' := 7) (m := vz [0, 1, 2, 3, 4, 7]) rfl shut cur⟩
  | 5, hi => cases hi; exact ⟨_, _, rfl, rfl, rfl⟩
  | i + 6, hi => simp at hi
 ·simp [bO, bT] at ho
theorem zuo : za Tryz.prog qy (ya (fun ((b, _, _, _, _) : Bld × zw × Int × Int × List zl) => b.has = false ∧ b.cur = [] ∧ b.items.length ≤ 1000000 ∧ b.shut.length ≤ 1000000) (fun (_, v, reg, line, _) => [.loc 0 0, yI v, .int .i64 reg, .int .i64 line])
  (fun (b, _, _, _, q) => bO q b) (fun _ => .tup []) fun (b, v, reg, line, q) => bOk 6 q (kE b v reg line) []) := by
 refine zf zj Tryz.func155 rfl (by decide) ?_
 rintro ⟨⟨items, syms, marks, shut, has, cur, fe, fa⟩, v, reg, line, q⟩ ⟨hh, hcu, hl, hp⟩
 have hh : has = false := hh
 subst hh
 have hcu : cur = [] := hcu
 subst hcu
 have hl : items.length ≤ 1000000 := hl
 have hp : shut.length ≤ 1000000 := hp
 have hlen : (zM ⟨items, syms, marks, shut, false, [], fe, fa⟩).length = shut.length := by unfold zM; simp
 refine ⟨by show 6 ≤ 7; decide, by simp [Tryz.f155], fun E hE => ?_⟩
 refine ze _ ?_
 (all_goals refine qgp ?_ <;> (repeat' first | exact trivial | intro hc | refine And.intro ?_ ?_) <;> refine Lf.mk ?_)
 have hget : (zM ⟨items, syms, marks, shut, false, [], fe, fa⟩ ++ [.nilsl])[shut.length]? = some .nilsl := by
  show (shut.map y9 ++ [D.nilsl])[shut.length]? = _
  simp
 refine wP (d := .nilsl) (Int.natCast_nonneg _) (by simpa using hget) ?_
 (all_goals refine qgp (Lf.mk ?_))
 refine zb zgf ([], v) (by show (0 : Nat) ≤ _; decide) (VS.mk (.cons (.nil 2) (LeL.refl _))) ?_
 have hidx : wo v [] 0 = -1 := by rw [wo]
 have s1 : w2 v [] = 0 := by unfold w2; rw [hidx]; rfl
 have s2 : w1 v [] = [v] := by unfold w1; rw [hidx]; rfl
 dsimp only
 rw [hidx]
 (all_goals refine qgk ?_ <;> (repeat' first | exact trivial | intro hc | refine And.intro ?_ ?_) <;> refine Lf.mk ?_)
 ·refine wP (d := .nilsl) (Int.natCast_nonneg _) (by simpa using hget) ?_
  (all_goals refine qgk (Lf.mk ?_))
  refine wP (d := .nilsl) (Int.natCast_nonneg _) (by simpa using hget) ?_
  (all_goals refine qgk (Lf.mk ?_))
  refine wZ ([v].map yI) rfl ?_
  (all_goals refine qgk (Lf.mk ?_))
  refine wP (d := .nilsl) (Int.natCast_nonneg _) (by simpa using hget) ?_
  (all_goals refine qgp (Lf.mk ?_))
  have hset : (zM ⟨items, syms, marks, shut, false, [], fe, fa⟩ ++ [D.nilsl]).set (0 + ((shut.length : Nat) : Int).toNat) (.sl 2 ([v].map yI) (some 7)) = shut.map y9 ++ [.sl 2 ([v].map yI) (some 7)] := by
   show (shut.map y9 ++ [D.nilsl]).set _ _ = _
   rw [Nat.zero_add, Int.toNat_natCast, List.set_append_right _ _ (by simp)]
   simp
  have hlen2 : (zM ⟨items, syms, marks, shut, false, [], fe, fa⟩ ++ [D.nilsl]).length = shut.length + 1 := by rw [List.length_append, hlen]; rfl
  have e : ∀ (P : List D) (n : Nat), P = shut.map y9 ++ [.sl 2 ([v].map yI) (some 7)] → n = shut.length + 1 → [Ob.cells [.sl 2 (q.map we) none, .osl 13 1 items.length 0 items.length, .osl 2 2 syms.length 0 syms.length,
    .sl 1 (marks.map (.int .i64)) (some 3), .osl 1 4 n 0 n, .int .i64 shut.length, .nilsl, .nilsl, .nilsl, .int .i64 fe, .int .i64 fa], .arr 13 (items.map xn), .arr 2 (syms.map yK), .spare marks.length, .arr 1 P, .dead,
    .cells [.str v.name, .int .i64 v.n], .spare 1] = bOk 7 q ⟨items, syms, marks, shut, true, [v], fe, fa⟩ [.cells [.str v.name, .int .i64 v.n]] := by
   rintro _ _ rfl rfl
   rfl
  refine zsC q items syms marks shut [v] fe fa ⟨6, 0, line, ⟨24, reg, 0, 0⟩, false, 0, noV, shut.length, 0⟩ (.cells [.str v.name, .int .i64 v.n]) hl (e _ _ hset hlen2) yM ?_
  (all_goals refine qgp (Lf.mk ?_))
  have key' : ∀ k, k < 5 → zG [0, 1, 2, 3, 4, 5, 7] 0 k = some k := by decide
  have hlit : kE ⟨items, syms, marks, shut, false, [], fe, fa⟩ v reg line = ⟨items ++ [⟨6, 0, line, ⟨24, reg, 0, 0⟩, false, 0, noV, shut.length, 0⟩], syms, marks, shut, true, [v], fe, fa⟩ := by
   unfold kE xt
   rw [s1, s2]
  show zF _ _ _ _ (bOk 6 q (kE ⟨items, syms, marks, shut, false, [], fe, fa⟩ v reg line) [])
  rw [hlit]
  refine zdb [0, 1, 2, 3, 4, 5, 7] rfl rfl ?_ (ClD.tup0 (n := 5) _ key')
  refine .cons (o := .cells (bCk q ⟨items ++ [⟨6, 0, line, ⟨24, reg, 0, 0⟩, false, 0, noV, shut.length, 0⟩], syms, marks, shut, true, [v], fe, fa⟩)) rfl (ClO.cells (n := 5) ?_ _ key') (.cons (o := .arr 13 _) rfl (ClO.arr (n := 5) (kF _) _ key') (.cons (o := .arr 2 _) rfl (ClO.arr (n := 5) (jJ _) _ key') (.cons (o := .spare _) rfl rfl
   (.cons (o := .arr 1 _) rfl (zdl (k := 7) (k' := 6) rfl _ _) (.cons (o := .dead) rfl rfl (.cons (o := .spare _) rfl rfl .nil))))))
  exact .cons .sl (.cons (.osl (by decide)) (.cons (.osl (by decide)) (.cons (.tok (by decide)) (.cons (.osl (by decide)) (.cons .int (.cons .nilsl (.cons .nilsl (.cons .nilsl (.cons .int (.cons .int .nil))))))))))
 ·exact absurd (by decide) hc
theorem zup {l : List AOp} {k : Nat} {o : AOp} (h : l[k]? = some o) : x6 (l.take (k + 1)) = x6 (l.take k) ++ sgA o := by
 unfold x6
 rw [List.take_add_one, h]
 simp
theorem zxc {o : AOp} (h : o.sign.length ≤ 1) : (sgA o).length = 1 := by
 unfold sgA
 split
 ·rfl
 ·rename_i hn
  cases hs : o.sign with
  | nil => exact absurd hs hn
  | cons c r => rw [hs] at h; simp at h ⊢; exact h
theorem zgX : ∀ {l : List AOp}, (∀ o ∈ l, o.sign.length ≤ 1) → (x6 l).length = l.length
 | [], _ => rfl
 | o :: l, h => by
  have h1 := zxc (h o List.mem_cons_self)
  have h2 := zgX (l := l) fun x hx => h x (List.mem_cons_of_mem _ hx)
  unfold x6 at h2 ⊢
  rw [List.map_cons, List.flatten_cons, List.length_append, h1, h2, List.length_cons]
  omega
theorem znw : za Tryz.prog zmS (zx (fun l : List AOp => l.length ≤ 1000000 ∧ ∀ o ∈ l, o.sign.length ≤ 1) (fun l => [.sl 4 (l.map qm) none]) fun l => .sl 1 ((yP (x6 l)).map (.int .i64)) none) := by
 refine zf zj Tryz.func156 rfl (by decide) ?_
 rintro l ⟨hl, hs⟩
 refine ⟨Nat.le_refl _, by simp [Tryz.f156], fun E hE => ?_⟩
 refine ze _ ?_
 (all_goals refine qgo (Lf.mk ?_))
 refine ye (α := Nat) (fun k => k ≤ l.length) (fun k => [(6, .sl 4 (l.map qm) none), (7, .int .i64 l.length), (8, .int .i64 k), (3, .str (x6 (l.take k)))]) (fun _ => []) (fun k => l.length - k) (fun _ => by simp [hE]) 0 (Nat.zero_le _) ?_ ?_
 ·(repeat' (first | (refine VS.mk ?_) | exact trivial | exact rfl | refine And.intro ?_ ?_))
 rintro k hk
 have hk : k ≤ l.length := hk
 have hlen : (x6 (l.take k)).length ≤ 1000000 := by
  rw [zgX fun o ho => hs o (List.mem_of_mem_take ho), List.length_take]; omega
 refine ze _ ?_
 (all_goals refine qgo ?_ <;> (repeat' first | exact trivial | intro hc | refine And.intro ?_ ?_) <;> refine Lf.mk ?_)
 ·obtain ⟨o, ho⟩ := yf (l := l) (k := k) (by omega)
  have hstep := zup ho
  have hs1 := hs o (List.mem_of_getElem? ho)
  refine zk o (by omega) (by simpa using ho) ?_
  (all_goals refine qgo ?_ <;> (repeat' first | exact trivial | intro hc | refine And.intro ?_ ?_) <;> refine Lf.mk ?_)
  ·refine ziM (by simp only [List.length_cons, List.length_nil]; omega) ?_
   (all_goals refine qgo (Lf.mk ?_))
   refine zB (k + 1) (by show k + 1 ≤ _; omega) (by omega) ?_
   rw [hstep, show sgA o = [112] by unfold sgA; rw [if_pos hc]]
   (repeat' (first | (refine VS.mk ?_) | exact trivial | exact rfl | refine And.intro ?_ ?_))
  ·refine ziM (by omega) ?_
   (all_goals refine qgo (Lf.mk ?_))
   refine zB (k + 1) (by show k + 1 ≤ _; omega) (by omega) ?_
   rw [hstep, show sgA o = o.sign by unfold sgA; rw [if_neg hc]]
   (repeat' (first | (refine VS.mk ?_) | exact trivial | exact rfl | refine And.intro ?_ ?_))
 all_goals
  have hk2 : k = l.length := by omega
  clear hlen
  subst hk2
  simp only [List.take_length] at *
  refine zd (VS.mk ?_)
  unfold yP
  (repeat (first | (rw [if_pos (by assumption)]) | (rw [if_neg (by assumption)])))
  first
   | exact LeD.of_eq rfl
   | exact LeD.nil 1
def vD (q : List zl) (b b' : Bld) : List Ob := if b.has = false ∧ b'.has = true then bOk 6 q b' [] else bO q b'
theorem znx (q : List zl) (b b' : Bld) : 6 ≤ (vD q b b').length := by
 unfold vD
 split
 ·exact Nat.le_succ 6
 ·exact Nat.le_refl 6
theorem vu {q : List zl} {b b' : Bld} (h : b'.has = b.has) : vD q b b' = bO q b' := by
 unfold vD
 rw [if_neg fun e => by rw [h, e.1] at e; exact absurd e.2 (by decide)]
theorem zuq {q : List zl} {b b' : Bld} (h : b.has = true) : vD q b b' = bO q b' := by
 unfold vD
 rw [if_neg fun e => by rw [h] at e; exact absurd e.1 (by decide)]
theorem zeX {q : List zl} {b b' : Bld} (h : b.has = false) (h' : b'.has = true) : vD q b b' = bOk 6 q b' [] := by
 unfold vD
 rw [if_pos ⟨h, h'⟩]
theorem kG (b : Bld) (e line : Int) : (yG b e line).has = b.has := by unfold yG; split <;> rfl
structure InB (b : Bld) : Prop where
 cur : b.has = false → b.cur = []
 items : b.items.length ≤ 1000000
 shut : b.shut.length ≤ 1000000
 curl : b.cur.length ≤ 1000000
theorem zq3 : za Tryz.prog qy (ya (fun ((b, _, _, _, _) : Bld × zw × Int × Int × List zl) => InB b) (fun (_, v, reg, line, _) => [.loc 0 0, yI v, .int .i64 reg, .int .i64 line])
  (fun (b, _, _, _, q) => bO q b) (fun _ => .tup []) fun (b, v, reg, line, q) => vD q b (kE b v reg line)) := by
 refine ztN zsz zuo ?_
 rintro av L d L' ⟨⟨b, v, reg, line, q⟩, h, h1, h2, h3, h4⟩
 cases hb : b.has with
 | true => exact .inl ⟨(b, v, reg, line, q), ⟨hb, h.items, h.shut, h.curl⟩, h1, h2, h3, by rw [h4]; exact zuq hb⟩
 | false => exact .inr ⟨(b, v, reg, line, q), ⟨hb, h.cur hb, h.items, h.shut⟩, h1, h2, h3, by rw [h4]; exact zeX hb rfl⟩
theorem zpQ (name : List UInt8) : ∀ (L : List Int) (p : Int × Int), xI name L p = p ∨ (xI name L p).2 ∈ L
 | [], p => .inl rfl
 | s :: L, p => by
  rw [xI]
  rcases zpQ name L (if 0 < w0 name s then (w0 name s, s) else p) with h | h
  ·rw [h]
   split
   ·exact .inr List.mem_cons_self
   ·exact .inl rfl
  ·exact .inr (List.mem_cons_of_mem _ h)
theorem zsD (s : List UInt8) : ∀ x ∈ yP s, (x = 0 ∧ s.length = 0) ∨ ((x = 3 ∨ x = 4 ∨ x = 5 ∨ x = 6 ∨ x = 11) ∧ s.length = 1) ∨ ((x = 1 ∨ x = 2 ∨ x = 7 ∨ x = 8 ∨ x = 9 ∨ x = 10) ∧ s.length = 2) := by
 intro x hx
 unfold yP at hx
 repeat' split at hx
 all_goals first
  | (rename_i h; subst h; simp at hx; subst hx; decide)
  | (rename_i h; subst h; simp at hx; rcases hx with rfl | rfl <;> decide)
  | simp at hx
theorem zv6 {name : List UInt8} {l : List AOp} (h : ∀ o ∈ l, o.sign.length ≤ 1) {S : Int × Int} (hS : xI name (yP (x6 l)) (0, 0) = S) : (S.1 = 0 ∧ S.2 = 0) ∨ (S.2 = 0 ∧ l.length = 0) ∨ ((S.2 = 3 ∨ S.2 = 4 ∨ S.2 = 5 ∨ S.2 = 6 ∨ S.2 = 11) ∧ l.length = 1) ∨
  ((S.2 = 1 ∨ S.2 = 2 ∨ S.2 = 7 ∨ S.2 = 8 ∨ S.2 = 9 ∨ S.2 = 10) ∧ l.length = 2) := by
 subst hS
 rcases zpQ name (yP (x6 l)) (0, 0) with h1 | h1
 ·rw [h1]; exact .inl ⟨rfl, rfl⟩
 ·have := zsD _ _ h1
  rw [zgX h] at this
  exact .inr this
theorem zsE {av : List D} {L : List Ob} {KP : D → Prop} {KW : D → List Ob → Prop} (name : List UInt8) (s : Int) (has : av = [.str name, .int .i64 s]) (hK : KP (.int .i64 (w0 name s))) : zn Tryz.prog zi5 av L KP KW := by
 subst has
 exact zb zqV (name, s) trivial (VS.mk (LeL.of_eq rfl)) hK
attribute [local irreducible] w0 yy
def zny : List (D × D) := [(.int .i64 4, .int .i64 2), (.int .i64 5, .int .i64 3)]
theorem znz {s : Int} (h : s = 4) : qi (.int .i64 s) zny = some (.int .i64 2) := by subst h; rfl
theorem znA {s : Int} (h : s = 5) : qi (.int .i64 s) zny = some (.int .i64 3) := by subst h; rfl
def zkh : List (D × D) := [(.int .i64 5, .int .i64 3), (.int .i64 4, .int .i64 2)]
theorem zlG {s : Int} (h : s = 5) : qi (.int .i64 s) zkh = some (.int .i64 3) := by subst h; rfl
theorem zlH {s : Int} (h : s = 4) : qi (.int .i64 s) zkh = some (.int .i64 2) := by subst h; rfl
def znB : List (D × D) := [(.int .i64 7, .int .i64 4), (.int .i64 8, .int .i64 5)]
theorem znC {s : Int} (h : s = 7) : qi (.int .i64 s) znB = some (.int .i64 4) := by subst h; rfl
theorem znD {s : Int} (h : s = 8) : qi (.int .i64 s) znB = some (.int .i64 5) := by subst h; rfl
def zki : List (D × D) := [(.int .i64 8, .int .i64 5), (.int .i64 7, .int .i64 4)]
theorem zlI {s : Int} (h : s = 8) : qi (.int .i64 s) zki = some (.int .i64 5) := by subst h; rfl
theorem zlJ {s : Int} (h : s = 7) : qi (.int .i64 s) zki = some (.int .i64 4) := by subst h; rfl
theorem zxd {op sh line : Int} {l : List AOp} (h : sh = 1) : wS op sh l line = ⟨1, 0, line, ⟨op, (aop l 1).reg, 0, (aop l 0).val.n⟩, false, 0, (aop l 0).val, 0, 0⟩ := by subst h; rfl
theorem zxe {op sh line : Int} {l : List AOp} (h : sh = 2 ∨ sh = 9 ∨ sh = 10) : wS op sh l line = ⟨1, 0, line, ⟨op, (aop l 1).reg, (aop l 0).reg, 0⟩, false, 0, noV, 0, 0⟩ := by rcases h with rfl | rfl | rfl <;> rfl
theorem zxf {op sh line : Int} {l : List AOp} (h : sh = 3 ∨ sh = 6) : wS op sh l line = ⟨1, 0, line, ⟨op, (aop l 0).reg, 0, 0⟩, false, 0, noV, 0, 0⟩ := by rcases h with rfl | rfl <;> rfl
theorem zxg {op sh line : Int} {l : List AOp} (h : sh = 4) : wS op sh l line = ⟨2, 0, line, ⟨op, 0, 0, 0⟩, false, 0, (aop l 0).val, 0, 0⟩ := by subst h; rfl
theorem zxh {op sh line : Int} {l : List AOp} (h : sh = 5) : wS op sh l line = ⟨3, 0, line, ⟨op, 0, 0, 0⟩, false, 0, (aop l 0).val, 0, 0⟩ := by subst h; rfl
theorem zxi {op sh line : Int} {l : List AOp} (h : sh = 7) : wS op sh l line = ⟨4, 0, line, ⟨op, (aop l 1).reg, 0, 0⟩, false, 0, (aop l 0).val, 0, 0⟩ := by subst h; rfl
theorem zxj {op sh line : Int} {l : List AOp} (h : sh = 8) : wS op sh l line = ⟨5, 0, line, ⟨op, (aop l 1).reg, 0, 0⟩, false, 0, (aop l 0).val, 0, 0⟩ := by subst h; rfl
theorem zv7 {op sh line : Int} {l : List AOp} (h : sh = 11) : wS op sh l line = ⟨1, 0, line, ⟨op, 0, 0, (aop l 0).val.n⟩, false, 0, (aop l 0).val, 0, 0⟩ := by subst h; rfl
theorem zxk {op sh line : Int} {l : List AOp} (h : sh = 0) : wS op sh l line = ⟨1, 0, line, ⟨op, 0, 0, 0⟩, false, 0, noV, 0, 0⟩ := by subst h; rfl
theorem zq4 (s : List UInt8) : (yP s).length ≤ 2 := by
 unfold yP
 repeat' split
 all_goals decide
theorem zho : za Tryz.prog zak (ya (fun ((b, _, l, _, _) : Bld × List UInt8 × List AOp × Int × List zl) => InB b ∧ l.length ≤ 1000000 ∧ ∀ o ∈ l, o.sign.length ≤ 1) (fun (_, name, l, line, _) => [.loc 0 0, .str name, .sl 4 (l.map qm) none, .int .i64 line])
  (fun (b, _, _, _, q) => bO q b) (fun _ => .tup []) fun (b, name, l, line, q) => vD q b (xq b name l line)) := by
 refine zf zj Tryz.func118 rfl (by decide) ?_
 rintro ⟨b, name, l, line, q⟩ ⟨hb, hl, hs⟩
 have hl : l.length ≤ 1000000 := hl
 have hs : ∀ o ∈ l, o.sign.length ≤ 1 := hs
 refine ⟨znx _ _ _, by simp [Tryz.f118], fun E hE => ?_⟩
 have hE6 : E.L.length = 6 := by rw [hE]; rfl
 have hget : ∀ k : Nat, k < l.length → l[k]? = some (aop l k) := fun k hk => by unfold aop; rw [List.getElem?_eq_getElem hk]; rfl
 refine zd4 (α := Unit) (fun _ => ¬ (name = [109, 111, 118, 46, 108] ∧ l.length = 2 ∧ (aop l 0).sign = [61] ∧ (aop l 1).sign = [114]))
  (fun _ => [(0, .loc 0 0), (1, .str name), (2, .sl 4 (l.map qm) none), (3, .int .i64 line)]) (fun _ => bO q b) ?_ ?_
 ·refine ze _ ?_
  (all_goals refine qgp ?_ <;> (repeat' first | exact trivial | intro hc | refine And.intro ?_ ?_) <;> refine Lf.mk ?_)
  ·refine zk (aop l 0) (by decide) (hget 0 (by omega)) ?_
   (all_goals refine qgp ?_ <;> (repeat' first | exact trivial | intro hc | refine And.intro ?_ ?_) <;> refine Lf.mk ?_)
   ·refine zk (aop l 1) (by decide) (hget 1 (by omega)) ?_
    (all_goals refine qgp ?_ <;> (repeat' first | exact trivial | intro hc | refine And.intro ?_ ?_) <;> refine Lf.mk ?_)
    ·refine zk (aop l 0) (by decide) (hget 0 (by omega)) ?_
     (all_goals refine qgp (Lf.mk ?_))
     refine zk (aop l 1) (by decide) (hget 1 (by omega)) ?_
     (all_goals refine qgp (Lf.mk ?_))
     refine zeC zq3 (b, (aop l 0).val, (aop l 1).reg, line, q) hb rfl (LeL.refl _) ?_
     (all_goals refine qgp (Lf.mk ?_))
     refine y6 rfl ?_
     show vD q b _ = vD q b (xq b name l line)
     unfold xq
     rw [if_pos ⟨by assumption, by omega, by assumption, by assumption⟩]
    ·exact ⟨(), fun h => absurd h.2.2.2 hc, yn rfl ⟨rfl, rfl, rfl, rfl, trivial⟩⟩
   ·exact ⟨(), fun h => absurd h.2.2.1 hc, yn rfl ⟨rfl, rfl, rfl, rfl, trivial⟩⟩
  ·exact ⟨(), fun h => by have := h.2.1; omega, yn rfl ⟨rfl, rfl, rfl, rfl, trivial⟩⟩
  ·exact ⟨(), fun h => absurd h.1 hc, yn rfl ⟨rfl, rfl, rfl, rfl, trivial⟩⟩
 ·rintro _ hM
  have hgo : xq b name l line = if (xI name (yP (x6 l)) (0, 0)).1 = 0 then yG b 1 line else if ((xI name (yP (x6 l)) (0, 0)).2 = 1 ∨ (xI name (yP (x6 l)) (0, 0)).2 = 11) ∧ (aop l 0).val.name ≠ [] then yG b 8 line
    else if yy (wS (xI name (yP (x6 l)) (0, 0)).1 (xI name (yP (x6 l)) (0, 0)).2 l line).ins = 0 then xt b (wS (xI name (yP (x6 l)) (0, 0)).1 (xI name (yP (x6 l)) (0, 0)).2 l line)
    else yG b (yy (wS (xI name (yP (x6 l)) (0, 0)).1 (xI name (yP (x6 l)) (0, 0)).2 l line).ins) line := by
   unfold xq
   rw [if_neg hM]
  have hB : vD q b (xq b name l line) = bO q (xq b name l line) := by
   refine vu ?_
   rw [hgo]
   repeat' split
   all_goals first | rw [kG] | rfl
  show AWP _ _ _ _ (vQ _ _ _ _ (vD q b (xq b name l line))) _ _
  rw [hB]
  generalize xq b name l line = B at *
  refine ze _ ?_
  (all_goals refine qgp (Lf.mk ?_))
  refine zb znw l ⟨hl, hs⟩ (VS.mk (LeL.of_eq rfl)) ?_
  have hlen := zgX hs
  have hS0 := zv6 hs (name := name) rfl
  have hTl := zq4 (x6 l)
  generalize hS : xI name (yP (x6 l)) (0, 0) = S at *
  generalize hT : yP (x6 l) = T at *
  (all_goals refine qgp (Lf.mk ?_))
  refine yN (α := Nat × Int × Int) (fun p => p.1 ≤ T.length ∧ xI name (T.drop p.1) p.2 = S) (fun p => [(48, .sl 1 (T.map (.int .i64)) none), (49, .int .i64 T.length), (50, .int .i64 p.1), (8, .int .i64 p.2.1), (9, .int .i64 p.2.2), (0, .loc 0 0), (1, .str name), (2, .sl 4 (l.map qm) none), (3, .int .i64 line)])
   (fun _ => bO q b) (fun p => T.length - p.1) (fun _ => by rw [hE6]; exact Nat.le_refl 6) (0, 0, 0) ⟨Nat.zero_le _, hS⟩ ?_ ?_
  ·exact yn rfl ⟨rfl, rfl, rfl, rfl, rfl, rfl, rfl, rfl, rfl, trivial⟩
  rintro ⟨k, o, sh⟩ ⟨hk, hp⟩
  dsimp only at hk hp ⊢
  refine ze _ ?_
  (all_goals refine zyc ?_ <;> (repeat' first | exact trivial | intro hc | refine And.intro ?_ ?_) <;> refine Lf.mk ?_)
  ·obtain ⟨x, hx⟩ := yf (l := T) (k := k) (by omega)
   have hkl : k < T.length := by omega
   have hgx : T[k] = x := by rw [List.getElem?_eq_getElem hkl] at hx; exact Option.some.inj hx
   rw [List.drop_eq_getElem_cons hkl, hgx, xI] at hp
   refine zk x (by omega) (by simpa using hx) ?_
   (all_goals refine qgp (Lf.mk ?_))
   refine zsE name x rfl ?_
   (all_goals refine qgp ?_ <;> (repeat' first | exact trivial | intro hc | refine And.intro ?_ ?_) <;> refine Lf.mk ?_)
   ·rw [if_pos (by omega)] at hp
    exact yJ (k + 1, w0 name x, x) ⟨by show k + 1 ≤ _; omega, hp⟩ (by dsimp only; omega) rfl ⟨rfl, rfl, rfl, rfl, rfl, rfl, rfl, rfl, rfl, trivial⟩
   ·rw [if_neg (by omega)] at hp
    exact yJ (k + 1, o, sh) ⟨by show k + 1 ≤ _; omega, hp⟩ (by dsimp only; omega) rfl ⟨rfl, rfl, rfl, rfl, rfl, rfl, rfl, rfl, rfl, trivial⟩
  all_goals
   have hk2 : k = T.length := by omega
   rw [hk2, List.drop_length, xI] at hp
   obtain ⟨rfl, rfl⟩ : o = S.1 ∧ sh = S.2 := by rw [← hp]; exact ⟨rfl, rfl⟩
  all_goals first
   | (have hS4 : S.2 = 4 ∨ S.2 = 5 := by omega
      refine zrQ ?_; refine zmv zj mixed 1 2 [0, 2, 1, 3, 4, 5, 6, 7, 8, 9, 10, 11, 12, 13] [0, 2, 1, 3, 4, 5, 6, 7, 8, 9, 10, 11, 12, 13] rfl rfl rfl ?_ ?_)
   | (have hS7 : S.2 = 7 ∨ S.2 = 8 := by omega
      refine zrQ ?_; refine zmv zj mixed 1 2 [0, 2, 1, 3, 4, 5, 6, 7, 8, 9, 10, 11, 12, 13, 14, 15, 16, 17, 18, 19, 20] [0, 2, 1, 3, 4, 5, 6, 7, 8, 9, 10, 11, 12, 13, 14, 15, 16, 17, 18, 19, 20] rfl rfl rfl ?_ ?_)
   | (refine zc0 ?_)
   | skip
  all_goals (try (all_goals refine qgo (Lf.mk ?_)))
  all_goals (try (refine jT (show _ = [(D.int .i64 4, D.int .i64 2)] from rfl) ?_; (all_goals refine qgo (Lf.mk ?_)); refine jT (show _ = zny from rfl) ?_; (all_goals refine qgo (Lf.mk ?_)); first | (refine kL (znz (show S.2 = 4 by omega)) ?_) | (refine kL (znA (show S.2 = 5 by omega)) ?_)))
  all_goals (try (refine jT (show _ = [(D.int .i64 5, D.int .i64 3)] from rfl) ?_; (all_goals refine qgo (Lf.mk ?_)); refine jT (show _ = zkh from rfl) ?_; (all_goals refine qgo (Lf.mk ?_)); first | (refine kL (zlG (show S.2 = 5 by omega)) ?_) | (refine kL (zlH (show S.2 = 4 by omega)) ?_)))
  all_goals (try (refine jT (show _ = [(D.int .i64 7, D.int .i64 4)] from rfl) ?_; (all_goals refine qgo (Lf.mk ?_)); refine jT (show _ = znB from rfl) ?_; (all_goals refine qgo (Lf.mk ?_)); first | (refine kL (znC (show S.2 = 7 by omega)) ?_) | (refine kL (znD (show S.2 = 8 by omega)) ?_)))
  all_goals (try (refine jT (show _ = [(D.int .i64 8, D.int .i64 5)] from rfl) ?_; (all_goals refine qgo (Lf.mk ?_)); refine jT (show _ = zki from rfl) ?_; (all_goals refine qgo (Lf.mk ?_)); first | (refine kL (zlI (show S.2 = 8 by omega)) ?_) | (refine kL (zlJ (show S.2 = 7 by omega)) ?_)))
  all_goals (try (all_goals refine qgo (Lf.mk ?_)))
  all_goals (try (refine zk (aop l 0) (by decide) (hget 0 (by omega)) ?_; (all_goals refine qgo ?_ <;> (repeat' first | exact trivial | intro hc | refine And.intro ?_ ?_) <;> refine Lf.mk ?_)))
  all_goals (try (exfalso; first | omega | exact absurd trivial (by assumption)))
  all_goals (try (refine zk (aop l 1) (by decide) (hget 1 (by omega)) ?_; (all_goals refine qgo ?_ <;> (repeat' first | exact trivial | intro hc | refine And.intro ?_ ?_) <;> refine Lf.mk ?_)))
  all_goals (try (exfalso; first | omega | exact absurd trivial (by assumption)))
  all_goals (try (refine zk (aop l 0) (by decide) (hget 0 (by omega)) ?_; (all_goals refine qgo ?_ <;> (repeat' first | exact trivial | intro hc | refine And.intro ?_ ?_) <;> refine Lf.mk ?_)))
  all_goals (try (exfalso; first | omega | exact absurd trivial (by assumption)))
  all_goals (try (refine zk (aop l 1) (by decide) (hget 1 (by omega)) ?_; (all_goals refine qgo ?_ <;> (repeat' first | exact trivial | intro hc | refine And.intro ?_ ?_) <;> refine Lf.mk ?_)))
  all_goals (try (exfalso; first | omega | exact absurd trivial (by assumption)))
  all_goals (try (refine yU q b 1 line [] rfl rfl ?_; (all_goals refine qgp (Lf.mk ?_)); exact zU [] rfl (by rw [hgo, if_pos (by assumption)]) rfl (Nat.le_of_eq rfl) .tup0))
  all_goals first
   | (have hd := zxd (op := S.1) (line := line) (l := l) (show S.2 = 1 by omega); rw [hd] at hgo; clear hd; rw [if_neg (by omega)] at hgo)
   | (have hd := zxe (op := S.1) (line := line) (l := l) (show S.2 = 2 ∨ S.2 = 9 ∨ S.2 = 10 by omega); rw [hd] at hgo; clear hd; rw [if_neg (by omega)] at hgo)
   | (have hd := zxf (op := S.1) (line := line) (l := l) (show S.2 = 3 ∨ S.2 = 6 by omega); rw [hd] at hgo; clear hd; rw [if_neg (by omega)] at hgo)
   | (have hd := zxg (op := S.1) (line := line) (l := l) (show S.2 = 4 by omega); rw [hd] at hgo; clear hd; rw [if_neg (by omega)] at hgo)
   | (have hd := zxh (op := S.1) (line := line) (l := l) (show S.2 = 5 by omega); rw [hd] at hgo; clear hd; rw [if_neg (by omega)] at hgo)
   | (have hd := zxi (op := S.1) (line := line) (l := l) (show S.2 = 7 by omega); rw [hd] at hgo; clear hd; rw [if_neg (by omega)] at hgo)
   | (have hd := zxj (op := S.1) (line := line) (l := l) (show S.2 = 8 by omega); rw [hd] at hgo; clear hd; rw [if_neg (by omega)] at hgo)
   | (have hd := zv7 (op := S.1) (line := line) (l := l) (show S.2 = 11 by omega); rw [hd] at hgo; clear hd; rw [if_neg (by omega)] at hgo)
   | (have hd := zxk (op := S.1) (line := line) (l := l) (show S.2 = 0 by omega); rw [hd] at hgo; clear hd; rw [if_neg (by omega)] at hgo)
  all_goals (try (refine yU q b 8 line [_] rfl rfl ?_; (all_goals refine qgp (Lf.mk ?_)); exact zU [_] rfl (by rw [hgo, if_pos ⟨by omega, by assumption⟩]) rfl (Nat.le_of_eq rfl) .tup0))
  all_goals rw [if_neg (fun h => by first | exact absurd (by assumption) h.2 | omega)] at hgo
  all_goals first
   | (refine zb vC ⟨S.1, (aop l 1).reg, 0, (aop l 0).val.n⟩ trivial (VS.mk (LeL.of_eq rfl)) ?_)
   | (refine zb vC ⟨S.1, (aop l 1).reg, (aop l 0).reg, 0⟩ trivial (VS.mk (LeL.of_eq rfl)) ?_)
   | (refine zb vC ⟨S.1, (aop l 0).reg, 0, 0⟩ trivial (VS.mk (LeL.of_eq rfl)) ?_)
   | (refine zb vC ⟨S.1, 0, 0, 0⟩ trivial (VS.mk (LeL.of_eq rfl)) ?_)
   | (refine zb vC ⟨S.1, (aop l 1).reg, 0, 0⟩ trivial (VS.mk (LeL.of_eq rfl)) ?_)
   | (refine zb vC ⟨S.1, 0, 0, (aop l 0).val.n⟩ trivial (VS.mk (LeL.of_eq rfl)) ?_)
  all_goals (all_goals refine qgp ?_ <;> (repeat' first | exact trivial | intro hc | refine And.intro ?_ ?_) <;> refine Lf.mk ?_)
  all_goals first
   | (refine yU q b _ line [_] rfl rfl ?_; (all_goals refine qgp (Lf.mk ?_)); exact zU [_] rfl (by rw [hgo, if_neg (by assumption)]) rfl (Nat.le_of_eq rfl) .tup0)
   | (refine yE q b ⟨1, 0, line, ⟨S.1, (aop l 1).reg, 0, (aop l 0).val.n⟩, false, 0, (aop l 0).val, 0, 0⟩ [_] hb.items rfl yM ?_; (all_goals refine qgp (Lf.mk ?_)); exact zU [_] rfl (by rw [hgo, if_pos (by assumption)]) rfl (Nat.le_of_eq rfl) .tup0)
   | (refine yE q b ⟨1, 0, line, ⟨S.1, (aop l 1).reg, (aop l 0).reg, 0⟩, false, 0, noV, 0, 0⟩ [_] hb.items rfl yM ?_; (all_goals refine qgp (Lf.mk ?_)); exact zU [_] rfl (by rw [hgo, if_pos (by assumption)]) rfl (Nat.le_of_eq rfl) .tup0)
   | (refine yE q b ⟨1, 0, line, ⟨S.1, (aop l 0).reg, 0, 0⟩, false, 0, noV, 0, 0⟩ [_] hb.items rfl yM ?_; (all_goals refine qgp (Lf.mk ?_)); exact zU [_] rfl (by rw [hgo, if_pos (by assumption)]) rfl (Nat.le_of_eq rfl) .tup0)
   | (refine yE q b ⟨2, 0, line, ⟨S.1, 0, 0, 0⟩, false, 0, (aop l 0).val, 0, 0⟩ [_] hb.items rfl yM ?_; (all_goals refine qgp ?_ <;> (repeat' first | exact trivial | intro hc | refine And.intro ?_ ?_) <;> refine Lf.mk ?_); exact zU [_] rfl (by rw [hgo, if_pos (by assumption)]) rfl (Nat.le_of_eq rfl) .tup0)
   | (refine yE q b ⟨3, 0, line, ⟨S.1, 0, 0, 0⟩, false, 0, (aop l 0).val, 0, 0⟩ [_] hb.items rfl yM ?_; (all_goals refine qgp ?_ <;> (repeat' first | exact trivial | intro hc | refine And.intro ?_ ?_) <;> refine Lf.mk ?_); exact zU [_] rfl (by rw [hgo, if_pos (by assumption)]) rfl (Nat.le_of_eq rfl) .tup0)
   | (refine yE q b ⟨4, 0, line, ⟨S.1, (aop l 1).reg, 0, 0⟩, false, 0, (aop l 0).val, 0, 0⟩ [_] hb.items rfl yM ?_; (all_goals refine qgp ?_ <;> (repeat' first | exact trivial | intro hc | refine And.intro ?_ ?_) <;> refine Lf.mk ?_); exact zU [_] rfl (by rw [hgo, if_pos (by assumption)]) rfl (Nat.le_of_eq rfl) .tup0)
   | (refine yE q b ⟨5, 0, line, ⟨S.1, (aop l 1).reg, 0, 0⟩, false, 0, (aop l 0).val, 0, 0⟩ [_] hb.items rfl yM ?_; (all_goals refine qgp ?_ <;> (repeat' first | exact trivial | intro hc | refine And.intro ?_ ?_) <;> refine Lf.mk ?_); exact zU [_] rfl (by rw [hgo, if_pos (by assumption)]) rfl (Nat.le_of_eq rfl) .tup0)
   | (refine yE q b ⟨1, 0, line, ⟨S.1, 0, 0, (aop l 0).val.n⟩, false, 0, (aop l 0).val, 0, 0⟩ [_] hb.items rfl yM ?_; (all_goals refine qgp (Lf.mk ?_)); exact zU [_] rfl (by rw [hgo, if_pos (by assumption)]) rfl (Nat.le_of_eq rfl) .tup0)
   | (refine yE q b ⟨1, 0, line, ⟨S.1, 0, 0, 0⟩, false, 0, noV, 0, 0⟩ [_] hb.items rfl yM ?_; (all_goals refine qgp (Lf.mk ?_)); exact zU [_] rfl (by rw [hgo, if_pos (by assumption)]) rfl (Nat.le_of_eq rfl) .tup0)
   | (refine yU q b _ line [_, _] rfl rfl ?_; (all_goals refine qgp (Lf.mk ?_)); exact zU [_, _] rfl (by rw [hgo, if_neg (by assumption)]) rfl (Nat.le_of_eq rfl) .tup0)
   | (refine yE q b ⟨1, 0, line, ⟨S.1, (aop l 1).reg, 0, (aop l 0).val.n⟩, false, 0, (aop l 0).val, 0, 0⟩ [_, _] hb.items rfl yM ?_; (all_goals refine qgp ?_ <;> (repeat' first | exact trivial | intro hc | refine And.intro ?_ ?_) <;> refine Lf.mk ?_); exact zU [_, _] rfl (by rw [hgo, if_pos (by assumption)]) rfl (Nat.le_of_eq rfl) .tup0)
   | (refine yE q b ⟨1, 0, line, ⟨S.1, (aop l 1).reg, (aop l 0).reg, 0⟩, false, 0, noV, 0, 0⟩ [_, _] hb.items rfl yM ?_; (all_goals refine qgp ?_ <;> (repeat' first | exact trivial | intro hc | refine And.intro ?_ ?_) <;> refine Lf.mk ?_); exact zU [_, _] rfl (by rw [hgo, if_pos (by assumption)]) rfl (Nat.le_of_eq rfl) .tup0)
   | (refine yE q b ⟨1, 0, line, ⟨S.1, (aop l 0).reg, 0, 0⟩, false, 0, noV, 0, 0⟩ [_, _] hb.items rfl yM ?_; (all_goals refine qgp ?_ <;> (repeat' first | exact trivial | intro hc | refine And.intro ?_ ?_) <;> refine Lf.mk ?_); exact zU [_, _] rfl (by rw [hgo, if_pos (by assumption)]) rfl (Nat.le_of_eq rfl) .tup0)
   | (refine yE q b ⟨2, 0, line, ⟨S.1, 0, 0, 0⟩, false, 0, (aop l 0).val, 0, 0⟩ [_, _] hb.items rfl yM ?_; (all_goals refine qgp (Lf.mk ?_)); exact zU [_, _] rfl (by rw [hgo, if_pos (by assumption)]) rfl (Nat.le_of_eq rfl) .tup0)
   | (refine yE q b ⟨3, 0, line, ⟨S.1, 0, 0, 0⟩, false, 0, (aop l 0).val, 0, 0⟩ [_, _] hb.items rfl yM ?_; (all_goals refine qgp (Lf.mk ?_)); exact zU [_, _] rfl (by rw [hgo, if_pos (by assumption)]) rfl (Nat.le_of_eq rfl) .tup0)
   | (refine yE q b ⟨4, 0, line, ⟨S.1, (aop l 1).reg, 0, 0⟩, false, 0, (aop l 0).val, 0, 0⟩ [_, _] hb.items rfl yM ?_; (all_goals refine qgp (Lf.mk ?_)); exact zU [_, _] rfl (by rw [hgo, if_pos (by assumption)]) rfl (Nat.le_of_eq rfl) .tup0)
   | (refine yE q b ⟨5, 0, line, ⟨S.1, (aop l 1).reg, 0, 0⟩, false, 0, (aop l 0).val, 0, 0⟩ [_, _] hb.items rfl yM ?_; (all_goals refine qgp (Lf.mk ?_)); exact zU [_, _] rfl (by rw [hgo, if_pos (by assumption)]) rfl (Nat.le_of_eq rfl) .tup0)
   | (refine yE q b ⟨1, 0, line, ⟨S.1, 0, 0, (aop l 0).val.n⟩, false, 0, (aop l 0).val, 0, 0⟩ [_, _] hb.items rfl yM ?_; (all_goals refine qgp ?_ <;> (repeat' first | exact trivial | intro hc | refine And.intro ?_ ?_) <;> refine Lf.mk ?_); exact zU [_, _] rfl (by rw [hgo, if_pos (by assumption)]) rfl (Nat.le_of_eq rfl) .tup0)
   | (refine yE q b ⟨1, 0, line, ⟨S.1, 0, 0, 0⟩, false, 0, noV, 0, 0⟩ [_, _] hb.items rfl yM ?_; (all_goals refine qgp ?_ <;> (repeat' first | exact trivial | intro hc | refine And.intro ?_ ?_) <;> refine Lf.mk ?_); exact zU [_, _] rfl (by rw [hgo, if_pos (by assumption)]) rfl (Nat.le_of_eq rfl) .tup0)
attribute [local irreducible] yH
theorem znE : za Tryz.prog jE (ya (fun _ : zC × zH => True) (fun (s, _) => [yK s, .loc 0 0]) (fun (_, t) => [.cells [.int .i64 t.kind, .int .i64 t.n, .str t.text]]) (fun (s, t) => .bool (s.name == t.text))
  fun (_, t) => [.cells [.int .i64 t.kind, .int .i64 t.n, .str t.text]]) := by
 refine zf zj Tryz.func151 rfl (by decide) ?_
 rintro ⟨s, t⟩ _
 refine ⟨Nat.le_refl _, by simp [Tryz.f151], fun E hE => ?_⟩
 refine ze _ ?_
 (all_goals refine qgo (Lf.mk ?_))
 exact vU [.cells [.int .i64 t.kind, .int .i64 t.n, .str t.text]] [_] rfl (Nat.le_refl 1) .bool (by intro o ho; rw [List.mem_singleton] at ho; subst ho; exact .cells (.cons .int (.cons .int (.cons .str .nil))))
theorem znF : za Tryz.prog jF (ya (fun _ : zl × zH => True) (fun (s, _) => [we s, .loc 0 0]) (fun (_, t) => [.cells [.int .i64 t.kind, .int .i64 t.n, .str t.text]]) (fun (s, t) => .bool (s.name == t.text))
  fun (_, t) => [.cells [.int .i64 t.kind, .int .i64 t.n, .str t.text]]) := by
 refine zf zj Tryz.func152 rfl (by decide) ?_
 rintro ⟨s, t⟩ _
 refine ⟨Nat.le_refl _, by simp [Tryz.f152], fun E hE => ?_⟩
 refine ze _ ?_
 (all_goals refine qgo (Lf.mk ?_))
 exact vU [.cells [.int .i64 t.kind, .int .i64 t.n, .str t.text]] [_] rfl (Nat.le_refl 1) .bool (by intro o ho; rw [List.mem_singleton] at ho; subst ho; exact .cells (.cons .int (.cons .int (.cons .str .nil))))
def xN (q : List zl) (b : Bld) (t : zH) (line : Int) : Bld :=
 if yH t.text = false ∨ 0 ≤ wK t ∨ b.syms.any (fun s => s.name == t.text) = true ∨ q.any (fun s => s.name == t.text) = true then yG b 7 line else { b with syms := b.syms ++ [⟨t.text, 0⟩], marks := b.marks ++ [(b.items.length : Int)] }
theorem zo9 : za Tryz.prog zai (ya (fun ((b, t, _, q) : Bld × zH × Int × List zl) => b.items.length ≤ 1000000 ∧ b.syms.length ≤ 1000000 ∧ b.marks.length ≤ 1000000 ∧ q.length ≤ 1000000 ∧ t.text.length ≤ 1000000000) (fun (_, t, line, _) => [.loc 0 0, zJ t, .int .i64 line])
  (fun (b, _, _, q) => bO q b) (fun _ => .tup []) fun (b, t, line, q) => bO q (xN q b t line)) := by
 refine zf zj Tryz.func113 rfl (by decide) ?_
 rintro ⟨b, t, line, q⟩ ⟨h1, h2, h3, h4, h5⟩
 have h1 : b.items.length ≤ 1000000 := h1
 have h2 : b.syms.length ≤ 1000000 := h2
 have h3 : b.marks.length ≤ 1000000 := h3
 have h4 : q.length ≤ 1000000 := h4
 have h5 : t.text.length ≤ 1000000000 := h5
 refine ⟨Nat.le_refl _, by simp [Tryz.f113], fun E hE => ?_⟩
 show AWP _ _ _ _ (vQ _ _ _ _ (bO q (xN q b t line))) _ (bO q b)
 have hdef : xN q b t line = if yH t.text = false ∨ 0 ≤ wK t ∨ b.syms.any (fun s => s.name == t.text) = true ∨ q.any (fun s => s.name == t.text) = true then yG b 7 line else { b with syms := b.syms ++ [⟨t.text, 0⟩], marks := b.marks ++ [(b.items.length : Int)] } := rfl
 generalize xN q b t line = B at *
 refine ze _ ?_
 (all_goals refine qgp (Lf.mk ?_))
 refine zb j5 t.text h5 (VS.mk (LeL.of_eq rfl)) ?_
 (all_goals refine qgp ?_ <;> (repeat' first | exact trivial | intro hc | refine And.intro ?_ ?_) <;> refine Lf.mk ?_)
 ·refine yU q b 7 line [_] rfl rfl ?_
  (all_goals refine qgp (Lf.mk ?_))
  exact zU [_] rfl (by rw [hdef, if_pos (.inl (by simpa using hc))]) rfl (Nat.le_of_eq rfl) .tup0
 refine zb zaB t h5 (VS.mk (LeL.of_eq rfl)) ?_
 (all_goals refine qgp ?_ <;> (repeat' first | exact trivial | intro hc | refine And.intro ?_ ?_) <;> refine Lf.mk ?_)
 ·refine yU q b 7 line [_] rfl rfl ?_
  (all_goals refine qgp (Lf.mk ?_))
  exact zU [_] rfl (by rw [hdef, if_pos (.inr (.inl hc))]) rfl (Nat.le_of_eq rfl) .tup0
 refine zum jE [.loc 6 0] (fun s => s.name == t.text) b.syms (.cells (bC q b)) (.arr 13 (b.items.map xn)) [.spare b.marks.length, .arr 1 (zM b), zdJ b, .cells [.int .i64 t.kind, .int .i64 t.n, .str t.text]] (by omega) rfl rfl
  (fun s hs KP KW hK => ?_) ?_
 ·exact yb znE [6] [6] (s, t) trivial rfl rfl ⟨VS.mk (LeL.refl _), VS.mk rfl, hK⟩
 cases hs : b.syms.any (fun s => s.name == t.text) with
 | true =>
  (all_goals refine qgp ?_ <;> (repeat' first | exact trivial | intro hc | refine And.intro ?_ ?_) <;> refine Lf.mk ?_)
  (any_goals (first | (exfalso; refine Bool.false_ne_true ?_; assumption) | (exfalso; refine Bool.false_ne_true (Eq.symm ?_); assumption) | (exfalso; refine absurd trivial ?_; assumption) | skip))
  refine yU q b 7 line [_] rfl rfl ?_
  (all_goals refine qgp (Lf.mk ?_))
  exact zU [_] rfl (by rw [hdef, if_pos (.inr (.inr (.inl hs)))]) rfl (Nat.le_of_eq rfl) .tup0
 | false =>
  (all_goals refine qgp ?_ <;> (repeat' first | exact trivial | intro hc | refine And.intro ?_ ?_) <;> refine Lf.mk ?_)
  (any_goals (first | (exfalso; refine Bool.false_ne_true ?_; assumption) | (exfalso; refine Bool.false_ne_true (Eq.symm ?_); assumption) | (exfalso; refine absurd trivial ?_; assumption) | skip))
  refine zun jF [.loc 6 0] (fun s => s.name == t.text) q (by omega) rfl (fun s hs KP KW hK => ?_) ?_
  ·exact yb znF [6] [6] (s, t) trivial rfl rfl ⟨VS.mk (LeL.refl _), VS.mk rfl, hK⟩
  cases hq : q.any (fun s => s.name == t.text) with
  | true =>
   (all_goals refine qgp ?_ <;> (repeat' first | exact trivial | intro hc | refine And.intro ?_ ?_) <;> refine Lf.mk ?_)
   (any_goals (first | (exfalso; refine Bool.false_ne_true ?_; assumption) | (exfalso; refine Bool.false_ne_true (Eq.symm ?_); assumption) | (exfalso; refine absurd trivial ?_; assumption) | skip))
   refine yU q b 7 line [_] rfl rfl ?_
   (all_goals refine qgp (Lf.mk ?_))
   exact zU [_] rfl (by rw [hdef, if_pos (.inr (.inr (.inr hq)))]) rfl (Nat.le_of_eq rfl) .tup0
  | false =>
   (all_goals refine qgk ?_ <;> (repeat' first | exact trivial | intro hc | refine And.intro ?_ ?_) <;> refine Lf.mk ?_)
   (any_goals (first | (exfalso; refine Bool.false_ne_true ?_; assumption) | (exfalso; refine Bool.false_ne_true (Eq.symm ?_); assumption) | (exfalso; refine absurd trivial ?_; assumption) | skip))
   refine wZ ((b.syms ++ [(⟨t.text, 0⟩ : zC)]).map yK) (by rw [List.map_append]; rfl) ?_
   rw [List.length_map]
   (all_goals refine qgk (Lf.mk ?_))
   refine wZ ((b.marks ++ [((b.items.length : Nat) : Int)]).map (D.int .i64)) (by rw [List.map_append]; rfl) ?_
   rw [List.length_map]
   (all_goals refine qgk (Lf.mk ?_))
   rw [if_neg (fun h => ?_)] at hdef
   ·rw [hdef]
    exact zU [_] rfl rfl rfl (Nat.le_of_eq rfl) .tup0
   ·rcases h with h | h | h | h
    ·simp_all
    ·omega
    ·rw [hs] at h; cases h
    ·rw [hq] at h; cases h
end Go.Proofs.YtnkdeacghopkiaaGreatDoor
namespace Go.Proofs.YtnkdeacghopkiaaGreatDoor
open Go Go.Plat
set_option linter.unusedVariables false
set_option linter.unusedSimpArgs false
set_option maxRecDepth 100000
set_option maxHeartbeats 2000000
attribute [local irreducible] AWP zA yh zE zn yu z6 zF zX Lib.itoa zY zq za zL yv zo zZ yq yr yj ym zr zu zz xl xQ wK
theorem znG (q : List zl) (line : Int) : ∀ (f : Nat) (out : List AOp) (s : RB), s.fe = 0 → (jv q line f out s).1.length ≤ out.length + s.rest.length
 | 0, out, s, _ => Nat.le_add_right _ _
 | f + 1, out, s, hs => by
  rw [jv]
  split
  ·exact Nat.le_add_right _ _
  ·rename_i hn
   have h1 : 1 ≤ s.rest.length := by
    cases hr : s.rest with
    | nil => exact absurd (.inl hr) hn
    | cons a l => simp
   have h2 := (zns q line s).1
   split
   ·simp only [List.length_append, List.length_cons, List.length_nil]; omega
   ·by_cases h3 : (xM line (yY q line s).2).fe = 0
    ·have h4 := zji line _ h3
     have := znG q line f (out ++ [(yY q line s).1]) _ h3
     simp only [List.length_append, List.length_cons, List.length_nil] at this
     omega
    ·rw [zh3 (.inr h3)]
     simp only [List.length_append, List.length_cons, List.length_nil]; omega
theorem znH (q : List zl) (line : Int) (s : RB) (h : s.fe = 0) : (xp q line s).1.length ≤ s.rest.length := by
 have := znG q line (s.rest.length + 1) [] s h
 simpa [xp] using this
theorem zsF (s : RB) : (kf s).1.length ≤ 1 := by
 unfold kf
 repeat' split
 all_goals simp
theorem zsG (q : List zl) (line : Int) (s : RB) : (yY q line s).1.sign.length ≤ 1 := by
 have := zsF s
 unfold yY zaA
 split
 ·dsimp only
  split
  ·simp
  ·exact this
 split
 ·exact this
 ·exact this
theorem zkZ (q : List zl) (line : Int) : ∀ (f : Nat) (out : List AOp) (s : RB), (∀ o ∈ out, o.sign.length ≤ 1) → ∀ o ∈ (jv q line f out s).1, o.sign.length ≤ 1
 | 0, out, s, h => h
 | f + 1, out, s, h => by
  have h' : ∀ o ∈ out ++ [(yY q line s).1], o.sign.length ≤ 1 := by
   intro o ho
   rcases List.mem_append.1 ho with ho | ho
   ·exact h o ho
   ·rw [List.mem_singleton] at ho; subst ho; exact zsG q line s
  rw [jv]
  split
  ·exact h
  split
  ·exact h'
  ·exact zkZ q line f _ _ h'
theorem zsH (q : List zl) (line : Int) (s : RB) : ∀ o ∈ (xp q line s).1, o.sign.length ≤ 1 := zkZ q line _ [] s (by simp)
def xa (q : List zl) (line : Int) : List zH → Bld → Bld × List zH
 | t :: c :: r, b => if t.kind = 1 ∧ c.kind = 3 ∧ c.text = [58] then xa q line r (xN q b t line) else (b, t :: c :: r)
 | [t], b => (b, [t])
 | [], b => (b, [])
def zgY (b : Bld) (w : List UInt8) (ops : List AOp) (line : Int) : Bld :=
 if w = [46, 98, 121, 116, 101] then jk b 1 ops line else if w = [46, 119, 111, 114, 100] then jk b 2 ops line else if w = [46, 108, 111, 110, 103] then jk b 4 ops line
 else if w = [46, 97, 108, 105, 103, 110] then qZ b ops line else if w = [46, 112, 111, 111, 108] then (if 0 < ops.length then yG b 2 line else vM b line) else xq b w ops line
def zdm (q : List zl) (b : Bld) (line : Int) : List zH → Bld
 | [] => b
 | t :: r => if b.fe ≠ 0 then b else if t.kind ≠ 1 then yG b 2 line else
  if (xp q line ⟨r, b.fe, b.fa⟩).2.fe ≠ 0 then xJ b (xp q line ⟨r, b.fe, b.fa⟩).2 else zgY (xJ b (xp q line ⟨r, b.fe, b.fa⟩).2) t.text (xp q line ⟨r, b.fe, b.fa⟩).1 line
def xT (q : List zl) (b : Bld) (x : zy) : Bld := zdm q (xa q x.pos x.toks b).1 x.pos (xa q x.pos x.toks b).2
structure yc (b : Bld) (k : Nat) : Prop where
 items : b.items.length + k ≤ 1000000
 syms : b.syms.length + k ≤ 1000000
 marks : b.marks.length + k ≤ 1000000
 shut : b.shut.length + k ≤ 1000000
 curl : b.cur.length + k ≤ 1000000
 cur : b.has = false → b.cur = []
theorem yc.less {b : Bld} {k j : Nat} (h : yc b k) (hj : j ≤ k) : yc b j := ⟨by have := h.items; omega, by have := h.syms; omega, by have := h.marks; omega, by have := h.shut; omega, by have := h.curl; omega, h.cur⟩
theorem yc.inB {b : Bld} {k : Nat} (h : yc b k) : InB b := ⟨h.cur, by have := h.items; omega, by have := h.shut; omega, by have := h.curl; omega⟩
theorem yc.fail {b : Bld} {k : Nat} (h : yc b k) (e line : Int) : yc (yG b e line) k := by
 unfold yG
 split
 ·exact ⟨h.items, h.syms, h.marks, h.shut, h.curl, h.cur⟩
 ·exact h
theorem yc.put {b : Bld} {k : Nat} (h : yc b (k + 1)) (x : zp) : yc (xt b x) k :=
 ⟨by have := h.items; simp only [xt, List.length_append, List.length_cons, List.length_nil]; omega, by have := h.syms; simp only [xt]; omega, by have := h.marks; simp only [xt]; omega, by have := h.shut; simp only [xt]; omega, by have := h.curl; simp only [xt]; omega, h.cur⟩
theorem yc.label {q : List zl} {b : Bld} {k : Nat} (h : yc b (k + 1)) (t : zH) (line : Int) : yc (xN q b t line) k := by
 unfold xN
 split
 ·exact (h.less (Nat.le_succ k)).fail _ _
 ·exact ⟨by have := h.items; dsimp only; omega, by have := h.syms; simp only [List.length_append, List.length_cons, List.length_nil]; omega, by have := h.marks; simp only [List.length_append, List.length_cons, List.length_nil]; omega, by have := h.shut; dsimp only; omega, by have := h.curl; dsimp only; omega, h.cur⟩
theorem yc.set {b : Bld} {k : Nat} (h : yc b k) (s : RB) : yc (xJ b s) k := ⟨h.items, h.syms, h.marks, h.shut, h.curl, h.cur⟩
theorem yc.dat {b : Bld} {k : Nat} (h : yc b (k + 1)) (size line : Int) (o : AOp) : yc (va size line b o) k := by
 unfold va
 repeat' split
 ·exact (h.fail _ _).put _
 ·exact (h.fail _ _).put _
 ·exact (h.fail _ _).put _
 ·exact h.put _
theorem yc.datas {size line : Int} : ∀ (l : List AOp) {b : Bld} {k : Nat}, yc b (k + l.length) → yc (l.foldl (va size line) b) k
 | [], b, k, h => h
 | o :: l, b, k, h => yc.datas l (yc.dat (by rw [Nat.add_assoc]; exact h) size line o)
theorem yc.data {b : Bld} {k : Nat} {l : List AOp} (h : yc b (k + l.length)) (size line : Int) : yc (jk b size l line) k := by
 unfold jk
 refine yc.datas l ?_
 split
 ·exact h.fail _ _
 ·exact h
theorem yc.align {b : Bld} {k : Nat} {l : List AOp} (h : yc b (k + 1)) (line : Int) : yc (qZ b l line) k := by
 unfold qZ
 repeat' split
 ·exact (h.less (Nat.le_succ k)).fail _ _
 ·exact (h.less (Nat.le_succ k)).fail _ _
 ·exact h.put _
theorem yc.pool {b : Bld} {k : Nat} (h : yc b (k + 1)) (line : Int) : yc (vM b line) k := by
 unfold vM
 split
 ·have := h.put ⟨9, 0, line, noI, false, 0, noV, b.shut.length, 0⟩
  exact ⟨this.items, this.syms, this.marks, by have := h.shut; simp only [List.length_append, List.length_cons, List.length_nil]; omega, by have := h.curl; simp only [List.length_nil]; omega, fun _ => rfl⟩
 ·exact h.less (Nat.le_succ k)
theorem zsI (v : zw) (l : List zw) : (w1 v l).length ≤ l.length + 1 := by
 unfold w1
 split
 ·simp
 ·omega
theorem yc.lit {b : Bld} {k : Nat} (h : yc b (k + 1)) (v : zw) (reg line : Int) : yc (kE b v reg line) k := by
 have hw := zsI v b.cur
 refine ⟨by have := h.items; simp only [kE, xt, List.length_append, List.length_cons, List.length_nil]; omega, by have := h.syms; simp only [kE, xt]; omega, by have := h.marks; simp only [kE, xt]; omega, by have := h.shut; simp only [kE, xt]; omega, ?_, fun h => by simp only [kE, xt] at h; cases h⟩
 have := h.curl
 simp only [kE, xt]; omega
theorem yc.instr {b : Bld} {k : Nat} (h : yc b (k + 1)) (name : List UInt8) (l : List AOp) (line : Int) : yc (xq b name l line) k := by
 unfold xq
 split
 ·exact h.lit _ _ _
 repeat' split
 ·exact (h.less (Nat.le_succ k)).fail _ _
 ·exact (h.less (Nat.le_succ k)).fail _ _
 ·exact h.put _
 ·exact (h.less (Nat.le_succ k)).fail _ _
theorem yc.word {b : Bld} {k : Nat} {l : List AOp} (h : yc b (k + 1 + l.length)) (w : List UInt8) (line : Int) : yc (zgY b w l line) k := by
 have h1 : yc b (k + 1) := h.less (by omega)
 have h2 : yc b (k + l.length) := h.less (by omega)
 unfold zgY
 repeat' split
 ·exact h2.data _ _
 ·exact h2.data _ _
 ·exact h2.data _ _
 ·exact h1.align _
 ·exact (h1.less (Nat.le_succ k)).fail _ _
 ·exact h1.pool _
 ·exact h1.instr _ _ _
theorem zgg {q : List zl} {line : Int} : ∀ (l : List zH) {b : Bld} {k : Nat}, yc b (k + l.length) → yc (xa q line l b).1 (k + (xa q line l b).2.length) ∧ (xa q line l b).2.length ≤ l.length ∧
  wt ((xa q line l b).2.map tk) ≤ wt (l.map tk) ∧ (∀ t ∈ (xa q line l b).2, t ∈ l) ∧ (xa q line l b).1.has = b.has
 | [], b, k, h => by rw [xa]; exact ⟨h, Nat.le_refl _, Nat.le_refl _, fun _ h => h, rfl⟩
 | [t], b, k, h => by rw [xa]; exact ⟨h, Nat.le_refl _, Nat.le_refl _, fun _ h => h, rfl⟩
 | t :: c :: r, b, k, h => by
  rw [xa]
  split
  ·have hl : yc (xN q b t line) (k + r.length) := (h.less (by simp only [List.length_cons]; omega) : yc b (k + r.length + 1)).label t line
   obtain ⟨h1, h2, h3, h4, h5⟩ := zgg r hl
   refine ⟨h1, by simp only [List.length_cons]; omega, by simp only [List.map_cons, wt]; omega, fun x hx => List.mem_cons_of_mem _ (List.mem_cons_of_mem _ (h4 x hx)), h5.trans ?_⟩
   unfold xN
   split
   ·exact kG _ _ _
   ·rfl
  ·exact ⟨h, Nat.le_refl _, Nat.le_refl _, fun _ h => h, rfl⟩
theorem yc.rest {q : List zl} {b : Bld} {k : Nat} {l : List zH} (h : yc b (k + l.length)) (line : Int) : yc (zdm q b line l) k := by
 cases l with
 | nil => exact h
 | cons t r =>
  have h0 : yc b k := h.less (by omega)
  rw [zdm]
  split
  ·exact h0
  rename_i hf
  have hf : b.fe = 0 := Classical.not_not.1 hf
  split
  ·exact h0.fail _ _
  split
  ·exact h0.set _
  ·have hl := znH q line ⟨r, b.fe, b.fa⟩ hf
   have hl : (xp q line ⟨r, b.fe, b.fa⟩).1.length ≤ r.length := hl
   exact yc.word ((h.less (by simp only [List.length_cons]; omega)).set _) _ _
theorem yc.line {q : List zl} {b : Bld} {k : Nat} (x : zy) (h : yc b (k + x.toks.length)) : yc (xT q b x) k := (zgg x.toks h).1.rest x.pos
attribute [local irreducible] zg.kids zg.kind zg.n zg.name xp xe w0 wo xN yH yD yY w2 zP w1 yy
def zlX (x : zy) : Ob := .cells [.int .i64 x.pos, .sl 3 (x.toks.map zJ) none]
theorem zq5 {av : List D} {L : List Ob} {KP : D → Prop} {KW : D → List Ob → Prop} (q : List zl) (b : Bld) (t : zH) (line : Int) (X : List Ob) {k : Nat} (hr : yc b k) (hq : q.length ≤ 1000000) (ht : t.text.length ≤ 1000000000) (hL : L = bO q b ++ X) (has : av = [.loc 0 0, zJ t, .int .i64 line])
  (hK : KW (.tup []) (bO q (xN q b t line) ++ X)) : zn Tryz.prog zai av L KP KW := by
 subst has
 have hr := hr.less (Nat.zero_le k)
 exact y7 zo9 X (b, t, line, q) ⟨hr.items, hr.syms, hr.marks, hq, ht⟩ hL (LeL.refl _) rfl (.cons (.loc (Nat.lt_of_lt_of_le (by decide : 0 < 6) (Nat.le_of_eq rfl))) (.cons (.agg (.cons .int (.cons .int (.cons .str .nil)))) (.cons .int .nil))) .tup0 (xf _ _) (xf _ _) hK
theorem jm (q : List zl) (b : Bld) (i : Nat) (o : Ob) (h : (bO q b)[i]? = some o) : ClO 6 o := xf _ _ _ (List.mem_of_getElem? h)
theorem zsJ (s : RB) (line : Int) : ClO 6 (arC s line) := .cells (.cons (.loc (by decide)) (.cons .sl (.cons .int .nil)))
theorem zur {av : List D} {L : List Ob} {KP : D → Prop} {KW : D → List Ob → Prop} (q : List zl) (b : Bld) (s : RB) (line : Int) (Y : Ob) (hl : kQ s q) (ht : ∀ t ∈ s.rest, t.text.length ≤ 1000000000) (hL : L = bO q (xJ b s) ++ [Y, arC s line]) (has : av = [.loc 7 0])
  (hK : KW (.sl 4 ((xp q line s).1.map qm) none) (bO q (xJ b (xp q line s).2) ++ [Y, arC (xp q line s).2 line])) : zn Tryz.prog zcr av L KP KW := by
 subst has
 subst hL
 have key : ∀ k, k < 6 → zG [0, 1, 2, 3, 4, 5, 7] 0 k = some k := by decide
 have key' : ∀ k, k < 6 → vz [0, 1, 2, 3, 4, 5, 7] k = some k := by decide
 refine ztO (L' := bO q (xJ b (xp q line s).2) ++ [Y, arC (xp q line s).2 line]) (d := .sl 4 ((xp q line s).1.map qm) none) (as1 := [.loc 6 0]) (L1 := vb q b s line) (L1' := vb q b (xp q line s).2 line) (d1 := .sl 4 ((xp q line s).1.map qm) none) zsy [0, 1, 2, 3, 4, 5, 7] rfl ⟨rfl, fun i d d' h1 h2 => ?_⟩ ?_ ⟨(b, s, q, line), ⟨hl, ht⟩, LeL.refl _, rfl, rfl, rfl⟩ (ClD.sl (n := 0) _ fun k hk => absurd hk (Nat.not_lt_zero k)) rfl rfl (fun k hk hn => ?_) (fun i k hi => ?_) hK
 ·cases i with
  | zero =>
   cases h1
   cases h2
   obtain ⟨d', h3, rfl⟩ := wY (show zap (zG [0, 1, 2, 3, 4, 5, 7] 0) (.loc 7 0) (fun d' => d' = .loc 6 0) from rfl)
   exact h3
  | succ i => simp at h1
 ·exact .cons (o := .cells (bC q (xJ b s))) rfl (jm q (xJ b s) 0 _ rfl _ key) (.cons (o := .arr 13 (b.items.map xn)) rfl (jm q (xJ b s) 1 _ rfl _ key) (.cons (o := .arr 2 (b.syms.map yK)) rfl (jm q (xJ b s) 2 _ rfl _ key)
   (.cons (o := .spare b.marks.length) rfl (jm q (xJ b s) 3 _ rfl _ key) (.cons (o := .arr 1 (zM (xJ b s))) rfl (jm q (xJ b s) 4 _ rfl _ key) (.cons (o := zdJ (xJ b s)) rfl (jm q (xJ b s) 5 _ rfl _ key) (.cons (o := arC s line) rfl (zsJ s line _ key) .nil))))))
 ·match k, hk, hn with
  | 0, _, hn => exact absurd (by decide) hn
  | 1, _, hn => exact absurd (by decide) hn
  | 2, _, hn => exact absurd (by decide) hn
  | 3, _, hn => exact absurd (by decide) hn
  | 4, _, hn => exact absurd (by decide) hn
  | 5, _, hn => exact absurd (by decide) hn
  | 6, _, _ => rfl
  | 7, _, hn => exact absurd (by decide) hn
  | k + 8, hk, _ => exact absurd hk (by simp [bO, bT])
 ·match i, hi with
  | 0, hi => cases hi; exact ⟨.cells (bC q (xJ b (xp q line s).2)), _, rfl, rfl, jm q (xJ b (xp q line s).2) 0 _ rfl _ key'⟩
  | 1, hi => cases hi; exact ⟨.arr 13 (b.items.map xn), _, rfl, rfl, jm q (xJ b (xp q line s).2) 1 _ rfl _ key'⟩
  | 2, hi => cases hi; exact ⟨.arr 2 (b.syms.map yK), _, rfl, rfl, jm q (xJ b (xp q line s).2) 2 _ rfl _ key'⟩
  | 3, hi => cases hi; exact ⟨.spare b.marks.length, _, rfl, rfl, jm q (xJ b (xp q line s).2) 3 _ rfl _ key'⟩
  | 4, hi => cases hi; exact ⟨.arr 1 (zM (xJ b (xp q line s).2)), _, rfl, rfl, jm q (xJ b (xp q line s).2) 4 _ rfl _ key'⟩
  | 5, hi => cases hi; exact ⟨zdJ (xJ b (xp q line s).2), _, rfl, rfl, jm q (xJ b (xp q line s).2) 5 _ rfl _ key'⟩
  | 6, hi => cases hi; exact ⟨arC (xp q line s).2 line, _, rfl, rfl, zsJ _ _ _ key'⟩
  | i + 7, hi => simp at hi
theorem zgZ {q : List zl} {b b' : Bld} (h : b'.has = true → b.has = true) : vD q b b' = bO q b' := by
 unfold vD
 rw [if_neg fun e => by have := h e.2; rw [e.1] at this; cases this]
def bOn (k : Nat) (q : List zl) (b : Bld) : List Ob :=
 [.cells (bCk q b), .arr 13 (b.items.map xn), .arr 2 (b.syms.map yK), .spare b.marks.length, .arr 1 (b.shut.map y9 ++ [.sl 2 (b.cur.map yI) (some k)]), .dead]
theorem zxl (q : List zl) (b : Bld) : ClL 5 (bCk q b) :=
 .cons .sl (.cons (.osl (by decide)) (.cons (.osl (by decide)) (.cons (.tok (by decide)) (.cons (.osl (by decide)) (.cons .int (.cons .nilsl (.cons .nilsl (.cons .nilsl (.cons .int (.cons .int .nil))))))))))
theorem zg0 {m : Nat → Option Nat} {k k' : Nat} (q : List zl) (b : Bld) (hm : ∀ j, j < 5 → m j = some j) (hk : m k = some k') : ∀ (i : Nat) x y, (bOn k q b)[i]? = some x → (bOn k' q b)[i]? = some y → yl m x y := by
 intro i x y h1 h2
 match i, h1, h2 with
 | 0, h1, h2 => cases h1; cases h2; exact ClO.cells (zxl q b) _ hm
 | 1, h1, h2 => cases h1; cases h2; exact ClO.arr (n := 5) (kF _) _ hm
 | 2, h1, h2 => cases h1; cases h2; exact ClO.arr (n := 5) (jJ _) _ hm
 | 3, h1, h2 => cases h1; cases h2; rfl
 | 4, h1, h2 => cases h1; cases h2; exact zdl hk _ _
 | 5, h1, h2 => cases h1; cases h2; rfl
 | i + 6, h1, h2 => simp [bOn] at h1
theorem zq6 {av : List D} {L : List Ob} {KP : D → Prop} {KW : D → List Ob → Prop} (q : List zl) (b : Bld) (name : List UInt8) (l : List AOp) (line : Int) (X : List Ob) (hb : InB b) (hl : l.length ≤ 1000000) (hs : ∀ o ∈ l, o.sign.length ≤ 1)
  (hL : L = bO q b ++ X) (has : av = [.loc 0 0, .str name, .sl 4 (l.map qm) none, .int .i64 line])
  (hK1 : ((xq b name l line).has = true → b.has = true) → KW (.tup []) (bO q (xq b name l line) ++ X))
  (hK2 : b.has = false → (xq b name l line).has = true → KW (.tup []) (bOn L.length q (xq b name l line) ++ X ++ [.spare (xq b name l line).cur.length])) : zn Tryz.prog zak av L KP KW := by
 subst has
 have hcl : ClL (bO q b).length [.loc 0 0, .str name, .sl 4 (l.map qm) none, .int .i64 line] := .cons (.loc (Nat.lt_of_lt_of_le (by decide : 0 < 6) (Nat.le_of_eq rfl))) (.cons .str (.cons .sl (.cons .int .nil)))
 by_cases h : b.has = false ∧ (xq b name l line).has = true
 ·refine zfY zho (bO q b) X (bOn 6 q (xq b name l line)) (bOn L.length q (xq b name l line)) (.spare (xq b name l line).cur.length) (d := .tup []) hL ⟨(b, name, l, line, q), ⟨hb, hl, hs⟩, LeL.refl _, rfl, rfl, (zeX h.1 h.2).symm⟩ rfl rfl hcl .tup0 (xf _ _)
   (fun m hm hk => zg0 q _ (fun j hj => hm j (Nat.lt_of_lt_of_le hj (by decide : 5 ≤ 6))) hk) .spare (hK2 h.1 h.2)
 ·have hn : (xq b name l line).has = true → b.has = true := fun e => by
   cases hb : b.has with
   | true => rfl
   | false => exact absurd ⟨hb, e⟩ h
  refine zhV zho (bO q b) X (bO q (xq b name l line)) (d := .tup []) hL ⟨(b, name, l, line, q), ⟨hb, hl, hs⟩, LeL.refl _, rfl, rfl, (zgZ hn).symm⟩ rfl hcl .tup0 (xf _ _) (xf _ _) (hK1 hn)
theorem zgh {av : List D} {L : List Ob} {KP : D → Prop} {KW : D → List Ob → Prop} (q : List zl) (b : Bld) (size : Int) (l : List AOp) (line : Int) (X : List Ob) (hl : b.items.length + l.length ≤ 1000000) (hs : size = 1 ∨ size = 2 ∨ size = 4)
  (hL : L = bO q b ++ X) (has : av = [.loc 0 0, .int .i64 size, .sl 4 (l.map qm) none, .int .i64 line]) (hK : KW (.tup []) (bO q (jk b size l line) ++ X)) : zn Tryz.prog zbj av L KP KW := by
 subst has
 exact y7 zo7 X (b, size, l, line, q) ⟨hl, hs⟩ hL (LeL.refl _) rfl (.cons (.loc (Nat.lt_of_lt_of_le (by decide : 0 < 6) (Nat.le_of_eq rfl))) (.cons .int (.cons .sl (.cons .int .nil)))) .tup0 (xf _ _) (xf _ _) hK
theorem zq7 {av : List D} {L : List Ob} {KP : D → Prop} {KW : D → List Ob → Prop} (q : List zl) (b : Bld) (l : List AOp) (line : Int) (X : List Ob) (hl : b.items.length ≤ 1000000) (hs : l.length ≤ 1000000000)
  (hL : L = bO q b ++ X) (has : av = [.loc 0 0, .sl 4 (l.map qm) none, .int .i64 line]) (hK : KW (.tup []) (bO q (qZ b l line) ++ X)) : zn Tryz.prog zaj av L KP KW := by
 subst has
 exact y7 znu X (b, l, line, q) ⟨hl, hs⟩ hL (LeL.refl _) rfl (.cons (.loc (Nat.lt_of_lt_of_le (by decide : 0 < 6) (Nat.le_of_eq rfl))) (.cons .sl (.cons .int .nil))) .tup0 (xf _ _) (xf _ _) hK
theorem zk0 {av : List D} {L : List Ob} {KP : D → Prop} {KW : D → List Ob → Prop} (q : List zl) (b : Bld) (line : Int) (X : List Ob) (hl : b.items.length ≤ 1000000) (hs : b.shut.length ≤ 1000000)
  (hL : L = bO q b ++ X) (has : av = [.loc 0 0, .int .i64 line]) (hK : KW (.tup []) (bO q (vM b line) ++ X)) : zn Tryz.prog zbh av L KP KW := by
 subst has
 exact y7 zo8 X (b, line, q) ⟨hl, hs⟩ hL (LeL.refl _) rfl (.cons (.loc (Nat.lt_of_lt_of_le (by decide : 0 < 6) (Nat.le_of_eq rfl))) (.cons .int .nil)) .tup0 (xf _ _) (xf _ _) hK
theorem znI {size line : Int} : ∀ (l : List AOp) (b : Bld), (l.foldl (va size line) b).has = b.has
 | [], b => rfl
 | o :: l, b => by
  rw [List.foldl_cons, znI l]
  unfold va
  repeat' split
  all_goals first | exact kG _ _ _ | rfl
theorem zgi (b : Bld) (size : Int) (l : List AOp) (line : Int) : (jk b size l line).has = b.has := by
 unfold jk
 rw [znI]
 split
 ·exact kG _ _ _
 ·rfl
theorem zq8 (b : Bld) (l : List AOp) (line : Int) : (qZ b l line).has = b.has := by
 unfold qZ
 repeat' split
 all_goals first | exact kG _ _ _ | rfl
theorem zsK (b : Bld) (line : Int) : (vM b line).has = true → b.has = true := by
 unfold vM
 split
 ·intro _; assumption
 ·exact id
theorem zjj : za Tryz.prog zbg (ya (fun ((b, x, q) : Bld × zy × List zl) => yc b (1 + x.toks.length) ∧ wt (x.toks.map tk) ≤ 1048576 ∧ q.length ≤ 1000000) (fun (_, x, _) => [.loc 0 0, zS x])
  (fun (b, _, q) => bO q b) (fun _ => .tup []) fun (b, x, q) => vD q b (xT q b x)) := by
 refine zf zj Tryz.func87 rfl (by decide) ?_
 rintro ⟨b, x, q⟩ ⟨hr, hw, hq⟩
 have hr : yc b (1 + x.toks.length) := hr
 have hw : wt (x.toks.map tk) ≤ 1048576 := hw
 have hq : q.length ≤ 1000000 := hq
 have htx : ∀ t ∈ x.toks, t.text.length ≤ 1000000000 := fun t ht => by
  have : ∀ l : List zH, t ∈ l → t.text.length ≤ wt (l.map tk) := by
   intro l
   induction l with
   | nil => intro h; cases h
   | cons a l ih =>
    intro h
    rw [List.map_cons, wt]
    rcases List.mem_cons.1 h with rfl | h
    ·show t.text.length ≤ 1 + t.text.length + _; omega
    ·have := ih h; omega
  have := this _ ht
  omega
 refine ⟨znx _ _ _, by simp [Tryz.f87], fun E hE => ?_⟩
 have hE6 : E.L.length = 6 := by rw [hE]; rfl
 have hlen : x.toks.length ≤ 1048576 := by have := zjh (x.toks.map tk); rw [List.length_map] at this; omega
 refine wj (ze _ ?_)
 (all_goals refine qgp (Lf.mk ?_))
 refine wj (ze _ ?_)
 (all_goals refine qgp (Lf.mk ?_))
 refine zd4 (α := Unit) (fun _ => True) (fun _ => [(0, .loc 0 0), (3, .loc 6 0), (4, .sl 3 ((xa q x.pos x.toks b).2.map zJ) none)]) (fun _ => bO q (xa q x.pos x.toks b).1 ++ [zlX x]) ?_ ?_
 ·refine ze _ ?_
  (all_goals refine qgp (Lf.mk ?_))
  have hout : ∀ (l : List zH) (b1 : Bld), xa q x.pos l b1 = xa q x.pos x.toks b → xa q x.pos l b1 = (b1, l) → (xa q x.pos x.toks b).1 = b1 ∧ (xa q x.pos x.toks b).2 = l := fun l b1 h h' => by rw [← h, h']; exact ⟨rfl, rfl⟩
  refine yN (α := List zH × Bld) (fun p => xa q x.pos p.1 p.2 = xa q x.pos x.toks b ∧ yc p.2 (1 + p.1.length) ∧ (∀ t ∈ p.1, t ∈ x.toks) ∧ p.1.length ≤ 1048576) (fun p => [(0, .loc 0 0), (3, .loc 6 0), (4, .sl 3 (p.1.map zJ) none)])
   (fun p => bO q p.2 ++ [zlX x]) (fun p => p.1.length) (fun _ => by rw [hE6]; exact Nat.le_succ 6) (x.toks, b) ⟨rfl, hr, fun _ h => h, hlen⟩ ?_ ?_
  ·exact yn rfl ⟨rfl, rfl, rfl, trivial⟩
  rintro ⟨l, b1⟩ ⟨i1, i2, i3, i4⟩
  dsimp only at i1 i2 i3 i4 ⊢
  match l, i1, i2, i3, i4 with
  | [], i1, i2, i3, i4 =>
   refine ze _ ?_
   (all_goals refine qgp ?_ <;> (repeat' first | exact trivial | intro hc | refine And.intro ?_ ?_) <;> refine Lf.mk ?_)
   obtain ⟨h1, h2⟩ := hout [] b1 i1 (by rw [xa])
   exact ⟨(), trivial, yn (by rw [h1]) ⟨rfl, rfl, by rw [h2]; rfl, trivial⟩⟩
  | [t], i1, i2, i3, i4 =>
   refine ze _ ?_
   (all_goals refine qgp ?_ <;> (repeat' first | exact trivial | intro hc | refine And.intro ?_ ?_) <;> refine Lf.mk ?_)
   obtain ⟨h1, h2⟩ := hout [t] b1 i1 (by rw [xa])
   exact ⟨(), trivial, yn (by rw [h1]) ⟨rfl, rfl, by rw [h2]; rfl, trivial⟩⟩
  | t :: c :: r, i1, i2, i3, i4 =>
   have i4 : r.length + 1 + 1 ≤ 1048576 := i4
   refine ze _ ?_
   (all_goals refine qgp ?_ <;> (repeat' first | exact trivial | intro hc | refine And.intro ?_ ?_) <;> refine Lf.mk ?_)
   ·rw [xa, if_pos ⟨by assumption, by assumption, by assumption⟩] at i1
    refine zq5 q b1 t x.pos [zlX x] i2 hq (htx t (i3 t List.mem_cons_self)) rfl rfl ?_
    (all_goals refine qgp (Lf.mk ?_))
    exact yJ (r, xN q b1 t x.pos) ⟨i1, yc.label (i2.less (by simp only [List.length_cons]; omega)) t x.pos, fun y hy => i3 y (List.mem_cons_of_mem _ (List.mem_cons_of_mem _ hy)), show r.length ≤ 1048576 by omega⟩ (by simp only [List.length_cons]; omega) rfl ⟨rfl, rfl, rfl, trivial⟩
   all_goals
    obtain ⟨h1, h2⟩ := hout (t :: c :: r) b1 i1 (by rw [xa, if_neg]; rintro ⟨e1, e2, e3⟩; first | exact absurd e1 hc | exact absurd e2 hc | exact absurd e3 hc)
    exact ⟨(), trivial, yn (by rw [h1]) ⟨rfl, rfl, by rw [h2]; rfl, trivial⟩⟩
 ·rintro _ _
  obtain ⟨g1, g2, g3, g4, g5⟩ := zgg x.toks hr
  have hB : xT q b x = zdm q (xa q x.pos x.toks b).1 x.pos (xa q x.pos x.toks b).2 := rfl
  show AWP _ _ _ _ (vQ _ _ _ _ (vD q b (xT q b x))) _ _
  have hO : vD q b (xT q b x) = vD q (xa q x.pos x.toks b).1 (xT q b x) := by unfold vD; rw [g5]
  rw [hO, hB]
  generalize (xa q x.pos x.toks b).1 = b1 at *
  generalize (xa q x.pos x.toks b).2 = l at *
  clear hO hB
  cases l with
  | nil =>
   refine ze _ ?_
   (all_goals refine qgp ?_ <;> (repeat' first | exact trivial | intro hc | refine And.intro ?_ ?_) <;> refine Lf.mk ?_)
   rw [zdm, vu rfl]
   exact zU [_] rfl rfl rfl (Nat.le_of_eq rfl) .tup0
  | cons t r =>
   have g2 : r.length + 1 ≤ x.toks.length := g2
   rw [zdm]
   refine ze _ ?_
   (all_goals refine qgp ?_ <;> (repeat' first | exact trivial | intro hc | refine And.intro ?_ ?_) <;> refine Lf.mk ?_)
   ·rw [if_pos hc, vu rfl]
    exact zU [_] rfl rfl rfl (Nat.le_of_eq rfl) .tup0
   ·rw [if_neg (fun h => h (by assumption)), if_pos hc, vu (kG _ _ _)]
    refine yU q b1 2 x.pos [_] rfl rfl ?_
    (all_goals refine qgp (Lf.mk ?_))
    exact zU [_] rfl rfl rfl (Nat.le_of_eq rfl) .tup0
   ·have hfe : b1.fe = 0 := by assumption
    rw [if_neg (fun h => h hfe), if_neg (fun h => h hc)]
    have hAl := znH q x.pos ⟨r, b1.fe, b1.fa⟩ hfe
    have hAs := zsH q x.pos ⟨r, b1.fe, b1.fa⟩
    rw [List.map_cons, wt] at g3
    refine zur q b1 ⟨r, b1.fe, b1.fa⟩ x.pos (zlX x) ⟨by show wt (r.map tk) ≤ _; omega, by omega⟩ (fun y hy => htx y (g4 y (List.mem_cons_of_mem _ hy))) rfl rfl ?_
    generalize xp q x.pos ⟨r, b1.fe, b1.fa⟩ = A at *
    obtain ⟨ops, s2⟩ := A
    dsimp only at hAl hAs ⊢
    have hroom : yc (xJ b1 s2) (1 + ops.length) := (g1.less (by simp only [List.length_cons]; omega)).set s2
    have hops : ops.length ≤ 1000000 := by have := hroom.items; omega
    have hb2 : (xJ b1 s2).has = b1.has := rfl
    rw [show s2.fe = (xJ b1 s2).fe from rfl, show ∀ b', vD q b1 b' = vD q (xJ b1 s2) b' from fun b' => rfl]
    generalize xJ b1 s2 = b2 at *
    have hin := hroom.inB
    have hri := hroom.items
    have hrs := hroom.shut
    (all_goals refine qgp ?_ <;> (repeat' first | exact trivial | intro hc | refine And.intro ?_ ?_) <;> refine Lf.mk ?_)
    ·rw [if_pos hc, vu rfl]
     exact zU [_, _] rfl rfl rfl (Nat.le_of_eq rfl) .tup0
    all_goals rw [if_neg (fun h => h (by assumption))]
    all_goals unfold zgY
    all_goals (repeat (first | (rw [if_pos (by assumption)]) | (rw [if_neg (by assumption)])))
    ·rw [vu (zgi _ _ _ _)]
     refine zgh q b2 1 ops x.pos [_, _] (by omega) (by decide) rfl rfl ?_
     (all_goals refine qgp (Lf.mk ?_))
     exact zU [_, _] rfl rfl rfl (Nat.le_of_eq rfl) .tup0
    ·rw [vu (zgi _ _ _ _)]
     refine zgh q b2 2 ops x.pos [_, _] (by omega) (by decide) rfl rfl ?_
     (all_goals refine qgp (Lf.mk ?_))
     exact zU [_, _] rfl rfl rfl (Nat.le_of_eq rfl) .tup0
    ·rw [vu (zgi _ _ _ _)]
     refine zgh q b2 4 ops x.pos [_, _] (by omega) (by decide) rfl rfl ?_
     (all_goals refine qgp (Lf.mk ?_))
     exact zU [_, _] rfl rfl rfl (Nat.le_of_eq rfl) .tup0
    ·rw [vu (zq8 _ _ _)]
     refine zq7 q b2 ops x.pos [_, _] (by omega) (by omega) rfl rfl ?_
     (all_goals refine qgp (Lf.mk ?_))
     exact zU [_, _] rfl rfl rfl (Nat.le_of_eq rfl) .tup0
    ·rw [if_pos (show 0 < ops.length by omega), vu (kG _ _ _)]
     refine yU q b2 2 x.pos [_, _] rfl rfl ?_
     (all_goals refine qgp (Lf.mk ?_))
     exact zU [_, _] rfl rfl rfl (Nat.le_of_eq rfl) .tup0
    ·rw [if_neg (show ¬ 0 < ops.length by omega), zgZ (zsK _ _)]
     refine zk0 q b2 x.pos [_, _] (by omega) (by omega) rfl rfl ?_
     (all_goals refine qgp (Lf.mk ?_))
     exact zU [_, _] rfl rfl rfl (Nat.le_of_eq rfl) .tup0
    ·refine zq6 q b2 t.text ops x.pos [_, _] hin hops hAs rfl rfl (fun hn => ?_) (fun hn hn' => ?_)
     ·rw [zgZ hn]
      (all_goals refine qgp (Lf.mk ?_))
      exact zU [_, _] rfl rfl rfl (Nat.le_of_eq rfl) .tup0
     ·rw [zeX hn hn']
      (all_goals refine qgp (Lf.mk ?_))
      have key : ∀ k, k < 5 → zG [0, 1, 2, 3, 4, 5, 8] 0 k = some k := by decide
      generalize xq b2 t.text ops x.pos = b3 at *
      refine zdb [0, 1, 2, 3, 4, 5, 8] rfl rfl ?_ (ClD.tup0 (n := 5) _ key)
      have hr := zg0 (m := zG [0, 1, 2, 3, 4, 5, 8] 0) (k := 8) (k' := 6) q b3 key rfl
      exact .cons (o := .cells (bCk q b3)) rfl (hr 0 _ _ rfl rfl) (.cons (o := .arr 13 (b3.items.map xn)) rfl (hr 1 _ _ rfl rfl) (.cons (o := .arr 2 (b3.syms.map yK)) rfl (hr 2 _ _ rfl rfl) (.cons (o := .spare b3.marks.length) rfl (hr 3 _ _ rfl rfl)
       (.cons (o := .arr 1 (b3.shut.map y9 ++ [.sl 2 (b3.cur.map yI) (some 8)])) rfl (hr 4 _ _ rfl rfl) (.cons (o := .dead) rfl rfl (.cons (o := .spare b3.cur.length) rfl rfl .nil))))))
theorem jc {n k : Int} (h : 0 < k) : upA n k ≤ n + k - 1 ∧ n ≤ upA n k := by
 unfold upA
 have h1 := Int.ediv_mul_le (n + k - 1) (b := k) (by omega)
 have h2 := Int.lt_ediv_add_one_mul_self (n + k - 1) h
 rw [Int.add_mul, Int.one_mul] at h2
 omega
theorem zcF : za Tryz.prog ztU (zx (fun ((n, k) : Int × Int) => 0 ≤ n ∧ n ≤ 1000000000000000 ∧ 0 < k ∧ k ≤ 1000000) (fun (n, k) => [.int .i64 n, .int .i64 k]) fun (n, k) => .int .i64 (upA n k)) := by
 refine zf zj Tryz.func125 rfl (by decide) ?_
 rintro ⟨n, k⟩ ⟨h1, h2, h3, h4⟩
 have h1 : 0 ≤ n := h1
 have h2 : n ≤ 1000000000000000 := h2
 have h3 : 0 < k := h3
 have h4 : k ≤ 1000000 := h4
 have hu := jc (n := n) h3
 refine ⟨Nat.le_refl _, by simp [Tryz.f125], fun E hE => ?_⟩
 refine ze _ ?_
 (all_goals refine qgp (Lf.mk ?_))
 refine qu (show -9223372036854775808 ≤ upA n k by omega) (show upA n k ≤ 9223372036854775807 by omega) ?_
 (all_goals refine qgp (Lf.mk ?_))
 exact zd (VS.mk (LeD.refl _))
def wH (pools : List (List zw)) (x : zp) : Prop := (x.kind = 8 → 0 < x.size ∧ x.size ≤ 16) ∧ (x.kind = 7 → 0 < x.size ∧ x.size ≤ 4) ∧ (x.kind = 9 → 0 ≤ x.pool ∧ x.pool < pools.length) ∧ ∀ p ∈ pools, p.length ≤ 1000000
theorem zq9 : za Tryz.prog zbp (ya (fun ((b, k, x, a, _) : Bld × Nat × zp × Int × List zl) => b.has = false ∧ b.items[k]? = some x ∧ wH b.shut x ∧ 0 ≤ a ∧ a ≤ 100000000000000) (fun (b, k, _, a, _) => [.loc 0 0, .aloc 1 b.items.length k 0, .int .i64 a])
  (fun (b, _, _, _, q) => bO q b) (fun (b, _, x, a, _) => .int .i64 (xg b.shut x a)) fun (b, _, _, _, q) => bO q b) := by
 refine zf zj Tryz.func159 rfl (by decide) ?_
 rintro ⟨⟨items, syms, marks, shut, has, cur, fe, fa⟩, k, x, a, q⟩ ⟨hh, hx, ⟨hs1, hs2, hs3, hs4⟩, ha0, ha1⟩
 have hh : has = false := hh
 subst hh
 have hx : items[k]? = some x := hx
 have hs3 : x.kind = 9 → 0 ≤ x.pool ∧ x.pool < shut.length := hs3
 have hs4 : ∀ p ∈ shut, p.length ≤ 1000000 := hs4
 have ha0 : 0 ≤ a := ha0
 have ha1 : a ≤ 100000000000000 := ha1
 refine ⟨Nat.le_refl _, by simp [Tryz.f159], fun E hE => ?_⟩
 refine ze _ ?_
 (all_goals refine qgp (Lf.mk ?_))
 have hxn : items[((k : Nat) : Int).toNat]? = some x := by rw [Int.toNat_natCast]; exact hx
 have hz : xg shut x a = if x.kind = 2 ∧ x.long = true then 6 else if x.kind = 7 then x.size else if x.kind = 8 then upA a x.size - a else if x.kind = 9 then upA a 4 - a + 4 * zea shut x.pool else 2 := rfl
 have hu4 := jc (n := a) (k := 4) (by decide)
 show zX (items.map xn) _ _
 refine zk x (Int.natCast_nonneg k) hxn ?_
 (all_goals refine qgp ?_ <;> (repeat' first | exact trivial | intro hc | refine And.intro ?_ ?_) <;> refine Lf.mk ?_)
 ·refine zk x (Int.natCast_nonneg k) hxn ?_
  (all_goals refine qgp ?_ <;> (repeat' first | exact trivial | intro hc | refine And.intro ?_ ?_) <;> refine Lf.mk ?_)
  ·refine y6 ?_ rfl
   show D.int .i64 6 = D.int .i64 (xg shut x a)
   rw [hz, if_pos ⟨by assumption, by assumption⟩]
  ·refine y6 ?_ rfl
   show D.int .i64 2 = D.int .i64 (xg shut x a)
   rw [hz, if_neg (fun h => by simp_all), if_neg (by omega), if_neg (by omega), if_neg (by omega)]
 ·refine zk x (Int.natCast_nonneg k) hxn ?_
  (all_goals refine qgp (Lf.mk ?_))
  refine y6 ?_ rfl
  show D.int .i64 x.size = D.int .i64 (xg shut x a)
  rw [hz, if_neg (by omega), if_pos hc]
 ·have h8 := hs1 hc
  have hu := jc (n := a) h8.1
  refine zk x (Int.natCast_nonneg k) hxn ?_
  (all_goals refine qgp (Lf.mk ?_))
  refine zb zcF (a, x.size) ⟨ha0, by show a ≤ _; omega, h8.1, by show x.size ≤ _; omega⟩ (VS.mk (LeL.of_eq rfl)) ?_
  (all_goals refine qgp (Lf.mk ?_))
  refine y6 ?_ rfl
  show D.int .i64 (upA a x.size - a) = D.int .i64 (xg shut x a)
  rw [hz, if_neg (by omega), if_neg (by omega), if_pos hc]
 ·have h9 := hs3 hc
  refine zb zcF (a, 4) ⟨ha0, by show a ≤ _; omega, by decide, by decide⟩ (VS.mk (LeL.of_eq rfl)) ?_
  (all_goals refine qgp (Lf.mk ?_))
  refine zk x (Int.natCast_nonneg k) hxn ?_
  (all_goals refine qgp (Lf.mk ?_))
  have hpl : (zM ⟨items, syms, marks, shut, false, cur, fe, fa⟩).length = shut.length := by unfold zM; simp
  refine xd ⟨h9.1, by rw [hpl]; exact h9.2⟩ ?_
  (all_goals refine qgp (Lf.mk ?_))
  have hp : ((shut[x.pool.toNat]?).getD []).length ≤ 1000000 := by
   cases hg : shut[x.pool.toNat]? with
   | none => simp
   | some p => exact hs4 p (List.mem_of_getElem? hg)
  (all_goals refine qgp (Lf.mk ?_))
  have hgp : (zM ⟨items, syms, marks, shut, false, cur, fe, fa⟩)[((0 + x.pool.toNat : Nat) : Int).toNat]? = some (y9 ((shut[x.pool.toNat]?).getD [])) := by
   have hlt : x.pool.toNat < shut.length := by omega
   rw [Int.toNat_natCast, Nat.zero_add]
   unfold zM
   simp [List.getElem?_eq_getElem hlt]
  refine wP (Int.natCast_nonneg _) hgp ?_
  (all_goals refine qgp (Lf.mk ?_))
  refine y6 ?_ rfl
  show _ = D.int .i64 (xg shut x a)
  rw [hz, if_neg (by omega), if_neg (by omega), if_neg (by omega), if_pos hc]
  rfl
 ·refine y6 ?_ rfl
  show D.int .i64 2 = D.int .i64 (xg shut x a)
  rw [hz, if_neg (by omega), if_neg (by omega), if_neg (by omega), if_neg (by omega)]
attribute [local irreducible] xg
theorem zeY (pools : List (List zw)) : ∀ (l : List zp) (a : Int), (yC pools l a).1.length = l.length
 | [], a => rfl
 | x :: l, a => by rw [yC]; simp [zeY pools l]
theorem zkj {pools : List (List zw)} {x : zp} {a : Int} (h : wH pools x) (h0 : 0 ≤ a) : 0 ≤ xg pools x a ∧ xg pools x a ≤ 5000000 := by
 obtain ⟨h8, h7, h9, hp⟩ := h
 have hu4 := jc (n := a) (k := 4) (by decide)
 have hl : zea pools x.pool ≤ 1000000 ∧ 0 ≤ zea pools x.pool := by
  unfold zea
  cases hg : pools[x.pool.toNat]? with
  | none => simp
  | some p => have := hp p (List.mem_of_getElem? hg); simp; omega
 unfold xg
 split
 ·omega
 split
 ·rename_i h; have := h7 h; omega
 split
 ·rename_i h
  have := h8 h
  have hu := jc (n := a) this.1
  omega
 split
 ·omega
 ·omega
theorem zpR {α : Type} {f : α → D} {a b : List α} {x : α} (y : α) {k : Nat} (hk : a.length = k) {d : D} (hd : d = f y) : ((a ++ x :: b).map f).set (0 + ((k : Nat) : Int).toNat) d = ((a ++ [y]) ++ b).map f := by
 subst hd; subst hk
 rw [Nat.zero_add, Int.toNat_natCast, List.map_append, List.set_append_right _ _ (by simp)]
 simp
theorem zeb {α : Type} {a b : List α} {x : α} {k : Nat} (hk : a.length = k) : (a ++ x :: b)[k]? = some x := by
 subst hk
 rw [List.getElem?_append_right (Nat.le_refl _)]
 simp
theorem zg1 {q : List zl} {b b' : Bld} (h1 : b.items.length = b'.items.length) (h2 : b.syms.length = b'.syms.length) (h3 : b.marks = b'.marks) (h4 : zM b = zM b') (h5 : b.shut = b'.shut) (h6 : b.fe = b'.fe) (h7 : b.fa = b'.fa) : bC q b = bC q b' := by
 unfold bC
 rw [h1, h2, h3, h4, h5, h6, h7]
theorem zsL {av : List D} {L : List Ob} {KP : D → Prop} {KW : D → List Ob → Prop} (q : List zl) (b : Bld) (k : Nat) (x : zp) (a : Int) (hh : b.has = false) (hx : b.items[k]? = some x) (hs : wH b.shut x) (h0 : 0 ≤ a) (h1 : a ≤ 100000000000000) (hL : L = bO q b)
  (has : av = [.loc 0 0, .aloc 1 b.items.length k 0, .int .i64 a]) (hK : KW (.int .i64 (xg b.shut x a)) (bO q b)) : zn Tryz.prog zbp av L KP KW := by
 subst has
 exact zeC zq9 (b, k, x, a, q) ⟨hh, hx, hs, h0, h1⟩ hL (LeL.refl _) hK
theorem zh6 {α : Type} {f : α → D} {a b : List α} {x : α} (y : α) {k : Nat} (hk : a.length = k) {d : D} (hd : d = f y) : ((a ++ x :: b).map f).set (0 + ((k : Nat) : Int).toNat) d = (a ++ y :: b).map f := by
 rw [zpR y hk hd, List.append_assoc]; rfl
theorem zhp (items : List zp) (e : Int) : ∀ (ss : List zC) (ms : List Int) (s : zC) (m : Int), ss.length = ms.length → wV items e (ss ++ [s]) (ms ++ [m]) = wV items e ss ms ++ [⟨s.name, zcB items e m⟩]
 | [], [], s, m, _ => rfl
 | a :: ss, b :: ms, s, m, h => by
  show _ :: wV items e (ss ++ [s]) (ms ++ [m]) = _ :: (wV items e ss ms ++ _)
  rw [zhp items e ss ms s m (by simpa using h)]
 | [], _ :: _, _, _, h => by simp at h
 | _ :: _, [], _, _, h => by simp at h
theorem zb2 (items : List zp) (e : Int) : ∀ (ss : List zC) (ms : List Int), (wV items e ss ms).length = ss.length
 | [], _ => by rw [wV]; intro _ _ _ _ h; cases h
 | s :: ss, [] => rfl
 | s :: ss, m :: ms => by rw [wV, List.length_cons, zb2 items e ss ms, List.length_cons]
theorem zpa : za Tryz.prog zal (ya (fun ((b, _) : Bld × List zl) => b.has = false ∧ (∀ x ∈ b.items, wH b.shut x) ∧ b.items.length ≤ 1000000 ∧ b.marks.length = b.syms.length ∧ b.marks.length ≤ 1000000 ∧ ∀ m ∈ b.marks, 0 ≤ m) (fun _ => [.loc 0 0])
  (fun (b, q) => bO q b) (fun (b, _) => .int .i64 (yC b.shut b.items 0).2) fun (b, q) => bO q { b with items := (yC b.shut b.items 0).1, syms := wV (yC b.shut b.items 0).1 (yC b.shut b.items 0).2 b.syms b.marks }) := by
 refine zf zj Tryz.func120 rfl (by decide) ?_
 rintro ⟨⟨items, syms, marks, shut, has, cur, fe, fa⟩, q⟩ ⟨hh, hsz, hil, hms, hml, hm0⟩
 have hh : has = false := hh
 subst hh
 have hsz : ∀ x ∈ items, wH shut x := hsz
 have hil : items.length ≤ 1000000 := hil
 have hms : marks.length = syms.length := hms
 have hml : marks.length ≤ 1000000 := hml
 have hm0 : ∀ m ∈ marks, 0 ≤ m := hm0
 refine ⟨Nat.le_refl _, by simp [Tryz.f120], fun E hE => ?_⟩
 have hE6 : E.L.length = 6 := by rw [hE]; rfl
 show AWP _ _ _ _ (vQ _ _ _ (.int .i64 (yC shut items 0).2) (bO q ⟨(yC shut items 0).1, wV (yC shut items 0).1 (yC shut items 0).2 syms marks, marks, shut, false, cur, fe, fa⟩)) _ (bO q ⟨items, syms, marks, shut, false, cur, fe, fa⟩)
 have hPl := zeY shut items 0
 generalize hP : yC shut items 0 = P at *
 obtain ⟨PI, PE⟩ := P
 dsimp only at hPl ⊢
 refine ze _ ?_
 (all_goals refine qgp (Lf.mk ?_))
 refine yN (α := Nat × Int) (fun p => p.1 ≤ items.length ∧ yC shut (items.drop p.1) p.2 = (PI.drop p.1, PE) ∧ 0 ≤ p.2 ∧ p.2 ≤ 5000000 * (p.1 : Int)) (fun p => [(0, .loc 0 0), (3, .int .i64 p.2), (11, .int .i64 items.length), (12, .int .i64 p.1)])
  (fun p => bO q ⟨PI.take p.1 ++ items.drop p.1, syms, marks, shut, false, cur, fe, fa⟩) (fun p => items.length - p.1) (fun _ => by rw [hE6]; exact Nat.le_refl 6) (0, 0) ⟨Nat.zero_le _, hP, Int.le_refl 0, by simp⟩ ?_ ?_
 ·exact yn rfl ⟨rfl, rfl, rfl, rfl, trivial⟩
 rintro ⟨k, a⟩ ⟨i1, i2, i3, i4⟩
 dsimp only at i1 i2 i3 i4 ⊢
 have hlen : (PI.take k ++ items.drop k).length = items.length := by rw [List.length_append, List.length_take, List.length_drop]; omega
 refine ze _ ?_
 (all_goals refine qgp ?_ <;> (repeat' first | exact trivial | intro hc | refine And.intro ?_ ?_) <;> refine Lf.mk ?_)
 ·have hkl : k < items.length := by omega
  obtain ⟨x, hx⟩ := yf (l := items) (k := k) (by omega)
  have hgx : items[k] = x := by rw [List.getElem?_eq_getElem hkl] at hx; exact Option.some.inj hx
  have hxs := hsz x (List.mem_of_getElem? hx)
  have hsl := zkj (a := a) hxs i3
  rw [List.drop_eq_getElem_cons hkl, hgx, yC] at i2
  obtain ⟨e1, e2⟩ := Prod.mk.inj i2
  have hkP : k < PI.length := by omega
  rw [List.drop_eq_getElem_cons hkP] at e1
  obtain ⟨e3, e4⟩ := List.cons.inj e1
  have hnext : yC shut (items.drop (k + 1)) (a + xg shut x a) = (PI.drop (k + 1), PE) := by rw [← e4, ← e2]
  have htake : PI.take (k + 1) = PI.take k ++ [{ x with at_ := a }] := by rw [List.take_succ_eq_append_getElem hkP, ← e3]
  have hlk : (PI.take k).length = k := by rw [List.length_take]; omega
  have hdrop : items.drop k = x :: items.drop (k + 1) := by rw [List.drop_eq_getElem_cons hkl, hgx]
  have hmid := zeb (a := PI.take k) (b := items.drop (k + 1)) (x := x) hlk
  have hlen2 : (PI.take (k + 1) ++ items.drop (k + 1)).length = items.length := by rw [List.length_append, List.length_take, List.length_drop]; omega
  rw [hdrop] at hlen ⊢
  refine zk x (Int.natCast_nonneg _) (by rw [Int.toNat_natCast, Nat.zero_add, Int.toNat_natCast]; exact hmid) ?_
  (all_goals refine qgk (Lf.mk ?_))
  refine wZ ((PI.take (k + 1) ++ items.drop (k + 1)).map xn) (by rw [htake]; exact zpR { x with at_ := a } hlk rfl) ?_
  (all_goals refine qgk (Lf.mk ?_))
  have hb : (PI.take k ++ x :: items.drop (k + 1)).length = (PI.take (k + 1) ++ items.drop (k + 1)).length := by rw [hlen, hlen2]
  have hx2 : (PI.take (k + 1) ++ items.drop (k + 1))[k]? = some { x with at_ := a } := by rw [htake, List.append_assoc]; exact zeb hlk
  have hs2 : xg shut { x with at_ := a } a = xg shut x a := by unfold xg; rfl
  refine zsL q ⟨PI.take (k + 1) ++ items.drop (k + 1), syms, marks, shut, false, cur, fe, fa⟩ k { x with at_ := a } a rfl hx2 hxs i3 (by omega) ?_ ?_ ?_
  ·exact congrArg (fun c => Ob.cells c :: bT ⟨PI.take (k + 1) ++ items.drop (k + 1), syms, marks, shut, false, cur, fe, fa⟩) (zg1 hb rfl rfl rfl rfl rfl rfl)
  ·show [D.loc 0 0, .aloc 1 (PI.take k ++ x :: items.drop (k + 1)).length (0 + ((k : Nat) : Int).toNat) 0, .int .i64 a] = _
   rw [hb, Nat.zero_add, Int.toNat_natCast]
  rw [show xg (Bld.shut ⟨PI.take (k + 1) ++ items.drop (k + 1), syms, marks, shut, false, cur, fe, fa⟩) { x with at_ := a } a = xg shut x a from hs2]
  (all_goals refine qgp (Lf.mk ?_))
  exact yJ (k + 1, a + xg shut x a) ⟨by show k + 1 ≤ _; omega, hnext, by dsimp only; omega, by dsimp only; omega⟩ (by dsimp only; omega) rfl ⟨rfl, rfl, rfl, rfl, trivial⟩
 ·have hk : k = items.length := by omega
  rw [hk, List.drop_length, yC] at i2
  obtain ⟨e1, e2⟩ := Prod.mk.inj i2
  have hI : PI.take k ++ items.drop k = PI := by rw [hk, List.drop_length, List.append_nil, ← hPl, List.take_length]
  rw [hI] at hlen ⊢
  subst e2
  clear e1 i2
  refine yN (α := Nat) (fun j => j ≤ marks.length) (fun j => [(0, .loc 0 0), (3, .int .i64 a), (38, .sl 1 (marks.map (.int .i64)) none), (39, .int .i64 marks.length), (40, .int .i64 j)])
   (fun j => bO q ⟨PI, wV PI a (syms.take j) (marks.take j) ++ syms.drop j, marks, shut, false, cur, fe, fa⟩) (fun j => marks.length - j) (fun _ => by rw [hE6]; exact Nat.le_refl 6) 0 (Nat.zero_le _) ?_ ?_
  ·refine zhX rfl ⟨.refl _, .refl _, .strip _ _ _, .refl _, .refl _, trivial⟩
  intro j hj
  have hj : j ≤ marks.length := hj
  refine ze _ ?_
  have hSl : (wV PI a (syms.take j) (marks.take j)).length = j := by rw [zb2, List.length_take]; omega
  (all_goals refine qgp ?_ <;> (repeat' first | exact trivial | intro hc | refine And.intro ?_ ?_) <;> refine Lf.mk ?_)
  ·have hjm : j < marks.length := by omega
   have hjs : j < syms.length := by omega
   obtain ⟨m, hm⟩ := yf (l := marks) (k := j) (by omega)
   obtain ⟨s, hs⟩ := yf (l := syms) (k := j) (by omega)
   have hgm : marks[j] = m := by rw [List.getElem?_eq_getElem hjm] at hm; exact Option.some.inj hm
   have hgs : syms[j] = s := by rw [List.getElem?_eq_getElem hjs] at hs; exact Option.some.inj hs
   have hm0 := hm0 m (List.mem_of_getElem? hm)
   have hdrop : syms.drop j = s :: syms.drop (j + 1) := by rw [List.drop_eq_getElem_cons hjs, hgs]
   have hsn : wV PI a (syms.take (j + 1)) (marks.take (j + 1)) = wV PI a (syms.take j) (marks.take j) ++ [⟨s.name, zcB PI a m⟩] := by
    rw [List.take_succ_eq_append_getElem hjs, List.take_succ_eq_append_getElem hjm, hgs, hgm]
    exact zhp _ _ _ _ _ _ (by rw [List.length_take, List.length_take]; omega)
   generalize wV PI a (syms.take j) (marks.take j) = SJ at *
   rw [hdrop]
   refine zk m (by omega) (by simpa using hm) ?_
   have hlen3 : (SJ ++ s :: syms.drop (j + 1)).length = syms.length := by rw [List.length_append, List.length_cons, List.length_drop]; omega
   have hmid := zeb (a := SJ) (b := syms.drop (j + 1)) (x := s) hSl
   (all_goals refine qgk (Lf.mk ?_))
   refine zk s (Int.natCast_nonneg _) (by rw [Int.toNat_natCast, Nat.zero_add, Int.toNat_natCast]; exact hmid) ?_
   (all_goals refine qgk (Lf.mk ?_))
   refine wZ ((SJ ++ (⟨s.name, a⟩ : zC) :: syms.drop (j + 1)).map yK) (zh6 ⟨s.name, a⟩ hSl rfl) ?_
   (all_goals refine qgk ?_ <;> (repeat' first | exact trivial | intro hc | refine And.intro ?_ ?_) <;> refine Lf.mk ?_)
   ·have hmn : m.toNat < PI.length := by omega
    have hmk : zcB PI a m = (itA PI m).at_ := by unfold zcB; rw [if_pos hc]
    have hit : PI[m.toNat]? = some (itA PI m) := by unfold itA; rw [List.getElem?_eq_getElem hmn]; rfl
    have hmid2 := zeb (a := SJ) (b := syms.drop (j + 1)) (x := (⟨s.name, a⟩ : zC)) hSl
    refine zk (itA PI m) (Int.natCast_nonneg _) (by rw [Int.toNat_natCast, Nat.zero_add]; exact hit) ?_
    (all_goals refine qgk (Lf.mk ?_))
    refine zk (⟨s.name, a⟩ : zC) (Int.natCast_nonneg _) (by rw [Int.toNat_natCast, Nat.zero_add, Int.toNat_natCast]; exact hmid2) ?_
    (all_goals refine qgk (Lf.mk ?_))
    refine wZ ((SJ ++ (⟨s.name, (itA PI m).at_⟩ : zC) :: syms.drop (j + 1)).map yK) (zh6 ⟨s.name, (itA PI m).at_⟩ hSl rfl) ?_
    (all_goals refine qgk (Lf.mk ?_))
    refine yJ (j + 1) (by show j + 1 ≤ _; omega) (by omega) ?_ ⟨rfl, rfl, rfl, rfl, rfl, trivial⟩
    dsimp only
    rw [hsn, hmk, List.append_assoc]
    exact congrArg (fun c => Ob.cells c :: bT ⟨PI, SJ ++ (⟨s.name, (itA PI m).at_⟩ : zC) :: syms.drop (j + 1), marks, shut, false, cur, fe, fa⟩) (zg1 rfl (by simp) rfl rfl rfl rfl rfl)
   ·have hmk : zcB PI a m = a := by unfold zcB; rw [if_neg hc]
    refine yJ (j + 1) (by show j + 1 ≤ _; omega) (by omega) ?_ ⟨rfl, rfl, rfl, rfl, rfl, trivial⟩
    dsimp only
    rw [hsn, hmk, List.append_assoc]
    exact congrArg (fun c => Ob.cells c :: bT ⟨PI, SJ ++ (⟨s.name, a⟩ : zC) :: syms.drop (j + 1), marks, shut, false, cur, fe, fa⟩) (zg1 rfl (by simp) rfl rfl rfl rfl rfl)
  ·have hj2 : j = marks.length := by omega
   rw [hj2, List.take_length, hms, List.take_length, List.drop_length, List.append_nil]
   exact y6 rfl rfl
attribute [local irreducible] xm
theorem znJ {n : Int} {K : D → Prop} (h : K (.int .i64 (w64 n))) : zA .i64 n K := by unfold zA; exact h
theorem zxS {x y : Int} {K : D → Prop} (hy : y ≠ 0) (h : K (.int .i64 (x.tmod y))) : yr .i64 x y K := by unfold yr; exact ⟨hy, h⟩
theorem zxT {x y : Int} {K : D → Prop} (hy : y ≠ 0) (h : K (.int .i64 (w64 (x.tdiv y)))) : yq .i64 x y K := by unfold yq; exact ⟨hy, h⟩
theorem zff : za Tryz.prog qk (ya (fun _ : zC × zw => True) (fun (s, _) => [yK s, .loc 0 0]) (fun (_, v) => [.cells [.str v.name, .int .i64 v.n]]) (fun (s, v) => .bool (s.name == v.name))
  fun (_, v) => [.cells [.str v.name, .int .i64 v.n]]) := by
 refine zf zj Tryz.func160 rfl (by decide) ?_
 rintro ⟨s, v⟩ _
 refine ⟨Nat.le_refl _, by simp [Tryz.f160], fun E hE => ?_⟩
 refine ze _ ?_
 (all_goals refine qgo (Lf.mk ?_))
 exact vU [.cells [.str v.name, .int .i64 v.n]] [_] rfl (Nat.le_refl 1) .bool (by intro o ho; rw [List.mem_singleton] at ho; subst ho; exact .cells (.cons .str (.cons .int .nil)))
theorem znK : za Tryz.prog vh (ya (fun ((b, _, _) : Bld × zw × List zl) => b.syms.length ≤ 1000000) (fun (_, v, _) => [.loc 0 0, yI v])
  (fun (b, _, q) => bO q b) (fun (b, v, _) => .tup [.int .i64 (zV b.syms v).1, .int .i64 (zV b.syms v).2]) fun (b, _, q) => bO q b) := by
 refine zf zj Tryz.func121 rfl (by decide) ?_
 rintro ⟨b, v, q⟩ hl
 have hl : b.syms.length ≤ 1000000 := hl
 refine ⟨Nat.le_refl _, by simp [Tryz.f121], fun E hE => ?_⟩
 show AWP _ _ _ _ (vQ _ _ _ (.tup [.int .i64 (zV b.syms v).1, .int .i64 (zV b.syms v).2]) (bO q b)) _ (bO q b)
 have hT : zV b.syms v = if v.name = [] then (0, 8) else if zkf v.name b.syms 0 < 0 then (0, 6) else (w64 ((zcC b.syms (zkf v.name b.syms 0)).at_ + v.n), 0) := rfl
 generalize zV b.syms v = T at *
 refine ze _ ?_
 (all_goals refine qgp ?_ <;> (repeat' first | exact trivial | intro hc | refine And.intro ?_ ?_) <;> refine Lf.mk ?_)
 ·rw [if_pos hc] at hT
  subst hT
  exact zU [_] rfl rfl rfl (Nat.le_of_eq rfl) (.tup (.cons .int (.cons .int .nil)))
 rw [if_neg hc] at hT
 refine zh5 qk [.loc 6 0] (fun s => s.name == v.name) b.syms (.cells (bC q b)) (.arr 13 (b.items.map xn)) [.spare b.marks.length, .arr 1 (zM b), zdJ b, .cells [.str v.name, .int .i64 v.n]] (by omega) rfl rfl
  (fun s hs KP KW hK => ?_) ?_
 ·exact yb zff [6] [6] (s, v) trivial rfl rfl ⟨VS.mk (LeL.refl _), VS.mk rfl, hK⟩
 have hp := zb1 (fun s : zC => s.name == v.name) b.syms 0
 have hT : T = if xC (fun s : zC => s.name == v.name) b.syms 0 < 0 then (0, 6) else (w64 ((zcC b.syms (xC (fun s : zC => s.name == v.name) b.syms 0)).at_ + v.n), 0) := hT
 generalize xC (fun s : zC => s.name == v.name) b.syms 0 = p at *
 (all_goals refine qgp ?_ <;> (repeat' first | exact trivial | intro hc | refine And.intro ?_ ?_) <;> refine Lf.mk ?_)
 ·rw [if_pos hc] at hT
  subst hT
  exact zU [_] rfl rfl rfl (Nat.le_of_eq rfl) (.tup (.cons .int (.cons .int .nil)))
 have hpl : p.toNat < b.syms.length := by
  rcases hp with h | ⟨j, h1, h2⟩
  ·omega
  ·rw [h2, Int.toNat_natCast, Nat.zero_add]; exact h1
 have hs : b.syms[p.toNat]? = some (zcC b.syms p) := by unfold zcC; rw [List.getElem?_eq_getElem hpl]; rfl
 rw [if_neg hc] at hT
 refine zk (zcC b.syms p) (Int.natCast_nonneg _) (by rw [Int.toNat_natCast, Nat.zero_add]; exact hs) ?_
 (all_goals refine qgp (Lf.mk ?_))
 refine znJ ?_
 (all_goals refine qgp (Lf.mk ?_))
 subst hT
 exact zU [_] rfl rfl rfl (Nat.le_of_eq rfl) (.tup (.cons .int (.cons .int .nil)))
theorem zsM : ∀ i : Fin 64, (~~~ (3#64)).getLsbD i = decide (2 ≤ i.1) := by decide
theorem zv8 (x : BitVec 64) : x &&& ~~~ (3#64) = (x >>> 2) <<< 2 := by
 apply BitVec.eq_of_getLsbD_eq
 intro i hi
 rw [BitVec.getLsbD_and, zsM ⟨i, hi⟩, BitVec.getLsbD_shiftLeft, BitVec.getLsbD_ushiftRight]
 by_cases h : 2 ≤ i
 ·simp [h, hi, show ¬ i < 2 by omega, show 2 + (i - 2) = i by omega]
 ·simp [h, show i < 2 by omega]
theorem zxm {n : Int} (h0 : 0 ≤ n) (h1 : n ≤ 9223372036854775807) : zz .andNot .i64 n 3 = n - n % 4 := by
 obtain ⟨a, rfl⟩ := Int.eq_ofNat_of_zero_le h0
 have ha : a ≤ 9223372036854775807 := by omega
 unfold zz
 have e : (BitVec.ofInt IntKind.i64.bits (a : Int) &&& ~~~ BitVec.ofInt IntKind.i64.bits 3).toNat = a / 4 * 4 := by
  have e2 : BitVec.ofInt IntKind.i64.bits (a : Int) = BitVec.ofNat 64 a := rfl
  rw [e2]
  show (BitVec.ofNat 64 a &&& ~~~ (3#64)).toNat = _
  rw [zv8, BitVec.toNat_shiftLeft, BitVec.toNat_ushiftRight, BitVec.toNat_ofNat, Nat.mod_eq_of_lt (by omega : a < 2 ^ 64), Nat.shiftRight_eq_div_pow, Nat.shiftLeft_eq]
  omega
 show IntKind.i64.wrap ((_ : Nat) : Int) = _
 rw [e, jp (by omega) (by omega)]
 omega
theorem zus (op : Int) : ∃ s : List UInt8, kO op = .tup [.str s, .int .i64 (zcD op)] := by
 unfold kO zcD
 cases xm op with
 | none => exact ⟨[], rfl⟩
 | some r => exact ⟨r.name, rfl⟩
theorem zjk : za Tryz.prog zqK (zx (fun ((_, a, _) : Int × Int × Int) => 0 ≤ a ∧ a ≤ 1000000000000000) (fun (op, a, to) => [.int .i64 op, .int .i64 a, .int .i64 to])
  fun (op, a, to) => .tup [.int .i64 (wr op a to).1, .int .i64 (wr op a to).2]) := by
 refine zf zj Tryz.func122 rfl (by decide) ?_
 rintro ⟨op, a, to⟩ ⟨h0, h1⟩
 have h0 : 0 ≤ a := h0
 have h1 : a ≤ 1000000000000000 := h1
 refine ⟨Nat.le_refl _, by simp [Tryz.f122], fun E hE => ?_⟩
 show AWP _ _ _ _ (vQ _ _ _ (.tup [.int .i64 (wr op a to).1, .int .i64 (wr op a to).2]) []) _ []
 have hA : wr op a to = if (w64 (to - zdk op a)).tmod (ofA op) ≠ 0 then (0, 11)
  else if zeW op a to < vR (zcD op) ∨ wD (zcD op) < zeW op a to then (zeW op a to, 3) else (zeW op a to, 0) := rfl
 have hF : zeW op a to = w64 ((w64 (to - zdk op a)).tdiv (ofA op)) := rfl
 obtain ⟨s, hI⟩ := zus op
 have hof : ofA op ≠ 0 := by unfold ofA; split <;> decide
 generalize wr op a to = A at *
 generalize zcD op = sh at *
 refine wj (ze _ ?_)
 (all_goals refine qgp (Lf.mk ?_))
 refine wj (ze _ ?_)
 (all_goals refine qgp (Lf.mk ?_))
 refine zd4 (α := Unit) (fun _ => True) (fun _ => [(0, .int .i64 op), (1, .int .i64 a), (2, .int .i64 to), (8, .int .i64 (zdk op a)), (9, .int .i64 (ofA op))]) (fun _ => []) ?_ ?_
 ·refine ze _ ?_
  (all_goals refine qgp ?_ <;> (repeat' first | exact trivial | intro hc | refine And.intro ?_ ?_) <;> refine Lf.mk ?_)
  ·refine wh (zxm (by omega) (by omega)) ?_
   (all_goals refine qgp (Lf.mk ?_))
   refine ⟨(), trivial, yn rfl ⟨rfl, rfl, rfl, ?_, ?_, trivial⟩⟩
   ·show D.int .i64 (a + 4 - (a + 4) % 4) = _
    unfold zdk; rw [if_pos hc]
   ·show D.int .i64 4 = _
    unfold ofA; rw [if_pos hc]
  ·refine ⟨(), trivial, yn rfl ⟨rfl, rfl, rfl, ?_, ?_, trivial⟩⟩
   ·show D.int .i64 (a + 4) = _
    unfold zdk; rw [if_neg hc]
   ·show D.int .i64 2 = _
    unfold ofA; rw [if_neg hc]
 ·rintro _ _
  refine ze _ ?_
  generalize zdk op a = fr at *
  generalize ofA op = o at *
  (all_goals refine qgp (Lf.mk ?_))
  refine znJ ?_
  (all_goals refine qgp (Lf.mk ?_))
  refine zxS hof ?_
  (all_goals refine qgp ?_ <;> (repeat' first | exact trivial | intro hc | refine And.intro ?_ ?_) <;> refine Lf.mk ?_)
  ·rw [if_pos hc] at hA
   subst hA
   exact zd (VS.mk (LeD.refl _))
  ·rw [if_neg (fun h => h hc)] at hA
   refine znJ ?_
   (all_goals refine qgp (Lf.mk ?_))
   refine zxT hof ?_
   (all_goals refine qgp (Lf.mk ?_))
   refine zb zbZ op trivial (VS.mk (LeL.of_eq rfl)) ?_
   rw [hI]
   rw [← hF]
   (all_goals refine qgp (Lf.mk ?_))
   refine zb zhm sh trivial (VS.mk (LeL.of_eq rfl)) ?_
   (all_goals refine qgp ?_ <;> (repeat' first | exact trivial | intro hc | refine And.intro ?_ ?_) <;> refine Lf.mk ?_)
   ·rw [if_pos (.inl hc)] at hA
    subst hA
    exact zd (VS.mk (LeD.refl _))
   ·rw [if_pos (.inr hc)] at hA
    subst hA
    exact zd (VS.mk (LeD.refl _))
   ·rw [if_neg (by omega)] at hA
    subst hA
    exact zd (VS.mk (LeD.refl _))
attribute [local irreducible] wr zV
structure zac (shut : List (List zw)) (marks : List Int) (s : Lay) : Prop where
 size : ∀ x ∈ s.items, wH shut x
 items : s.items.length ≤ 1000000
 len : marks.length = s.syms.length
 marksl : marks.length ≤ 1000000
 pos : ∀ m ∈ marks, 0 ≤ m
theorem zgj {pools : List (List zw)} : ∀ (l : List zp) (a : Int), 0 ≤ a → (∀ x ∈ l, wH pools x) → ∀ x ∈ (yC pools l a).1, wH pools x ∧ 0 ≤ x.at_ ∧ x.at_ ≤ a + 5000000 * (l.length : Int)
 | [], a, h0, _, x, hx => by cases hx
 | y :: l, a, h0, hs, x, hx => by
  have hy := hs y List.mem_cons_self
  have hz := zkj (a := a) hy h0
  rw [yC] at hx
  rcases List.mem_cons.1 hx with rfl | hx
  ·exact ⟨hy, h0, by dsimp only; simp only [List.length_cons]; omega⟩
  ·obtain ⟨h1, h2, h3⟩ := zgj l (a + xg pools y a) (by omega) (fun z hz => hs z (List.mem_cons_of_mem _ hz)) x hx
   exact ⟨h1, h2, by simp only [List.length_cons]; omega⟩
theorem zcG (pools : List (List zw)) : ∀ (l : List zp) (a : Int), wu (yC pools l a).1 = wu l
 | [], a => rfl
 | x :: l, a => by
  have ih := zcG pools l (a + xg pools x a)
  unfold wu at ih ⊢
  rw [yC, List.filter_cons, List.filter_cons]
  split
  ·rw [List.length_cons, List.length_cons, ih]
  ·exact ih
theorem zsN {pools : List (List zw)} {syms : List zC} {x : zp} (h : wH pools x) : wH pools (y0 syms x) := by
 unfold y0
 split
 ·exact h
 ·exact h
theorem zeZ (syms : List zC) : ∀ l : List zp, wu (l.map (y0 syms)) ≤ wu l ∧ (l.any (xK syms) = true → wu (l.map (y0 syms)) < wu l)
 | [] => ⟨Nat.le_refl _, fun h => by cases h⟩
 | x :: l => by
  obtain ⟨h1, h2⟩ := zeZ syms l
  unfold wu at h1 h2 ⊢
  rw [List.map_cons, List.filter_cons, List.filter_cons, List.any_cons]
  cases hm : xK syms x with
  | true =>
   have hs : x.kind = 2 ∧ x.long = false := by unfold xK at hm; simp at hm; exact ⟨hm.1, hm.2.1⟩
   have hg : y0 syms x = { x with long := true } := by unfold y0; rw [if_pos hm]
   rw [hg]
   rw [if_neg (show ¬ decide (x.kind = 2 ∧ true = false) = true by simp), if_pos (show decide (x.kind = 2 ∧ x.long = false) = true by simpa using hs), List.length_cons]
   exact ⟨by omega, fun _ => by omega⟩
  | false =>
   have hg : y0 syms x = x := by unfold y0; rw [if_neg (by rw [hm]; decide)]
   rw [hg, Bool.false_or]
   split
   ·rw [List.length_cons, List.length_cons]
    exact ⟨by omega, fun h => by have := h2 h; omega⟩
   ·exact ⟨h1, h2⟩
theorem zac.place {shut : List (List zw)} {marks : List Int} {s : Lay} (h : zac shut marks s) : zac shut marks (yO shut marks s).1 :=
 ⟨fun x hx => (zgj s.items 0 (Int.le_refl 0) h.size x hx).1, by show (yC shut s.items 0).1.length ≤ _; rw [zeY]; exact h.items, by show _ = (wV _ _ _ _).length; rw [zb2]; exact h.len, h.marksl, h.pos⟩
theorem zac.grow {shut : List (List zw)} {marks : List Int} {s : Lay} {syms : List zC} (h : zac shut marks s) : zac shut marks ⟨s.items.map (y0 syms), s.syms⟩ :=
 ⟨fun x hx => by obtain ⟨y, hy, rfl⟩ := List.mem_map.1 hx; exact zsN (h.size y hy), by rw [List.length_map]; exact h.items, h.len, h.marksl, h.pos⟩
theorem zpb {av : List D} {L : List Ob} {KP : D → Prop} {KW : D → List Ob → Prop} (q : List zl) (b : Bld) (v : zw) (X : List Ob) (hl : b.syms.length ≤ 1000000) (hL : L = bO q b ++ X) (has : av = [.loc 0 0, yI v])
  (hK : KW (.tup [.int .i64 (zV b.syms v).1, .int .i64 (zV b.syms v).2]) (bO q b ++ X)) : zn Tryz.prog vh av L KP KW := by
 subst has
 exact y7 znK X (b, v, q) hl hL (LeL.refl _) rfl (.cons (.loc (Nat.lt_of_lt_of_le (by decide : 0 < 6) (Nat.le_of_eq rfl))) (.cons (zaD v) .nil)) (.tup (.cons .int (.cons .int .nil))) (xf _ _) (xf _ _) hK
theorem zra {av : List D} {L : List Ob} {KP : D → Prop} {KW : D → List Ob → Prop} (q : List zl) (s : Lay) (marks : List Int) (shut : List (List zw)) (cur : List zw) (fe fa : Int) (X : List Ob) (h : zac shut marks s) (hL : L = bO q ⟨s.items, s.syms, marks, shut, false, cur, fe, fa⟩ ++ X) (has : av = [.loc 0 0])
  (hK : KW (.int .i64 (yO shut marks s).2) (bO q ⟨(yO shut marks s).1.items, (yO shut marks s).1.syms, marks, shut, false, cur, fe, fa⟩ ++ X)) : zn Tryz.prog zal av L KP KW := by
 subst has
 exact y7 zpa X (⟨s.items, s.syms, marks, shut, false, cur, fe, fa⟩, q) ⟨rfl, h.size, h.items, h.len, h.marksl, h.pos⟩ hL (LeL.refl _) rfl (.cons (.loc (Nat.lt_of_lt_of_le (by decide : 0 < 6) (Nat.le_of_eq rfl))) .nil) .int (xf _ _) (xf _ _) hK
theorem zdK (shut : List (List zw)) (marks : List Int) (f : Nat) (s : Lay) : zcE shut marks (f + 1) s = if ((yO shut marks s).1.items.any (xK (yO shut marks s).1.syms)) = false ∨ 8000 < (yO shut marks s).2
      then (⟨(yO shut marks s).1.items.map (y0 (yO shut marks s).1.syms), (yO shut marks s).1.syms⟩, (yO shut marks s).2)
      else zcE shut marks f ⟨(yO shut marks s).1.items.map (y0 (yO shut marks s).1.syms), (yO shut marks s).1.syms⟩ := rfl
theorem zpc : za Tryz.prog zfi (ya (fun ((s, marks, shut, _, _, _, _) : Lay × List Int × List (List zw) × List zw × Int × Int × List zl) => zac shut marks s) (fun _ => [.loc 0 0])
  (fun (s, marks, shut, cur, fe, fa, q) => bO q ⟨s.items, s.syms, marks, shut, false, cur, fe, fa⟩) (fun (s, marks, shut, _, _, _, _) => .int .i64 (yL shut marks s).2)
  fun (s, marks, shut, cur, fe, fa, q) => bO q ⟨(yL shut marks s).1.items, (yL shut marks s).1.syms, marks, shut, false, cur, fe, fa⟩) := by
 refine zf zj Tryz.func89 rfl (by decide) ?_
 rintro ⟨s, marks, shut, cur, fe, fa, q⟩ h
 have h : zac shut marks s := h
 refine ⟨Nat.le_refl _, by simp [Tryz.f89], fun E hE => ?_⟩
 have hE6 : E.L.length = 6 := by rw [hE]; rfl
 show AWP _ _ _ _ (vQ _ _ _ (.int .i64 (yL shut marks s).2) (bO q ⟨(yL shut marks s).1.items, (yL shut marks s).1.syms, marks, shut, false, cur, fe, fa⟩)) _ (bO q ⟨s.items, s.syms, marks, shut, false, cur, fe, fa⟩)
 generalize hT : yL shut marks s = T
 have hT : zcE shut marks (wu s.items + 1) s = T := hT
 refine ze _ ?_
 (all_goals refine qgp (Lf.mk ?_))
 refine yN (α := Nat × Lay) (fun p => zcE shut marks p.1 p.2 = T ∧ wu p.2.items < p.1 ∧ zac shut marks p.2) (fun _ => [(0, .loc 0 0)]) (fun p => bO q ⟨p.2.items, p.2.syms, marks, shut, false, cur, fe, fa⟩) (fun p => p.1)
  (fun _ => by rw [hE6]; exact Nat.le_refl 6) (wu s.items + 1, s) ⟨hT, Nat.lt_succ_self _, h⟩ ?_ ?_
 ·exact yn rfl ⟨rfl, trivial⟩
 rintro ⟨f, s1⟩ ⟨i1, i2, i3⟩
 dsimp only at i1 i2 i3 ⊢
 obtain ⟨f, rfl⟩ : ∃ g, f = g + 1 := ⟨f - 1, by omega⟩
 rw [zdK] at i1
 have hpl := i3.place
 have hat : ∀ x ∈ (yO shut marks s1).1.items, 0 ≤ x.at_ ∧ x.at_ ≤ 1000000000000000 := fun x hx => by
  obtain ⟨_, h1, h2⟩ := zgj s1.items 0 (Int.le_refl 0) i3.size x hx
  have := i3.items
  exact ⟨h1, by omega⟩
 have hsh : wu (yO shut marks s1).1.items = wu s1.items := zcG shut s1.items 0
 refine ze _ ?_
 (all_goals refine qgp (Lf.mk ?_))
 refine zra q s1 marks shut cur fe fa [] i3 rfl rfl ?_
 generalize yO shut marks s1 = P at *
 obtain ⟨⟨PI, PS⟩, n⟩ := P
 dsimp only at i1 hpl hat hsh ⊢
 have hPIl : PI.length ≤ 1000000 := hpl.items
 have hgs := zeZ PS PI
 have hgl := hpl.grow (syms := PS)
 dsimp only at hgl
 (all_goals refine qgp (Lf.mk ?_))
 refine yN (α := Nat) (fun k => k ≤ PI.length) (fun k => [(0, .loc 0 0), (3, .int .i64 n), (4, .bool ((PI.take k).any (xK PS))), (17, .int .i64 PI.length), (18, .int .i64 k)])
  (fun k => bO q ⟨(PI.take k).map (y0 PS) ++ PI.drop k, PS, marks, shut, false, cur, fe, fa⟩) (fun k => PI.length - k) (fun _ => by rw [hE6]; exact Nat.le_refl 6) 0 (Nat.zero_le _) ?_ ?_
 ·exact zhX rfl ⟨.refl _, .refl _, .ff rfl, .refl _, .refl _, trivial⟩
 intro k hk
 have hk : k ≤ PI.length := hk
 refine ze _ ?_
 (all_goals refine qgp ?_ <;> (repeat' first | exact trivial | intro hc | refine And.intro ?_ ?_) <;> refine Lf.mk ?_)
 ·have hkl : k < PI.length := by omega
  obtain ⟨x, hx⟩ := yf (l := PI) (k := k) (by omega)
  have hgx : PI[k] = x := by rw [List.getElem?_eq_getElem hkl] at hx; exact Option.some.inj hx
  have hxa := hat x (List.mem_of_getElem? hx)
  have hdrop : PI.drop k = x :: PI.drop (k + 1) := by rw [List.drop_eq_getElem_cons hkl, hgx]
  have htake : (PI.take (k + 1)).map (y0 PS) = (PI.take k).map (y0 PS) ++ [y0 PS x] := by rw [List.take_succ_eq_append_getElem hkl, hgx, List.map_append]; rfl
  have hany : (PI.take (k + 1)).any (xK PS) = ((PI.take k).any (xK PS) || xK PS x) := by rw [List.take_succ_eq_append_getElem hkl, hgx, List.any_append, List.any_cons, List.any_nil, Bool.or_false]
  have hGl : ((PI.take k).map (y0 PS)).length = k := by rw [List.length_map, List.length_take]; omega
  rw [hdrop]
  generalize (PI.take k).map (y0 PS) = G at *
  generalize (PI.take k).any (xK PS) = c at *
  have hmid := zeb (a := G) (b := PI.drop (k + 1)) (x := x) hGl
  have hget : (G ++ x :: PI.drop (k + 1))[(((0 + ((k : Nat) : Int).toNat : Nat)) : Int).toNat]? = some x := by rw [Int.toNat_natCast, Nat.zero_add, Int.toNat_natCast]; exact hmid
  have hno : xK PS x = false → y0 PS x = x := fun h => by unfold y0; rw [if_neg (by rw [h]; decide)]
  have hyes : xK PS x = true → y0 PS x = { x with long := true } := fun h => by unfold y0; rw [if_pos h]
  have hms : xK PS x = decide (x.kind = 2 ∧ x.long = false ∧ (zV PS x.val).2 = 0 ∧ (wr x.ins.op x.at_ (zV PS x.val).1).2 = 3) := rfl
  have hLn : xK PS x = false → bO q ⟨G ++ x :: PI.drop (k + 1), PS, marks, shut, false, cur, fe, fa⟩ = bO q ⟨(PI.take (k + 1)).map (y0 PS) ++ PI.drop (k + 1), PS, marks, shut, false, cur, fe, fa⟩ := fun h => by rw [htake, hno h, List.append_assoc]; rfl
  have hAn : xK PS x = false → (PI.take (k + 1)).any (xK PS) = c := fun h => by rw [hany, h, Bool.or_false]
  have stop : ∀ {σ : List (Nat × D)}, xK PS x = false → zez σ [(0, .loc 0 0), (3, .int .i64 n), (4, .bool c), (17, .int .i64 PI.length), (18, .int .i64 ((k : Int) + 1))] →
    zq E.L.length (fun k => k ≤ PI.length) (fun k => [(0, .loc 0 0), (3, .int .i64 n), (4, .bool ((PI.take k).any (xK PS))), (17, .int .i64 PI.length), (18, .int .i64 k)])
     (fun k => bO q ⟨(PI.take k).map (y0 PS) ++ PI.drop k, PS, marks, shut, false, cur, fe, fa⟩) (fun k => PI.length - k) k σ (bO q ⟨G ++ x :: PI.drop (k + 1), PS, marks, shut, false, cur, fe, fa⟩) := fun {σ} hm hs =>
   yJ (k + 1) (by show k + 1 ≤ _; omega) (by omega) (hLn hm) (by rw [hAn hm]; exact hs)
  refine zk x (Int.natCast_nonneg _) hget ?_
  (all_goals refine qgp ?_ <;> (repeat' first | exact trivial | intro hc | refine And.intro ?_ ?_) <;> refine Lf.mk ?_)
  ·refine stop (by rw [hms]; simp [hc]) ?_
   exact ⟨rfl, rfl, rfl, rfl, rfl, trivial⟩
  refine zk x (Int.natCast_nonneg _) hget ?_
  (all_goals refine qgp ?_ <;> (repeat' first | exact trivial | intro hc | refine And.intro ?_ ?_) <;> refine Lf.mk ?_)
  ·refine stop (by rw [hms]; simp [hc]) ?_
   exact ⟨rfl, rfl, rfl, rfl, rfl, trivial⟩
  refine zk x (Int.natCast_nonneg _) hget ?_
  (all_goals refine qgp (Lf.mk ?_))
  refine zpb q ⟨G ++ x :: PI.drop (k + 1), PS, marks, shut, false, cur, fe, fa⟩ x.val [] (by show PS.length ≤ _; have := hpl.len; have := hpl.marksl; dsimp only at *; omega) rfl rfl ?_
  rw [show Bld.syms ⟨G ++ x :: PI.drop (k + 1), PS, marks, shut, false, cur, fe, fa⟩ = PS from rfl]
  generalize zV PS x.val = W at *
  obtain ⟨to, e⟩ := W
  dsimp only at hms ⊢
  (all_goals refine qgp ?_ <;> (repeat' first | exact trivial | intro hc | refine And.intro ?_ ?_) <;> refine Lf.mk ?_)
  ·refine zk x (Int.natCast_nonneg _) hget ?_
   (all_goals refine qgp (Lf.mk ?_))
   refine zk x (Int.natCast_nonneg _) hget ?_
   (all_goals refine qgp (Lf.mk ?_))
   refine zb zjk (x.ins.op, x.at_, to) hxa (VS.mk (LeL.of_eq rfl)) ?_
   (all_goals refine qgk ?_ <;> (repeat' first | exact trivial | intro hc | refine And.intro ?_ ?_) <;> refine Lf.mk ?_)
   ·have hm : xK PS x = true := by rw [hms]; simp [*]
    refine zk x (Int.natCast_nonneg _) hget ?_
    (all_goals refine qgk (Lf.mk ?_))
    refine jD ?_
    (all_goals refine qgk (Lf.mk ?_))
    refine zkR (k + 1) (by show k + 1 ≤ _; omega) (by omega) (xZ (ztP (k := 1) (e := 13) ((G ++ { x with long := true } :: PI.drop (k + 1)).map xn) rfl (by simp) ?_) (zhX ?_ ⟨.refl _, .refl _, ?_, .refl _, .refl _, trivial⟩))
    ·rw [← zh6 (f := xn) (x := x) { x with long := true } hGl rfl]
     exact zvA (.cons (.refl _) (.cons (.refl _) (.cons (.refl _) (.cons (.refl _) (.cons (.refl _) (.cons (.refl _) (.cons (.refl _) (.cons (.tt rfl) (LeL.refl _)))))))))
    ·dsimp only
     rw [htake, hyes hm, List.append_assoc]
     exact congrArg (fun c => Ob.cells c :: bT ⟨G ++ { x with long := true } :: PI.drop (k + 1), PS, marks, shut, false, cur, fe, fa⟩) (zg1 (by simp) rfl rfl rfl rfl rfl rfl)
    ·rw [hany, hm, Bool.or_true]
     exact .tt rfl
   ·refine stop (by rw [hms]; simp [hc]) ?_
    exact ⟨rfl, rfl, rfl, rfl, rfl, trivial⟩
  ·refine stop (by rw [hms]; simp [hc]) ?_
   exact ⟨rfl, rfl, rfl, rfl, rfl, trivial⟩
 all_goals
  have hk2 : k = PI.length := by omega
  have hT : PI.take k = PI := by rw [hk2, List.take_length]
  have hD : PI.drop k = [] := by rw [hk2, List.drop_length]
  rw [hT, hD, List.append_nil]
 ·rw [hT] at hc
  rw [if_pos (.inl hc)] at i1
  subst i1
  exact y6 rfl rfl
 ·rw [if_pos (.inr hc)] at i1
  subst i1
  exact y6 rfl rfl
 ·have hany : (PI.take k).any (xK PS) = true := by assumption
  rw [hT] at hany
  rw [if_neg (fun h => h.elim (fun h => by rw [hany] at h; cases h) (fun h => by omega))] at i1
  have := hgs.2 hany
  exact yJ (f, ⟨PI.map (y0 PS), PS⟩) ⟨i1, by dsimp only; omega, hgl⟩ (by dsimp only; omega) rfl ⟨rfl, trivial⟩
end Go.Proofs.YtnkdeacghopkiaaGreatDoor
