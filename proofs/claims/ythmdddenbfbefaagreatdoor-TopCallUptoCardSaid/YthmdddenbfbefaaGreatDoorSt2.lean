/-
  A part of the proof: what the given program's functions answer, each once; conditions that are enough for it.
-/
import Derived.Test.YthmdddenbfbefaaGreatDoorSt1
import Derived.Test.YthmdddenbfbefaaGreatDoorFw3
namespace Go.Proofs.YthmdddenbfbefaaGreatDoor
open Go Go.Plat
set_option linter.unusedVariables false
set_option linter.unusedSimpArgs false
set_option maxRecDepth 100000
set_option maxHeartbeats 2000000
attribute [local irreducible] AWP Arith BitS BytesS CallS CatS DrawS EndS IdxS LookS LoopEnd Meets ModeS NilS NormL NormM QuoS RemS ShlS ShrS SideS SplitS bitI
structure ORel where
 at_ : Int
 size : Int
 name : List UInt8
 add : Int
 deriving DecidableEq
structure OObj where
 code : List UInt8
 syms : List OSym
 rels : List ORel
 deriving DecidableEq
def relD (r : ORel) : D := .agg [.int .i64 r.at_, .int .i64 r.size, .str r.name, .int .i64 r.add]
def objD (o : OObj) : D := .agg [bytesD o.code, .sl 2 (o.syms.map symD) none, .sl 4 (o.rels.map relD) none]
def symsW (n : Int) : List OSym → List (List UInt8) → Option Int
 | [], _ => none
 | s :: l, had => if nameB s.name = false ∨ s.name ∈ had then some 7 else if s.at_ < 0 ∨ n < s.at_ then some 3 else symsW n l (s.name :: had)
def relsW (n : Int) : List ORel → Int → Int
 | [], _ => 0
 | r :: l, last => if r.size ≠ 2 ∧ r.size ≠ 4 then 1 else if r.at_ < last ∨ n - r.size < r.at_ then 3 else if r.at_ % r.size ≠ 0 then 11 else if r.name ≠ [] ∧ nameB r.name = false then 7 else if signedI r.add 32 ≠ r.add then 3 else relsW n l (r.at_ + r.size)
def wrongO (o : OObj) : Int := if 8000 < o.code.length ∨ 255 < o.syms.length ∨ 16000 < o.rels.length then 4 else match symsW o.code.length o.syms [] with
 | some e => e
 | none => relsW o.code.length o.rels 0
def hadM (l : List OSym) : List (D × D) := l.map fun s => (.str s.name, .tt)
theorem hadM_keys (l : List OSym) : ∀ p ∈ hadM l, keyOk .str p.1 = true := by
 intro p hp
 obtain ⟨r, _, rfl⟩ := List.mem_map.1 hp
 rfl
theorem hadM_ren {m : Nat → Option Nat} (l : List OSym) : ∀ p ∈ hadM l, RenOf m p.2 p.2 := by
 intro p hp
 obtain ⟨r, _, rfl⟩ := List.mem_map.1 hp
 exact renOf_pure trivial
theorem idx_had (n : List UInt8) : ∀ l : List OSym, (¬ n ∈ l.map (·.name)) → idxM (.str n) (hadM l) = none
 | [], _ => rfl
 | s :: l, h => by
  have h1 : (n == s.name) = false := beq_eq_false_iff_ne.2 fun e => h (by simp [e])
  simp only [hadM, List.map_cons, idxM, keyB, h1]
  have := idx_had n l fun hm => h (by simp at hm ⊢; exact .inr hm)
  unfold hadM at this
  rw [this]
  rfl
theorem get_had {n : List UInt8} : ∀ {l : List OSym}, n ∈ l.map (·.name) → getM (.str n) (hadM l) = some .tt
 | [], h => by simp at h
 | s :: l, h => by
  by_cases h1 : n = s.name
  ·subst h1
   simp [getM, hadM, idxM, keyB]
  ·have h2 : (n == s.name) = false := beq_eq_false_iff_ne.2 h1
   have h3 : n ∈ l.map (·.name) := by
    simp only [List.map_cons, List.mem_cons] at h
    exact h.resolve_left h1
   have := get_had h3
   unfold getM hadM at this ⊢
   simp only [List.map_cons, idxM, keyB, h2]
   revert this
   cases idxM (.str n) (l.map fun s => (D.str s.name, D.tt)) with
   | none => intro h; cases h
   | some j => intro h; simpa using h
theorem none_had {n : List UInt8} {l : List OSym} (h : ¬ n ∈ l.map (·.name)) : getM (.str n) (hadM l) = none := by unfold getM; rw [idx_had n l h]; rfl
theorem set_had {s : OSym} {l : List OSym} (h : ¬ s.name ∈ l.map (·.name)) : setM (.str s.name) .tt (hadM l) = hadM (l ++ [s]) := by
 rw [setM_none (idx_had _ _ h)]
 simp [hadM]
theorem renM_had {m : Nat → Option Nat} {K : Prop} (l : List OSym) (h : K) : RenM m (hadM l) K := ⟨hadM_ren l, h⟩
theorem renM_nil {m : Nat → Option Nat} {K : Prop} (h : K) : RenM m [] K := ⟨by simp, h⟩
theorem hadM_nil : hadM [] = [] := rfl
attribute [local irreducible] letterB digitB kindB nameB hadM RenM signedI
theorem owrong_meets : Meets Tryz.prog n_obj_Wrong (SpecP (fun o : OObj => (∀ r ∈ o.rels, -9223372036854775808 ≤ r.at_ ∧ r.at_ ≤ 9223372036854775807 ∧ r.name.length ≤ 1000000000) ∧ ∀ s ∈ o.syms, s.name.length ≤ 1000000000) (fun o => [objD o]) fun o => .int .i64 (wrongO o)) := by
 refine meets_f tabOk Tryz.func85 rfl (by decide) ?_
 rintro o ⟨ho, hs⟩
 refine ⟨Nat.le_refl _, by simp [Tryz.f85], fun E hE => ?_⟩
 refine vcOk _ ?_
 (all_goals refine qgo ?_ <;> (repeat' first | exact trivial | intro hc | refine And.intro ?_ ?_) <;> refine Lf.mk ?_)
 ·refine end_p (VS.mk (LeD.of_eq (congrArg (D.int .i64) ?_)))
  unfold wrongO; rw [if_pos (by omega)]
 ·refine end_p (VS.mk (LeD.of_eq (congrArg (D.int .i64) ?_)))
  unfold wrongO; rw [if_pos (by omega)]
 ·refine end_p (VS.mk (LeD.of_eq (congrArg (D.int .i64) ?_)))
  unfold wrongO; rw [if_pos (by omega)]
 have hw : wrongO o = match symsW o.code.length o.syms [] with
   | some e => e
   | none => relsW o.code.length o.rels 0 := by unfold wrongO; rw [if_neg (by omega)]
 refine awp_loop (α := Nat) (fun k => k ≤ o.syms.length ∧ symsW o.code.length o.syms [] = symsW o.code.length (o.syms.drop k) ((o.syms.take k).map (·.name)).reverse)
  (fun k => [(27, .sl 2 (o.syms.map symD) none), (28, .int .i64 o.syms.length), (29, .int .i64 k), (1, .loc 0 0), (3, .mp 1)])
  (fun k => [.cells [bytesD o.code, .sl 2 (o.syms.map symD) none, .sl 4 (o.rels.map relD) none], .map (hadM (o.syms.take k))]) (fun k => o.syms.length - k) (fun _ => by simp [hE]) 0 ⟨Nat.zero_le _, by simp⟩ ?_ ?_
 ·(repeat' (first | (refine VS.mk ?_) | exact trivial | exact rfl | refine And.intro ?_ ?_))
  refine renM_nil ?_
  refine VS.mk ?_
  rw [List.take_zero, hadM_nil]
  rfl
 rintro k ⟨hk, hsw⟩
 refine vcOk _ ?_
 (all_goals refine qgo ?_ <;> (repeat' first | exact trivial | intro hc | refine And.intro ?_ ?_) <;> refine Lf.mk ?_)
 ·obtain ⟨s, hsk⟩ := at_of_lt (l := o.syms) (k := k) (by omega)
  have hkl : k < o.syms.length := by omega
  have hsm := hs s (List.mem_of_getElem? hsk)
  have hget : o.syms[k] = s := by rw [List.getElem?_eq_getElem hkl] at hsk; exact Option.some.inj hsk
  rw [List.drop_eq_getElem_cons hkl, hget] at hsw
  have htake : o.syms.take (k + 1) = o.syms.take k ++ [s] := by rw [List.take_succ_eq_append_getElem hkl, hget]
  have hmem : ∀ n : List UInt8, n ∈ ((o.syms.take k).map (·.name)).reverse ↔ n ∈ (o.syms.take k).map (·.name) := fun n => List.mem_reverse
  refine ix_map s (by omega) (by simpa using hsk) ?_
  (all_goals refine qgo (Lf.mk ?_))
  refine call_p name_meets s.name hsm (VS.mk (by (first | exact LeL.refl _ | (repeat' (first | exact LeL.nil | exact LeD.refl _ | exact LeD.nil _ | exact LeD.strip _ _ _ | refine LeL.cons ?_ ?_ | refine LeD.tup ?_ | refine LeD.agg ?_))))) ?_
  (all_goals refine qgo ?_ <;> (repeat' first | exact trivial | intro hc | refine And.intro ?_ ?_) <;> refine Lf.mk ?_)
  ·refine end_p (VS.mk (LeD.of_eq (congrArg (D.int .i64) ?_)))
   rw [hw, hsw, symsW, if_pos (.inl hc)]
  refine sd_mk (hadM_keys _) ?_
  refine VS.mk ?_
  by_cases hin : s.name ∈ (o.syms.take k).map (·.name)
  ·refine lk_some (get_had hin) ?_
   (all_goals refine qgo (Lf.mk ?_))
   any_goals (refine end_p (VS.mk (LeD.of_eq (congrArg (D.int .i64) ?_))))
   any_goals rw [hw, hsw, symsW, if_pos (.inr ((hmem _).2 hin))]
  ·refine lk_none (none_had hin) ?_
   (all_goals refine qgo (Lf.mk ?_))
   refine sd_mk (hadM_keys _) ?_
   refine VS.mk ?_
   refine norm_m (set_had hin) ?_
   have hstep : ¬ (nameB s.name = false ∨ s.name ∈ ((o.syms.take k).map (·.name)).reverse) := by
    rintro (h | h)
    ·rw [hc] at h; cases h
    ·exact hin ((hmem _).1 h)
   (all_goals refine qgo ?_ <;> (repeat' first | exact trivial | intro hc | refine And.intro ?_ ?_) <;> refine Lf.mk ?_)
   ·refine end_p (VS.mk (LeD.of_eq (congrArg (D.int .i64) ?_)))
    rw [hw, hsw, symsW, if_neg hstep, if_pos (.inl hc)]
   ·refine end_p (VS.mk (LeD.of_eq (congrArg (D.int .i64) ?_)))
    rw [hw, hsw, symsW, if_neg hstep, if_pos (.inr hc)]
   ·have hnew : symsW o.code.length o.syms [] = symsW o.code.length (o.syms.drop (k + 1)) ((o.syms.take (k + 1)).map (·.name)).reverse := by
     rw [hsw, symsW, if_neg hstep, if_neg (by omega), htake]
     simp
    refine loop_end (k + 1) ⟨by omega, hnew⟩ (by omega) ?_
    rw [htake]
    (repeat' (first | (refine VS.mk ?_) | exact trivial | exact rfl | refine And.intro ?_ ?_))
    refine renM_had _ ?_
    refine VS.mk ?_
    rfl
 ·obtain rfl : k = o.syms.length := by omega
  rw [List.drop_length, symsW] at hsw
  rw [hsw] at hw
  have hw : wrongO o = relsW o.code.length o.rels 0 := hw
  refine awp_loop (α := Nat × Int) (fun p => p.1 ≤ o.rels.length ∧ 0 ≤ p.2 ∧ p.2 ≤ 8000 ∧ relsW o.code.length o.rels 0 = relsW o.code.length (o.rels.drop p.1) p.2)
   (fun p => [(59, .sl 4 (o.rels.map relD) none), (60, .int .i64 o.rels.length), (61, .int .i64 p.1), (1, .loc 0 0), (6, .int .i64 p.2)])
   (fun _ => [.cells [bytesD o.code, .sl 2 (o.syms.map symD) none, .sl 4 (o.rels.map relD) none]]) (fun p => o.rels.length - p.1) (fun _ => by simp [hE]) (0, 0) ⟨Nat.zero_le _, by decide, by decide, by simp⟩ ?_ ?_
  ·(repeat' (first | (refine VS.mk ?_) | exact trivial | exact rfl | refine And.intro ?_ ?_))
  rintro ⟨k, last⟩ ⟨hk, hl0, hl1, hrw⟩
  dsimp only at hk hl0 hl1 hrw ⊢
  refine vcOk _ ?_
  (all_goals refine qgo ?_ <;> (repeat' first | exact trivial | intro hc | refine And.intro ?_ ?_) <;> refine Lf.mk ?_)
  ·obtain ⟨r, hrk⟩ := at_of_lt (l := o.rels) (k := k) (by omega)
   have hkl : k < o.rels.length := by omega
   obtain ⟨hr1, hr2, hr3⟩ := ho r (List.mem_of_getElem? hrk)
   have hget : o.rels[k] = r := by rw [List.getElem?_eq_getElem hkl] at hrk; exact Option.some.inj hrk
   rw [List.drop_eq_getElem_cons hkl, hget] at hrw
   rw [hrw, relsW] at hw
   refine ix_map r (by omega) (by simpa using hrk) ?_
   (all_goals refine qgo ?_ <;> (repeat' first | exact trivial | intro hc | refine And.intro ?_ ?_) <;> refine Lf.mk ?_)
   any_goals (refine call_p name_meets r.name hr3 (VS.mk (LeL.of_eq rfl)) ?_)
   (all_goals refine qgo ?_ <;> (repeat' first | exact trivial | intro hc | refine And.intro ?_ ?_) <;> refine Lf.mk ?_)
   any_goals (refine call_p signed_meets2 r.add trivial (VS.mk (LeL.of_eq rfl)) ?_)
   (all_goals refine qgo ?_ <;> (repeat' first | exact trivial | intro hc | refine And.intro ?_ ?_) <;> refine Lf.mk ?_)
   any_goals (refine end_p (VS.mk (LeD.of_eq (congrArg (D.int .i64) ?_))); rw [hw])
   any_goals first
    | (rw [if_pos] <;> omega)
    | (rw [if_neg, if_pos] <;> omega)
    | (rw [if_neg, if_neg, if_pos] <;> omega)
    | (rw [if_neg, if_neg, if_neg, if_pos] <;> first | omega | (refine ⟨?_, ?_⟩ <;> assumption))
    | (rw [if_neg, if_neg, if_neg, if_neg, if_pos] <;> first | omega | assumption | (rintro ⟨h1, h2⟩; simp_all))
    | skip
   all_goals (
    have hnew : relsW o.code.length o.rels 0 = relsW o.code.length (o.rels.drop (k + 1)) (r.at_ + r.size) := by
     rw [hrw, relsW]
     rw [if_neg, if_neg, if_neg, if_neg, if_neg]
     all_goals first
      | omega
      | exact fun h => h (by assumption)
      | (rintro ⟨h1, h2⟩; simp_all; done)
    refine loop_end (k + 1, r.at_ + r.size) ⟨by (dsimp only; omega), by (dsimp only; omega), by (dsimp only; omega), hnew⟩ (by dsimp only; omega) ?_
    (repeat' (first | (refine VS.mk ?_) | exact trivial | exact rfl | refine And.intro ?_ ?_)))
  ·refine end_p (VS.mk (LeD.of_eq (congrArg (D.int .i64) ?_)))
   rw [hw, hrw, List.drop_of_length_le (by omega)]
   rfl
end Go.Proofs.YthmdddenbfbefaaGreatDoor
namespace Go.Proofs.YthmdddenbfbefaaGreatDoor
open Go Go.Plat
set_option linter.unusedVariables false
set_option linter.unusedSimpArgs false
set_option maxRecDepth 100000
set_option maxHeartbeats 2000000
attribute [local irreducible] AWP Arith BitS BytesS CallS CatS DrawS EndS IdxS LookS LoopEnd Meets ModeS NilS NormL NormM QuoS RemS ShlS ShrS SideS SplitS bitI
def tk (t : LTok) : OTok := ⟨t.kind, t.n, t.text⟩
theorem ltok_tok (l : List LTok) : l.map ltokD = (l.map tk).map tokD := by rw [List.map_map]; rfl
structure AOp where
 sign : List UInt8
 reg : Int
 val : OVal
def aopD (o : AOp) : D := .agg [.str o.sign, .int .i64 o.reg, .str o.val.name, .int .i64 o.val.n]
def noV : OVal := ⟨[], 0⟩
def regNames : List (List UInt8) := [[48], [49], [50], [51], [52], [53], [54], [55], [56], [57], [49, 48], [49, 49], [49, 50], [49, 51], [49, 52], [49, 53]]
def regI (t : LTok) : Int := if t.kind = 1 ∧ t.text.headD 0 = 114 then idxT (t.text.drop 1) regNames 0 else -1
structure RB where
 rest : List LTok
 fe : Int
 fa : Int
def failR (s : RB) (e line : Int) : RB := if s.fe = 0 then ⟨s.rest, e, line⟩ else s
def takeA (c : List UInt8) (s : RB) : Bool × RB := match s.rest with
 | t :: r => if t.kind = 3 ∧ t.text = c then (true, ⟨r, s.fe, s.fa⟩) else (false, s)
 | [] => (false, s)
def valueA (q : List OEqu) (line : Int) (s : RB) : OVal × RB :=
 if (pRes (s.rest.map tk)).2.2 = 0 then
  ((evalE q (pRes (s.rest.map tk)).1).1, if (evalE q (pRes (s.rest.map tk)).1).2 = 0 then ⟨s.rest.drop (pRes (s.rest.map tk)).2.1.toNat, s.fe, s.fa⟩
    else failR ⟨s.rest.drop (pRes (s.rest.map tk)).2.1.toNat, s.fe, s.fa⟩ (evalE q (pRes (s.rest.map tk)).1).2 line)
 else (noV, failR s (pRes (s.rest.map tk)).2.2 line)
def signA (s : RB) : List UInt8 × RB :=
 if (takeA [35] s).1 = true then ([35], (takeA [35] s).2) else if (takeA [64] s).1 = true then ([64], (takeA [64] s).2) else if (takeA [61] s).1 = true then ([61], (takeA [61] s).2) else ([], s)
def regH : List LTok → Int
 | [] => -1
 | t :: _ => regI t
def oneB (q : List OEqu) (line : Int) (sg : List UInt8) (s : RB) : AOp × RB :=
 if (sg = [] ∨ sg = [64]) ∧ 0 ≤ regH s.rest then (⟨if sg = [] then [114] else sg, regH s.rest, noV⟩, ⟨s.rest.drop 1, s.fe, s.fa⟩)
 else if sg = [64] then (⟨sg, 0, noV⟩, failR s 2 line)
 else (⟨sg, 0, (valueA q line s).1⟩, (valueA q line s).2)
def oneA (q : List OEqu) (line : Int) (s : RB) : AOp × RB := oneB q line (signA s).1 (signA s).2
def commaA (line : Int) (s : RB) : RB := if (takeA [44] s).1 = false ∨ (takeA [44] s).2.rest = [] then failR (takeA [44] s).2 2 line else (takeA [44] s).2
def allF (q : List OEqu) (line : Int) : Nat → List AOp → RB → List AOp × RB
 | 0, out, s => (out, s)
 | f + 1, out, s => if s.rest = [] ∨ s.fe ≠ 0 then (out, s) else if (oneA q line s).2.rest = [] then (out ++ [(oneA q line s).1], (oneA q line s).2)
  else allF q line f (out ++ [(oneA q line s).1]) (commaA line (oneA q line s).2)
def allA (q : List OEqu) (line : Int) (s : RB) : List AOp × RB := allF q line (s.rest.length + 1) [] s
def sgA (o : AOp) : List UInt8 := if o.sign = [] then [112] else o.sign
def sgsA (l : List AOp) : List UInt8 := (l.map sgA).flatten
def shapesT (s : List UInt8) : List Int :=
 if s = [] then [0] else if s = [35, 114] then [1] else if s = [114, 114] then [2] else if s = [114] then [3] else if s = [112] then [4, 5] else if s = [64] then [6]
 else if s = [112, 114] then [7, 8] else if s = [114, 64] then [9] else if s = [64, 114] then [10] else if s = [35] then [11] else []
structure AItem where
 kind : Int
 at_ : Int
 line : Int
 ins : Ins
 long : Bool
 size : Int
 val : OVal
 pool : Int
 idx : Int
def itemC (x : AItem) : List D := [.int .i64 x.kind, .int .i64 x.at_, .int .i64 x.line, .int .i64 x.ins.op, .int .i64 x.ins.n, .int .i64 x.ins.m, .int .i64 x.ins.imm, .bool x.long, .int .i64 x.size,
 .str x.val.name, .int .i64 x.val.n, .int .i64 x.pool, .int .i64 x.idx]
def itemD (x : AItem) : D := .agg (itemC x)
def noI : Ins := ⟨0, 0, 0, 0⟩
structure Bld where
 items : List AItem
 syms : List OSym
 marks : List Int
 shut : List (List OVal)
 has : Bool
 cur : List OVal
 fe : Int
 fa : Int
def failB (b : Bld) (e line : Int) : Bld := if b.fe = 0 then { b with fe := e, fa := line } else b
def putB (b : Bld) (x : AItem) : Bld := { b with items := b.items ++ [x] }
def idxV (v : OVal) : List OVal → Nat → Int
 | [], _ => -1
 | x :: l, k => if x.name = v.name ∧ x.n = v.n then k else idxV v l (k + 1)
def withV (v : OVal) (l : List OVal) : List OVal := if idxV v l 0 < 0 then l ++ [v] else l
def slotV (v : OVal) (l : List OVal) : Int := if idxV v l 0 < 0 then l.length else idxV v l 0
def litB (b : Bld) (v : OVal) (reg line : Int) : Bld :=
 putB { b with has := true, cur := withV v b.cur } ⟨6, 0, line, ⟨24, reg, 0, 0⟩, false, 0, noV, b.shut.length, slotV v b.cur⟩
def poolB (b : Bld) (line : Int) : Bld :=
 if b.has = true then { putB b ⟨9, 0, line, noI, false, 0, noV, b.shut.length, 0⟩ with shut := b.shut ++ [b.cur], has := false, cur := [] } else b
def pickS (name : List UInt8) : List Int → Int × Int → Int × Int
 | [], p => p
 | s :: l, p => pickS name l (if 0 < findI name s then (findI name s, s) else p)
def aop (l : List AOp) (k : Nat) : AOp := (l[k]?).getD ⟨[], 0, noV⟩
def draftI (op shape : Int) (l : List AOp) (line : Int) : AItem :=
 if shape = 1 then ⟨1, 0, line, ⟨op, (aop l 1).reg, 0, (aop l 0).val.n⟩, false, 0, (aop l 0).val, 0, 0⟩
 else if shape = 2 ∨ shape = 9 ∨ shape = 10 then ⟨1, 0, line, ⟨op, (aop l 1).reg, (aop l 0).reg, 0⟩, false, 0, noV, 0, 0⟩
 else if shape = 3 ∨ shape = 6 then ⟨1, 0, line, ⟨op, (aop l 0).reg, 0, 0⟩, false, 0, noV, 0, 0⟩
 else if shape = 4 then ⟨2, 0, line, ⟨op, 0, 0, 0⟩, false, 0, (aop l 0).val, 0, 0⟩
 else if shape = 5 then ⟨3, 0, line, ⟨op, 0, 0, 0⟩, false, 0, (aop l 0).val, 0, 0⟩
 else if shape = 7 then ⟨4, 0, line, ⟨op, (aop l 1).reg, 0, 0⟩, false, 0, (aop l 0).val, 0, 0⟩
 else if shape = 8 then ⟨5, 0, line, ⟨op, (aop l 1).reg, 0, 0⟩, false, 0, (aop l 0).val, 0, 0⟩
 else if shape = 11 then ⟨1, 0, line, ⟨op, 0, 0, (aop l 0).val.n⟩, false, 0, (aop l 0).val, 0, 0⟩
 else ⟨1, 0, line, ⟨op, 0, 0, 0⟩, false, 0, noV, 0, 0⟩
def instrB (b : Bld) (name : List UInt8) (l : List AOp) (line : Int) : Bld :=
 if name = [109, 111, 118, 46, 108] ∧ l.length = 2 ∧ (aop l 0).sign = [61] ∧ (aop l 1).sign = [114] then litB b (aop l 0).val (aop l 1).reg line
 else if (pickS name (shapesT (sgsA l)) (0, 0)).1 = 0 then failB b 1 line
 else if ((pickS name (shapesT (sgsA l)) (0, 0)).2 = 1 ∨ (pickS name (shapesT (sgsA l)) (0, 0)).2 = 11) ∧ (aop l 0).val.name ≠ [] then failB b 8 line
 else if wrongI (draftI (pickS name (shapesT (sgsA l)) (0, 0)).1 (pickS name (shapesT (sgsA l)) (0, 0)).2 l line).ins = 0
  then putB b (draftI (pickS name (shapesT (sgsA l)) (0, 0)).1 (pickS name (shapesT (sgsA l)) (0, 0)).2 l line)
 else failB b (wrongI (draftI (pickS name (shapesT (sgsA l)) (0, 0)).1 (pickS name (shapesT (sgsA l)) (0, 0)).2 l line).ins) line
def lowN (size : Int) : Int := if size = 1 then -128 else if size = 2 then -32768 else -2147483648
def highN (size : Int) : Int := if size = 1 then 255 else if size = 2 then 65535 else 4294967295
def datB (size line : Int) (b : Bld) (o : AOp) : Bld :=
 putB (if o.sign ≠ [] then failB b 2 line else if o.val.name ≠ [] ∧ size = 1 then failB b 8 line else if o.val.name = [] ∧ (o.val.n < lowN size ∨ highN size < o.val.n) then failB b 3 line else b)
  ⟨7, 0, line, noI, false, size, o.val, 0, 0⟩
def dataB (b : Bld) (size : Int) (l : List AOp) (line : Int) : Bld := l.foldl (datB size line) (if l = [] then failB b 2 line else b)
def alignB (b : Bld) (l : List AOp) (line : Int) : Bld :=
 if l.length ≠ 1 ∨ (aop l 0).sign ≠ [] ∨ (aop l 0).val.name ≠ [] then failB b 2 line
 else if (aop l 0).val.n ≠ 1 ∧ (aop l 0).val.n ≠ 2 ∧ (aop l 0).val.n ≠ 4 ∧ (aop l 0).val.n ≠ 8 ∧ (aop l 0).val.n ≠ 16 then failB b 3 line
 else putB b ⟨8, 0, line, noI, false, (aop l 0).val.n, noV, 0, 0⟩
theorem itoa_meets : Meets Tryz.prog n_strconv_Itoa (SpecP (fun n : Int => -9223372036854775808 ≤ n ∧ n ≤ 9223372036854775807) (fun n => [.int .i64 n]) fun n => .str (Lib.itoa n)) := by
 refine meets_lib ⟨_, Tryz.func12, by decide, rfl⟩ ?_
 intro n hn w F hg vs hl hv
 match vs, hl with
 | [v], _ =>
  cases hv 0 _ v rfl rfl
  refine (Go.Proofs.Tryz.strconv_Itoa n hn.1 hn.2 w ?_).mono ?_
  ·exact hg.tab (g := 0) (ns := (List.range 20).map (10 ^ ·)) (by kernel_rfl) (by kernel_rfl) (by rw [List.map_map]; rfl) (by decide)
  ·rintro e w' ⟨rfl, k, os, rfl⟩
   exact ⟨_, rfl, .growD w k os, .str _⟩
def digsA : List UInt8 → Int → Option Int
 | [], n => some n
 | c :: r, n => if 48 ≤ c.toNat ∧ c.toNat ≤ 57 then digsA r (n * 10 + ((c.toNat : Int) - 48)) else none
theorem digsA_cons (c : UInt8) (r : List UInt8) (n : Int) : digsA (c :: r) n = if 48 ≤ c.toNat ∧ c.toNat ≤ 57 then digsA r (n * 10 + ((c.toNat : Int) - 48)) else none := rfl
def signT2 (s : List UInt8) : Bool := decide (s.headD 0 = 45 ∨ s.headD 0 = 43)
def atoiS (s : List UInt8) : Option Int :=
 if signT2 s = true then (if s.length ≤ 1 then none else if s.headD 0 = 45 then (digsA (s.drop 1) 0).map (fun n => -n) else digsA (s.drop 1) 0) else digsA s 0
def atoiD (r : Option Int) (e : D) : D := match r with | some n => .tup [.int .i64 n, .nilif] | none => .tup [.int .i64 0, e]
theorem digs_step {t : List UInt8} {k : Nat} {n : Int} (hk : k < t.length) : digsA (t.drop k) n = if 48 ≤ (t.getD k 0).toNat ∧ (t.getD k 0).toNat ≤ 57 then digsA (t.drop (k + 1)) (n * 10 + (((t.getD k 0).toNat : Int) - 48)) else none := by
 rw [List.drop_eq_getElem_cons hk, digsA_cons, List.getD_eq_getElem?_getD, List.getElem?_eq_getElem hk]
 rfl
theorem low_d48 (c : UInt8) : ((lowByte ((c.toNat : Int) - 48)).toNat : Int) = ((c.toNat : Int) - 48) % 256 := lowByte_toNat _
theorem low_no {c : UInt8} (h : 9 < ((lowByte ((c.toNat : Int) - 48)).toNat : Int)) : ¬ (48 ≤ c.toNat ∧ c.toNat ≤ 57) := by rw [low_d48] at h; omega
theorem low_yes {c : UInt8} (h : ¬ 9 < ((lowByte ((c.toNat : Int) - 48)).toNat : Int)) : (48 ≤ c.toNat ∧ c.toNat ≤ 57) ∧ ((lowByte ((c.toNat : Int) - 48)).toNat : Int) = (c.toNat : Int) - 48 := by
 rw [low_d48] at h ⊢
 have := c.toNat_lt
 omega
theorem head_c (s : List UInt8) (c : UInt8) : (((s.getD (Int.toNat 0) 0).toNat : Int) = (c.toNat : Int)) ↔ s.headD 0 = c := by
 have : s.getD (Int.toNat 0) 0 = s.headD 0 := by cases s <;> rfl
 rw [this]
 refine ⟨fun h => ?_, fun h => by rw [h]⟩
 exact UInt8.toNat.inj (by omega)
theorem at_neg {s : List UInt8} (h : s.headD 0 = 45) : atoiS s = if s.length ≤ 1 then none else (digsA (s.drop 1) 0).map (fun n => -n) := by
 unfold atoiS signT2
 rw [if_pos (decide_eq_true (.inl h)), if_pos h]
theorem at_pos {s : List UInt8} (h : ¬ s.headD 0 = 45) (h' : s.headD 0 = 43) : atoiS s = if s.length ≤ 1 then none else digsA (s.drop 1) 0 := by
 unfold atoiS signT2
 rw [if_pos (decide_eq_true (.inr h')), if_neg h]
theorem at_no {s : List UInt8} (h : ¬ s.headD 0 = 45) (h' : ¬ s.headD 0 = 43) : atoiS s = digsA s 0 := by
 unfold atoiS signT2
 rw [if_neg (fun e => (of_decide_eq_true e).elim h h')]
attribute [local irreducible] digsA Lib.itoa
def inAtoi (s : List UInt8) : Prop := 1 ≤ s.length ∧ s.length ≤ 2
def AtI (t : List UInt8) (p : Nat × Int) : Prop := p.1 ≤ t.length ∧ (p.1 = 0 → p.2 = 0) ∧ (p.1 ≤ 1 → p.2 ≤ 9) ∧ 0 ≤ p.2 ∧ p.2 ≤ 99 ∧ digsA (t.drop p.1) p.2 = digsA t 0
theorem iatoi_meets : Meets Tryz.prog n_internal_strconv_Atoi (SpecP (fun s : List UInt8 => inAtoi s) (fun s => [.str s]) fun s => atoiD (atoiS s) (.iface 300 (.int .i64 2))) := by
 refine meets_f tabOk Tryz.func194 rfl (by decide) ?_
 intro s hs
 obtain ⟨h1, h2⟩ := hs
 refine ⟨Nat.le_refl _, by simp [Tryz.f194], fun E hE => ?_⟩
 have ht : List.drop (Int.toNat 1) (List.take ((s.length : Int)).toNat s) = s.drop 1 := by rw [Int.toNat_natCast, List.take_length]; rfl
 have hl1 : (s.drop 1).length = s.length - 1 := by simp
 refine vcOk _ ?_
 (all_goals refine qgp ?_ <;> (repeat' first | exact trivial | intro hc | refine And.intro ?_ ?_) <;> refine Lf.mk ?_)
 all_goals (try rw [ht] at hc)
 all_goals (try rw [ht])
 ·have h45 := (head_c s 45).1 (by assumption)
  refine end_p (VS.mk (LeD.of_eq ?_))
  rw [at_neg h45, if_pos (show s.length ≤ 1 by omega)]
  rfl
 ·have h45 := (head_c s 45).1 (by assumption)
  have hAt : ∀ e, atoiD (atoiS s) e = atoiD ((digsA (s.drop 1) 0).map (fun n => -n)) e := fun e => by rw [at_neg h45, if_neg (show ¬ s.length ≤ 1 by omega)]
  have hl2 : (s.drop 1).length ≤ 2 := by omega
  clear ht
  generalize s.drop 1 = t at *
  refine awp_loop (α := Nat × Int) (AtI t) (fun p => [(47, .sl 1 (t.map byteD) none), (48, .int .i64 t.length), (49, .int .i64 p.1), (6, .int .i64 p.2), (5, .str s)])
   (fun _ => []) (fun p => t.length - p.1) (fun _ => by rw [hE]; exact Nat.le_refl _) (0, 0) ⟨Nat.zero_le _, fun _ => rfl, fun _ => by decide, by decide, by decide, rfl⟩ ?_ ?_
  ·(repeat' (first | (refine VS.mk ?_) | exact trivial | exact rfl | refine And.intro ?_ ?_))
  rintro ⟨k, n⟩ ⟨i1, i2, i3, i4, i5, i6⟩
  dsimp only at i1 i2 i3 i4 i5 i6 ⊢
  refine vcOk _ ?_
  (all_goals refine qgp ?_ <;> (repeat' first | exact trivial | intro hc | refine And.intro ?_ ?_) <;> refine Lf.mk ?_)
  ·have hst := digs_step (n := n) (show k < t.length by omega)
   rw [if_neg (low_no hc), i6] at hst
   refine end_p (VS.mk (LeD.of_eq ?_))
   rw [hAt, hst]
   rfl
  ·obtain ⟨l1, l2⟩ := low_yes hc
   have hst := digs_step (n := n) (show k < t.length by omega)
   rw [if_pos l1, i6] at hst
   have hj : AtI t (k + 1, n * 10 + (((t.getD k 0).toNat : Int) - 48)) := by
    refine ⟨?_, ?_, ?_, ?_, ?_, hst.symm⟩ <;> dsimp only
    ·omega
    ·intro h; omega
    ·intro h; have := i2 (by omega); omega
    ·omega
    ·have := i3 (by omega); omega
   refine loop_end _ hj (by dsimp only; omega) ?_
   (repeat' (first | (refine VS.mk ?_) | exact trivial | exact rfl | refine And.intro ?_ ?_))
   all_goals rw [l2]
  all_goals
   have hk : k = t.length := by omega
   subst hk
   rw [List.drop_length] at i6
   have i6 : digsA t 0 = some n := by rw [← i6, digsA]
   refine end_p (VS.mk (LeD.of_eq ?_))
   rw [hAt, i6]
   exact congrArg (fun x => D.tup [.int .i64 x, .nilif]) (Int.zero_sub n)
 ·have h45 : ¬ s.headD 0 = 45 := fun h => absurd ((head_c s 45).2 h) (by assumption)
  have h43 := (head_c s 43).1 (by assumption)
  refine end_p (VS.mk (LeD.of_eq ?_))
  rw [at_pos h45 h43, if_pos (show s.length ≤ 1 by omega)]
  rfl
 ·have h45 : ¬ s.headD 0 = 45 := fun h => absurd ((head_c s 45).2 h) (by assumption)
  have h43 := (head_c s 43).1 (by assumption)
  have hAt : ∀ e, atoiD (atoiS s) e = atoiD (digsA (s.drop 1) 0) e := fun e => by rw [at_pos h45 h43, if_neg (show ¬ s.length ≤ 1 by omega)]
  have hl2 : (s.drop 1).length ≤ 2 := by omega
  clear ht
  generalize s.drop 1 = t at *
  refine awp_loop (α := Nat × Int) (AtI t) (fun p => [(47, .sl 1 (t.map byteD) none), (48, .int .i64 t.length), (49, .int .i64 p.1), (6, .int .i64 p.2), (5, .str s)])
   (fun _ => []) (fun p => t.length - p.1) (fun _ => by rw [hE]; exact Nat.le_refl _) (0, 0) ⟨Nat.zero_le _, fun _ => rfl, fun _ => by decide, by decide, by decide, rfl⟩ ?_ ?_
  ·(repeat' (first | (refine VS.mk ?_) | exact trivial | exact rfl | refine And.intro ?_ ?_))
  rintro ⟨k, n⟩ ⟨i1, i2, i3, i4, i5, i6⟩
  dsimp only at i1 i2 i3 i4 i5 i6 ⊢
  refine vcOk _ ?_
  (all_goals refine qgp ?_ <;> (repeat' first | exact trivial | intro hc | refine And.intro ?_ ?_) <;> refine Lf.mk ?_)
  ·have hst := digs_step (n := n) (show k < t.length by omega)
   rw [if_neg (low_no hc), i6] at hst
   refine end_p (VS.mk (LeD.of_eq ?_))
   rw [hAt, hst]
   rfl
  ·obtain ⟨l1, l2⟩ := low_yes hc
   have hst := digs_step (n := n) (show k < t.length by omega)
   rw [if_pos l1, i6] at hst
   have hj : AtI t (k + 1, n * 10 + (((t.getD k 0).toNat : Int) - 48)) := by
    refine ⟨?_, ?_, ?_, ?_, ?_, hst.symm⟩ <;> dsimp only
    ·omega
    ·intro h; omega
    ·intro h; have := i2 (by omega); omega
    ·omega
    ·have := i3 (by omega); omega
   refine loop_end _ hj (by dsimp only; omega) ?_
   (repeat' (first | (refine VS.mk ?_) | exact trivial | exact rfl | refine And.intro ?_ ?_))
   all_goals rw [l2]
  all_goals
   have hk : k = t.length := by omega
   subst hk
   rw [List.drop_length] at i6
   have i6 : digsA t 0 = some n := by rw [← i6, digsA]
   refine end_p (VS.mk (LeD.of_eq ?_))
   rw [hAt, i6]
   rfl
 ·have h45 : ¬ s.headD 0 = 45 := fun h => absurd ((head_c s 45).2 h) (by assumption)
  have h43 : ¬ s.headD 0 = 43 := fun h => absurd ((head_c s 43).2 h) (by assumption)
  have hAt : ∀ e, atoiD (atoiS s) e = atoiD (digsA s 0) e := fun e => by rw [at_no h45 h43]
  refine awp_loop (α := Nat × Int) (AtI s) (fun p => [(47, .sl 1 (s.map byteD) none), (48, .int .i64 s.length), (49, .int .i64 p.1), (6, .int .i64 p.2), (5, .str s)])
   (fun _ => []) (fun p => s.length - p.1) (fun _ => by rw [hE]; exact Nat.le_refl _) (0, 0) ⟨Nat.zero_le _, fun _ => rfl, fun _ => by decide, by decide, by decide, rfl⟩ ?_ ?_
  ·(repeat' (first | (refine VS.mk ?_) | exact trivial | exact rfl | refine And.intro ?_ ?_))
  rintro ⟨k, n⟩ ⟨i1, i2, i3, i4, i5, i6⟩
  dsimp only at i1 i2 i3 i4 i5 i6 ⊢
  refine vcOk _ ?_
  (all_goals refine qgp ?_ <;> (repeat' first | exact trivial | intro hc | refine And.intro ?_ ?_) <;> refine Lf.mk ?_)
  ·have hst := digs_step (n := n) (show k < s.length by omega)
   rw [if_neg (low_no hc), i6] at hst
   refine end_p (VS.mk (LeD.of_eq ?_))
   rw [hAt, hst]
   rfl
  ·obtain ⟨l1, l2⟩ := low_yes hc
   have hst := digs_step (n := n) (show k < s.length by omega)
   rw [if_pos l1, i6] at hst
   have hj : AtI s (k + 1, n * 10 + (((s.getD k 0).toNat : Int) - 48)) := by
    refine ⟨?_, ?_, ?_, ?_, ?_, hst.symm⟩ <;> dsimp only
    ·omega
    ·intro h; omega
    ·intro h; have := i2 (by omega); omega
    ·omega
    ·have := i3 (by omega); omega
   refine loop_end _ hj (by dsimp only; omega) ?_
   (repeat' (first | (refine VS.mk ?_) | exact trivial | exact rfl | refine And.intro ?_ ?_))
   all_goals rw [l2]
  all_goals
   have hk : k = s.length := by omega
   subst hk
   rw [List.drop_length] at i6
   have i6 : digsA s 0 = some n := by rw [← i6, digsA]
   refine end_p (VS.mk (LeD.of_eq ?_))
   rw [hAt, i6]
   rfl
theorem atoi_meets : Meets Tryz.prog n_strconv_Atoi (SpecP (fun s : List UInt8 => inAtoi s) (fun s => [.str s]) fun s => atoiD (atoiS s) (.iface 301 .any)) := by
 refine meets_f tabOk Tryz.func173 rfl (by decide) ?_
 intro s hs
 refine ⟨Nat.le_refl _, by simp [Tryz.f173], fun E hE => ?_⟩
 refine vcOk _ ?_
 (all_goals refine qgp (Lf.mk ?_))
 refine call_p iatoi_meets s hs (VS.mk (LeL.of_eq rfl)) ?_
 cases h : atoiS s with
 | some n =>
  dsimp only [atoiD]
  (all_goals refine qgp ?_ <;> (repeat' first | exact trivial | intro hc | refine And.intro ?_ ?_) <;> refine Lf.mk ?_)
  all_goals first
   | (exfalso; exact Bool.noConfusion hc)
   | (exfalso; refine absurd trivial ?_; assumption)
   | skip
  exact end_p (VS.mk (LeD.of_eq rfl))
 | none =>
  dsimp only [atoiD]
  (all_goals refine qgp ?_ <;> (repeat' first | exact trivial | intro hc | refine And.intro ?_ ?_) <;> refine Lf.mk ?_)
  all_goals first
   | (exfalso; exact Bool.noConfusion hc)
   | (exfalso; refine absurd hc ?_; decide)
   | skip
  refine call_p toerr_meets ([65, 116, 111, 105], s, 0, 0, 2) ⟨by have := hs.2; omega, .inr rfl⟩ (VS.mk (LeL.of_eq rfl)) ?_
  (all_goals refine qgp (Lf.mk ?_))
  exact end_p (VS.mk (LeD.of_eq rfl))
theorem idx_mem (x : List UInt8) : ∀ (l : List (List UInt8)) (k : Nat), idxT x l k = -1 ∨ x ∈ l
 | [], _ => .inl rfl
 | s :: l, k => by
  rw [idxT]
  by_cases h : x = s
  ·exact .inr (by rw [h]; exact List.mem_cons_self)
  ·rw [if_neg h]
   exact (idx_mem x l (k + 1)).imp id (List.mem_cons_of_mem _)
theorem reg_all : regNames.map (fun r => (idxT r regNames 0, atoiS r)) = (List.range 16).map (fun k : Nat => ((k : Int), some (k : Int))) := by kernel_rfl
theorem reg_ito : (List.range 16).map (fun k => Lib.itoa ((k : Nat) : Int)) = regNames := by kernel_rfl
theorem reg_at {k : Nat} (hk : k < 16) : regNames[k]? = some (Lib.itoa (k : Int)) ∧ idxT (Lib.itoa (k : Int)) regNames 0 = k ∧ atoiS (Lib.itoa (k : Int)) = some (k : Int) := by
 have h1 : regNames[k]? = some (Lib.itoa (k : Int)) := by rw [← reg_ito, List.getElem?_map, List.getElem?_range hk]; rfl
 have h2 := congrArg (fun l => l[k]?) reg_all
 simp only [List.getElem?_map, h1, List.getElem?_range hk, Option.map_some, Option.some.injEq, Prod.mk.injEq] at h2
 exact ⟨h1, h2⟩
theorem reg_yes {s : List UInt8} {n : Int} (h0 : 0 ≤ n) (h1 : n ≤ 15) (h : Lib.itoa n = s) : idxT s regNames 0 = n := by
 obtain ⟨k, rfl⟩ := Int.eq_ofNat_of_zero_le h0
 rw [← h]
 exact (reg_at (by omega)).2.1
theorem reg_no {s : List UInt8} (h : ∀ n, atoiS s = some n → ¬ (0 ≤ n ∧ n ≤ 15 ∧ Lib.itoa n = s)) : idxT s regNames 0 = -1 := by
 refine (idx_mem s regNames 0).resolve_right fun hm => ?_
 obtain ⟨k, hk⟩ := List.getElem?_of_mem hm
 have hk16 : k < 16 := (List.getElem?_eq_some_iff.1 hk).1
 obtain ⟨h1, _, h3⟩ := reg_at hk16
 rw [h1] at hk
 cases hk
 exact h _ h3 ⟨by omega, by omega, rfl⟩
theorem idx_long {s : List UInt8} (h : s.length = 0 ∨ 2 < s.length) : idxT s regNames 0 = -1 := by
 refine (idx_mem s regNames 0).resolve_right fun hm => ?_
 have : ∀ r ∈ regNames, 1 ≤ r.length ∧ r.length ≤ 2 := by decide
 have := this s hm
 omega
attribute [local irreducible] atoiS regNames idxT
theorem register_meets : Meets Tryz.prog n_asm_register (SpecP (fun t : LTok => t.text.length ≤ 1000000000) (fun t => [ltokD t]) fun t => .int .i64 (regI t)) := by
 refine meets_f tabOk Tryz.func121 rfl (by decide) ?_
 rintro ⟨kd, n, s⟩ hs
 have hs : s.length ≤ 1000000000 := hs
 refine ⟨Nat.le_refl _, by simp [Tryz.f121], fun E hE => ?_⟩
 have ht : List.drop (Int.toNat 1) (List.take ((s.length : Int)).toNat s) = s.drop 1 := by rw [Int.toNat_natCast, List.take_length]; rfl
 have hl1 : (s.drop 1).length = s.length - 1 := by simp
 refine vcOk _ ?_
 (all_goals refine qgp ?_ <;> (repeat' first | exact trivial | intro hc | refine And.intro ?_ ?_) <;> refine Lf.mk ?_)
 ·refine end_p (VS.mk (LeD.of_eq (congrArg (D.int .i64) ?_)))
  unfold regI
  rw [if_neg (fun e => hc e.1)]
 ·refine end_p (VS.mk (LeD.of_eq (congrArg (D.int .i64) ?_)))
  unfold regI
  dsimp only
  rw [idx_long (.inl (by omega))]
  split <;> rfl
 ·refine end_p (VS.mk (LeD.of_eq (congrArg (D.int .i64) ?_)))
  unfold regI
  dsimp only
  rw [idx_long (.inr (by omega))]
  split <;> rfl
 ·have h114 : ¬ s.headD 0 = 114 := fun h => absurd ((head_c s 114).2 h) (by assumption)
  refine end_p (VS.mk (LeD.of_eq (congrArg (D.int .i64) ?_)))
  unfold regI
  rw [if_neg (fun e => h114 e.2)]
 ·have h114 := (head_c s 114).1 (by assumption)
  have hR : regI ⟨kd, n, s⟩ = idxT (s.drop 1) regNames 0 := by
   unfold regI
   rw [if_pos ⟨by assumption, h114⟩]
  dsimp only
  rw [ht, hR]
  refine call_p atoi_meets (s.drop 1) ⟨by omega, by omega⟩ (VS.mk (LeL.of_eq rfl)) ?_
  cases hat : atoiS (s.drop 1) with
  | none =>
   dsimp only [atoiD]
   (all_goals refine qgp ?_ <;> (repeat' first | exact trivial | intro hc | refine And.intro ?_ ?_) <;> refine Lf.mk ?_)
   (any_goals (first | (exfalso; refine Bool.false_ne_true ?_; assumption) | (exfalso; refine Bool.false_ne_true (Eq.symm ?_); assumption) | (exfalso; refine absurd trivial ?_; assumption) | skip))
   refine end_p (VS.mk (LeD.of_eq (congrArg (D.int .i64) ?_)))
   rw [reg_no fun m hm => by rw [hat] at hm; cases hm]
  | some m =>
   dsimp only [atoiD]
   (all_goals refine qgp ?_ <;> (repeat' first | exact trivial | intro hc | refine And.intro ?_ ?_) <;> refine Lf.mk ?_)
   (any_goals (first | (exfalso; refine Bool.false_ne_true ?_; assumption) | (exfalso; refine Bool.false_ne_true (Eq.symm ?_); assumption) | (exfalso; refine absurd trivial ?_; assumption) | skip))
   ·refine end_p (VS.mk (LeD.of_eq (congrArg (D.int .i64) ?_)))
    rw [reg_no fun q hm => by rw [hat] at hm; cases hm; omega]
   ·refine end_p (VS.mk (LeD.of_eq (congrArg (D.int .i64) ?_)))
    rw [reg_no fun q hm => by rw [hat] at hm; cases hm; omega]
   ·refine call_p itoa_meets m ⟨by omega, by omega⟩ (VS.mk (LeL.of_eq rfl)) ?_
    (all_goals refine qgp ?_ <;> (repeat' first | exact trivial | intro hc | refine And.intro ?_ ?_) <;> refine Lf.mk ?_)
    all_goals (try rw [ht] at hc)
    all_goals (refine end_p (VS.mk (LeD.of_eq (congrArg (D.int .i64) ?_))))
    ·rw [reg_no fun q hm => by rw [hat] at hm; cases hm; exact fun e => hc e.2.2]
    ·rw [reg_yes (by omega) (by omega) hc]
end Go.Proofs.YthmdddenbfbefaaGreatDoor
namespace Go.Proofs.YthmdddenbfbefaaGreatDoor
open Go Go.Plat
set_option linter.unusedVariables false
set_option linter.unusedSimpArgs false
set_option maxRecDepth 100000
set_option maxHeartbeats 2000000
attribute [local irreducible] AWP Arith BitS BytesS CallS CatS DrawS EndS IdxS LookS LoopEnd Meets ModeS NilS NormL NormM OExpr.kids OExpr.kind OExpr.n OExpr.name QuoS RemS ShlS ShrS SideS SplitS bitI digitB exprD kindB letterB nameB signedI
def wt : List OTok → Nat
 | [] => 0
 | t :: l => 1 + t.text.length + wt l
def Slim (p : St → OExpr × St) : Prop := ∀ s, nodes (p s).1 + 2 * wt (p s).2.rest ≤ 1 + 2 * wt s.rest
theorem nodes_mk0 (k n : Int) (t : List UInt8) : nodes (.mk k n t []) = 1 + t.length := by rw [nodes, nodesL, Nat.add_zero]
theorem nodes_mk1 (k n : Int) (a : OExpr) : nodes (.mk k n [] [a]) = 1 + nodes a := by rw [nodes, nodesL, nodesL]; simp
theorem nodes_mk2 (k n : Int) (a b : OExpr) : nodes (.mk k n [] [a, b]) = 1 + nodes a + nodes b := by rw [nodes, nodesL, nodesL, nodesL]; simp; omega
theorem nodes_no : nodes noE = 1 := by unfold noE; rw [nodes_mk0]; rfl
theorem sign_wt (l : List (List UInt8)) (s : St) : wt (signI l s).2.rest ≤ wt s.rest ∧ (0 ≤ (signI l s).1 → wt (signI l s).2.rest + 1 ≤ wt s.rest) := by
 obtain ⟨r, e⟩ := s
 cases r with
 | nil => exact ⟨Nat.le_refl _, fun h => by simp [signI] at h⟩
 | cons t r =>
  simp only [signI]
  split
  ·split
   ·simp only [wt]; exact ⟨by omega, fun _ => by omega⟩
   ·exact ⟨Nat.le_refl _, fun h => by simp at h⟩
  ·exact ⟨Nat.le_refl _, fun h => by simp at h⟩
theorem loop_slim {k : Nat} {sub : St → OExpr × St} (hs : Slim sub) : ∀ (g : Nat) (e : OExpr) (s : St), nodes (loopF k sub g e s).1 + 2 * wt (loopF k sub g e s).2.rest ≤ nodes e + 2 * wt s.rest
 | 0, e, s => Nat.le_refl _
 | g + 1, e, s => by
  rw [loopF]
  obtain ⟨h1, h1'⟩ := sign_wt (signs k) s
  split
  ·split
   ·dsimp only; omega
   ·rename_i hn
    have h3 := h1' (by omega)
    have := loop_slim (k := k) hs g (.mk (kindOf k (signI (signs k) s).1) 0 [] [e, (sub (signI (signs k) s).2).1]) (sub (signI (signs k) s).2).2
    rw [nodes_mk2] at this
    have h2 := hs (signI (signs k) s).2
    omega
  ·exact Nat.le_refl _
theorem level_slim {k : Nat} {sub : St → OExpr × St} (hs : Slim sub) : Slim (levelF k sub) := fun s => by
 have h1 := hs s
 have h2 := loop_slim (k := k) hs ((sub s).2.rest.length + 1) (sub s).1 (sub s).2
 unfold levelF; omega
theorem at_slim {one : St → OExpr × St} (hs : Slim one) : ∀ j, Slim (atF one j)
 | 0 => hs
 | j + 1 => level_slim (at_slim hs j)
theorem tok_slim : Slim tokI := fun s => by
 obtain ⟨r, e⟩ := s
 cases r with
 | nil => simp [tokI, fail_rest, nodes_no, wt]
 | cons t r =>
  simp only [tokI]
  repeat' split
  all_goals (try rw [fail_rest]); simp only [nodes_no, nodes_mk0, wt, List.length_nil]; omega
theorem step_slim {one : St → OExpr × St} (hs : Slim one) : Slim (oneStep one) := fun s => by
 obtain ⟨h1, h1'⟩ := sign_wt opens s
 have h2 := hs (signI opens s).2
 have h3 := at_slim hs 5 (signI opens s).2
 have h4 := (sign_wt closes (atF one 5 (signI opens s).2).2).1
 have h5 := tok_slim (signI opens s).2
 have h6 := nodes_pos (atF one 5 (signI opens s).2).1
 unfold oneStep
 repeat' split
 all_goals (try dsimp only); (try rw [fail_rest]); (try simp only [nodes_mk1, nodes_no]); omega
theorem one_slim : ∀ f, Slim (oneI f)
 | 0 => fun s => by rw [oneI, fail_rest, nodes_no]; exact Nat.le_refl _
 | f + 1 => fun s => by rw [oneI]; exact step_slim (one_slim f) s
theorem res_nodes (L : List OTok) : nodes (pRes L).1 ≤ 1 + 2 * wt L := by
 have h := at_slim (one_slim 7) 5 ⟨L, 0⟩
 have h : nodes (parseI L).1 + 2 * wt (parseI L).2.rest ≤ 1 + 2 * wt L := h
 unfold pRes
 split
 ·dsimp only; omega
 ·dsimp only; rw [nodes_no]; omega
end Go.Proofs.YthmdddenbfbefaaGreatDoor
namespace Go.Proofs.YthmdddenbfbefaaGreatDoor
open Go Go.Plat
set_option linter.unusedVariables false
set_option linter.unusedSimpArgs false
set_option maxRecDepth 100000
set_option maxHeartbeats 2000000
attribute [local irreducible] AWP Arith BitS BytesS CallS CatS DrawS EndS IdxS Lib.itoa LookS LoopEnd Meets ModeS NilS NormL NormM QuoS RemS ShlS ShrS SideS SplitS bitI evalE pRes regI takeA
def shutD (l : List OVal) : D := .sl 2 (l.map valD) none
def poolsD (b : Bld) : List D := match b.has with | true => b.shut.map shutD ++ [.sl 2 (b.cur.map valD) (some 5)] | false => b.shut.map shutD
def bC (q : List OEqu) (b : Bld) : List D := [.sl 2 (q.map equD) none, .osl 13 1 b.items.length 0 b.items.length, .osl 2 2 b.syms.length 0 b.syms.length, .sl 1 (b.marks.map (.int .i64)) (some 3),
 .osl 1 4 (poolsD b).length 0 (poolsD b).length, .int .i64 b.shut.length, .nilsl, .nilsl, .nilsl, .int .i64 b.fe, .int .i64 b.fa]
def curO (b : Bld) : Ob := match b.has with | true => .spare b.cur.length | false => .dead
def bT (b : Bld) : List Ob := [.arr 13 (b.items.map itemD), .arr 2 (b.syms.map symD), .spare b.marks.length, .arr 1 (poolsD b), curO b]
def bO (q : List OEqu) (b : Bld) : List Ob := .cells (bC q b) :: bT b
theorem afail_meets : Meets Tryz.prog n_asm_builder_fail (SpecF (fun _ : (D × D × D × D × D × D × D × D × D) × Int × Int × Int × Int × List Ob => True) (fun (_, _, _, e, line, _) => [.loc 0 0, .int .i64 e, .int .i64 line])
  (fun ((c0, c1, c2, c3, c4, c5, c6, c7, c8), fe, fa, _, _, X) => .cells [c0, c1, c2, c3, c4, c5, c6, c7, c8, .int .i64 fe, .int .i64 fa] :: X) (fun _ => .ff)
  fun ((c0, c1, c2, c3, c4, c5, c6, c7, c8), fe, fa, e, line, X) => .cells [c0, c1, c2, c3, c4, c5, c6, c7, c8, .int .i64 (if fe = 0 then e else fe), .int .i64 (if fe = 0 then line else fa)] :: X) := by
 refine meets_f tabOk Tryz.func63 rfl (by decide) ?_
 rintro ⟨⟨c0, c1, c2, c3, c4, c5, c6, c7, c8⟩, fe, fa, e, line, X⟩ _
 refine ⟨Nat.le_refl _, by simp [Tryz.f63], fun E hE => ?_⟩
 refine vcOk _ ?_
 (all_goals refine qgp ?_ <;> (repeat' first | exact trivial | intro hc | refine And.intro ?_ ?_) <;> refine Lf.mk ?_)
 ·exact end_eq rfl (by dsimp only; rw [if_pos hc, if_pos hc])
 ·exact end_eq rfl (by dsimp only; rw [if_neg hc, if_neg hc])
def arC (s : RB) (line : Int) : Ob := .cells [.loc 0 0, .sl 3 (s.rest.map ltokD) none, .int .i64 line]
def setF (b : Bld) (s : RB) : Bld := { b with fe := s.fe, fa := s.fa }
def ardO (q : List OEqu) (b : Bld) (s : RB) (line : Int) : List Ob := bO q (setF b s) ++ [arC s line]
theorem poolsD_cl (b : Bld) : ∀ d ∈ poolsD b, ClL 6 d.cells := by
 have h1 : ∀ d ∈ b.shut.map shutD, ClL 6 d.cells := by
  intro d hd
  obtain ⟨l, _, rfl⟩ := List.mem_map.1 hd
  exact ClL.cons ClD.sl ClL.nil
 unfold poolsD
 split
 ·intro d hd
  rcases List.mem_append.1 hd with hd | hd
  ·exact h1 d hd
  ·rw [List.mem_singleton] at hd
   subst hd
   exact ClL.cons (ClD.tok (by decide)) ClL.nil
 ·exact h1
theorem items_cl {n : Nat} (l : List AItem) : ∀ d ∈ l.map itemD, ClL n d.cells := by
 intro d hd
 obtain ⟨x, _, rfl⟩ := List.mem_map.1 hd
 exact .cons .int (.cons .int (.cons .int (.cons .int (.cons .int (.cons .int (.cons .int (.cons .bool (.cons .int (.cons .str (.cons .int (.cons .int (.cons .int .nil))))))))))))
theorem syms_cl {n : Nat} (l : List OSym) : ∀ d ∈ l.map symD, ClL n d.cells := by
 intro d hd
 obtain ⟨x, _, rfl⟩ := List.mem_map.1 hd
 exact .cons .str (.cons .int .nil)
theorem ClD.up {n m : Nat} {d : D} (h : ClD n d) (hn : n ≤ m) : ClD m d := fun f hf => h f fun k hk => hf k (by omega)
theorem ClO.up {n m : Nat} {o : Ob} (h : ClO n o) (hn : n ≤ m) : ClO m o := fun f hf => h f fun k hk => hf k (by omega)
theorem bO_cl (q : List OEqu) (b : Bld) : ∀ o ∈ bO q b, ClO 6 o := by
 intro o ho
 simp only [bO, bT, List.mem_cons, List.not_mem_nil, or_false] at ho
 rcases ho with rfl | rfl | rfl | rfl | rfl | rfl
 ·exact .cells (.cons .sl (.cons (.osl (by decide)) (.cons (.osl (by decide)) (.cons (.tok (by decide)) (.cons (.osl (by decide)) (.cons .int (.cons .nilsl (.cons .nilsl (.cons .nilsl (.cons .int (.cons .int .nil)))))))))))
 ·exact .arr (items_cl _)
 ·exact .arr (syms_cl _)
 ·exact .spare
 ·exact .arr (poolsD_cl _)
 ·unfold curO
  split
  ·exact .spare
  ·exact .dead
theorem ardO_cl (q : List OEqu) (b : Bld) (s : RB) (line : Int) : ∀ o ∈ ardO q b s line, ClO 7 o := by
 intro o ho
 rcases List.mem_append.1 ho with ho | ho
 ·exact ClO.up (bO_cl _ _ o ho) (by decide)
 ·rw [List.mem_singleton] at ho
  subst ho
  exact .cells (.cons (.loc (by decide)) (.cons .sl (.cons .int .nil)))
theorem take_cons {c : List UInt8} {t : LTok} {r : List LTok} {e a : Int} : takeA c ⟨t :: r, e, a⟩ = if t.kind = 3 ∧ t.text = c then (true, ⟨r, e, a⟩) else (false, ⟨t :: r, e, a⟩) := by unfold takeA; rfl
theorem take_nil {c : List UInt8} {e a : Int} : takeA c ⟨[], e, a⟩ = (false, ⟨[], e, a⟩) := by unfold takeA; rfl
theorem atake_meets : Meets Tryz.prog n_asm_reader_take (SpecF (fun ((_, s, _, _) : Bld × RB × List UInt8 × List OEqu × Int) => s.rest.length ≤ 1000000000) (fun (_, _, c, _, _) => [.loc 6 0, .str c])
  (fun (b, s, _, q, line) => ardO q b s line) (fun (_, s, c, _, _) => .bool (takeA c s).1) fun (b, s, c, q, line) => ardO q b (takeA c s).2 line) := by
 refine meets_f tabOk Tryz.func127 rfl (by decide) ?_
 rintro ⟨b, ⟨r, e, a⟩, c, q, line⟩ hr
 have hr : r.length ≤ 1000000000 := hr
 refine ⟨Nat.le_refl _, by simp [Tryz.f127], fun E hE => ?_⟩
 cases r with
 | nil =>
  refine vcOk _ ?_
  (all_goals refine qgp ?_ <;> (repeat' first | exact trivial | intro hc | refine And.intro ?_ ?_) <;> refine Lf.mk ?_)
  exact end_ff (by rw [take_nil]) (by dsimp only; rw [take_nil]) (Nat.le_of_eq rfl)
 | cons t r =>
  have hr2 : r.length + 1 ≤ 1000000000 := hr
  refine vcOk _ ?_
  (all_goals refine qgp ?_ <;> (repeat' first | exact trivial | intro hc | refine And.intro ?_ ?_) <;> refine Lf.mk ?_)
  ·exact end_tt (by rw [take_cons, if_pos ⟨by assumption, by assumption⟩]) (by dsimp only; rw [take_cons, if_pos ⟨by assumption, by assumption⟩]; rfl) (Nat.le_of_eq rfl)
  ·exact end_ff (by rw [take_cons, if_neg (fun h => hc h.2)]) (by dsimp only; rw [take_cons, if_neg (fun h => hc h.2)]) (Nat.le_of_eq rfl)
  ·exact end_ff (by rw [take_cons, if_neg (fun h => hc h.1)]) (by dsimp only; rw [take_cons, if_neg (fun h => hc h.1)]) (Nat.le_of_eq rfl)
theorem fail_bO (q : List OEqu) (b : Bld) (e line : Int) : Ob.cells [.sl 2 (q.map equD) none, .osl 13 1 b.items.length 0 b.items.length, .osl 2 2 b.syms.length 0 b.syms.length, .sl 1 (b.marks.map (.int .i64)) (some 3),
  .osl 1 4 (poolsD b).length 0 (poolsD b).length, .int .i64 b.shut.length, .nilsl, .nilsl, .nilsl, .int .i64 (if b.fe = 0 then e else b.fe), .int .i64 (if b.fe = 0 then line else b.fa)] :: bT b = bO q (failB b e line) := by
 unfold failB
 by_cases h : b.fe = 0
 ·rw [if_pos h, if_pos h, if_pos h]; rfl
 ·rw [if_neg h, if_neg h, if_neg h]; rfl
theorem call_fail {av : List D} {L : List Ob} {KP : D → Prop} {KW : D → List Ob → Prop} (q : List OEqu) (b : Bld) (e line : Int) (X : List Ob) (hL : L = bO q b ++ X) (has : av = [.loc 0 0, .int .i64 e, .int .i64 line])
  (hK : KW .ff (bO q (failB b e line) ++ X)) : CallS Tryz.prog n_asm_builder_fail av L KP KW := by
 subst has
 refine call_b afail_meets X ((.sl 2 (q.map equD) none, .osl 13 1 b.items.length 0 b.items.length, .osl 2 2 b.syms.length 0 b.syms.length, .sl 1 (b.marks.map (.int .i64)) (some 3),
  .osl 1 4 (poolsD b).length 0 (poolsD b).length, .int .i64 b.shut.length, .nilsl, .nilsl, .nilsl), b.fe, b.fa, e, line, bT b) trivial hL (LeL.refl _) rfl ?_ .ff (bO_cl q b) ?_ ?_
 ·exact .cons (.loc (Nat.lt_of_lt_of_le (by decide : 0 < 6) (Nat.le_of_eq rfl))) (.cons .int (.cons .int .nil))
 ·dsimp only
  rw [fail_bO]
  exact bO_cl q _
 ·dsimp only
  rw [fail_bO]
  exact hK
attribute [local irreducible] OExpr.kids OExpr.kind OExpr.n OExpr.name curO exprD nodes poolsD
def inVal (s : RB) (q : List OEqu) : Prop := wt (s.rest.map tk) ≤ 1048576 ∧ q.length ≤ 1000000000
theorem wt_len : ∀ l : List OTok, l.length ≤ wt l
 | [] => Nat.le_refl _
 | t :: l => by have := wt_len l; rw [wt]; simp; omega
theorem wt_drop : ∀ (l : List OTok) (k : Nat), wt (l.drop k) ≤ wt l
 | [], k => by simp
 | t :: l, 0 => Nat.le_refl _
 | t :: l, k + 1 => by have := wt_drop l k; rw [List.drop_succ_cons, wt]; omega
theorem pRes_n (l : List OTok) : 0 ≤ (pRes l).2.1 ∧ (pRes l).2.1 ≤ l.length := by
 unfold pRes
 have := parse_short l
 split
 ·dsimp only; omega
 ·dsimp only; omega
theorem fail_rd (q : List OEqu) (b : Bld) (s : RB) (e line l2 : Int) (X : List Ob) : bO q (failB (setF b s) e line) ++ (arC s l2 :: X) = ardO q b (failR s e line) l2 ++ X := by
 unfold failB failR ardO setF
 by_cases h : s.fe = 0
 ·rw [if_pos h, if_pos h]; rfl
 ·rw [if_neg h, if_neg h]; rfl
theorem call_rfail {av : List D} {L : List Ob} {KP : D → Prop} {KW : D → List Ob → Prop} (q : List OEqu) (b : Bld) (s : RB) (e line : Int) (X : List Ob) (hL : L = ardO q b s line ++ X) (has : av = [.loc 0 0, .int .i64 e, .int .i64 line])
  (hK : KW .ff (ardO q b (failR s e line) line ++ X)) : CallS Tryz.prog n_asm_builder_fail av L KP KW :=
 call_fail q (setF b s) e line (arC s line :: X) hL has (by rw [fail_rd]; exact hK)
theorem valD_cl {n : Nat} (v : OVal) : ClD n (valD v) := .agg (.cons .str (.cons .int .nil))
theorem end_rd {n0 : Nat} {q : List OEqu} {b : Bld} {s s' : RB} {line : Int} {r d : D} {L : List Ob} (X : List Ob) (hL : L = ardO q b s' line ++ X) (hs : s' = s) (hr : r = d) (hn : n0 ≤ 7) (hd : ClD 7 d) : EndS n0 r d L (ardO q b s line) := by
 subst hs; subst hr
 exact end_pre (ardO q b s' line) X hL hn hd (ardO_cl _ _ _ _)
theorem value_meets : Meets Tryz.prog n_asm_reader_value (SpecF (fun ((_, s, q, _) : Bld × RB × List OEqu × Int) => inVal s q) (fun _ => [.loc 6 0])
  (fun (b, s, q, line) => ardO q b s line) (fun (_, s, q, line) => valD (valueA q line s).1) fun (b, s, q, line) => ardO q b (valueA q line s).2 line) := by
 refine meets_f tabOk Tryz.func175 rfl (by decide) ?_
 rintro ⟨b, s, q, line⟩ ⟨hw, hq⟩
 refine ⟨Nat.le_refl _, by simp [Tryz.f175], fun E hE => ?_⟩
 have hl : s.rest.length ≤ 1048576 := by have := wt_len (s.rest.map tk); rw [List.length_map] at this; omega
 have hn := pRes_n (s.rest.map tk)
 rw [List.length_map] at hn
 have hnodes := res_nodes (s.rest.map tk)
 have hV : valueA q line s = if (pRes (s.rest.map tk)).2.2 = 0 then
  ((evalE q (pRes (s.rest.map tk)).1).1, if (evalE q (pRes (s.rest.map tk)).1).2 = 0 then ⟨s.rest.drop (pRes (s.rest.map tk)).2.1.toNat, s.fe, s.fa⟩
    else failR ⟨s.rest.drop (pRes (s.rest.map tk)).2.1.toNat, s.fe, s.fa⟩ (evalE q (pRes (s.rest.map tk)).1).2 line)
  else (noV, failR s (pRes (s.rest.map tk)).2.2 line) := rfl
 refine vcOk _ ?_
 (all_goals refine qgp (Lf.mk ?_))
 refine call_p parse_meets (s.rest.map tk) (by show (s.rest.map tk).length ≤ _; rw [List.length_map]; omega) (VS.mk (LeL.of_eq (by rw [ltok_tok]))) ?_
 generalize pRes (s.rest.map tk) = P at *
 obtain ⟨e, n, err⟩ := P
 dsimp only at hV hn hnodes ⊢
 (all_goals refine qgp ?_ <;> (repeat' first | exact trivial | intro hc | refine And.intro ?_ ?_) <;> refine Lf.mk ?_)
 ·rw [if_neg hc] at hV
  refine call_rfail q b s err line [_, _] rfl rfl ?_
  (all_goals refine qgp (Lf.mk ?_))
  rw [hV]
  exact end_rd [_, _] rfl rfl rfl (Nat.le_of_eq rfl) (valD_cl _)
 ·rw [if_pos hc] at hV
  refine call_p (eval_meets q hq (nodes e)) e ⟨Nat.le_refl _, by omega⟩ (VS.mk (LeL.of_eq rfl)) ?_
  generalize evalE q e = V at *
  obtain ⟨⟨vn, vi⟩, ve⟩ := V
  dsimp only at hV ⊢
  (all_goals refine qgp ?_ <;> (repeat' first | exact trivial | intro hc | refine And.intro ?_ ?_) <;> refine Lf.mk ?_)
  ·rw [if_neg hc] at hV
   refine call_rfail q b ⟨s.rest.drop n.toNat, s.fe, s.fa⟩ ve line [_, _, _] rfl rfl ?_
   (all_goals refine qgp (Lf.mk ?_))
   rw [hV]
   exact end_rd [_, _, _] rfl rfl rfl (Nat.le_of_eq rfl) (valD_cl _)
  ·rw [if_pos hc] at hV
   rw [hV]
   exact end_rd (s' := ⟨s.rest.drop n.toNat, s.fe, s.fa⟩) [_, _, _] rfl rfl rfl (Nat.le_of_eq rfl) (valD_cl _)
theorem call_take {av : List D} {L : List Ob} {KP : D → Prop} {KW : D → List Ob → Prop} (q : List OEqu) (b : Bld) (s : RB) (c : List UInt8) (line : Int) (X : List Ob) (hl : s.rest.length ≤ 1000000000) (hL : L = ardO q b s line ++ X) (has : av = [.loc 6 0, .str c])
  (hK : KW (.bool (takeA c s).1) (ardO q b (takeA c s).2 line ++ X)) : CallS Tryz.prog n_asm_reader_take av L KP KW := by
 subst has
 exact call_b atake_meets X (b, s, c, q, line) hl hL (LeL.refl _) rfl (.cons (.loc (Nat.lt_of_lt_of_le (by decide : 6 < 7) (Nat.le_of_eq rfl))) (.cons .str .nil)) .bool (ardO_cl _ _ _ _) (ardO_cl _ _ _ _) hK
theorem call_value {av : List D} {L : List Ob} {KP : D → Prop} {KW : D → List Ob → Prop} (q : List OEqu) (b : Bld) (s : RB) (line : Int) (X : List Ob) (hl : inVal s q) (hL : L = ardO q b s line ++ X) (has : av = [.loc 6 0])
  (hK : KW (valD (valueA q line s).1) (ardO q b (valueA q line s).2 line ++ X)) : CallS Tryz.prog n_asm_reader_value av L KP KW := by
 subst has
 exact call_b value_meets X (b, s, q, line) hl hL (LeL.refl _) rfl (.cons (.loc (Nat.lt_of_lt_of_le (by decide : 6 < 7) (Nat.le_of_eq rfl))) .nil) (valD_cl _) (ardO_cl _ _ _ _) (ardO_cl _ _ _ _) hK
theorem take_false {c : List UInt8} {s : RB} (h : (takeA c s).1 = false) : (takeA c s).2 = s := by
 obtain ⟨r, e, a⟩ := s
 cases r with
 | nil => rw [take_nil]
 | cons t r =>
  rw [take_cons] at h ⊢
  split at h
  ·cases h
  ·rw [if_neg (by assumption)]
theorem take_val {c : List UInt8} {s : RB} {q : List OEqu} (h : inVal s q) : inVal (takeA c s).2 q := by
 obtain ⟨r, e, a⟩ := s
 cases r with
 | nil => rw [take_nil]; exact h
 | cons t r =>
  rw [take_cons]
  split
  ·refine ⟨?_, h.2⟩
   have := h.1
   rw [List.map_cons, wt] at this
   show wt (r.map tk) ≤ _
   omega
  ·exact h
theorem take_sub (c : List UInt8) (s : RB) : ∀ t ∈ (takeA c s).2.rest, t ∈ s.rest := by
 obtain ⟨r, e, a⟩ := s
 cases r with
 | nil => rw [take_nil]; exact fun _ h => h
 | cons t r =>
  rw [take_cons]
  split
  ·exact fun _ h => List.mem_cons_of_mem _ h
  ·exact fun _ h => h
theorem val_len {s : RB} {q : List OEqu} (h : inVal s q) : s.rest.length ≤ 1048576 := by have := h.1; have := wt_len (s.rest.map tk); rw [List.length_map] at this; omega
theorem sg_neg {s : RB} (h : (takeA [35] s).1 = false) (h' : (takeA [64] s).1 = false) (h2 : (takeA [61] s).1 = false) : signA s = ([], s) := by
 unfold signA
 rw [if_neg (by rw [h]; decide), if_neg (by rw [h']; decide), if_neg (by rw [h2]; decide)]
theorem aopD_cl {n : Nat} (o : AOp) : ClD n (aopD o) := .agg (.cons .str (.cons .int (.cons .str (.cons .int .nil))))
theorem sign35 {s : RB} (h : (takeA [35] s).1 = true) : signA s = ([35], (takeA [35] s).2) := by unfold signA; rw [if_pos h]
theorem sign64 {s : RB} (h : (takeA [35] s).1 = false) (h1 : (takeA [64] s).1 = true) : signA s = ([64], (takeA [64] s).2) := by
 unfold signA; rw [if_neg (by rw [h]; decide), if_pos h1]
theorem sign61 {s : RB} (h : (takeA [35] s).1 = false) (h1 : (takeA [64] s).1 = false) (h2 : (takeA [61] s).1 = true) : signA s = ([61], (takeA [61] s).2) := by
 unfold signA; rw [if_neg (by rw [h]; decide), if_neg (by rw [h1]; decide), if_pos h2]
theorem oneB_val {q : List OEqu} {line : Int} {sg : List UInt8} {s : RB} (h : ¬ (sg = [] ∨ sg = [64])) : oneB q line sg s = (⟨sg, 0, (valueA q line s).1⟩, (valueA q line s).2) := by
 unfold oneB; rw [if_neg fun e => h e.1, if_neg fun e => h (.inr e)]
theorem oneB_reg {q : List OEqu} {line : Int} {sg : List UInt8} {t : LTok} {r : List LTok} {e a : Int} (h : sg = [] ∨ sg = [64]) (h1 : 0 ≤ regI t) : oneB q line sg ⟨t :: r, e, a⟩ = (⟨if sg = [] then [114] else sg, regI t, noV⟩, ⟨r, e, a⟩) := by
 unfold oneB; rw [if_pos ⟨h, h1⟩]; rfl
theorem oneB_at {q : List OEqu} {line : Int} {s : RB} (h : regH s.rest < 0) : oneB q line [64] s = (⟨[64], 0, noV⟩, failR s 2 line) := by
 unfold oneB; rw [if_neg fun e => by omega, if_pos rfl]
theorem oneB_no {q : List OEqu} {line : Int} {s : RB} (h : regH s.rest < 0) : oneB q line [] s = (⟨[], 0, (valueA q line s).1⟩, (valueA q line s).2) := by
 unfold oneB; rw [if_neg fun e => by omega, if_neg (by decide)]
theorem one_meets : Meets Tryz.prog n_asm_reader_one (SpecF (fun ((_, s, q, _) : Bld × RB × List OEqu × Int) => inVal s q ∧ ∀ t ∈ s.rest, t.text.length ≤ 1000000000) (fun _ => [.loc 6 0])
  (fun (b, s, q, line) => ardO q b s line) (fun (_, s, q, line) => aopD (oneA q line s).1) fun (b, s, q, line) => ardO q b (oneA q line s).2 line) := by
 refine meets_f tabOk Tryz.func126 rfl (by decide) ?_
 rintro ⟨b, s, q, line⟩ ⟨hv, htx⟩
 have hv : inVal s q := hv
 have htx : ∀ t ∈ s.rest, t.text.length ≤ 1000000000 := htx
 refine ⟨Nat.le_refl _, by simp [Tryz.f126], fun E hE => ?_⟩
 have hl := val_len hv
 refine vcOk _ ?_
 (all_goals refine qgp (Lf.mk ?_))
 refine awp_unroll (vcOk _ ?_)
 (all_goals refine qgp ?_ <;> (repeat' first | exact trivial | intro hc | refine And.intro ?_ ?_) <;> refine Lf.mk ?_)
 refine call_take q b s [35] line [_, _] (by omega) rfl rfl ?_
 cases h35 : (takeA [35] s).1 with
 | true =>
  have hone : oneA q line s = (⟨[35], 0, (valueA q line (takeA [35] s).2).1⟩, (valueA q line (takeA [35] s).2).2) := by unfold oneA; rw [sign35 h35]; exact oneB_val (sg := [35]) (by decide)
  (all_goals refine qgp ?_ <;> (repeat' first | exact trivial | intro hc | refine And.intro ?_ ?_) <;> refine Lf.mk ?_)
  (any_goals (first | (exfalso; refine Bool.false_ne_true ?_; assumption) | (exfalso; refine Bool.false_ne_true (Eq.symm ?_); assumption) | (exfalso; refine absurd trivial ?_; assumption) | skip))
  all_goals first
   | (exfalso; exact absurd (by assumption : ([35] : List UInt8) = [64]) (by decide))
   | (exfalso; exact absurd (by assumption : ([35] : List UInt8) = []) (by decide))
   | skip
  all_goals (refine call_value q b (takeA [35] s).2 line [_, _] (take_val hv) rfl rfl ?_)
  (all_goals refine qgp (Lf.mk ?_))
  all_goals (dsimp only; rw [hone])
  all_goals exact end_rd [_, _] rfl rfl rfl (Nat.le_of_eq rfl) (aopD_cl _)
 | false =>
  rw [take_false h35]
  (all_goals refine qgp ?_ <;> (repeat' first | exact trivial | intro hc | refine And.intro ?_ ?_) <;> refine Lf.mk ?_)
  (any_goals (first | (exfalso; refine Bool.false_ne_true ?_; assumption) | (exfalso; refine Bool.false_ne_true (Eq.symm ?_); assumption) | (exfalso; refine absurd trivial ?_; assumption) | skip))
  refine in_round (vcOk _ ?_)
  (all_goals refine qgp ?_ <;> (repeat' first | exact trivial | intro hc | refine And.intro ?_ ?_) <;> refine Lf.mk ?_)
  refine call_take q b s [64] line [_, _] (by omega) rfl rfl ?_
  cases h64 : (takeA [64] s).1 with
  | true =>
   have hone : oneA q line s = oneB q line [64] (takeA [64] s).2 := by unfold oneA; rw [sign64 h35 h64]
   have hsub : ∀ t ∈ (takeA [64] s).2.rest, t.text.length ≤ 1000000000 := fun t ht => htx t (take_sub _ _ t ht)
   have hl2 := val_len (take_val (c := [64]) hv)
   generalize (takeA [64] s).2 = s' at *
   obtain ⟨r, e, a⟩ := s'
   cases r with
   | nil =>
    have hone : oneA q line s = (⟨[64], 0, noV⟩, failR ⟨[], e, a⟩ 2 line) := by rw [hone]; exact oneB_at (show regH [] < 0 by decide)
    (all_goals refine qgp ?_ <;> (repeat' first | exact trivial | intro hc | refine And.intro ?_ ?_) <;> refine Lf.mk ?_)
    (any_goals (first | (exfalso; refine Bool.false_ne_true ?_; assumption) | (exfalso; refine Bool.false_ne_true (Eq.symm ?_); assumption) | (exfalso; refine absurd trivial ?_; assumption) | skip))
    all_goals first
     | (exfalso; exact absurd (by assumption : ¬ ([64] : List UInt8) = [64]) (by decide))
     | skip
    refine call_rfail q b ⟨[], e, a⟩ 2 line [_, _] rfl rfl ?_
    (all_goals refine qgp (Lf.mk ?_))
    dsimp only
    rw [hone]
    exact end_rd [_, _] rfl rfl rfl (Nat.le_of_eq rfl) (aopD_cl _)
   | cons t r =>
    have hl2 : r.length + 1 ≤ 1048576 := hl2
    (all_goals refine qgp ?_ <;> (repeat' first | exact trivial | intro hc | refine And.intro ?_ ?_) <;> refine Lf.mk ?_)
    (any_goals (first | (exfalso; refine Bool.false_ne_true ?_; assumption) | (exfalso; refine Bool.false_ne_true (Eq.symm ?_); assumption) | (exfalso; refine absurd trivial ?_; assumption) | skip))
    all_goals first
     | (exfalso; exact absurd trivial (by assumption))
     | (exfalso; exact absurd (by assumption : ([64] : List UInt8) = []) (by decide))
     | (exfalso; exact absurd (by assumption : ¬ ([64] : List UInt8) = [64]) (by decide))
     | skip
    refine call_p register_meets t (hsub t List.mem_cons_self) (VS.mk (LeL.of_eq rfl)) ?_
    (all_goals refine qgp ?_ <;> (repeat' first | exact trivial | intro hc | refine And.intro ?_ ?_) <;> refine Lf.mk ?_)
    all_goals first
     | (exfalso; exact absurd trivial (by assumption))
     | (exfalso; exact absurd (by assumption : ([64] : List UInt8) = []) (by decide))
     | (exfalso; exact absurd (by assumption : ¬ ([64] : List UInt8) = [64]) (by decide))
     | skip
    ·have hone : oneA q line s = (⟨[64], regI t, noV⟩, ⟨r, e, a⟩) := by rw [hone]; exact oneB_reg (.inr rfl) (by assumption)
     dsimp only
     rw [hone]
     exact end_rd (s' := ⟨r, e, a⟩) [_, _] rfl rfl rfl (Nat.le_of_eq rfl) (aopD_cl _)
    ·have hone : oneA q line s = (⟨[64], 0, noV⟩, failR ⟨t :: r, e, a⟩ 2 line) := by rw [hone]; exact oneB_at (show regI t < 0 by omega)
     refine call_rfail q b ⟨t :: r, e, a⟩ 2 line [_, _] rfl rfl ?_
     (all_goals refine qgp (Lf.mk ?_))
     dsimp only
     rw [hone]
     exact end_rd [_, _] rfl rfl rfl (Nat.le_of_eq rfl) (aopD_cl _)
  | false =>
   rw [take_false h64]
   (all_goals refine qgp ?_ <;> (repeat' first | exact trivial | intro hc | refine And.intro ?_ ?_) <;> refine Lf.mk ?_)
   (any_goals (first | (exfalso; refine Bool.false_ne_true ?_; assumption) | (exfalso; refine Bool.false_ne_true (Eq.symm ?_); assumption) | (exfalso; refine absurd trivial ?_; assumption) | skip))
   refine in_round (vcOk _ ?_)
   (all_goals refine qgp ?_ <;> (repeat' first | exact trivial | intro hc | refine And.intro ?_ ?_) <;> refine Lf.mk ?_)
   refine call_take q b s [61] line [_, _] (by omega) rfl rfl ?_
   cases h61 : (takeA [61] s).1 with
   | true =>
    have hone : oneA q line s = (⟨[61], 0, (valueA q line (takeA [61] s).2).1⟩, (valueA q line (takeA [61] s).2).2) := by unfold oneA; rw [sign61 h35 h64 h61]; exact oneB_val (sg := [61]) (by decide)
    (all_goals refine qgp ?_ <;> (repeat' first | exact trivial | intro hc | refine And.intro ?_ ?_) <;> refine Lf.mk ?_)
    (any_goals (first | (exfalso; refine Bool.false_ne_true ?_; assumption) | (exfalso; refine Bool.false_ne_true (Eq.symm ?_); assumption) | (exfalso; refine absurd trivial ?_; assumption) | skip))
    all_goals first
     | (exfalso; exact absurd (by assumption : ([61] : List UInt8) = [64]) (by decide))
     | (exfalso; exact absurd (by assumption : ([61] : List UInt8) = []) (by decide))
     | skip
    all_goals (refine call_value q b (takeA [61] s).2 line [_, _] (take_val hv) rfl rfl ?_)
    (all_goals refine qgp (Lf.mk ?_))
    all_goals (dsimp only; rw [hone])
    all_goals exact end_rd [_, _] rfl rfl rfl (Nat.le_of_eq rfl) (aopD_cl _)
   | false =>
    have hone : oneA q line s = oneB q line [] s := by unfold oneA; rw [sg_neg h35 h64 h61]
    rw [take_false h61]
    clear h35 h64 h61
    obtain ⟨r, e, a⟩ := s
    cases r with
    | nil =>
     have hone : oneA q line ⟨[], e, a⟩ = (⟨[], 0, (valueA q line ⟨[], e, a⟩).1⟩, (valueA q line ⟨[], e, a⟩).2) := by rw [hone]; exact oneB_no (show regH [] < 0 by decide)
     (all_goals refine qgp ?_ <;> (repeat' first | exact trivial | intro hc | refine And.intro ?_ ?_) <;> refine Lf.mk ?_)
     (any_goals (first | (exfalso; refine Bool.false_ne_true ?_; assumption) | (exfalso; refine Bool.false_ne_true (Eq.symm ?_); assumption) | (exfalso; refine absurd trivial ?_; assumption) | skip))
     refine in_round (vcOk _ ?_)
     (all_goals refine qgp ?_ <;> (repeat' first | exact trivial | intro hc | refine And.intro ?_ ?_) <;> refine Lf.mk ?_)
     all_goals first
      | (exfalso; exact absurd trivial (by assumption))
      | (exfalso; exact absurd (by assumption : ([] : List UInt8) = [64]) (by decide))
      | skip
     refine call_value q b ⟨[], e, a⟩ line [_, _] hv rfl rfl ?_
     (all_goals refine qgp (Lf.mk ?_))
     dsimp only
     rw [hone]
     exact end_rd [_, _] rfl rfl rfl (Nat.le_of_eq rfl) (aopD_cl _)
    | cons t r =>
     have hl2 : r.length + 1 ≤ 1048576 := hl
     (all_goals refine qgp ?_ <;> (repeat' first | exact trivial | intro hc | refine And.intro ?_ ?_) <;> refine Lf.mk ?_)
     (any_goals (first | (exfalso; refine Bool.false_ne_true ?_; assumption) | (exfalso; refine Bool.false_ne_true (Eq.symm ?_); assumption) | (exfalso; refine absurd trivial ?_; assumption) | skip))
     refine in_round (vcOk _ ?_)
     (all_goals refine qgp ?_ <;> (repeat' first | exact trivial | intro hc | refine And.intro ?_ ?_) <;> refine Lf.mk ?_)
     all_goals first
      | (exfalso; exact absurd trivial (by assumption))
      | (exfalso; exact absurd (by assumption : ([] : List UInt8) = [64]) (by decide))
      | (exfalso; exact absurd (by assumption : ¬ ([] : List UInt8) = []) (by decide))
      | skip
     refine call_p register_meets t (htx t List.mem_cons_self) (VS.mk (LeL.of_eq rfl)) ?_
     (all_goals refine qgp ?_ <;> (repeat' first | exact trivial | intro hc | refine And.intro ?_ ?_) <;> refine Lf.mk ?_)
     all_goals first
      | (exfalso; exact absurd trivial (by assumption))
      | (exfalso; exact absurd (by assumption : ([] : List UInt8) = [64]) (by decide))
      | (exfalso; exact absurd (by assumption : ¬ ([] : List UInt8) = []) (by decide))
      | skip
     ·have hone : oneA q line ⟨t :: r, e, a⟩ = (⟨[114], regI t, noV⟩, ⟨r, e, a⟩) := by rw [hone]; exact oneB_reg (.inl rfl) (by assumption)
      dsimp only
      rw [hone]
      exact end_rd (s' := ⟨r, e, a⟩) [_, _] rfl rfl rfl (Nat.le_of_eq rfl) (aopD_cl _)
     ·have hone : oneA q line ⟨t :: r, e, a⟩ = (⟨[], 0, (valueA q line ⟨t :: r, e, a⟩).1⟩, (valueA q line ⟨t :: r, e, a⟩).2) := by rw [hone]; exact oneB_no (show regI t < 0 by omega)
      refine call_value q b ⟨t :: r, e, a⟩ line [_, _] hv rfl rfl ?_
      (all_goals refine qgp (Lf.mk ?_))
      dsimp only
      rw [hone]
      exact end_rd [_, _] rfl rfl rfl (Nat.le_of_eq rfl) (aopD_cl _)
def LessR (s s' : RB) : Prop := s'.rest.length ≤ s.rest.length ∧ wt (s'.rest.map tk) ≤ wt (s.rest.map tk) ∧ ∀ t ∈ s'.rest, t ∈ s.rest
theorem LessR.refl (s : RB) : LessR s s := ⟨Nat.le_refl _, Nat.le_refl _, fun _ h => h⟩
theorem LessR.trans {a b c : RB} (h : LessR a b) (k : LessR b c) : LessR a c := ⟨Nat.le_trans k.1 h.1, Nat.le_trans k.2.1 h.2.1, fun t ht => h.2.2 t (k.2.2 t ht)⟩
theorem LessR.fail {s s' : RB} (h : LessR s s') (e line : Int) : LessR s (failR s' e line) := by
 unfold failR
 split
 ·exact h
 ·exact h
theorem LessR.drop {s : RB} (k : Nat) (e a : Int) : LessR s ⟨s.rest.drop k, e, a⟩ :=
 ⟨by simp, by show wt ((s.rest.drop k).map tk) ≤ _; rw [List.map_drop]; exact wt_drop _ _, fun t ht => List.mem_of_mem_drop ht⟩
theorem take_less (c : List UInt8) (s : RB) : LessR s (takeA c s).2 := by
 obtain ⟨r, e, a⟩ := s
 cases r with
 | nil => rw [take_nil]; exact .refl _
 | cons t r =>
  rw [take_cons]
  split
  ·exact LessR.drop (s := ⟨t :: r, e, a⟩) 1 e a
  ·exact .refl _
theorem value_less (q : List OEqu) (line : Int) (s : RB) : LessR s (valueA q line s).2 := by
 unfold valueA
 split
 ·dsimp only
  split
  ·exact .drop _ _ _
  ·exact (LessR.drop _ _ _).fail _ _
 ·exact (LessR.refl s).fail _ _
theorem sign_less (s : RB) : LessR s (signA s).2 := by
 unfold signA
 split
 ·exact take_less _ _
 split
 ·exact take_less _ _
 split
 ·exact take_less _ _
 ·exact .refl _
theorem one_less (q : List OEqu) (line : Int) (s : RB) : LessR s (oneA q line s).2 := by
 unfold oneA oneB
 refine (sign_less s).trans ?_
 split
 ·exact .drop _ _ _
 split
 ·exact (LessR.refl _).fail _ _
 ·exact value_less _ _ _
theorem comma_less (line : Int) (s : RB) : LessR s (commaA line s) := by
 unfold commaA
 split
 ·exact (take_less _ _).fail _ _
 ·exact take_less _ _
theorem comma_eats (line : Int) (s : RB) (h : (commaA line s).fe = 0) : (commaA line s).rest.length + 1 ≤ s.rest.length := by
 unfold commaA at h ⊢
 split
 ·rename_i hc
  rw [if_pos hc] at h
  exfalso
  unfold failR at h
  split at h
  ·exact absurd (show (2 : Int) = 0 from h) (by decide)
  ·contradiction
 ·rename_i hc
  have ht : (takeA [44] s).1 = true := by
   cases h1 : (takeA [44] s).1 with
   | true => rfl
   | false => exact absurd (.inl h1) hc
  obtain ⟨r, e, a⟩ := s
  cases r with
  | nil => rw [take_nil] at ht; cases ht
  | cons t r =>
   rw [take_cons] at ht ⊢
   split at ht
   ·rw [if_pos (by assumption)]; exact Nat.le_refl _
   ·cases ht
theorem LessR.val {s s' : RB} {q : List OEqu} (h : LessR s s') (hv : inVal s q) : inVal s' q := ⟨Nat.le_trans h.2.1 hv.1, hv.2⟩
theorem allF_end {q : List OEqu} {line : Int} {out : List AOp} {s : RB} (h : s.rest = [] ∨ s.fe ≠ 0) : ∀ f, allF q line f out s = (out, s)
 | 0 => rfl
 | f + 1 => by rw [allF, if_pos h]
theorem allF_step {q : List OEqu} {line : Int} {out : List AOp} {s : RB} (f : Nat) (h : ¬ (s.rest = [] ∨ s.fe ≠ 0)) : allF q line (f + 1) out s = if (oneA q line s).2.rest = [] then (out ++ [(oneA q line s).1], (oneA q line s).2)
  else allF q line f (out ++ [(oneA q line s).1]) (commaA line (oneA q line s).2) := by rw [allF, if_neg h]
theorem comma_def (line : Int) (s : RB) : commaA line s = if (takeA [44] s).1 = false ∨ (takeA [44] s).2.rest = [] then failR (takeA [44] s).2 2 line else (takeA [44] s).2 := rfl
attribute [local irreducible] oneA commaA allF
theorem call_one {av : List D} {L : List Ob} {KP : D → Prop} {KW : D → List Ob → Prop} (q : List OEqu) (b : Bld) (s : RB) (line : Int) (X : List Ob) (hl : inVal s q) (ht : ∀ t ∈ s.rest, t.text.length ≤ 1000000000) (hL : L = ardO q b s line ++ X) (has : av = [.loc 6 0])
  (hK : KW (aopD (oneA q line s).1) (ardO q b (oneA q line s).2 line ++ X)) : CallS Tryz.prog n_asm_reader_one av L KP KW := by
 subst has
 exact call_b one_meets X (b, s, q, line) ⟨hl, ht⟩ hL (LeL.refl _) rfl (.cons (.loc (Nat.lt_of_lt_of_le (by decide : 6 < 7) (Nat.le_of_eq rfl))) .nil) (aopD_cl _) (ardO_cl _ _ _ _) (ardO_cl _ _ _ _) hK
theorem all_meets : Meets Tryz.prog n_asm_reader_all (SpecF (fun ((_, s, q, _) : Bld × RB × List OEqu × Int) => inVal s q ∧ ∀ t ∈ s.rest, t.text.length ≤ 1000000000) (fun _ => [.loc 6 0])
  (fun (b, s, q, line) => ardO q b s line) (fun (_, s, q, line) => .sl 4 ((allA q line s).1.map aopD) none) fun (b, s, q, line) => ardO q b (allA q line s).2 line) := by
 refine meets_f tabOk Tryz.func64 rfl (by decide) ?_
 rintro ⟨b, s, q, line⟩ ⟨hv, htx⟩
 have hv : inVal s q := hv
 have htx : ∀ t ∈ s.rest, t.text.length ≤ 1000000000 := htx
 refine ⟨Nat.le_refl _, by simp [Tryz.f64], fun E hE => ?_⟩
 have hl0 := val_len hv
 have hE7 : E.L.length = 7 := by rw [hE]; rfl
 generalize hT : allA q line s = T
 have hT0 : allF q line (s.rest.length + 1) [] s = T := hT
 refine vcOk _ ?_
 (all_goals refine qgp (Lf.mk ?_))
 refine awp_weak (weak_nil 3 4 rfl) ?_
 refine awp_loopW (α := List AOp × RB × Nat) (fun p => LessR s p.2.1 ∧ (p.2.1.fe = 0 → p.2.1.rest.length + 1 ≤ p.2.2) ∧ allF q line p.2.2 p.1 p.2.1 = T ∧ p.1.length + p.2.1.rest.length ≤ s.rest.length + 1 ∧ (p.2.1.fe = 0 → p.1.length + p.2.1.rest.length ≤ s.rest.length))
  (fun p => [(0, .loc 6 0), (3, .sl 4 (p.1.map aopD) (some 7))]) (fun p => ardO q b p.2.1 line ++ [.spare p.1.length]) (fun p => p.2.1.rest.length + if p.2.1.fe = 0 then 1 else 0) (fun _ => by rw [hE7]; exact Nat.le_succ 7) ([], s, s.rest.length + 1)
  ⟨.refl _, fun _ => Nat.le_refl _, hT0, by simp, fun _ => by simp⟩ ?_ ?_
 ·exact weak_same rfl ⟨rfl, rfl, trivial⟩
 rintro ⟨out, s1, f⟩ ⟨i1, i2, i3, i4, i5⟩
 dsimp only at i1 i2 i3 i4 i5 ⊢
 have hv1 := i1.val hv
 have hl1 := val_len hv1
 refine vcOk _ ?_
 (all_goals refine qgp ?_ <;> (repeat' first | exact trivial | intro hc | refine And.intro ?_ ?_) <;> refine Lf.mk ?_)
 ·have hfe : s1.fe = 0 := hc
  have hne : s1.rest ≠ [] := fun h => by simp only [h, List.length_nil] at *; omega
  have hf := i2 hfe
  have hol := i5 hfe
  obtain ⟨f, rfl⟩ : ∃ g, f = g + 1 := ⟨f - 1, by omega⟩
  rw [allF_step f (fun e => e.elim hne (fun e => e hfe))] at i3
  have hone := one_less q line s1
  refine call_one q b s1 line [_] hv1 (fun t ht => htx t (i1.2.2 t ht)) rfl rfl ?_
  generalize oneA q line s1 = W at *
  obtain ⟨o, s2⟩ := W
  dsimp only at i3 hone ⊢
  have hl2 := hone.1
  (all_goals refine qgk (Lf.mk ?_))
  refine norm_eq ((out ++ [o]).map aopD) (by rw [List.map_append]; rfl) ?_
  rw [List.length_map]
  (all_goals refine qgp ?_ <;> (repeat' first | exact trivial | intro hc | refine And.intro ?_ ?_) <;> refine Lf.mk ?_)
  ·have hre : s2.rest = [] := List.eq_nil_of_length_eq_zero (by omega)
   rw [if_pos hre] at i3
   refine end_le (LeD.strip _ _ _) ?_ (Nat.le_of_eq rfl)
   rw [hT, ← i3]
   exact end_rd [_] rfl rfl rfl (Nat.le_of_eq rfl) .sl
  ·have hre : ¬ s2.rest = [] := fun h => by rw [h] at hc; exact hc rfl
   rw [if_neg hre] at i3
   have hl3 := take_less [44] s2
   have hcl := comma_less line s2
   have hce := comma_eats line s2
   have hcd : commaA line s2 = if (takeA [44] s2).1 = false ∨ (takeA [44] s2).2.rest = [] then failR (takeA [44] s2).2 2 line else (takeA [44] s2).2 := comma_def line s2
   refine call_take q b s2 [44] line [_] (by omega) rfl rfl ?_
   generalize takeA [44] s2 = Y at *
   obtain ⟨y, s3⟩ := Y
   dsimp only at hcd hl3 ⊢
   have hl3 := hl3.1
   have hcl1 := hcl.1
   have hI : LessR s (commaA line s2) ∧ ((commaA line s2).fe = 0 → (commaA line s2).rest.length + 1 ≤ f) ∧ allF q line f (out ++ [o]) (commaA line s2) = T ∧ (out ++ [o]).length + (commaA line s2).rest.length ≤ s.rest.length + 1 ∧
     ((commaA line s2).fe = 0 → (out ++ [o]).length + (commaA line s2).rest.length ≤ s.rest.length) := by
    refine ⟨i1.trans (hone.trans hcl), fun h => by have := hce h; omega, i3, ?_, fun h => ?_⟩
    ·rw [List.length_append, List.length_singleton]; omega
    ·have := hce h; rw [List.length_append, List.length_singleton]; omega
   have hmu : (commaA line s2).rest.length + (if (commaA line s2).fe = 0 then 1 else 0) < s1.rest.length + (if s1.fe = 0 then 1 else 0) := by
    rw [if_pos hfe]
    by_cases h : (commaA line s2).fe = 0
    ·have := hce h; rw [if_pos h]; omega
    ·rw [if_neg h]; omega
   generalize commaA line s2 = s4 at *
   (all_goals refine qgp ?_ <;> (repeat' first | exact trivial | intro hc | refine And.intro ?_ ?_) <;> refine Lf.mk ?_)
   ·rw [if_pos (.inl hc)] at hcd
    refine call_rfail q b s3 2 line [_] rfl rfl ?_
    rw [← hcd]
    (all_goals refine qgp (Lf.mk ?_))
    exact loop_same (out ++ [o], s4, f) hI hmu rfl ⟨rfl, rfl, trivial⟩
   ·rw [if_pos (.inr (List.eq_nil_of_length_eq_zero (by omega)))] at hcd
    refine call_rfail q b s3 2 line [_] rfl rfl ?_
    rw [← hcd]
    (all_goals refine qgp (Lf.mk ?_))
    exact loop_same (out ++ [o], s4, f) hI hmu rfl ⟨rfl, rfl, trivial⟩
   ·have hy : y = true := by assumption
    rw [if_neg (fun e => e.elim (fun h => by rw [hy] at h; cases h) (fun h => by rw [h] at hc; exact hc rfl))] at hcd
    rw [← hcd]
    exact loop_same (out ++ [o], s4, f) hI hmu rfl ⟨rfl, rfl, trivial⟩
 ·have hfe : s1.fe ≠ 0 := hc
  rw [allF_end (.inr hfe)] at i3
  refine end_le (LeD.strip _ _ _) ?_ (Nat.le_of_eq rfl)
  rw [hT, ← i3]
  exact end_rd [_] rfl rfl rfl (Nat.le_of_eq rfl) .sl
 ·have hre : s1.rest = [] := List.eq_nil_of_length_eq_zero (by omega)
  rw [allF_end (.inl hre)] at i3
  refine end_le (LeD.strip _ _ _) ?_ (Nat.le_of_eq rfl)
  rw [hT, ← i3]
  exact end_rd [_] rfl rfl rfl (Nat.le_of_eq rfl) .sl
end Go.Proofs.YthmdddenbfbefaaGreatDoor
namespace Go.Proofs.YthmdddenbfbefaaGreatDoor
open Go Go.Plat
set_option linter.unusedVariables false
set_option linter.unusedSimpArgs false
set_option maxRecDepth 100000
set_option maxHeartbeats 2000000
attribute [local irreducible] AWP Arith BitS BytesS CallS CatS DrawS EndS IdxS Lib.itoa LookS LoopEnd Meets ModeS NilS NormL NormM OExpr.kids OExpr.kind OExpr.n OExpr.name QuoS RemS ShlS ShrS SideS SplitS allA bitI evalE exprD nodes oneA pRes regI takeA
theorem end_bO {n0 : Nat} {q : List OEqu} {b b' : Bld} {r d : D} {L : List Ob} (X : List Ob) (hL : L = bO q b' ++ X) (hb : b' = b) (hr : r = d) (hn : n0 ≤ 6) (hd : ClD 6 d) : EndS n0 r d L (bO q b) := by
 subst hb; subst hr
 exact end_pre (bO q b') X hL hn hd (bO_cl _ _)
theorem aput_meets : Meets Tryz.prog n_asm_builder_put (SpecF (fun ((b, _, _) : Bld × AItem × List OEqu) => b.items.length ≤ 1000000) (fun (_, x, _) => [.loc 0 0, itemD x])
  (fun (b, _, q) => bO q b) (fun _ => .tup []) fun (b, x, q) => bO q (putB b x)) := by
 refine meets_f tabOk Tryz.func68 rfl (by decide) ?_
 rintro ⟨b, x, q⟩ hl
 have hl : b.items.length ≤ 1000000 := hl
 refine ⟨Nat.le_refl _, by simp [Tryz.f68], fun E hE => ?_⟩
 refine vcOk _ ?_
 (all_goals refine qgk (Lf.mk ?_))
 refine norm_eq ((b.items ++ [x]).map itemD) (by rw [List.map_append]; rfl) ?_
 rw [List.length_map]
 (all_goals refine qgk (Lf.mk ?_))
 exact end_bO (b' := putB b x) [_] rfl rfl rfl (Nat.le_of_eq rfl) .tup0
theorem itemD_cl {n : Nat} (x : AItem) : ClD n (itemD x) := .agg (.cons .int (.cons .int (.cons .int (.cons .int (.cons .int (.cons .int (.cons .int (.cons .bool (.cons .int (.cons .str (.cons .int (.cons .int (.cons .int .nil)))))))))))))
theorem call_put {av : List D} {L : List Ob} {KP : D → Prop} {KW : D → List Ob → Prop} (q : List OEqu) (b : Bld) (x : AItem) (X : List Ob) (hl : b.items.length ≤ 1000000) (hL : L = bO q b ++ X) (has : LeL av [.loc 0 0, itemD x])
  (hK : KW (.tup []) (bO q (putB b x) ++ X)) : CallS Tryz.prog n_asm_builder_put av L KP KW := by
 refine call_le has ?_
 exact call_b aput_meets X (b, x, q) hl hL (LeL.refl _) rfl (.cons (.loc (Nat.lt_of_lt_of_le (by decide : 0 < 6) (Nat.le_of_eq rfl))) (.cons (itemD_cl x) .nil)) .tup0 (bO_cl _ _) (bO_cl _ _) hK
theorem item_le {k at_ line : Int} {i : Ins} {size : Int} {v : OVal} {p x : Int} : LeL [.loc 0 0, .agg [.int .i64 k, .int .i64 at_, .int .i64 line, .int .i64 i.op, .int .i64 i.n, .int .i64 i.m, .int .i64 i.imm, .ff, .int .i64 size, .str v.name, .int .i64 v.n, .int .i64 p, .int .i64 x]]
  [.loc 0 0, itemD ⟨k, at_, line, i, false, size, v, p, x⟩] :=
 .cons (.refl _) (.cons (.agg (.cons (.refl _) (.cons (.refl _) (.cons (.refl _) (.cons (.refl _) (.cons (.refl _) (.cons (.refl _) (.cons (.refl _) (.cons (.ff rfl) (.refl _)))))))))) .nil)
theorem failB_items (b : Bld) (e line : Int) : (failB b e line).items = b.items := by unfold failB; split <;> rfl
theorem aalign_meets : Meets Tryz.prog n_asm_builder_align (SpecF (fun ((b, l, _, _) : Bld × List AOp × Int × List OEqu) => b.items.length ≤ 1000000 ∧ l.length ≤ 1000000000) (fun (_, l, line, _) => [.loc 0 0, .sl 4 (l.map aopD) none, .int .i64 line])
  (fun (b, _, _, q) => bO q b) (fun _ => .tup []) fun (b, l, line, q) => bO q (alignB b l line)) := by
 refine meets_f tabOk Tryz.func66 rfl (by decide) ?_
 rintro ⟨b, l, line, q⟩ ⟨hb, hl⟩
 have hb : b.items.length ≤ 1000000 := hb
 have hl : l.length ≤ 1000000000 := hl
 refine ⟨Nat.le_refl _, by simp [Tryz.f66], fun E hE => ?_⟩
 match l, hl with
 | [], _ =>
  refine vcOk _ ?_
  (all_goals refine qgp ?_ <;> (repeat' first | exact trivial | intro hc | refine And.intro ?_ ?_) <;> refine Lf.mk ?_)
  refine call_fail q b 2 line [] rfl rfl ?_
  (all_goals refine qgp (Lf.mk ?_))
  exact end_bO [] rfl rfl rfl (Nat.le_of_eq rfl) .tup0
 | [o], _ =>
  have hA : alignB b [o] line = if o.sign ≠ [] ∨ o.val.name ≠ [] then failB b 2 line else if o.val.n ≠ 1 ∧ o.val.n ≠ 2 ∧ o.val.n ≠ 4 ∧ o.val.n ≠ 8 ∧ o.val.n ≠ 16 then failB b 3 line
    else putB b ⟨8, 0, line, noI, false, o.val.n, noV, 0, 0⟩ := by
   unfold alignB
   by_cases h : o.sign ≠ [] ∨ o.val.name ≠ []
   ·rw [if_pos h, if_pos (.inr h)]
   ·rw [if_neg h, if_neg (fun e => e.elim (fun e => e rfl) h)]; rfl
  refine vcOk _ ?_
  (all_goals refine qgp ?_ <;> (repeat' first | exact trivial | intro hc | refine And.intro ?_ ?_) <;> refine Lf.mk ?_)
  ·refine call_fail q b 2 line [] rfl rfl ?_
   (all_goals refine qgp (Lf.mk ?_))
   exact end_bO [] rfl (by rw [hA, if_pos (.inl hc)]) rfl (Nat.le_of_eq rfl) .tup0
  ·refine call_fail q b 2 line [] rfl rfl ?_
   (all_goals refine qgp (Lf.mk ?_))
   exact end_bO [] rfl (by rw [hA, if_pos (.inr hc)]) rfl (Nat.le_of_eq rfl) .tup0
  ·refine call_fail q b 3 line [] rfl rfl ?_
   (all_goals refine qgp (Lf.mk ?_))
   exact end_bO [] rfl (by rw [hA, if_neg (fun e => e.elim (fun e => e (by assumption)) (fun e => e (by assumption))), if_pos ⟨by assumption, by assumption, by assumption, by assumption, hc⟩]) rfl (Nat.le_of_eq rfl) .tup0
  all_goals
   refine call_put q b ⟨8, 0, line, noI, false, o.val.n, noV, 0, 0⟩ [] hb rfl item_le ?_
   (all_goals refine qgp (Lf.mk ?_))
   exact end_bO [] rfl (by rw [hA, if_neg (fun e => e.elim (fun e => e (by assumption)) (fun e => e (by assumption))), if_neg (fun e => by omega)]) rfl (Nat.le_of_eq rfl) .tup0
 | o :: o2 :: l, _ =>
  refine vcOk _ ?_
  (all_goals refine qgp ?_ <;> (repeat' first | exact trivial | intro hc | refine And.intro ?_ ?_) <;> refine Lf.mk ?_)
  refine call_fail q b 2 line [] rfl rfl ?_
  (all_goals refine qgp (Lf.mk ?_))
  exact end_bO [] rfl (by unfold alignB; rw [if_pos (.inl (by simp))]) rfl (Nat.le_of_eq rfl) .tup0
theorem datB_items (size line : Int) (b : Bld) (o : AOp) : (datB size line b o).items.length = b.items.length + 1 := by
 unfold datB putB
 dsimp only
 rw [List.length_append, List.length_singleton]
 split
 ·rw [failB_items]
 split
 ·rw [failB_items]
 split
 ·rw [failB_items]
 ·rfl
theorem adata_meets : Meets Tryz.prog n_asm_builder_data (SpecF (fun ((b, size, l, _, _) : Bld × Int × List AOp × Int × List OEqu) => b.items.length + l.length ≤ 1000000 ∧ (size = 1 ∨ size = 2 ∨ size = 4)) (fun (_, size, l, line, _) => [.loc 0 0, .int .i64 size, .sl 4 (l.map aopD) none, .int .i64 line])
  (fun (b, _, _, _, q) => bO q b) (fun _ => .tup []) fun (b, size, l, line, q) => bO q (dataB b size l line)) := by
 refine meets_f tabOk Tryz.func65 rfl (by decide) ?_
 rintro ⟨b, size, l, line, q⟩ ⟨hb, hs⟩
 have hb : b.items.length + l.length ≤ 1000000 := hb
 have hs : size = 1 ∨ size = 2 ∨ size = 4 := hs
 have hE6 : ∀ E : Entry, E.L = bO q b → E.L.length = 6 := fun E h => by rw [h]; rfl
 refine ⟨Nat.le_refl _, by simp [Tryz.f65], fun E hE => ?_⟩
 have hE6 := hE6 E hE
 obtain ⟨s, m, hz1, hz2, hz3, hz4, hz5, hz6, hz7, hz8⟩ : ∃ (s : Nat) (m : Int), 8 * size - 1 = (s : Int) ∧ s ≤ 60 ∧ (2 : Int) ^ s = m ∧ (2 : Int) ^ (s + 1) = m * 2 ∧ 0 ≤ m ∧ m ≤ 2147483648 ∧ lowN size = -m ∧ highN size = m * 2 - 1 := by
  rcases hs with rfl | rfl | rfl
  ·exact ⟨7, 128, by decide, by decide, by decide, by decide, by decide, by decide, by decide, by decide⟩
  ·exact ⟨15, 32768, by decide, by decide, by decide, by decide, by decide, by decide, by decide, by decide⟩
  ·exact ⟨31, 2147483648, by decide, by decide, by decide, by decide, by decide, by decide, by decide, by decide⟩
 generalize hT : dataB b size l line = T
 have hT0 : l.foldl (datB size line) (if l = [] then failB b 2 line else b) = T := hT
 refine vcOk _ ?_
 (all_goals refine qgp ?_ <;> (repeat' first | exact trivial | intro hc | refine And.intro ?_ ?_) <;> refine Lf.mk ?_)
 ·have hnil : l = [] := List.eq_nil_of_length_eq_zero (by have hc : ((l.length : Nat) : Int) = 0 := hc; omega)
  subst hnil
  refine call_fail q b 2 line [] rfl rfl ?_
  (all_goals refine qgp (Lf.mk ?_))
  refine awp_unroll (vcOk _ ?_)
  (all_goals refine qgp ?_ <;> (repeat' first | exact trivial | intro hc | refine And.intro ?_ ?_) <;> refine Lf.mk ?_)
  exact end_bO [] rfl (by rw [hT, ← hT0]; rfl) rfl (Nat.le_of_eq rfl) .tup0
 ·have hne : ¬ l = [] := fun h => by rw [h] at hc; exact hc rfl
  rw [if_neg hne] at hT0
  refine awp_loopW (α := Nat × Bld) (fun p => p.1 ≤ l.length ∧ (l.drop p.1).foldl (datB size line) p.2 = T ∧ p.2.items.length + (l.length - p.1) ≤ 1000000)
   (fun p => [(0, .loc 0 0), (1, .int .i64 size), (3, .int .i64 line), (18, .sl 4 (l.map aopD) none), (19, .int .i64 l.length), (20, .int .i64 p.1)]) (fun p => bO q p.2) (fun p => l.length - p.1) (fun _ => by rw [hE6]; exact Nat.le_refl 6) (0, b)
   ⟨Nat.zero_le _, hT0, by dsimp only; omega⟩ ?_ ?_
  ·exact weak_same rfl ⟨rfl, rfl, rfl, rfl, rfl, rfl, trivial⟩
  rintro ⟨k, b1⟩ ⟨i1, i2, i3⟩
  dsimp only at i1 i2 i3 ⊢
  refine vcOk _ ?_
  (all_goals refine qgp ?_ <;> (repeat' first | exact trivial | intro hc | refine And.intro ?_ ?_) <;> refine Lf.mk ?_)
  ·obtain ⟨o, ho⟩ := at_of_lt (l := l) (k := k) (by omega)
   have hkl : k < l.length := by omega
   have hget : l[k] = o := by rw [List.getElem?_eq_getElem hkl] at ho; exact Option.some.inj ho
   rw [List.drop_eq_getElem_cons hkl, hget, List.foldl_cons] at i2
   have hit := datB_items size line b1 o
   refine ix_map o (by omega) (by simpa using ho) ?_
   (all_goals refine qgp (Lf.mk ?_))
   refine shl_lit (s := s) (m := m) hz1 (by omega) hz3 (by omega) (by omega) ?_
   (all_goals refine qgp (Lf.mk ?_))
   refine shl_lit (s := s + 1) (m := m * 2) (by omega) (by omega) hz4 (by omega) (by omega) ?_
   (all_goals refine qgp ?_ <;> (repeat' first | exact trivial | intro hc | refine And.intro ?_ ?_) <;> refine Lf.mk ?_)
   all_goals first
    | (exfalso; exact absurd (by assumption : o.val.name = []) (by assumption))
    | skip
   ·have hd : datB size line b1 o = putB (failB b1 2 line) ⟨7, 0, line, noI, false, size, o.val, 0, 0⟩ := by unfold datB; rw [if_pos hc]
    rw [hd] at i2 hit
    refine call_fail q b1 2 line [_] rfl rfl ?_
    (all_goals refine qgp (Lf.mk ?_))
    refine call_put q (failB b1 2 line) ⟨7, 0, line, noI, false, size, o.val, 0, 0⟩ [_] (by rw [failB_items]; omega) rfl item_le ?_
    (all_goals refine qgp (Lf.mk ?_))
    exact loop_pre (k + 1, putB (failB b1 2 line) ⟨7, 0, line, noI, false, size, o.val, 0, 0⟩) [_] ⟨by show k + 1 ≤ _; omega, i2, by dsimp only; rw [hit]; omega⟩ (by dsimp only; omega) rfl (by rw [hE6]; exact Nat.le_refl 6) (bO_cl _ _) ⟨rfl, rfl, rfl, rfl, rfl, rfl, trivial⟩
     (.cons (.loc (Nat.lt_of_lt_of_le (by decide : 0 < 6) (Nat.le_of_eq rfl))) (.cons .int (.cons .int (.cons .sl (.cons .int (.cons .int .nil))))))
   ·have hd : datB size line b1 o = putB (failB b1 8 line) ⟨7, 0, line, noI, false, size, o.val, 0, 0⟩ := by unfold datB; rw [if_neg (fun h => h (by assumption)), if_pos ⟨by assumption, hc⟩]
    rw [hd] at i2 hit
    refine call_fail q b1 8 line [_] rfl rfl ?_
    (all_goals refine qgp (Lf.mk ?_))
    refine call_put q (failB b1 8 line) ⟨7, 0, line, noI, false, size, o.val, 0, 0⟩ [_] (by rw [failB_items]; omega) rfl item_le ?_
    (all_goals refine qgp (Lf.mk ?_))
    exact loop_pre (k + 1, putB (failB b1 8 line) ⟨7, 0, line, noI, false, size, o.val, 0, 0⟩) [_] ⟨by show k + 1 ≤ _; omega, i2, by dsimp only; rw [hit]; omega⟩ (by dsimp only; omega) rfl (by rw [hE6]; exact Nat.le_refl 6) (bO_cl _ _) ⟨rfl, rfl, rfl, rfl, rfl, rfl, trivial⟩
     (.cons (.loc (Nat.lt_of_lt_of_le (by decide : 0 < 6) (Nat.le_of_eq rfl))) (.cons .int (.cons .int (.cons .sl (.cons .int (.cons .int .nil))))))
   ·have hd : datB size line b1 o = putB b1 ⟨7, 0, line, noI, false, size, o.val, 0, 0⟩ := by unfold datB; rw [if_neg (fun h => h (by assumption)), if_neg (fun h => absurd h.2 (by assumption)), if_neg (fun h => absurd h.1 (by assumption))]
    rw [hd] at i2 hit
    refine call_put q b1 ⟨7, 0, line, noI, false, size, o.val, 0, 0⟩ [_] (by omega) rfl item_le ?_
    (all_goals refine qgp (Lf.mk ?_))
    exact loop_pre (k + 1, putB b1 ⟨7, 0, line, noI, false, size, o.val, 0, 0⟩) [_] ⟨by show k + 1 ≤ _; omega, i2, by dsimp only; rw [hit]; omega⟩ (by dsimp only; omega) rfl (by rw [hE6]; exact Nat.le_refl 6) (bO_cl _ _) ⟨rfl, rfl, rfl, rfl, rfl, rfl, trivial⟩
     (.cons (.loc (Nat.lt_of_lt_of_le (by decide : 0 < 6) (Nat.le_of_eq rfl))) (.cons .int (.cons .int (.cons .sl (.cons .int (.cons .int .nil))))))
   ·have hd : datB size line b1 o = putB (failB b1 3 line) ⟨7, 0, line, noI, false, size, o.val, 0, 0⟩ := by unfold datB; rw [if_neg (fun h => h (by assumption)), if_neg (fun h => absurd (by assumption) h.1), if_pos ⟨by assumption, .inl (by rw [hz7]; omega)⟩]
    rw [hd] at i2 hit
    refine call_fail q b1 3 line [_] rfl rfl ?_
    (all_goals refine qgp (Lf.mk ?_))
    refine call_put q (failB b1 3 line) ⟨7, 0, line, noI, false, size, o.val, 0, 0⟩ [_] (by rw [failB_items]; omega) rfl item_le ?_
    (all_goals refine qgp (Lf.mk ?_))
    exact loop_pre (k + 1, putB (failB b1 3 line) ⟨7, 0, line, noI, false, size, o.val, 0, 0⟩) [_] ⟨by show k + 1 ≤ _; omega, i2, by dsimp only; rw [hit]; omega⟩ (by dsimp only; omega) rfl (by rw [hE6]; exact Nat.le_refl 6) (bO_cl _ _) ⟨rfl, rfl, rfl, rfl, rfl, rfl, trivial⟩
     (.cons (.loc (Nat.lt_of_lt_of_le (by decide : 0 < 6) (Nat.le_of_eq rfl))) (.cons .int (.cons .int (.cons .sl (.cons .int (.cons .int .nil))))))
   ·have hd : datB size line b1 o = putB (failB b1 3 line) ⟨7, 0, line, noI, false, size, o.val, 0, 0⟩ := by unfold datB; rw [if_neg (fun h => h (by assumption)), if_neg (fun h => absurd (by assumption) h.1), if_pos ⟨by assumption, .inr (by rw [hz8]; omega)⟩]
    rw [hd] at i2 hit
    refine call_fail q b1 3 line [_] rfl rfl ?_
    (all_goals refine qgp (Lf.mk ?_))
    refine call_put q (failB b1 3 line) ⟨7, 0, line, noI, false, size, o.val, 0, 0⟩ [_] (by rw [failB_items]; omega) rfl item_le ?_
    (all_goals refine qgp (Lf.mk ?_))
    exact loop_pre (k + 1, putB (failB b1 3 line) ⟨7, 0, line, noI, false, size, o.val, 0, 0⟩) [_] ⟨by show k + 1 ≤ _; omega, i2, by dsimp only; rw [hit]; omega⟩ (by dsimp only; omega) rfl (by rw [hE6]; exact Nat.le_refl 6) (bO_cl _ _) ⟨rfl, rfl, rfl, rfl, rfl, rfl, trivial⟩
     (.cons (.loc (Nat.lt_of_lt_of_le (by decide : 0 < 6) (Nat.le_of_eq rfl))) (.cons .int (.cons .int (.cons .sl (.cons .int (.cons .int .nil))))))
   ·have hd : datB size line b1 o = putB b1 ⟨7, 0, line, noI, false, size, o.val, 0, 0⟩ := by unfold datB; rw [if_neg (fun h => h (by assumption)), if_neg (fun h => absurd (by assumption) h.1), if_neg (fun h => by rw [hz7, hz8] at h; omega)]
    rw [hd] at i2 hit
    refine call_put q b1 ⟨7, 0, line, noI, false, size, o.val, 0, 0⟩ [_] (by omega) rfl item_le ?_
    (all_goals refine qgp (Lf.mk ?_))
    exact loop_pre (k + 1, putB b1 ⟨7, 0, line, noI, false, size, o.val, 0, 0⟩) [_] ⟨by show k + 1 ≤ _; omega, i2, by dsimp only; rw [hit]; omega⟩ (by dsimp only; omega) rfl (by rw [hE6]; exact Nat.le_refl 6) (bO_cl _ _) ⟨rfl, rfl, rfl, rfl, rfl, rfl, trivial⟩
     (.cons (.loc (Nat.lt_of_lt_of_le (by decide : 0 < 6) (Nat.le_of_eq rfl))) (.cons .int (.cons .int (.cons .sl (.cons .int (.cons .int .nil))))))
  ·have hk : k = l.length := by omega
   subst hk
   rw [List.drop_length] at i2
   exact end_bO [] rfl (by rw [hT]; exact i2) rfl (Nat.le_of_eq rfl) .tup0
theorem shut_els (a : List (List OVal)) (c : List OVal) : ∀ (i : Nat) d d', (a.map shutD ++ [.sl 2 (c.map valD) (some 5)])[i]? = some d → ((a ++ [c]).map shutD)[i]? = some d' → LeL d.cells d'.cells := by
 intro i d d' h1 h2
 rw [List.map_append] at h2
 rcases Nat.lt_or_ge i (a.map shutD).length with h | h
 ·rw [List.getElem?_append_left h] at h1 h2
  rw [h1] at h2
  cases h2
  exact LeL.refl _
 ·rw [List.getElem?_append_right h] at h1 h2
  cases hi : i - (a.map shutD).length with
  | zero =>
   rw [hi] at h1 h2
   cases h1
   cases h2
   exact .cons (.strip _ _ _) .nil
  | succ j => rw [hi] at h1; simp at h1
theorem apool_meets : Meets Tryz.prog n_asm_builder_pool (SpecF (fun ((b, _, _) : Bld × Int × List OEqu) => b.items.length ≤ 1000000 ∧ b.shut.length ≤ 1000000) (fun (_, line, _) => [.loc 0 0, .int .i64 line])
  (fun (b, _, q) => bO q b) (fun _ => .tup []) fun (b, line, q) => bO q (poolB b line)) := by
 refine meets_f tabOk Tryz.func38 rfl (by decide) ?_
 rintro ⟨⟨items, syms, marks, shut, has, cur, fe, fa⟩, line, q⟩ ⟨hl, hp⟩
 have hl : items.length ≤ 1000000 := hl
 have hp : shut.length ≤ 1000000 := hp
 refine ⟨Nat.le_refl _, by simp [Tryz.f38], fun E hE => ?_⟩
 cases has with
 | false =>
  have hlen : (poolsD ⟨items, syms, marks, shut, false, cur, fe, fa⟩).length = shut.length := by unfold poolsD; simp
  refine vcOk _ ?_
  (all_goals refine qgp ?_ <;> (repeat' first | exact trivial | intro hc | refine And.intro ?_ ?_) <;> refine Lf.mk ?_)
  exact end_bO (b' := ⟨items, syms, marks, shut, false, cur, fe, fa⟩) [] rfl rfl rfl (Nat.le_of_eq rfl) .tup0
 | true =>
  have hlen : (poolsD ⟨items, syms, marks, shut, true, cur, fe, fa⟩).length = shut.length + 1 := by unfold poolsD; simp
  refine vcOk _ ?_
  (all_goals refine qgp ?_ <;> (repeat' first | exact trivial | intro hc | refine And.intro ?_ ?_) <;> refine Lf.mk ?_)
  refine call_put q ⟨items, syms, marks, shut, true, cur, fe, fa⟩ ⟨9, 0, line, noI, false, 0, noV, shut.length, 0⟩ [] hl rfl item_le ?_
  (all_goals refine qgp (Lf.mk ?_))
  refine ar_i64 (by show (-9223372036854775808 : Int) ≤ (shut.length : Int) + 1; omega) (by show (shut.length : Int) + 1 ≤ 9223372036854775807; omega) ?_
  (all_goals refine qgp (Lf.mk ?_))
  refine end_els (k := 4) (e := 1) (ds := shut.map shutD ++ [.sl 2 (cur.map valD) (some 5)]) ((shut ++ [cur]).map shutD) rfl (by simp) (shut_els shut cur) ?_ (Nat.le_of_eq rfl)
  refine end_dead (k := 5) (Nat.le_of_eq rfl) ?_ (Nat.le_of_eq rfl)
  refine end_eq rfl ?_
  show [Ob.cells _, _, _, _, _, _] = bO q ⟨items ++ [⟨9, 0, line, noI, false, 0, noV, shut.length, 0⟩], syms, marks, shut ++ [cur], false, [], fe, fa⟩
  unfold bO bC bT curO poolsD putB
  simp
theorem aindex_meets : Meets Tryz.prog n_slices_Index_api_Value_api_Value (SpecP (fun ((l, _) : List OVal × OVal) => l.length ≤ 1000000000) (fun (l, x) => [.sl 2 (l.map valD) none, valD x]) fun (l, x) => .int .i64 (idxV x l 0)) := by
 refine meets_f tabOk Tryz.func176 rfl (by decide) ?_
 rintro ⟨l, x⟩ hl
 have hl : l.length ≤ 1000000000 := hl
 refine ⟨Nat.le_refl _, by simp [Tryz.f176], fun E hE => ?_⟩
 refine vcOk _ ?_
 (all_goals refine qgo (Lf.mk ?_))
 refine awp_loopW (α := Nat) (fun k => k ≤ l.length ∧ idxV x l 0 = idxV x (l.drop k) k)
  (fun k => [(7, .int .i64 l.length), (8, .int .i64 k), (0, .sl 2 (l.map valD) none), (3, .loc 0 0)])
  (fun _ => [.cells [.str x.name, .int .i64 x.n]]) (fun k => l.length - k) (fun _ => by rw [hE]; exact Nat.zero_le _) 0 ⟨Nat.zero_le _, by simp⟩ ?_ ?_
 ·exact weak_same rfl ⟨rfl, rfl, rfl, rfl, trivial⟩
 rintro k ⟨hk, hf⟩
 refine vcOk _ ?_
 (all_goals refine qgo ?_ <;> (repeat' first | exact trivial | intro hc | refine And.intro ?_ ?_) <;> refine Lf.mk ?_)
 ·obtain ⟨s, hsk⟩ := at_of_lt (l := l) (k := k) (by omega)
  have hkl : k < l.length := by omega
  have hget : l[k] = s := by rw [List.getElem?_eq_getElem hkl] at hsk; exact Option.some.inj hsk
  rw [List.drop_eq_getElem_cons hkl, hget, idxV] at hf
  refine ix_map s (by omega) (by simpa using hsk) ?_
  (all_goals refine qgo (Lf.mk ?_))
  refine eqS_flat [.str, .int .i64] (by kernel_rfl) rfl ?_
  cases hb : (x.name == s.name && (x.n == s.n && true)) with
  | true =>
   rw [Bool.and_true, Bool.and_eq_true, beq_iff_eq, beq_iff_eq] at hb
   rw [if_pos ⟨hb.1.symm, hb.2.symm⟩] at hf
   (all_goals refine qgo ?_ <;> (repeat' first | exact trivial | intro hc | refine And.intro ?_ ?_) <;> refine Lf.mk ?_)
   (any_goals (first | (exfalso; refine Bool.false_ne_true ?_; assumption) | (exfalso; refine Bool.false_ne_true (Eq.symm ?_); assumption) | (exfalso; refine absurd trivial ?_; assumption) | skip))
   exact end_p (VS.mk (LeD.of_eq (congrArg (D.int .i64) hf.symm)))
  | false =>
   have hne : ¬ (s.name = x.name ∧ s.n = x.n) := fun h => by rw [h.1, h.2] at hb; simp at hb
   rw [if_neg hne] at hf
   (all_goals refine qgo ?_ <;> (repeat' first | exact trivial | intro hc | refine And.intro ?_ ?_) <;> refine Lf.mk ?_)
   (any_goals (first | (exfalso; refine Bool.false_ne_true ?_; assumption) | (exfalso; refine Bool.false_ne_true (Eq.symm ?_); assumption) | (exfalso; refine absurd trivial ?_; assumption) | skip))
   exact loop_same (k + 1) ⟨by omega, hf⟩ (by omega) rfl ⟨rfl, rfl, rfl, rfl, trivial⟩
 ·rw [List.drop_of_length_le (by omega), idxV] at hf
  exact end_p (VS.mk (LeD.of_eq (congrArg (D.int .i64) hf.symm)))
theorem slot_old {v : OVal} {l : List OVal} (h : ¬ idxV v l 0 < 0) : slotV v l = idxV v l 0 ∧ withV v l = l := by unfold slotV withV; rw [if_neg h, if_neg h]; exact ⟨rfl, rfl⟩
theorem slot_new {v : OVal} {l : List OVal} (h : idxV v l 0 < 0) : slotV v l = l.length ∧ withV v l = l ++ [v] := by unfold slotV withV; rw [if_pos h, if_pos h]; exact ⟨rfl, rfl⟩
attribute [local irreducible] idxV slotV withV
theorem alit_open : Meets Tryz.prog n_asm_builder_literal (SpecF (fun ((b, _, _, _, _) : Bld × OVal × Int × Int × List OEqu) => b.has = true ∧ b.items.length ≤ 1000000 ∧ b.shut.length ≤ 1000000 ∧ b.cur.length ≤ 1000000) (fun (_, v, reg, line, _) => [.loc 0 0, valD v, .int .i64 reg, .int .i64 line])
  (fun (b, _, _, _, q) => bO q b) (fun _ => .tup []) fun (b, v, reg, line, q) => bO q (litB b v reg line)) := by
 refine meets_f tabOk Tryz.func128 rfl (by decide) ?_
 rintro ⟨⟨items, syms, marks, shut, has, cur, fe, fa⟩, v, reg, line, q⟩ ⟨hh, hl, hp, hcu⟩
 have hh : has = true := hh
 subst hh
 have hl : items.length ≤ 1000000 := hl
 have hp : shut.length ≤ 1000000 := hp
 have hcu : cur.length ≤ 1000000 := hcu
 have hlen : (poolsD ⟨items, syms, marks, shut, true, cur, fe, fa⟩).length = shut.length + 1 := by unfold poolsD; simp
 refine ⟨Nat.le_refl _, by simp [Tryz.f128], fun E hE => ?_⟩
 refine vcOk _ ?_
 (all_goals refine qgp ?_ <;> (repeat' first | exact trivial | intro hc | refine And.intro ?_ ?_) <;> refine Lf.mk ?_)
 have hget : (poolsD ⟨items, syms, marks, shut, true, cur, fe, fa⟩)[shut.length]? = some (.sl 2 (cur.map valD) (some 5)) := by
  show (shut.map shutD ++ [.sl 2 (cur.map valD) (some 5)])[shut.length]? = _
  simp
 refine ix_rfl (d := .sl 2 (cur.map valD) (some 5)) (Int.natCast_nonneg _) (by simpa using hget) ?_
 (all_goals refine qgp (Lf.mk ?_))
 refine call_p aindex_meets (cur, v) (by show cur.length ≤ _; omega) (VS.mk (LeL.of_eq rfl)) ?_
 by_cases hi : idxV v cur 0 < 0
 ·obtain ⟨s1, s2⟩ := slot_new hi
  (all_goals refine qgk ?_ <;> (repeat' first | exact trivial | intro hc | refine And.intro ?_ ?_) <;> refine Lf.mk ?_)
  ·refine ix_rfl (d := .sl 2 (cur.map valD) (some 5)) (Int.natCast_nonneg _) (by simpa using hget) ?_
   (all_goals refine qgk (Lf.mk ?_))
   refine ix_rfl (d := .sl 2 (cur.map valD) (some 5)) (Int.natCast_nonneg _) (by simpa using hget) ?_
   (all_goals refine qgk (Lf.mk ?_))
   refine norm_eq ((cur ++ [v]).map valD) (by rw [List.map_append]; rfl) ?_
   rw [List.length_map]
   (all_goals refine qgk (Lf.mk ?_))
   refine ix_rfl (d := .sl 2 (cur.map valD) (some 5)) (Int.natCast_nonneg _) (by simpa using hget) ?_
   (all_goals refine qgp (Lf.mk ?_))
   have hset : (poolsD ⟨items, syms, marks, shut, true, cur, fe, fa⟩).set (0 + ((shut.length : Nat) : Int).toNat) (.sl 2 ((cur ++ [v]).map valD) (some 5)) = poolsD ⟨items, syms, marks, shut, true, cur ++ [v], fe, fa⟩ := by
    show (shut.map shutD ++ [D.sl 2 (cur.map valD) (some 5)]).set _ _ = shut.map shutD ++ [D.sl 2 ((cur ++ [v]).map valD) (some 5)]
    rw [Nat.zero_add, Int.toNat_natCast, List.set_append_right _ _ (by simp)]
    simp
   have hbC : bC q ⟨items, syms, marks, shut, true, cur, fe, fa⟩ = bC q ⟨items, syms, marks, shut, true, cur ++ [v], fe, fa⟩ := by
    unfold bC
    rw [hlen, show (poolsD ⟨items, syms, marks, shut, true, cur ++ [v], fe, fa⟩).length = shut.length + 1 by unfold poolsD; simp]
   refine call_put q ⟨items, syms, marks, shut, true, cur ++ [v], fe, fa⟩ ⟨6, 0, line, ⟨24, reg, 0, 0⟩, false, 0, noV, shut.length, cur.length⟩ [.cells [.str v.name, .int .i64 v.n]] hl ?_ item_le ?_
   ·show Ob.cells (bC q _) :: Ob.arr 13 (items.map itemD) :: Ob.arr 2 (syms.map symD) :: Ob.spare marks.length :: Ob.arr 1 (List.set _ _ _) :: Ob.spare (cur ++ [v]).length :: [Ob.cells [.str v.name, .int .i64 v.n]] = _
    rw [hbC]
    exact congrArg (fun x => Ob.cells (bC q ⟨items, syms, marks, shut, true, cur ++ [v], fe, fa⟩) :: [Ob.arr 13 (items.map itemD), Ob.arr 2 (syms.map symD), Ob.spare marks.length, Ob.arr 1 x, Ob.spare (cur ++ [v]).length, Ob.cells [.str v.name, .int .i64 v.n]]) hset
   (all_goals refine qgp (Lf.mk ?_))
   refine end_bO [_] rfl ?_ rfl (Nat.le_of_eq rfl) .tup0
   unfold litB
   rw [s1, s2]
  ·exact absurd hi hc
 ·obtain ⟨s1, s2⟩ := slot_old hi
  (all_goals refine qgp ?_ <;> (repeat' first | exact trivial | intro hc | refine And.intro ?_ ?_) <;> refine Lf.mk ?_)
  refine call_put q ⟨items, syms, marks, shut, true, cur, fe, fa⟩ ⟨6, 0, line, ⟨24, reg, 0, 0⟩, false, 0, noV, shut.length, idxV v cur 0⟩ [_] hl rfl item_le ?_
  (all_goals refine qgp (Lf.mk ?_))
  refine end_bO [_] rfl ?_ rfl (Nat.le_of_eq rfl) .tup0
  unfold litB
  rw [s1, s2]
end Go.Proofs.YthmdddenbfbefaaGreatDoor
namespace Go.Proofs.YthmdddenbfbefaaGreatDoor
open Go Go.Plat
set_option linter.unusedVariables false
set_option linter.unusedSimpArgs false
set_option maxRecDepth 100000
set_option maxHeartbeats 2000000
attribute [local irreducible] AWP Arith BitS BytesS CallS CatS DrawS EndS IdxS LookS LoopEnd Meets ModeS NilS NormL NormM QuoS RemS ShlS ShrS SideS SplitS bitI
def w64 (n : Int) : Int := IntKind.i64.wrap n
def upA (n of : Int) : Int := (n + of - 1) / of * of
def poolLen (pools : List (List OVal)) (k : Int) : Int := ((pools[k.toNat]?).getD []).length
def sizeA (pools : List (List OVal)) (x : AItem) (a : Int) : Int :=
 if x.kind = 2 ∧ x.long = true then 6 else if x.kind = 7 then x.size else if x.kind = 8 then upA a x.size - a else if x.kind = 9 then upA a 4 - a + 4 * poolLen pools x.pool else 2
def placeI (pools : List (List OVal)) : List AItem → Int → List AItem × Int
 | [], a => ([], a)
 | x :: l, a => ({ x with at_ := a } :: (placeI pools l (a + sizeA pools x a)).1, (placeI pools l (a + sizeA pools x a)).2)
def itA (items : List AItem) (k : Int) : AItem := (items[k.toNat]?).getD ⟨0, 0, 0, noI, false, 0, noV, 0, 0⟩
def markAt (items : List AItem) (e m : Int) : Int := if m < items.length then (itA items m).at_ else e
def placeS (items : List AItem) (e : Int) : List OSym → List Int → List OSym
 | s :: ss, m :: ms => ⟨s.name, markAt items e m⟩ :: placeS items e ss ms
 | ss, _ => ss
def posF {α : Type} (p : α → Bool) : List α → Nat → Int
 | [], _ => -1
 | x :: l, k => if p x = true then k else posF p l (k + 1)
def idxN (n : List UInt8) (l : List OSym) (k : Nat) : Int := posF (fun s => s.name == n) l k
def symA (syms : List OSym) (k : Int) : OSym := (syms[k.toNat]?).getD ⟨[], 0⟩
def targetA (syms : List OSym) (v : OVal) : Int × Int :=
 if v.name = [] then (0, 8) else if idxN v.name syms 0 < 0 then (0, 6) else (w64 ((symA syms (idxN v.name syms 0)).at_ + v.n), 0)
def shapeI (op : Int) : Int := match infoR op with | some r => r.shape | none => 0
def fromA (op a : Int) : Int := if op = 24 then a + 4 - (a + 4) % 4 else a + 4
def ofA (op : Int) : Int := if op = 24 then 4 else 2
def farA (op a to : Int) : Int := w64 ((w64 (to - fromA op a)).tdiv (ofA op))
def awayA (op a to : Int) : Int × Int :=
 if (w64 (to - fromA op a)).tmod (ofA op) ≠ 0 then (0, 11)
 else if farA op a to < lowI (shapeI op) ∨ highI (shapeI op) < farA op a to then (farA op a to, 3) else (farA op a to, 0)
def mustL (syms : List OSym) (x : AItem) : Bool := decide (x.kind = 2 ∧ x.long = false ∧ (targetA syms x.val).2 = 0 ∧ (awayA x.ins.op x.at_ (targetA syms x.val).1).2 = 3)
def growI (syms : List OSym) (x : AItem) : AItem := if mustL syms x = true then { x with long := true } else x
structure Lay where
 items : List AItem
 syms : List OSym
def placeL (pools : List (List OVal)) (marks : List Int) (s : Lay) : Lay × Int :=
 (⟨(placeI pools s.items 0).1, placeS (placeI pools s.items 0).1 (placeI pools s.items 0).2 s.syms marks⟩, (placeI pools s.items 0).2)
def relaxF (pools : List (List OVal)) (marks : List Int) : Nat → Lay → Lay × Int
 | 0, s => (s, 0)
 | f + 1, s => if ((placeL pools marks s).1.items.any (mustL (placeL pools marks s).1.syms)) = false ∨ 8000 < (placeL pools marks s).2
   then (⟨(placeL pools marks s).1.items.map (growI (placeL pools marks s).1.syms), (placeL pools marks s).1.syms⟩, (placeL pools marks s).2)
   else relaxF pools marks f ⟨(placeL pools marks s).1.items.map (growI (placeL pools marks s).1.syms), (placeL pools marks s).1.syms⟩
def shortN (l : List AItem) : Nat := (l.filter fun x => decide (x.kind = 2 ∧ x.long = false)).length
def relaxL (pools : List (List OVal)) (marks : List Int) (s : Lay) : Lay × Int := relaxF pools marks (shortN s.items + 1) s
structure Out where
 code : List UInt8
 rels : List ORel
 fe : Int
 fa : Int
def failE (o : Out) (e line : Int) : Out := if o.fe = 0 then ⟨o.code, o.rels, e, line⟩ else o
def halfE (o : Out) (i : Ins) (line : Int) : Out := if wrongI i = 0 then ⟨o.code ++ [lowByte (encV i / 256), lowByte (encV i)], o.rels, o.fe, o.fa⟩ else failE o (wrongI i) line
def leadE (o : Out) (i : Ins) (a to line : Int) : Out := if (awayA i.op a to).2 = 0 then halfE o ⟨i.op, i.n, i.m, (awayA i.op a to).1⟩ line else failE o (awayA i.op a to).2 line
def nearE (o : Out) (x : AItem) (to : Int) : Out :=
 if x.long = false then leadE o x.ins x.at_ to x.line else halfE (leadE (halfE o ⟨w64 (35 - x.ins.op), 0, 0, 1⟩ x.line) ⟨19, 0, 0, 0⟩ (x.at_ + 2) to x.line) ⟨1, 0, 0, 0⟩ x.line
def relE (syms : List OSym) (at_ size : Int) (v : OVal) : ORel := if (targetA syms v).2 = 0 then ⟨at_, size, [], signedI (targetA syms v).1 32⟩ else ⟨at_, size, v.name, v.n⟩
def wordE (syms : List OSym) (o : Out) (v : OVal) (size : Nat) : Out :=
 if v.name = [] then ⟨putN (o.code ++ List.replicate size 0) o.code.length size v.n, o.rels, o.fe, o.fa⟩
 else ⟨o.code ++ List.replicate size 0, o.rels ++ [relE syms o.code.length size v], o.fe, o.fa⟩
def fillE (o : Out) (to : Int) : Out := ⟨o.code ++ List.replicate (to - o.code.length).toNat 0, o.rels, o.fe, o.fa⟩
def idxP (p : Int) (l : List AItem) (k : Nat) : Int := posF (fun y => y.kind == 9 && y.pool == p) l k
def emitE (pools : List (List OVal)) (items : List AItem) (syms : List OSym) (o : Out) (x : AItem) : Out :=
 if x.kind = 7 then (if x.at_ % x.size ≠ 0 then failE o 11 x.line else wordE syms o x.val x.size.toNat)
 else if x.kind = 8 then fillE o (upA x.at_ x.size)
 else if x.kind = 9 then ((pools[x.pool.toNat]?).getD []).foldl (fun o v => wordE syms o v 4) (fillE o (upA x.at_ 4))
 else if x.at_ % 2 ≠ 0 then failE o 11 x.line
 else if x.kind = 1 then halfE o x.ins x.line
 else if x.kind = 6 then leadE o x.ins x.at_ (upA (itA items (idxP x.pool items 0)).at_ 4 + 4 * x.idx) x.line
 else if (targetA syms x.val).2 ≠ 0 then failE o (targetA syms x.val).2 x.line
 else if x.kind = 2 then nearE o x (targetA syms x.val).1
 else leadE o x.ins x.at_ (targetA syms x.val).1 x.line
def emitAll (pools : List (List OVal)) (items : List AItem) (syms : List OSym) (o : Out) : Out := items.foldl (fun o x => if o.fe = 0 then emitE pools items syms o x else o) o
theorem posF_bound {α : Type} (p : α → Bool) : ∀ (l : List α) (k : Nat), posF p l k = -1 ∨ ∃ j : Nat, j < l.length ∧ posF p l k = ((k + j : Nat) : Int)
 | [], _ => .inl rfl
 | x :: l, k => by
  rw [posF]
  split
  ·exact .inr ⟨0, by simp, rfl⟩
  ·rcases posF_bound p l (k + 1) with h | ⟨j, h1, h2⟩
   ·exact .inl h
   ·exact .inr ⟨j + 1, by simp; omega, by rw [h2, Nat.add_right_comm, Nat.add_assoc]⟩
theorem idx_syms {av : List D} {L : List Ob} {KP : D → Prop} {KW : D → List Ob → Prop} (g : Nat) (caps : List D) (p : OSym → Bool) (l : List OSym) (c0 c1 : Ob) (R : List Ob) (hl : l.length ≤ 1000000000)
  (hL : L = c0 :: c1 :: .arr 2 (l.map symD) :: R) (has : av = [.osl 2 2 l.length 0 l.length, .fn g caps])
  (hg : ∀ s ∈ l, ∀ (KP : D → Prop) (KW : D → List Ob → Prop), KW (.bool (p s)) L → CallS Tryz.prog g (symD s :: caps) L KP KW)
  (hK : KW (.int .i64 (posF p l 0)) L) : CallS Tryz.prog n_slices_IndexFunc_api_Sym_api_Sym av L KP KW := by
 subst has
 refine call_inline tabOk Tryz.func133 rfl (by decide) (.int .i64 (posF p l 0)) L (Nat.le_refl _) (by simp [Tryz.f133]) (fun E hE => ?_) hK
 have hE0 : E.L.length = L.length := by rw [hE]
 subst hL
 refine vcOk _ ?_
 (all_goals refine qgo (Lf.mk ?_))
 refine awp_loopW (α := Nat) (fun k => k ≤ l.length ∧ posF p l 0 = posF p (l.drop k) k)
  (fun k => [(0, .osl 2 2 l.length 0 l.length), (1, .fn g caps), (7, .int .i64 l.length), (8, .int .i64 k)]) (fun _ => c0 :: c1 :: .arr 2 (l.map symD) :: R) (fun k => l.length - k) (fun _ => by rw [hE0]; exact Nat.le_refl _) 0 ⟨Nat.zero_le _, by simp⟩ ?_ ?_
 ·exact weak_same rfl ⟨rfl, rfl, rfl, rfl, trivial⟩
 rintro k ⟨hk, hf⟩
 refine vcOk _ ?_
 (all_goals refine qgp ?_ <;> (repeat' first | exact trivial | intro hc | refine And.intro ?_ ?_) <;> refine Lf.mk ?_)
 ·obtain ⟨s, hsk⟩ := at_of_lt (l := l) (k := k) (by omega)
  have hkl : k < l.length := by omega
  have hget : l[k] = s := by rw [List.getElem?_eq_getElem hkl] at hsk; exact Option.some.inj hsk
  rw [List.drop_eq_getElem_cons hkl, hget, posF] at hf
  refine ix_map s (by omega) (by simpa using hsk) ?_
  (all_goals refine qgp (Lf.mk ?_))
  refine hg s (List.mem_of_getElem? hsk) _ _ ?_
  cases hb : p s with
  | true =>
   rw [hb, if_pos rfl] at hf
   (all_goals refine qgp ?_ <;> (repeat' first | exact trivial | intro hc | refine And.intro ?_ ?_) <;> refine Lf.mk ?_)
   (any_goals (first | (exfalso; refine Bool.false_ne_true ?_; assumption) | (exfalso; refine Bool.false_ne_true (Eq.symm ?_); assumption) | (exfalso; refine absurd trivial ?_; assumption) | skip))
   exact end_eq (by rw [hf]; rfl) rfl
  | false =>
   rw [hb, if_neg (by decide)] at hf
   (all_goals refine qgp ?_ <;> (repeat' first | exact trivial | intro hc | refine And.intro ?_ ?_) <;> refine Lf.mk ?_)
   (any_goals (first | (exfalso; refine Bool.false_ne_true ?_; assumption) | (exfalso; refine Bool.false_ne_true (Eq.symm ?_); assumption) | (exfalso; refine absurd trivial ?_; assumption) | skip))
   exact loop_same (k + 1) ⟨by omega, hf⟩ (by omega) rfl ⟨rfl, rfl, rfl, rfl, trivial⟩
 ·rw [List.drop_of_length_le (by omega), posF] at hf
  exact end_eq (by rw [hf]; rfl) rfl
theorem idx_items {av : List D} {L : List Ob} {KP : D → Prop} {KW : D → List Ob → Prop} (g : Nat) (caps : List D) (p : AItem → Bool) (l : List AItem) (c0 : Ob) (R : List Ob) (hl : l.length ≤ 1000000000)
  (hL : L = c0 :: .arr 13 (l.map itemD) :: R) (has : av = [.osl 13 1 l.length 0 l.length, .fn g caps])
  (hg : ∀ s ∈ l, ∀ (KP : D → Prop) (KW : D → List Ob → Prop), KW (.bool (p s)) L → CallS Tryz.prog g (itemD s :: caps) L KP KW)
  (hK : KW (.int .i64 (posF p l 0)) L) : CallS Tryz.prog n_slices_IndexFunc_asm_item_asm_item av L KP KW := by
 subst has
 refine call_inline tabOk Tryz.func76 rfl (by decide) (.int .i64 (posF p l 0)) L (Nat.le_refl _) (by simp [Tryz.f76]) (fun E hE => ?_) hK
 have hE0 : E.L.length = L.length := by rw [hE]
 subst hL
 refine vcOk _ ?_
 (all_goals refine qgo (Lf.mk ?_))
 refine awp_loopW (α := Nat) (fun k => k ≤ l.length ∧ posF p l 0 = posF p (l.drop k) k)
  (fun k => [(0, .osl 13 1 l.length 0 l.length), (1, .fn g caps), (7, .int .i64 l.length), (8, .int .i64 k)]) (fun _ => c0 :: .arr 13 (l.map itemD) :: R) (fun k => l.length - k) (fun _ => by rw [hE0]; exact Nat.le_refl _) 0 ⟨Nat.zero_le _, by simp⟩ ?_ ?_
 ·exact weak_same rfl ⟨rfl, rfl, rfl, rfl, trivial⟩
 rintro k ⟨hk, hf⟩
 refine vcOk _ ?_
 (all_goals refine qgp ?_ <;> (repeat' first | exact trivial | intro hc | refine And.intro ?_ ?_) <;> refine Lf.mk ?_)
 ·obtain ⟨s, hsk⟩ := at_of_lt (l := l) (k := k) (by omega)
  have hkl : k < l.length := by omega
  have hget : l[k] = s := by rw [List.getElem?_eq_getElem hkl] at hsk; exact Option.some.inj hsk
  rw [List.drop_eq_getElem_cons hkl, hget, posF] at hf
  refine ix_map s (by omega) (by simpa using hsk) ?_
  (all_goals refine qgp (Lf.mk ?_))
  refine hg s (List.mem_of_getElem? hsk) _ _ ?_
  cases hb : p s with
  | true =>
   rw [hb, if_pos rfl] at hf
   (all_goals refine qgp ?_ <;> (repeat' first | exact trivial | intro hc | refine And.intro ?_ ?_) <;> refine Lf.mk ?_)
   (any_goals (first | (exfalso; refine Bool.false_ne_true ?_; assumption) | (exfalso; refine Bool.false_ne_true (Eq.symm ?_); assumption) | (exfalso; refine absurd trivial ?_; assumption) | skip))
   exact end_eq (by rw [hf]; rfl) rfl
  | false =>
   rw [hb, if_neg (by decide)] at hf
   (all_goals refine qgp ?_ <;> (repeat' first | exact trivial | intro hc | refine And.intro ?_ ?_) <;> refine Lf.mk ?_)
   (any_goals (first | (exfalso; refine Bool.false_ne_true ?_; assumption) | (exfalso; refine Bool.false_ne_true (Eq.symm ?_); assumption) | (exfalso; refine absurd trivial ?_; assumption) | skip))
   exact loop_same (k + 1) ⟨by omega, hf⟩ (by omega) rfl ⟨rfl, rfl, rfl, rfl, trivial⟩
 ·rw [List.drop_of_length_le (by omega), posF] at hf
  exact end_eq (by rw [hf]; rfl) rfl
theorem idx_equs {av : List D} {L : List Ob} {KP : D → Prop} {KW : D → List Ob → Prop} (g : Nat) (caps : List D) (p : OEqu → Bool) (l : List OEqu) (hl : l.length ≤ 1000000000)
  (has : av = [.sl 2 (l.map equD) none, .fn g caps])
  (hg : ∀ s ∈ l, ∀ (KP : D → Prop) (KW : D → List Ob → Prop), KW (.bool (p s)) L → CallS Tryz.prog g (equD s :: caps) L KP KW)
  (hK : KW (.int .i64 (posF p l 0)) L) : CallS Tryz.prog n_slices_IndexFunc_api_Equ_api_Equ av L KP KW := by
 subst has
 refine call_inline tabOk Tryz.func174 rfl (by decide) (.int .i64 (posF p l 0)) L (Nat.le_refl _) (by simp [Tryz.f174]) (fun E hE => ?_) hK
 have hE0 : E.L.length = L.length := by rw [hE]
 refine vcOk _ ?_
 (all_goals refine qgo (Lf.mk ?_))
 refine awp_loopW (α := Nat) (fun k => k ≤ l.length ∧ posF p l 0 = posF p (l.drop k) k)
  (fun k => [(0, .sl 2 (l.map equD) none), (1, .fn g caps), (7, .int .i64 l.length), (8, .int .i64 k)]) (fun _ => L) (fun k => l.length - k) (fun _ => by rw [hE0]; exact Nat.le_refl _) 0 ⟨Nat.zero_le _, by simp⟩ ?_ ?_
 ·exact weak_same rfl ⟨rfl, rfl, rfl, rfl, trivial⟩
 rintro k ⟨hk, hf⟩
 refine vcOk _ ?_
 (all_goals refine qgp ?_ <;> (repeat' first | exact trivial | intro hc | refine And.intro ?_ ?_) <;> refine Lf.mk ?_)
 ·obtain ⟨s, hsk⟩ := at_of_lt (l := l) (k := k) (by omega)
  have hkl : k < l.length := by omega
  have hget : l[k] = s := by rw [List.getElem?_eq_getElem hkl] at hsk; exact Option.some.inj hsk
  rw [List.drop_eq_getElem_cons hkl, hget, posF] at hf
  refine ix_map s (by omega) (by simpa using hsk) ?_
  (all_goals refine qgp (Lf.mk ?_))
  refine hg s (List.mem_of_getElem? hsk) _ _ ?_
  cases hb : p s with
  | true =>
   rw [hb, if_pos rfl] at hf
   (all_goals refine qgp ?_ <;> (repeat' first | exact trivial | intro hc | refine And.intro ?_ ?_) <;> refine Lf.mk ?_)
   (any_goals (first | (exfalso; refine Bool.false_ne_true ?_; assumption) | (exfalso; refine Bool.false_ne_true (Eq.symm ?_); assumption) | (exfalso; refine absurd trivial ?_; assumption) | skip))
   exact end_eq (by rw [hf]; rfl) rfl
  | false =>
   rw [hb, if_neg (by decide)] at hf
   (all_goals refine qgp ?_ <;> (repeat' first | exact trivial | intro hc | refine And.intro ?_ ?_) <;> refine Lf.mk ?_)
   (any_goals (first | (exfalso; refine Bool.false_ne_true ?_; assumption) | (exfalso; refine Bool.false_ne_true (Eq.symm ?_); assumption) | (exfalso; refine absurd trivial ?_; assumption) | skip))
   exact loop_same (k + 1) ⟨by omega, hf⟩ (by omega) rfl ⟨rfl, rfl, rfl, rfl, trivial⟩
 ·rw [List.drop_of_length_le (by omega), posF] at hf
  exact end_eq (by rw [hf]; rfl) rfl
theorem any_pos {α : Type} (p : α → Bool) : ∀ (l : List α) (k : Nat), decide (0 ≤ posF p l k) = l.any p
 | [], _ => rfl
 | x :: l, k => by
  rw [posF, List.any_cons]
  cases h : p x with
  | true => rw [if_pos rfl]; simp
  | false => rw [if_neg (by decide), any_pos p l (k + 1)]; simp
theorem has_syms {av : List D} {L : List Ob} {KP : D → Prop} {KW : D → List Ob → Prop} (g : Nat) (caps : List D) (p : OSym → Bool) (l : List OSym) (c0 c1 : Ob) (R : List Ob) (hl : l.length ≤ 1000000000)
  (hL : L = c0 :: c1 :: .arr 2 (l.map symD) :: R) (has : av = [.osl 2 2 l.length 0 l.length, .fn g caps])
  (hg : ∀ s ∈ l, ∀ (KP : D → Prop) (KW : D → List Ob → Prop), KW (.bool (p s)) L → CallS Tryz.prog g (symD s :: caps) L KP KW)
  (hK : KW (.bool (l.any p)) L) : CallS Tryz.prog n_slices_ContainsFunc_api_Sym_api_Sym av L KP KW := by
 subst has
 refine call_inline tabOk Tryz.func122 rfl (by decide) (.bool (l.any p)) L (Nat.le_refl _) (by simp [Tryz.f122]) (fun E hE => ?_) hK
 have hE0 : E.L.length = L.length := by rw [hE]
 subst hL
 refine vcOk _ ?_
 (all_goals refine qgo (Lf.mk ?_))
 refine idx_syms g caps p l c0 c1 R hl rfl rfl hg ?_
 (all_goals refine qgo (Lf.mk ?_))
 exact end_eq (congrArg D.bool (any_pos p l 0)) rfl
theorem has_equs {av : List D} {L : List Ob} {KP : D → Prop} {KW : D → List Ob → Prop} (g : Nat) (caps : List D) (p : OEqu → Bool) (l : List OEqu) (hl : l.length ≤ 1000000000)
  (has : av = [.sl 2 (l.map equD) none, .fn g caps])
  (hg : ∀ s ∈ l, ∀ (KP : D → Prop) (KW : D → List Ob → Prop), KW (.bool (p s)) L → CallS Tryz.prog g (equD s :: caps) L KP KW)
  (hK : KW (.bool (l.any p)) L) : CallS Tryz.prog n_slices_ContainsFunc_api_Equ_api_Equ av L KP KW := by
 subst has
 refine call_inline tabOk Tryz.func124 rfl (by decide) (.bool (l.any p)) L (Nat.le_refl _) (by simp [Tryz.f124]) (fun E hE => ?_) hK
 have hE0 : E.L.length = L.length := by rw [hE]
 refine vcOk _ ?_
 (all_goals refine qgo (Lf.mk ?_))
 refine idx_equs g caps p l hl rfl hg ?_
 (all_goals refine qgo (Lf.mk ?_))
 exact end_eq (congrArg D.bool (any_pos p l 0)) rfl
attribute [local irreducible] Lib.itoa OExpr.kids OExpr.kind OExpr.n OExpr.name allA evalE exprD idxV nodes oneA pRes regI slotV takeA withV
def bCk (q : List OEqu) (b : Bld) : List D := [.sl 2 (q.map equD) none, .osl 13 1 b.items.length 0 b.items.length, .osl 2 2 b.syms.length 0 b.syms.length, .sl 1 (b.marks.map (.int .i64)) (some 3),
 .osl 1 4 (b.shut.length + 1) 0 (b.shut.length + 1), .int .i64 b.shut.length, .nilsl, .nilsl, .nilsl, .int .i64 b.fe, .int .i64 b.fa]
def bOk (k : Nat) (q : List OEqu) (b : Bld) (X : List Ob) : List Ob :=
 [.cells (bCk q b), .arr 13 (b.items.map itemD), .arr 2 (b.syms.map symD), .spare b.marks.length, .arr 1 (b.shut.map shutD ++ [.sl 2 (b.cur.map valD) (some k)]), .dead] ++ X ++ [.spare b.cur.length]
theorem bC_cl5 (q : List OEqu) (b : Bld) : ClL 5 (bC q b) :=
 .cons .sl (.cons (.osl (by decide)) (.cons (.osl (by decide)) (.cons (.tok (by decide)) (.cons (.osl (by decide)) (.cons .int (.cons .nilsl (.cons .nilsl (.cons .nilsl (.cons .int (.cons .int .nil))))))))))
theorem pools_ren {m : Nat → Option Nat} {k k' : Nat} (hm : m k = some k') (a : List (List OVal)) (c : List OVal) : ObRen m (.arr 1 (a.map shutD ++ [.sl 2 (c.map valD) (some k)])) (.arr 1 (a.map shutD ++ [.sl 2 (c.map valD) (some k')])) := by
 refine ⟨_, rfl, by simp, fun i d d' h1 h2 => ?_⟩
 rcases Nat.lt_or_ge i (a.map shutD).length with h | h
 ·rw [List.getElem?_append_left h] at h1 h2
  rw [h1] at h2
  cases h2
  obtain ⟨l, _, rfl⟩ := List.mem_map.1 (List.mem_of_getElem? h1)
  exact ⟨rfl, ClL.ren (n := 0) (.cons .sl .nil) fun k hk => absurd hk (Nat.not_lt_zero _)⟩
 ·rw [List.getElem?_append_right h] at h1 h2
  cases hi : i - (a.map shutD).length with
  | zero =>
   rw [hi] at h1 h2
   cases h1
   cases h2
   refine ⟨rfl, rfl, fun i d d' g1 g2 => ?_⟩
   cases i with
   | zero =>
    cases g1
    cases g2
    have : renK m (.sl 2 (c.map valD) (some k)) (fun d' => d' = .sl 2 (c.map valD) (some k')) := by
     show renSl m 2 (c.map valD) (some k) (renLK m (c.map valD)) (fun d' => d' = .sl 2 (c.map valD) (some k'))
     unfold renSl
     simp [hm]
    obtain ⟨d', h3, rfl⟩ := renK_eq this
    exact h3
   | succ i => cases g1
  | succ j => rw [hi] at h1; simp at h1
theorem call_put7 {av : List D} {KP : D → Prop} {KW : D → List Ob → Prop} {L : List Ob} (q : List OEqu) (items : List AItem) (syms : List OSym) (marks : List Int) (shut : List (List OVal)) (cur : List OVal) (fe fa : Int) (x : AItem) (B : Ob) (hl : items.length ≤ 1000000)
  (hL : L = bOk 7 q ⟨items, syms, marks, shut, true, cur, fe, fa⟩ [B]) (has : LeL av [.loc 0 0, itemD x]) (hK : KW (.tup []) (bOk 7 q ⟨items ++ [x], syms, marks, shut, true, cur, fe, fa⟩ [B])) : CallS Tryz.prog n_asm_builder_put av L KP KW := by
 refine call_le has ?_
 subst hL
 have hp : (poolsD ⟨items, syms, marks, shut, true, cur, fe, fa⟩).length = shut.length + 1 := by unfold poolsD; simp
 have hk : bCk q ⟨items, syms, marks, shut, true, cur, fe, fa⟩ = bC q ⟨items, syms, marks, shut, true, cur, fe, fa⟩ := by unfold bCk bC; rw [hp]
 have hk' : bCk q ⟨items ++ [x], syms, marks, shut, true, cur, fe, fa⟩ = bC q ⟨items ++ [x], syms, marks, shut, true, cur, fe, fa⟩ := by unfold bCk bC; rw [show (poolsD ⟨items ++ [x], syms, marks, shut, true, cur, fe, fa⟩).length = shut.length + 1 from hp]
 refine call_mk (.tup []) _ (fun w ρ vs hf hr => ?_) aput_meets.can hK
 have key : ∀ k, k < 5 → keepAt [0, 1, 2, 3, 4, 7] 0 k = some k := by decide
 have key' : ∀ k, k < 5 → nthO [0, 1, 2, 3, 4, 7] k = some k := by decide
 refine frame_call aput_meets (ks := [0, 1, 2, 3, 4, 7]) (js := [0, 1, 2, 3, 4, 7]) (as1 := [.loc 0 0, itemD x]) (L1 := bO q ⟨items, syms, marks, shut, true, cur, fe, fa⟩) (d1 := .tup []) (d := .tup []) (L := bOk 7 q ⟨items, syms, marks, shut, true, cur, fe, fa⟩ [B]) (L' := bOk 7 q ⟨items ++ [x], syms, marks, shut, true, cur, fe, fa⟩ [B]) (L1' := bO q ⟨items ++ [x], syms, marks, shut, true, cur, fe, fa⟩)
  rfl (by intro k hk; show k < 8; revert k; decide) (fun _ _ => rfl) (fun i j h => by simp at h) ?_ rfl (fun i o' ho => ?_) ⟨(⟨items, syms, marks, shut, true, cur, fe, fa⟩, x, q), hl, LeL.refl _, rfl, rfl, rfl⟩ ?_ (Nat.le_refl 6) rfl (fun k hk hn => ?_) (fun i k hi => ?_) (fun i o ho => ?_) hf hr
 ·exact ClL.ren (n := 1) (.cons (.loc (by decide)) (.cons (itemD_cl x) .nil)) fun k hk => key k (by omega)
 ·match i, ho with
  | 0, ho => cases ho; exact ⟨0, _, rfl, rfl, by rw [hk]; exact ClO.cells (bC_cl5 _ _) _ key⟩
  | 1, ho => cases ho; exact ⟨1, _, rfl, rfl, ClO.arr (items_cl _) _ key⟩
  | 2, ho => cases ho; exact ⟨2, _, rfl, rfl, ClO.arr (syms_cl _) _ key⟩
  | 3, ho => cases ho; exact ⟨3, _, rfl, rfl, rfl⟩
  | 4, ho => cases ho; exact ⟨4, _, rfl, rfl, pools_ren (k := 7) (k' := 5) (m := keepAt [0, 1, 2, 3, 4, 7] 0) rfl shut cur⟩
  | 5, ho => cases ho; exact ⟨7, _, rfl, rfl, rfl⟩
  | i + 6, ho => simp [bO, bT] at ho
 ·exact ClD.tup0 _ key'
 ·match k, hk, hn with
  | 0, _, hn => exact absurd (by decide) hn
  | 1, _, hn => exact absurd (by decide) hn
  | 2, _, hn => exact absurd (by decide) hn
  | 3, _, hn => exact absurd (by decide) hn
  | 4, _, hn => exact absurd (by decide) hn
  | 5, _, _ => rfl
  | 6, _, _ => rfl
  | 7, _, hn => exact absurd (by decide) hn
  | k + 8, hk, _ => exact absurd hk (by simp [bOk])
 ·match i, hi with
  | 0, hi => cases hi; exact ⟨_, _, rfl, rfl, by rw [hk']; exact ClO.cells (bC_cl5 _ _) _ key'⟩
  | 1, hi => cases hi; exact ⟨_, _, rfl, rfl, ClO.arr (items_cl _) _ key'⟩
  | 2, hi => cases hi; exact ⟨_, _, rfl, rfl, ClO.arr (syms_cl _) _ key'⟩
  | 3, hi => cases hi; exact ⟨_, _, rfl, rfl, rfl⟩
  | 4, hi => cases hi; exact ⟨_, _, rfl, rfl, pools_ren (k := 5) (k' := 7) (m := nthO [0, 1, 2, 3, 4, 7]) rfl shut cur⟩
  | 5, hi => cases hi; exact ⟨_, _, rfl, rfl, rfl⟩
  | i + 6, hi => simp at hi
 ·simp [bO, bT] at ho
theorem alit_new : Meets Tryz.prog n_asm_builder_literal (SpecF (fun ((b, _, _, _, _) : Bld × OVal × Int × Int × List OEqu) => b.has = false ∧ b.cur = [] ∧ b.items.length ≤ 1000000 ∧ b.shut.length ≤ 1000000) (fun (_, v, reg, line, _) => [.loc 0 0, valD v, .int .i64 reg, .int .i64 line])
  (fun (b, _, _, _, q) => bO q b) (fun _ => .tup []) fun (b, v, reg, line, q) => bOk 6 q (litB b v reg line) []) := by
 refine meets_f tabOk Tryz.func128 rfl (by decide) ?_
 rintro ⟨⟨items, syms, marks, shut, has, cur, fe, fa⟩, v, reg, line, q⟩ ⟨hh, hcu, hl, hp⟩
 have hh : has = false := hh
 subst hh
 have hcu : cur = [] := hcu
 subst hcu
 have hl : items.length ≤ 1000000 := hl
 have hp : shut.length ≤ 1000000 := hp
 have hlen : (poolsD ⟨items, syms, marks, shut, false, [], fe, fa⟩).length = shut.length := by unfold poolsD; simp
 refine ⟨by show 6 ≤ 7; decide, by simp [Tryz.f128], fun E hE => ?_⟩
 refine vcOk _ ?_
 (all_goals refine qgp ?_ <;> (repeat' first | exact trivial | intro hc | refine And.intro ?_ ?_) <;> refine Lf.mk ?_)
 have hget : (poolsD ⟨items, syms, marks, shut, false, [], fe, fa⟩ ++ [.nilsl])[shut.length]? = some .nilsl := by
  show (shut.map shutD ++ [D.nilsl])[shut.length]? = _
  simp
 refine ix_rfl (d := .nilsl) (Int.natCast_nonneg _) (by simpa using hget) ?_
 (all_goals refine qgp (Lf.mk ?_))
 refine call_p aindex_meets ([], v) (by show (0 : Nat) ≤ _; decide) (VS.mk (.cons (.nil 2) (LeL.refl _))) ?_
 have hidx : idxV v [] 0 = -1 := by rw [idxV]
 have s1 : slotV v [] = 0 := by unfold slotV; rw [hidx]; rfl
 have s2 : withV v [] = [v] := by unfold withV; rw [hidx]; rfl
 dsimp only
 rw [hidx]
 (all_goals refine qgk ?_ <;> (repeat' first | exact trivial | intro hc | refine And.intro ?_ ?_) <;> refine Lf.mk ?_)
 ·refine ix_rfl (d := .nilsl) (Int.natCast_nonneg _) (by simpa using hget) ?_
  (all_goals refine qgk (Lf.mk ?_))
  refine ix_rfl (d := .nilsl) (Int.natCast_nonneg _) (by simpa using hget) ?_
  (all_goals refine qgk (Lf.mk ?_))
  refine norm_eq ([v].map valD) rfl ?_
  (all_goals refine qgk (Lf.mk ?_))
  refine ix_rfl (d := .nilsl) (Int.natCast_nonneg _) (by simpa using hget) ?_
  (all_goals refine qgp (Lf.mk ?_))
  have hset : (poolsD ⟨items, syms, marks, shut, false, [], fe, fa⟩ ++ [D.nilsl]).set (0 + ((shut.length : Nat) : Int).toNat) (.sl 2 ([v].map valD) (some 7)) = shut.map shutD ++ [.sl 2 ([v].map valD) (some 7)] := by
   show (shut.map shutD ++ [D.nilsl]).set _ _ = _
   rw [Nat.zero_add, Int.toNat_natCast, List.set_append_right _ _ (by simp)]
   simp
  have hlen2 : (poolsD ⟨items, syms, marks, shut, false, [], fe, fa⟩ ++ [D.nilsl]).length = shut.length + 1 := by rw [List.length_append, hlen]; rfl
  have e : ∀ (P : List D) (n : Nat), P = shut.map shutD ++ [.sl 2 ([v].map valD) (some 7)] → n = shut.length + 1 → [Ob.cells [.sl 2 (q.map equD) none, .osl 13 1 items.length 0 items.length, .osl 2 2 syms.length 0 syms.length,
    .sl 1 (marks.map (.int .i64)) (some 3), .osl 1 4 n 0 n, .int .i64 shut.length, .nilsl, .nilsl, .nilsl, .int .i64 fe, .int .i64 fa], .arr 13 (items.map itemD), .arr 2 (syms.map symD), .spare marks.length, .arr 1 P, .dead,
    .cells [.str v.name, .int .i64 v.n], .spare 1] = bOk 7 q ⟨items, syms, marks, shut, true, [v], fe, fa⟩ [.cells [.str v.name, .int .i64 v.n]] := by
   rintro _ _ rfl rfl
   rfl
  refine call_put7 q items syms marks shut [v] fe fa ⟨6, 0, line, ⟨24, reg, 0, 0⟩, false, 0, noV, shut.length, 0⟩ (.cells [.str v.name, .int .i64 v.n]) hl (e _ _ hset hlen2) item_le ?_
  (all_goals refine qgp (Lf.mk ?_))
  have key' : ∀ k, k < 5 → keepAt [0, 1, 2, 3, 4, 5, 7] 0 k = some k := by decide
  have hlit : litB ⟨items, syms, marks, shut, false, [], fe, fa⟩ v reg line = ⟨items ++ [⟨6, 0, line, ⟨24, reg, 0, 0⟩, false, 0, noV, shut.length, 0⟩], syms, marks, shut, true, [v], fe, fa⟩ := by
   unfold litB putB
   rw [s1, s2]
  show EndS _ _ _ _ (bOk 6 q (litB ⟨items, syms, marks, shut, false, [], fe, fa⟩ v reg line) [])
  rw [hlit]
  refine end_keepO [0, 1, 2, 3, 4, 5, 7] rfl rfl ?_ (ClD.tup0 (n := 5) _ key')
  refine .cons (o := .cells (bCk q ⟨items ++ [⟨6, 0, line, ⟨24, reg, 0, 0⟩, false, 0, noV, shut.length, 0⟩], syms, marks, shut, true, [v], fe, fa⟩)) rfl (ClO.cells (n := 5) ?_ _ key') (.cons (o := .arr 13 _) rfl (ClO.arr (n := 5) (items_cl _) _ key') (.cons (o := .arr 2 _) rfl (ClO.arr (n := 5) (syms_cl _) _ key') (.cons (o := .spare _) rfl rfl
   (.cons (o := .arr 1 _) rfl (pools_ren (k := 7) (k' := 6) rfl _ _) (.cons (o := .dead) rfl rfl (.cons (o := .spare _) rfl rfl .nil))))))
  exact .cons .sl (.cons (.osl (by decide)) (.cons (.osl (by decide)) (.cons (.tok (by decide)) (.cons (.osl (by decide)) (.cons .int (.cons .nilsl (.cons .nilsl (.cons .nilsl (.cons .int (.cons .int .nil))))))))))
 ·exact absurd (by decide) hc
theorem sgs_step {l : List AOp} {k : Nat} {o : AOp} (h : l[k]? = some o) : sgsA (l.take (k + 1)) = sgsA (l.take k) ++ sgA o := by
 unfold sgsA
 rw [List.take_add_one, h]
 simp
theorem sg_one {o : AOp} (h : o.sign.length ≤ 1) : (sgA o).length = 1 := by
 unfold sgA
 split
 ·rfl
 ·rename_i hn
  cases hs : o.sign with
  | nil => exact absurd hs hn
  | cons c r => rw [hs] at h; simp at h ⊢; exact h
theorem sgs_len : ∀ {l : List AOp}, (∀ o ∈ l, o.sign.length ≤ 1) → (sgsA l).length = l.length
 | [], _ => rfl
 | o :: l, h => by
  have h1 := sg_one (h o List.mem_cons_self)
  have h2 := sgs_len (l := l) fun x hx => h x (List.mem_cons_of_mem _ hx)
  unfold sgsA at h2 ⊢
  rw [List.map_cons, List.flatten_cons, List.length_append, h1, h2, List.length_cons]
  omega
theorem shapes_meets : Meets Tryz.prog n_asm_shapes (SpecP (fun l : List AOp => l.length ≤ 1000000 ∧ ∀ o ∈ l, o.sign.length ≤ 1) (fun l => [.sl 4 (l.map aopD) none]) fun l => .sl 1 ((shapesT (sgsA l)).map (.int .i64)) none) := by
 refine meets_f tabOk Tryz.func129 rfl (by decide) ?_
 rintro l ⟨hl, hs⟩
 refine ⟨Nat.le_refl _, by simp [Tryz.f129], fun E hE => ?_⟩
 refine vcOk _ ?_
 (all_goals refine qgo (Lf.mk ?_))
 refine awp_loop (α := Nat) (fun k => k ≤ l.length) (fun k => [(6, .sl 4 (l.map aopD) none), (7, .int .i64 l.length), (8, .int .i64 k), (3, .str (sgsA (l.take k)))]) (fun _ => []) (fun k => l.length - k) (fun _ => by simp [hE]) 0 (Nat.zero_le _) ?_ ?_
 ·(repeat' (first | (refine VS.mk ?_) | exact trivial | exact rfl | refine And.intro ?_ ?_))
 rintro k hk
 have hk : k ≤ l.length := hk
 have hlen : (sgsA (l.take k)).length ≤ 1000000 := by
  rw [sgs_len fun o ho => hs o (List.mem_of_mem_take ho), List.length_take]; omega
 refine vcOk _ ?_
 (all_goals refine qgo ?_ <;> (repeat' first | exact trivial | intro hc | refine And.intro ?_ ?_) <;> refine Lf.mk ?_)
 ·obtain ⟨o, ho⟩ := at_of_lt (l := l) (k := k) (by omega)
  have hstep := sgs_step ho
  have hs1 := hs o (List.mem_of_getElem? ho)
  refine ix_map o (by omega) (by simpa using ho) ?_
  (all_goals refine qgo ?_ <;> (repeat' first | exact trivial | intro hc | refine And.intro ?_ ?_) <;> refine Lf.mk ?_)
  ·refine cat_mk (by simp only [List.length_cons, List.length_nil]; omega) ?_
   (all_goals refine qgo (Lf.mk ?_))
   refine loop_end (k + 1) (by show k + 1 ≤ _; omega) (by omega) ?_
   rw [hstep, show sgA o = [112] by unfold sgA; rw [if_pos hc]]
   (repeat' (first | (refine VS.mk ?_) | exact trivial | exact rfl | refine And.intro ?_ ?_))
  ·refine cat_mk (by omega) ?_
   (all_goals refine qgo (Lf.mk ?_))
   refine loop_end (k + 1) (by show k + 1 ≤ _; omega) (by omega) ?_
   rw [hstep, show sgA o = o.sign by unfold sgA; rw [if_neg hc]]
   (repeat' (first | (refine VS.mk ?_) | exact trivial | exact rfl | refine And.intro ?_ ?_))
 all_goals
  have hk2 : k = l.length := by omega
  clear hlen
  subst hk2
  simp only [List.take_length] at *
  refine end_p (VS.mk ?_)
  unfold shapesT
  (repeat (first | (rw [if_pos (by assumption)]) | (rw [if_neg (by assumption)])))
  first
   | exact LeD.of_eq rfl
   | exact LeD.nil 1
def outO (q : List OEqu) (b b' : Bld) : List Ob := if b.has = false ∧ b'.has = true then bOk 6 q b' [] else bO q b'
theorem outO_len (q : List OEqu) (b b' : Bld) : 6 ≤ (outO q b b').length := by
 unfold outO
 split
 ·exact Nat.le_succ 6
 ·exact Nat.le_refl 6
theorem outO_same {q : List OEqu} {b b' : Bld} (h : b'.has = b.has) : outO q b b' = bO q b' := by
 unfold outO
 rw [if_neg fun e => by rw [h, e.1] at e; exact absurd e.2 (by decide)]
theorem outO_old {q : List OEqu} {b b' : Bld} (h : b.has = true) : outO q b b' = bO q b' := by
 unfold outO
 rw [if_neg fun e => by rw [h] at e; exact absurd e.1 (by decide)]
theorem outO_new {q : List OEqu} {b b' : Bld} (h : b.has = false) (h' : b'.has = true) : outO q b b' = bOk 6 q b' [] := by
 unfold outO
 rw [if_pos ⟨h, h'⟩]
theorem failB_has (b : Bld) (e line : Int) : (failB b e line).has = b.has := by unfold failB; split <;> rfl
structure InB (b : Bld) : Prop where
 cur : b.has = false → b.cur = []
 items : b.items.length ≤ 1000000
 shut : b.shut.length ≤ 1000000
 curl : b.cur.length ≤ 1000000
theorem alit_meets : Meets Tryz.prog n_asm_builder_literal (SpecF (fun ((b, _, _, _, _) : Bld × OVal × Int × Int × List OEqu) => InB b) (fun (_, v, reg, line, _) => [.loc 0 0, valD v, .int .i64 reg, .int .i64 line])
  (fun (b, _, _, _, q) => bO q b) (fun _ => .tup []) fun (b, v, reg, line, q) => outO q b (litB b v reg line)) := by
 refine meets_or alit_open alit_new ?_
 rintro av L d L' ⟨⟨b, v, reg, line, q⟩, h, h1, h2, h3, h4⟩
 cases hb : b.has with
 | true => exact .inl ⟨(b, v, reg, line, q), ⟨hb, h.items, h.shut, h.curl⟩, h1, h2, h3, by rw [h4]; exact outO_old hb⟩
 | false => exact .inr ⟨(b, v, reg, line, q), ⟨hb, h.cur hb, h.items, h.shut⟩, h1, h2, h3, by rw [h4]; exact outO_new hb rfl⟩
theorem pick_in (name : List UInt8) : ∀ (L : List Int) (p : Int × Int), pickS name L p = p ∨ (pickS name L p).2 ∈ L
 | [], p => .inl rfl
 | s :: L, p => by
  rw [pickS]
  rcases pick_in name L (if 0 < findI name s then (findI name s, s) else p) with h | h
  ·rw [h]
   split
   ·exact .inr List.mem_cons_self
   ·exact .inl rfl
  ·exact .inr (List.mem_cons_of_mem _ h)
theorem shapes_of (s : List UInt8) : ∀ x ∈ shapesT s, (x = 0 ∧ s.length = 0) ∨ ((x = 3 ∨ x = 4 ∨ x = 5 ∨ x = 6 ∨ x = 11) ∧ s.length = 1) ∨ ((x = 1 ∨ x = 2 ∨ x = 7 ∨ x = 8 ∨ x = 9 ∨ x = 10) ∧ s.length = 2) := by
 intro x hx
 unfold shapesT at hx
 repeat' split at hx
 all_goals first
  | (rename_i h; subst h; simp at hx; subst hx; decide)
  | (rename_i h; subst h; simp at hx; rcases hx with rfl | rfl <;> decide)
  | simp at hx
theorem pick_of {name : List UInt8} {l : List AOp} (h : ∀ o ∈ l, o.sign.length ≤ 1) {S : Int × Int} (hS : pickS name (shapesT (sgsA l)) (0, 0) = S) : (S.1 = 0 ∧ S.2 = 0) ∨ (S.2 = 0 ∧ l.length = 0) ∨ ((S.2 = 3 ∨ S.2 = 4 ∨ S.2 = 5 ∨ S.2 = 6 ∨ S.2 = 11) ∧ l.length = 1) ∨
  ((S.2 = 1 ∨ S.2 = 2 ∨ S.2 = 7 ∨ S.2 = 8 ∨ S.2 = 9 ∨ S.2 = 10) ∧ l.length = 2) := by
 subst hS
 rcases pick_in name (shapesT (sgsA l)) (0, 0) with h1 | h1
 ·rw [h1]; exact .inl ⟨rfl, rfl⟩
 ·have := shapes_of _ _ h1
  rw [sgs_len h] at this
  exact .inr this
theorem call_find {av : List D} {L : List Ob} {KP : D → Prop} {KW : D → List Ob → Prop} (name : List UInt8) (s : Int) (has : av = [.str name, .int .i64 s]) (hK : KP (.int .i64 (findI name s))) : CallS Tryz.prog n_isa_Find av L KP KW := by
 subst has
 exact call_p find_meets (name, s) trivial (VS.mk (LeL.of_eq rfl)) hK
attribute [local irreducible] findI wrongI
def kindsM : List (D × D) := [(.int .i64 4, .int .i64 2), (.int .i64 5, .int .i64 3)]
theorem get_kindsM_4 {s : Int} (h : s = 4) : getM (.int .i64 s) kindsM = some (.int .i64 2) := by subst h; rfl
theorem get_kindsM_5 {s : Int} (h : s = 5) : getM (.int .i64 s) kindsM = some (.int .i64 3) := by subst h; rfl
def kindsMt : List (D × D) := [(.int .i64 5, .int .i64 3), (.int .i64 4, .int .i64 2)]
theorem get_kindsMt_5 {s : Int} (h : s = 5) : getM (.int .i64 s) kindsMt = some (.int .i64 3) := by subst h; rfl
theorem get_kindsMt_4 {s : Int} (h : s = 4) : getM (.int .i64 s) kindsMt = some (.int .i64 2) := by subst h; rfl
def kindsN : List (D × D) := [(.int .i64 7, .int .i64 4), (.int .i64 8, .int .i64 5)]
theorem get_kindsN_7 {s : Int} (h : s = 7) : getM (.int .i64 s) kindsN = some (.int .i64 4) := by subst h; rfl
theorem get_kindsN_8 {s : Int} (h : s = 8) : getM (.int .i64 s) kindsN = some (.int .i64 5) := by subst h; rfl
def kindsNt : List (D × D) := [(.int .i64 8, .int .i64 5), (.int .i64 7, .int .i64 4)]
theorem get_kindsNt_8 {s : Int} (h : s = 8) : getM (.int .i64 s) kindsNt = some (.int .i64 5) := by subst h; rfl
theorem get_kindsNt_7 {s : Int} (h : s = 7) : getM (.int .i64 s) kindsNt = some (.int .i64 4) := by subst h; rfl
theorem draft1 {op sh line : Int} {l : List AOp} (h : sh = 1) : draftI op sh l line = ⟨1, 0, line, ⟨op, (aop l 1).reg, 0, (aop l 0).val.n⟩, false, 0, (aop l 0).val, 0, 0⟩ := by subst h; rfl
theorem draft2 {op sh line : Int} {l : List AOp} (h : sh = 2 ∨ sh = 9 ∨ sh = 10) : draftI op sh l line = ⟨1, 0, line, ⟨op, (aop l 1).reg, (aop l 0).reg, 0⟩, false, 0, noV, 0, 0⟩ := by rcases h with rfl | rfl | rfl <;> rfl
theorem draft3 {op sh line : Int} {l : List AOp} (h : sh = 3 ∨ sh = 6) : draftI op sh l line = ⟨1, 0, line, ⟨op, (aop l 0).reg, 0, 0⟩, false, 0, noV, 0, 0⟩ := by rcases h with rfl | rfl <;> rfl
theorem draft4 {op sh line : Int} {l : List AOp} (h : sh = 4) : draftI op sh l line = ⟨2, 0, line, ⟨op, 0, 0, 0⟩, false, 0, (aop l 0).val, 0, 0⟩ := by subst h; rfl
theorem draft5 {op sh line : Int} {l : List AOp} (h : sh = 5) : draftI op sh l line = ⟨3, 0, line, ⟨op, 0, 0, 0⟩, false, 0, (aop l 0).val, 0, 0⟩ := by subst h; rfl
theorem draft7 {op sh line : Int} {l : List AOp} (h : sh = 7) : draftI op sh l line = ⟨4, 0, line, ⟨op, (aop l 1).reg, 0, 0⟩, false, 0, (aop l 0).val, 0, 0⟩ := by subst h; rfl
theorem draft8 {op sh line : Int} {l : List AOp} (h : sh = 8) : draftI op sh l line = ⟨5, 0, line, ⟨op, (aop l 1).reg, 0, 0⟩, false, 0, (aop l 0).val, 0, 0⟩ := by subst h; rfl
theorem draft11 {op sh line : Int} {l : List AOp} (h : sh = 11) : draftI op sh l line = ⟨1, 0, line, ⟨op, 0, 0, (aop l 0).val.n⟩, false, 0, (aop l 0).val, 0, 0⟩ := by subst h; rfl
theorem draft0 {op sh line : Int} {l : List AOp} (h : sh = 0) : draftI op sh l line = ⟨1, 0, line, ⟨op, 0, 0, 0⟩, false, 0, noV, 0, 0⟩ := by subst h; rfl
theorem shapes_two (s : List UInt8) : (shapesT s).length ≤ 2 := by
 unfold shapesT
 repeat' split
 all_goals decide
theorem instr_meets : Meets Tryz.prog n_asm_builder_instr (SpecF (fun ((b, _, l, _, _) : Bld × List UInt8 × List AOp × Int × List OEqu) => InB b ∧ l.length ≤ 1000000 ∧ ∀ o ∈ l, o.sign.length ≤ 1) (fun (_, name, l, line, _) => [.loc 0 0, .str name, .sl 4 (l.map aopD) none, .int .i64 line])
  (fun (b, _, _, _, q) => bO q b) (fun _ => .tup []) fun (b, name, l, line, q) => outO q b (instrB b name l line)) := by
 refine meets_f tabOk Tryz.func67 rfl (by decide) ?_
 rintro ⟨b, name, l, line, q⟩ ⟨hb, hl, hs⟩
 have hl : l.length ≤ 1000000 := hl
 have hs : ∀ o ∈ l, o.sign.length ≤ 1 := hs
 refine ⟨outO_len _ _ _, by simp [Tryz.f67], fun E hE => ?_⟩
 have hE6 : E.L.length = 6 := by rw [hE]; rfl
 have hget : ∀ k : Nat, k < l.length → l[k]? = some (aop l k) := fun k hk => by unfold aop; rw [List.getElem?_eq_getElem hk]; rfl
 refine awp_cut (α := Unit) (fun _ => ¬ (name = [109, 111, 118, 46, 108] ∧ l.length = 2 ∧ (aop l 0).sign = [61] ∧ (aop l 1).sign = [114]))
  (fun _ => [(0, .loc 0 0), (1, .str name), (2, .sl 4 (l.map aopD) none), (3, .int .i64 line)]) (fun _ => bO q b) ?_ ?_
 ·refine vcOk _ ?_
  (all_goals refine qgp ?_ <;> (repeat' first | exact trivial | intro hc | refine And.intro ?_ ?_) <;> refine Lf.mk ?_)
  ·refine ix_map (aop l 0) (by decide) (hget 0 (by omega)) ?_
   (all_goals refine qgp ?_ <;> (repeat' first | exact trivial | intro hc | refine And.intro ?_ ?_) <;> refine Lf.mk ?_)
   ·refine ix_map (aop l 1) (by decide) (hget 1 (by omega)) ?_
    (all_goals refine qgp ?_ <;> (repeat' first | exact trivial | intro hc | refine And.intro ?_ ?_) <;> refine Lf.mk ?_)
    ·refine ix_map (aop l 0) (by decide) (hget 0 (by omega)) ?_
     (all_goals refine qgp (Lf.mk ?_))
     refine ix_map (aop l 1) (by decide) (hget 1 (by omega)) ?_
     (all_goals refine qgp (Lf.mk ?_))
     refine call_all alit_meets (b, (aop l 0).val, (aop l 1).reg, line, q) hb rfl (LeL.refl _) ?_
     (all_goals refine qgp (Lf.mk ?_))
     refine end_eq rfl ?_
     show outO q b _ = outO q b (instrB b name l line)
     unfold instrB
     rw [if_pos ⟨by assumption, by omega, by assumption, by assumption⟩]
    ·exact ⟨(), fun h => absurd h.2.2.2 hc, weak_same rfl ⟨rfl, rfl, rfl, rfl, trivial⟩⟩
   ·exact ⟨(), fun h => absurd h.2.2.1 hc, weak_same rfl ⟨rfl, rfl, rfl, rfl, trivial⟩⟩
  ·exact ⟨(), fun h => by have := h.2.1; omega, weak_same rfl ⟨rfl, rfl, rfl, rfl, trivial⟩⟩
  ·exact ⟨(), fun h => absurd h.1 hc, weak_same rfl ⟨rfl, rfl, rfl, rfl, trivial⟩⟩
 ·rintro _ hM
  have hgo : instrB b name l line = if (pickS name (shapesT (sgsA l)) (0, 0)).1 = 0 then failB b 1 line else if ((pickS name (shapesT (sgsA l)) (0, 0)).2 = 1 ∨ (pickS name (shapesT (sgsA l)) (0, 0)).2 = 11) ∧ (aop l 0).val.name ≠ [] then failB b 8 line
    else if wrongI (draftI (pickS name (shapesT (sgsA l)) (0, 0)).1 (pickS name (shapesT (sgsA l)) (0, 0)).2 l line).ins = 0 then putB b (draftI (pickS name (shapesT (sgsA l)) (0, 0)).1 (pickS name (shapesT (sgsA l)) (0, 0)).2 l line)
    else failB b (wrongI (draftI (pickS name (shapesT (sgsA l)) (0, 0)).1 (pickS name (shapesT (sgsA l)) (0, 0)).2 l line).ins) line := by
   unfold instrB
   rw [if_neg hM]
  have hB : outO q b (instrB b name l line) = bO q (instrB b name l line) := by
   refine outO_same ?_
   rw [hgo]
   repeat' split
   all_goals first | rw [failB_has] | rfl
  show AWP _ _ _ _ (FinQ _ _ _ _ (outO q b (instrB b name l line))) _ _
  rw [hB]
  generalize instrB b name l line = B at *
  refine vcOk _ ?_
  (all_goals refine qgp (Lf.mk ?_))
  refine call_p shapes_meets l ⟨hl, hs⟩ (VS.mk (LeL.of_eq rfl)) ?_
  have hlen := sgs_len hs
  have hS0 := pick_of hs (name := name) rfl
  have hTl := shapes_two (sgsA l)
  generalize hS : pickS name (shapesT (sgsA l)) (0, 0) = S at *
  generalize hT : shapesT (sgsA l) = T at *
  (all_goals refine qgp (Lf.mk ?_))
  refine awp_loopW (α := Nat × Int × Int) (fun p => p.1 ≤ T.length ∧ pickS name (T.drop p.1) p.2 = S) (fun p => [(48, .sl 1 (T.map (.int .i64)) none), (49, .int .i64 T.length), (50, .int .i64 p.1), (8, .int .i64 p.2.1), (9, .int .i64 p.2.2), (0, .loc 0 0), (1, .str name), (2, .sl 4 (l.map aopD) none), (3, .int .i64 line)])
   (fun _ => bO q b) (fun p => T.length - p.1) (fun _ => by rw [hE6]; exact Nat.le_refl 6) (0, 0, 0) ⟨Nat.zero_le _, hS⟩ ?_ ?_
  ·exact weak_same rfl ⟨rfl, rfl, rfl, rfl, rfl, rfl, rfl, rfl, rfl, trivial⟩
  rintro ⟨k, o, sh⟩ ⟨hk, hp⟩
  dsimp only at hk hp ⊢
  refine vcOk _ ?_
  (all_goals refine qgpn ?_ <;> (repeat' first | exact trivial | intro hc | refine And.intro ?_ ?_) <;> refine Lf.mk ?_)
  ·obtain ⟨x, hx⟩ := at_of_lt (l := T) (k := k) (by omega)
   have hkl : k < T.length := by omega
   have hgx : T[k] = x := by rw [List.getElem?_eq_getElem hkl] at hx; exact Option.some.inj hx
   rw [List.drop_eq_getElem_cons hkl, hgx, pickS] at hp
   refine ix_map x (by omega) (by simpa using hx) ?_
   (all_goals refine qgp (Lf.mk ?_))
   refine call_find name x rfl ?_
   (all_goals refine qgp ?_ <;> (repeat' first | exact trivial | intro hc | refine And.intro ?_ ?_) <;> refine Lf.mk ?_)
   ·rw [if_pos (by omega)] at hp
    exact loop_same (k + 1, findI name x, x) ⟨by show k + 1 ≤ _; omega, hp⟩ (by dsimp only; omega) rfl ⟨rfl, rfl, rfl, rfl, rfl, rfl, rfl, rfl, rfl, trivial⟩
   ·rw [if_neg (by omega)] at hp
    exact loop_same (k + 1, o, sh) ⟨by show k + 1 ≤ _; omega, hp⟩ (by dsimp only; omega) rfl ⟨rfl, rfl, rfl, rfl, rfl, rfl, rfl, rfl, rfl, trivial⟩
  all_goals
   have hk2 : k = T.length := by omega
   rw [hk2, List.drop_length, pickS] at hp
   obtain ⟨rfl, rfl⟩ : o = S.1 ∧ sh = S.2 := by rw [← hp]; exact ⟨rfl, rfl⟩
  all_goals first
   | (have hS4 : S.2 = 4 ∨ S.2 = 5 := by omega
      refine dr_awp ?_; refine draw_two tabOk mixed 1 2 [0, 2, 1, 3, 4, 5, 6, 7, 8, 9, 10, 11, 12, 13] [0, 2, 1, 3, 4, 5, 6, 7, 8, 9, 10, 11, 12, 13] rfl rfl rfl ?_ ?_)
   | (have hS7 : S.2 = 7 ∨ S.2 = 8 := by omega
      refine dr_awp ?_; refine draw_two tabOk mixed 1 2 [0, 2, 1, 3, 4, 5, 6, 7, 8, 9, 10, 11, 12, 13, 14, 15, 16, 17, 18, 19, 20] [0, 2, 1, 3, 4, 5, 6, 7, 8, 9, 10, 11, 12, 13, 14, 15, 16, 17, 18, 19, 20] rfl rfl rfl ?_ ?_)
   | (refine dr_mk ?_)
   | skip
  all_goals (try (all_goals refine qgo (Lf.mk ?_)))
  all_goals (try (refine norm_m (show _ = [(D.int .i64 4, D.int .i64 2)] from rfl) ?_; (all_goals refine qgo (Lf.mk ?_)); refine norm_m (show _ = kindsM from rfl) ?_; (all_goals refine qgo (Lf.mk ?_)); first | (refine lk_some (get_kindsM_4 (show S.2 = 4 by omega)) ?_) | (refine lk_some (get_kindsM_5 (show S.2 = 5 by omega)) ?_)))
  all_goals (try (refine norm_m (show _ = [(D.int .i64 5, D.int .i64 3)] from rfl) ?_; (all_goals refine qgo (Lf.mk ?_)); refine norm_m (show _ = kindsMt from rfl) ?_; (all_goals refine qgo (Lf.mk ?_)); first | (refine lk_some (get_kindsMt_5 (show S.2 = 5 by omega)) ?_) | (refine lk_some (get_kindsMt_4 (show S.2 = 4 by omega)) ?_)))
  all_goals (try (refine norm_m (show _ = [(D.int .i64 7, D.int .i64 4)] from rfl) ?_; (all_goals refine qgo (Lf.mk ?_)); refine norm_m (show _ = kindsN from rfl) ?_; (all_goals refine qgo (Lf.mk ?_)); first | (refine lk_some (get_kindsN_7 (show S.2 = 7 by omega)) ?_) | (refine lk_some (get_kindsN_8 (show S.2 = 8 by omega)) ?_)))
  all_goals (try (refine norm_m (show _ = [(D.int .i64 8, D.int .i64 5)] from rfl) ?_; (all_goals refine qgo (Lf.mk ?_)); refine norm_m (show _ = kindsNt from rfl) ?_; (all_goals refine qgo (Lf.mk ?_)); first | (refine lk_some (get_kindsNt_8 (show S.2 = 8 by omega)) ?_) | (refine lk_some (get_kindsNt_7 (show S.2 = 7 by omega)) ?_)))
  all_goals (try (all_goals refine qgo (Lf.mk ?_)))
  all_goals (try (refine ix_map (aop l 0) (by decide) (hget 0 (by omega)) ?_; (all_goals refine qgo ?_ <;> (repeat' first | exact trivial | intro hc | refine And.intro ?_ ?_) <;> refine Lf.mk ?_)))
  all_goals (try (exfalso; first | omega | exact absurd trivial (by assumption)))
  all_goals (try (refine ix_map (aop l 1) (by decide) (hget 1 (by omega)) ?_; (all_goals refine qgo ?_ <;> (repeat' first | exact trivial | intro hc | refine And.intro ?_ ?_) <;> refine Lf.mk ?_)))
  all_goals (try (exfalso; first | omega | exact absurd trivial (by assumption)))
  all_goals (try (refine ix_map (aop l 0) (by decide) (hget 0 (by omega)) ?_; (all_goals refine qgo ?_ <;> (repeat' first | exact trivial | intro hc | refine And.intro ?_ ?_) <;> refine Lf.mk ?_)))
  all_goals (try (exfalso; first | omega | exact absurd trivial (by assumption)))
  all_goals (try (refine ix_map (aop l 1) (by decide) (hget 1 (by omega)) ?_; (all_goals refine qgo ?_ <;> (repeat' first | exact trivial | intro hc | refine And.intro ?_ ?_) <;> refine Lf.mk ?_)))
  all_goals (try (exfalso; first | omega | exact absurd trivial (by assumption)))
  all_goals (try (refine call_fail q b 1 line [] rfl rfl ?_; (all_goals refine qgp (Lf.mk ?_)); exact end_bO [] rfl (by rw [hgo, if_pos (by assumption)]) rfl (Nat.le_of_eq rfl) .tup0))
  all_goals first
   | (have hd := draft1 (op := S.1) (line := line) (l := l) (show S.2 = 1 by omega); rw [hd] at hgo; clear hd; rw [if_neg (by omega)] at hgo)
   | (have hd := draft2 (op := S.1) (line := line) (l := l) (show S.2 = 2 ∨ S.2 = 9 ∨ S.2 = 10 by omega); rw [hd] at hgo; clear hd; rw [if_neg (by omega)] at hgo)
   | (have hd := draft3 (op := S.1) (line := line) (l := l) (show S.2 = 3 ∨ S.2 = 6 by omega); rw [hd] at hgo; clear hd; rw [if_neg (by omega)] at hgo)
   | (have hd := draft4 (op := S.1) (line := line) (l := l) (show S.2 = 4 by omega); rw [hd] at hgo; clear hd; rw [if_neg (by omega)] at hgo)
   | (have hd := draft5 (op := S.1) (line := line) (l := l) (show S.2 = 5 by omega); rw [hd] at hgo; clear hd; rw [if_neg (by omega)] at hgo)
   | (have hd := draft7 (op := S.1) (line := line) (l := l) (show S.2 = 7 by omega); rw [hd] at hgo; clear hd; rw [if_neg (by omega)] at hgo)
   | (have hd := draft8 (op := S.1) (line := line) (l := l) (show S.2 = 8 by omega); rw [hd] at hgo; clear hd; rw [if_neg (by omega)] at hgo)
   | (have hd := draft11 (op := S.1) (line := line) (l := l) (show S.2 = 11 by omega); rw [hd] at hgo; clear hd; rw [if_neg (by omega)] at hgo)
   | (have hd := draft0 (op := S.1) (line := line) (l := l) (show S.2 = 0 by omega); rw [hd] at hgo; clear hd; rw [if_neg (by omega)] at hgo)
  all_goals (try (refine call_fail q b 8 line [_] rfl rfl ?_; (all_goals refine qgp (Lf.mk ?_)); exact end_bO [_] rfl (by rw [hgo, if_pos ⟨by omega, by assumption⟩]) rfl (Nat.le_of_eq rfl) .tup0))
  all_goals rw [if_neg (fun h => by first | exact absurd (by assumption) h.2 | omega)] at hgo
  all_goals first
   | (refine call_p iwrong_meets ⟨S.1, (aop l 1).reg, 0, (aop l 0).val.n⟩ trivial (VS.mk (LeL.of_eq rfl)) ?_)
   | (refine call_p iwrong_meets ⟨S.1, (aop l 1).reg, (aop l 0).reg, 0⟩ trivial (VS.mk (LeL.of_eq rfl)) ?_)
   | (refine call_p iwrong_meets ⟨S.1, (aop l 0).reg, 0, 0⟩ trivial (VS.mk (LeL.of_eq rfl)) ?_)
   | (refine call_p iwrong_meets ⟨S.1, 0, 0, 0⟩ trivial (VS.mk (LeL.of_eq rfl)) ?_)
   | (refine call_p iwrong_meets ⟨S.1, (aop l 1).reg, 0, 0⟩ trivial (VS.mk (LeL.of_eq rfl)) ?_)
   | (refine call_p iwrong_meets ⟨S.1, 0, 0, (aop l 0).val.n⟩ trivial (VS.mk (LeL.of_eq rfl)) ?_)
  all_goals (all_goals refine qgp ?_ <;> (repeat' first | exact trivial | intro hc | refine And.intro ?_ ?_) <;> refine Lf.mk ?_)
  all_goals first
   | (refine call_fail q b _ line [_] rfl rfl ?_; (all_goals refine qgp (Lf.mk ?_)); exact end_bO [_] rfl (by rw [hgo, if_neg (by assumption)]) rfl (Nat.le_of_eq rfl) .tup0)
   | (refine call_put q b ⟨1, 0, line, ⟨S.1, (aop l 1).reg, 0, (aop l 0).val.n⟩, false, 0, (aop l 0).val, 0, 0⟩ [_] hb.items rfl item_le ?_; (all_goals refine qgp (Lf.mk ?_)); exact end_bO [_] rfl (by rw [hgo, if_pos (by assumption)]) rfl (Nat.le_of_eq rfl) .tup0)
   | (refine call_put q b ⟨1, 0, line, ⟨S.1, (aop l 1).reg, (aop l 0).reg, 0⟩, false, 0, noV, 0, 0⟩ [_] hb.items rfl item_le ?_; (all_goals refine qgp (Lf.mk ?_)); exact end_bO [_] rfl (by rw [hgo, if_pos (by assumption)]) rfl (Nat.le_of_eq rfl) .tup0)
   | (refine call_put q b ⟨1, 0, line, ⟨S.1, (aop l 0).reg, 0, 0⟩, false, 0, noV, 0, 0⟩ [_] hb.items rfl item_le ?_; (all_goals refine qgp (Lf.mk ?_)); exact end_bO [_] rfl (by rw [hgo, if_pos (by assumption)]) rfl (Nat.le_of_eq rfl) .tup0)
   | (refine call_put q b ⟨2, 0, line, ⟨S.1, 0, 0, 0⟩, false, 0, (aop l 0).val, 0, 0⟩ [_] hb.items rfl item_le ?_; (all_goals refine qgp ?_ <;> (repeat' first | exact trivial | intro hc | refine And.intro ?_ ?_) <;> refine Lf.mk ?_); exact end_bO [_] rfl (by rw [hgo, if_pos (by assumption)]) rfl (Nat.le_of_eq rfl) .tup0)
   | (refine call_put q b ⟨3, 0, line, ⟨S.1, 0, 0, 0⟩, false, 0, (aop l 0).val, 0, 0⟩ [_] hb.items rfl item_le ?_; (all_goals refine qgp ?_ <;> (repeat' first | exact trivial | intro hc | refine And.intro ?_ ?_) <;> refine Lf.mk ?_); exact end_bO [_] rfl (by rw [hgo, if_pos (by assumption)]) rfl (Nat.le_of_eq rfl) .tup0)
   | (refine call_put q b ⟨4, 0, line, ⟨S.1, (aop l 1).reg, 0, 0⟩, false, 0, (aop l 0).val, 0, 0⟩ [_] hb.items rfl item_le ?_; (all_goals refine qgp ?_ <;> (repeat' first | exact trivial | intro hc | refine And.intro ?_ ?_) <;> refine Lf.mk ?_); exact end_bO [_] rfl (by rw [hgo, if_pos (by assumption)]) rfl (Nat.le_of_eq rfl) .tup0)
   | (refine call_put q b ⟨5, 0, line, ⟨S.1, (aop l 1).reg, 0, 0⟩, false, 0, (aop l 0).val, 0, 0⟩ [_] hb.items rfl item_le ?_; (all_goals refine qgp ?_ <;> (repeat' first | exact trivial | intro hc | refine And.intro ?_ ?_) <;> refine Lf.mk ?_); exact end_bO [_] rfl (by rw [hgo, if_pos (by assumption)]) rfl (Nat.le_of_eq rfl) .tup0)
   | (refine call_put q b ⟨1, 0, line, ⟨S.1, 0, 0, (aop l 0).val.n⟩, false, 0, (aop l 0).val, 0, 0⟩ [_] hb.items rfl item_le ?_; (all_goals refine qgp (Lf.mk ?_)); exact end_bO [_] rfl (by rw [hgo, if_pos (by assumption)]) rfl (Nat.le_of_eq rfl) .tup0)
   | (refine call_put q b ⟨1, 0, line, ⟨S.1, 0, 0, 0⟩, false, 0, noV, 0, 0⟩ [_] hb.items rfl item_le ?_; (all_goals refine qgp (Lf.mk ?_)); exact end_bO [_] rfl (by rw [hgo, if_pos (by assumption)]) rfl (Nat.le_of_eq rfl) .tup0)
   | (refine call_fail q b _ line [_, _] rfl rfl ?_; (all_goals refine qgp (Lf.mk ?_)); exact end_bO [_, _] rfl (by rw [hgo, if_neg (by assumption)]) rfl (Nat.le_of_eq rfl) .tup0)
   | (refine call_put q b ⟨1, 0, line, ⟨S.1, (aop l 1).reg, 0, (aop l 0).val.n⟩, false, 0, (aop l 0).val, 0, 0⟩ [_, _] hb.items rfl item_le ?_; (all_goals refine qgp ?_ <;> (repeat' first | exact trivial | intro hc | refine And.intro ?_ ?_) <;> refine Lf.mk ?_); exact end_bO [_, _] rfl (by rw [hgo, if_pos (by assumption)]) rfl (Nat.le_of_eq rfl) .tup0)
   | (refine call_put q b ⟨1, 0, line, ⟨S.1, (aop l 1).reg, (aop l 0).reg, 0⟩, false, 0, noV, 0, 0⟩ [_, _] hb.items rfl item_le ?_; (all_goals refine qgp ?_ <;> (repeat' first | exact trivial | intro hc | refine And.intro ?_ ?_) <;> refine Lf.mk ?_); exact end_bO [_, _] rfl (by rw [hgo, if_pos (by assumption)]) rfl (Nat.le_of_eq rfl) .tup0)
   | (refine call_put q b ⟨1, 0, line, ⟨S.1, (aop l 0).reg, 0, 0⟩, false, 0, noV, 0, 0⟩ [_, _] hb.items rfl item_le ?_; (all_goals refine qgp ?_ <;> (repeat' first | exact trivial | intro hc | refine And.intro ?_ ?_) <;> refine Lf.mk ?_); exact end_bO [_, _] rfl (by rw [hgo, if_pos (by assumption)]) rfl (Nat.le_of_eq rfl) .tup0)
   | (refine call_put q b ⟨2, 0, line, ⟨S.1, 0, 0, 0⟩, false, 0, (aop l 0).val, 0, 0⟩ [_, _] hb.items rfl item_le ?_; (all_goals refine qgp (Lf.mk ?_)); exact end_bO [_, _] rfl (by rw [hgo, if_pos (by assumption)]) rfl (Nat.le_of_eq rfl) .tup0)
   | (refine call_put q b ⟨3, 0, line, ⟨S.1, 0, 0, 0⟩, false, 0, (aop l 0).val, 0, 0⟩ [_, _] hb.items rfl item_le ?_; (all_goals refine qgp (Lf.mk ?_)); exact end_bO [_, _] rfl (by rw [hgo, if_pos (by assumption)]) rfl (Nat.le_of_eq rfl) .tup0)
   | (refine call_put q b ⟨4, 0, line, ⟨S.1, (aop l 1).reg, 0, 0⟩, false, 0, (aop l 0).val, 0, 0⟩ [_, _] hb.items rfl item_le ?_; (all_goals refine qgp (Lf.mk ?_)); exact end_bO [_, _] rfl (by rw [hgo, if_pos (by assumption)]) rfl (Nat.le_of_eq rfl) .tup0)
   | (refine call_put q b ⟨5, 0, line, ⟨S.1, (aop l 1).reg, 0, 0⟩, false, 0, (aop l 0).val, 0, 0⟩ [_, _] hb.items rfl item_le ?_; (all_goals refine qgp (Lf.mk ?_)); exact end_bO [_, _] rfl (by rw [hgo, if_pos (by assumption)]) rfl (Nat.le_of_eq rfl) .tup0)
   | (refine call_put q b ⟨1, 0, line, ⟨S.1, 0, 0, (aop l 0).val.n⟩, false, 0, (aop l 0).val, 0, 0⟩ [_, _] hb.items rfl item_le ?_; (all_goals refine qgp ?_ <;> (repeat' first | exact trivial | intro hc | refine And.intro ?_ ?_) <;> refine Lf.mk ?_); exact end_bO [_, _] rfl (by rw [hgo, if_pos (by assumption)]) rfl (Nat.le_of_eq rfl) .tup0)
   | (refine call_put q b ⟨1, 0, line, ⟨S.1, 0, 0, 0⟩, false, 0, noV, 0, 0⟩ [_, _] hb.items rfl item_le ?_; (all_goals refine qgp ?_ <;> (repeat' first | exact trivial | intro hc | refine And.intro ?_ ?_) <;> refine Lf.mk ?_); exact end_bO [_, _] rfl (by rw [hgo, if_pos (by assumption)]) rfl (Nat.le_of_eq rfl) .tup0)
attribute [local irreducible] nameB
theorem label1_meets : Meets Tryz.prog n_asm_builder_label_1 (SpecF (fun _ : OSym × LTok => True) (fun (s, _) => [symD s, .loc 0 0]) (fun (_, t) => [.cells [.int .i64 t.kind, .int .i64 t.n, .str t.text]]) (fun (s, t) => .bool (s.name == t.text))
  fun (_, t) => [.cells [.int .i64 t.kind, .int .i64 t.n, .str t.text]]) := by
 refine meets_f tabOk Tryz.func123 rfl (by decide) ?_
 rintro ⟨s, t⟩ _
 refine ⟨Nat.le_refl _, by simp [Tryz.f123], fun E hE => ?_⟩
 refine vcOk _ ?_
 (all_goals refine qgo (Lf.mk ?_))
 exact end_pre [.cells [.int .i64 t.kind, .int .i64 t.n, .str t.text]] [_] rfl (Nat.le_refl 1) .bool (by intro o ho; rw [List.mem_singleton] at ho; subst ho; exact .cells (.cons .int (.cons .int (.cons .str .nil))))
theorem label2_meets : Meets Tryz.prog n_asm_builder_label_2 (SpecF (fun _ : OEqu × LTok => True) (fun (s, _) => [equD s, .loc 0 0]) (fun (_, t) => [.cells [.int .i64 t.kind, .int .i64 t.n, .str t.text]]) (fun (s, t) => .bool (s.name == t.text))
  fun (_, t) => [.cells [.int .i64 t.kind, .int .i64 t.n, .str t.text]]) := by
 refine meets_f tabOk Tryz.func125 rfl (by decide) ?_
 rintro ⟨s, t⟩ _
 refine ⟨Nat.le_refl _, by simp [Tryz.f125], fun E hE => ?_⟩
 refine vcOk _ ?_
 (all_goals refine qgo (Lf.mk ?_))
 exact end_pre [.cells [.int .i64 t.kind, .int .i64 t.n, .str t.text]] [_] rfl (Nat.le_refl 1) .bool (by intro o ho; rw [List.mem_singleton] at ho; subst ho; exact .cells (.cons .int (.cons .int (.cons .str .nil))))
def labelB (q : List OEqu) (b : Bld) (t : LTok) (line : Int) : Bld :=
 if nameB t.text = false ∨ 0 ≤ regI t ∨ b.syms.any (fun s => s.name == t.text) = true ∨ q.any (fun s => s.name == t.text) = true then failB b 7 line else { b with syms := b.syms ++ [⟨t.text, 0⟩], marks := b.marks ++ [(b.items.length : Int)] }
theorem label_meets : Meets Tryz.prog n_asm_builder_label (SpecF (fun ((b, t, _, q) : Bld × LTok × Int × List OEqu) => b.items.length ≤ 1000000 ∧ b.syms.length ≤ 1000000 ∧ b.marks.length ≤ 1000000 ∧ q.length ≤ 1000000 ∧ t.text.length ≤ 1000000000) (fun (_, t, line, _) => [.loc 0 0, ltokD t, .int .i64 line])
  (fun (b, _, _, q) => bO q b) (fun _ => .tup []) fun (b, t, line, q) => bO q (labelB q b t line)) := by
 refine meets_f tabOk Tryz.func62 rfl (by decide) ?_
 rintro ⟨b, t, line, q⟩ ⟨h1, h2, h3, h4, h5⟩
 have h1 : b.items.length ≤ 1000000 := h1
 have h2 : b.syms.length ≤ 1000000 := h2
 have h3 : b.marks.length ≤ 1000000 := h3
 have h4 : q.length ≤ 1000000 := h4
 have h5 : t.text.length ≤ 1000000000 := h5
 refine ⟨Nat.le_refl _, by simp [Tryz.f62], fun E hE => ?_⟩
 show AWP _ _ _ _ (FinQ _ _ _ _ (bO q (labelB q b t line))) _ (bO q b)
 have hdef : labelB q b t line = if nameB t.text = false ∨ 0 ≤ regI t ∨ b.syms.any (fun s => s.name == t.text) = true ∨ q.any (fun s => s.name == t.text) = true then failB b 7 line else { b with syms := b.syms ++ [⟨t.text, 0⟩], marks := b.marks ++ [(b.items.length : Int)] } := rfl
 generalize labelB q b t line = B at *
 refine vcOk _ ?_
 (all_goals refine qgp (Lf.mk ?_))
 refine call_p name_meets t.text h5 (VS.mk (LeL.of_eq rfl)) ?_
 (all_goals refine qgp ?_ <;> (repeat' first | exact trivial | intro hc | refine And.intro ?_ ?_) <;> refine Lf.mk ?_)
 ·refine call_fail q b 7 line [_] rfl rfl ?_
  (all_goals refine qgp (Lf.mk ?_))
  exact end_bO [_] rfl (by rw [hdef, if_pos (.inl (by simpa using hc))]) rfl (Nat.le_of_eq rfl) .tup0
 refine call_p register_meets t h5 (VS.mk (LeL.of_eq rfl)) ?_
 (all_goals refine qgp ?_ <;> (repeat' first | exact trivial | intro hc | refine And.intro ?_ ?_) <;> refine Lf.mk ?_)
 ·refine call_fail q b 7 line [_] rfl rfl ?_
  (all_goals refine qgp (Lf.mk ?_))
  exact end_bO [_] rfl (by rw [hdef, if_pos (.inr (.inl hc))]) rfl (Nat.le_of_eq rfl) .tup0
 refine has_syms n_asm_builder_label_1 [.loc 6 0] (fun s => s.name == t.text) b.syms (.cells (bC q b)) (.arr 13 (b.items.map itemD)) [.spare b.marks.length, .arr 1 (poolsD b), curO b, .cells [.int .i64 t.kind, .int .i64 t.n, .str t.text]] (by omega) rfl rfl
  (fun s hs KP KW hK => ?_) ?_
 ·exact call_f label1_meets [6] [6] (s, t) trivial rfl rfl ⟨VS.mk (LeL.refl _), VS.mk rfl, hK⟩
 cases hs : b.syms.any (fun s => s.name == t.text) with
 | true =>
  (all_goals refine qgp ?_ <;> (repeat' first | exact trivial | intro hc | refine And.intro ?_ ?_) <;> refine Lf.mk ?_)
  (any_goals (first | (exfalso; refine Bool.false_ne_true ?_; assumption) | (exfalso; refine Bool.false_ne_true (Eq.symm ?_); assumption) | (exfalso; refine absurd trivial ?_; assumption) | skip))
  refine call_fail q b 7 line [_] rfl rfl ?_
  (all_goals refine qgp (Lf.mk ?_))
  exact end_bO [_] rfl (by rw [hdef, if_pos (.inr (.inr (.inl hs)))]) rfl (Nat.le_of_eq rfl) .tup0
 | false =>
  (all_goals refine qgp ?_ <;> (repeat' first | exact trivial | intro hc | refine And.intro ?_ ?_) <;> refine Lf.mk ?_)
  (any_goals (first | (exfalso; refine Bool.false_ne_true ?_; assumption) | (exfalso; refine Bool.false_ne_true (Eq.symm ?_); assumption) | (exfalso; refine absurd trivial ?_; assumption) | skip))
  refine has_equs n_asm_builder_label_2 [.loc 6 0] (fun s => s.name == t.text) q (by omega) rfl (fun s hs KP KW hK => ?_) ?_
  ·exact call_f label2_meets [6] [6] (s, t) trivial rfl rfl ⟨VS.mk (LeL.refl _), VS.mk rfl, hK⟩
  cases hq : q.any (fun s => s.name == t.text) with
  | true =>
   (all_goals refine qgp ?_ <;> (repeat' first | exact trivial | intro hc | refine And.intro ?_ ?_) <;> refine Lf.mk ?_)
   (any_goals (first | (exfalso; refine Bool.false_ne_true ?_; assumption) | (exfalso; refine Bool.false_ne_true (Eq.symm ?_); assumption) | (exfalso; refine absurd trivial ?_; assumption) | skip))
   refine call_fail q b 7 line [_] rfl rfl ?_
   (all_goals refine qgp (Lf.mk ?_))
   exact end_bO [_] rfl (by rw [hdef, if_pos (.inr (.inr (.inr hq)))]) rfl (Nat.le_of_eq rfl) .tup0
  | false =>
   (all_goals refine qgk ?_ <;> (repeat' first | exact trivial | intro hc | refine And.intro ?_ ?_) <;> refine Lf.mk ?_)
   (any_goals (first | (exfalso; refine Bool.false_ne_true ?_; assumption) | (exfalso; refine Bool.false_ne_true (Eq.symm ?_); assumption) | (exfalso; refine absurd trivial ?_; assumption) | skip))
   refine norm_eq ((b.syms ++ [(⟨t.text, 0⟩ : OSym)]).map symD) (by rw [List.map_append]; rfl) ?_
   rw [List.length_map]
   (all_goals refine qgk (Lf.mk ?_))
   refine norm_eq ((b.marks ++ [((b.items.length : Nat) : Int)]).map (D.int .i64)) (by rw [List.map_append]; rfl) ?_
   rw [List.length_map]
   (all_goals refine qgk (Lf.mk ?_))
   rw [if_neg (fun h => ?_)] at hdef
   ·rw [hdef]
    exact end_bO [_] rfl rfl rfl (Nat.le_of_eq rfl) .tup0
   ·rcases h with h | h | h | h
    ·simp_all
    ·omega
    ·rw [hs] at h; cases h
    ·rw [hq] at h; cases h
end Go.Proofs.YthmdddenbfbefaaGreatDoor
namespace Go.Proofs.YthmdddenbfbefaaGreatDoor
open Go Go.Plat
set_option linter.unusedVariables false
set_option linter.unusedSimpArgs false
set_option maxRecDepth 100000
set_option maxHeartbeats 2000000
attribute [local irreducible] AWP Arith BitS BytesS CallS CatS DrawS EndS IdxS Lib.itoa LookS LoopEnd Meets ModeS NilS NormL NormM QuoS RemS ShlS ShrS SideS SplitS bitI evalE pRes regI
theorem allF_len (q : List OEqu) (line : Int) : ∀ (f : Nat) (out : List AOp) (s : RB), s.fe = 0 → (allF q line f out s).1.length ≤ out.length + s.rest.length
 | 0, out, s, _ => Nat.le_add_right _ _
 | f + 1, out, s, hs => by
  rw [allF]
  split
  ·exact Nat.le_add_right _ _
  ·rename_i hn
   have h1 : 1 ≤ s.rest.length := by
    cases hr : s.rest with
    | nil => exact absurd (.inl hr) hn
    | cons a l => simp
   have h2 := (one_less q line s).1
   split
   ·simp only [List.length_append, List.length_cons, List.length_nil]; omega
   ·by_cases h3 : (commaA line (oneA q line s).2).fe = 0
    ·have h4 := comma_eats line _ h3
     have := allF_len q line f (out ++ [(oneA q line s).1]) _ h3
     simp only [List.length_append, List.length_cons, List.length_nil] at this
     omega
    ·rw [allF_end (.inr h3)]
     simp only [List.length_append, List.length_cons, List.length_nil]; omega
theorem allA_len (q : List OEqu) (line : Int) (s : RB) (h : s.fe = 0) : (allA q line s).1.length ≤ s.rest.length := by
 have := allF_len q line (s.rest.length + 1) [] s h
 simpa [allA] using this
theorem signA_len (s : RB) : (signA s).1.length ≤ 1 := by
 unfold signA
 repeat' split
 all_goals simp
theorem oneA_sign (q : List OEqu) (line : Int) (s : RB) : (oneA q line s).1.sign.length ≤ 1 := by
 have := signA_len s
 unfold oneA oneB
 split
 ·dsimp only
  split
  ·simp
  ·exact this
 split
 ·exact this
 ·exact this
theorem allF_sign (q : List OEqu) (line : Int) : ∀ (f : Nat) (out : List AOp) (s : RB), (∀ o ∈ out, o.sign.length ≤ 1) → ∀ o ∈ (allF q line f out s).1, o.sign.length ≤ 1
 | 0, out, s, h => h
 | f + 1, out, s, h => by
  have h' : ∀ o ∈ out ++ [(oneA q line s).1], o.sign.length ≤ 1 := by
   intro o ho
   rcases List.mem_append.1 ho with ho | ho
   ·exact h o ho
   ·rw [List.mem_singleton] at ho; subst ho; exact oneA_sign q line s
  rw [allF]
  split
  ·exact h
  split
  ·exact h'
  ·exact allF_sign q line f _ _ h'
theorem allA_sign (q : List OEqu) (line : Int) (s : RB) : ∀ o ∈ (allA q line s).1, o.sign.length ≤ 1 := allF_sign q line _ [] s (by simp)
def labsF (q : List OEqu) (line : Int) : List LTok → Bld → Bld × List LTok
 | t :: c :: r, b => if t.kind = 1 ∧ c.kind = 3 ∧ c.text = [58] then labsF q line r (labelB q b t line) else (b, t :: c :: r)
 | [t], b => (b, [t])
 | [], b => (b, [])
def wordB (b : Bld) (w : List UInt8) (ops : List AOp) (line : Int) : Bld :=
 if w = [46, 98, 121, 116, 101] then dataB b 1 ops line else if w = [46, 119, 111, 114, 100] then dataB b 2 ops line else if w = [46, 108, 111, 110, 103] then dataB b 4 ops line
 else if w = [46, 97, 108, 105, 103, 110] then alignB b ops line else if w = [46, 112, 111, 111, 108] then (if 0 < ops.length then failB b 2 line else poolB b line) else instrB b w ops line
def restB (q : List OEqu) (b : Bld) (line : Int) : List LTok → Bld
 | [] => b
 | t :: r => if b.fe ≠ 0 then b else if t.kind ≠ 1 then failB b 2 line else
  if (allA q line ⟨r, b.fe, b.fa⟩).2.fe ≠ 0 then setF b (allA q line ⟨r, b.fe, b.fa⟩).2 else wordB (setF b (allA q line ⟨r, b.fe, b.fa⟩).2) t.text (allA q line ⟨r, b.fe, b.fa⟩).1 line
def lineB (q : List OEqu) (b : Bld) (x : LLine) : Bld := restB q (labsF q x.pos x.toks b).1 x.pos (labsF q x.pos x.toks b).2
structure Room (b : Bld) (k : Nat) : Prop where
 items : b.items.length + k ≤ 1000000
 syms : b.syms.length + k ≤ 1000000
 marks : b.marks.length + k ≤ 1000000
 shut : b.shut.length + k ≤ 1000000
 curl : b.cur.length + k ≤ 1000000
 cur : b.has = false → b.cur = []
theorem Room.less {b : Bld} {k j : Nat} (h : Room b k) (hj : j ≤ k) : Room b j := ⟨by have := h.items; omega, by have := h.syms; omega, by have := h.marks; omega, by have := h.shut; omega, by have := h.curl; omega, h.cur⟩
theorem Room.inB {b : Bld} {k : Nat} (h : Room b k) : InB b := ⟨h.cur, by have := h.items; omega, by have := h.shut; omega, by have := h.curl; omega⟩
theorem Room.fail {b : Bld} {k : Nat} (h : Room b k) (e line : Int) : Room (failB b e line) k := by
 unfold failB
 split
 ·exact ⟨h.items, h.syms, h.marks, h.shut, h.curl, h.cur⟩
 ·exact h
theorem Room.put {b : Bld} {k : Nat} (h : Room b (k + 1)) (x : AItem) : Room (putB b x) k :=
 ⟨by have := h.items; simp only [putB, List.length_append, List.length_cons, List.length_nil]; omega, by have := h.syms; simp only [putB]; omega, by have := h.marks; simp only [putB]; omega, by have := h.shut; simp only [putB]; omega, by have := h.curl; simp only [putB]; omega, h.cur⟩
theorem Room.label {q : List OEqu} {b : Bld} {k : Nat} (h : Room b (k + 1)) (t : LTok) (line : Int) : Room (labelB q b t line) k := by
 unfold labelB
 split
 ·exact (h.less (Nat.le_succ k)).fail _ _
 ·exact ⟨by have := h.items; dsimp only; omega, by have := h.syms; simp only [List.length_append, List.length_cons, List.length_nil]; omega, by have := h.marks; simp only [List.length_append, List.length_cons, List.length_nil]; omega, by have := h.shut; dsimp only; omega, by have := h.curl; dsimp only; omega, h.cur⟩
theorem Room.set {b : Bld} {k : Nat} (h : Room b k) (s : RB) : Room (setF b s) k := ⟨h.items, h.syms, h.marks, h.shut, h.curl, h.cur⟩
theorem Room.dat {b : Bld} {k : Nat} (h : Room b (k + 1)) (size line : Int) (o : AOp) : Room (datB size line b o) k := by
 unfold datB
 repeat' split
 ·exact (h.fail _ _).put _
 ·exact (h.fail _ _).put _
 ·exact (h.fail _ _).put _
 ·exact h.put _
theorem Room.datas {size line : Int} : ∀ (l : List AOp) {b : Bld} {k : Nat}, Room b (k + l.length) → Room (l.foldl (datB size line) b) k
 | [], b, k, h => h
 | o :: l, b, k, h => Room.datas l (Room.dat (by rw [Nat.add_assoc]; exact h) size line o)
theorem Room.data {b : Bld} {k : Nat} {l : List AOp} (h : Room b (k + l.length)) (size line : Int) : Room (dataB b size l line) k := by
 unfold dataB
 refine Room.datas l ?_
 split
 ·exact h.fail _ _
 ·exact h
theorem Room.align {b : Bld} {k : Nat} {l : List AOp} (h : Room b (k + 1)) (line : Int) : Room (alignB b l line) k := by
 unfold alignB
 repeat' split
 ·exact (h.less (Nat.le_succ k)).fail _ _
 ·exact (h.less (Nat.le_succ k)).fail _ _
 ·exact h.put _
theorem Room.pool {b : Bld} {k : Nat} (h : Room b (k + 1)) (line : Int) : Room (poolB b line) k := by
 unfold poolB
 split
 ·have := h.put ⟨9, 0, line, noI, false, 0, noV, b.shut.length, 0⟩
  exact ⟨this.items, this.syms, this.marks, by have := h.shut; simp only [List.length_append, List.length_cons, List.length_nil]; omega, by have := h.curl; simp only [List.length_nil]; omega, fun _ => rfl⟩
 ·exact h.less (Nat.le_succ k)
theorem withV_len (v : OVal) (l : List OVal) : (withV v l).length ≤ l.length + 1 := by
 unfold withV
 split
 ·simp
 ·omega
theorem Room.lit {b : Bld} {k : Nat} (h : Room b (k + 1)) (v : OVal) (reg line : Int) : Room (litB b v reg line) k := by
 have hw := withV_len v b.cur
 refine ⟨by have := h.items; simp only [litB, putB, List.length_append, List.length_cons, List.length_nil]; omega, by have := h.syms; simp only [litB, putB]; omega, by have := h.marks; simp only [litB, putB]; omega, by have := h.shut; simp only [litB, putB]; omega, ?_, fun h => by simp only [litB, putB] at h; cases h⟩
 have := h.curl
 simp only [litB, putB]; omega
theorem Room.instr {b : Bld} {k : Nat} (h : Room b (k + 1)) (name : List UInt8) (l : List AOp) (line : Int) : Room (instrB b name l line) k := by
 unfold instrB
 split
 ·exact h.lit _ _ _
 repeat' split
 ·exact (h.less (Nat.le_succ k)).fail _ _
 ·exact (h.less (Nat.le_succ k)).fail _ _
 ·exact h.put _
 ·exact (h.less (Nat.le_succ k)).fail _ _
theorem Room.word {b : Bld} {k : Nat} {l : List AOp} (h : Room b (k + 1 + l.length)) (w : List UInt8) (line : Int) : Room (wordB b w l line) k := by
 have h1 : Room b (k + 1) := h.less (by omega)
 have h2 : Room b (k + l.length) := h.less (by omega)
 unfold wordB
 repeat' split
 ·exact h2.data _ _
 ·exact h2.data _ _
 ·exact h2.data _ _
 ·exact h1.align _
 ·exact (h1.less (Nat.le_succ k)).fail _ _
 ·exact h1.pool _
 ·exact h1.instr _ _ _
theorem labs_room {q : List OEqu} {line : Int} : ∀ (l : List LTok) {b : Bld} {k : Nat}, Room b (k + l.length) → Room (labsF q line l b).1 (k + (labsF q line l b).2.length) ∧ (labsF q line l b).2.length ≤ l.length ∧
  wt ((labsF q line l b).2.map tk) ≤ wt (l.map tk) ∧ (∀ t ∈ (labsF q line l b).2, t ∈ l) ∧ (labsF q line l b).1.has = b.has
 | [], b, k, h => by rw [labsF]; exact ⟨h, Nat.le_refl _, Nat.le_refl _, fun _ h => h, rfl⟩
 | [t], b, k, h => by rw [labsF]; exact ⟨h, Nat.le_refl _, Nat.le_refl _, fun _ h => h, rfl⟩
 | t :: c :: r, b, k, h => by
  rw [labsF]
  split
  ·have hl : Room (labelB q b t line) (k + r.length) := (h.less (by simp only [List.length_cons]; omega) : Room b (k + r.length + 1)).label t line
   obtain ⟨h1, h2, h3, h4, h5⟩ := labs_room r hl
   refine ⟨h1, by simp only [List.length_cons]; omega, by simp only [List.map_cons, wt]; omega, fun x hx => List.mem_cons_of_mem _ (List.mem_cons_of_mem _ (h4 x hx)), h5.trans ?_⟩
   unfold labelB
   split
   ·exact failB_has _ _ _
   ·rfl
  ·exact ⟨h, Nat.le_refl _, Nat.le_refl _, fun _ h => h, rfl⟩
theorem Room.rest {q : List OEqu} {b : Bld} {k : Nat} {l : List LTok} (h : Room b (k + l.length)) (line : Int) : Room (restB q b line l) k := by
 cases l with
 | nil => exact h
 | cons t r =>
  have h0 : Room b k := h.less (by omega)
  rw [restB]
  split
  ·exact h0
  rename_i hf
  have hf : b.fe = 0 := Classical.not_not.1 hf
  split
  ·exact h0.fail _ _
  split
  ·exact h0.set _
  ·have hl := allA_len q line ⟨r, b.fe, b.fa⟩ hf
   have hl : (allA q line ⟨r, b.fe, b.fa⟩).1.length ≤ r.length := hl
   exact Room.word ((h.less (by simp only [List.length_cons]; omega)).set _) _ _
theorem Room.line {q : List OEqu} {b : Bld} {k : Nat} (x : LLine) (h : Room b (k + x.toks.length)) : Room (lineB q b x) k := (labs_room x.toks h).1.rest x.pos
attribute [local irreducible] OExpr.kids OExpr.kind OExpr.n OExpr.name allA exprD findI idxV labelB nameB nodes oneA slotV takeA withV wrongI
def lineO (x : LLine) : Ob := .cells [.int .i64 x.pos, .sl 3 (x.toks.map ltokD) none]
theorem call_label {av : List D} {L : List Ob} {KP : D → Prop} {KW : D → List Ob → Prop} (q : List OEqu) (b : Bld) (t : LTok) (line : Int) (X : List Ob) {k : Nat} (hr : Room b k) (hq : q.length ≤ 1000000) (ht : t.text.length ≤ 1000000000) (hL : L = bO q b ++ X) (has : av = [.loc 0 0, ltokD t, .int .i64 line])
  (hK : KW (.tup []) (bO q (labelB q b t line) ++ X)) : CallS Tryz.prog n_asm_builder_label av L KP KW := by
 subst has
 have hr := hr.less (Nat.zero_le k)
 exact call_b label_meets X (b, t, line, q) ⟨hr.items, hr.syms, hr.marks, hq, ht⟩ hL (LeL.refl _) rfl (.cons (.loc (Nat.lt_of_lt_of_le (by decide : 0 < 6) (Nat.le_of_eq rfl))) (.cons (.agg (.cons .int (.cons .int (.cons .str .nil)))) (.cons .int .nil))) .tup0 (bO_cl _ _) (bO_cl _ _) hK
theorem bO_at (q : List OEqu) (b : Bld) (i : Nat) (o : Ob) (h : (bO q b)[i]? = some o) : ClO 6 o := bO_cl _ _ _ (List.mem_of_getElem? h)
theorem arC_cl (s : RB) (line : Int) : ClO 6 (arC s line) := .cells (.cons (.loc (by decide)) (.cons .sl (.cons .int .nil)))
theorem call_ops {av : List D} {L : List Ob} {KP : D → Prop} {KW : D → List Ob → Prop} (q : List OEqu) (b : Bld) (s : RB) (line : Int) (Y : Ob) (hl : inVal s q) (ht : ∀ t ∈ s.rest, t.text.length ≤ 1000000000) (hL : L = bO q (setF b s) ++ [Y, arC s line]) (has : av = [.loc 7 0])
  (hK : KW (.sl 4 ((allA q line s).1.map aopD) none) (bO q (setF b (allA q line s).2) ++ [Y, arC (allA q line s).2 line])) : CallS Tryz.prog n_asm_reader_all av L KP KW := by
 subst has
 subst hL
 have key : ∀ k, k < 6 → keepAt [0, 1, 2, 3, 4, 5, 7] 0 k = some k := by decide
 have key' : ∀ k, k < 6 → nthO [0, 1, 2, 3, 4, 5, 7] k = some k := by decide
 refine call_sel (L' := bO q (setF b (allA q line s).2) ++ [Y, arC (allA q line s).2 line]) (d := .sl 4 ((allA q line s).1.map aopD) none) (as1 := [.loc 6 0]) (L1 := ardO q b s line) (L1' := ardO q b (allA q line s).2 line) (d1 := .sl 4 ((allA q line s).1.map aopD) none) all_meets [0, 1, 2, 3, 4, 5, 7] rfl ⟨rfl, fun i d d' h1 h2 => ?_⟩ ?_ ⟨(b, s, q, line), ⟨hl, ht⟩, LeL.refl _, rfl, rfl, rfl⟩ (ClD.sl (n := 0) _ fun k hk => absurd hk (Nat.not_lt_zero k)) rfl rfl (fun k hk hn => ?_) (fun i k hi => ?_) hK
 ·cases i with
  | zero =>
   cases h1
   cases h2
   obtain ⟨d', h3, rfl⟩ := renK_eq (show renK (keepAt [0, 1, 2, 3, 4, 5, 7] 0) (.loc 7 0) (fun d' => d' = .loc 6 0) from rfl)
   exact h3
  | succ i => simp at h1
 ·exact .cons (o := .cells (bC q (setF b s))) rfl (bO_at q (setF b s) 0 _ rfl _ key) (.cons (o := .arr 13 (b.items.map itemD)) rfl (bO_at q (setF b s) 1 _ rfl _ key) (.cons (o := .arr 2 (b.syms.map symD)) rfl (bO_at q (setF b s) 2 _ rfl _ key)
   (.cons (o := .spare b.marks.length) rfl (bO_at q (setF b s) 3 _ rfl _ key) (.cons (o := .arr 1 (poolsD (setF b s))) rfl (bO_at q (setF b s) 4 _ rfl _ key) (.cons (o := curO (setF b s)) rfl (bO_at q (setF b s) 5 _ rfl _ key) (.cons (o := arC s line) rfl (arC_cl s line _ key) .nil))))))
 ·match k, hk, hn with
  | 0, _, hn => exact absurd (by decide) hn
  | 1, _, hn => exact absurd (by decide) hn
  | 2, _, hn => exact absurd (by decide) hn
  | 3, _, hn => exact absurd (by decide) hn
  | 4, _, hn => exact absurd (by decide) hn
  | 5, _, hn => exact absurd (by decide) hn
  | 6, _, _ => rfl
  | 7, _, hn => exact absurd (by decide) hn
  | k + 8, hk, _ => exact absurd hk (by simp [bO, bT])
 ·match i, hi with
  | 0, hi => cases hi; exact ⟨.cells (bC q (setF b (allA q line s).2)), _, rfl, rfl, bO_at q (setF b (allA q line s).2) 0 _ rfl _ key'⟩
  | 1, hi => cases hi; exact ⟨.arr 13 (b.items.map itemD), _, rfl, rfl, bO_at q (setF b (allA q line s).2) 1 _ rfl _ key'⟩
  | 2, hi => cases hi; exact ⟨.arr 2 (b.syms.map symD), _, rfl, rfl, bO_at q (setF b (allA q line s).2) 2 _ rfl _ key'⟩
  | 3, hi => cases hi; exact ⟨.spare b.marks.length, _, rfl, rfl, bO_at q (setF b (allA q line s).2) 3 _ rfl _ key'⟩
  | 4, hi => cases hi; exact ⟨.arr 1 (poolsD (setF b (allA q line s).2)), _, rfl, rfl, bO_at q (setF b (allA q line s).2) 4 _ rfl _ key'⟩
  | 5, hi => cases hi; exact ⟨curO (setF b (allA q line s).2), _, rfl, rfl, bO_at q (setF b (allA q line s).2) 5 _ rfl _ key'⟩
  | 6, hi => cases hi; exact ⟨arC (allA q line s).2 line, _, rfl, rfl, arC_cl _ _ _ key'⟩
  | i + 7, hi => simp at hi
theorem outO_no {q : List OEqu} {b b' : Bld} (h : b'.has = true → b.has = true) : outO q b b' = bO q b' := by
 unfold outO
 rw [if_neg fun e => by have := h e.2; rw [e.1] at this; cases this]
def bOn (k : Nat) (q : List OEqu) (b : Bld) : List Ob :=
 [.cells (bCk q b), .arr 13 (b.items.map itemD), .arr 2 (b.syms.map symD), .spare b.marks.length, .arr 1 (b.shut.map shutD ++ [.sl 2 (b.cur.map valD) (some k)]), .dead]
theorem bCk_cl (q : List OEqu) (b : Bld) : ClL 5 (bCk q b) :=
 .cons .sl (.cons (.osl (by decide)) (.cons (.osl (by decide)) (.cons (.tok (by decide)) (.cons (.osl (by decide)) (.cons .int (.cons .nilsl (.cons .nilsl (.cons .nilsl (.cons .int (.cons .int .nil))))))))))
theorem bOn_ren {m : Nat → Option Nat} {k k' : Nat} (q : List OEqu) (b : Bld) (hm : ∀ j, j < 5 → m j = some j) (hk : m k = some k') : ∀ (i : Nat) x y, (bOn k q b)[i]? = some x → (bOn k' q b)[i]? = some y → ObRen m x y := by
 intro i x y h1 h2
 match i, h1, h2 with
 | 0, h1, h2 => cases h1; cases h2; exact ClO.cells (bCk_cl q b) _ hm
 | 1, h1, h2 => cases h1; cases h2; exact ClO.arr (n := 5) (items_cl _) _ hm
 | 2, h1, h2 => cases h1; cases h2; exact ClO.arr (n := 5) (syms_cl _) _ hm
 | 3, h1, h2 => cases h1; cases h2; rfl
 | 4, h1, h2 => cases h1; cases h2; exact pools_ren hk _ _
 | 5, h1, h2 => cases h1; cases h2; rfl
 | i + 6, h1, h2 => simp [bOn] at h1
theorem call_instr {av : List D} {L : List Ob} {KP : D → Prop} {KW : D → List Ob → Prop} (q : List OEqu) (b : Bld) (name : List UInt8) (l : List AOp) (line : Int) (X : List Ob) (hb : InB b) (hl : l.length ≤ 1000000) (hs : ∀ o ∈ l, o.sign.length ≤ 1)
  (hL : L = bO q b ++ X) (has : av = [.loc 0 0, .str name, .sl 4 (l.map aopD) none, .int .i64 line])
  (hK1 : ((instrB b name l line).has = true → b.has = true) → KW (.tup []) (bO q (instrB b name l line) ++ X))
  (hK2 : b.has = false → (instrB b name l line).has = true → KW (.tup []) (bOn L.length q (instrB b name l line) ++ X ++ [.spare (instrB b name l line).cur.length])) : CallS Tryz.prog n_asm_builder_instr av L KP KW := by
 subst has
 have hcl : ClL (bO q b).length [.loc 0 0, .str name, .sl 4 (l.map aopD) none, .int .i64 line] := .cons (.loc (Nat.lt_of_lt_of_le (by decide : 0 < 6) (Nat.le_of_eq rfl))) (.cons .str (.cons .sl (.cons .int .nil)))
 by_cases h : b.has = false ∧ (instrB b name l line).has = true
 ·refine call_pre1 instr_meets (bO q b) X (bOn 6 q (instrB b name l line)) (bOn L.length q (instrB b name l line)) (.spare (instrB b name l line).cur.length) (d := .tup []) hL ⟨(b, name, l, line, q), ⟨hb, hl, hs⟩, LeL.refl _, rfl, rfl, (outO_new h.1 h.2).symm⟩ rfl rfl hcl .tup0 (bO_cl _ _)
   (fun m hm hk => bOn_ren q _ (fun j hj => hm j (Nat.lt_of_lt_of_le hj (by decide : 5 ≤ 6))) hk) .spare (hK2 h.1 h.2)
 ·have hn : (instrB b name l line).has = true → b.has = true := fun e => by
   cases hb : b.has with
   | true => rfl
   | false => exact absurd ⟨hb, e⟩ h
  refine call_pre instr_meets (bO q b) X (bO q (instrB b name l line)) (d := .tup []) hL ⟨(b, name, l, line, q), ⟨hb, hl, hs⟩, LeL.refl _, rfl, rfl, (outO_no hn).symm⟩ rfl hcl .tup0 (bO_cl _ _) (bO_cl _ _) (hK1 hn)
theorem call_data {av : List D} {L : List Ob} {KP : D → Prop} {KW : D → List Ob → Prop} (q : List OEqu) (b : Bld) (size : Int) (l : List AOp) (line : Int) (X : List Ob) (hl : b.items.length + l.length ≤ 1000000) (hs : size = 1 ∨ size = 2 ∨ size = 4)
  (hL : L = bO q b ++ X) (has : av = [.loc 0 0, .int .i64 size, .sl 4 (l.map aopD) none, .int .i64 line]) (hK : KW (.tup []) (bO q (dataB b size l line) ++ X)) : CallS Tryz.prog n_asm_builder_data av L KP KW := by
 subst has
 exact call_b adata_meets X (b, size, l, line, q) ⟨hl, hs⟩ hL (LeL.refl _) rfl (.cons (.loc (Nat.lt_of_lt_of_le (by decide : 0 < 6) (Nat.le_of_eq rfl))) (.cons .int (.cons .sl (.cons .int .nil)))) .tup0 (bO_cl _ _) (bO_cl _ _) hK
theorem call_align {av : List D} {L : List Ob} {KP : D → Prop} {KW : D → List Ob → Prop} (q : List OEqu) (b : Bld) (l : List AOp) (line : Int) (X : List Ob) (hl : b.items.length ≤ 1000000) (hs : l.length ≤ 1000000000)
  (hL : L = bO q b ++ X) (has : av = [.loc 0 0, .sl 4 (l.map aopD) none, .int .i64 line]) (hK : KW (.tup []) (bO q (alignB b l line) ++ X)) : CallS Tryz.prog n_asm_builder_align av L KP KW := by
 subst has
 exact call_b aalign_meets X (b, l, line, q) ⟨hl, hs⟩ hL (LeL.refl _) rfl (.cons (.loc (Nat.lt_of_lt_of_le (by decide : 0 < 6) (Nat.le_of_eq rfl))) (.cons .sl (.cons .int .nil))) .tup0 (bO_cl _ _) (bO_cl _ _) hK
theorem call_pool {av : List D} {L : List Ob} {KP : D → Prop} {KW : D → List Ob → Prop} (q : List OEqu) (b : Bld) (line : Int) (X : List Ob) (hl : b.items.length ≤ 1000000) (hs : b.shut.length ≤ 1000000)
  (hL : L = bO q b ++ X) (has : av = [.loc 0 0, .int .i64 line]) (hK : KW (.tup []) (bO q (poolB b line) ++ X)) : CallS Tryz.prog n_asm_builder_pool av L KP KW := by
 subst has
 exact call_b apool_meets X (b, line, q) ⟨hl, hs⟩ hL (LeL.refl _) rfl (.cons (.loc (Nat.lt_of_lt_of_le (by decide : 0 < 6) (Nat.le_of_eq rfl))) (.cons .int .nil)) .tup0 (bO_cl _ _) (bO_cl _ _) hK
theorem data_has {size line : Int} : ∀ (l : List AOp) (b : Bld), (l.foldl (datB size line) b).has = b.has
 | [], b => rfl
 | o :: l, b => by
  rw [List.foldl_cons, data_has l]
  unfold datB
  repeat' split
  all_goals first | exact failB_has _ _ _ | rfl
theorem dataB_has (b : Bld) (size : Int) (l : List AOp) (line : Int) : (dataB b size l line).has = b.has := by
 unfold dataB
 rw [data_has]
 split
 ·exact failB_has _ _ _
 ·rfl
theorem alignB_has (b : Bld) (l : List AOp) (line : Int) : (alignB b l line).has = b.has := by
 unfold alignB
 repeat' split
 all_goals first | exact failB_has _ _ _ | rfl
theorem poolB_has (b : Bld) (line : Int) : (poolB b line).has = true → b.has = true := by
 unfold poolB
 split
 ·intro _; assumption
 ·exact id
theorem line_meets : Meets Tryz.prog n_asm_builder_line (SpecF (fun ((b, x, q) : Bld × LLine × List OEqu) => Room b (1 + x.toks.length) ∧ wt (x.toks.map tk) ≤ 1048576 ∧ q.length ≤ 1000000) (fun (_, x, _) => [.loc 0 0, llineD x])
  (fun (b, _, q) => bO q b) (fun _ => .tup []) fun (b, x, q) => outO q b (lineB q b x)) := by
 refine meets_f tabOk Tryz.func37 rfl (by decide) ?_
 rintro ⟨b, x, q⟩ ⟨hr, hw, hq⟩
 have hr : Room b (1 + x.toks.length) := hr
 have hw : wt (x.toks.map tk) ≤ 1048576 := hw
 have hq : q.length ≤ 1000000 := hq
 have htx : ∀ t ∈ x.toks, t.text.length ≤ 1000000000 := fun t ht => by
  have : ∀ l : List LTok, t ∈ l → t.text.length ≤ wt (l.map tk) := by
   intro l
   induction l with
   | nil => intro h; cases h
   | cons a l ih =>
    intro h
    rw [List.map_cons, wt]
    rcases List.mem_cons.1 h with rfl | h
    ·show t.text.length ≤ 1 + t.text.length + _; omega
    ·have := ih h; omega
  have := this _ ht
  omega
 refine ⟨outO_len _ _ _, by simp [Tryz.f37], fun E hE => ?_⟩
 have hE6 : E.L.length = 6 := by rw [hE]; rfl
 have hlen : x.toks.length ≤ 1048576 := by have := wt_len (x.toks.map tk); rw [List.length_map] at this; omega
 refine awp_seqK (vcOk _ ?_)
 (all_goals refine qgp (Lf.mk ?_))
 refine awp_seqK (vcOk _ ?_)
 (all_goals refine qgp (Lf.mk ?_))
 refine awp_cut (α := Unit) (fun _ => True) (fun _ => [(0, .loc 0 0), (3, .loc 6 0), (4, .sl 3 ((labsF q x.pos x.toks b).2.map ltokD) none)]) (fun _ => bO q (labsF q x.pos x.toks b).1 ++ [lineO x]) ?_ ?_
 ·refine vcOk _ ?_
  (all_goals refine qgp (Lf.mk ?_))
  have hout : ∀ (l : List LTok) (b1 : Bld), labsF q x.pos l b1 = labsF q x.pos x.toks b → labsF q x.pos l b1 = (b1, l) → (labsF q x.pos x.toks b).1 = b1 ∧ (labsF q x.pos x.toks b).2 = l := fun l b1 h h' => by rw [← h, h']; exact ⟨rfl, rfl⟩
  refine awp_loopW (α := List LTok × Bld) (fun p => labsF q x.pos p.1 p.2 = labsF q x.pos x.toks b ∧ Room p.2 (1 + p.1.length) ∧ (∀ t ∈ p.1, t ∈ x.toks) ∧ p.1.length ≤ 1048576) (fun p => [(0, .loc 0 0), (3, .loc 6 0), (4, .sl 3 (p.1.map ltokD) none)])
   (fun p => bO q p.2 ++ [lineO x]) (fun p => p.1.length) (fun _ => by rw [hE6]; exact Nat.le_succ 6) (x.toks, b) ⟨rfl, hr, fun _ h => h, hlen⟩ ?_ ?_
  ·exact weak_same rfl ⟨rfl, rfl, rfl, trivial⟩
  rintro ⟨l, b1⟩ ⟨i1, i2, i3, i4⟩
  dsimp only at i1 i2 i3 i4 ⊢
  match l, i1, i2, i3, i4 with
  | [], i1, i2, i3, i4 =>
   refine vcOk _ ?_
   (all_goals refine qgp ?_ <;> (repeat' first | exact trivial | intro hc | refine And.intro ?_ ?_) <;> refine Lf.mk ?_)
   obtain ⟨h1, h2⟩ := hout [] b1 i1 (by rw [labsF])
   exact ⟨(), trivial, weak_same (by rw [h1]) ⟨rfl, rfl, by rw [h2]; rfl, trivial⟩⟩
  | [t], i1, i2, i3, i4 =>
   refine vcOk _ ?_
   (all_goals refine qgp ?_ <;> (repeat' first | exact trivial | intro hc | refine And.intro ?_ ?_) <;> refine Lf.mk ?_)
   obtain ⟨h1, h2⟩ := hout [t] b1 i1 (by rw [labsF])
   exact ⟨(), trivial, weak_same (by rw [h1]) ⟨rfl, rfl, by rw [h2]; rfl, trivial⟩⟩
  | t :: c :: r, i1, i2, i3, i4 =>
   have i4 : r.length + 1 + 1 ≤ 1048576 := i4
   refine vcOk _ ?_
   (all_goals refine qgp ?_ <;> (repeat' first | exact trivial | intro hc | refine And.intro ?_ ?_) <;> refine Lf.mk ?_)
   ·rw [labsF, if_pos ⟨by assumption, by assumption, by assumption⟩] at i1
    refine call_label q b1 t x.pos [lineO x] i2 hq (htx t (i3 t List.mem_cons_self)) rfl rfl ?_
    (all_goals refine qgp (Lf.mk ?_))
    exact loop_same (r, labelB q b1 t x.pos) ⟨i1, Room.label (i2.less (by simp only [List.length_cons]; omega)) t x.pos, fun y hy => i3 y (List.mem_cons_of_mem _ (List.mem_cons_of_mem _ hy)), show r.length ≤ 1048576 by omega⟩ (by simp only [List.length_cons]; omega) rfl ⟨rfl, rfl, rfl, trivial⟩
   all_goals
    obtain ⟨h1, h2⟩ := hout (t :: c :: r) b1 i1 (by rw [labsF, if_neg]; rintro ⟨e1, e2, e3⟩; first | exact absurd e1 hc | exact absurd e2 hc | exact absurd e3 hc)
    exact ⟨(), trivial, weak_same (by rw [h1]) ⟨rfl, rfl, by rw [h2]; rfl, trivial⟩⟩
 ·rintro _ _
  obtain ⟨g1, g2, g3, g4, g5⟩ := labs_room x.toks hr
  have hB : lineB q b x = restB q (labsF q x.pos x.toks b).1 x.pos (labsF q x.pos x.toks b).2 := rfl
  show AWP _ _ _ _ (FinQ _ _ _ _ (outO q b (lineB q b x))) _ _
  have hO : outO q b (lineB q b x) = outO q (labsF q x.pos x.toks b).1 (lineB q b x) := by unfold outO; rw [g5]
  rw [hO, hB]
  generalize (labsF q x.pos x.toks b).1 = b1 at *
  generalize (labsF q x.pos x.toks b).2 = l at *
  clear hO hB
  cases l with
  | nil =>
   refine vcOk _ ?_
   (all_goals refine qgp ?_ <;> (repeat' first | exact trivial | intro hc | refine And.intro ?_ ?_) <;> refine Lf.mk ?_)
   rw [restB, outO_same rfl]
   exact end_bO [_] rfl rfl rfl (Nat.le_of_eq rfl) .tup0
  | cons t r =>
   have g2 : r.length + 1 ≤ x.toks.length := g2
   rw [restB]
   refine vcOk _ ?_
   (all_goals refine qgp ?_ <;> (repeat' first | exact trivial | intro hc | refine And.intro ?_ ?_) <;> refine Lf.mk ?_)
   ·rw [if_pos hc, outO_same rfl]
    exact end_bO [_] rfl rfl rfl (Nat.le_of_eq rfl) .tup0
   ·rw [if_neg (fun h => h (by assumption)), if_pos hc, outO_same (failB_has _ _ _)]
    refine call_fail q b1 2 x.pos [_] rfl rfl ?_
    (all_goals refine qgp (Lf.mk ?_))
    exact end_bO [_] rfl rfl rfl (Nat.le_of_eq rfl) .tup0
   ·have hfe : b1.fe = 0 := by assumption
    rw [if_neg (fun h => h hfe), if_neg (fun h => h hc)]
    have hAl := allA_len q x.pos ⟨r, b1.fe, b1.fa⟩ hfe
    have hAs := allA_sign q x.pos ⟨r, b1.fe, b1.fa⟩
    rw [List.map_cons, wt] at g3
    refine call_ops q b1 ⟨r, b1.fe, b1.fa⟩ x.pos (lineO x) ⟨by show wt (r.map tk) ≤ _; omega, by omega⟩ (fun y hy => htx y (g4 y (List.mem_cons_of_mem _ hy))) rfl rfl ?_
    generalize allA q x.pos ⟨r, b1.fe, b1.fa⟩ = A at *
    obtain ⟨ops, s2⟩ := A
    dsimp only at hAl hAs ⊢
    have hroom : Room (setF b1 s2) (1 + ops.length) := (g1.less (by simp only [List.length_cons]; omega)).set s2
    have hops : ops.length ≤ 1000000 := by have := hroom.items; omega
    have hb2 : (setF b1 s2).has = b1.has := rfl
    rw [show s2.fe = (setF b1 s2).fe from rfl, show ∀ b', outO q b1 b' = outO q (setF b1 s2) b' from fun b' => rfl]
    generalize setF b1 s2 = b2 at *
    have hin := hroom.inB
    have hri := hroom.items
    have hrs := hroom.shut
    (all_goals refine qgp ?_ <;> (repeat' first | exact trivial | intro hc | refine And.intro ?_ ?_) <;> refine Lf.mk ?_)
    ·rw [if_pos hc, outO_same rfl]
     exact end_bO [_, _] rfl rfl rfl (Nat.le_of_eq rfl) .tup0
    all_goals rw [if_neg (fun h => h (by assumption))]
    all_goals unfold wordB
    all_goals (repeat (first | (rw [if_pos (by assumption)]) | (rw [if_neg (by assumption)])))
    ·rw [outO_same (dataB_has _ _ _ _)]
     refine call_data q b2 1 ops x.pos [_, _] (by omega) (by decide) rfl rfl ?_
     (all_goals refine qgp (Lf.mk ?_))
     exact end_bO [_, _] rfl rfl rfl (Nat.le_of_eq rfl) .tup0
    ·rw [outO_same (dataB_has _ _ _ _)]
     refine call_data q b2 2 ops x.pos [_, _] (by omega) (by decide) rfl rfl ?_
     (all_goals refine qgp (Lf.mk ?_))
     exact end_bO [_, _] rfl rfl rfl (Nat.le_of_eq rfl) .tup0
    ·rw [outO_same (dataB_has _ _ _ _)]
     refine call_data q b2 4 ops x.pos [_, _] (by omega) (by decide) rfl rfl ?_
     (all_goals refine qgp (Lf.mk ?_))
     exact end_bO [_, _] rfl rfl rfl (Nat.le_of_eq rfl) .tup0
    ·rw [outO_same (alignB_has _ _ _)]
     refine call_align q b2 ops x.pos [_, _] (by omega) (by omega) rfl rfl ?_
     (all_goals refine qgp (Lf.mk ?_))
     exact end_bO [_, _] rfl rfl rfl (Nat.le_of_eq rfl) .tup0
    ·rw [if_pos (show 0 < ops.length by omega), outO_same (failB_has _ _ _)]
     refine call_fail q b2 2 x.pos [_, _] rfl rfl ?_
     (all_goals refine qgp (Lf.mk ?_))
     exact end_bO [_, _] rfl rfl rfl (Nat.le_of_eq rfl) .tup0
    ·rw [if_neg (show ¬ 0 < ops.length by omega), outO_no (poolB_has _ _)]
     refine call_pool q b2 x.pos [_, _] (by omega) (by omega) rfl rfl ?_
     (all_goals refine qgp (Lf.mk ?_))
     exact end_bO [_, _] rfl rfl rfl (Nat.le_of_eq rfl) .tup0
    ·refine call_instr q b2 t.text ops x.pos [_, _] hin hops hAs rfl rfl (fun hn => ?_) (fun hn hn' => ?_)
     ·rw [outO_no hn]
      (all_goals refine qgp (Lf.mk ?_))
      exact end_bO [_, _] rfl rfl rfl (Nat.le_of_eq rfl) .tup0
     ·rw [outO_new hn hn']
      (all_goals refine qgp (Lf.mk ?_))
      have key : ∀ k, k < 5 → keepAt [0, 1, 2, 3, 4, 5, 8] 0 k = some k := by decide
      generalize instrB b2 t.text ops x.pos = b3 at *
      refine end_keepO [0, 1, 2, 3, 4, 5, 8] rfl rfl ?_ (ClD.tup0 (n := 5) _ key)
      have hr := bOn_ren (m := keepAt [0, 1, 2, 3, 4, 5, 8] 0) (k := 8) (k' := 6) q b3 key rfl
      exact .cons (o := .cells (bCk q b3)) rfl (hr 0 _ _ rfl rfl) (.cons (o := .arr 13 (b3.items.map itemD)) rfl (hr 1 _ _ rfl rfl) (.cons (o := .arr 2 (b3.syms.map symD)) rfl (hr 2 _ _ rfl rfl) (.cons (o := .spare b3.marks.length) rfl (hr 3 _ _ rfl rfl)
       (.cons (o := .arr 1 (b3.shut.map shutD ++ [.sl 2 (b3.cur.map valD) (some 8)])) rfl (hr 4 _ _ rfl rfl) (.cons (o := .dead) rfl rfl (.cons (o := .spare b3.cur.length) rfl rfl .nil))))))
theorem upA_le {n k : Int} (h : 0 < k) : upA n k ≤ n + k - 1 ∧ n ≤ upA n k := by
 unfold upA
 have h1 := Int.ediv_mul_le (n + k - 1) (b := k) (by omega)
 have h2 := Int.lt_ediv_add_one_mul_self (n + k - 1) h
 rw [Int.add_mul, Int.one_mul] at h2
 omega
theorem up_meets : Meets Tryz.prog n_asm_up (SpecP (fun ((n, k) : Int × Int) => 0 ≤ n ∧ n ≤ 1000000000000000 ∧ 0 < k ∧ k ≤ 1000000) (fun (n, k) => [.int .i64 n, .int .i64 k]) fun (n, k) => .int .i64 (upA n k)) := by
 refine meets_f tabOk Tryz.func74 rfl (by decide) ?_
 rintro ⟨n, k⟩ ⟨h1, h2, h3, h4⟩
 have h1 : 0 ≤ n := h1
 have h2 : n ≤ 1000000000000000 := h2
 have h3 : 0 < k := h3
 have h4 : k ≤ 1000000 := h4
 have hu := upA_le (n := n) h3
 refine ⟨Nat.le_refl _, by simp [Tryz.f74], fun E hE => ?_⟩
 refine vcOk _ ?_
 (all_goals refine qgp (Lf.mk ?_))
 refine ar_i64 (show -9223372036854775808 ≤ upA n k by omega) (show upA n k ≤ 9223372036854775807 by omega) ?_
 (all_goals refine qgp (Lf.mk ?_))
 exact end_p (VS.mk (LeD.refl _))
def SizeOk (pools : List (List OVal)) (x : AItem) : Prop := (x.kind = 8 → 0 < x.size ∧ x.size ≤ 16) ∧ (x.kind = 7 → 0 < x.size ∧ x.size ≤ 4) ∧ (x.kind = 9 → 0 ≤ x.pool ∧ x.pool < pools.length) ∧ ∀ p ∈ pools, p.length ≤ 1000000
theorem size_meets : Meets Tryz.prog n_asm_builder_size (SpecF (fun ((b, k, x, a, _) : Bld × Nat × AItem × Int × List OEqu) => b.has = false ∧ b.items[k]? = some x ∧ SizeOk b.shut x ∧ 0 ≤ a ∧ a ≤ 100000000000000) (fun (b, k, _, a, _) => [.loc 0 0, .aloc 1 b.items.length k 0, .int .i64 a])
  (fun (b, _, _, _, q) => bO q b) (fun (b, _, x, a, _) => .int .i64 (sizeA b.shut x a)) fun (b, _, _, _, q) => bO q b) := by
 refine meets_f tabOk Tryz.func132 rfl (by decide) ?_
 rintro ⟨⟨items, syms, marks, shut, has, cur, fe, fa⟩, k, x, a, q⟩ ⟨hh, hx, ⟨hs1, hs2, hs3, hs4⟩, ha0, ha1⟩
 have hh : has = false := hh
 subst hh
 have hx : items[k]? = some x := hx
 have hs3 : x.kind = 9 → 0 ≤ x.pool ∧ x.pool < shut.length := hs3
 have hs4 : ∀ p ∈ shut, p.length ≤ 1000000 := hs4
 have ha0 : 0 ≤ a := ha0
 have ha1 : a ≤ 100000000000000 := ha1
 refine ⟨Nat.le_refl _, by simp [Tryz.f132], fun E hE => ?_⟩
 refine vcOk _ ?_
 (all_goals refine qgp (Lf.mk ?_))
 have hxn : items[((k : Nat) : Int).toNat]? = some x := by rw [Int.toNat_natCast]; exact hx
 have hz : sizeA shut x a = if x.kind = 2 ∧ x.long = true then 6 else if x.kind = 7 then x.size else if x.kind = 8 then upA a x.size - a else if x.kind = 9 then upA a 4 - a + 4 * poolLen shut x.pool else 2 := rfl
 have hu4 := upA_le (n := a) (k := 4) (by decide)
 show IdxS (items.map itemD) _ _
 refine ix_map x (Int.natCast_nonneg k) hxn ?_
 (all_goals refine qgp ?_ <;> (repeat' first | exact trivial | intro hc | refine And.intro ?_ ?_) <;> refine Lf.mk ?_)
 ·refine ix_map x (Int.natCast_nonneg k) hxn ?_
  (all_goals refine qgp ?_ <;> (repeat' first | exact trivial | intro hc | refine And.intro ?_ ?_) <;> refine Lf.mk ?_)
  ·refine end_eq ?_ rfl
   show D.int .i64 6 = D.int .i64 (sizeA shut x a)
   rw [hz, if_pos ⟨by assumption, by assumption⟩]
  ·refine end_eq ?_ rfl
   show D.int .i64 2 = D.int .i64 (sizeA shut x a)
   rw [hz, if_neg (fun h => by simp_all), if_neg (by omega), if_neg (by omega), if_neg (by omega)]
 ·refine ix_map x (Int.natCast_nonneg k) hxn ?_
  (all_goals refine qgp (Lf.mk ?_))
  refine end_eq ?_ rfl
  show D.int .i64 x.size = D.int .i64 (sizeA shut x a)
  rw [hz, if_neg (by omega), if_pos hc]
 ·have h8 := hs1 hc
  have hu := upA_le (n := a) h8.1
  refine ix_map x (Int.natCast_nonneg k) hxn ?_
  (all_goals refine qgp (Lf.mk ?_))
  refine call_p up_meets (a, x.size) ⟨ha0, by show a ≤ _; omega, h8.1, by show x.size ≤ _; omega⟩ (VS.mk (LeL.of_eq rfl)) ?_
  (all_goals refine qgp (Lf.mk ?_))
  refine end_eq ?_ rfl
  show D.int .i64 (upA a x.size - a) = D.int .i64 (sizeA shut x a)
  rw [hz, if_neg (by omega), if_neg (by omega), if_pos hc]
 ·have h9 := hs3 hc
  refine call_p up_meets (a, 4) ⟨ha0, by show a ≤ _; omega, by decide, by decide⟩ (VS.mk (LeL.of_eq rfl)) ?_
  (all_goals refine qgp (Lf.mk ?_))
  refine ix_map x (Int.natCast_nonneg k) hxn ?_
  (all_goals refine qgp (Lf.mk ?_))
  have hpl : (poolsD ⟨items, syms, marks, shut, false, cur, fe, fa⟩).length = shut.length := by unfold poolsD; simp
  refine sd_mk ⟨h9.1, by rw [hpl]; exact h9.2⟩ ?_
  (all_goals refine qgp (Lf.mk ?_))
  have hp : ((shut[x.pool.toNat]?).getD []).length ≤ 1000000 := by
   cases hg : shut[x.pool.toNat]? with
   | none => simp
   | some p => exact hs4 p (List.mem_of_getElem? hg)
  (all_goals refine qgp (Lf.mk ?_))
  have hgp : (poolsD ⟨items, syms, marks, shut, false, cur, fe, fa⟩)[((0 + x.pool.toNat : Nat) : Int).toNat]? = some (shutD ((shut[x.pool.toNat]?).getD [])) := by
   have hlt : x.pool.toNat < shut.length := by omega
   rw [Int.toNat_natCast, Nat.zero_add]
   unfold poolsD
   simp [List.getElem?_eq_getElem hlt]
  refine ix_rfl (Int.natCast_nonneg _) hgp ?_
  (all_goals refine qgp (Lf.mk ?_))
  refine end_eq ?_ rfl
  show _ = D.int .i64 (sizeA shut x a)
  rw [hz, if_neg (by omega), if_neg (by omega), if_neg (by omega), if_pos hc]
  rfl
 ·refine end_eq ?_ rfl
  show D.int .i64 2 = D.int .i64 (sizeA shut x a)
  rw [hz, if_neg (by omega), if_neg (by omega), if_neg (by omega), if_neg (by omega)]
attribute [local irreducible] sizeA
theorem placeI_len (pools : List (List OVal)) : ∀ (l : List AItem) (a : Int), (placeI pools l a).1.length = l.length
 | [], a => rfl
 | x :: l, a => by rw [placeI]; simp [placeI_len pools l]
theorem size_le {pools : List (List OVal)} {x : AItem} {a : Int} (h : SizeOk pools x) (h0 : 0 ≤ a) : 0 ≤ sizeA pools x a ∧ sizeA pools x a ≤ 5000000 := by
 obtain ⟨h8, h7, h9, hp⟩ := h
 have hu4 := upA_le (n := a) (k := 4) (by decide)
 have hl : poolLen pools x.pool ≤ 1000000 ∧ 0 ≤ poolLen pools x.pool := by
  unfold poolLen
  cases hg : pools[x.pool.toNat]? with
  | none => simp
  | some p => have := hp p (List.mem_of_getElem? hg); simp; omega
 unfold sizeA
 split
 ·omega
 split
 ·rename_i h; have := h7 h; omega
 split
 ·rename_i h
  have := h8 h
  have hu := upA_le (n := a) this.1
  omega
 split
 ·omega
 ·omega
theorem set_mid {α : Type} {f : α → D} {a b : List α} {x : α} (y : α) {k : Nat} (hk : a.length = k) {d : D} (hd : d = f y) : ((a ++ x :: b).map f).set (0 + ((k : Nat) : Int).toNat) d = ((a ++ [y]) ++ b).map f := by
 subst hd; subst hk
 rw [Nat.zero_add, Int.toNat_natCast, List.map_append, List.set_append_right _ _ (by simp)]
 simp
theorem get_mid {α : Type} {a b : List α} {x : α} {k : Nat} (hk : a.length = k) : (a ++ x :: b)[k]? = some x := by
 subst hk
 rw [List.getElem?_append_right (Nat.le_refl _)]
 simp
theorem bC_same {q : List OEqu} {b b' : Bld} (h1 : b.items.length = b'.items.length) (h2 : b.syms.length = b'.syms.length) (h3 : b.marks = b'.marks) (h4 : poolsD b = poolsD b') (h5 : b.shut = b'.shut) (h6 : b.fe = b'.fe) (h7 : b.fa = b'.fa) : bC q b = bC q b' := by
 unfold bC
 rw [h1, h2, h3, h4, h5, h6, h7]
theorem call_size {av : List D} {L : List Ob} {KP : D → Prop} {KW : D → List Ob → Prop} (q : List OEqu) (b : Bld) (k : Nat) (x : AItem) (a : Int) (hh : b.has = false) (hx : b.items[k]? = some x) (hs : SizeOk b.shut x) (h0 : 0 ≤ a) (h1 : a ≤ 100000000000000) (hL : L = bO q b)
  (has : av = [.loc 0 0, .aloc 1 b.items.length k 0, .int .i64 a]) (hK : KW (.int .i64 (sizeA b.shut x a)) (bO q b)) : CallS Tryz.prog n_asm_builder_size av L KP KW := by
 subst has
 exact call_all size_meets (b, k, x, a, q) ⟨hh, hx, hs, h0, h1⟩ hL (LeL.refl _) hK
theorem set_mid2 {α : Type} {f : α → D} {a b : List α} {x : α} (y : α) {k : Nat} (hk : a.length = k) {d : D} (hd : d = f y) : ((a ++ x :: b).map f).set (0 + ((k : Nat) : Int).toNat) d = (a ++ y :: b).map f := by
 rw [set_mid y hk hd, List.append_assoc]; rfl
theorem placeS_snoc (items : List AItem) (e : Int) : ∀ (ss : List OSym) (ms : List Int) (s : OSym) (m : Int), ss.length = ms.length → placeS items e (ss ++ [s]) (ms ++ [m]) = placeS items e ss ms ++ [⟨s.name, markAt items e m⟩]
 | [], [], s, m, _ => rfl
 | a :: ss, b :: ms, s, m, h => by
  show _ :: placeS items e (ss ++ [s]) (ms ++ [m]) = _ :: (placeS items e ss ms ++ _)
  rw [placeS_snoc items e ss ms s m (by simpa using h)]
 | [], _ :: _, _, _, h => by simp at h
 | _ :: _, [], _, _, h => by simp at h
theorem placeS_len (items : List AItem) (e : Int) : ∀ (ss : List OSym) (ms : List Int), (placeS items e ss ms).length = ss.length
 | [], _ => by rw [placeS]; intro _ _ _ _ h; cases h
 | s :: ss, [] => rfl
 | s :: ss, m :: ms => by rw [placeS, List.length_cons, placeS_len items e ss ms, List.length_cons]
theorem place_meets : Meets Tryz.prog n_asm_builder_place (SpecF (fun ((b, _) : Bld × List OEqu) => b.has = false ∧ (∀ x ∈ b.items, SizeOk b.shut x) ∧ b.items.length ≤ 1000000 ∧ b.marks.length = b.syms.length ∧ b.marks.length ≤ 1000000 ∧ ∀ m ∈ b.marks, 0 ≤ m) (fun _ => [.loc 0 0])
  (fun (b, q) => bO q b) (fun (b, _) => .int .i64 (placeI b.shut b.items 0).2) fun (b, q) => bO q { b with items := (placeI b.shut b.items 0).1, syms := placeS (placeI b.shut b.items 0).1 (placeI b.shut b.items 0).2 b.syms b.marks }) := by
 refine meets_f tabOk Tryz.func69 rfl (by decide) ?_
 rintro ⟨⟨items, syms, marks, shut, has, cur, fe, fa⟩, q⟩ ⟨hh, hsz, hil, hms, hml, hm0⟩
 have hh : has = false := hh
 subst hh
 have hsz : ∀ x ∈ items, SizeOk shut x := hsz
 have hil : items.length ≤ 1000000 := hil
 have hms : marks.length = syms.length := hms
 have hml : marks.length ≤ 1000000 := hml
 have hm0 : ∀ m ∈ marks, 0 ≤ m := hm0
 refine ⟨Nat.le_refl _, by simp [Tryz.f69], fun E hE => ?_⟩
 have hE6 : E.L.length = 6 := by rw [hE]; rfl
 show AWP _ _ _ _ (FinQ _ _ _ (.int .i64 (placeI shut items 0).2) (bO q ⟨(placeI shut items 0).1, placeS (placeI shut items 0).1 (placeI shut items 0).2 syms marks, marks, shut, false, cur, fe, fa⟩)) _ (bO q ⟨items, syms, marks, shut, false, cur, fe, fa⟩)
 have hPl := placeI_len shut items 0
 generalize hP : placeI shut items 0 = P at *
 obtain ⟨PI, PE⟩ := P
 dsimp only at hPl ⊢
 refine vcOk _ ?_
 (all_goals refine qgp (Lf.mk ?_))
 refine awp_loopW (α := Nat × Int) (fun p => p.1 ≤ items.length ∧ placeI shut (items.drop p.1) p.2 = (PI.drop p.1, PE) ∧ 0 ≤ p.2 ∧ p.2 ≤ 5000000 * (p.1 : Int)) (fun p => [(0, .loc 0 0), (3, .int .i64 p.2), (11, .int .i64 items.length), (12, .int .i64 p.1)])
  (fun p => bO q ⟨PI.take p.1 ++ items.drop p.1, syms, marks, shut, false, cur, fe, fa⟩) (fun p => items.length - p.1) (fun _ => by rw [hE6]; exact Nat.le_refl 6) (0, 0) ⟨Nat.zero_le _, hP, Int.le_refl 0, by simp⟩ ?_ ?_
 ·exact weak_same rfl ⟨rfl, rfl, rfl, rfl, trivial⟩
 rintro ⟨k, a⟩ ⟨i1, i2, i3, i4⟩
 dsimp only at i1 i2 i3 i4 ⊢
 have hlen : (PI.take k ++ items.drop k).length = items.length := by rw [List.length_append, List.length_take, List.length_drop]; omega
 refine vcOk _ ?_
 (all_goals refine qgp ?_ <;> (repeat' first | exact trivial | intro hc | refine And.intro ?_ ?_) <;> refine Lf.mk ?_)
 ·have hkl : k < items.length := by omega
  obtain ⟨x, hx⟩ := at_of_lt (l := items) (k := k) (by omega)
  have hgx : items[k] = x := by rw [List.getElem?_eq_getElem hkl] at hx; exact Option.some.inj hx
  have hxs := hsz x (List.mem_of_getElem? hx)
  have hsl := size_le (a := a) hxs i3
  rw [List.drop_eq_getElem_cons hkl, hgx, placeI] at i2
  obtain ⟨e1, e2⟩ := Prod.mk.inj i2
  have hkP : k < PI.length := by omega
  rw [List.drop_eq_getElem_cons hkP] at e1
  obtain ⟨e3, e4⟩ := List.cons.inj e1
  have hnext : placeI shut (items.drop (k + 1)) (a + sizeA shut x a) = (PI.drop (k + 1), PE) := by rw [← e4, ← e2]
  have htake : PI.take (k + 1) = PI.take k ++ [{ x with at_ := a }] := by rw [List.take_succ_eq_append_getElem hkP, ← e3]
  have hlk : (PI.take k).length = k := by rw [List.length_take]; omega
  have hdrop : items.drop k = x :: items.drop (k + 1) := by rw [List.drop_eq_getElem_cons hkl, hgx]
  have hmid := get_mid (a := PI.take k) (b := items.drop (k + 1)) (x := x) hlk
  have hlen2 : (PI.take (k + 1) ++ items.drop (k + 1)).length = items.length := by rw [List.length_append, List.length_take, List.length_drop]; omega
  rw [hdrop] at hlen ⊢
  refine ix_map x (Int.natCast_nonneg _) (by rw [Int.toNat_natCast, Nat.zero_add, Int.toNat_natCast]; exact hmid) ?_
  (all_goals refine qgk (Lf.mk ?_))
  refine norm_eq ((PI.take (k + 1) ++ items.drop (k + 1)).map itemD) (by rw [htake]; exact set_mid { x with at_ := a } hlk rfl) ?_
  (all_goals refine qgk (Lf.mk ?_))
  have hb : (PI.take k ++ x :: items.drop (k + 1)).length = (PI.take (k + 1) ++ items.drop (k + 1)).length := by rw [hlen, hlen2]
  have hx2 : (PI.take (k + 1) ++ items.drop (k + 1))[k]? = some { x with at_ := a } := by rw [htake, List.append_assoc]; exact get_mid hlk
  have hs2 : sizeA shut { x with at_ := a } a = sizeA shut x a := by unfold sizeA; rfl
  refine call_size q ⟨PI.take (k + 1) ++ items.drop (k + 1), syms, marks, shut, false, cur, fe, fa⟩ k { x with at_ := a } a rfl hx2 hxs i3 (by omega) ?_ ?_ ?_
  ·exact congrArg (fun c => Ob.cells c :: bT ⟨PI.take (k + 1) ++ items.drop (k + 1), syms, marks, shut, false, cur, fe, fa⟩) (bC_same hb rfl rfl rfl rfl rfl rfl)
  ·show [D.loc 0 0, .aloc 1 (PI.take k ++ x :: items.drop (k + 1)).length (0 + ((k : Nat) : Int).toNat) 0, .int .i64 a] = _
   rw [hb, Nat.zero_add, Int.toNat_natCast]
  rw [show sizeA (Bld.shut ⟨PI.take (k + 1) ++ items.drop (k + 1), syms, marks, shut, false, cur, fe, fa⟩) { x with at_ := a } a = sizeA shut x a from hs2]
  (all_goals refine qgp (Lf.mk ?_))
  exact loop_same (k + 1, a + sizeA shut x a) ⟨by show k + 1 ≤ _; omega, hnext, by dsimp only; omega, by dsimp only; omega⟩ (by dsimp only; omega) rfl ⟨rfl, rfl, rfl, rfl, trivial⟩
 ·have hk : k = items.length := by omega
  rw [hk, List.drop_length, placeI] at i2
  obtain ⟨e1, e2⟩ := Prod.mk.inj i2
  have hI : PI.take k ++ items.drop k = PI := by rw [hk, List.drop_length, List.append_nil, ← hPl, List.take_length]
  rw [hI] at hlen ⊢
  subst e2
  clear e1 i2
  refine awp_loopW (α := Nat) (fun j => j ≤ marks.length) (fun j => [(0, .loc 0 0), (3, .int .i64 a), (38, .sl 1 (marks.map (.int .i64)) none), (39, .int .i64 marks.length), (40, .int .i64 j)])
   (fun j => bO q ⟨PI, placeS PI a (syms.take j) (marks.take j) ++ syms.drop j, marks, shut, false, cur, fe, fa⟩) (fun j => marks.length - j) (fun _ => by rw [hE6]; exact Nat.le_refl 6) 0 (Nat.zero_le _) ?_ ?_
  ·refine weak_leS rfl ⟨.refl _, .refl _, .strip _ _ _, .refl _, .refl _, trivial⟩
  intro j hj
  have hj : j ≤ marks.length := hj
  refine vcOk _ ?_
  have hSl : (placeS PI a (syms.take j) (marks.take j)).length = j := by rw [placeS_len, List.length_take]; omega
  (all_goals refine qgp ?_ <;> (repeat' first | exact trivial | intro hc | refine And.intro ?_ ?_) <;> refine Lf.mk ?_)
  ·have hjm : j < marks.length := by omega
   have hjs : j < syms.length := by omega
   obtain ⟨m, hm⟩ := at_of_lt (l := marks) (k := j) (by omega)
   obtain ⟨s, hs⟩ := at_of_lt (l := syms) (k := j) (by omega)
   have hgm : marks[j] = m := by rw [List.getElem?_eq_getElem hjm] at hm; exact Option.some.inj hm
   have hgs : syms[j] = s := by rw [List.getElem?_eq_getElem hjs] at hs; exact Option.some.inj hs
   have hm0 := hm0 m (List.mem_of_getElem? hm)
   have hdrop : syms.drop j = s :: syms.drop (j + 1) := by rw [List.drop_eq_getElem_cons hjs, hgs]
   have hsn : placeS PI a (syms.take (j + 1)) (marks.take (j + 1)) = placeS PI a (syms.take j) (marks.take j) ++ [⟨s.name, markAt PI a m⟩] := by
    rw [List.take_succ_eq_append_getElem hjs, List.take_succ_eq_append_getElem hjm, hgs, hgm]
    exact placeS_snoc _ _ _ _ _ _ (by rw [List.length_take, List.length_take]; omega)
   generalize placeS PI a (syms.take j) (marks.take j) = SJ at *
   rw [hdrop]
   refine ix_map m (by omega) (by simpa using hm) ?_
   have hlen3 : (SJ ++ s :: syms.drop (j + 1)).length = syms.length := by rw [List.length_append, List.length_cons, List.length_drop]; omega
   have hmid := get_mid (a := SJ) (b := syms.drop (j + 1)) (x := s) hSl
   (all_goals refine qgk (Lf.mk ?_))
   refine ix_map s (Int.natCast_nonneg _) (by rw [Int.toNat_natCast, Nat.zero_add, Int.toNat_natCast]; exact hmid) ?_
   (all_goals refine qgk (Lf.mk ?_))
   refine norm_eq ((SJ ++ (⟨s.name, a⟩ : OSym) :: syms.drop (j + 1)).map symD) (set_mid2 ⟨s.name, a⟩ hSl rfl) ?_
   (all_goals refine qgk ?_ <;> (repeat' first | exact trivial | intro hc | refine And.intro ?_ ?_) <;> refine Lf.mk ?_)
   ·have hmn : m.toNat < PI.length := by omega
    have hmk : markAt PI a m = (itA PI m).at_ := by unfold markAt; rw [if_pos hc]
    have hit : PI[m.toNat]? = some (itA PI m) := by unfold itA; rw [List.getElem?_eq_getElem hmn]; rfl
    have hmid2 := get_mid (a := SJ) (b := syms.drop (j + 1)) (x := (⟨s.name, a⟩ : OSym)) hSl
    refine ix_map (itA PI m) (Int.natCast_nonneg _) (by rw [Int.toNat_natCast, Nat.zero_add]; exact hit) ?_
    (all_goals refine qgk (Lf.mk ?_))
    refine ix_map (⟨s.name, a⟩ : OSym) (Int.natCast_nonneg _) (by rw [Int.toNat_natCast, Nat.zero_add, Int.toNat_natCast]; exact hmid2) ?_
    (all_goals refine qgk (Lf.mk ?_))
    refine norm_eq ((SJ ++ (⟨s.name, (itA PI m).at_⟩ : OSym) :: syms.drop (j + 1)).map symD) (set_mid2 ⟨s.name, (itA PI m).at_⟩ hSl rfl) ?_
    (all_goals refine qgk (Lf.mk ?_))
    refine loop_same (j + 1) (by show j + 1 ≤ _; omega) (by omega) ?_ ⟨rfl, rfl, rfl, rfl, rfl, trivial⟩
    dsimp only
    rw [hsn, hmk, List.append_assoc]
    exact congrArg (fun c => Ob.cells c :: bT ⟨PI, SJ ++ (⟨s.name, (itA PI m).at_⟩ : OSym) :: syms.drop (j + 1), marks, shut, false, cur, fe, fa⟩) (bC_same rfl (by simp) rfl rfl rfl rfl rfl)
   ·have hmk : markAt PI a m = a := by unfold markAt; rw [if_neg hc]
    refine loop_same (j + 1) (by show j + 1 ≤ _; omega) (by omega) ?_ ⟨rfl, rfl, rfl, rfl, rfl, trivial⟩
    dsimp only
    rw [hsn, hmk, List.append_assoc]
    exact congrArg (fun c => Ob.cells c :: bT ⟨PI, SJ ++ (⟨s.name, a⟩ : OSym) :: syms.drop (j + 1), marks, shut, false, cur, fe, fa⟩) (bC_same rfl (by simp) rfl rfl rfl rfl rfl)
  ·have hj2 : j = marks.length := by omega
   rw [hj2, List.take_length, hms, List.take_length, List.drop_length, List.append_nil]
   exact end_eq rfl rfl
attribute [local irreducible] infoR
theorem ar_w {n : Int} {K : D → Prop} (h : K (.int .i64 (w64 n))) : Arith .i64 n K := by unfold Arith; exact h
theorem rem_w {x y : Int} {K : D → Prop} (hy : y ≠ 0) (h : K (.int .i64 (x.tmod y))) : RemS .i64 x y K := by unfold RemS; exact ⟨hy, h⟩
theorem quo_w {x y : Int} {K : D → Prop} (hy : y ≠ 0) (h : K (.int .i64 (w64 (x.tdiv y)))) : QuoS .i64 x y K := by unfold QuoS; exact ⟨hy, h⟩
theorem target1_meets : Meets Tryz.prog n_asm_builder_target_1 (SpecF (fun _ : OSym × OVal => True) (fun (s, _) => [symD s, .loc 0 0]) (fun (_, v) => [.cells [.str v.name, .int .i64 v.n]]) (fun (s, v) => .bool (s.name == v.name))
  fun (_, v) => [.cells [.str v.name, .int .i64 v.n]]) := by
 refine meets_f tabOk Tryz.func134 rfl (by decide) ?_
 rintro ⟨s, v⟩ _
 refine ⟨Nat.le_refl _, by simp [Tryz.f134], fun E hE => ?_⟩
 refine vcOk _ ?_
 (all_goals refine qgo (Lf.mk ?_))
 exact end_pre [.cells [.str v.name, .int .i64 v.n]] [_] rfl (Nat.le_refl 1) .bool (by intro o ho; rw [List.mem_singleton] at ho; subst ho; exact .cells (.cons .str (.cons .int .nil)))
theorem target_meets : Meets Tryz.prog n_asm_builder_target (SpecF (fun ((b, _, _) : Bld × OVal × List OEqu) => b.syms.length ≤ 1000000) (fun (_, v, _) => [.loc 0 0, valD v])
  (fun (b, _, q) => bO q b) (fun (b, v, _) => .tup [.int .i64 (targetA b.syms v).1, .int .i64 (targetA b.syms v).2]) fun (b, _, q) => bO q b) := by
 refine meets_f tabOk Tryz.func70 rfl (by decide) ?_
 rintro ⟨b, v, q⟩ hl
 have hl : b.syms.length ≤ 1000000 := hl
 refine ⟨Nat.le_refl _, by simp [Tryz.f70], fun E hE => ?_⟩
 show AWP _ _ _ _ (FinQ _ _ _ (.tup [.int .i64 (targetA b.syms v).1, .int .i64 (targetA b.syms v).2]) (bO q b)) _ (bO q b)
 have hT : targetA b.syms v = if v.name = [] then (0, 8) else if idxN v.name b.syms 0 < 0 then (0, 6) else (w64 ((symA b.syms (idxN v.name b.syms 0)).at_ + v.n), 0) := rfl
 generalize targetA b.syms v = T at *
 refine vcOk _ ?_
 (all_goals refine qgp ?_ <;> (repeat' first | exact trivial | intro hc | refine And.intro ?_ ?_) <;> refine Lf.mk ?_)
 ·rw [if_pos hc] at hT
  subst hT
  exact end_bO [_] rfl rfl rfl (Nat.le_of_eq rfl) (.tup (.cons .int (.cons .int .nil)))
 rw [if_neg hc] at hT
 refine idx_syms n_asm_builder_target_1 [.loc 6 0] (fun s => s.name == v.name) b.syms (.cells (bC q b)) (.arr 13 (b.items.map itemD)) [.spare b.marks.length, .arr 1 (poolsD b), curO b, .cells [.str v.name, .int .i64 v.n]] (by omega) rfl rfl
  (fun s hs KP KW hK => ?_) ?_
 ·exact call_f target1_meets [6] [6] (s, v) trivial rfl rfl ⟨VS.mk (LeL.refl _), VS.mk rfl, hK⟩
 have hp := posF_bound (fun s : OSym => s.name == v.name) b.syms 0
 have hT : T = if posF (fun s : OSym => s.name == v.name) b.syms 0 < 0 then (0, 6) else (w64 ((symA b.syms (posF (fun s : OSym => s.name == v.name) b.syms 0)).at_ + v.n), 0) := hT
 generalize posF (fun s : OSym => s.name == v.name) b.syms 0 = p at *
 (all_goals refine qgp ?_ <;> (repeat' first | exact trivial | intro hc | refine And.intro ?_ ?_) <;> refine Lf.mk ?_)
 ·rw [if_pos hc] at hT
  subst hT
  exact end_bO [_] rfl rfl rfl (Nat.le_of_eq rfl) (.tup (.cons .int (.cons .int .nil)))
 have hpl : p.toNat < b.syms.length := by
  rcases hp with h | ⟨j, h1, h2⟩
  ·omega
  ·rw [h2, Int.toNat_natCast, Nat.zero_add]; exact h1
 have hs : b.syms[p.toNat]? = some (symA b.syms p) := by unfold symA; rw [List.getElem?_eq_getElem hpl]; rfl
 rw [if_neg hc] at hT
 refine ix_map (symA b.syms p) (Int.natCast_nonneg _) (by rw [Int.toNat_natCast, Nat.zero_add]; exact hs) ?_
 (all_goals refine qgp (Lf.mk ?_))
 refine ar_w ?_
 (all_goals refine qgp (Lf.mk ?_))
 subst hT
 exact end_bO [_] rfl rfl rfl (Nat.le_of_eq rfl) (.tup (.cons .int (.cons .int .nil)))
theorem anot_bits : ∀ i : Fin 64, (~~~ (3#64)).getLsbD i = decide (2 ≤ i.1) := by decide
theorem anot_bv (x : BitVec 64) : x &&& ~~~ (3#64) = (x >>> 2) <<< 2 := by
 apply BitVec.eq_of_getLsbD_eq
 intro i hi
 rw [BitVec.getLsbD_and, anot_bits ⟨i, hi⟩, BitVec.getLsbD_shiftLeft, BitVec.getLsbD_ushiftRight]
 by_cases h : 2 ≤ i
 ·simp [h, hi, show ¬ i < 2 by omega, show 2 + (i - 2) = i by omega]
 ·simp [h, show i < 2 by omega]
theorem anot_3 {n : Int} (h0 : 0 ≤ n) (h1 : n ≤ 9223372036854775807) : bitI .andNot .i64 n 3 = n - n % 4 := by
 obtain ⟨a, rfl⟩ := Int.eq_ofNat_of_zero_le h0
 have ha : a ≤ 9223372036854775807 := by omega
 unfold bitI
 have e : (BitVec.ofInt IntKind.i64.bits (a : Int) &&& ~~~ BitVec.ofInt IntKind.i64.bits 3).toNat = a / 4 * 4 := by
  have e2 : BitVec.ofInt IntKind.i64.bits (a : Int) = BitVec.ofNat 64 a := rfl
  rw [e2]
  show (BitVec.ofNat 64 a &&& ~~~ (3#64)).toNat = _
  rw [anot_bv, BitVec.toNat_shiftLeft, BitVec.toNat_ushiftRight, BitVec.toNat_ofNat, Nat.mod_eq_of_lt (by omega : a < 2 ^ 64), Nat.shiftRight_eq_div_pow, Nat.shiftLeft_eq]
  omega
 show IntKind.i64.wrap ((_ : Nat) : Int) = _
 rw [e, wrap_i64 (by omega) (by omega)]
 omega
theorem info_tup (op : Int) : ∃ s : List UInt8, infoD op = .tup [.str s, .int .i64 (shapeI op)] := by
 unfold infoD shapeI
 cases infoR op with
 | none => exact ⟨[], rfl⟩
 | some r => exact ⟨r.name, rfl⟩
theorem away_meets : Meets Tryz.prog n_asm_away (SpecP (fun ((_, a, _) : Int × Int × Int) => 0 ≤ a ∧ a ≤ 1000000000000000) (fun (op, a, to) => [.int .i64 op, .int .i64 a, .int .i64 to])
  fun (op, a, to) => .tup [.int .i64 (awayA op a to).1, .int .i64 (awayA op a to).2]) := by
 refine meets_f tabOk Tryz.func71 rfl (by decide) ?_
 rintro ⟨op, a, to⟩ ⟨h0, h1⟩
 have h0 : 0 ≤ a := h0
 have h1 : a ≤ 1000000000000000 := h1
 refine ⟨Nat.le_refl _, by simp [Tryz.f71], fun E hE => ?_⟩
 show AWP _ _ _ _ (FinQ _ _ _ (.tup [.int .i64 (awayA op a to).1, .int .i64 (awayA op a to).2]) []) _ []
 have hA : awayA op a to = if (w64 (to - fromA op a)).tmod (ofA op) ≠ 0 then (0, 11)
  else if farA op a to < lowI (shapeI op) ∨ highI (shapeI op) < farA op a to then (farA op a to, 3) else (farA op a to, 0) := rfl
 have hF : farA op a to = w64 ((w64 (to - fromA op a)).tdiv (ofA op)) := rfl
 obtain ⟨s, hI⟩ := info_tup op
 have hof : ofA op ≠ 0 := by unfold ofA; split <;> decide
 generalize awayA op a to = A at *
 generalize shapeI op = sh at *
 refine awp_seqK (vcOk _ ?_)
 (all_goals refine qgp (Lf.mk ?_))
 refine awp_seqK (vcOk _ ?_)
 (all_goals refine qgp (Lf.mk ?_))
 refine awp_cut (α := Unit) (fun _ => True) (fun _ => [(0, .int .i64 op), (1, .int .i64 a), (2, .int .i64 to), (8, .int .i64 (fromA op a)), (9, .int .i64 (ofA op))]) (fun _ => []) ?_ ?_
 ·refine vcOk _ ?_
  (all_goals refine qgp ?_ <;> (repeat' first | exact trivial | intro hc | refine And.intro ?_ ?_) <;> refine Lf.mk ?_)
  ·refine bit_mk (anot_3 (by omega) (by omega)) ?_
   (all_goals refine qgp (Lf.mk ?_))
   refine ⟨(), trivial, weak_same rfl ⟨rfl, rfl, rfl, ?_, ?_, trivial⟩⟩
   ·show D.int .i64 (a + 4 - (a + 4) % 4) = _
    unfold fromA; rw [if_pos hc]
   ·show D.int .i64 4 = _
    unfold ofA; rw [if_pos hc]
  ·refine ⟨(), trivial, weak_same rfl ⟨rfl, rfl, rfl, ?_, ?_, trivial⟩⟩
   ·show D.int .i64 (a + 4) = _
    unfold fromA; rw [if_neg hc]
   ·show D.int .i64 2 = _
    unfold ofA; rw [if_neg hc]
 ·rintro _ _
  refine vcOk _ ?_
  generalize fromA op a = fr at *
  generalize ofA op = o at *
  (all_goals refine qgp (Lf.mk ?_))
  refine ar_w ?_
  (all_goals refine qgp (Lf.mk ?_))
  refine rem_w hof ?_
  (all_goals refine qgp ?_ <;> (repeat' first | exact trivial | intro hc | refine And.intro ?_ ?_) <;> refine Lf.mk ?_)
  ·rw [if_pos hc] at hA
   subst hA
   exact end_p (VS.mk (LeD.refl _))
  ·rw [if_neg (fun h => h hc)] at hA
   refine ar_w ?_
   (all_goals refine qgp (Lf.mk ?_))
   refine quo_w hof ?_
   (all_goals refine qgp (Lf.mk ?_))
   refine call_p info_meets op trivial (VS.mk (LeL.of_eq rfl)) ?_
   rw [hI]
   rw [← hF]
   (all_goals refine qgp (Lf.mk ?_))
   refine call_p range_meets sh trivial (VS.mk (LeL.of_eq rfl)) ?_
   (all_goals refine qgp ?_ <;> (repeat' first | exact trivial | intro hc | refine And.intro ?_ ?_) <;> refine Lf.mk ?_)
   ·rw [if_pos (.inl hc)] at hA
    subst hA
    exact end_p (VS.mk (LeD.refl _))
   ·rw [if_pos (.inr hc)] at hA
    subst hA
    exact end_p (VS.mk (LeD.refl _))
   ·rw [if_neg (by omega)] at hA
    subst hA
    exact end_p (VS.mk (LeD.refl _))
attribute [local irreducible] awayA targetA
structure LayIn (shut : List (List OVal)) (marks : List Int) (s : Lay) : Prop where
 size : ∀ x ∈ s.items, SizeOk shut x
 items : s.items.length ≤ 1000000
 len : marks.length = s.syms.length
 marksl : marks.length ≤ 1000000
 pos : ∀ m ∈ marks, 0 ≤ m
theorem placeI_at {pools : List (List OVal)} : ∀ (l : List AItem) (a : Int), 0 ≤ a → (∀ x ∈ l, SizeOk pools x) → ∀ x ∈ (placeI pools l a).1, SizeOk pools x ∧ 0 ≤ x.at_ ∧ x.at_ ≤ a + 5000000 * (l.length : Int)
 | [], a, h0, _, x, hx => by cases hx
 | y :: l, a, h0, hs, x, hx => by
  have hy := hs y List.mem_cons_self
  have hz := size_le (a := a) hy h0
  rw [placeI] at hx
  rcases List.mem_cons.1 hx with rfl | hx
  ·exact ⟨hy, h0, by dsimp only; simp only [List.length_cons]; omega⟩
  ·obtain ⟨h1, h2, h3⟩ := placeI_at l (a + sizeA pools y a) (by omega) (fun z hz => hs z (List.mem_cons_of_mem _ hz)) x hx
   exact ⟨h1, h2, by simp only [List.length_cons]; omega⟩
theorem placeI_short (pools : List (List OVal)) : ∀ (l : List AItem) (a : Int), shortN (placeI pools l a).1 = shortN l
 | [], a => rfl
 | x :: l, a => by
  have ih := placeI_short pools l (a + sizeA pools x a)
  unfold shortN at ih ⊢
  rw [placeI, List.filter_cons, List.filter_cons]
  split
  ·rw [List.length_cons, List.length_cons, ih]
  ·exact ih
theorem grow_size {pools : List (List OVal)} {syms : List OSym} {x : AItem} (h : SizeOk pools x) : SizeOk pools (growI syms x) := by
 unfold growI
 split
 ·exact h
 ·exact h
theorem grow_short (syms : List OSym) : ∀ l : List AItem, shortN (l.map (growI syms)) ≤ shortN l ∧ (l.any (mustL syms) = true → shortN (l.map (growI syms)) < shortN l)
 | [] => ⟨Nat.le_refl _, fun h => by cases h⟩
 | x :: l => by
  obtain ⟨h1, h2⟩ := grow_short syms l
  unfold shortN at h1 h2 ⊢
  rw [List.map_cons, List.filter_cons, List.filter_cons, List.any_cons]
  cases hm : mustL syms x with
  | true =>
   have hs : x.kind = 2 ∧ x.long = false := by unfold mustL at hm; simp at hm; exact ⟨hm.1, hm.2.1⟩
   have hg : growI syms x = { x with long := true } := by unfold growI; rw [if_pos hm]
   rw [hg]
   rw [if_neg (show ¬ decide (x.kind = 2 ∧ true = false) = true by simp), if_pos (show decide (x.kind = 2 ∧ x.long = false) = true by simpa using hs), List.length_cons]
   exact ⟨by omega, fun _ => by omega⟩
  | false =>
   have hg : growI syms x = x := by unfold growI; rw [if_neg (by rw [hm]; decide)]
   rw [hg, Bool.false_or]
   split
   ·rw [List.length_cons, List.length_cons]
    exact ⟨by omega, fun h => by have := h2 h; omega⟩
   ·exact ⟨h1, h2⟩
theorem LayIn.place {shut : List (List OVal)} {marks : List Int} {s : Lay} (h : LayIn shut marks s) : LayIn shut marks (placeL shut marks s).1 :=
 ⟨fun x hx => (placeI_at s.items 0 (Int.le_refl 0) h.size x hx).1, by show (placeI shut s.items 0).1.length ≤ _; rw [placeI_len]; exact h.items, by show _ = (placeS _ _ _ _).length; rw [placeS_len]; exact h.len, h.marksl, h.pos⟩
theorem LayIn.grow {shut : List (List OVal)} {marks : List Int} {s : Lay} {syms : List OSym} (h : LayIn shut marks s) : LayIn shut marks ⟨s.items.map (growI syms), s.syms⟩ :=
 ⟨fun x hx => by obtain ⟨y, hy, rfl⟩ := List.mem_map.1 hx; exact grow_size (h.size y hy), by rw [List.length_map]; exact h.items, h.len, h.marksl, h.pos⟩
theorem call_target {av : List D} {L : List Ob} {KP : D → Prop} {KW : D → List Ob → Prop} (q : List OEqu) (b : Bld) (v : OVal) (X : List Ob) (hl : b.syms.length ≤ 1000000) (hL : L = bO q b ++ X) (has : av = [.loc 0 0, valD v])
  (hK : KW (.tup [.int .i64 (targetA b.syms v).1, .int .i64 (targetA b.syms v).2]) (bO q b ++ X)) : CallS Tryz.prog n_asm_builder_target av L KP KW := by
 subst has
 exact call_b target_meets X (b, v, q) hl hL (LeL.refl _) rfl (.cons (.loc (Nat.lt_of_lt_of_le (by decide : 0 < 6) (Nat.le_of_eq rfl))) (.cons (valD_cl v) .nil)) (.tup (.cons .int (.cons .int .nil))) (bO_cl _ _) (bO_cl _ _) hK
theorem call_place {av : List D} {L : List Ob} {KP : D → Prop} {KW : D → List Ob → Prop} (q : List OEqu) (s : Lay) (marks : List Int) (shut : List (List OVal)) (cur : List OVal) (fe fa : Int) (X : List Ob) (h : LayIn shut marks s) (hL : L = bO q ⟨s.items, s.syms, marks, shut, false, cur, fe, fa⟩ ++ X) (has : av = [.loc 0 0])
  (hK : KW (.int .i64 (placeL shut marks s).2) (bO q ⟨(placeL shut marks s).1.items, (placeL shut marks s).1.syms, marks, shut, false, cur, fe, fa⟩ ++ X)) : CallS Tryz.prog n_asm_builder_place av L KP KW := by
 subst has
 exact call_b place_meets X (⟨s.items, s.syms, marks, shut, false, cur, fe, fa⟩, q) ⟨rfl, h.size, h.items, h.len, h.marksl, h.pos⟩ hL (LeL.refl _) rfl (.cons (.loc (Nat.lt_of_lt_of_le (by decide : 0 < 6) (Nat.le_of_eq rfl))) .nil) .int (bO_cl _ _) (bO_cl _ _) hK
theorem relaxF_step (shut : List (List OVal)) (marks : List Int) (f : Nat) (s : Lay) : relaxF shut marks (f + 1) s = if ((placeL shut marks s).1.items.any (mustL (placeL shut marks s).1.syms)) = false ∨ 8000 < (placeL shut marks s).2
      then (⟨(placeL shut marks s).1.items.map (growI (placeL shut marks s).1.syms), (placeL shut marks s).1.syms⟩, (placeL shut marks s).2)
      else relaxF shut marks f ⟨(placeL shut marks s).1.items.map (growI (placeL shut marks s).1.syms), (placeL shut marks s).1.syms⟩ := rfl
theorem relax_meets : Meets Tryz.prog n_asm_builder_relax (SpecF (fun ((s, marks, shut, _, _, _, _) : Lay × List Int × List (List OVal) × List OVal × Int × Int × List OEqu) => LayIn shut marks s) (fun _ => [.loc 0 0])
  (fun (s, marks, shut, cur, fe, fa, q) => bO q ⟨s.items, s.syms, marks, shut, false, cur, fe, fa⟩) (fun (s, marks, shut, _, _, _, _) => .int .i64 (relaxL shut marks s).2)
  fun (s, marks, shut, cur, fe, fa, q) => bO q ⟨(relaxL shut marks s).1.items, (relaxL shut marks s).1.syms, marks, shut, false, cur, fe, fa⟩) := by
 refine meets_f tabOk Tryz.func39 rfl (by decide) ?_
 rintro ⟨s, marks, shut, cur, fe, fa, q⟩ h
 have h : LayIn shut marks s := h
 refine ⟨Nat.le_refl _, by simp [Tryz.f39], fun E hE => ?_⟩
 have hE6 : E.L.length = 6 := by rw [hE]; rfl
 show AWP _ _ _ _ (FinQ _ _ _ (.int .i64 (relaxL shut marks s).2) (bO q ⟨(relaxL shut marks s).1.items, (relaxL shut marks s).1.syms, marks, shut, false, cur, fe, fa⟩)) _ (bO q ⟨s.items, s.syms, marks, shut, false, cur, fe, fa⟩)
 generalize hT : relaxL shut marks s = T
 have hT : relaxF shut marks (shortN s.items + 1) s = T := hT
 refine vcOk _ ?_
 (all_goals refine qgp (Lf.mk ?_))
 refine awp_loopW (α := Nat × Lay) (fun p => relaxF shut marks p.1 p.2 = T ∧ shortN p.2.items < p.1 ∧ LayIn shut marks p.2) (fun _ => [(0, .loc 0 0)]) (fun p => bO q ⟨p.2.items, p.2.syms, marks, shut, false, cur, fe, fa⟩) (fun p => p.1)
  (fun _ => by rw [hE6]; exact Nat.le_refl 6) (shortN s.items + 1, s) ⟨hT, Nat.lt_succ_self _, h⟩ ?_ ?_
 ·exact weak_same rfl ⟨rfl, trivial⟩
 rintro ⟨f, s1⟩ ⟨i1, i2, i3⟩
 dsimp only at i1 i2 i3 ⊢
 obtain ⟨f, rfl⟩ : ∃ g, f = g + 1 := ⟨f - 1, by omega⟩
 rw [relaxF_step] at i1
 have hpl := i3.place
 have hat : ∀ x ∈ (placeL shut marks s1).1.items, 0 ≤ x.at_ ∧ x.at_ ≤ 1000000000000000 := fun x hx => by
  obtain ⟨_, h1, h2⟩ := placeI_at s1.items 0 (Int.le_refl 0) i3.size x hx
  have := i3.items
  exact ⟨h1, by omega⟩
 have hsh : shortN (placeL shut marks s1).1.items = shortN s1.items := placeI_short shut s1.items 0
 refine vcOk _ ?_
 (all_goals refine qgp (Lf.mk ?_))
 refine call_place q s1 marks shut cur fe fa [] i3 rfl rfl ?_
 generalize placeL shut marks s1 = P at *
 obtain ⟨⟨PI, PS⟩, n⟩ := P
 dsimp only at i1 hpl hat hsh ⊢
 have hPIl : PI.length ≤ 1000000 := hpl.items
 have hgs := grow_short PS PI
 have hgl := hpl.grow (syms := PS)
 dsimp only at hgl
 (all_goals refine qgp (Lf.mk ?_))
 refine awp_loopW (α := Nat) (fun k => k ≤ PI.length) (fun k => [(0, .loc 0 0), (3, .int .i64 n), (4, .bool ((PI.take k).any (mustL PS))), (17, .int .i64 PI.length), (18, .int .i64 k)])
  (fun k => bO q ⟨(PI.take k).map (growI PS) ++ PI.drop k, PS, marks, shut, false, cur, fe, fa⟩) (fun k => PI.length - k) (fun _ => by rw [hE6]; exact Nat.le_refl 6) 0 (Nat.zero_le _) ?_ ?_
 ·exact weak_leS rfl ⟨.refl _, .refl _, .ff rfl, .refl _, .refl _, trivial⟩
 intro k hk
 have hk : k ≤ PI.length := hk
 refine vcOk _ ?_
 (all_goals refine qgp ?_ <;> (repeat' first | exact trivial | intro hc | refine And.intro ?_ ?_) <;> refine Lf.mk ?_)
 ·have hkl : k < PI.length := by omega
  obtain ⟨x, hx⟩ := at_of_lt (l := PI) (k := k) (by omega)
  have hgx : PI[k] = x := by rw [List.getElem?_eq_getElem hkl] at hx; exact Option.some.inj hx
  have hxa := hat x (List.mem_of_getElem? hx)
  have hdrop : PI.drop k = x :: PI.drop (k + 1) := by rw [List.drop_eq_getElem_cons hkl, hgx]
  have htake : (PI.take (k + 1)).map (growI PS) = (PI.take k).map (growI PS) ++ [growI PS x] := by rw [List.take_succ_eq_append_getElem hkl, hgx, List.map_append]; rfl
  have hany : (PI.take (k + 1)).any (mustL PS) = ((PI.take k).any (mustL PS) || mustL PS x) := by rw [List.take_succ_eq_append_getElem hkl, hgx, List.any_append, List.any_cons, List.any_nil, Bool.or_false]
  have hGl : ((PI.take k).map (growI PS)).length = k := by rw [List.length_map, List.length_take]; omega
  rw [hdrop]
  generalize (PI.take k).map (growI PS) = G at *
  generalize (PI.take k).any (mustL PS) = c at *
  have hmid := get_mid (a := G) (b := PI.drop (k + 1)) (x := x) hGl
  have hget : (G ++ x :: PI.drop (k + 1))[(((0 + ((k : Nat) : Int).toNat : Nat)) : Int).toNat]? = some x := by rw [Int.toNat_natCast, Nat.zero_add, Int.toNat_natCast]; exact hmid
  have hno : mustL PS x = false → growI PS x = x := fun h => by unfold growI; rw [if_neg (by rw [h]; decide)]
  have hyes : mustL PS x = true → growI PS x = { x with long := true } := fun h => by unfold growI; rw [if_pos h]
  have hms : mustL PS x = decide (x.kind = 2 ∧ x.long = false ∧ (targetA PS x.val).2 = 0 ∧ (awayA x.ins.op x.at_ (targetA PS x.val).1).2 = 3) := rfl
  have hLn : mustL PS x = false → bO q ⟨G ++ x :: PI.drop (k + 1), PS, marks, shut, false, cur, fe, fa⟩ = bO q ⟨(PI.take (k + 1)).map (growI PS) ++ PI.drop (k + 1), PS, marks, shut, false, cur, fe, fa⟩ := fun h => by rw [htake, hno h, List.append_assoc]; rfl
  have hAn : mustL PS x = false → (PI.take (k + 1)).any (mustL PS) = c := fun h => by rw [hany, h, Bool.or_false]
  have stop : ∀ {σ : List (Nat × D)}, mustL PS x = false → sameS σ [(0, .loc 0 0), (3, .int .i64 n), (4, .bool c), (17, .int .i64 PI.length), (18, .int .i64 ((k : Int) + 1))] →
    LoopEnd E.L.length (fun k => k ≤ PI.length) (fun k => [(0, .loc 0 0), (3, .int .i64 n), (4, .bool ((PI.take k).any (mustL PS))), (17, .int .i64 PI.length), (18, .int .i64 k)])
     (fun k => bO q ⟨(PI.take k).map (growI PS) ++ PI.drop k, PS, marks, shut, false, cur, fe, fa⟩) (fun k => PI.length - k) k σ (bO q ⟨G ++ x :: PI.drop (k + 1), PS, marks, shut, false, cur, fe, fa⟩) := fun {σ} hm hs =>
   loop_same (k + 1) (by show k + 1 ≤ _; omega) (by omega) (hLn hm) (by rw [hAn hm]; exact hs)
  refine ix_map x (Int.natCast_nonneg _) hget ?_
  (all_goals refine qgp ?_ <;> (repeat' first | exact trivial | intro hc | refine And.intro ?_ ?_) <;> refine Lf.mk ?_)
  ·refine stop (by rw [hms]; simp [hc]) ?_
   exact ⟨rfl, rfl, rfl, rfl, rfl, trivial⟩
  refine ix_map x (Int.natCast_nonneg _) hget ?_
  (all_goals refine qgp ?_ <;> (repeat' first | exact trivial | intro hc | refine And.intro ?_ ?_) <;> refine Lf.mk ?_)
  ·refine stop (by rw [hms]; simp [hc]) ?_
   exact ⟨rfl, rfl, rfl, rfl, rfl, trivial⟩
  refine ix_map x (Int.natCast_nonneg _) hget ?_
  (all_goals refine qgp (Lf.mk ?_))
  refine call_target q ⟨G ++ x :: PI.drop (k + 1), PS, marks, shut, false, cur, fe, fa⟩ x.val [] (by show PS.length ≤ _; have := hpl.len; have := hpl.marksl; dsimp only at *; omega) rfl rfl ?_
  rw [show Bld.syms ⟨G ++ x :: PI.drop (k + 1), PS, marks, shut, false, cur, fe, fa⟩ = PS from rfl]
  generalize targetA PS x.val = W at *
  obtain ⟨to, e⟩ := W
  dsimp only at hms ⊢
  (all_goals refine qgp ?_ <;> (repeat' first | exact trivial | intro hc | refine And.intro ?_ ?_) <;> refine Lf.mk ?_)
  ·refine ix_map x (Int.natCast_nonneg _) hget ?_
   (all_goals refine qgp (Lf.mk ?_))
   refine ix_map x (Int.natCast_nonneg _) hget ?_
   (all_goals refine qgp (Lf.mk ?_))
   refine call_p away_meets (x.ins.op, x.at_, to) hxa (VS.mk (LeL.of_eq rfl)) ?_
   (all_goals refine qgk ?_ <;> (repeat' first | exact trivial | intro hc | refine And.intro ?_ ?_) <;> refine Lf.mk ?_)
   ·have hm : mustL PS x = true := by rw [hms]; simp [*]
    refine ix_map x (Int.natCast_nonneg _) hget ?_
    (all_goals refine qgk (Lf.mk ?_))
    refine norm_mk ?_
    (all_goals refine qgk (Lf.mk ?_))
    refine loop_weak (k + 1) (by show k + 1 ≤ _; omega) (by omega) (weak_trans (weak_els (k := 1) (e := 13) ((G ++ { x with long := true } :: PI.drop (k + 1)).map itemD) rfl (by simp) ?_) (weak_leS ?_ ⟨.refl _, .refl _, ?_, .refl _, .refl _, trivial⟩))
    ·rw [← set_mid2 (f := itemD) (x := x) { x with long := true } hGl rfl]
     exact set_leL (.cons (.refl _) (.cons (.refl _) (.cons (.refl _) (.cons (.refl _) (.cons (.refl _) (.cons (.refl _) (.cons (.refl _) (.cons (.tt rfl) (LeL.refl _)))))))))
    ·dsimp only
     rw [htake, hyes hm, List.append_assoc]
     exact congrArg (fun c => Ob.cells c :: bT ⟨G ++ { x with long := true } :: PI.drop (k + 1), PS, marks, shut, false, cur, fe, fa⟩) (bC_same (by simp) rfl rfl rfl rfl rfl rfl)
    ·rw [hany, hm, Bool.or_true]
     exact .tt rfl
   ·refine stop (by rw [hms]; simp [hc]) ?_
    exact ⟨rfl, rfl, rfl, rfl, rfl, trivial⟩
  ·refine stop (by rw [hms]; simp [hc]) ?_
   exact ⟨rfl, rfl, rfl, rfl, rfl, trivial⟩
 all_goals
  have hk2 : k = PI.length := by omega
  have hT : PI.take k = PI := by rw [hk2, List.take_length]
  have hD : PI.drop k = [] := by rw [hk2, List.drop_length]
  rw [hT, hD, List.append_nil]
 ·rw [hT] at hc
  rw [if_pos (.inl hc)] at i1
  subst i1
  exact end_eq rfl rfl
 ·rw [if_pos (.inr hc)] at i1
  subst i1
  exact end_eq rfl rfl
 ·have hany : (PI.take k).any (mustL PS) = true := by assumption
  rw [hT] at hany
  rw [if_neg (fun h => h.elim (fun h => by rw [hany] at h; cases h) (fun h => by omega))] at i1
  have := hgs.2 hany
  exact loop_same (f, ⟨PI.map (growI PS), PS⟩) ⟨i1, by dsimp only; omega, hgl⟩ (by dsimp only; omega) rfl ⟨rfl, trivial⟩
end Go.Proofs.YthmdddenbfbefaaGreatDoor
