/-
  A part of the proof: what the given program's functions answer, each once; conditions that are enough for it.
-/
import Derived.Test.YtnkdeacghopkiaaGreatDoorSt2
import Derived.Test.YtnkdeacghopkiaaGreatDoorFw3
import Derived.Test.YtnkdeacghopkiaaGreatDoorSt1
import Derived.Shelf.RegionOpenPlain
import Derived.WalkKit
import Derived.Deep.RegionLaw
import Derived.Lib.Walk
import Derived.Sort.WalkB12
import Derived.Lib.SliceRun
import Derived.Lib.SlicesDelete
import Derived.OwnWalk
import Derived.Test.YtnkdeacghopkiaaGreatDoorFw2
namespace Go.Proofs.YtnkdeacghopkiaaGreatDoor
open Go Go.Plat
set_option linter.unusedVariables false
set_option linter.unusedSimpArgs false
set_option maxRecDepth 100000
set_option maxHeartbeats 2000000
attribute [local irreducible] AWP zN yv zU zo yC yh zG yb Lib.itoa yf zx za zY yz zr yg zg.kids zg.kind zg.n zg.name yx yy yn yo zw zy xn wg zT vO xf y9 wU wd xE xK yQ yr yR xI x1 ww xo wW zH zS wV yS
def eC (q : List zj) (b : Bld) (o : Out) : List D := [.sl 2 (q.map xY) none, .osl 13 1 b.items.length 0 b.items.length, .osl 2 2 b.syms.length 0 b.syms.length, .sl 1 (b.marks.map (.int .i64)) (some 3),
 .osl 1 4 (zF b).length 0 (zF b).length, .int .i64 b.shut.length, .sl 1 (o.code.map zA) (some 6), .nilsl, .sl 4 (o.rels.map jE) (some 5), .int .i64 o.fe, .int .i64 o.fa]
def eT (b : Bld) (o : Out) : List Ob := [.arr 13 (b.items.map xa), .arr 2 (b.syms.map xm), .spare b.marks.length, .arr 1 (b.shut.map yZ), .spare o.rels.length, .spare o.code.length]
def eO (q : List zj) (b : Bld) (o : Out) : List Ob := .cells (eC q b o) :: eT b o
theorem zhe {n : Nat} (l : List (List zq)) : ∀ d ∈ l.map yZ, ClL n d.cells := by
 intro d hd
 obtain ⟨x, _, rfl⟩ := List.mem_map.1 hd
 exact .cons .sl .nil
theorem wD (q : List zj) (b : Bld) (o : Out) : ∀ x ∈ eO q b o, ClO 7 x := by
 intro x hx
 simp only [eO, eT, List.mem_cons, List.not_mem_nil, or_false] at hx
 rcases hx with rfl | rfl | rfl | rfl | rfl | rfl | rfl
 ·exact .cells (.cons .sl (.cons (.osl (by decide)) (.cons (.osl (by decide)) (.cons (.tok (by decide)) (.cons (.osl (by decide)) (.cons .int (.cons (.tok (by decide)) (.cons .nilsl (.cons (.tok (by decide)) (.cons .int (.cons .int .nil)))))))))))
 ·exact .arr (qX _)
 ·exact .arr (jj _)
 ·exact .spare
 ·exact .arr (zhe _)
 ·exact .spare
 ·exact .spare
theorem xL {n0 : Nat} {q : List zj} {b : Bld} {o o' : Out} {r d : D} {L : List Ob} (X : List Ob) (hL : L = eO q b o' ++ X) (ho : o' = o) (hr : r = d) (hn : n0 ≤ 7) (hd : ClD 7 d) : zG n0 r d L (eO q b o) := by
 subst ho; subst hr
 exact xc (eO q b o') X hL hn hd (wD _ _ _)
theorem zoX (q : List zj) (b : Bld) (o : Out) (e line : Int) : Ob.cells [.sl 2 (q.map xY) none, .osl 13 1 b.items.length 0 b.items.length, .osl 2 2 b.syms.length 0 b.syms.length, .sl 1 (b.marks.map (.int .i64)) (some 3),
  .osl 1 4 (zF b).length 0 (zF b).length, .int .i64 b.shut.length, .sl 1 (o.code.map zA) (some 6), .nilsl, .sl 4 (o.rels.map jE) (some 5), .int .i64 (if o.fe = 0 then e else o.fe), .int .i64 (if o.fe = 0 then line else o.fa)] :: eT b o = eO q b (vk o e line) := by
 unfold vk
 by_cases h : o.fe = 0
 ·rw [if_pos h, if_pos h, if_pos h]; rfl
 ·rw [if_neg h, if_neg h, if_neg h]; rfl
theorem jG {av : List D} {L : List Ob} {KP : D → Prop} {KW : D → List Ob → Prop} (q : List zj) (b : Bld) (o : Out) (e line : Int) (X : List Ob) (hL : L = eO q b o ++ X) (has : av = [.loc 0 0, .int .i64 e, .int .i64 line])
  (hK : KW .ff (eO q b (vk o e line) ++ X)) : zo Tryz.prog vv av L KP KW := by
 subst has
 refine xg zgv X ((.sl 2 (q.map xY) none, .osl 13 1 b.items.length 0 b.items.length, .osl 2 2 b.syms.length 0 b.syms.length, .sl 1 (b.marks.map (.int .i64)) (some 3),
  .osl 1 4 (zF b).length 0 (zF b).length, .int .i64 b.shut.length, .sl 1 (o.code.map zA) (some 6), .nilsl, .sl 4 (o.rels.map jE) (some 5)), o.fe, o.fa, e, line, eT b o) trivial hL (LeL.refl _) rfl ?_ .ff (wD q b o) ?_ ?_
 ·exact .cons (.loc (Nat.lt_of_lt_of_le (by decide : 0 < 7) (Nat.le_of_eq rfl))) (.cons .int (.cons .int .nil))
 ·dsimp only
  rw [zoX]
  exact wD q b _
 ·dsimp only
  rw [zoX]
  exact hK
theorem zqa : za Tryz.prog zaL (z1 (fun ((_, o, _, _, _) : Bld × Out × Ins × Int × List zj) => o.code.length ≤ 1000000000) (fun (_, _, i, line, _) => [.loc 0 0, zg8 i, .int .i64 line])
  (fun (b, o, _, _, q) => eO q b o) (fun _ => .tup []) fun (b, o, i, line, q) => eO q b (xy o i line)) := by
 refine ze zi Tryz.func126 rfl (by decide) ?_
 rintro ⟨b, o, i, line, q⟩ hl
 have hl : o.code.length ≤ 1000000000 := hl
 refine ⟨Nat.le_refl _, by simp [Tryz.f126], fun E hE => ?_⟩
 show AWP _ _ _ _ (vV _ _ _ _ (eO q b (xy o i line))) _ (eO q b o)
 have hH : xy o i line = if yS i = 0 then ⟨o.code ++ [zt (vO i / 256), zt (vO i)], o.rels, o.fe, o.fa⟩ else vk o (yS i) line := rfl
 generalize xy o i line = H at *
 refine zb _ ?_
 (all_goals refine qgp (Lf.mk ?_))
 refine zd zmp i trivial (VS.mk (LeL.of_eq rfl)) ?_
 generalize yS i = W at *
 (all_goals refine qgp ?_ <;> (repeat' first | exact trivial | intro hc | refine And.intro ?_ ?_) <;> refine Lf.mk ?_)
 ·rw [if_neg hc] at hH
  refine jG q b o W line [_] rfl rfl ?_
  rw [← hH]
  (all_goals refine qgp (Lf.mk ?_))
  exact xL [_] rfl rfl rfl (Nat.le_of_eq rfl) .tup0
 ·rw [if_pos hc] at hH
  subst hH
  have he : (if W = 0 then vO i else 0) = vO i := if_pos hc
  simp only [he]
  exact xL (o' := ⟨o.code ++ [zt (vO i / 256), zt (vO i)], o.rels, o.fe, o.fa⟩) [_] rfl rfl rfl (Nat.le_of_eq rfl) .tup0
theorem zoY {n : Nat} (i : Ins) : ClD n (zg8 i) := .agg (.cons .int (.cons .int (.cons .int (.cons .int .nil))))
theorem zcD {av : List D} {L : List Ob} {KP : D → Prop} {KW : D → List Ob → Prop} (q : List zj) (b : Bld) (o : Out) (i : Ins) (line : Int) (X : List Ob) (hl : o.code.length ≤ 1000000000) (hL : L = eO q b o ++ X) (has : LeL av [.loc 0 0, zg8 i, .int .i64 line])
  (hK : KW (.tup []) (eO q b (xy o i line) ++ X)) : zo Tryz.prog zaL av L KP KW := by
 refine zda has ?_
 exact xg zqa X (b, o, i, line, q) hl hL (LeL.refl _) rfl (.cons (.loc (Nat.lt_of_lt_of_le (by decide : 0 < 7) (Nat.le_of_eq rfl))) (.cons (zoY i) (.cons .int .nil))) .tup0 (wD _ _ _) (wD _ _ _) hK
theorem zcb (o : Out) (i : Ins) (line : Int) : (xy o i line).code.length ≤ o.code.length + 2 := by
 unfold xy vk
 repeat' split
 all_goals simp
theorem zcc (o : Out) (i : Ins) (a to line : Int) : (xM o i a to line).code.length ≤ o.code.length + 2 := by
 unfold xM
 split
 ·exact zcb _ _ _
 ·unfold vk; split <;> simp
attribute [local irreducible] xy
theorem zqb : za Tryz.prog zaM (z1 (fun ((_, o, _, a, _, _, _) : Bld × Out × Ins × Int × Int × Int × List zj) => o.code.length ≤ 1000000000 ∧ 0 ≤ a ∧ a ≤ 1000000000000000) (fun (_, _, i, a, to, line, _) => [.loc 0 0, zg8 i, .int .i64 a, .int .i64 to, .int .i64 line])
  (fun (b, o, _, _, _, _, q) => eO q b o) (fun _ => .tup []) fun (b, o, i, a, to, line, q) => eO q b (xM o i a to line)) := by
 refine ze zi Tryz.func129 rfl (by decide) ?_
 rintro ⟨b, o, i, a, to, line, q⟩ ⟨hl, h0, h1⟩
 have hl : o.code.length ≤ 1000000000 := hl
 refine ⟨Nat.le_refl _, by simp [Tryz.f129], fun E hE => ?_⟩
 show AWP _ _ _ _ (vV _ _ _ _ (eO q b (xM o i a to line))) _ (eO q b o)
 have hH : xM o i a to line = if (wg i.op a to).2 = 0 then xy o ⟨i.op, i.n, i.m, (wg i.op a to).1⟩ line else vk o (wg i.op a to).2 line := rfl
 generalize xM o i a to line = H at *
 refine zb _ ?_
 (all_goals refine qgp (Lf.mk ?_))
 refine zd ziq (i.op, a, to) ⟨h0, h1⟩ (VS.mk (LeL.of_eq rfl)) ?_
 dsimp only
 generalize wg i.op a to = W at *
 (all_goals refine qgp ?_ <;> (repeat' first | exact trivial | intro hc | refine And.intro ?_ ?_) <;> refine Lf.mk ?_)
 ·rw [if_neg hc] at hH
  refine jG q b o W.2 line [_] rfl rfl ?_
  rw [← hH]
  (all_goals refine qgp (Lf.mk ?_))
  exact xL [_] rfl rfl rfl (Nat.le_of_eq rfl) .tup0
 ·rw [if_pos hc] at hH
  refine zcD q b o ⟨i.op, i.n, i.m, W.1⟩ line [_] hl rfl (LeL.of_eq rfl) ?_
  rw [← hH]
  (all_goals refine qgp (Lf.mk ?_))
  exact xL [_] rfl rfl rfl (Nat.le_of_eq rfl) .tup0
theorem zcE {av : List D} {L : List Ob} {KP : D → Prop} {KW : D → List Ob → Prop} (q : List zj) (b : Bld) (o : Out) (i : Ins) (a to line : Int) (X : List Ob) (hl : o.code.length ≤ 1000000000) (h0 : 0 ≤ a) (h1 : a ≤ 1000000000000000) (hL : L = eO q b o ++ X)
  (has : LeL av [.loc 0 0, zg8 i, .int .i64 a, .int .i64 to, .int .i64 line]) (hK : KW (.tup []) (eO q b (xM o i a to line) ++ X)) : zo Tryz.prog zaM av L KP KW := by
 refine zda has ?_
 exact xg zqb X (b, o, i, a, to, line, q) ⟨hl, h0, h1⟩ hL (LeL.refl _) rfl (.cons (.loc (Nat.lt_of_lt_of_le (by decide : 0 < 7) (Nat.le_of_eq rfl))) (.cons (zoY i) (.cons .int (.cons .int (.cons .int .nil))))) .tup0 (wD _ _ _) (wD _ _ _) hK
attribute [local irreducible] xM
theorem zqc : za Tryz.prog zaN (z1 (fun ((b, o, k, x, _, _) : Bld × Out × Nat × zD × Int × List zj) => o.code.length ≤ 900000000 ∧ b.items[k]? = some x ∧ 0 ≤ x.at_ ∧ x.at_ ≤ 100000000000000) (fun (b, _, k, _, to, _) => [.loc 0 0, .aloc 1 b.items.length k 0, .int .i64 to])
  (fun (b, o, _, _, _, q) => eO q b o) (fun _ => .tup []) fun (b, o, _, x, to, q) => eO q b (qk o x to)) := by
 refine ze zi Tryz.func130 rfl (by decide) ?_
 rintro ⟨b, o, k, x, to, q⟩ ⟨hl, hx, h0, h1⟩
 have hl : o.code.length ≤ 900000000 := hl
 have hx : b.items[k]? = some x := hx
 have h0 : 0 ≤ x.at_ := h0
 have h1 : x.at_ ≤ 100000000000000 := h1
 have hxn : b.items[((k : Nat) : Int).toNat]? = some x := by rw [Int.toNat_natCast]; exact hx
 refine ⟨Nat.le_refl _, by simp [Tryz.f130], fun E hE => ?_⟩
 show AWP _ _ _ _ (vV _ _ _ _ (eO q b (qk o x to))) _ (eO q b o)
 have hH : qk o x to = if x.long = false then xM o x.ins x.at_ to x.line else xy (xM (xy o ⟨w64 (35 - x.ins.op), 0, 0, 1⟩ x.line) ⟨19, 0, 0, 0⟩ (x.at_ + 2) to x.line) ⟨1, 0, 0, 0⟩ x.line := rfl
 generalize qk o x to = H at *
 have hl1 := zcb o ⟨w64 (35 - x.ins.op), 0, 0, 1⟩ x.line
 have hl2 := zcc (xy o ⟨w64 (35 - x.ins.op), 0, 0, 1⟩ x.line) ⟨19, 0, 0, 0⟩ (x.at_ + 2) to x.line
 refine zb _ ?_
 (all_goals refine qgp (Lf.mk ?_))
 refine zk x (Int.natCast_nonneg k) hxn ?_
 (all_goals refine qgp ?_ <;> (repeat' first | exact trivial | intro hc | refine And.intro ?_ ?_) <;> refine Lf.mk ?_)
 ·rw [if_pos hc] at hH
  refine zk x (Int.natCast_nonneg k) hxn ?_
  (all_goals refine qgp (Lf.mk ?_))
  refine zk x (Int.natCast_nonneg k) hxn ?_
  (all_goals refine qgp (Lf.mk ?_))
  refine zk x (Int.natCast_nonneg k) hxn ?_
  (all_goals refine qgp (Lf.mk ?_))
  refine zcE q b o x.ins x.at_ to x.line [] (by omega) h0 (by omega) rfl (LeL.of_eq rfl) ?_
  rw [← hH]
  (all_goals refine qgp (Lf.mk ?_))
  exact xL [] rfl rfl rfl (Nat.le_of_eq rfl) .tup0
 ·rw [if_neg (by rw [hc]; decide)] at hH
  refine zk x (Int.natCast_nonneg k) hxn ?_
  (all_goals refine qgp (Lf.mk ?_))
  refine zmO ?_
  (all_goals refine qgp (Lf.mk ?_))
  refine zk x (Int.natCast_nonneg k) hxn ?_
  (all_goals refine qgp (Lf.mk ?_))
  refine zcD q b o ⟨w64 (35 - x.ins.op), 0, 0, 1⟩ x.line [_] (by omega) rfl (LeL.of_eq rfl) ?_
  generalize xy o ⟨w64 (35 - x.ins.op), 0, 0, 1⟩ x.line = o1 at *
  (all_goals refine qgp (Lf.mk ?_))
  refine zk x (Int.natCast_nonneg k) hxn ?_
  (all_goals refine qgp (Lf.mk ?_))
  refine zk x (Int.natCast_nonneg k) hxn ?_
  (all_goals refine qgp (Lf.mk ?_))
  refine zcE q b o1 ⟨19, 0, 0, 0⟩ (x.at_ + 2) to x.line [_] (by omega) (by omega) (by omega) rfl (LeL.of_eq rfl) ?_
  generalize xM o1 ⟨19, 0, 0, 0⟩ (x.at_ + 2) to x.line = o2 at *
  (all_goals refine qgp (Lf.mk ?_))
  refine zk x (Int.natCast_nonneg k) hxn ?_
  (all_goals refine qgp (Lf.mk ?_))
  refine zcD q b o2 ⟨1, 0, 0, 0⟩ x.line [_] (by omega) rfl (LeL.of_eq rfl) ?_
  rw [← hH]
  (all_goals refine qgp (Lf.mk ?_))
  exact xL [_] rfl rfl rfl (Nat.le_of_eq rfl) .tup0
end Go.Proofs.YtnkdeacghopkiaaGreatDoor
namespace Go.Proofs.YtnkdeacghopkiaaGreatDoor
open Go Go.Plat
set_option linter.unusedVariables false
set_option linter.unusedSimpArgs false
set_option maxRecDepth 100000
set_option maxHeartbeats 2000000
attribute [local irreducible] AWP zN yv zU zo yC yh zG yb Lib.itoa yf zx za zY yz zr yg zg.kids zg.kind zg.n zg.name yx yy yn yo zw zy xn wg zT vO xf y9 wU wd xE xK yQ yr yR xI x1 ww zE xo wW zH wV yS
theorem zmQ {av : List D} {L : List Ob} {KP : D → Prop} {KW : D → List Ob → Prop} (q : List zj) (b : Bld) (o : Out) (v : zq) (X : List Ob) (hl : b.syms.length ≤ 1000000) (hL : L = eO q b o ++ X) (has : av = [.loc 0 0, yw v])
  (hK : KW (.tup [.int .i64 (zS b.syms v).1, .int .i64 (zS b.syms v).2]) (eO q b o ++ X)) : zo Tryz.prog wR av L KP KW := by
 subst has
 have hm : za Tryz.prog wR (z1 (fun ((b, _, _, _) : Bld × Out × zq × List zj) => b.syms.length ≤ 1000000) (fun (_, _, v, _) => [.loc 0 0, yw v])
   (fun (b, o, _, q) => eO q b o) (fun (b, _, v, _) => .tup [.int .i64 (zS b.syms v).1, .int .i64 (zS b.syms v).2]) fun (b, o, _, q) => eO q b o) := by
  clear hK hL hl
  refine ze zi Tryz.func121 rfl (by decide) ?_
  rintro ⟨b, o, v, q⟩ hl
  have hl : b.syms.length ≤ 1000000 := hl
  refine ⟨Nat.le_refl _, by simp [Tryz.f121], fun E hE => ?_⟩
  show AWP _ _ _ _ (vV _ _ _ (.tup [.int .i64 (zS b.syms v).1, .int .i64 (zS b.syms v).2]) (eO q b o)) _ (eO q b o)
  have hT : zS b.syms v = if v.name = [] then (0, 8) else if zjm v.name b.syms 0 < 0 then (0, 6) else (w64 ((zb6 b.syms (zjm v.name b.syms 0)).at_ + v.n), 0) := rfl
  generalize zS b.syms v = T at *
  refine zb _ ?_
  (all_goals refine qgp ?_ <;> (repeat' first | exact trivial | intro hc | refine And.intro ?_ ?_) <;> refine Lf.mk ?_)
  ·rw [if_pos hc] at hT
   subst hT
   exact xL [_] rfl rfl rfl (Nat.le_of_eq rfl) (.tup (.cons .int (.cons .int .nil)))
  rw [if_neg hc] at hT
  refine zhc vN [.loc 7 0] (fun s => s.name == v.name) b.syms (.cells (eC q b o)) (.arr 13 (b.items.map xa)) [.spare b.marks.length, .arr 1 (b.shut.map yZ), .spare o.rels.length, .spare o.code.length, .cells [.str v.name, .int .i64 v.n]] (by omega) rfl rfl
   (fun s hs KP KW hK => ?_) ?_
  ·exact ye zem [7] [7] (s, v) trivial rfl rfl ⟨VS.mk (LeL.refl _), VS.mk rfl, hK⟩
  have hp := zbo (fun s : zZ => s.name == v.name) b.syms 0
  have hT : T = if y6 (fun s : zZ => s.name == v.name) b.syms 0 < 0 then (0, 6) else (w64 ((zb6 b.syms (y6 (fun s : zZ => s.name == v.name) b.syms 0)).at_ + v.n), 0) := hT
  generalize y6 (fun s : zZ => s.name == v.name) b.syms 0 = p at *
  (all_goals refine qgp ?_ <;> (repeat' first | exact trivial | intro hc | refine And.intro ?_ ?_) <;> refine Lf.mk ?_)
  ·rw [if_pos hc] at hT
   subst hT
   exact xL [_] rfl rfl rfl (Nat.le_of_eq rfl) (.tup (.cons .int (.cons .int .nil)))
  have hpl : p.toNat < b.syms.length := by
   rcases hp with h | ⟨j, h1, h2⟩
   ·omega
   ·rw [h2, Int.toNat_natCast, Nat.zero_add]; exact h1
  have hs : b.syms[p.toNat]? = some (zb6 b.syms p) := by unfold zb6; rw [List.getElem?_eq_getElem hpl]; rfl
  rw [if_neg hc] at hT
  refine zk (zb6 b.syms p) (Int.natCast_nonneg _) (by rw [Int.toNat_natCast, Nat.zero_add]; exact hs) ?_
  (all_goals refine qgp (Lf.mk ?_))
  refine zmO ?_
  (all_goals refine qgp (Lf.mk ?_))
  subst hT
  exact xL [_] rfl rfl rfl (Nat.le_of_eq rfl) (.tup (.cons .int (.cons .int .nil)))
 exact xg hm X (b, o, v, q) hl hL (LeL.refl _) rfl (.cons (.loc (Nat.lt_of_lt_of_le (by decide : 0 < 7) (Nat.le_of_eq rfl))) (.cons (zah v) .nil)) (.tup (.cons .int (.cons .int .nil))) (wD _ _ _) (wD _ _ _) hK
attribute [local irreducible] zS
theorem zcF (syms : List zZ) (o : Out) (v : zq) (size : Nat) : (x6 syms o v size).code.length = o.code.length + size := by
 unfold x6
 split
 ·dsimp only
  rw [zab]
  simp
 ·simp
theorem zn5 : za Tryz.prog zaJ (z1 (fun ((b, o, _, size, _) : Bld × Out × zq × Nat × List zj) => b.syms.length ≤ 1000000 ∧ o.code.length ≤ 500000000 ∧ o.rels.length ≤ 500000000 ∧ 0 < size ∧ size ≤ 4) (fun (_, _, v, size, _) => [.loc 0 0, yw v, .int .i64 size])
  (fun (b, o, _, _, q) => eO q b o) (fun _ => .tup []) fun (b, o, v, size, q) => eO q b (x6 b.syms o v size)) := by
 refine ztQ 6 zi Tryz.func123 rfl (by decide) ?_
 rintro ⟨b, o, v, size, q⟩ ⟨hs, hl, hr, h0, h4⟩
 have hs : b.syms.length ≤ 1000000 := hs
 have hl : o.code.length ≤ 500000000 := hl
 have hr : o.rels.length ≤ 500000000 := hr
 have h0 : 0 < size := h0
 have h4 : size ≤ 4 := h4
 have hlen := zcF b.syms o v size
 refine ⟨Nat.le_succ 6, ?_, Nat.le_refl _, by simp [Tryz.f123], fun E hE => ?_⟩
 ·intro k hk hk2
  obtain rfl : k = 6 := by
   have : k < 7 := hk2
   omega
  exact ⟨_, _, rfl, rfl, by rw [hlen]; omega⟩
 show AWP _ _ _ _ (vV _ _ _ _ (eO q b (x6 b.syms o v size))) _ (eO q b o)
 have hW : x6 b.syms o v size = if v.name = [] then ⟨x1 (o.code ++ List.replicate size 0) o.code.length size v.n, o.rels, o.fe, o.fa⟩
  else ⟨o.code ++ List.replicate size 0, o.rels ++ [zhb b.syms o.code.length size v], o.fe, o.fa⟩ := rfl
 generalize x6 b.syms o v size = W at *
 refine zb _ ?_
 (all_goals refine qgk (Lf.mk ?_))
 refine yV ((o.code ++ List.replicate size 0).map zA) (by rw [List.map_append, List.map_replicate]; rfl) ?_
 have hcl : (o.code ++ List.replicate size 0).length = o.code.length + size := by simp
 rw [List.length_map]
 (all_goals refine qgk ?_ <;> (repeat' first | exact trivial | intro hc | refine And.intro ?_ ?_) <;> refine Lf.mk ?_)
 ·rw [if_pos hc] at hW
  refine ye zaR [] [8] (o.code ++ List.replicate size 0, o.code.length, size, v.n) ⟨by show -1000000000000 ≤ ((o.code.length : Nat) : Int); omega, by show ((o.code.length : Nat) : Int) ≤ _; omega, by show size ≤ _; omega, by show (o.code ++ List.replicate size 0).length ≤ _; omega⟩ rfl rfl ?_
  refine And.intro (VS.mk (LeL.of_eq rfl)) (And.intro (VS.mk rfl) ?_)
  (all_goals refine qgk (Lf.mk ?_))
  have key : ∀ k, k < 6 → zC [0, 1, 2, 3, 4, 5, 8] 0 k = some k := by decide
  subst hW
  have hpl := zab o.code.length size (o.code ++ List.replicate size 0) v.n
  refine ze1 [0, 1, 2, 3, 4, 5, 8] rfl rfl ?_ (ClD.tup0 (n := 6) _ key)
  refine .cons (o := .cells [.sl 2 (q.map xY) none, .osl 13 1 b.items.length 0 b.items.length, .osl 2 2 b.syms.length 0 b.syms.length, .sl 1 (b.marks.map (.int .i64)) (some 3), .osl 1 4 (zF b).length 0 (zF b).length, .int .i64 b.shut.length,
   .sl 1 ((x1 (o.code ++ List.replicate size 0) o.code.length size v.n).map zA) (some 8), .nilsl, .sl 4 (o.rels.map jE) (some 5), .int .i64 o.fe, .int .i64 o.fa]) rfl
   ⟨_, rfl, .cons (ClD.sl (n := 6) _ key) (.cons (ClD.osl (n := 6) (by decide) _ key) (.cons (ClD.osl (n := 6) (by decide) _ key) (.cons (ClD.tok (n := 6) (by decide) _ key) (.cons (ClD.osl (n := 6) (by decide) _ key) (.cons (ClD.int (n := 6) _ key)
     (.cons (.tok rfl) (.cons (ClD.nilsl (n := 6) _ key) (.cons (ClD.tok (n := 6) (by decide) _ key) (.cons (ClD.int (n := 6) _ key) (.cons (ClD.int (n := 6) _ key) .nil))))))))))⟩
   (.cons (o := .arr 13 (b.items.map xa)) rfl (ClO.arr (n := 6) (qX _) _ key) (.cons (o := .arr 2 (b.syms.map xm)) rfl (ClO.arr (n := 6) (jj _) _ key) (.cons (o := .spare b.marks.length) rfl rfl
   (.cons (o := .arr 1 (b.shut.map yZ)) rfl (ClO.arr (n := 6) (zhe _) _ key) (.cons (o := .spare o.rels.length) rfl rfl (.cons (o := .spare (o.code ++ List.replicate size 0).length) rfl (by rw [hpl]; rfl) .nil))))))
 ·rw [if_neg hc] at hW
  refine zmQ q b ⟨o.code ++ List.replicate size 0, o.rels, o.fe, o.fa⟩ v [_, _] hs rfl rfl ?_
  have hR : zhb b.syms o.code.length size v = if (zS b.syms v).2 = 0 then ⟨o.code.length, size, [], zE (zS b.syms v).1 32⟩ else ⟨o.code.length, size, v.name, v.n⟩ := rfl
  generalize zS b.syms v = T at *
  (all_goals refine qgk ?_ <;> (repeat' first | exact trivial | intro hc | refine And.intro ?_ ?_) <;> refine Lf.mk ?_)
  ·rw [if_pos hc] at hR
   refine zd wa T.1 trivial (VS.mk (LeL.of_eq rfl)) ?_
   (all_goals refine qgk (Lf.mk ?_))
   refine yV ((o.rels ++ [zhb b.syms o.code.length size v]).map jE) (by rw [hR, List.map_append]; rfl) ?_
   rw [List.length_map]
   (all_goals refine qgk (Lf.mk ?_))
   subst hW
   exact xL (o' := ⟨o.code ++ List.replicate size 0, o.rels ++ [zhb b.syms o.code.length size v], o.fe, o.fa⟩) [_, _] rfl rfl rfl (by decide) .tup0
  ·rw [if_neg hc] at hR
   refine yV ((o.rels ++ [zhb b.syms o.code.length size v]).map jE) (by rw [hR, List.map_append]; rfl) ?_
   rw [List.length_map]
   (all_goals refine qgk (Lf.mk ?_))
   subst hW
   exact xL (o' := ⟨o.code ++ List.replicate size 0, o.rels ++ [zhb b.syms o.code.length size v], o.fe, o.fa⟩) [_, _] rfl rfl rfl (by decide) .tup0
attribute [local irreducible] xy xM qk
theorem zqd {o : Out} {to : Int} (h : to ≤ o.code.length) : x7 o to = o := by
 unfold x7
 rw [show (to - (o.code.length : Int)).toNat = 0 by omega]
 simp
theorem zqe {o : Out} {to : Int} (h : (o.code.length : Int) < to) : x7 ⟨o.code ++ [0], o.rels, o.fe, o.fa⟩ to = x7 o to := by
 unfold x7
 have : (to - (o.code.length : Int)).toNat = (to - ((o.code ++ [0]).length : Int)).toNat + 1 := by simp; omega
 rw [this, List.replicate_succ]
 simp
theorem zun {o : Out} {to : Int} {m : Nat} (h1 : o.code.length ≤ m) (h2 : to ≤ m) : (x7 o to).code.length ≤ m := by
 unfold x7
 simp only [List.length_append, List.length_replicate]
 omega
theorem zfm (o : Out) (to : Int) : (x7 o to).rels = o.rels := by unfold x7; rfl
theorem zfn (syms : List zZ) (o : Out) (v : zq) (size : Nat) : (x6 syms o v size).rels.length ≤ o.rels.length + 1 := by
 unfold x6
 split
 ·exact Nat.le_succ _
 ·simp
theorem zn6 : za Tryz.prog zaK (z1 (fun ((_, o, to, _) : Bld × Out × Int × List zj) => o.code.length ≤ 1000000000 ∧ to ≤ 1000000000) (fun (_, _, to, _) => [.loc 0 0, .int .i64 to])
  (fun (b, o, _, q) => eO q b o) (fun _ => .tup []) fun (b, o, to, q) => eO q b (x7 o to)) := by
 refine ze zi Tryz.func124 rfl (by decide) ?_
 rintro ⟨b, o, to, q⟩ ⟨hl, ht⟩
 have hl : o.code.length ≤ 1000000000 := hl
 have ht : to ≤ 1000000000 := ht
 refine ⟨Nat.le_refl _, by simp [Tryz.f124], fun E hE => ?_⟩
 have hE7 : E.L.length = 7 := by rw [hE]; rfl
 show AWP _ _ _ _ (vV _ _ _ _ (eO q b (x7 o to))) _ (eO q b o)
 generalize hF : x7 o to = F
 refine zb _ ?_
 (all_goals refine qgp (Lf.mk ?_))
 refine z7 (α := Out) (fun p => x7 p to = F ∧ p.code.length ≤ 1000000000) (fun _ => [(0, .loc 0 0), (1, .int .i64 to)]) (fun p => eO q b p) (fun p => (to - (p.code.length : Int)).toNat) (fun _ => by rw [hE7]; exact Nat.le_refl 7) o ⟨hF, hl⟩ ?_ ?_
 ·exact zX rfl ⟨rfl, rfl, trivial⟩
 rintro p ⟨i1, i2⟩
 refine zb _ ?_
 (all_goals refine qgk ?_ <;> (repeat' first | exact trivial | intro hc | refine And.intro ?_ ?_) <;> refine Lf.mk ?_)
 ·refine yV ((p.code ++ [0]).map zA) (by rw [List.map_append]; rfl) ?_
  rw [List.length_map]
  (all_goals refine qgk (Lf.mk ?_))
  exact zR (⟨p.code ++ [0], p.rels, p.fe, p.fa⟩ : Out) ⟨by rw [zqe hc]; exact i1, by show (p.code ++ [0]).length ≤ _; simp; omega⟩ (by show (to - ((p.code ++ [0]).length : Int)).toNat < _; simp; omega) rfl ⟨rfl, rfl, trivial⟩
 ·rw [zqd (by omega)] at i1
  subst i1
  exact yM rfl rfl
theorem zj5 {av : List D} {L : List Ob} {KP : D → Prop} {KW : D → List Ob → Prop} (q : List zj) (b : Bld) (o : Out) (to : Int) (X : List Ob) (hl : o.code.length ≤ 1000000000) (ht : to ≤ 1000000000) (hL : L = eO q b o ++ X) (has : av = [.loc 0 0, .int .i64 to])
  (hK : KW (.tup []) (eO q b (x7 o to) ++ X)) : zo Tryz.prog zaK av L KP KW := by
 subst has
 exact xg zn6 X (b, o, to, q) ⟨hl, ht⟩ hL (LeL.refl _) rfl (.cons (.loc (Nat.lt_of_lt_of_le (by decide : 0 < 7) (Nat.le_of_eq rfl))) (.cons .int .nil)) .tup0 (wD _ _ _) (wD _ _ _) hK
theorem zj6 {av : List D} {L : List Ob} {KP : D → Prop} {KW : D → List Ob → Prop} (q : List zj) (b : Bld) (o : Out) (v : zq) (size : Nat) (X : List Ob) (hs : b.syms.length ≤ 1000000) (hl : o.code.length ≤ 500000000) (hr : o.rels.length ≤ 500000000) (h0 : 0 < size) (h4 : size ≤ 4) (hL : L = eO q b o ++ X)
  (has : LeL av [.loc 0 0, yw v, .int .i64 size]) (hK : KW (.tup []) (eO q b (x6 b.syms o v size) ++ X)) : zo Tryz.prog zaJ av L KP KW := by
 refine zda has ?_
 exact xg zn5 X (b, o, v, size, q) ⟨hs, hl, hr, h0, h4⟩ hL (LeL.refl _) rfl (.cons (.loc (Nat.lt_of_lt_of_le (by decide : 0 < 7) (Nat.le_of_eq rfl))) (.cons (zah v) (.cons .int .nil))) .tup0 (wD _ _ _) (wD _ _ _) hK
theorem zrO {av : List D} {L : List Ob} {KP : D → Prop} {KW : D → List Ob → Prop} (q : List zj) (b : Bld) (o : Out) (k : Nat) (x : zD) (to : Int) (X : List Ob) (hl : o.code.length ≤ 900000000) (hx : b.items[k]? = some x) (h0 : 0 ≤ x.at_) (h1 : x.at_ ≤ 100000000000000) (hL : L = eO q b o ++ X)
  (has : av = [.loc 0 0, .aloc 1 b.items.length k 0, .int .i64 to]) (hK : KW (.tup []) (eO q b (qk o x to) ++ X)) : zo Tryz.prog zaN av L KP KW := by
 subst has
 exact xg zqc X (b, o, k, x, to, q) ⟨hl, hx, h0, h1⟩ hL (LeL.refl _) rfl (.cons (.loc (Nat.lt_of_lt_of_le (by decide : 0 < 7) (Nat.le_of_eq rfl))) (.cons (.aloc (Nat.lt_of_lt_of_le (by decide : 1 < 7) (Nat.le_of_eq rfl))) (.cons .int .nil))) .tup0 (wD _ _ _) (wD _ _ _) hK
def zfo (b : Bld) (k : Nat) : Ob := .cells [.aloc 1 b.items.length k 0]
theorem zrP (q : List zj) (b : Bld) (o : Out) (k : Nat) : ∀ x ∈ eO q b o ++ [zfo b k], ClO (eO q b o ++ [zfo b k]).length x := by
 intro x hx
 have hl : (eO q b o ++ [zfo b k]).length = 8 := rfl
 rw [hl]
 rcases List.mem_append.1 hx with hx | hx
 ·exact ClO.up (wD q b o x hx) (by decide)
 ·rw [List.mem_singleton] at hx
  subst hx
  exact .cells (.cons (.aloc (by decide)) .nil)
theorem zqf {av : List D} {L : List Ob} {KP : D → Prop} {KW : D → List Ob → Prop} (q : List zj) (b : Bld) (o : Out) (k : Nat) (x y : zD) (hx : b.items[k]? = some x) (hL : L = eO q b o ++ [zfo b k]) (has : av = [xa y, .loc 7 0])
  (hK : KW (.bool (y.kind == 9 && y.pool == x.pool)) L) : zo Tryz.prog jx av L KP KW := by
 subst has
 refine xZ zi Tryz.func128 rfl (by decide) (.bool (y.kind == 9 && y.pool == x.pool)) L (Nat.le_refl _) (by simp [Tryz.f128]) (fun E hE => ?_) hK
 subst hL
 have hxn : b.items[((k : Nat) : Int).toNat]? = some x := by rw [Int.toNat_natCast]; exact hx
 refine zb _ ?_
 (all_goals refine qgp ?_ <;> (repeat' first | exact trivial | intro hc | refine And.intro ?_ ?_) <;> refine Lf.mk ?_)
 ·refine zk x (Int.natCast_nonneg k) hxn ?_
  (all_goals refine qgp (Lf.mk ?_))
  have he : (y.kind == 9 && y.pool == x.pool) = (y.pool == x.pool) := by rw [hc]; simp
  rw [he]
  exact xc (eO q b o ++ [zfo b k]) [_] rfl (Nat.le_refl _) .bool (zrP q b o k)
 ·have he : (y.kind == 9 && y.pool == x.pool) = false := by simp [hc]
  rw [he]
  exact qr (.ff rfl) (xc (eO q b o ++ [zfo b k]) [_] rfl (Nat.le_refl _) .bool (zrP q b o k)) (Nat.le_refl _)
structure zmR (b : Bld) (x : zD) : Prop where
 size : wi b.shut x
 lo : 0 ≤ x.at_
 hi : x.at_ ≤ 100000000
 idx : 0 ≤ x.idx ∧ x.idx ≤ 100000000
 pool : x.kind = 6 → 0 ≤ zmA x.pool b.items 0
def emB (b : Bld) (o : Out) (x : zD) : Out := qD b.shut b.items b.syms o x
attribute [local irreducible] x7 x6
theorem zn7 : za Tryz.prog ze2 (z1 (fun ((b, o, k, x, _) : Bld × Out × Nat × zD × List zj) => b.has = false ∧ b.items[k]? = some x ∧ (∀ y ∈ b.items, zmR b y) ∧ b.items.length ≤ 1000000 ∧ b.syms.length ≤ 1000000 ∧ o.code.length ≤ 400000000 ∧ o.rels.length ≤ 400000000) (fun (b, _, k, _, _) => [.loc 0 0, .aloc 1 b.items.length k 0])
  (fun (b, o, _, _, q) => eO q b o) (fun _ => .tup []) fun (b, o, _, x, q) => eO q b (emB b o x)) := by
 refine ze zi Tryz.func90 rfl (by decide) ?_
 rintro ⟨b, o, k, x, q⟩ ⟨hh, hx, hin, hil, hsl, hcl, hrl⟩
 have hh : b.has = false := hh
 have hx : b.items[k]? = some x := hx
 have hin : ∀ y ∈ b.items, zmR b y := hin
 have hil : b.items.length ≤ 1000000 := hil
 have hsl : b.syms.length ≤ 1000000 := hsl
 have hcl : o.code.length ≤ 400000000 := hcl
 have hrl : o.rels.length ≤ 400000000 := hrl
 have hxe := hin x (List.mem_of_getElem? hx)
 obtain ⟨⟨hs8, hs7, hs9, hsp⟩, hlo, hhi, ⟨hi0, hi1⟩, hpool⟩ := hxe
 have hxn : b.items[((k : Nat) : Int).toNat]? = some x := by rw [Int.toNat_natCast]; exact hx
 refine ⟨Nat.le_refl _, by simp [Tryz.f90], fun E hE => ?_⟩
 have hE7 : E.L.length = 7 := by rw [hE]; rfl
 show AWP _ _ _ _ (vV _ _ _ _ (eO q b (emB b o x))) _ (eO q b o)
 have hH : emB b o x = if x.kind = 7 then (if x.at_ % x.size ≠ 0 then vk o 11 x.line else x6 b.syms o x.val x.size.toNat)
  else if x.kind = 8 then x7 o (upA x.at_ x.size)
  else if x.kind = 9 then ((b.shut[x.pool.toNat]?).getD []).foldl (fun o v => x6 b.syms o v 4) (x7 o (upA x.at_ 4))
  else if x.at_ % 2 ≠ 0 then vk o 11 x.line
  else if x.kind = 1 then xy o x.ins x.line
  else if x.kind = 6 then xM o x.ins x.at_ (upA (itA b.items (zmA x.pool b.items 0)).at_ 4 + 4 * x.idx) x.line
  else if (zS b.syms x.val).2 ≠ 0 then vk o (zS b.syms x.val).2 x.line
  else if x.kind = 2 then qk o x (zS b.syms x.val).1
  else xM o x.ins x.at_ (zS b.syms x.val).1 x.line := rfl
 generalize emB b o x = H at *
 refine zb _ ?_
 (all_goals refine qgp (Lf.mk ?_))
 refine zk x (Int.natCast_nonneg k) hxn ?_
 (all_goals refine qgp ?_ <;> (repeat' first | exact trivial | intro hc | refine And.intro ?_ ?_) <;> refine Lf.mk ?_)
 ·rw [if_pos hc] at hH
  have h7 := hs7 hc
  refine zk x (Int.natCast_nonneg k) hxn ?_
  (all_goals refine qgp (Lf.mk ?_))
  refine zk x (Int.natCast_nonneg k) hxn ?_
  (all_goals refine qgp ?_ <;> (repeat' first | exact trivial | intro hc | refine And.intro ?_ ?_) <;> refine Lf.mk ?_)
  ·rw [if_pos hc] at hH
   refine zk x (Int.natCast_nonneg k) hxn ?_
   (all_goals refine qgp (Lf.mk ?_))
   refine jG q b o 11 x.line [_] rfl rfl ?_
   rw [← hH]
   (all_goals refine qgp (Lf.mk ?_))
   exact xL [_] rfl rfl rfl (Nat.le_of_eq rfl) .tup0
  ·rw [if_neg (fun h => h hc)] at hH
   refine zk x (Int.natCast_nonneg k) hxn ?_
   (all_goals refine qgp (Lf.mk ?_))
   refine zk x (Int.natCast_nonneg k) hxn ?_
   (all_goals refine qgp (Lf.mk ?_))
   refine zj6 q b o x.val x.size.toNat [_] hsl (by omega) (by omega) (by omega) (by omega) rfl (LeL.of_eq (by rw [Int.toNat_of_nonneg (by omega)]; rfl)) ?_
   rw [← hH]
   (all_goals refine qgp (Lf.mk ?_))
   exact xL [_] rfl rfl rfl (Nat.le_of_eq rfl) .tup0
 ·rw [if_neg (by assumption), if_pos hc] at hH
  have h8 := hs8 hc
  have hu := kD (n := x.at_) h8.1
  refine zk x (Int.natCast_nonneg k) hxn ?_
  (all_goals refine qgp (Lf.mk ?_))
  refine zk x (Int.natCast_nonneg k) hxn ?_
  (all_goals refine qgp (Lf.mk ?_))
  refine zd zb9 (x.at_, x.size) ⟨hlo, by show x.at_ ≤ _; omega, h8.1, by show x.size ≤ _; omega⟩ (VS.mk (LeL.of_eq rfl)) ?_
  (all_goals refine qgp (Lf.mk ?_))
  refine zj5 q b o (upA x.at_ x.size) [_] (by omega) (by omega) rfl rfl ?_
  rw [← hH]
  (all_goals refine qgp (Lf.mk ?_))
  exact xL [_] rfl rfl rfl (Nat.le_of_eq rfl) .tup0
 ·rw [if_neg (by assumption), if_neg (by assumption), if_pos hc] at hH
  have h9 := hs9 hc
  have hu := kD (n := x.at_) (k := 4) (by decide)
  have hpl : zF b = b.shut.map yZ := by unfold zF; rw [hh]
  have hlt : x.pool.toNat < b.shut.length := by omega
  have hgp : b.shut[x.pool.toNat]? = some ((b.shut[x.pool.toNat]?).getD []) := by rw [List.getElem?_eq_getElem hlt]; rfl
  have hpm := hsp _ (List.mem_of_getElem? hgp)
  generalize (b.shut[x.pool.toNat]?).getD [] = p at *
  refine zk x (Int.natCast_nonneg k) hxn ?_
  (all_goals refine qgp (Lf.mk ?_))
  refine zd zb9 (x.at_, 4) ⟨hlo, by show x.at_ ≤ _; omega, by decide, by decide⟩ (VS.mk (LeL.of_eq rfl)) ?_
  (all_goals refine qgp (Lf.mk ?_))
  refine zj5 q b o (upA x.at_ 4) [_] (by omega) (by omega) rfl rfl ?_
  have hfl := zun (o := o) (to := upA x.at_ 4) (m := 400000000) hcl (by omega)
  have hfr := zfm o (upA x.at_ 4)
  generalize x7 o (upA x.at_ 4) = o1 at *
  (all_goals refine qgp (Lf.mk ?_))
  refine zk x (Int.natCast_nonneg k) hxn ?_
  (all_goals refine qgp (Lf.mk ?_))
  refine yY ⟨h9.1, by rw [hpl, List.length_map]; exact h9.2⟩ ?_
  (all_goals refine qgp (Lf.mk ?_))
  refine yY (by rw [hpl]) ?_
  refine VS.mk ?_
  refine zk (enc := yZ) (l := b.shut) (n := ((0 + x.pool.toNat : Nat) : Int)) p (Int.natCast_nonneg _) (by rw [Int.toNat_natCast, Nat.zero_add]; exact hgp) ?_
  (all_goals refine qgp (Lf.mk ?_))
  refine z7 (α := Nat × Out) (fun r => r.1 ≤ p.length ∧ (p.drop r.1).foldl (fun o v => x6 b.syms o v 4) r.2 = H ∧ r.2.code.length ≤ 400000000 + 4 * r.1 ∧ r.2.rels.length ≤ 400000000 + r.1)
   (fun r => [(0, .loc 0 0), (72, .sl 2 (p.map yw) none), (73, .int .i64 p.length), (74, .int .i64 r.1)]) (fun r => eO q b r.2) (fun r => p.length - r.1) (fun _ => by rw [hE7]; exact Nat.le_refl 7) (0, o1) ⟨Nat.zero_le _, hH.symm, by dsimp only; omega, by dsimp only; rw [hfr]; omega⟩ ?_ ?_
  ·exact zg2 (eO q b o1) [zfo b k] rfl (by rw [hE7]; exact Nat.le_refl 7) (wD _ _ _) ⟨rfl, rfl, rfl, rfl, trivial⟩ (.cons (.loc (Nat.lt_of_lt_of_le (by decide : 0 < 7) (Nat.le_of_eq rfl))) (.cons .sl (.cons .int (.cons .int .nil))))
  rintro ⟨j, o2⟩ ⟨j1, j2, j3, j4⟩
  dsimp only at j1 j2 j3 j4 ⊢
  refine zb _ ?_
  (all_goals refine qgp ?_ <;> (repeat' first | exact trivial | intro hc | refine And.intro ?_ ?_) <;> refine Lf.mk ?_)
  ·obtain ⟨v, hv⟩ := yi (l := p) (k := j) (by omega)
   have hjl : j < p.length := by omega
   have hgv : p[j] = v := by rw [List.getElem?_eq_getElem hjl] at hv; exact Option.some.inj hv
   rw [List.drop_eq_getElem_cons hjl, hgv, List.foldl_cons] at j2
   have hwl := zcF b.syms o2 v 4
   have hwr := zfn b.syms o2 v 4
   refine zk v (by omega) (by simpa using hv) ?_
   (all_goals refine qgp (Lf.mk ?_))
   refine zj6 q b o2 v 4 [_] hsl (by omega) (by omega) (by decide) (by decide) rfl (LeL.of_eq rfl) ?_
   generalize x6 b.syms o2 v 4 = o3 at *
   (all_goals refine qgp (Lf.mk ?_))
   exact wG (j + 1, o3) [_] ⟨by show j + 1 ≤ _; omega, j2, by dsimp only; omega, by dsimp only; omega⟩ (by dsimp only; omega) rfl (by rw [hE7]; exact Nat.le_refl 7) (wD _ _ _) ⟨rfl, rfl, rfl, rfl, trivial⟩
    (.cons (.loc (Nat.lt_of_lt_of_le (by decide : 0 < 7) (Nat.le_of_eq rfl))) (.cons .sl (.cons .int (.cons .int .nil))))
  ·have hj : j = p.length := by omega
   rw [hj, List.drop_length] at j2
   exact xL [] rfl j2 rfl (Nat.le_of_eq rfl) .tup0
 ·rw [if_neg (by assumption), if_neg (by assumption), if_neg hc] at hH
  refine zk x (Int.natCast_nonneg k) hxn ?_
  (all_goals refine qgp ?_ <;> (repeat' first | exact trivial | intro hc | refine And.intro ?_ ?_) <;> refine Lf.mk ?_)
  ·rw [if_pos hc] at hH
   refine zk x (Int.natCast_nonneg k) hxn ?_
   (all_goals refine qgp (Lf.mk ?_))
   refine jG q b o 11 x.line [_] rfl rfl ?_
   rw [← hH]
   (all_goals refine qgp (Lf.mk ?_))
   exact xL [_] rfl rfl rfl (Nat.le_of_eq rfl) .tup0
  ·rw [if_neg (fun h => h hc)] at hH
   refine zk x (Int.natCast_nonneg k) hxn ?_
   (all_goals refine qgp ?_ <;> (repeat' first | exact trivial | intro hc | refine And.intro ?_ ?_) <;> refine Lf.mk ?_)
   ·rw [if_pos hc] at hH
    refine zk x (Int.natCast_nonneg k) hxn ?_
    (all_goals refine qgp (Lf.mk ?_))
    refine zk x (Int.natCast_nonneg k) hxn ?_
    (all_goals refine qgp (Lf.mk ?_))
    refine zcD q b o x.ins x.line [_] (by omega) rfl (LeL.of_eq rfl) ?_
    rw [← hH]
    (all_goals refine qgp (Lf.mk ?_))
    exact xL [_] rfl rfl rfl (Nat.le_of_eq rfl) .tup0
   ·rw [if_neg (by assumption), if_pos hc] at hH
    have hp6 := hpool hc
    have hpos := zbo (fun y : zD => y.kind == 9 && y.pool == x.pool) b.items 0
    have hidx : zmA x.pool b.items 0 = y6 (fun y : zD => y.kind == 9 && y.pool == x.pool) b.items 0 := rfl
    rw [hidx] at hp6 hH
    refine zrA jx [.loc 7 0] (fun y => y.kind == 9 && y.pool == x.pool) b.items (.cells (eC q b o)) [.arr 2 (b.syms.map xm), .spare b.marks.length, .arr 1 (b.shut.map yZ), .spare o.rels.length, .spare o.code.length, zfo b k] (by omega) rfl rfl
     (fun y hy KP KW hK => zqf q b o k x y hx rfl rfl hK) ?_
    generalize y6 (fun y : zD => y.kind == 9 && y.pool == x.pool) b.items 0 = z at *
    have hz : z.toNat < b.items.length := by
     rcases hpos with h | ⟨j, h1, h2⟩
     ·omega
     ·rw [h2, Int.toNat_natCast, Nat.zero_add]; exact h1
    have hit : b.items[z.toNat]? = some (itA b.items z) := by unfold itA; rw [List.getElem?_eq_getElem hz]; rfl
    have hie := hin _ (List.mem_of_getElem? hit)
    have hilo := hie.lo
    have hihi := hie.hi
    have hu := kD (n := (itA b.items z).at_) (k := 4) (by decide)
    (all_goals refine qgp (Lf.mk ?_))
    refine zk x (Int.natCast_nonneg k) hxn ?_
    (all_goals refine qgp (Lf.mk ?_))
    refine zk x (Int.natCast_nonneg k) hxn ?_
    (all_goals refine qgp (Lf.mk ?_))
    refine zk (itA b.items z) (Int.natCast_nonneg _) (by rw [Int.toNat_natCast, Nat.zero_add]; exact hit) ?_
    (all_goals refine qgp (Lf.mk ?_))
    refine zd zb9 ((itA b.items z).at_, 4) ⟨hilo, by show (itA b.items z).at_ ≤ _; omega, by decide, by decide⟩ (VS.mk (LeL.of_eq rfl)) ?_
    (all_goals refine qgp (Lf.mk ?_))
    refine zk x (Int.natCast_nonneg k) hxn ?_
    (all_goals refine qgp (Lf.mk ?_))
    refine zk x (Int.natCast_nonneg k) hxn ?_
    (all_goals refine qgp (Lf.mk ?_))
    refine zcE q b o x.ins x.at_ (upA (itA b.items z).at_ 4 + 4 * x.idx) x.line [_] (by omega) hlo (by omega) rfl (LeL.of_eq rfl) ?_
    rw [← hH]
    (all_goals refine qgp (Lf.mk ?_))
    exact xL [_] rfl rfl rfl (Nat.le_of_eq rfl) .tup0
   ·rw [if_neg (by assumption), if_neg hc] at hH
    refine zk x (Int.natCast_nonneg k) hxn ?_
    (all_goals refine qgp (Lf.mk ?_))
    refine zmQ q b o x.val [_] hsl rfl rfl ?_
    generalize zS b.syms x.val = T at *
    (all_goals refine qgp ?_ <;> (repeat' first | exact trivial | intro hc | refine And.intro ?_ ?_) <;> refine Lf.mk ?_)
    ·rw [if_pos hc] at hH
     refine zk x (Int.natCast_nonneg k) hxn ?_
     (all_goals refine qgp (Lf.mk ?_))
     refine jG q b o T.2 x.line [_] rfl rfl ?_
     rw [← hH]
     (all_goals refine qgp (Lf.mk ?_))
     exact xL [_] rfl rfl rfl (Nat.le_of_eq rfl) .tup0
    ·rw [if_neg (fun h => h hc)] at hH
     refine zk x (Int.natCast_nonneg k) hxn ?_
     (all_goals refine qgp ?_ <;> (repeat' first | exact trivial | intro hc | refine And.intro ?_ ?_) <;> refine Lf.mk ?_)
     ·rw [if_pos hc] at hH
      refine zrO q b o k x T.1 [_] (by omega) hx hlo (by omega) rfl rfl ?_
      rw [← hH]
      (all_goals refine qgp (Lf.mk ?_))
      exact xL [_] rfl rfl rfl (Nat.le_of_eq rfl) .tup0
     ·rw [if_neg hc] at hH
      refine zk x (Int.natCast_nonneg k) hxn ?_
      (all_goals refine qgp (Lf.mk ?_))
      refine zk x (Int.natCast_nonneg k) hxn ?_
      (all_goals refine qgp (Lf.mk ?_))
      refine zk x (Int.natCast_nonneg k) hxn ?_
      (all_goals refine qgp (Lf.mk ?_))
      refine zcE q b o x.ins x.at_ T.1 x.line [_] (by omega) hlo (by omega) rfl (LeL.of_eq rfl) ?_
      rw [← hH]
      (all_goals refine qgp (Lf.mk ?_))
      exact xL [_] rfl rfl rfl (Nat.le_of_eq rfl) .tup0
end Go.Proofs.YtnkdeacghopkiaaGreatDoor
namespace Go.Proofs.YtnkdeacghopkiaaGreatDoor
open Go Go.Plat
set_option linter.unusedVariables false
set_option linter.unusedSimpArgs false
set_option maxRecDepth 100000
set_option maxHeartbeats 2000000
attribute [local irreducible] AWP zN yv zU zo yC yh zG yb Lib.itoa yf zx za zY yz zr yg yx yy yn yo zw zy xn zT xf wU wd yQ xI ww yS
def zjq (h : Bool) : Int := match h with | true => 1 | false => 0
structure zmS (n : Nat) (h : Bool) (x : zD) : Prop where
 al : x.kind = 8 → 0 < x.size ∧ x.size ≤ 16
 da : x.kind = 7 → 0 < x.size ∧ x.size ≤ 4
 po : x.kind = 9 → 0 ≤ x.pool ∧ x.pool < n
 li : x.kind = 6 → 0 ≤ x.pool ∧ x.pool < n + zjq h
 ix : 0 ≤ x.idx ∧ x.idx ≤ 1000000
structure OkB (T : Nat) (b : Bld) : Prop where
 its : ∀ x ∈ b.items, zmS b.shut.length b.has x
 put : ∀ j : Nat, j < b.shut.length → ∃ x ∈ b.items, x.kind = 9 ∧ x.pool = j
 len : b.marks.length = b.syms.length
 pos : ∀ m ∈ b.marks, 0 ≤ m
 shl : ∀ p ∈ b.shut, p.length ≤ T
theorem OkB.fail {T : Nat} {b : Bld} (h : OkB T b) (e line : Int) : OkB T (yt b e line) := by
 unfold yt
 split
 ·exact ⟨h.its, h.put, h.len, h.pos, h.shl⟩
 ·exact h
theorem OkB.set {T : Nat} {b : Bld} (h : OkB T b) (s : RB) : OkB T (xx b s) := ⟨h.its, h.put, h.len, h.pos, h.shl⟩
theorem OkB.puts {T : Nat} {b : Bld} (h : OkB T b) {x : zD} (hx : zmS b.shut.length b.has x) : OkB T (xq b x) :=
 ⟨fun y hy => by
   rcases List.mem_append.1 hy with hy | hy
   ·exact h.its y hy
   ·rw [List.mem_singleton] at hy; subst hy; exact hx,
 fun j hj => by obtain ⟨y, h1, h2⟩ := h.put j hj; exact ⟨y, List.mem_append_left _ h1, h2⟩, h.len, h.pos, h.shl⟩
theorem OkB.label {T : Nat} {q : List zj} {b : Bld} (h : OkB T b) (t : yJ) (line : Int) : OkB T (xK q b t line) := by
 unfold xK
 split
 ·exact h.fail _ _
 ·refine ⟨h.its, h.put, by simp [h.len], fun m hm => ?_, h.shl⟩
  rcases List.mem_append.1 hm with hm | hm
  ·exact h.pos m hm
  ·rw [List.mem_singleton] at hm; subst hm; omega
theorem zs2 {n : Nat} {h : Bool} {x : zD} (h8 : x.kind ≠ 8) (h7 : x.kind ≠ 7) (h9 : x.kind ≠ 9) (h6 : x.kind ≠ 6) (hi : x.idx = 0) : zmS n h x :=
 ⟨fun e => absurd e h8, fun e => absurd e h7, fun e => absurd e h9, fun e => absurd e h6, by omega⟩
theorem zuo {n : Nat} {h : Bool} {size line : Int} {v : zq} (hs : size = 1 ∨ size = 2 ∨ size = 4) : zmS n h ⟨7, 0, line, noI, false, size, v, 0, 0⟩ :=
 ⟨fun e => absurd e (by dsimp only; decide), fun _ => by dsimp only; omega, fun e => absurd e (by dsimp only; decide), fun e => absurd e (by dsimp only; decide), by dsimp only; decide⟩
theorem OkB.dat {T : Nat} {b : Bld} (h : OkB T b) {size : Int} (hs : size = 1 ∨ size = 2 ∨ size = 4) (line : Int) (o : AOp) : OkB T (wH size line b o) := by
 unfold wH
 refine OkB.puts ?_ (zuo hs)
 repeat' split
 all_goals first | exact h.fail _ _ | exact h
theorem OkB.datas {T : Nat} {size : Int} (hs : size = 1 ∨ size = 2 ∨ size = 4) {line : Int} : ∀ (l : List AOp) {b : Bld}, OkB T b → OkB T (l.foldl (wH size line) b)
 | [], b, h => h
 | o :: l, b, h => OkB.datas hs l (h.dat hs line o)
theorem OkB.data {T : Nat} {b : Bld} (h : OkB T b) {size : Int} (hs : size = 1 ∨ size = 2 ∨ size = 4) (l : List AOp) (line : Int) : OkB T (kK b size l line) := by
 unfold kK
 refine OkB.datas hs l ?_
 split
 ·exact h.fail _ _
 ·exact h
theorem OkB.align {T : Nat} {b : Bld} (h : OkB T b) (l : List AOp) (line : Int) : OkB T (qv b l line) := by
 unfold qv
 split
 ·exact h.fail _ _
 split
 ·exact h.fail _ _
 ·rename_i hn
  exact h.puts ⟨fun _ => by dsimp only; omega, fun e => absurd e (by dsimp only; decide), fun e => absurd e (by dsimp only; decide), fun e => absurd e (by dsimp only; decide), by dsimp only; decide⟩
theorem OkB.pool {T : Nat} {b : Bld} (h : OkB T b) (hc : b.cur.length ≤ T) (line : Int) : OkB T (vS b line) := by
 unfold vS
 split
 ·rename_i hh
  have hl : (b.shut ++ [b.cur]).length = b.shut.length + 1 := by simp
  refine ⟨fun x hx => ?_, fun j hj => ?_, h.len, h.pos, fun p hp => ?_⟩
  ·dsimp only at hx ⊢
   rw [hl]
   rcases List.mem_append.1 hx with hx | hx
   ·have := h.its x hx
    refine ⟨this.al, this.da, fun e => ?_, fun e => ?_, this.ix⟩
    ·have := this.po e; omega
    ·have := this.li e
     rw [hh] at this
     have h1 : zjq true = 1 := rfl
     have h0 : zjq false = 0 := rfl
     rw [h1] at this
     rw [h0]
     omega
   ·rw [List.mem_singleton] at hx
    subst hx
    exact ⟨fun e => absurd e (by dsimp only; decide), fun e => absurd e (by dsimp only; decide), fun _ => by dsimp only; omega, fun e => absurd e (by dsimp only; decide), by dsimp only; decide⟩
  ·have hj : j < (b.shut ++ [b.cur]).length := hj
   rw [hl] at hj
   by_cases hjn : j < b.shut.length
   ·obtain ⟨y, h1, h2⟩ := h.put j hjn
    exact ⟨y, List.mem_append_left _ h1, h2⟩
   ·refine ⟨⟨9, 0, line, noI, false, 0, noV, b.shut.length, 0⟩, List.mem_append_right _ (List.mem_singleton.2 rfl), rfl, ?_⟩
    show ((b.shut.length : Nat) : Int) = j
    omega
  ·rcases List.mem_append.1 hp with hp | hp
   ·exact h.shl p hp
   ·rw [List.mem_singleton] at hp; subst hp; exact hc
 ·exact h
theorem zrQ (b : Bld) (line : Int) : (vS b line).has = false := by
 unfold vS
 split
 ·rfl
 ·rename_i h
  cases hb : b.has with
  | true => exact absurd hb h
  | false => rfl
theorem zoZ (v : zq) : ∀ (l : List zq) (k : Nat), wd v l k ≤ k + l.length
 | [], k => by rw [wd]; simp
 | x :: l, k => by
  rw [wd]
  split
  ·simp; omega
  ·have := zoZ v l (k + 1)
   simp only [List.length_cons]; omega
theorem OkB.lit {T : Nat} {b : Bld} (h : OkB T b) (hc : b.cur.length ≤ 1000000) (v : zq) (reg line : Int) : OkB T (qW b v reg line) := by
 have hs : 0 ≤ wW v b.cur ∧ wW v b.cur ≤ 1000000 := by
  have := zoZ v b.cur 0
  unfold wW
  split
  ·omega
  ·omega
 have h1 : zjq true = 1 := rfl
 have hb : OkB T { b with has := true, cur := wV v b.cur } := by
  refine ⟨fun x hx => ?_, h.put, h.len, h.pos, h.shl⟩
  have := h.its x hx
  refine ⟨this.al, this.da, this.po, fun e => ?_, this.ix⟩
  have := this.li e
  dsimp only
  rw [h1]
  cases hb : b.has with
  | true => rw [hb, h1] at this; exact this
  | false =>
   rw [hb] at this
   have h0 : zjq false = 0 := rfl
   rw [h0] at this
   omega
 exact hb.puts ⟨fun e => absurd e (by dsimp only; decide), fun e => absurd e (by dsimp only; decide), fun e => absurd e (by dsimp only; decide), fun _ => by dsimp only; rw [h1]; omega, hs⟩
theorem zs3 {n : Nat} {h : Bool} (op sh : Int) (l : List AOp) (line : Int) : zmS n h (wx op sh l line) := by
 unfold wx
 repeat' split
 all_goals exact zs2 (by dsimp only; decide) (by dsimp only; decide) (by dsimp only; decide) (by dsimp only; decide) rfl
theorem OkB.instr {T : Nat} {b : Bld} (h : OkB T b) (hc : b.cur.length ≤ 1000000) (name : List UInt8) (l : List AOp) (line : Int) : OkB T (xj b name l line) := by
 unfold xj
 split
 ·exact h.lit hc _ _ _
 split
 ·exact h.fail _ _
 split
 ·exact h.fail _ _
 split
 ·exact h.puts (zs3 _ _ _ _)
 ·exact h.fail _ _
theorem OkB.word {T : Nat} {b : Bld} (h : OkB T b) (hT : b.cur.length ≤ T) (hc : b.cur.length ≤ 1000000) (w : List UInt8) (l : List AOp) (line : Int) : OkB T (zf4 b w l line) := by
 unfold zf4
 split
 ·exact h.data (by decide) _ _
 split
 ·exact h.data (by decide) _ _
 split
 ·exact h.data (by decide) _ _
 split
 ·exact h.align _ _
 split
 ·split
  ·exact h.fail _ _
  ·exact h.pool hT _
 ·exact h.instr hc _ _ _
theorem OkB.rest {T : Nat} {q : List zj} {b : Bld} (h : OkB T b) (hT : b.cur.length ≤ T) (hc : b.cur.length ≤ 1000000) (line : Int) (l : List yJ) : OkB T (zcC q b line l) := by
 cases l with
 | nil => exact h
 | cons t r =>
  rw [zcC]
  split
  ·exact h
  split
  ·exact h.fail _ _
  split
  ·exact h.set _
  ·exact (h.set _).word hT hc _ _ _
theorem zo0 {T : Nat} {q : List zj} {line : Int} : ∀ (l : List yJ) {b : Bld}, OkB T b → OkB T (y0 q line l b).1 ∧ (y0 q line l b).1.cur = b.cur
 | [], b, h => by rw [y0]; exact ⟨h, rfl⟩
 | [t], b, h => by rw [y0]; exact ⟨h, rfl⟩
 | t :: c :: r, b, h => by
  rw [y0]
  split
  ·obtain ⟨h1, h2⟩ := zo0 r (h.label (q := q) t line)
   refine ⟨h1, h2.trans ?_⟩
   unfold xK
   split
   ·unfold yt; split <;> rfl
   ·rfl
  ·exact ⟨h, rfl⟩
theorem OkB.line {T : Nat} {q : List zj} {b : Bld} (h : OkB T b) (hT : b.cur.length ≤ T) (hc : b.cur.length ≤ 1000000) (x : y4) : OkB T (xU q b x) := by
 obtain ⟨h1, h2⟩ := zo0 (q := q) (line := x.pos) x.toks h
 exact h1.rest (by rw [h2]; exact hT) (by rw [h2]; exact hc) _ _
def zai : List y4 → Nat
 | [] => 0
 | x :: l => x.toks.length + zai l
def b0 : Bld := ⟨[], [], [], [], false, [], 0, 0⟩
def wN (q : List zj) (l : List y4) (b : Bld) : Bld := l.foldl (xU q) b
def zar (l : List y4) : Int := l.foldl (fun _ x => x.pos) 0
def noO : zad := ⟨[], [], []⟩
def zqg (b : Bld) : zad × Int × Int :=
 if b.fe ≠ 0 then (noO, b.fe, b.fa) else if 8000 < (yE b.shut b.marks ⟨b.items, b.syms⟩).2 then (noO, 4, 0)
 else if (vr b.shut (yE b.shut b.marks ⟨b.items, b.syms⟩).1.items (yE b.shut b.marks ⟨b.items, b.syms⟩).1.syms ⟨[], [], b.fe, b.fa⟩).fe ≠ 0
  then (noO, (vr b.shut (yE b.shut b.marks ⟨b.items, b.syms⟩).1.items (yE b.shut b.marks ⟨b.items, b.syms⟩).1.syms ⟨[], [], b.fe, b.fa⟩).fe,
   (vr b.shut (yE b.shut b.marks ⟨b.items, b.syms⟩).1.items (yE b.shut b.marks ⟨b.items, b.syms⟩).1.syms ⟨[], [], b.fe, b.fa⟩).fa)
 else (⟨(vr b.shut (yE b.shut b.marks ⟨b.items, b.syms⟩).1.items (yE b.shut b.marks ⟨b.items, b.syms⟩).1.syms ⟨[], [], b.fe, b.fa⟩).code, (yE b.shut b.marks ⟨b.items, b.syms⟩).1.syms,
  (vr b.shut (yE b.shut b.marks ⟨b.items, b.syms⟩).1.items (yE b.shut b.marks ⟨b.items, b.syms⟩).1.syms ⟨[], [], b.fe, b.fa⟩).rels⟩, 0, 0)
def qZ (q : List zj) (l : List y4) : zad × Int × Int := zqg (vS (wN q l b0) (zar l))
attribute [local irreducible] zg.kids zg.kind zg.n zg.name wg vO y9 xy xE xK xM qk yr yR x1 zE xo wW zH zS wV x6
def T4 : Ob := .cells [.nilsl, .nilsl, .nilsl]
def T5 : Ob := .cells [.int .i64 0, .int .i64 0]
def zv0 (q : List zj) : List D := [.sl 2 (q.map xY) none, .nilsl, .nilsl, .nilsl, .nilsl, .int .i64 0, .nilsl, .nilsl, .nilsl, .int .i64 0, .int .i64 0]
theorem zqh {σ σ' : List (Nat × D)} (q : List zj) (h : zfS (zC [2, 3, 4, 5, 6, 7, 0, 1] 0) σ σ') : wc 0 σ [T4, T5, .cells (zv0 q)] σ' (bO q b0 ++ [T4, T5]) := by
 have key : zC [2, 3, 4, 5, 6, 7, 0, 1] 0 3 = some 1 := rfl
 refine xt (w8 2 13 [.sl 2 (q.map xY) none, .osl 13 3 0 0 0, .nilsl, .nilsl, .nilsl, .int .i64 0, .nilsl, .nilsl, .nilsl, .int .i64 0, .int .i64 0] rfl ⟨.same, .here, .same, .same, .same, .same, .same, .same, .same, .same, .same, trivial⟩) ?_
 refine xt (w8 2 2 [.sl 2 (q.map xY) none, .osl 13 3 0 0 0, .osl 2 4 0 0 0, .nilsl, .nilsl, .int .i64 0, .nilsl, .nilsl, .nilsl, .int .i64 0, .int .i64 0] rfl ⟨.same, .same, .here, .same, .same, .same, .same, .same, .same, .same, .same, trivial⟩) ?_
 refine xt (qt 2 1 [.sl 2 (q.map xY) none, .osl 13 3 0 0 0, .osl 2 4 0 0 0, .sl 1 [] (some 5), .nilsl, .int .i64 0, .nilsl, .nilsl, .nilsl, .int .i64 0, .int .i64 0] rfl ⟨.same, .same, .same, .here, .same, .same, .same, .same, .same, .same, .same, trivial⟩) ?_
 refine xt (w8 2 1 [.sl 2 (q.map xY) none, .osl 13 3 0 0 0, .osl 2 4 0 0 0, .sl 1 [] (some 5), .osl 1 6 0 0 0, .int .i64 0, .nilsl, .nilsl, .nilsl, .int .i64 0, .int .i64 0] rfl ⟨.same, .same, .same, .same, .here, .same, .same, .same, .same, .same, .same, trivial⟩) ?_
 refine xt zkv ?_
 refine wq [2, 3, 4, 5, 6, 7, 0, 1] rfl rfl ?_ h
 refine .cons (o := .cells [.sl 2 (q.map xY) none, .osl 13 3 0 0 0, .osl 2 4 0 0 0, .sl 1 [] (some 5), .osl 1 6 0 0 0, .int .i64 0, .nilsl, .nilsl, .nilsl, .int .i64 0, .int .i64 0]) rfl
  ⟨_, rfl, .cons (.flat .sl) (.cons (.osl rfl) (.cons (.osl rfl) (.cons (.tok rfl) (.cons (.osl rfl) (.cons (.flat .int) (.cons (.flat .nilsl) (.cons (.flat .nilsl) (.cons (.flat .nilsl) (.cons (.flat .int) (.cons (.flat .int) .nil))))))))))⟩
  (.cons (o := .arr 13 []) rfl ⟨_, rfl, rfl, by simp⟩ (.cons (o := .arr 2 []) rfl ⟨_, rfl, rfl, by simp⟩ (.cons (o := .spare 0) rfl rfl (.cons (o := .arr 1 []) rfl ⟨_, rfl, rfl, by simp⟩ (.cons (o := .dead) rfl rfl
  (.cons (o := T4) rfl ⟨_, rfl, .cons (.flat .nilsl) (.cons (.flat .nilsl) (.cons (.flat .nilsl) .nil))⟩ (.cons (o := T5) rfl ⟨_, rfl, .cons (.flat .int) (.cons (.flat .int) .nil)⟩ .nil)))))))
theorem zrR {av : List D} {L : List Ob} {KP : D → Prop} {KW : D → List Ob → Prop} (q : List zj) (b : Bld) (x : y4) (X : List Ob) (hr : zW b (1 + x.toks.length)) (hw : wt (x.toks.map tk) ≤ 1048576) (hq : q.length ≤ 1000000)
  (hL : L = bO q b ++ X) (has : av = [.loc 0 0, xR x])
  (hK1 : ((xU q b x).has = true → b.has = true) → KW (.tup []) (bO q (xU q b x) ++ X))
  (hK2 : b.has = false → (xU q b x).has = true → KW (.tup []) (bOn L.length q (xU q b x) ++ X ++ [.spare (xU q b x).cur.length])) : zo Tryz.prog zaG av L KP KW := by
 subst has
 have hcl : ClL (bO q b).length [.loc 0 0, xR x] := .cons (.loc (Nat.lt_of_lt_of_le (by decide : 0 < 6) (Nat.le_of_eq rfl))) (.cons (.agg (.cons .int (.cons .sl .nil))) .nil)
 by_cases h : b.has = false ∧ (xU q b x).has = true
 ·refine zjS zip (bO q b) X (bOn 6 q (xU q b x)) (bOn L.length q (xU q b x)) (.spare (xU q b x).cur.length) (d := .tup []) hL ⟨(b, x, q), ⟨hr, hw, hq⟩, LeL.refl _, rfl, rfl, (zeb h.1 h.2).symm⟩ rfl rfl hcl .tup0 (y5 _ _)
   (fun m hm hk => zf6 q _ (fun j hj => hm j (Nat.lt_of_lt_of_le hj (by decide : 5 ≤ 6))) hk) .spare (hK2 h.1 h.2)
 ·have hn : (xU q b x).has = true → b.has = true := fun e => by
   cases hb : b.has with
   | true => rfl
   | false => exact absurd ⟨hb, e⟩ h
  refine zg1 zip (bO q b) X (bO q (xU q b x)) (d := .tup []) hL ⟨(b, x, q), ⟨hr, hw, hq⟩, LeL.refl _, rfl, rfl, (zf5 hn).symm⟩ rfl hcl .tup0 (y5 _ _) (y5 _ _) (hK1 hn)
theorem zvl (q : List zj) (b : Bld) : ∀ x ∈ bO q b ++ [T4, T5], ClO (bO q b ++ [T4, T5]).length x := by
 intro x hx
 have hl : (bO q b ++ [T4, T5]).length = 8 := rfl
 rw [hl]
 rcases List.mem_append.1 hx with hx | hx
 ·exact ClO.up (y5 q b x hx) (by decide)
 ·simp only [List.mem_cons, List.not_mem_nil, or_false] at hx
  rcases hx with rfl | rfl
  ·exact .cells (.cons .nilsl (.cons .nilsl (.cons .nilsl .nil)))
  ·exact .cells (.cons .int (.cons .int .nil))
theorem zvm (q : List zj) (b : Bld) (h : b.has = true) : bO q b = [.cells (bCk q b), .arr 13 (b.items.map xa), .arr 2 (b.syms.map xm), .spare b.marks.length, .arr 1 (b.shut.map yZ ++ [.sl 2 (b.cur.map yw) (some 5)]), .spare b.cur.length] := by
 have hp : zF b = b.shut.map yZ ++ [.sl 2 (b.cur.map yw) (some 5)] := by unfold zF; rw [h]
 have hc : zcZ b = .spare b.cur.length := by unfold zcZ; rw [h]
 have hb : bC q b = bCk q b := by unfold bC bCk; rw [hp]; simp
 unfold bO bT
 rw [hb, hp, hc]
theorem zrS {σ σ' : List (Nat × D)} (q : List zj) (b : Bld) (Y : Ob) (h : b.has = true) (hs : zfS (zC [0, 1, 2, 3, 4, 9, 6, 7] 0) σ σ') : wc 0 σ (bOn 9 q b ++ [T4, T5, Y] ++ [.spare b.cur.length]) σ' (bO q b ++ [T4, T5]) := by
 have key : ∀ k, k < 5 → zC [0, 1, 2, 3, 4, 9, 6, 7] 0 k = some k := by decide
 have hr := zf6 (m := zC [0, 1, 2, 3, 4, 9, 6, 7] 0) (k := 9) (k' := 5) q b key rfl
 rw [zvm q b h]
 refine wq [0, 1, 2, 3, 4, 9, 6, 7] rfl rfl ?_ hs
 exact .cons (o := .cells (bCk q b)) rfl (hr 0 _ _ rfl rfl) (.cons (o := .arr 13 (b.items.map xa)) rfl (hr 1 _ _ rfl rfl) (.cons (o := .arr 2 (b.syms.map xm)) rfl (hr 2 _ _ rfl rfl) (.cons (o := .spare b.marks.length) rfl (hr 3 _ _ rfl rfl)
  (.cons (o := .arr 1 (b.shut.map yZ ++ [.sl 2 (b.cur.map yw) (some 9)])) rfl (hr 4 _ _ rfl rfl) (.cons (o := .spare b.cur.length) rfl rfl
  (.cons (o := T4) rfl ⟨_, rfl, .cons (.flat .nilsl) (.cons (.flat .nilsl) (.cons (.flat .nilsl) .nil))⟩ (.cons (o := T5) rfl ⟨_, rfl, .cons (.flat .int) (.cons (.flat .int) .nil)⟩ .nil)))))))
theorem zn8 (q : List zj) (x : y4) (l : List y4) (b : Bld) : wN q (x :: l) b = wN q l (xU q b x) := rfl
theorem zir {q : List zj} : ∀ (l : List y4) {b : Bld} {k : Nat}, zW b (k + zai l) → zW (wN q l b) k
 | [], b, k, h => h
 | x :: l, b, k, h => zir l (zW.line x (by rw [zai] at h; exact h.less (by omega)))
theorem zmT {T : Nat} {q : List zj} (hT : T ≤ 1000000) : ∀ (l : List y4) {b : Bld}, zW b (1000000 - T + zai l) → OkB T b → OkB T (wN q l b)
 | [], b, _, h => h
 | x :: l, b, hr, h => by
  rw [zai] at hr
  have hc := hr.curl
  exact zmT hT l (zW.line x (hr.less (by omega))) (h.line (by omega) (by omega) x)
theorem zqi : zW b0 1000000 := ⟨by decide, by decide, by decide, by decide, by decide, fun _ => rfl⟩
theorem ok0 (T : Nat) : OkB T b0 := ⟨(fun x hx => by cases hx), fun j hj => absurd hj (Nat.not_lt_zero j), rfl, (fun m hm => by cases hm), (fun p hp => by cases hp)⟩
end Go.Proofs.YtnkdeacghopkiaaGreatDoor
namespace Go.Proofs.YtnkdeacghopkiaaGreatDoor
open Go Go.Plat
set_option linter.unusedVariables false
set_option linter.unusedSimpArgs false
set_option maxRecDepth 100000
set_option maxHeartbeats 2000000
attribute [local irreducible] AWP zN yv zU zo yC yh zG yb Lib.itoa yf zx za zY yz zr yg yx yy yn yo zw zy xn wg zT vO xf wU wd xE yQ xI x1 ww xo zS yS
structure Sim (x y : zD) : Prop where
 kind : y.kind = x.kind
 size : y.size = x.size
 pool : y.pool = x.pool
 idx : y.idx = x.idx
structure zbd (l m : List zD) : Prop where
 len : m.length = l.length
 from_ : ∀ y ∈ m, ∃ x ∈ l, Sim x y
 to_ : ∀ x ∈ l, ∃ y ∈ m, Sim x y
theorem zbd.refl (l : List zD) : zbd l l := ⟨rfl, fun y h => ⟨y, h, rfl, rfl, rfl, rfl⟩, fun y h => ⟨y, h, rfl, rfl, rfl, rfl⟩⟩
theorem Sim.trans {x y z : zD} (h : Sim x y) (k : Sim y z) : Sim x z := ⟨k.kind.trans h.kind, k.size.trans h.size, k.pool.trans h.pool, k.idx.trans h.idx⟩
theorem zbd.trans {a b c : List zD} (h : zbd a b) (k : zbd b c) : zbd a c :=
 ⟨k.len.trans h.len, fun z hz => by obtain ⟨y, h1, h2⟩ := k.from_ z hz; obtain ⟨x, h3, h4⟩ := h.from_ y h1; exact ⟨x, h3, h4.trans h2⟩,
   fun x hx => by obtain ⟨y, h1, h2⟩ := h.to_ x hx; obtain ⟨z, h3, h4⟩ := k.to_ y h1; exact ⟨z, h3, h2.trans h4⟩⟩
theorem zbd.cons {x y : zD} {l m : List zD} (h : Sim x y) (k : zbd l m) : zbd (x :: l) (y :: m) :=
 ⟨by simp [k.len], fun z hz => by
   rcases List.mem_cons.1 hz with rfl | hz
   ·exact ⟨x, List.mem_cons_self, h⟩
   ·obtain ⟨w, h1, h2⟩ := k.from_ z hz; exact ⟨w, List.mem_cons_of_mem _ h1, h2⟩,
 fun z hz => by
  rcases List.mem_cons.1 hz with rfl | hz
  ·exact ⟨y, List.mem_cons_self, h⟩
  ·obtain ⟨w, h1, h2⟩ := k.to_ z hz; exact ⟨w, List.mem_cons_of_mem _ h1, h2⟩⟩
theorem zj7 (pools : List (List zq)) : ∀ (l : List zD) (a : Int), zbd l (yB pools l a).1
 | [], a => .refl _
 | x :: l, a => by rw [yB]; exact .cons ⟨rfl, rfl, rfl, rfl⟩ (zj7 pools l _)
theorem zmU (syms : List zZ) : ∀ l : List zD, zbd l (l.map (xb syms))
 | [] => .refl _
 | x :: l => .cons (by unfold xb; split <;> exact ⟨rfl, rfl, rfl, rfl⟩) (zmU syms l)
theorem zrT {pools : List (List zq)} {x y : zD} (h : Sim x y) (k : wi pools x) : wi pools y :=
 ⟨fun e => by rw [h.size]; exact k.1 (by rw [← h.kind]; exact e), fun e => by rw [h.size]; exact k.2.1 (by rw [← h.kind]; exact e), fun e => by rw [h.pool]; exact k.2.2.1 (by rw [← h.kind]; exact e), k.2.2.2⟩
theorem zj8 {pools : List (List zq)} : ∀ (l : List zD) (a : Int), 0 ≤ a → (∀ x ∈ l, wi pools x) → a ≤ (yB pools l a).2 ∧ ∀ x ∈ (yB pools l a).1, 0 ≤ x.at_ ∧ x.at_ ≤ (yB pools l a).2
 | [], a, h0, _ => ⟨Int.le_refl a, fun x hx => by cases hx⟩
 | y :: l, a, h0, hs => by
  have hz := zjp (a := a) (hs y List.mem_cons_self) h0
  obtain ⟨h1, h2⟩ := zj8 l (a + xo pools y a) (by omega) (fun z hz => hs z (List.mem_cons_of_mem _ hz))
  rw [yB]
  refine ⟨by dsimp only; omega, fun x hx => ?_⟩
  rcases List.mem_cons.1 hx with rfl | hx
  ·exact ⟨h0, by dsimp only; omega⟩
  ·exact h2 x hx
structure zvn (pools : List (List zq)) (s : Lay) (R : Lay × Int) : Prop where
 sim : zbd s.items R.1.items
 syms : R.1.syms.length = s.syms.length
 at_ : ∀ x ∈ R.1.items, 0 ≤ x.at_ ∧ x.at_ ≤ R.2
theorem zis {pools : List (List zq)} {marks : List Int} : ∀ (f : Nat) (s : Lay), wA s.items < f → (∀ x ∈ s.items, wi pools x) → zvn pools s (zb8 pools marks f s)
 | 0, s, h, _ => absurd h (Nat.not_lt_zero _)
 | f + 1, s, h, hs => by
  have h1 := zj7 pools s.items 0
  have h2 := zj8 s.items 0 (Int.le_refl 0) hs
  have h3 := zca pools s.items 0
  have h4 : (yO pools marks s).1.syms.length = s.syms.length := zbp _ _ _ _
  have hP : (yO pools marks s).1.items = (yB pools s.items 0).1 := rfl
  have hE : (yO pools marks s).2 = (yB pools s.items 0).2 := rfl
  rw [zgy]
  generalize yO pools marks s = P at *
  rw [← hP] at h1 h2 h3
  rw [← hE] at h2
  clear hP hE
  have h5 := zmU P.1.syms P.1.items
  have hgr := zed P.1.syms P.1.items
  have hat : ∀ x ∈ P.1.items.map (xb P.1.syms), 0 ≤ x.at_ ∧ x.at_ ≤ P.2 := by
   intro x hx
   obtain ⟨y, hy, rfl⟩ := List.mem_map.1 hx
   have := h2.2 y hy
   unfold xb
   split
   ·exact this
   ·exact this
  have hso : ∀ x ∈ P.1.items.map (xb P.1.syms), wi pools x := by
   intro x hx
   obtain ⟨y, hy, h6⟩ := (h1.trans h5).from_ x hx
   exact zrT h6 (hs y hy)
  split
  ·exact ⟨h1.trans h5, h4, hat⟩
  ·rename_i hn
   have hany : P.1.items.any (x5 P.1.syms) = true := by
    cases hb : P.1.items.any (x5 P.1.syms) with
    | true => rfl
    | false => exact absurd (.inl hb) hn
   have := hgr.2 hany
   have ih := zis (pools := pools) (marks := marks) f ⟨P.1.items.map (xb P.1.syms), P.1.syms⟩ (by show wA (P.1.items.map (xb P.1.syms)) < f; omega) hso
   exact ⟨(h1.trans h5).trans ih.sim, ih.syms.trans h4, ih.at_⟩
theorem zj9 (syms : List zZ) : ∀ (p : List zq) (o : Out), (p.foldl (fun o v => x6 syms o v 4) o).code.length = o.code.length + 4 * p.length ∧ (p.foldl (fun o v => x6 syms o v 4) o).rels.length ≤ o.rels.length + p.length
 | [], o => by simp
 | v :: p, o => by
  have h1 := zcF syms o v 4
  have h2 := zfn syms o v 4
  obtain ⟨h3, h4⟩ := zj9 syms p (x6 syms o v 4)
  rw [List.foldl_cons]
  simp only [List.length_cons]
  omega
theorem q7 (o : Out) (e line : Int) : (vk o e line).code = o.code ∧ (vk o e line).rels = o.rels := by unfold vk; split <;> exact ⟨rfl, rfl⟩
theorem zcG (o : Out) (i : Ins) (line : Int) : (xy o i line).rels = o.rels := by
 unfold xy
 split
 ·rfl
 ·exact (q7 _ _ _).2
theorem zcH (o : Out) (i : Ins) (a to line : Int) : (xM o i a to line).rels = o.rels := by
 unfold xM
 split
 ·exact zcG _ _ _
 ·exact (q7 _ _ _).2
theorem zs4 (o : Out) (x : zD) (to : Int) : (qk o x to).code.length ≤ o.code.length + 6 ∧ (qk o x to).rels = o.rels := by
 unfold qk
 split
 ·exact ⟨by have := zcc o x.ins x.at_ to x.line; omega, zcH _ _ _ _ _⟩
 ·have h1 := zcb o ⟨w64 (35 - x.ins.op), 0, 0, 1⟩ x.line
  have h2 := zcc (xy o ⟨w64 (35 - x.ins.op), 0, 0, 1⟩ x.line) ⟨19, 0, 0, 0⟩ (x.at_ + 2) to x.line
  have h3 := zcb (xM (xy o ⟨w64 (35 - x.ins.op), 0, 0, 1⟩ x.line) ⟨19, 0, 0, 0⟩ (x.at_ + 2) to x.line) ⟨1, 0, 0, 0⟩ x.line
  exact ⟨by omega, by rw [zcG, zcH, zcG]⟩
theorem zka (o : Out) (to : Int) : (x7 o to).code.length ≤ o.code.length + to.toNat := by
 unfold x7
 simp only [List.length_append, List.length_replicate]
 omega
theorem zrU {pools : List (List zq)} {items : List zD} {syms : List zZ} {o : Out} {x : zD} (hs : wi pools x) (h0 : 0 ≤ x.at_) (h1 : x.at_ ≤ 8000) (hp : ∀ p ∈ pools, p.length ≤ 9000) :
  (qD pools items syms o x).code.length ≤ o.code.length + 44100 ∧ (qD pools items syms o x).rels.length ≤ o.rels.length + 9000 := by
 have hu4 := kD (n := x.at_) (k := 4) (by decide)
 unfold qD
 split
 ·rename_i h7
  have := hs.2.1 h7
  split
  ·rw [(q7 _ _ _).1, (q7 _ _ _).2]; omega
  ·have h2 := zcF syms o x.val x.size.toNat
   have h3 := zfn syms o x.val x.size.toNat
   omega
 split
 ·rename_i h8
  have := hs.1 h8
  have hu := kD (n := x.at_) this.1
  have h2 := zka o (upA x.at_ x.size)
  rw [zfm]
  omega
 split
 ·have h2 := zka o (upA x.at_ 4)
  have h3 := zj9 syms ((pools[x.pool.toNat]?).getD []) (x7 o (upA x.at_ 4))
  rw [zfm] at h3
  have h4 : ((pools[x.pool.toNat]?).getD []).length ≤ 9000 := by
   cases hg : pools[x.pool.toNat]? with
   | none => simp
   | some p => exact hp p (List.mem_of_getElem? hg)
  omega
 split
 ·rw [(q7 _ _ _).1, (q7 _ _ _).2]; omega
 split
 ·have := zcb o x.ins x.line; rw [zcG]; omega
 split
 ·have := zcc o x.ins x.at_ (upA (itA items (zmA x.pool items 0)).at_ 4 + 4 * x.idx) x.line; rw [zcH]; omega
 split
 ·rw [(q7 _ _ _).1, (q7 _ _ _).2]; omega
 split
 ·have := zs4 o x (zS syms x.val).1; rw [this.2]; omega
 ·have := zcc o x.ins x.at_ (zS syms x.val).1 x.line; rw [zcH]; omega
theorem zmV {α : Type} (p : α → Bool) : ∀ (l : List α) (k : Nat), (∃ x ∈ l, p x = true) → 0 ≤ y6 p l k
 | [], k, h => by obtain ⟨x, h, _⟩ := h; cases h
 | y :: l, k, h => by
  rw [y6]
  split
  ·omega
  ·rename_i hn
   obtain ⟨x, h1, h2⟩ := h
   rcases List.mem_cons.1 h1 with rfl | h1
   ·exact absurd h2 hn
   ·exact zmV p l (k + 1) ⟨x, h1, h2⟩
attribute [local irreducible] zg.kids zg.kind zg.n zg.name y9 xy xK xM qk yr yR zE wW zH wV x6
theorem zqj (l : List zZ) : vJ (l.map xm) (l.map xm) := by
 refine ⟨rfl, fun i d d' h1 h2 => ?_⟩
 rw [h1] at h2
 cases h2
 simp only [List.getElem?_map, Option.map_eq_some_iff] at h1
 obtain ⟨c, _, rfl⟩ := h1
 refine ⟨rfl, rfl, fun j x x' h3 h4 => ?_⟩
 rw [h3] at h4
 cases h4
 match j, h3 with
 | 0, h3 =>
  cases h3
  intro w F ρ L v h
  cases h with | pure _ _ h => exact h
 | 1, h3 =>
  cases h3
  intro w F ρ L v h
  cases h with | pure _ _ h => exact h
 | j + 2, h3 => simp [xm, D.cells] at h3
theorem zs5 {σ σ' : List (Nat × D)} (q : List zj) (items : List zD) (syms : List zZ) (marks : List Int) (shut : List (List zq)) (cur : List zq) (fe fa : Int) (h : zfS (zC [0, 1, 2, 3, 4, 8, 9, 6, 7] 0) σ σ') :
  wc 0 σ (bO q ⟨items, syms, marks, shut, false, cur, fe, fa⟩ ++ [T4, T5]) σ' (eO q ⟨items, syms, marks, shut, false, cur, fe, fa⟩ ⟨[], [], fe, fa⟩ ++ [T4, T5]) := by
 have key : ∀ k, k < 5 → zC [0, 1, 2, 3, 4, 8, 9, 6, 7] 0 k = some k := by decide
 refine xt (qt 0 4 [.sl 2 (q.map xY) none, .osl 13 1 items.length 0 items.length, .osl 2 2 syms.length 0 syms.length, .sl 1 (marks.map (.int .i64)) (some 3), .osl 1 4 (zF ⟨items, syms, marks, shut, false, cur, fe, fa⟩).length 0 (zF ⟨items, syms, marks, shut, false, cur, fe, fa⟩).length,
  .int .i64 shut.length, .nilsl, .nilsl, .sl 4 [] (some 8), .int .i64 fe, .int .i64 fa] rfl ⟨.same, .same, .same, .same, .same, .same, .same, .same, .here, .same, .same, trivial⟩) ?_
 refine xt (qt 0 1 [.sl 2 (q.map xY) none, .osl 13 1 items.length 0 items.length, .osl 2 2 syms.length 0 syms.length, .sl 1 (marks.map (.int .i64)) (some 3), .osl 1 4 (zF ⟨items, syms, marks, shut, false, cur, fe, fa⟩).length 0 (zF ⟨items, syms, marks, shut, false, cur, fe, fa⟩).length,
  .int .i64 shut.length, .sl 1 [] (some 9), .nilsl, .sl 4 [] (some 8), .int .i64 fe, .int .i64 fa] rfl ⟨.same, .same, .same, .same, .same, .same, .here, .same, .same, .same, .same, trivial⟩) ?_
 refine wq [0, 1, 2, 3, 4, 8, 9, 6, 7] rfl rfl ?_ h
 exact .cons (o := .cells [.sl 2 (q.map xY) none, .osl 13 1 items.length 0 items.length, .osl 2 2 syms.length 0 syms.length, .sl 1 (marks.map (.int .i64)) (some 3), .osl 1 4 (zF ⟨items, syms, marks, shut, false, cur, fe, fa⟩).length 0 (zF ⟨items, syms, marks, shut, false, cur, fe, fa⟩).length,
   .int .i64 shut.length, .sl 1 [] (some 9), .nilsl, .sl 4 [] (some 8), .int .i64 fe, .int .i64 fa]) rfl
  ⟨_, rfl, .cons (.flat .sl) (.cons (.osl rfl) (.cons (.osl rfl) (.cons (.tok rfl) (.cons (.osl rfl) (.cons (.flat .int) (.cons (.tok rfl) (.cons (.flat .nilsl) (.cons (.tok rfl) (.cons (.flat .int) (.cons (.flat .int) .nil))))))))))⟩
  (.cons (o := .arr 13 (items.map xa)) rfl (ClO.arr (n := 5) (qX _) _ key) (.cons (o := .arr 2 (syms.map xm)) rfl (ClO.arr (n := 5) (jj _) _ key) (.cons (o := .spare marks.length) rfl rfl (.cons (o := .arr 1 (shut.map yZ)) rfl (ClO.arr (n := 5) (zhe _) _ key)
  (.cons (o := .spare 0) rfl rfl (.cons (o := .spare 0) rfl rfl
  (.cons (o := T4) rfl ⟨_, rfl, .cons (.flat .nilsl) (.cons (.flat .nilsl) (.cons (.flat .nilsl) .nil))⟩ (.cons (o := T5) rfl ⟨_, rfl, .cons (.flat .int) (.cons (.flat .int) .nil)⟩ .nil))))))))
theorem zfp (pools : List (List zq)) (items : List zD) (syms : List zZ) (x : zD) (l : List zD) (o : Out) : (x :: l).foldl (fun o x => if o.fe = 0 then qD pools items syms o x else o) o = l.foldl (fun o x => if o.fe = 0 then qD pools items syms o x else o) (if o.fe = 0 then qD pools items syms o x else o) := rfl
theorem zn9 : za Tryz.prog znJ (zz (fun ((l, q) : List y4 × List zj) => zai l ≤ 9000 ∧ (∀ x ∈ l, wt (x.toks.map tk) ≤ 1048576) ∧ q.length ≤ 1000000 ∧ l.length ≤ 1000000) (fun (l, q) => [.sl 2 (l.map xR) none, .sl 2 (q.map xY) none])
  fun (l, q) => .tup [zmq (qZ q l).1, .agg [.int .i64 (qZ q l).2.1, .int .i64 (qZ q l).2.2]]) := by
 refine ze zi Tryz.func67 rfl (by decide) ?_
 rintro ⟨l, q⟩ ⟨ht, hw, hq, hll⟩
 have ht : zai l ≤ 9000 := ht
 have hw : ∀ x ∈ l, wt (x.toks.map tk) ≤ 1048576 := hw
 have hq : q.length ≤ 1000000 := hq
 have hll : l.length ≤ 1000000 := hll
 refine ⟨Nat.le_refl _, by simp [Tryz.f67], fun E hE => ?_⟩
 have hE0 : E.L.length = 0 := by rw [hE]; rfl
 show AWP _ _ _ _ (vV _ _ _ (.tup [zmq (qZ q l).1, .agg [.int .i64 (qZ q l).2.1, .int .i64 (qZ q l).2.2]]) []) _ []
 refine xv (zb _ ?_)
 (all_goals refine qgp (Lf.mk ?_))
 refine xv (zb _ ?_)
 (all_goals refine qgp (Lf.mk ?_))
 refine xv (zb _ ?_)
 (all_goals refine qgp (Lf.mk ?_))
 refine j7 (α := Unit) (fun _ => True) (fun _ => [(4, .loc 6 0), (5, .loc 7 0), (6, .loc 0 0), (7, .int .i64 (zar l))]) (fun _ => bO q (wN q l b0) ++ [T4, T5]) ?_ ?_
 ·refine zb _ ?_
  (all_goals refine qgp (Lf.mk ?_))
  refine z7 (α := Nat × Bld × Int) (fun p => p.1 ≤ l.length ∧ wN q (l.drop p.1) p.2.1 = wN q l b0 ∧ (l.drop p.1).foldl (fun _ x => x.pos) p.2.2 = zar l ∧ zW p.2.1 (1 + zai (l.drop p.1)))
   (fun p => [(4, .loc 6 0), (5, .loc 7 0), (6, .loc 0 0), (7, .int .i64 p.2.2), (14, .sl 2 (l.map xR) none), (15, .int .i64 l.length), (16, .int .i64 p.1)]) (fun p => bO q p.2.1 ++ [T4, T5]) (fun p => l.length - p.1) (fun _ => by rw [hE0]; exact Nat.zero_le _) (0, b0, 0)
   ⟨Nat.zero_le _, rfl, rfl, zqi.less (by show 1 + zai l ≤ _; omega)⟩ ?_ ?_
  ·rw [hE0]
   exact zqh q ⟨.loc rfl, .loc rfl, .loc rfl, .flat .int, .flat .sl, .flat .int, .flat .int, trivial⟩
  rintro ⟨k, b, la⟩ ⟨i1, i2, i3, i4⟩
  dsimp only at i1 i2 i3 i4 ⊢
  refine zb _ ?_
  (all_goals refine qgp ?_ <;> (repeat' first | exact trivial | intro hc | refine And.intro ?_ ?_) <;> refine Lf.mk ?_)
  ·obtain ⟨x, hx⟩ := yi (l := l) (k := k) (by omega)
   have hkl : k < l.length := by omega
   have hgx : l[k] = x := by rw [List.getElem?_eq_getElem hkl] at hx; exact Option.some.inj hx
   rw [List.drop_eq_getElem_cons hkl, hgx] at i2 i3 i4
   rw [zn8] at i2
   rw [List.foldl_cons] at i3
   rw [zai] at i4
   have hr' : zW (xU q b x) (1 + zai (l.drop (k + 1))) := zW.line x (i4.less (by omega))
   refine zk x (by omega) (by simpa using hx) ?_
   (all_goals refine qgp (Lf.mk ?_))
   refine zrR q b x [T4, T5, .cells [.int .i64 x.pos, .sl 3 (x.toks.map wC) none]] (i4.less (by omega)) (hw x (List.mem_of_getElem? hx)) hq rfl rfl (fun hn => ?_) (fun hn hn' => ?_)
   ·(all_goals refine qgp (Lf.mk ?_))
    exact wG (k + 1, xU q b x, x.pos) [.cells [.int .i64 x.pos, .sl 3 (x.toks.map wC) none]] ⟨by show k + 1 ≤ _; omega, i2, i3, hr'⟩ (by dsimp only; omega) (by simp) (by rw [hE0]; exact Nat.zero_le _) (zvl _ _) ⟨rfl, rfl, rfl, rfl, rfl, rfl, rfl, trivial⟩
     (.cons (.loc (Nat.lt_of_lt_of_le (by decide : 6 < 8) (Nat.le_of_eq rfl))) (.cons (.loc (Nat.lt_of_lt_of_le (by decide : 7 < 8) (Nat.le_of_eq rfl))) (.cons (.loc (Nat.lt_of_lt_of_le (by decide : 0 < 8) (Nat.le_of_eq rfl))) (.cons .int (.cons .sl (.cons .int (.cons .int .nil)))))))
   ·(all_goals refine qgp (Lf.mk ?_))
    refine zjT (k + 1, xU q b x, x.pos) ⟨by show k + 1 ≤ _; omega, i2, i3, hr'⟩ (by dsimp only; omega) ?_
    rw [hE0]
    exact zrS q (xU q b x) _ hn' ⟨.loc rfl, .loc rfl, .loc rfl, .flat .int, .flat .sl, .flat .int, .flat .int, trivial⟩
  ·have hk : k = l.length := by omega
   rw [hk, List.drop_length] at i2 i3
   have e1 : b = wN q l b0 := i2
   have e2 : la = zar l := i3
   subst e1
   exact ⟨(), trivial, zX rfl ⟨rfl, rfl, rfl, by rw [← e2]; rfl, trivial⟩⟩
 ·rintro _ _
  have hroom : zW (wN q l b0) (1000000 - 9000) := zir l (zqi.less (by omega))
  have hok : OkB 9000 (wN q l b0) := zmT (by decide) l (zqi.less (by omega)) (ok0 9000)
  have hroom2 : zW (vS (wN q l b0) (zar l)) 990999 := (hroom.less (by decide : 990999 + 1 ≤ 1000000 - 9000)).pool _
  have hok2 : OkB 9000 (vS (wN q l b0) (zar l)) := hok.pool (by have := hroom.curl; omega) _
  have hsh := zrQ (wN q l b0) (zar l)
  have hbi := hroom.items
  have hbs := hroom.shut
  have hR : qZ q l = zqg (vS (wN q l b0) (zar l)) := rfl
  rw [hR]
  generalize wN q l b0 = b1 at *
  refine xv (zb _ ?_)
  (all_goals refine qgp (Lf.mk ?_))
  refine zj4 q b1 (zar l) [T4, T5] (by omega) (by omega) rfl rfl ?_
  generalize vS b1 (zar l) = b2 at *
  (all_goals refine qgp (Lf.mk ?_))
  obtain ⟨items, syms, marks, shut, has, cur, fe, fa⟩ := b2
  have hsh : has = false := hsh
  subst hsh
  clear hR hroom hok hbi hbs
  have hL : zqg ⟨items, syms, marks, shut, false, cur, fe, fa⟩ = if fe ≠ 0 then (noO, fe, fa) else if 8000 < (yE shut marks ⟨items, syms⟩).2 then (noO, 4, 0)
   else if (vr shut (yE shut marks ⟨items, syms⟩).1.items (yE shut marks ⟨items, syms⟩).1.syms ⟨[], [], fe, fa⟩).fe ≠ 0
    then (noO, (vr shut (yE shut marks ⟨items, syms⟩).1.items (yE shut marks ⟨items, syms⟩).1.syms ⟨[], [], fe, fa⟩).fe, (vr shut (yE shut marks ⟨items, syms⟩).1.items (yE shut marks ⟨items, syms⟩).1.syms ⟨[], [], fe, fa⟩).fa)
   else (⟨(vr shut (yE shut marks ⟨items, syms⟩).1.items (yE shut marks ⟨items, syms⟩).1.syms ⟨[], [], fe, fa⟩).code, (yE shut marks ⟨items, syms⟩).1.syms,
    (vr shut (yE shut marks ⟨items, syms⟩).1.items (yE shut marks ⟨items, syms⟩).1.syms ⟨[], [], fe, fa⟩).rels⟩, 0, 0) := rfl
  generalize zqg ⟨items, syms, marks, shut, false, cur, fe, fa⟩ = R at *
  refine xv (zb _ ?_)
  (all_goals refine qgp ?_ <;> (repeat' first | exact trivial | intro hc | refine And.intro ?_ ?_) <;> refine Lf.mk ?_)
  ·rw [if_pos hc] at hL
   subst hL
   exact zf (VS.mk (LeD.tup (.cons (LeD.agg (.cons (.nil 1) (.cons (.nil 2) (.cons (.nil 4) .nil)))) (LeL.refl _))))
  have hfe : fe = 0 := hc
  rw [if_neg (fun h => h hc)] at hL
  have hTl : ∀ p ∈ shut, p.length ≤ 9000 := hok2.shl
  have hsz : ∀ x ∈ items, wi shut x := fun x hx => by
   have := hok2.its x hx
   exact ⟨this.al, this.da, this.po, fun p hp => by have := hTl p hp; omega⟩
  have hil : items.length ≤ 9001 := by have := hroom2.items; dsimp only at this; omega
  have hml : marks.length ≤ 9001 := by have := hroom2.marks; dsimp only at this; omega
  have hlay : jF shut marks ⟨items, syms⟩ := ⟨hsz, by show items.length ≤ _; omega, hok2.len, by omega, hok2.pos⟩
  have hW := zis (pools := shut) (marks := marks) (wA items + 1) ⟨items, syms⟩ (Nat.lt_succ_self _) hsz
  have hW : zvn shut ⟨items, syms⟩ (yE shut marks ⟨items, syms⟩) := hW
  refine xv (zb _ ?_)
  (all_goals refine qgp (Lf.mk ?_))
  refine xg zn4 [T4, T5] (⟨items, syms⟩, marks, shut, cur, fe, fa, q) hlay rfl (LeL.refl _) rfl (.cons (.loc (Nat.lt_of_lt_of_le (by decide : 0 < 6) (Nat.le_of_eq rfl))) .nil) .int (y5 _ _) (y5 _ _) ?_
  dsimp only
  generalize yE shut marks ⟨items, syms⟩ = W at *
  obtain ⟨⟨its, sys⟩, n⟩ := W
  dsimp only at hL ⊢
  (all_goals refine qgp ?_ <;> (repeat' first | exact trivial | intro hc | refine And.intro ?_ ?_) <;> refine Lf.mk ?_)
  ·rw [if_pos hc] at hL
   subst hL
   exact zf (VS.mk (LeD.tup (.cons (LeD.agg (.cons (.nil 1) (.cons (.nil 2) (.cons (.nil 4) .nil)))) (LeL.refl _))))
  rw [if_neg hc] at hL
  have hlen : its.length = items.length := hW.sim.len
  have hsl : sys.length = syms.length := hW.syms
  have hsyl : syms.length ≤ 9001 := by have := hok2.len; dsimp only at this; omega
  have hin : ∀ y ∈ its, zmR ⟨its, sys, marks, shut, false, cur, fe, fa⟩ y := fun y hy => by
   obtain ⟨x, hx, hs⟩ := hW.sim.from_ y hy
   have hi := hok2.its x hx
   have ha := hW.at_ y hy
   refine ⟨zrT hs (hsz x hx), ha.1, by omega, ?_, fun h6 => ?_⟩
   ·rw [hs.idx]; have := hi.ix; omega
   ·have hl := hi.li (by rw [← hs.kind]; exact h6)
    have h0 : zjq false = 0 := rfl
    rw [h0] at hl
    dsimp only at hl
    obtain ⟨z, hz, hz9, hzp⟩ := hok2.put x.pool.toNat (by dsimp only; omega)
    obtain ⟨u, hu, hzu⟩ := hW.sim.to_ z hz
    refine zmV _ _ _ ⟨u, hu, ?_⟩
    rw [hzu.kind, hz9, hzu.pool, hzp, hs.pool, Int.toNat_of_nonneg hl.1]
    simp
  have hgrow : ∀ (o : Out), ∀ y ∈ its, (qD shut its sys o y).code.length ≤ o.code.length + 44100 ∧ (qD shut its sys o y).rels.length ≤ o.rels.length + 9000 := fun o y hy => by
   have ha := hW.at_ y hy
   exact zrU (hin y hy).size ha.1 (by omega) hTl
  have hF : vr shut its sys ⟨[], [], fe, fa⟩ = its.foldl (fun o x => if o.fe = 0 then qD shut its sys o x else o) ⟨[], [], fe, fa⟩ := rfl
  generalize vr shut its sys ⟨[], [], fe, fa⟩ = F at *
  refine j7 (α := Unit) (fun _ => True) (fun _ => [(4, .loc 7 0), (5, .loc 8 0), (6, .loc 0 0)]) (fun _ => eO q ⟨its, sys, marks, shut, false, cur, fe, fa⟩ F ++ [T4, T5]) ?_ ?_
  ·refine zb _ ?_
   (all_goals refine qgp (Lf.mk ?_))
   refine z7 (α := Nat × Out) (fun p => p.1 ≤ its.length ∧ (its.drop p.1).foldl (fun o x => if o.fe = 0 then qD shut its sys o x else o) p.2 = F ∧ p.2.code.length ≤ 44100 * p.1 ∧ p.2.rels.length ≤ 9000 * p.1)
    (fun p => [(4, .loc 7 0), (5, .loc 8 0), (6, .loc 0 0), (49, .int .i64 its.length), (50, .int .i64 p.1)]) (fun p => eO q ⟨its, sys, marks, shut, false, cur, fe, fa⟩ p.2 ++ [T4, T5]) (fun p => its.length - p.1) (fun _ => by rw [hE0]; exact Nat.zero_le _) (0, ⟨[], [], fe, fa⟩)
    ⟨Nat.zero_le _, hF.symm, Nat.le_refl _, Nat.le_refl _⟩ ?_ ?_
   ·rw [hE0]
    exact zs5 q its sys marks shut cur fe fa ⟨.loc rfl, .loc rfl, .loc rfl, .flat .int, .flat .int, trivial⟩
   rintro ⟨k, o⟩ ⟨j1, j2, j3, j4⟩
   dsimp only at j1 j2 j3 j4 ⊢
   refine zb _ ?_
   (all_goals refine qgp ?_ <;> (repeat' first | exact trivial | intro hc | refine And.intro ?_ ?_) <;> refine Lf.mk ?_)
   ·obtain ⟨x, hx⟩ := yi (l := its) (k := k) (by omega)
    have hkl : k < its.length := by omega
    have hgx : its[k] = x := by rw [List.getElem?_eq_getElem hkl] at hx; exact Option.some.inj hx
    rw [List.drop_eq_getElem_cons hkl, hgx, zfp, if_pos (by assumption)] at j2
    obtain ⟨g1, g2⟩ := hgrow o x (List.mem_of_getElem? hx)
    refine xg zn7 [T4, T5] (⟨its, sys, marks, shut, false, cur, fe, fa⟩, o, k, x, q) ⟨rfl, hx, hin, by show its.length ≤ _; omega, by show sys.length ≤ _; omega, by show o.code.length ≤ _; omega, by show o.rels.length ≤ _; omega⟩ rfl
     (LeL.of_eq (by show [D.loc 0 0, .aloc 1 its.length (0 + ((k : Nat) : Int).toNat) 0] = _; rw [Nat.zero_add, Int.toNat_natCast])) rfl
     (.cons (.loc (Nat.lt_of_lt_of_le (by decide : 0 < 7) (Nat.le_of_eq rfl))) (.cons (.aloc (Nat.lt_of_lt_of_le (by decide : 1 < 7) (Nat.le_of_eq rfl))) .nil)) .tup0 (wD _ _ _) (wD _ _ _) ?_
    have hem : emB ⟨its, sys, marks, shut, false, cur, fe, fa⟩ o x = qD shut its sys o x := rfl
    dsimp only
    rw [hem]
    generalize qD shut its sys o x = o2 at *
    (all_goals refine qgp (Lf.mk ?_))
    exact zR (k + 1, o2) ⟨by show k + 1 ≤ _; omega, j2, by dsimp only; omega, by dsimp only; omega⟩ (by dsimp only; omega) rfl ⟨rfl, rfl, rfl, rfl, rfl, trivial⟩
   ·have hkl : k < its.length := by omega
    rw [List.drop_eq_getElem_cons hkl, zfp, if_neg hc] at j2
    exact zR (k + 1, o) ⟨by show k + 1 ≤ _; omega, j2, by dsimp only; omega, by dsimp only; omega⟩ (by dsimp only; omega) rfl ⟨rfl, rfl, rfl, rfl, rfl, trivial⟩
   ·have hk : k = its.length := by omega
    rw [hk, List.drop_length] at j2
    have j2 : o = F := j2
    subst j2
    exact ⟨(), trivial, zX rfl ⟨rfl, rfl, rfl, trivial⟩⟩
  ·rintro _ _
   refine zb _ ?_
   (all_goals refine qgp ?_ <;> (repeat' first | exact trivial | intro hc | refine And.intro ?_ ?_) <;> refine Lf.mk ?_)
   ·rw [if_pos hc] at hL
    subst hL
    exact zf (VS.mk (LeD.tup (.cons (LeD.agg (.cons (.nil 1) (.cons (.nil 2) (.cons (.nil 4) .nil)))) (LeL.refl _))))
   ·rw [if_neg (fun h => h hc)] at hL
    subst hL
    refine wO (k := 2) (e := 2) (els := sys.map xm) (els' := sys.map xm) (r1 := .tup [.agg [.sl 1 (F.code.map zA) (some 6), .sl 2 (sys.map xm) (some 9), .sl 4 (F.rels.map jE) (some 5)], .agg [.int .i64 0, .int .i64 0]]) rfl (Nat.zero_le 2) (zqj sys) ?_ ?_ (Nat.zero_le _)
    ·refine .tup _ _ rfl fun i d d' h1 h2 => ?_
     match i, h1, h2 with
     | 0, h1, h2 =>
      cases h1
      cases h2
      refine .agg _ _ rfl fun j c c' g1 g2 => ?_
      match j, g1, g2 with
      | 0, g1, g2 => cases g1; cases g2; exact .keep _
      | 1, g1, g2 => cases g1; cases g2; exact .here _ _ (by simp) (by simp)
      | 2, g1, g2 => cases g1; cases g2; exact .keep _
      | j + 3, g1, g2 => cases g1
     | 1, h1, h2 => cases h1; cases h2; exact .keep _
     | i + 2, h1, h2 => cases h1
    ·exact zf (VS.mk (LeD.tup (.cons (LeD.agg (.cons (.strip _ _ _) (.cons (.strip _ _ _) (.cons (.strip _ _ _) .nil)))) (LeL.refl _))))
end Go.Proofs.YtnkdeacghopkiaaGreatDoor
namespace Go.Proofs.YtnkdeacghopkiaaGreatDoor
open Go Go.Plat
set_option linter.unusedVariables false
set_option linter.unusedSimpArgs false
set_option maxRecDepth 100000
set_option maxHeartbeats 2000000
attribute [local irreducible] AWP zN yv zU zo yC yh zG yb yf zx za zY yz zr yg yx yy yn yo zw zy zT xH yN ym yq zI vo xX kZ x3 xW wv okC puF puR xS zJ x2
theorem zrV {α : Type} {l : List α} {k : Nat} {x : α} (h : l[k]? = some x) : l.take (k + 1) = l.take k ++ [x] := by
 have hk := (List.getElem?_eq_some_iff.1 h).1
 rw [List.take_succ_eq_append_getElem hk]
 congr 2
 rw [List.getElem?_eq_getElem hk] at h
 exact Option.some.inj h
theorem zqk : za Tryz.prog zpH (zz (fun l : List y4 => l.length ≤ 1000000000 ∧ ∀ x ∈ l, x.toks.length ≤ 1000000000) (fun l => [.sl 2 (l.map xR) none]) fun l => .sl 2 (l.map xR) none) := by
 refine ze zi Tryz.func112 rfl (by decide) ?_
 rintro l ⟨hl, ht⟩
 refine ⟨Nat.le_refl _, by simp [Tryz.f112], fun E hE => ?_⟩
 refine zb _ ?_
 (all_goals refine qgp (Lf.mk ?_))
 refine kX (j6 3 2 rfl) ?_
 refine yu (α := Nat) (fun k => k ≤ l.length)
  (fun k => [(3, .sl 2 ((l.take k).map xR) (some 0)), (6, .sl 2 (l.map xR) none), (7, .int .i64 l.length), (8, .int .i64 k)])
  (fun k => [.spare (l.take k).length]) (fun k => l.length - k) (fun _ => by simp [hE]) 0 (Nat.zero_le _) ?_ ?_
 ·(repeat' (first | (refine VS.mk ?_) | exact trivial | exact rfl | refine And.intro ?_ ?_))
 intro k hk
 have hkl : (l.take k).length = k := by rw [List.length_take]; omega
 refine zb _ ?_
 (all_goals refine qgp ?_ <;> (repeat' first | exact trivial | intro hc | refine And.intro ?_ ?_) <;> refine Lf.mk ?_)
 ·obtain ⟨x, hx⟩ : ∃ x, l[k]? = some x := ⟨_, List.getElem?_eq_getElem (by omega)⟩
  have hS := zrV hx
  have hkl1 : (l.take (k + 1)).length = k + 1 := by rw [List.length_take]; omega
  have hxt := ht x (List.mem_of_getElem? hx)
  refine zk x (by omega) (by simpa using hx) ?_
  (all_goals refine qgp (Lf.mk ?_))
  refine zL (k + 1) (by omega) (by omega) ?_
  (repeat' (first | (refine VS.mk ?_) | exact trivial | exact rfl | refine And.intro ?_ ?_))
  ·rw [hkl1, List.length_append, List.length_map, hkl]; rfl
  ·rw [hS, List.map_append, List.map_cons, List.map_nil]; rfl
 ·have e : l.take k = l := List.take_of_length_le (by omega)
  rw [e]
  exact zf (VS.mk (LeD.of_eq rfl))
end Go.Proofs.YtnkdeacghopkiaaGreatDoor
namespace Go.Proofs.YtnkdeacghopkiaaGreatDoor
open Go Go.Plat
set_option linter.unusedVariables false
set_option linter.unusedSimpArgs false
set_option maxRecDepth 100000
set_option maxHeartbeats 2000000
attribute [local irreducible] AWP zN yv zU zo yC yh zG yb Lib.itoa yf zx za zY yz zr yg zg.kids zg.kind zg.n zg.name yx yy yn yo zw zy xn wg zT qZ vO xf y9 wU xy wd xE xK xM xe yQ qk yr yR xI x1 ww zE xo wW zH zS wV x6 yS
def zbq (x : y4) : List UInt8 := match x.toks with
 | t :: _ => if t.kind = 1 then t.text else []
 | [] => []
theorem zoa : za Tryz.prog zlV (zz (fun x : y4 => x.toks.length ≤ 1000000000) (fun x => [xR x]) fun x => .str (zbq x)) := by
 refine ze zi Tryz.func107 rfl (by decide) ?_
 rintro ⟨pos, toks⟩ hl
 have hl : toks.length ≤ 1000000000 := hl
 refine ⟨Nat.le_refl _, by simp [Tryz.f107], fun E hE => ?_⟩
 cases toks with
 | nil =>
  refine zb _ ?_
  (all_goals refine qgp ?_ <;> (repeat' first | exact trivial | intro hc | refine And.intro ?_ ?_) <;> refine Lf.mk ?_)
  exact zf (VS.mk (LeD.refl _))
 | cons t r =>
  have hl : r.length + 1 ≤ 1000000000 := hl
  refine zb _ ?_
  (all_goals refine qgp ?_ <;> (repeat' first | exact trivial | intro hc | refine And.intro ?_ ?_) <;> refine Lf.mk ?_)
  all_goals refine zf (VS.mk (LeD.of_eq (congrArg D.str ?_)))
  ·unfold zbq; dsimp only; rw [if_neg hc]
  ·unfold zbq; dsimp only; rw [if_pos hc]
def mC (out : List y4) (looked fe fa : Int) : List D := [.nilsl, .nilsl, .sl 2 (out.map xR) (some 1), .int .i64 looked, .int .i64 fe, .int .i64 fa]
def mO (out : List y4) (looked fe fa : Int) : List Ob := [.cells (mC out looked fe fa), .spare out.length]
theorem zit (out : List y4) (looked fe fa : Int) : ∀ x ∈ mO out looked fe fa, ClO 2 x := by
 intro x hx
 simp only [mO, List.mem_cons, List.not_mem_nil, or_false] at hx
 rcases hx with rfl | rfl
 ·exact .cells (.cons .nilsl (.cons .nilsl (.cons (.tok (by decide)) (.cons .int (.cons .int (.cons .int .nil))))))
 ·exact .spare
theorem zob : za Tryz.prog ze5 (z1 (fun _ : List y4 × Int × Int × Int × List UInt8 => True) (fun (_, _, _, _, name) => [.loc 0 0, .str name]) (fun (out, looked, fe, fa, _) => mO out looked fe fa) (fun _ => .int .i64 (-1)) fun (out, looked, fe, fa, _) => mO out looked fe fa) := by
 refine ze zi Tryz.func110 rfl (by decide) ?_
 rintro ⟨out, looked, fe, fa, name⟩ _
 refine ⟨Nat.le_refl _, by simp [Tryz.f110], fun E hE => ?_⟩
 refine zb _ ?_
 (all_goals refine qgp (Lf.mk ?_))
 refine xZ zi Tryz.func145 rfl (by decide) (.int .i64 (-1)) (mO out looked fe fa ++ [.cells [.str name]]) (Nat.le_refl _) (by simp [Tryz.f145]) (fun E' hE' => ?_) ?_
 ·refine zb _ ?_
  (all_goals refine qgp (Lf.mk ?_))
  refine zdM (zb _ ?_)
  (all_goals refine qgp ?_ <;> (repeat' first | exact trivial | intro hc | refine And.intro ?_ ?_) <;> refine Lf.mk ?_)
  exact yM rfl rfl
 ·(all_goals refine qgp (Lf.mk ?_))
  exact xc (mO out looked fe fa) [_] rfl (Nat.le_refl _) .int (zit _ _ _ _)
def zcd (h : List UInt8) : Prop := h ≠ [46, 109, 97, 99, 114, 111] ∧ h ≠ [46, 114, 101, 112, 116] ∧ h ≠ [46, 105, 102] ∧ h ≠ [46, 101, 110, 100, 109] ∧ h ≠ [46, 101, 110, 100, 114] ∧ h ≠ [46, 101, 110, 100, 105, 102] ∧ h ≠ [46, 101, 108, 115, 101] ∧ h ≠ [46, 101, 113, 117]
instance (h : List UInt8) : Decidable (zcd h) := by unfold zcd; infer_instance
theorem zmW : za Tryz.prog zep (z1 (fun ((l, out, looked, deep) : List y4 × List y4 × Int × Int) => 0 ≤ deep ∧ deep ≤ 6 ∧ out.length + l.length ≤ 200 ∧ 0 ≤ looked ∧ looked + (l.length : Int) ≤ 4000 ∧ ∀ x ∈ l, zcd (zbq x) ∧ x.toks.length ≤ 1000000000)
  (fun (l, _, _, deep) => [.loc 0 0, .sl 2 (l.map xR) none, .int .i64 deep]) (fun (_, out, looked, _) => mO out looked 0 0) (fun _ => .tup []) fun (l, out, looked, _) => mO (out ++ l) (looked + (l.length : Int)) 0 0) := by
 refine ze zi Tryz.func86 rfl (by decide) ?_
 rintro ⟨l, out, looked, deep⟩ ⟨hd0, hd1, hol, hk0, hk1, hl⟩
 have hd1 : deep ≤ 6 := hd1
 have hol : out.length + l.length ≤ 200 := hol
 have hk0 : 0 ≤ looked := hk0
 have hk1 : looked + (l.length : Int) ≤ 4000 := hk1
 have hl : ∀ x ∈ l, zcd (zbq x) ∧ x.toks.length ≤ 1000000000 := hl
 refine ⟨Nat.le_refl _, by simp [Tryz.f86], fun E hE => ?_⟩
 have hE2 : E.L.length = 2 := by rw [hE]; rfl
 refine zb _ ?_
 (all_goals refine qgp ?_ <;> (repeat' first | exact trivial | intro hc | refine And.intro ?_ ?_) <;> refine Lf.mk ?_)
 refine z7 (α := Nat) (fun k => k ≤ l.length) (fun k => [(0, .loc 0 0), (1, .sl 2 (l.map xR) none), (2, .int .i64 deep), (7, .int .i64 k)]) (fun k => mO (out ++ l.take k) (looked + (k : Int)) 0 0) (fun k => l.length - k) (fun _ => by rw [hE2]; exact Nat.le_refl 2) 0 (Nat.zero_le _) ?_ ?_
 ·exact zX (by simp) ⟨rfl, rfl, rfl, rfl, trivial⟩
 intro k hk
 have hk : k ≤ l.length := hk
 refine zb _ ?_
 (all_goals refine qgp ?_ <;> (repeat' first | exact trivial | intro hc | refine And.intro ?_ ?_) <;> refine Lf.mk ?_)
 ·obtain ⟨x, hx⟩ := yi (l := l) (k := k) (by omega)
  have hkl : k < l.length := by omega
  have hgx : l[k] = x := by rw [List.getElem?_eq_getElem hkl] at hx; exact Option.some.inj hx
  obtain ⟨hp, hxl⟩ := hl x (List.mem_of_getElem? hx)
  have hxk : l[((k : Nat) : Int).toNat]? = some x := by rw [Int.toNat_natCast]; exact hx
  refine zk x (Int.natCast_nonneg k) hxk ?_
  (all_goals refine qgp (Lf.mk ?_))
  refine zd zoa x hxl (VS.mk (LeL.of_eq rfl)) ?_
  obtain ⟨p1, p2, p3, p4, p5, p6, p7, p8⟩ := hp
  (all_goals refine qgp ?_ <;> (repeat' first | exact trivial | intro hc | refine And.intro ?_ ?_) <;> refine Lf.mk ?_)
  all_goals first
   | (exfalso; exact p1 (by assumption))
   | (exfalso; exact p2 (by assumption))
   | (exfalso; exact p3 (by assumption))
   | (exfalso; exact p4 (by assumption))
   | (exfalso; exact p5 (by assumption))
   | (exfalso; exact p6 (by assumption))
   | (exfalso; exact p7 (by assumption))
   | (exfalso; exact p8 (by assumption))
   | skip
  have hok : (out ++ l.take k).length = out.length + k := by rw [List.length_append, List.length_take]; omega
  refine xg zob [] (out ++ l.take k, looked + (k : Int) + 1, 0, 0, zbq x) trivial rfl (LeL.refl _) rfl (.cons (.loc (Nat.lt_of_lt_of_le (by decide : 0 < 2) (Nat.le_of_eq rfl))) (.cons .str .nil)) .int (zit _ _ _ _) (zit _ _ _ _) ?_
  have htk : (l.take (k + 1)).drop k = [x] := by
   rw [List.take_succ_eq_append_getElem hkl, List.drop_left' (by rw [List.length_take]; omega), hgx]
  have htk2 : out ++ l.take (k + 1) = (out ++ l.take k) ++ [x] := by rw [List.take_succ_eq_append_getElem hkl, hgx, List.append_assoc]
  generalize out ++ l.take k = ok at *
  (all_goals refine qgk ?_ <;> (repeat' first | exact trivial | intro hc | refine And.intro ?_ ?_) <;> refine Lf.mk ?_)
  ·exact absurd hc (by decide)
  ·exfalso; omega
  refine zd zqk [x] ⟨by simp, fun y hy => by rw [List.mem_singleton] at hy; subst hy; exact hxl⟩ (VS.mk (LeL.of_eq (by rw [Int.toNat_natCast, show (((k : Nat) : Int) + 1).toNat = k + 1 by omega, htk]))) ?_
  (all_goals refine qgk (Lf.mk ?_))
  exact zR (k + 1) (by show k + 1 ≤ _; omega) (by omega) (by dsimp only; rw [htk2, show looked + (((k + 1 : Nat)) : Int) = looked + (k : Int) + 1 by omega]; rfl) ⟨rfl, rfl, rfl, rfl, trivial⟩
 ·exact absurd trivial hc
 ·have hk2 : k = l.length := by omega
  rw [hk2, List.take_length]
  exact yM rfl rfl
def zrW (l : List y4) : Prop := l.length ≤ 200 ∧ ∀ x ∈ l, zcd (zbq x) ∧ x.toks.length ≤ 1000000000
theorem zmX : za Tryz.prog zjb (zz (fun l : List y4 => zrW l) (fun l => [.sl 2 (l.map xR) none]) fun l => .tup [.sl 2 (l.map xR) none, .sl 2 [] none, .agg [.int .i64 0, .int .i64 0]]) := by
 refine ze zi Tryz.func66 rfl (by decide) ?_
 rintro l ⟨hl, hp⟩
 refine ⟨Nat.le_refl _, by simp [Tryz.f66], fun E hE => ?_⟩
 have hE0 : E.L.length = 0 := by rw [hE]; rfl
 refine xv (zb _ ?_)
 (all_goals refine qgp (Lf.mk ?_))
 refine xv (zb _ ?_)
 (all_goals refine qgp (Lf.mk ?_))
 refine kX (σ' := [(0, .sl 2 (l.map xR) none), (4, .loc 2 0), (5, .loc 0 0)]) (L' := mO [] 0 0 0 ++ [T5]) ?_ ?_
 ·rw [hE0]
  refine xt (qt 1 2 [.nilsl, .nilsl, .sl 2 [] (some 2), .int .i64 0, .int .i64 0, .int .i64 0] rfl ⟨.same, .same, .here, .same, .same, .same, trivial⟩) ?_
  refine wq [1, 2, 0] rfl rfl ?_ ⟨.flat .sl, .loc rfl, .loc rfl, trivial⟩
  exact .cons (o := .cells [.nilsl, .nilsl, .sl 2 [] (some 2), .int .i64 0, .int .i64 0, .int .i64 0]) rfl ⟨_, rfl, .cons (.flat .nilsl) (.cons (.flat .nilsl) (.cons (.tok rfl) (.cons (.flat .int) (.cons (.flat .int) (.cons (.flat .int) .nil)))))⟩
   (.cons (o := .spare 0) rfl rfl (.cons (o := T5) rfl ⟨_, rfl, .cons (.flat .int) (.cons (.flat .int) .nil)⟩ .nil))
 refine zb _ ?_
 (all_goals refine qgp (Lf.mk ?_))
 refine xg zmW [T5] (l, [], 0, 0) ⟨by decide, by decide, by simpa using hl, by decide, by show 0 + (l.length : Int) ≤ 4000; omega, hp⟩ rfl (LeL.refl _) rfl (.cons (.loc (Nat.lt_of_lt_of_le (by decide : 0 < 2) (Nat.le_of_eq rfl))) (.cons .sl (.cons .int .nil))) .tup0 (zit _ _ _ _) (zit _ _ _ _) ?_
 dsimp only
 rw [List.nil_append]
 (all_goals refine qgp ?_ <;> (repeat' first | exact trivial | intro hc | refine And.intro ?_ ?_) <;> refine Lf.mk ?_)
 ·exact absurd trivial hc
 ·exact zf (VS.mk (LeD.tup (.cons (.strip _ _ _) (.cons (.nil 2) (LeL.refl _)))))
end Go.Proofs.YtnkdeacghopkiaaGreatDoor
namespace Go.Proofs.YtnkdeacghopkiaaGreatDoor
open Go Go.Plat
set_option linter.unusedVariables false
set_option linter.unusedSimpArgs false
set_option maxRecDepth 100000
set_option maxHeartbeats 2000000
attribute [local irreducible] AWP zN yv zU zo yC yh zG yb yf zx za zY yz zr yg yx yy yn yo zw zy zT xH yN ym yq zI vo xX kZ x3 xW wv okC puF puR xS zJ x2
end Go.Proofs.YtnkdeacghopkiaaGreatDoor
namespace Go.Proofs.YtnkdeacghopkiaaGreatDoor
open Go Go.Plat
set_option linter.unusedVariables false
set_option linter.unusedSimpArgs false
set_option maxRecDepth 100000
set_option maxHeartbeats 2000000
attribute [local irreducible] AWP zN yv zU zo yC yh zG yb Lib.itoa yf zx za zY yz zr yg zg.kids zg.kind zg.n zg.name yx yy yn yo zw zy xn wg zT qZ vO xf y9 wU xy wd xE xK xM xe yQ qk yr yR xI x1 ww zE xo wW zH zS wV x6 yS
def xz (b : List UInt8) : zad × Int × Int := if (xe b).2.1 ≠ 0 then (noO, (xe b).2.1, (xe b).2.2) else qZ [] (xe b).1
structure zmY (b : List UInt8) : Prop where
 len : b.length ≤ 1000000000
 plain : zrW (xe b).1
 tot : zai (xe b).1 ≤ 9000
 wts : ∀ x ∈ (xe b).1, wt (x.toks.map tk) ≤ 1048576
theorem zql : za Tryz.prog zpB (zz zmY (fun b => [.sl 1 (b.map zA) none]) fun b => .tup [zmq (xz b).1, .agg [.int .i64 (xz b).2.1, .int .i64 (xz b).2.2]]) := by
 refine ze zi Tryz.func39 rfl (by decide) ?_
 rintro b ⟨h1, h2, h3, h4⟩
 refine ⟨Nat.le_refl _, by simp [Tryz.f39], fun E hE => ?_⟩
 have hU : xz b = if (xe b).2.1 ≠ 0 then (noO, (xe b).2.1, (xe b).2.2) else qZ [] (xe b).1 := rfl
 generalize xz b = U at *
 refine zb _ ?_
 (all_goals refine qgp (Lf.mk ?_))
 refine zd zg7 b h1 (VS.mk (LeL.of_eq rfl)) ?_
 have hD : zq8 (xe b) = .tup [.sl 2 ((xe b).1.map xR) none, .agg [.int .i64 (xe b).2.1, .int .i64 (xe b).2.2]] := rfl
 rw [hD]
 generalize xe b = W at *
 obtain ⟨l, e, a⟩ := W
 dsimp only at h2 h3 h4 hU ⊢
 (all_goals refine qgp ?_ <;> (repeat' first | exact trivial | intro hc | refine And.intro ?_ ?_) <;> refine Lf.mk ?_)
 ·rw [if_pos hc] at hU
  subst hU
  exact zf (VS.mk (LeD.tup (.cons (LeD.agg (.cons (.nil 1) (.cons (.nil 2) (.cons (.nil 4) .nil)))) (LeL.refl _))))
 rw [if_neg (fun h => h hc)] at hU
 refine zd zmX l h2 (VS.mk (LeL.of_eq rfl)) ?_
 (all_goals refine qgp ?_ <;> (repeat' first | exact trivial | intro hc | refine And.intro ?_ ?_) <;> refine Lf.mk ?_)
 ·exact absurd trivial hc
 refine zd zn9 (l, []) ⟨h3, h4, by decide, by have := h2.1; show l.length ≤ _; omega⟩ (VS.mk (LeL.of_eq rfl)) ?_
 dsimp only
 rw [← hU]
 (all_goals refine qgp (Lf.mk ?_))
 exact zf (VS.mk (LeD.refl _))
end Go.Proofs.YtnkdeacghopkiaaGreatDoor
namespace Go.Proofs.YtnkdeacghopkiaaGreatDoor
open Go Go.Plat Go.RowKit Go.Lib Go.Sort Go.Shelf
def zee : Value := .slice none 0 0
theorem zrX : Tryz.f22.ntmps = 33 := by simp [Tryz.f22]
set_option maxHeartbeats 4000000 in
set_option maxRecDepth 1000000 in
theorem zrY (blk off cap i j : Nat) (d : Array Value) (w : World) (h1 : ∀ u ∈ d.toList, u.oneCell' = true) (hH : Holds id w blk off d) (hcap : d.size ≤ cap) (hji : j = i + 1) (hj : j ≤ d.size) :
  Calls Tryz.prog qB #[.slice (some ⟨blk, off, none⟩) d.size cap, .int .i64 i, .int .i64 j] w fun e w' => e = .returned (.slice (some ⟨blk, off, none⟩) (d.size - 1) cap) ∧ w' = (w.drew.setCells blk (off + i) (d.toList.drop j)).setCells blk (off + (d.size - 1)) [zee] := by
 have mixed : Tryz.prog.follows .mixedOrders = true := by kernel_rfl
 have t3 := Tryz.underlying3; have a3 := Tryz.isAgg3; have z3 := Tryz.sizeOf3; have v3 := Tryz.zeroValue3
 have t4 := Tryz.underlying4; have a4 := Tryz.isAgg4; have z4 := Tryz.sizeOf4; have v4 := Tryz.zeroValue4
 have t9 := Tryz.underlying36; have a9 := Tryz.isAgg36; have z9 := Tryz.sizeOf36; have v9 := Tryz.zeroValue36
 have t24 := Tryz.underlying22; have a24 := Tryz.isAgg22; have z24 := Tryz.sizeOf22; have v24 := Tryz.zeroValue22
 obtain ⟨i0, hi0, hz0, hz1, hz2⟩ := info_parts (P := Tryz.prog) (e := 36) (z := zee) (size := 1) (bytes := 24) (by kernel_rfl)
 obtain ⟨news, hnews⟩ : ∃ news, news = d.toList.drop j := ⟨_, rfl⟩
 have hlen : news.length = d.size - j := by rw [hnews]; simp
 have hget : ∀ t, t < d.size - j → news[t]? = some (d[j + t]!) := by
  intro t ht
  rw [hnews, List.getElem?_drop, Array.getElem?_toList, getElem!_pos d (j + t) (by omega), Array.getElem?_eq_getElem (by omega)]
 obtain ⟨A, hA, hsrc⟩ : ∃ A : Addr, (if cap = j then some (⟨blk, off, none⟩ : Addr) else some ⟨blk, off + j, none⟩) = some A ∧ Hid (∀ t u, news[t]? = some u → w.drew.cell? (A.add t) = some u) := by
  by_cases h : cap = j
  ·refine ⟨⟨blk, off, none⟩, by simp [h], fun t u hu => ?_⟩
   have h0 : news.length = 0 := by rw [hlen]; omega
   rw [List.length_eq_zero_iff.1 h0] at hu
   simp at hu
  ·refine ⟨⟨blk, off + j, none⟩, by simp [h], fun t u hu => ?_⟩
   have ht : t < d.size - j := by
    have := (List.getElem?_eq_some_iff.1 hu).1
    rwa [hlen] at this
   rw [hget t ht] at hu
   rw [Addr.add_lit, show off + j + t = off + (j + t) by omega]
   exact (hH (j + t) (by omega)).1.trans hu
 have s1 : Hid (news.length = (d.size - j) * 1) := by rw [Nat.mul_one]; exact hlen
 have s2 : Hid (∀ u ∈ news, u.oneCell' = true) := by
  intro u hu
  rw [hnews] at hu
  exact h1 u (List.mem_of_mem_drop hu)
 have s3 : Hid (∀ t, t < news.length → (w.drew.cell? ⟨blk, off + i * 1 + t, none⟩).isSome = true ∧ w.drew.frozen? ⟨blk, off + i * 1 + t, none⟩ = false) := by
  intro t ht
  rw [hlen] at ht
  rw [Nat.mul_one, Nat.add_assoc]
  exact ⟨by show (w.cell? _).isSome = true; rw [(hH (i + t) (by omega)).1]; rfl, (hH (i + t) (by omega)).2⟩
 obtain ⟨W1, hW1⟩ : ∃ W1, W1 = w.drew.setCells blk (off + i * 1) news := ⟨_, rfl⟩
 have hW1' : W1 = putRow id (Sort.ahead w 1) blk off (lay d i (d.toList.drop j)) := by
  have hp := putRow_setCells id (Sort.ahead w 1) blk off (d.toList.drop j) d i (by simp; omega)
  rw [List.map_id] at hp
  rw [hW1, hnews, Nat.mul_one, ← hp, putRow_self id (Sort.ahead w 1) blk off d (holds_ahead id w 1 blk off d hH)]
  rfl
 have hH1 : Holds id W1 blk off (lay d i (d.toList.drop j)) := by rw [hW1']; exact holds_putRow id _ blk off d _ (holds_ahead id w 1 blk off d hH) (lay_size _ _ _)
 have hcl : ∀ ty, (Builtin.clear_ #[22] ty #[.slice (some ⟨blk, off + (i + (d.size - j)), none⟩) (d.size - (i + (d.size - j))) (cap - (i + (d.size - j)))]).run Tryz.prog W1 = .ok (.tuple #[]) (W1.setCells blk (off + (i + (d.size - j))) (List.replicate (d.size - (i + (d.size - j))) zee)) :=
  fun ty => Lib.run_clear_slice W1 _ _ ty _ t24 v9 rfl rfl blk (off + (i + (d.size - j))) _ _ (by omega) (fun t ht => by rw [show off + (i + (d.size - j)) + t = off + (i + (d.size - j) + t) by omega, (hH1 _ (by rw [lay_size]; omega)).1]; rfl) (fun t ht => by rw [show off + (i + (d.size - j)) + t = off + (i + (d.size - j) + t) by omega]; exact (hH1 _ (by rw [lay_size]; omega)).2)
 have X : Aside (W1 = putRow id (Sort.ahead w 1) blk off (lay d i (d.toList.drop j))) := hW1'
 have hW : Hid (W1 = w.drew.setCells blk (off + i * 1) news) := hW1
 have hlt : i < j := by omega
 have hic : i ≤ cap := by omega
 have hjc : j ≤ cap := by omega
 have s0 : Hid (news = d.toList.drop j) := hnews
 have hone : Hid (j = i + 1) := hji
 clear hW1 hW1' hH1 hH hget hnews hlen hji
 go_enter Tryz.func22, zrX
 go_wp2_with fail
 go_region_law_o (refine step_append_room rfl (.tmp 22) (.tmp 25) 22 rfl 36 i0 1 t24 hi0 hz1 blk off i cap (by simp [Act.eval, Act.put]) A (d.size - j) (cap - j) news (by simp [Act.eval, Act.put]) s1.out hsrc.out s2.out (by omega) s3.out ?_; rw [← hW.out])
 go_wp2
 go_ret
 have hji := hone.out
 refine ⟨by rw [show d.size - 1 = i + (d.size - j) by omega]; rfl, ?_⟩
 show W1.setCells blk (off + (i + (d.size - j))) (List.replicate (d.size - (i + (d.size - j))) zee) = _
 rw [hW.out, s0.out, Nat.mul_one, show d.size - (i + (d.size - j)) = 1 by omega, show i + (d.size - j) = d.size - 1 by omega]
 rfl
end Go.Proofs.YtnkdeacghopkiaaGreatDoor
namespace Go.Proofs.YtnkdeacghopkiaaGreatDoor
open Go Go.Plat
set_option linter.unusedVariables false
set_option linter.unusedSimpArgs false
set_option maxRecDepth 100000
set_option maxHeartbeats 2000000
attribute [local irreducible] AWP zN yv zU zo yC yh zG yb yf zx za zY yz zr yg yx yy yn yo zw zy zT
theorem zv1 {α : Type} {l : List α} (h : l.length = 3) : ∃ a b c, l = [a, b, c] := by
 match l, h with
 | [a, b, c], _ => exact ⟨a, b, c, rfl⟩
theorem zrZ {w : World} {F : Nat → Nat → Prop} {e : Nat} {ds : List D} {v : Value} (h : zu w F (.sl e ds none) v) : v.oneCell' = true := by cases h <;> rfl
theorem zqm {ds : List D} {i : Nat} (hi : i < ds.length) : wB (wB ds i (ds.drop (i + 1))) (ds.length - 1) [.nilsl] = ds.eraseIdx i ++ [.nilsl] := by
 apply List.ext_getElem?
 intro j
 have h1 : i + (ds.drop (i + 1)).length ≤ ds.length := by rw [List.length_drop]; omega
 rw [zam (by rw [zal h1]; show ds.length - 1 + 1 ≤ _; omega)]
 have he : (ds.eraseIdx i).length = ds.length - 1 := by rw [List.length_eraseIdx, if_pos hi]
 show (if ds.length - 1 ≤ j ∧ j < ds.length - 1 + 1 then _ else _) = _
 split
 ·rename_i h
  rw [List.getElem?_append_right (by omega), he]
 ·rename_i h
  rw [zam h1, List.length_drop]
  by_cases hj : j < ds.length - 1
  ·rw [List.getElem?_append_left (by omega), List.getElem?_eraseIdx]
   by_cases hji : j < i
   ·rw [if_neg (by omega), if_pos hji]
   ·rw [if_pos (by omega), if_neg hji, List.getElem?_drop, show i + 1 + (j - i) = j + 1 by omega]
  ·rw [if_neg (by omega), List.getElem?_eq_none (by omega), List.getElem?_eq_none (by rw [List.length_append, he]; show ds.length - 1 + 1 ≤ j; omega)]
theorem zkb : za Tryz.prog qB (z1 (fun ((way, i) : List (List UInt8) × Nat) => i < way.length) (fun (way, i) => [.osl 1 0 way.length 0 way.length, .int .i64 i, .int .i64 (i + 1 : Nat)]) (fun (way, _) => [.arr 1 (way.map zm)])
  (fun (way, _) => .osl 1 1 (way.length - 1) 0 (way.length - 1)) fun (way, i) => [.dead, .arr 1 ((way.eraseIdx i).map zm)]) := by
 unfold za
 refine ⟨⟨_, Tryz.func22, by decide, rfl⟩, ?_⟩
 rintro av L d0 L' ⟨⟨way, i⟩, hi, has, rfl, rfl, rfl⟩ w ρ vs hf hr
 have hi : i < way.length := hi
 have hr := za5.le has hr
 obtain ⟨v0, v1, v2, rfl⟩ := zv1 hr.1
 obtain ⟨a, cap, rfl, hk, ⟨hc1, hc2⟩, hm⟩ := (hr.2 0 _ _ rfl rfl).osl_inv
 obtain rfl := (hr.2 1 _ _ rfl rfl).int_inv
 obtain rfl := (hr.2 2 _ _ rfl rfl).int_inv
 obtain ⟨h1, h2, h3, h4⟩ := hf.obj 0 _ rfl
 obtain ⟨-, -, hm⟩ := hm 1 _ rfl
 obtain ⟨m1, m2, m3⟩ := hm (by simp)
 have hml : (way.map zm).length = way.length := List.length_map _
 have ha : a = some ⟨(ρ 0).block, (ρ 0).off, none⟩ := by
  rcases m1 with h | h | h
  ·omega
  ·have := hc2 h; omega
  ·simpa using h
 subst ha
 have hcap : cap = (ρ 0).cap := by omega
 obtain ⟨val, hval⟩ : ∃ val : Nat → Value, val = fun j => (w.cell? ⟨(ρ 0).block, (ρ 0).off + j, none⟩).getD zee := ⟨_, rfl⟩
 have hv : ∀ j x, way[j]? = some x → w.cell? ⟨(ρ 0).block, (ρ 0).off + j, none⟩ = some (val j) ∧ zu w (foot ρ [.arr 1 (way.map zm)]) (zm x) (val j) := fun j x hx => by
  obtain ⟨u, h5, h6⟩ := h3 j (zm x) 0 (zm x) (by rw [List.getElem?_map, hx]; rfl) rfl
  rw [Nat.mul_one, Nat.add_zero] at h5
  have : val j = u := by rw [hval]; dsimp only; rw [h5]; rfl
  rw [this]
  exact ⟨h5, h6.sl_inv⟩
 have hsome : ∀ j, j < way.length → ∃ x, way[j]? = some x := fun j hj => ⟨_, List.getElem?_eq_getElem hj⟩
 obtain ⟨d, hd⟩ : ∃ d : Array Value, d = ((List.range way.length).map val).toArray := ⟨_, rfl⟩
 have hds : d.size = way.length := by rw [hd]; simp
 have hdl : d.toList = (List.range way.length).map val := by rw [hd]
 have hdj : ∀ j, j < way.length → d[j]! = val j := fun j hj => by
  rw [getElem!_pos d j (by omega)]
  simp [hd]
 have hH : Sort.Holds id w (ρ 0).block (ρ 0).off d := fun j hj => by
  obtain ⟨x, hx⟩ := hsome j (by omega)
  rw [hdj j (by omega)]
  exact ⟨(hv j x hx).1, (h4 j (by omega)).2.1⟩
 have hone : ∀ u ∈ d.toList, u.oneCell' = true := fun u hu => by
  rw [hdl] at hu
  obtain ⟨j, hj, rfl⟩ := List.mem_map.1 hu
  obtain ⟨x, hx⟩ := hsome j (List.mem_range.1 hj)
  exact zrZ (hv j x hx).2
 have hcall := zrY (ρ 0).block (ρ 0).off cap i (i + 1) d w hone hH (by omega) rfl (by omega)
 rw [hds] at hcall
 refine hcall.mono ?_
 rintro e w' ⟨rfl, rfl⟩
 dsimp only
 have hext : Ext F0 w w.drew := ⟨rfl, rfl, rfl, Nat.le_refl _, fun _ _ _ => rfl, fun _ _ _ _ => rfl, fun _ _ _ _ _ h => h⟩
 have hf1 : yj w.drew ρ [.arr 1 (way.map zm)] := hf.grow hext
 obtain ⟨els1, hels1⟩ : ∃ els1, els1 = wB (way.map zm) i ((way.map zm).drop (i + 1)) := ⟨_, rfl⟩
 have hle1 : i + ((way.map zm).drop (i + 1)).length ≤ (way.map zm).length := by rw [List.length_drop]; omega
 have hlen1 : els1.length = way.length := by rw [hels1, zal hle1, hml]
 have p1 := (zeH hf1 (k := 0) (off := i) (els := way.map zm) (ds := (way.map zm).drop (i + 1)) (news := d.toList.drop (i + 1)) rfl hle1 (fun k x hx => by
   obtain ⟨b, _, rfl⟩ := List.mem_map.1 (List.mem_of_mem_drop (List.mem_of_getElem? hx)); rfl)
  ⟨by rw [Nat.mul_one, List.length_drop, List.length_drop, hml, Array.length_toList, hds], fun u hu => hone u (List.mem_of_mem_drop hu), fun k x j c hx hc => by
    rw [List.getElem?_drop] at hx
    obtain ⟨b, hb, rfl⟩ := List.mem_map.1 (List.mem_of_getElem? hx)
    have hj : j = 0 := by
     match j, hc with
     | 0, _ => rfl
    subst hj
    cases hc
    rw [List.getElem?_map] at hx
    obtain ⟨y, hy, hyb⟩ := Option.map_eq_some_iff.1 hx
    have hkl := (List.getElem?_eq_some_iff.1 hy).1
    refine ⟨val (i + 1 + k), ?_, ?_⟩
    ·rw [show k * 1 + 0 = k by omega, List.getElem?_drop, hdl, List.getElem?_map, List.getElem?_range hkl]; rfl
    ·rw [← hyb]
     exact ((hv _ y hy).2).keep hext.grow (.refl _ _)⟩ (.int .i64 0) .any (fun _ _ => .any _)).2
 rw [← hels1] at p1
 have p1 : xF w.drew ρ [.arr 1 (way.map zm)] .any [.arr 1 els1] (.int .i64 0) (w.drew.setCells (ρ 0).block ((ρ 0).off + i) (d.toList.drop (i + 1))) ρ := p1
 generalize w.drew.setCells (ρ 0).block ((ρ 0).off + i) (d.toList.drop (i + 1)) = w2 at *
 have p2 := (zeH p1.fits (k := 0) (off := way.length - 1) (els := els1) (ds := [.nilsl]) (news := [zee]) rfl (by rw [hlen1]; show way.length - 1 + 1 ≤ _; omega) (fun k x hx => by
   rw [List.mem_singleton.1 (List.mem_of_getElem? hx)]; rfl)
  ⟨rfl, fun u hu => by rw [List.mem_singleton.1 hu]; rfl, fun k x j c hx hc => by
    have hk0 : k = 0 := by have := (List.getElem?_eq_some_iff.1 hx).1; simpa using this
    subst hk0
    cases hx
    have hj : j = 0 := by have := (List.getElem?_eq_some_iff.1 hc).1; simpa [D.cells] using this
    subst hj
    cases hc
    exact ⟨zee, rfl, .nilsl _⟩⟩ (.int .i64 0) .any (fun _ _ => .any _)).2
 have hE : wB els1 (way.length - 1) [.nilsl] = (way.eraseIdx i).map zm ++ [.nilsl] := by
  have h := zqm (ds := way.map zm) (i := i) (by omega)
  rw [hml, ← hels1] at h
  rw [h, List.eraseIdx_eq_take_drop_succ, List.eraseIdx_eq_take_drop_succ, List.map_append, List.map_take, List.map_drop]
 have p2 : xF w2 ρ [.arr 1 els1] .any [.arr 1 ((way.eraseIdx i).map zm ++ [.nilsl])] (.int .i64 0) (w2.setCells (ρ 0).block ((ρ 0).off + (way.length - 1)) [zee]) ρ := by
  rw [← hE]
  exact p2
 have hel : ((way.eraseIdx i).map zm).length = way.length - 1 := by rw [List.length_map, List.length_eraseIdx, if_pos hi]
 generalize w2.setCells (ρ 0).block ((ρ 0).off + (way.length - 1)) [zee] = w3 at *
 have hes : ∀ x ∈ (way.eraseIdx i).map zm, ∃ b, x = zm b := fun x hx => by obtain ⟨b, _, rfl⟩ := List.mem_map.1 hx; exact ⟨b, rfl⟩
 generalize (way.eraseIdx i).map zm = es at *
 let ρ' : Pl := ⟨fun _ => ρ 0, ρ.hid⟩
 have hown : ∀ b off, own ρ' [.dead, .arr 1 es] b off → own ρ [.arr 1 (es ++ [.nilsl])] b off := by
  rintro b off ⟨k, o, h5, h6⟩
  match k, h5, h6 with
  | 0, h5, h6 => cases h5; exact h6.elim
  | 1, h5, h6 => cases h5; exact ⟨0, _, rfl, h6⟩
 have hown0 : ∀ b off, own ρ [.arr 1 (es ++ [.nilsl])] b off → own ρ [.arr 1 (way.map zm)] b off := by
  rintro b off ⟨k, o, h5, h6⟩
  match k, h5, h6 with
  | 0, h5, h6 => cases h5; exact ⟨0, _, rfl, h6⟩
 have hown1 : ∀ b off, own ρ [.arr 1 els1] b off → own ρ [.arr 1 (way.map zm)] b off := by
  rintro b off ⟨k, o, h5, h6⟩
  match k, h5, h6 with
  | 0, h5, h6 => cases h5; exact ⟨0, _, rfl, h6⟩
 have hfoot : ∀ b off, foot ρ' [.dead, .arr 1 es] b off → foot ρ [.arr 1 (es ++ [.nilsl])] b off := fun b off h => h.imp (hown b off) id
 have hfr : yK w3 (foot ρ [.arr 1 (es ++ [.nilsl])]) (foot ρ' [.dead, .arr 1 es]) := fun b off h => .inl (hfoot b off h)
 obtain ⟨f1, f2, f3, f4⟩ := p2.fits.obj 0 _ rfl
 have hfit : yj w3 ρ' [.dead, .arr 1 es] := by
  refine ⟨p2.fits.glob.keep (.refl _ _) hfr, p2.fits.hid, fun b off h => p2.fits.sep b off (hown b off h), fun k o hk => ?_, fun k k' o o' b off g1 g2 g3 g4 => ?_⟩
  ·match k, hk with
   | 0, hk => cases hk; trivial
   | 1, hk =>
    cases hk
    refine ⟨by rw [List.length_append] at f1; show es.length * 1 ≤ (ρ 0).cap; omega, fun j x hx => f2 j x ?_, fun j x m c hx hc => ?_, f4⟩
    ·rw [List.getElem?_append_left (List.getElem?_eq_some_iff.1 hx).1]; exact hx
    ·obtain ⟨u, g1, g2⟩ := f3 j x m c (by rw [List.getElem?_append_left (List.getElem?_eq_some_iff.1 hx).1]; exact hx) hc
     obtain ⟨b, rfl⟩ := hes x (List.mem_of_getElem? hx)
     have hm0 : m = 0 := by have := (List.getElem?_eq_some_iff.1 hc).1; simpa [D.cells, zm] using this
     subst hm0
     cases hc
     exact ⟨u, g1, .pure _ _ (g2.sl_inv.keep (.refl _ _) hfr)⟩
  ·match k, k', g1, g2, g3, g4 with
   | 0, _, g1, _, g3, _ => cases g1; exact g3.elim
   | 1, 0, _, g2, _, g4 => cases g2; exact g4.elim
   | 1, 1, _, _, _, _ => rfl
 refine ⟨_, ρ', rfl, hfit, ?_, ?_, ?_, ?_⟩
 ·refine .osl _ _ _ _ _ _ _ (by show 1 < 2; decide) ⟨by omega, fun h => by cases h⟩ fun e' ds' h => ?_
  cases h
  exact ⟨rfl, by omega, fun _ => ⟨.inr (.inr (by rw [Nat.zero_mul, Nat.add_zero])), by show (0 + cap) * 1 = (ρ 0).cap; omega, by omega⟩⟩
 ·exact ((hext.grow (F := own ρ [.arr 1 (way.map zm)])).trans p1.ext fun _ _ _ h => h).trans p2.ext fun b off _ h => hown1 b off h
 ·exact fun b off h => .inl (hown0 b off (hown b off h))
 ·exact ⟨rfl, by show 1 ≤ 2; decide, fun k ds' hk h => (by match k, hk, h with | 0, _, h => cases h), fun k ds' hk h => (by match k, hk, h with | 0, _, h => cases h), fun k ds' hk h => (by match k, hk, h with | 0, _, h => cases h), fun k e ds' hk h => (by match k, hk, h with | 0, _, h => cases h)⟩
attribute [local irreducible] yc we wM yT
structure yP where
 src : List UInt8
 worker : Int
 turn : Int
 wait : Int
 done : Bool
 obj : List UInt8
 fe : Int
 fa : Int
structure zn where
 base : Int
 jobs : List yP
 dead : List Bool
 way : List (List UInt8)
def ya (j : yP) : D := .agg [zm j.src, .int .i64 j.worker, .int .i64 j.turn, .int .i64 j.wait, .bool j.done, zm j.obj, .int .i64 j.fe, .int .i64 j.fa]
def xp (f : zn) : D := .agg [.int .i64 f.base, .sl 8 (f.jobs.map ya) none, .sl 1 (f.dead.map D.bool) none, .sl 1 (f.way.map zm) none]
def fC (f : zn) : List D := [.int .i64 f.base, .osl 8 1 f.jobs.length 0 f.jobs.length, .osl 1 2 f.dead.length 0 f.dead.length, .osl 1 3 f.way.length 0 f.way.length]
def fO (f : zn) : List Ob := [.cells (fC f), .arr 8 (f.jobs.map ya), .arr 1 (f.dead.map D.bool), .arr 1 (f.way.map zm)]
theorem wE (f : zn) : ∀ x ∈ fO f, ClO 4 x := by
 intro x hx
 simp only [fO, List.mem_cons, List.not_mem_nil, or_false] at hx
 rcases hx with rfl | rfl | rfl | rfl
 ·exact .cells (.cons .int (.cons (.osl (by decide)) (.cons (.osl (by decide)) (.cons (.osl (by decide)) .nil))))
 ·refine .arr fun d hd => ?_
  obtain ⟨j, _, rfl⟩ := List.mem_map.1 hd
  exact .cons .sl (.cons .int (.cons .int (.cons .int (.cons .bool (.cons .sl (.cons .int (.cons .int .nil)))))))
 ·refine .arr fun d hd => ?_
  obtain ⟨j, _, rfl⟩ := List.mem_map.1 hd
  exact .cons .bool .nil
 ·refine .arr fun d hd => ?_
  obtain ⟨j, _, rfl⟩ := List.mem_map.1 hd
  exact .cons .sl .nil
structure FSm (f : zn) : Prop where
 jobs : f.jobs.length ≤ 1000
 dead : f.dead.length ≤ 1000
 way : f.way.length ≤ 1000
def qA (f : zn) (m : Msg) : zn := if yT m = 0 ∧ f.way.length < 12 then { f with way := f.way ++ [yc m] } else f
theorem zbr : za Tryz.prog zpA (z1 (fun ((f, _) : zn × Msg) => FSm f) (fun (_, m) => [.loc 0 0, zlZ m]) (fun (f, _) => fO f) (fun _ => .tup []) fun (f, m) => fO (qA f m)) := by
 refine ze zi Tryz.func35 rfl (by decide) ?_
 rintro ⟨f, m⟩ hf
 refine ⟨Nat.le_refl _, by simp [Tryz.f35], fun E hE => ?_⟩
 have hE4 : E.L.length = 4 := by rw [hE]; rfl
 have hw := hf.way
 have hp : qA f m = if yT m = 0 ∧ f.way.length < 12 then { f with way := f.way ++ [yc m] } else f := rfl
 dsimp only
 generalize qA f m = F at *
 refine zb _ ?_
 (all_goals refine qgp ?_ <;> (repeat' first | exact trivial | intro hc | refine And.intro ?_ ?_) <;> refine Lf.mk ?_)
 refine zd znN m trivial (VS.mk (LeL.of_eq rfl)) ?_
 (all_goals refine qgp ?_ <;> (repeat' first | exact trivial | intro hc | refine And.intro ?_ ?_) <;> refine Lf.mk ?_)
 ·rw [if_pos ⟨by assumption, by omega⟩] at hp
  rw [if_pos (by assumption)]
  subst hp
  exact xc (fO { f with way := f.way ++ [yc m] }) [_] (by unfold fO fC; simp only [List.map_append, List.length_append, List.length_map]; rfl) (Nat.le_refl _) .tup0 (wE _)
 ·rw [if_neg (fun h => by omega)] at hp
  rw [hp]
  exact xc (fO f) [_] rfl (Nat.le_refl _) .tup0 (wE _)
 ·rw [if_neg (fun h => by omega)] at hp
  rw [hp]
  exact xc (fO f) [_] rfl (Nat.le_refl _) .tup0 (wE _)
theorem zs6 {av : List D} {L : List Ob} {KP : D → Prop} {KW : D → List Ob → Prop} (g : Nat) (caps : List D) (p : yP → Bool) (l : List yP) (c0 : Ob) (R : List Ob) (hl : l.length ≤ 1000000000)
  (hL : L = c0 :: .arr 8 (l.map ya) :: R) (has : av = [.osl 8 1 l.length 0 l.length, .fn g caps])
  (hg : ∀ s ∈ l, ∀ (KP : D → Prop) (KW : D → List Ob → Prop), KW (.bool (p s)) L → zo Tryz.prog g (ya s :: caps) L KP KW)
  (hK : KW (.int .i64 (y6 p l 0)) L) : zo Tryz.prog ko av L KP KW := by
 subst has
 refine xZ zi Tryz.func41 rfl (by decide) (.int .i64 (y6 p l 0)) L (Nat.le_refl _) (by simp [Tryz.f41]) (fun E hE => ?_) hK
 have hE0 : E.L.length = L.length := by rw [hE]
 subst hL
 refine zb _ ?_
 (all_goals refine qgo ?_ <;> (repeat' first | exact trivial | intro hc | refine And.intro ?_ ?_) <;> refine Lf.mk ?_)
 refine z7 (α := Nat) (fun k => k ≤ l.length ∧ y6 p l 0 = y6 p (l.drop k) k)
  (fun k => [(0, .osl 8 1 l.length 0 l.length), (1, .fn g caps), (7, .int .i64 l.length), (8, .int .i64 k)]) (fun _ => c0 :: .arr 8 (l.map ya) :: R) (fun k => l.length - k) (fun _ => by rw [hE0]; exact Nat.le_refl _) 0 ⟨Nat.zero_le _, by simp⟩ ?_ ?_
 ·exact zX rfl ⟨rfl, rfl, rfl, rfl, trivial⟩
 rintro k ⟨hk, hf⟩
 refine zb _ ?_
 (all_goals refine qgp ?_ <;> (repeat' first | exact trivial | intro hc | refine And.intro ?_ ?_) <;> refine Lf.mk ?_)
 ·obtain ⟨s, hsk⟩ := yi (l := l) (k := k) (by omega)
  have hkl : k < l.length := by omega
  have hget : l[k] = s := by rw [List.getElem?_eq_getElem hkl] at hsk; exact Option.some.inj hsk
  rw [List.drop_eq_getElem_cons hkl, hget, y6] at hf
  refine zk s (by omega) (by simpa using hsk) ?_
  (all_goals refine qgp ?_ <;> (repeat' first | exact trivial | intro hc | refine And.intro ?_ ?_) <;> refine Lf.mk ?_)
  refine hg s (List.mem_of_getElem? hsk) _ _ ?_
  cases hb : p s with
  | true =>
   rw [hb, if_pos rfl] at hf
   (all_goals refine qgp ?_ <;> (repeat' first | exact trivial | intro hc | refine And.intro ?_ ?_) <;> refine Lf.mk ?_)
   (any_goals (first | (exfalso; refine Bool.false_ne_true ?_; assumption) | (exfalso; refine Bool.false_ne_true (Eq.symm ?_); assumption) | (exfalso; refine absurd trivial ?_; assumption) | skip))
   exact yM (by rw [hf]; rfl) rfl
  | false =>
   rw [hb, if_neg (by decide)] at hf
   (all_goals refine qgp ?_ <;> (repeat' first | exact trivial | intro hc | refine And.intro ?_ ?_) <;> refine Lf.mk ?_)
   (any_goals (first | (exfalso; refine Bool.false_ne_true ?_; assumption) | (exfalso; refine Bool.false_ne_true (Eq.symm ?_); assumption) | (exfalso; refine absurd trivial ?_; assumption) | skip))
   exact zR (k + 1) ⟨by omega, hf⟩ (by omega) rfl ⟨rfl, rfl, rfl, rfl, trivial⟩
 ·rw [List.drop_of_length_le (by omega), y6] at hf
  exact yM (by rw [hf]; rfl) rfl
theorem zqn {n0 : Nat} {r d : D} {L : List Ob} (M X : List Ob) (he : r = d) (hL : L = M ++ X) (hn : n0 ≤ M.length) (hd : ClD M.length d) (hc : ∀ o ∈ M, ClO M.length o) : zG n0 r d L M := by
 subst he
 exact xc M X hL hn hd hc
theorem zqo {n0 : Nat} {b : Bool} {L : List Ob} (M X : List Ob) (he : b = false) (hL : L = M ++ X) (hn : n0 ≤ M.length) (hc : ∀ o ∈ M, ClO M.length o) : zG n0 .ff (.bool b) L M := by
 subst he
 exact qr (LeD.ff rfl) (xc M X hL hn .bool hc) hn
def zcI (w : Int) (j : yP) : Bool := !j.done && j.worker == w
def zef (f : zn) (w : Int) : Bool := !f.jobs.any (zcI w)
theorem zr0 (f : zn) (w : Int) : ∀ x ∈ fO f ++ [.cells [.int .i64 w]], ClO 5 x := by
 intro x hx
 rcases List.mem_append.1 hx with hx | hx
 ·exact ClO.up (wE f x hx) (by decide)
 ·rw [List.mem_singleton.1 hx]
  exact .cells (.cons .int .nil)
theorem zoc : za Tryz.prog znF (z1 (fun ((f, w) : zn × Int) => FSm f) (fun (_, w) => [.loc 0 0, .int .i64 w]) (fun (f, _) => fO f) (fun (f, w) => .bool (zef f w)) fun (f, _) => fO f) := by
 refine ze zi Tryz.func34 rfl (by decide) ?_
 rintro ⟨f, w⟩ hf
 refine ⟨Nat.le_refl _, by simp [Tryz.f34], fun E hE => ?_⟩
 have hj := hf.jobs
 refine zb _ ?_
 (all_goals refine qgp ?_ <;> (repeat' first | exact trivial | intro hc | refine And.intro ?_ ?_) <;> refine Lf.mk ?_)
 refine xZ zi Tryz.func26 rfl (by decide) (.bool (f.jobs.any (zcI w))) (fO f ++ [.cells [.int .i64 w]]) (Nat.le_refl _) (by simp [Tryz.f26]) (fun E' hE' => ?_) ?_
 ·refine zb _ ?_
  (all_goals refine qgp ?_ <;> (repeat' first | exact trivial | intro hc | refine And.intro ?_ ?_) <;> refine Lf.mk ?_)
  refine zs6 zkA [.loc 4 0] (zcI w) f.jobs (.cells (fC f)) _ (by omega) rfl rfl (fun s hs KP KW hK => ?_) ?_
  ·refine xZ zi Tryz.func55 rfl (by decide) (.bool (zcI w s)) (fO f ++ [.cells [.int .i64 w]]) (Nat.le_refl _) (by simp [Tryz.f55]) (fun E2 hE2 => ?_) hK
   refine zb _ ?_
   (all_goals refine qgp ?_ <;> (repeat' first | exact trivial | intro hc | refine And.intro ?_ ?_) <;> refine Lf.mk ?_)
   ·exact zqn (r := .bool (s.worker == w)) (d := .bool (zcI w s)) (fO f ++ [.cells [.int .i64 w]]) [_] (by unfold zcI; rw [hc]; rfl) rfl (Nat.le_refl _) .bool (zr0 f w)
   ·exact zqo (b := zcI w s) (fO f ++ [.cells [.int .i64 w]]) [_] (by unfold zcI; rw [hc]; rfl) rfl (Nat.le_refl _) (zr0 f w)
  ·(all_goals refine qgp ?_ <;> (repeat' first | exact trivial | intro hc | refine And.intro ?_ ?_) <;> refine Lf.mk ?_)
   exact yM (congrArg D.bool (zf2 _ _ 0)) rfl
 ·(all_goals refine qgp ?_ <;> (repeat' first | exact trivial | intro hc | refine And.intro ?_ ?_) <;> refine Lf.mk ?_)
  exact xc (fO f) [_] rfl (Nat.le_refl _) .bool (wE f)
attribute [local irreducible] zef qA
def jS (j : yP) (w t n : Int) : yP := ⟨j.src, w, t, n, j.done, j.obj, j.fe, j.fa⟩
def wX (j : yP) : yP := if j.done = true ∨ j.worker < 0 then j else if 4 ≤ j.wait + 1 then jS j (-1) j.turn 0 else jS j j.worker j.turn (j.wait + 1)
def noJ : yP := ⟨[], 0, 0, 0, false, [], 0, 0⟩
def zB (f : zn) (k : Nat) : yP := (f.jobs[k]?).getD noJ
def vR (f : zn) (k : Nat) (j : yP) : zn := { f with jobs := f.jobs.set k j }
def ki : Nat → Nat → zn → zn
 | 0, _, f => f
 | n + 1, k, f => ki n (k + 1) (vR f k (wX (zB f k)))
def vD (f : zn) (k n : Nat) : Int := ((zB f k).turn + (k : Int) + (n : Int)) % (f.dead.length : Int)
def wY (f : zn) (k n : Nat) : zn :=
 if (zB f k).done = true ∨ 0 ≤ (zB f k).worker ∨ zef f (vD f k n) = false then f
 else qA (vR f k (jS (zB f k) (vD f k n) ((zB f k).turn + 1) 0)) ⟨1, vD f k n, k, (zB f k).turn + 1, 0, 0, (zB f k).src⟩
def ql : Nat → Nat → Nat → zn → zn
 | 0, _, _, f => f
 | m + 1, k, n, f => ql m k (n + 1) (wY f k n)
def kj : Nat → Nat → zn → zn
 | 0, _, f => f
 | m + 1, k, f => kj m (k + 1) (ql f.dead.length k 0 f)
def qm (f : zn) : zn := kj f.jobs.length 0 (ki f.jobs.length 0 f)
structure FIn (f : zn) (B : Int) : Prop where
 jobs : f.jobs.length ≤ 4
 dead : f.dead.length ≤ 3
 way : f.way.length ≤ 12
 nums : ∀ j ∈ f.jobs, 0 ≤ j.turn ∧ j.turn ≤ B ∧ -1 ≤ j.worker ∧ j.worker ≤ 1000 ∧ 0 ≤ j.wait ∧ j.wait ≤ 4
theorem FIn.sm {f : zn} {B : Int} (h : FIn f B) : FSm f := ⟨by have := h.jobs; omega, by have := h.dead; omega, by have := h.way; omega⟩
theorem FIn.up {f : zn} {B C : Int} (h : FIn f B) (hb : B ≤ C) : FIn f C := ⟨h.jobs, h.dead, h.way, fun j hj => by have := h.nums j hj; omega⟩
theorem zaj {f : zn} {k : Nat} (h : k < f.jobs.length) : f.jobs[k]? = some (zB f k) ∧ zB f k ∈ f.jobs := by
 have : f.jobs[k]? = some (zB f k) := by unfold zB; rw [List.getElem?_eq_getElem h]; rfl
 exact ⟨this, List.mem_of_getElem? this⟩
theorem vd (f : zn) (k : Nat) (j : yP) : (vR f k j).jobs.length = f.jobs.length := List.length_set
theorem zjr {f : zn} {B : Int} {k : Nat} {j : yP} (h : FIn f B) (hj : 0 ≤ j.turn ∧ j.turn ≤ B ∧ -1 ≤ j.worker ∧ j.worker ≤ 1000 ∧ 0 ≤ j.wait ∧ j.wait ≤ 4) : FIn (vR f k j) B :=
 ⟨by rw [vd]; exact h.jobs, h.dead, h.way, fun x hx => by
   rcases List.mem_or_eq_of_mem_set hx with hx | rfl
   ·exact h.nums x hx
   ·exact hj⟩
theorem zs7 {j : yP} {B : Int} (hj : 0 ≤ j.turn ∧ j.turn ≤ B ∧ -1 ≤ j.worker ∧ j.worker ≤ 1000 ∧ 0 ≤ j.wait ∧ j.wait ≤ 4) : 0 ≤ (wX j).turn ∧ (wX j).turn ≤ B ∧ -1 ≤ (wX j).worker ∧ (wX j).worker ≤ 1000 ∧ 0 ≤ (wX j).wait ∧ (wX j).wait ≤ 4 := by
 unfold wX
 split
 ·omega
 split
 ·show 0 ≤ j.turn ∧ j.turn ≤ B ∧ (-1 : Int) ≤ -1 ∧ (-1 : Int) ≤ 1000 ∧ (0 : Int) ≤ 0 ∧ (0 : Int) ≤ 4; omega
 ·show 0 ≤ j.turn ∧ j.turn ≤ B ∧ -1 ≤ j.worker ∧ j.worker ≤ 1000 ∧ 0 ≤ j.wait + 1 ∧ j.wait + 1 ≤ 4; omega
theorem zup {f : zn} {B : Int} (h : FIn f B) (m : Msg) : FIn (qA f m) B ∧ (qA f m).jobs = f.jobs ∧ (qA f m).dead = f.dead := by
 unfold qA
 split
 ·rename_i hc
  exact ⟨⟨h.jobs, h.dead, by show (f.way ++ [yc m]).length ≤ 12; rw [List.length_append]; show _ + 1 ≤ 12; omega, h.nums⟩, rfl, rfl⟩
 ·exact ⟨h, rfl, rfl⟩
theorem zo1 {a : Int} {n : Nat} (hn : 1 ≤ n) : 0 ≤ a % (n : Int) ∧ a % (n : Int) < n := ⟨Int.emod_nonneg _ (by omega), Int.emod_lt_of_pos _ (by omega)⟩
theorem zs8 {f : zn} {B : Int} {k n : Nat} (h : FIn f B) (hk : k < f.jobs.length) (hd : 1 ≤ f.dead.length) : FIn (wY f k n) (B + 1) ∧ (wY f k n).jobs.length = f.jobs.length ∧ (wY f k n).dead = f.dead := by
 obtain ⟨t0, t1, w0, w1, q0, q1⟩ := h.nums _ (zaj hk).2
 have hn := zo1 (a := (zB f k).turn + (k : Int) + (n : Int)) hd
 have hd3 := h.dead
 unfold wY
 split
 ·exact ⟨h.up (by omega), rfl, rfl⟩
 ·have h2 : FIn (vR f k (jS (zB f k) (vD f k n) ((zB f k).turn + 1) 0)) (B + 1) := zjr (h.up (by omega)) (by
   show 0 ≤ (zB f k).turn + 1 ∧ (zB f k).turn + 1 ≤ B + 1 ∧ -1 ≤ vD f k n ∧ vD f k n ≤ 1000 ∧ (0 : Int) ≤ 0 ∧ (0 : Int) ≤ 4
   unfold vD
   omega)
  obtain ⟨p1, p2, p3⟩ := zup h2 ⟨1, vD f k n, k, (zB f k).turn + 1, 0, 0, (zB f k).src⟩
  exact ⟨p1, by rw [p2, vd], p3⟩
theorem zo2 {l : List yP} {k : Nat} (j : yP) {d : D} (hd : d = ya j) : (l.map ya).set (0 + ((k : Nat) : Int).toNat) d = (l.set k j).map ya := by
 subst hd
 rw [Nat.zero_add, Int.toNat_natCast, List.map_set]
theorem zmZ {l : List yP} {k : Nat} {j1 : yP} (j : yP) {d : D} (hd : d = ya j) : ((l.set k j1).map ya).set (0 + ((k : Nat) : Int).toNat) d = (l.set k j).map ya := by rw [zo2 j hd, List.set_set]
theorem zm0 {l : List yP} {k : Nat} (j : yP) {d : D} (hd : d = ya j) : (l.map ya).set k d = (l.set k j).map ya := by rw [hd, List.map_set]
theorem zkc {l : List yP} {k : Nat} {j1 : yP} (j : yP) {d : D} (hd : d = ya j) : ((l.set k j1).map ya).set k d = (l.set k j).map ya := by rw [zm0 j hd, List.set_set]
theorem zuq {l : List yP} {k : Nat} {j : yP} (h : l[k]? = some j) : l[((0 + ((k : Nat) : Int).toNat : Nat) : Int).toNat]? = some j := by rw [Int.toNat_natCast, Nat.zero_add, Int.toNat_natCast]; exact h
theorem zjs {l : List yP} {k : Nat} {j : yP} (h : k < l.length) : (l.set k j)[k]? = some j := List.getElem?_set_self h
theorem zkd {f : zn} {k : Nat} (h : k < f.jobs.length) : vR f k (zB f k) = f := by
 obtain ⟨base, jobs, dead, way⟩ := f
 have hx := (zaj h).1
 unfold vR
 refine congrArg (fun l => (⟨base, l, dead, way⟩ : zn)) ?_
 apply List.ext_getElem?
 intro i
 rw [List.getElem?_set]
 split
 ·rename_i hi
  subst hi
  exact hx.symm
 ·rfl
theorem ziu (f : zn) (k : Nat) (j : yP) : fO (vR f k j) = [.cells (fC f), .arr 8 ((f.jobs.set k j).map ya), .arr 1 (f.dead.map D.bool), .arr 1 (f.way.map zm)] := by
 unfold fO fC vR
 dsimp only
 rw [List.length_set]
theorem zod : za Tryz.prog znD (z1 (fun f : zn => FIn f 1000000 ∧ 1 ≤ f.dead.length) (fun _ => [.loc 0 0]) fO (fun _ => .tup []) fun f => fO (qm f)) := by
 refine ze zi Tryz.func21 rfl (by decide) ?_
 rintro f ⟨hf, hd⟩
 refine ⟨Nat.le_refl _, by simp [Tryz.f21], fun E hE => ?_⟩
 have hE4 : E.L.length = 4 := by rw [hE]; rfl
 have hj4 := hf.jobs
 refine zb _ ?_
 (all_goals refine qgp ?_ <;> (repeat' first | exact trivial | intro hc | refine And.intro ?_ ?_) <;> refine Lf.mk ?_)
 refine z7 (α := Nat × zn) (fun (k, g) => k ≤ f.jobs.length ∧ g.jobs.length = f.jobs.length ∧ g.dead = f.dead ∧ FIn g 1000000 ∧ ki (f.jobs.length - k) k g = ki f.jobs.length 0 f) (fun (k, _) => [(0, .loc 0 0), (12, .int .i64 f.jobs.length), (13, .int .i64 k)])
  (fun (_, g) => fO g) (fun (k, _) => f.jobs.length - k) (fun _ => by rw [hE4]; exact Nat.le_refl 4) (0, f) ⟨Nat.zero_le _, rfl, rfl, hf, rfl⟩ ?_ ?_
 ·exact zX rfl ⟨rfl, rfl, rfl, trivial⟩
 rintro ⟨k, g⟩ ⟨hk, hgl, hgd, hg, hr⟩
 have hk : k ≤ f.jobs.length := hk
 have hgl : g.jobs.length = f.jobs.length := hgl
 have hgd : g.dead = f.dead := hgd
 have hr : ki (f.jobs.length - k) k g = ki f.jobs.length 0 f := hr
 dsimp only
 refine zb _ ?_
 (all_goals refine qgp ?_ <;> (repeat' first | exact trivial | intro hc | refine And.intro ?_ ?_) <;> refine Lf.mk ?_)
 ·have hkl : k < g.jobs.length := by omega
  obtain ⟨hx, hxm⟩ := zaj hkl
  obtain ⟨t0, t1, w0, w1, q0, q1⟩ := hg.nums _ hxm
  have ix := fun {l : List yP} {j : yP} (h : l[k]? = some j) {K : D → Prop} (hK : K (ya j)) => zk (enc := ya) j (Int.natCast_nonneg _) (zuq h) hK
  have hz : f.jobs.length - k = (f.jobs.length - (k + 1)) + 1 := by omega
  rw [hz, ki] at hr
  have hwi := zs7 (hg.nums _ hxm)
  refine ix hx ?_
  (all_goals refine qgk ?_ <;> (repeat' first | exact trivial | intro hc | refine And.intro ?_ ?_) <;> refine Lf.mk ?_)
  ·have hw : wX (zB g k) = zB g k := by unfold wX; rw [if_pos (.inl hc)]
   rw [hw, zkd hkl] at hr
   exact zR (k + 1, g) ⟨by show k + 1 ≤ _; omega, hgl, hgd, hg, hr⟩ (by dsimp only; omega) rfl ⟨rfl, rfl, rfl, trivial⟩
  ·have hd0 : ¬ (zB g k).done = true := by rw [hc]; decide
   refine ix hx ?_
   (all_goals refine qgk ?_ <;> (repeat' first | exact trivial | intro hc | refine And.intro ?_ ?_) <;> refine Lf.mk ?_)
   ·have hw : wX (zB g k) = zB g k := by unfold wX; rw [if_pos (.inr hc)]
    rw [hw, zkd hkl] at hr
    exact zR (k + 1, g) ⟨by show k + 1 ≤ _; omega, hgl, hgd, hg, hr⟩ (by dsimp only; omega) rfl ⟨rfl, rfl, rfl, trivial⟩
   ·have hc0 := hc
    refine ix hx ?_
    (all_goals refine qgk ?_ <;> (repeat' first | exact trivial | intro hc | refine And.intro ?_ ?_) <;> refine Lf.mk ?_)
    refine ix hx ?_
    (all_goals refine qgk ?_ <;> (repeat' first | exact trivial | intro hc | refine And.intro ?_ ?_) <;> refine Lf.mk ?_)
    refine yV ((g.jobs.set k (jS (zB g k) (zB g k).worker (zB g k).turn ((zB g k).wait + 1))).map ya) (zo2 _ rfl) ?_
    (all_goals refine qgk ?_ <;> (repeat' first | exact trivial | intro hc | refine And.intro ?_ ?_) <;> refine Lf.mk ?_)
    have ixs := fun (j : yP) {K : D → Prop} (hK : K (ya j)) => yY (K := VS (yb ((g.jobs.set k j).map ya) _ K)) (show g.jobs.length = ((g.jobs.set k j).map ya).length by rw [List.length_map, List.length_set]) (VS.mk (ix (zjs hkl) hK))
    refine ixs _ ?_
    (all_goals refine qgk ?_ <;> (repeat' first | exact trivial | intro hc | refine And.intro ?_ ?_) <;> refine Lf.mk ?_)
    ·have hc : 4 ≤ (zB g k).wait + 1 := hc
     have hw : wX (zB g k) = jS (zB g k) (-1) (zB g k).turn 0 := by unfold wX; rw [if_neg (fun h => by rcases h with h | h; exact hd0 h; exact hc0 h), if_pos hc]
     rw [hw] at hr hwi
     refine ixs _ ?_
     (all_goals refine qgk ?_ <;> (repeat' first | exact trivial | intro hc | refine And.intro ?_ ?_) <;> refine Lf.mk ?_)
     refine yV ((g.jobs.set k (jS (zB g k) (-1) (zB g k).turn ((zB g k).wait + 1))).map ya) (zmZ _ rfl) ?_
     (all_goals refine qgk ?_ <;> (repeat' first | exact trivial | intro hc | refine And.intro ?_ ?_) <;> refine Lf.mk ?_)
     refine ixs _ ?_
     (all_goals refine qgk ?_ <;> (repeat' first | exact trivial | intro hc | refine And.intro ?_ ?_) <;> refine Lf.mk ?_)
     refine yV ((g.jobs.set k (jS (zB g k) (-1) (zB g k).turn 0)).map ya) (zmZ _ rfl) ?_
     (all_goals refine qgk ?_ <;> (repeat' first | exact trivial | intro hc | refine And.intro ?_ ?_) <;> refine Lf.mk ?_)
     exact zR (k + 1, vR g k (jS (zB g k) (-1) (zB g k).turn 0)) ⟨by show k + 1 ≤ _; omega, by rw [vd]; exact hgl, hgd, zjr hg hwi, hr⟩ (by dsimp only; omega) (ziu _ _ _).symm ⟨rfl, rfl, rfl, trivial⟩
    ·have hc : ¬ 4 ≤ (zB g k).wait + 1 := hc
     have hw : wX (zB g k) = jS (zB g k) (zB g k).worker (zB g k).turn ((zB g k).wait + 1) := by unfold wX; rw [if_neg (fun h => by rcases h with h | h; exact hd0 h; exact hc0 h), if_neg hc]
     rw [hw] at hr hwi
     exact zR (k + 1, vR g k (jS (zB g k) (zB g k).worker (zB g k).turn ((zB g k).wait + 1))) ⟨by show k + 1 ≤ _; omega, by rw [vd]; exact hgl, hgd, zjr hg hwi, hr⟩ (by dsimp only; omega) (ziu _ _ _).symm ⟨rfl, rfl, rfl, trivial⟩
 ·have hkn : k = f.jobs.length := by omega
  rw [hkn, Nat.sub_self, ki] at hr
  have hT : qm f = kj g.jobs.length 0 g := by unfold qm; rw [← hr, hgl]
  clear hr hkn hc hk
  rw [hT]
  clear hT
  refine z7 (α := Nat × zn) (fun (k, h) => k ≤ g.jobs.length ∧ h.jobs.length = g.jobs.length ∧ h.dead = g.dead ∧ FIn h (1000000 + 10 * (k : Int)) ∧ kj (g.jobs.length - k) k h = kj g.jobs.length 0 g) (fun (k, _) => [(0, .loc 0 0), (56, .int .i64 g.jobs.length), (57, .int .i64 k)])
   (fun (_, h) => fO h) (fun (k, _) => g.jobs.length - k) (fun _ => by rw [hE4]; exact Nat.le_refl 4) (0, g) ⟨Nat.zero_le _, rfl, rfl, hg.up (by decide), rfl⟩ ?_ ?_
  ·exact zX rfl ⟨rfl, rfl, rfl, trivial⟩
  rintro ⟨k, h⟩ ⟨hk, hhl, hhd, hh, hr⟩
  have hk : k ≤ g.jobs.length := hk
  have hhl : h.jobs.length = g.jobs.length := hhl
  have hhd : h.dead = g.dead := hhd
  have hh : FIn h (1000000 + 10 * (k : Int)) := hh
  have hr : kj (g.jobs.length - k) k h = kj g.jobs.length 0 g := hr
  dsimp only
  refine zb _ ?_
  (all_goals refine qgp ?_ <;> (repeat' first | exact trivial | intro hc | refine And.intro ?_ ?_) <;> refine Lf.mk ?_)
  ·have hkl : k < g.jobs.length := by omega
   have hz : g.jobs.length - k = (g.jobs.length - (k + 1)) + 1 := by omega
   rw [hz, kj] at hr
   refine z7 (α := Nat × zn) (fun (n, u) => n ≤ h.dead.length ∧ u.jobs.length = g.jobs.length ∧ u.dead = g.dead ∧ FIn u (1000000 + 10 * (k : Int) + (n : Int)) ∧ ql (h.dead.length - n) k n u = ql h.dead.length k 0 h) (fun (n, _) => [(0, .loc 0 0), (56, .int .i64 g.jobs.length), (57, .int .i64 k), (4, .int .i64 k), (5, .aloc 1 g.jobs.length k 0), (70, .int .i64 h.dead.length), (71, .int .i64 n)])
    (fun (_, u) => fO u) (fun (n, _) => h.dead.length - n) (fun _ => by rw [hE4]; exact Nat.le_refl 4) (0, h) ⟨Nat.zero_le _, hhl, hhd, hh.up (by omega), rfl⟩ ?_ ?_
   ·refine zX rfl ⟨rfl, rfl, rfl, rfl, ?_, rfl, rfl, trivial⟩
    show D.aloc 1 h.jobs.length (0 + ((k : Nat) : Int).toNat) 0 = _
    rw [hhl, Nat.zero_add, Int.toNat_natCast]
   rintro ⟨n, u⟩ ⟨hn, hul, hud, hu, hq⟩
   have hn : n ≤ h.dead.length := hn
   have hul : u.jobs.length = g.jobs.length := hul
   have hud : u.dead = g.dead := hud
   have hu : FIn u (1000000 + 10 * (k : Int) + (n : Int)) := hu
   have hq : ql (h.dead.length - n) k n u = ql h.dead.length k 0 h := hq
   dsimp only
   refine zb _ ?_
   have hku : k < u.jobs.length := by omega
   obtain ⟨hx, hxm⟩ := zaj hku
   obtain ⟨t0, t1, w0, w1, q0, q1⟩ := hu.nums _ hxm
   have ix := fun {l : List yP} {j : yP} (h : l[k]? = some j) {K : D → Prop} (hK : K (ya j)) => zk (enc := ya) (n := ((k : Nat) : Int)) j (Int.natCast_nonneg _) (by rw [Int.toNat_natCast]; exact h) hK
   have hjs := hg.jobs
   have hds := hu.dead
   have hdh := hh.dead
   have hde : u.dead.length = h.dead.length := by rw [hud, hhd]
   have hdf : 1 ≤ u.dead.length := by rw [hud, hgd]; exact hd
   (all_goals refine qgp ?_ <;> (repeat' first | exact trivial | intro hc | refine And.intro ?_ ?_) <;> refine Lf.mk ?_)
   ·have hz2 : h.dead.length - n = (h.dead.length - (n + 1)) + 1 := by omega
    rw [hz2, ql] at hq
    have hin := zs8 (n := n) hu hku hdf
    refine ix hx ?_
    (all_goals refine qgp ?_ <;> (repeat' first | exact trivial | intro hc | refine And.intro ?_ ?_) <;> refine Lf.mk ?_)
    generalize hW : ((zB u k).turn + (k : Int) + (n : Int)) % (u.dead.length : Int) = W
    have hW : vD u k n = W := hW
    have hgs : wY u k n = if (zB u k).done = true ∨ 0 ≤ (zB u k).worker ∨ zef u W = false then u else qA (vR u k (jS (zB u k) W ((zB u k).turn + 1) 0)) ⟨1, W, k, (zB u k).turn + 1, 0, 0, (zB u k).src⟩ := by unfold wY; rw [hW]
    have hI : n + 1 ≤ h.dead.length ∧ (wY u k n).jobs.length = g.jobs.length ∧ (wY u k n).dead = g.dead ∧ FIn (wY u k n) (1000000 + 10 * (k : Int) + ((n + 1 : Nat) : Int)) ∧ ql (h.dead.length - (n + 1)) k (n + 1) (wY u k n) = ql h.dead.length k 0 h :=
     ⟨by omega, by rw [hin.2.1]; exact hul, by rw [hin.2.2]; exact hud, hin.1.up (by omega), hq⟩
    have hmu : h.dead.length - (n + 1) < h.dead.length - n := by omega
    refine ix hx ?_
    (all_goals refine qgk ?_ <;> (repeat' first | exact trivial | intro hc | refine And.intro ?_ ?_) <;> refine Lf.mk ?_)
    ·rw [if_pos (.inl hc)] at hgs
     rw [hgs] at hI
     exact zR (n + 1, u) hI hmu rfl ⟨rfl, rfl, rfl, rfl, rfl, rfl, rfl, trivial⟩
    ·have hd0 : ¬ (zB u k).done = true := by rw [hc]; decide
     refine ix hx ?_
     (all_goals refine qgk ?_ <;> (repeat' first | exact trivial | intro hc | refine And.intro ?_ ?_) <;> refine Lf.mk ?_)
     ·rw [if_pos (.inr (.inl hc))] at hgs
      rw [hgs] at hI
      exact zR (n + 1, u) hI hmu rfl ⟨rfl, rfl, rfl, rfl, rfl, rfl, rfl, trivial⟩
     ·have hc0 := hc
      refine zbV zoc (u, W) hu.sm rfl (LeL.refl _) ?_
      (all_goals refine qgk ?_ <;> (repeat' first | exact trivial | intro hc | refine And.intro ?_ ?_) <;> refine Lf.mk ?_)
      ·rw [if_pos (.inr (.inr hc))] at hgs
       rw [hgs] at hI
       exact zR (n + 1, u) hI hmu rfl ⟨rfl, rfl, rfl, rfl, rfl, rfl, rfl, trivial⟩
      ·rw [if_neg (fun e => by rcases e with e | e | e; exact hd0 e; exact hc0 e; rw [hc] at e; exact Bool.noConfusion e)] at hgs
       have ixs := fun (j : yP) {K : D → Prop} (hK : K (ya j)) => ix (l := u.jobs.set k j) (zjs hku) hK
       refine ix hx ?_
       (all_goals refine qgk ?_ <;> (repeat' first | exact trivial | intro hc | refine And.intro ?_ ?_) <;> refine Lf.mk ?_)
       refine yV ((u.jobs.set k (jS (zB u k) W (zB u k).turn (zB u k).wait)).map ya) (zm0 _ rfl) ?_
       (all_goals refine qgk ?_ <;> (repeat' first | exact trivial | intro hc | refine And.intro ?_ ?_) <;> refine Lf.mk ?_)
       refine ixs _ ?_
       (all_goals refine qgk ?_ <;> (repeat' first | exact trivial | intro hc | refine And.intro ?_ ?_) <;> refine Lf.mk ?_)
       refine yV ((u.jobs.set k (jS (zB u k) W (zB u k).turn 0)).map ya) (zkc _ rfl) ?_
       (all_goals refine qgk ?_ <;> (repeat' first | exact trivial | intro hc | refine And.intro ?_ ?_) <;> refine Lf.mk ?_)
       refine ixs _ ?_
       (all_goals refine qgk ?_ <;> (repeat' first | exact trivial | intro hc | refine And.intro ?_ ?_) <;> refine Lf.mk ?_)
       refine qK (by show -9223372036854775808 ≤ (zB u k).turn + 1; omega) (by show (zB u k).turn + 1 ≤ 9223372036854775807; omega) ?_
       (all_goals refine qgk ?_ <;> (repeat' first | exact trivial | intro hc | refine And.intro ?_ ?_) <;> refine Lf.mk ?_)
       refine ixs _ ?_
       (all_goals refine qgk ?_ <;> (repeat' first | exact trivial | intro hc | refine And.intro ?_ ?_) <;> refine Lf.mk ?_)
       refine yV ((u.jobs.set k (jS (zB u k) W ((zB u k).turn + 1) 0)).map ya) (zkc _ rfl) ?_
       (all_goals refine qgk ?_ <;> (repeat' first | exact trivial | intro hc | refine And.intro ?_ ?_) <;> refine Lf.mk ?_)
       refine ixs _ ?_
       (all_goals refine qgk ?_ <;> (repeat' first | exact trivial | intro hc | refine And.intro ?_ ?_) <;> refine Lf.mk ?_)
       refine ixs _ ?_
       (all_goals refine qgk ?_ <;> (repeat' first | exact trivial | intro hc | refine And.intro ?_ ?_) <;> refine Lf.mk ?_)
       refine zbV zbr (vR u k (jS (zB u k) W ((zB u k).turn + 1) 0), ⟨1, W, k, (zB u k).turn + 1, 0, 0, (zB u k).src⟩) ⟨by rw [vd]; omega, by show u.dead.length ≤ _; omega, by have := hu.way; show u.way.length ≤ _; omega⟩ (ziu _ _ _).symm (LeL.refl _) ?_
       dsimp only
       rw [← hgs]
       (all_goals refine qgp ?_ <;> (repeat' first | exact trivial | intro hc | refine And.intro ?_ ?_) <;> refine Lf.mk ?_)
       exact zR (n + 1, wY u k n) hI hmu rfl ⟨rfl, rfl, rfl, rfl, rfl, rfl, rfl, trivial⟩
   ·have hn2 : n = h.dead.length := by omega
    rw [hn2, Nat.sub_self, ql] at hq
    rw [← hq] at hr
    exact zR (k + 1, u) ⟨by show k + 1 ≤ _; omega, hul, hud, hu.up (by show _ ≤ 1000000 + 10 * (((k + 1 : Nat)) : Int); have := hh.dead; omega), hr⟩ (by dsimp only; omega) rfl ⟨rfl, rfl, rfl, trivial⟩
  ·have hkn : k = g.jobs.length := by omega
   rw [hkn, Nat.sub_self, kj] at hr
   rw [← hr]
   exact yM rfl rfl
end Go.Proofs.YtnkdeacghopkiaaGreatDoor
namespace Go.Proofs.YtnkdeacghopkiaaGreatDoor
open Go Go.Plat
set_option linter.unusedVariables false
set_option linter.unusedSimpArgs false
set_option maxRecDepth 100000
set_option maxHeartbeats 2000000
attribute [local irreducible] AWP zN yv zU zo yC yh zG yb yf zx za zY yz zr yg yx yy yn yo zw zy zT
def wm (n : Int) : List UInt8 := [zt (n / 16777216), zt (n / 65536), zt (n / 256), zt n]
def kl (s : List UInt8) : List UInt8 := zt s.length :: s
theorem zs9 (n : Int) : x1 [0, 0, 0, 0] 0 4 n = wm n := by
 have h1 : n / 256 / 256 = n / 65536 := by rw [Int.ediv_ediv_of_nonneg (by decide)]; rfl
 have h2 : n / 65536 / 256 = n / 16777216 := by rw [Int.ediv_ediv_of_nonneg (by decide)]; rfl
 simp [x1, yX, wm, h1, h2]
theorem ziv : za Tryz.prog zpD (z1 (fun ((b, s) : List UInt8 × List UInt8) => b.length ≤ 1000000000 ∧ s.length ≤ 1000000000)
  (fun (b, s) => [.sl 1 (b.map zA) (some 0), .str s]) (fun (b, _) => [.spare b.length]) (fun (b, s) => .sl 1 ((b ++ kl s).map zA) (some 0)) fun (b, s) => [.spare (b ++ kl s).length]) := by
 refine ze zi Tryz.func78 rfl (by decide) ?_
 rintro ⟨b, s⟩ ⟨h1, h2⟩
 refine ⟨Nat.le_refl _, by simp [Tryz.f78], fun E hE => ?_⟩
 refine zb _ ?_
 (all_goals refine qgo (Lf.mk ?_))
 refine yk ?_
 (repeat' (first | (refine VS.mk ?_) | exact trivial | exact rfl | refine And.intro ?_ ?_))
 ·simp [kl, zA]
 ·simp [kl, zA]
theorem jl : za Tryz.prog zqX (z1 (fun ((b, n) : List UInt8 × Int) => b.length ≤ 1000000000)
  (fun (b, n) => [.sl 1 (b.map zA) (some 0), .int .i64 n]) (fun (b, _) => [.spare b.length]) (fun (b, n) => .sl 1 ((b ++ wm n).map zA) (some 0)) fun (b, n) => [.spare (b ++ wm n).length]) := by
 refine ze zi Tryz.func77 rfl (by decide) ?_
 rintro ⟨b, n⟩ h1
 refine ⟨Nat.le_refl _, by simp [Tryz.f77], fun E hE => ?_⟩
 refine zb _ ?_
 (all_goals refine qgo (Lf.mk ?_))
 refine ye zaR [] [1] ([0, 0, 0, 0], 0, 4, n) ⟨by decide, by decide, by decide, by decide⟩ rfl rfl ?_
 refine And.intro (VS.mk (LeL.of_eq rfl)) (And.intro (VS.mk rfl) ?_)
 have h1 : b.length ≤ 1000000000 := h1
 (all_goals refine qgo (Lf.mk ?_))
 rw [zs9]
 have h4 : (wm n).length = 4 := rfl
 refine yY ⟨by simp, by simp only [List.length_map, h4]; omega⟩ ?_
 (all_goals refine qgo (Lf.mk ?_))
 refine yk ?_
 (repeat' (first | (refine VS.mk ?_) | exact trivial | exact rfl | refine And.intro ?_ ?_))
 all_goals simp
attribute [local irreducible] ym zI zE
theorem zfq {s : List UInt8} (h : yQ s = true) : 1 ≤ s.length ∧ s.length ≤ 10 := by
 unfold yQ at h
 rw [Bool.and_eq_true, Bool.and_eq_true] at h
 exact of_decide_eq_true h.1.1
attribute [local irreducible] yQ
theorem zm1 {n : Int} : ∀ {l : List zZ} {had : List (List UInt8)}, vz n l had = none → ∀ s ∈ l, yQ s.name = true ∧ 0 ≤ s.at_ ∧ s.at_ ≤ n
 | [], _, _, s, hs => by simp at hs
 | t :: l, had, h, s, hs => by
  rw [vz] at h
  split at h
  ·cases h
  rename_i h1
  split at h
  ·cases h
  rename_i h2
  rcases List.mem_cons.1 hs with rfl | hs
  ·refine ⟨?_, by omega, by omega⟩
   cases hn : yQ s.name with
   | true => rfl
   | false => exact (h1 (.inl hn)).elim
  ·exact zm1 h s hs
theorem zm2 {n : Int} : ∀ {l : List zZ} {had : List (List UInt8)} {e : Int}, vz n l had = some e → e ≠ 0
 | [], _, _, h => by cases h
 | t :: l, had, e, h => by
  rw [vz] at h
  split at h
  ·cases h; decide
  split at h
  ·cases h; decide
  exact zm2 h
structure zkZ (n : Int) (r : zd6) : Prop where
 size : r.size = 2 ∨ r.size = 4
 at0 : 0 ≤ r.at_
 at1 : r.at_ + r.size ≤ n
 name : r.name = [] ∨ yQ r.name = true
 add : zE r.add 32 = r.add
theorem zm3 {n : Int} : ∀ {l : List zd6} {last : Int}, 0 ≤ last → kJ n l last = 0 → ∀ r ∈ l, zkZ n r
 | [], _, _, _, s, hs => by simp at hs
 | t :: l, last, h0, h, r, hs => by
  rw [kJ] at h
  split at h
  ·cases h
  rename_i h1
  split at h
  ·cases h
  rename_i h2
  split at h
  ·cases h
  rename_i h3
  split at h
  ·cases h
  rename_i h4
  split at h
  ·cases h
  rename_i h5
  rcases List.mem_cons.1 hs with rfl | hs
  ·refine ⟨by omega, by omega, by omega, ?_, Classical.not_not.1 h5⟩
   cases hn : yQ r.name with
   | true => exact .inr rfl
   | false => exact .inl (Classical.not_not.1 fun hne => h4 ⟨hne, hn⟩)
  ·exact zm3 (by omega) h r hs
structure zvP (o : zad) : Prop where
 code : o.code.length ≤ 8000
 syms : o.syms.length ≤ 255
 rels : o.rels.length ≤ 16000
 sym : ∀ s ∈ o.syms, yQ s.name = true ∧ 0 ≤ s.at_ ∧ s.at_ ≤ o.code.length
 rel : ∀ r ∈ o.rels, zkZ o.code.length r
theorem zta {o : zad} (h : xA o = 0) : zvP o := by
 unfold xA at h
 split at h
 ·cases h
 rename_i h1
 split at h
 ·rename_i e he
  exact (zm2 he h).elim
 rename_i he
 exact ⟨by omega, by omega, by omega, zm1 he, zm3 (Int.le_refl _) h⟩
theorem zkZ.len {n : Int} {r : zd6} (h : zkZ n r) : r.name.length ≤ 10 := by
 rcases h.name with h | h
 ·rw [h]; decide
 ·exact (zfq h).2
def jH (s : zZ) : List UInt8 := kl s.name ++ wm s.at_
def zc0 (r : zd6) : List UInt8 := wm r.at_ ++ zt r.size :: (kl r.name ++ wm r.add)
def zfr : List UInt8 := [79, 66, 74]
def qn (o : zad) : List UInt8 := zfr ++ wm o.code.length ++ o.code ++ wm o.syms.length
def zhf (o : zad) : List UInt8 := qn o ++ o.syms.flatMap jH ++ wm o.rels.length ++ o.rels.flatMap zc0
theorem zfs {α : Type} {f : α → List UInt8} {c : Nat} : ∀ {l : List α}, (∀ x ∈ l, (f x).length ≤ c) → (l.flatMap f).length ≤ c * l.length
 | [], _ => by simp
 | x :: l, h => by
  have h1 := h x (by simp)
  have h2 := zfs (l := l) fun y hy => h y (by simp [hy])
  simp only [List.flatMap_cons, List.length_append, List.length_cons, Nat.mul_add, Nat.mul_one]
  omega
theorem zke {α : Type} {f : α → List UInt8} {l : List α} {k : Nat} {x : α} (h : l[k]? = some x) : (l.take (k + 1)).flatMap f = (l.take k).flatMap f ++ f x := by
 rw [List.take_add_one, h]
 simp
attribute [local irreducible] xA
theorem zm4 : za Tryz.prog znI (zz (fun o : zad => (∀ r ∈ o.rels, -9223372036854775808 ≤ r.at_ ∧ r.at_ ≤ 9223372036854775807 ∧ r.name.length ≤ 1000000000) ∧ ∀ s ∈ o.syms, s.name.length ≤ 1000000000) (fun o => [zmq o])
  fun o => .tup [zm (if xA o = 0 then zhf o else []), .int .i64 (xA o)]) := by
 refine ze zi Tryz.func60 rfl (by decide) ?_
 rintro o ho
 refine ⟨Nat.le_refl _, by simp [Tryz.f60], fun E hE => ?_⟩
 refine zb _ ?_
 (all_goals refine qgs ?_ <;> (repeat' first | exact trivial | intro hc | refine And.intro ?_ ?_) <;> refine Lf.mk ?_)
 refine zd zmr o ho (VS.mk (LeL.of_eq rfl)) ?_
 (all_goals refine qgs ?_ <;> (repeat' first | exact trivial | intro hc | refine And.intro ?_ ?_) <;> refine Lf.mk ?_)
 ·refine zf (VS.mk ?_)
  rw [if_neg hc]
  (first | exact LeL.refl _ | (repeat' (first | exact LeL.nil | exact LeD.refl _ | exact LeD.nil _ | exact LeD.strip _ _ _ | refine LeL.cons ?_ ?_ | refine LeD.tup ?_ | refine LeD.agg ?_)))
 have hok := zta hc
 have hc0 := hc
 have hcode := hok.code
 have hsl := hok.syms
 have hrl := hok.rels
 refine za0 ?_
 (all_goals refine qgs ?_ <;> (repeat' first | exact trivial | intro hc | refine And.intro ?_ ?_) <;> refine Lf.mk ?_)
 refine zk4 ?_
 (all_goals refine qgs ?_ <;> (repeat' first | exact trivial | intro hc | refine And.intro ?_ ?_) <;> refine Lf.mk ?_)
 refine za0 ?_
 (all_goals refine qgs ?_ <;> (repeat' first | exact trivial | intro hc | refine And.intro ?_ ?_) <;> refine Lf.mk ?_)
 refine zk4 ?_
 (all_goals refine qgs ?_ <;> (repeat' first | exact trivial | intro hc | refine And.intro ?_ ?_) <;> refine Lf.mk ?_)
 refine ye jl [2] [2] (zfr, (o.code.length : Int)) (by show 3 ≤ 1000000000; decide) rfl rfl ?_
 refine And.intro (VS.mk (LeL.of_eq rfl)) (And.intro (VS.mk rfl) ?_)
 have h7 : (zfr ++ wm (o.code.length : Int)).length = 7 := rfl
 (all_goals refine qgs ?_ <;> (repeat' first | exact trivial | intro hc | refine And.intro ?_ ?_) <;> refine Lf.mk ?_)
 refine yY ⟨by simp, by simp only [List.length_map, h7]; omega⟩ ?_
 (all_goals refine qgs ?_ <;> (repeat' first | exact trivial | intro hc | refine And.intro ?_ ?_) <;> refine Lf.mk ?_)
 have h8 : (zfr ++ wm (o.code.length : Int) ++ o.code).length ≤ 8007 := by rw [List.length_append, h7]; omega
 refine ye jl [2] [2] (zfr ++ wm (o.code.length : Int) ++ o.code, (o.syms.length : Int)) (by omega) rfl rfl ?_
 refine And.intro (VS.mk (LeL.of_eq ?_)) (And.intro (VS.mk ?_) ?_)
 ·rw [List.map_append]; rfl
 ·simp
 (all_goals refine qgs ?_ <;> (repeat' first | exact trivial | intro hc | refine And.intro ?_ ?_) <;> refine Lf.mk ?_)
 refine yu (α := Nat) (fun k => k ≤ o.syms.length)
  (fun k => [(30, .sl 2 (o.syms.map xm) none), (31, .int .i64 o.syms.length), (32, .int .i64 k), (1, .loc 0 0), (5, .sl 1 ((qn o ++ (o.syms.take k).flatMap jH).map zA) (some 2))])
  (fun k => [.cells [zm o.code, .sl 2 (o.syms.map xm) none, .sl 4 (o.rels.map jE) none], .dead, .spare (qn o ++ (o.syms.take k).flatMap jH).length]) (fun k => o.syms.length - k) (fun _ => by simp [hE]) 0 (Nat.zero_le _) ?_ ?_
 ·(repeat' (first | (refine VS.mk ?_) | exact trivial | exact rfl | refine And.intro ?_ ?_))
  all_goals (simp [qn, zm]; done)
 rintro k hk
 refine zb _ ?_
 have hb : (qn o).length ≤ 8011 := by unfold qn; rw [List.length_append]; show _ + 4 ≤ _; omega
 have hf : ∀ q, ((o.syms.take q).flatMap jH).length ≤ 15 * 255 := fun q => by
  refine Nat.le_trans (zfs (c := 15) fun s hs => ?_) (Nat.mul_le_mul_left _ (by rw [List.length_take]; have := hok.syms; omega))
  have := (zfq (hok.sym s (List.mem_of_mem_take hs)).1).2
  show (kl s.name ++ wm s.at_).length ≤ 15
  rw [List.length_append]
  show s.name.length + 1 + 4 ≤ 15
  omega
 (all_goals refine qgs ?_ <;> (repeat' first | exact trivial | intro hc | refine And.intro ?_ ?_) <;> refine Lf.mk ?_)
 ·obtain ⟨s, hsk⟩ := yi (l := o.syms) (k := k) (by omega)
  have hn := zfq (hok.sym s (List.mem_of_getElem? hsk)).1
  have hq := hf k
  refine zk s (by omega) (by simpa using hsk) ?_
  (all_goals refine qgs ?_ <;> (repeat' first | exact trivial | intro hc | refine And.intro ?_ ?_) <;> refine Lf.mk ?_)
  refine ye ziv [2] [2] (qn o ++ (o.syms.take k).flatMap jH, s.name) ⟨by rw [List.length_append]; omega, by omega⟩ rfl rfl ?_
  refine And.intro (VS.mk (LeL.of_eq rfl)) (And.intro (VS.mk rfl) ?_)
  (all_goals refine qgs ?_ <;> (repeat' first | exact trivial | intro hc | refine And.intro ?_ ?_) <;> refine Lf.mk ?_)
  refine ye jl [2] [2] (qn o ++ (o.syms.take k).flatMap jH ++ kl s.name, s.at_) (by dsimp only; rw [List.length_append, List.length_append]; show _ + _ + (s.name.length + 1) ≤ _; omega) rfl rfl ?_
  refine And.intro (VS.mk (LeL.of_eq rfl)) (And.intro (VS.mk rfl) ?_)
  (all_goals refine qgs ?_ <;> (repeat' first | exact trivial | intro hc | refine And.intro ?_ ?_) <;> refine Lf.mk ?_)
  have e : qn o ++ (o.syms.take (k + 1)).flatMap jH = qn o ++ (o.syms.take k).flatMap jH ++ kl s.name ++ wm s.at_ := by rw [zke hsk]; simp [jH]
  refine zL (k + 1) ?_ ?_ ?_
  ·omega
  ·omega
  rw [e]
  (repeat' (first | (refine VS.mk ?_) | exact trivial | exact rfl | refine And.intro ?_ ?_))
  (all_goals (first | rfl | (dsimp only; congr 1; omega) | (dsimp only; simp; done) | (dsimp only; simp; omega) | skip))
 obtain rfl : k = o.syms.length := by omega
 have hq := hf o.syms.length
 rw [List.take_length] at hq ⊢
 refine ye jl [2] [2] (qn o ++ o.syms.flatMap jH, (o.rels.length : Int)) (by dsimp only; rw [List.length_append]; omega) rfl rfl ?_
 refine And.intro (VS.mk (LeL.of_eq rfl)) (And.intro (VS.mk rfl) ?_)
 (all_goals refine qgs ?_ <;> (repeat' first | exact trivial | intro hc | refine And.intro ?_ ?_) <;> refine Lf.mk ?_)
 refine yu (α := Nat) (fun k => k ≤ o.rels.length)
  (fun k => [(50, .sl 4 (o.rels.map jE) none), (51, .int .i64 o.rels.length), (52, .int .i64 k), (1, .loc 0 0), (5, .sl 1 ((qn o ++ o.syms.flatMap jH ++ wm o.rels.length ++ (o.rels.take k).flatMap zc0).map zA) (some 2))])
  (fun k => [.cells [zm o.code, .sl 2 (o.syms.map xm) none, .sl 4 (o.rels.map jE) none], .dead, .spare (qn o ++ o.syms.flatMap jH ++ wm o.rels.length ++ (o.rels.take k).flatMap zc0).length]) (fun k => o.rels.length - k) (fun _ => by simp [hE]) 0 (Nat.zero_le _) ?_ ?_
 ·(repeat' (first | (refine VS.mk ?_) | exact trivial | exact rfl | refine And.intro ?_ ?_))
  all_goals (simp [zm]; done)
 have hb2 : (qn o ++ o.syms.flatMap jH ++ wm o.rels.length).length ≤ 8011 + 15 * 255 + 4 := by rw [List.length_append, List.length_append]; show _ + _ + 4 ≤ _; omega
 generalize hpre : qn o ++ o.syms.flatMap jH ++ wm o.rels.length = pre at *
 have hg : ∀ q, ((o.rels.take q).flatMap zc0).length ≤ 20 * 16000 := fun q => by
  refine Nat.le_trans (zfs (c := 20) fun r hr => ?_) (Nat.mul_le_mul_left _ (by rw [List.length_take]; have := hok.rels; omega))
  have := (hok.rel r (List.mem_of_mem_take hr)).len
  show (wm r.at_ ++ zt r.size :: (kl r.name ++ wm r.add)).length ≤ 20
  rw [List.length_append, List.length_cons, List.length_append]
  show 4 + (r.name.length + 1 + 4 + 1) ≤ 20
  omega
 rintro k hk
 refine zb _ ?_
 (all_goals refine qgs ?_ <;> (repeat' first | exact trivial | intro hc | refine And.intro ?_ ?_) <;> refine Lf.mk ?_)
 ·obtain ⟨r, hrk⟩ := yi (l := o.rels) (k := k) (by omega)
  have hn := (hok.rel r (List.mem_of_getElem? hrk)).len
  have hq := hg k
  refine zk r (by omega) (by simpa using hrk) ?_
  (all_goals refine qgs ?_ <;> (repeat' first | exact trivial | intro hc | refine And.intro ?_ ?_) <;> refine Lf.mk ?_)
  refine ye jl [2] [2] (pre ++ (o.rels.take k).flatMap zc0, r.at_) (by dsimp only; rw [List.length_append]; omega) rfl rfl ?_
  refine And.intro (VS.mk (LeL.of_eq rfl)) (And.intro (VS.mk rfl) ?_)
  (all_goals refine qgs ?_ <;> (repeat' first | exact trivial | intro hc | refine And.intro ?_ ?_) <;> refine Lf.mk ?_)
  refine za0 ?_
  (all_goals refine qgs ?_ <;> (repeat' first | exact trivial | intro hc | refine And.intro ?_ ?_) <;> refine Lf.mk ?_)
  refine za0 ?_
  (all_goals refine qgs ?_ <;> (repeat' first | exact trivial | intro hc | refine And.intro ?_ ?_) <;> refine Lf.mk ?_)
  have e4 : (wm r.at_).length = 4 := rfl
  refine yY ⟨by simp, by simp only [List.length_map, List.length_append, e4, List.length_cons, List.length_nil]; omega⟩ ?_
  (all_goals refine qgs ?_ <;> (repeat' first | exact trivial | intro hc | refine And.intro ?_ ?_) <;> refine Lf.mk ?_)
  refine ye ziv [2] [2] (pre ++ (o.rels.take k).flatMap zc0 ++ wm r.at_ ++ [zt r.size], r.name) ⟨by simp only [List.length_append, e4, List.length_cons, List.length_nil]; omega, by omega⟩ rfl rfl ?_
  refine And.intro (VS.mk (LeL.of_eq ?_)) (And.intro (VS.mk ?_) ?_)
  ·simp
  ·simp
  (all_goals refine qgs ?_ <;> (repeat' first | exact trivial | intro hc | refine And.intro ?_ ?_) <;> refine Lf.mk ?_)
  refine ye jl [2] [2] (pre ++ (o.rels.take k).flatMap zc0 ++ wm r.at_ ++ [zt r.size] ++ kl r.name, r.add) (by dsimp only; simp only [kl, List.length_append, e4, List.length_cons, List.length_nil]; omega) rfl rfl ?_
  refine And.intro (VS.mk (LeL.of_eq rfl)) (And.intro (VS.mk rfl) ?_)
  (all_goals refine qgs ?_ <;> (repeat' first | exact trivial | intro hc | refine And.intro ?_ ?_) <;> refine Lf.mk ?_)
  have e : pre ++ (o.rels.take (k + 1)).flatMap zc0 = pre ++ (o.rels.take k).flatMap zc0 ++ wm r.at_ ++ [zt r.size] ++ kl r.name ++ wm r.add := by rw [zke hrk]; simp [zc0]
  refine zL (k + 1) ?_ ?_ ?_
  ·omega
  ·omega
  rw [e]
  (repeat' (first | (refine VS.mk ?_) | exact trivial | exact rfl | refine And.intro ?_ ?_))
  (all_goals (first | rfl | (dsimp only; congr 1; omega) | (dsimp only; simp; done) | (dsimp only; simp; omega) | skip))
 obtain rfl : k = o.rels.length := by omega
 rw [List.take_length]
 refine zf (VS.mk ?_)
 rw [if_pos (by assumption)]
 refine LeD.of_eq ?_
 rw [hc0]
 show D.tup [zm _, _] = _
 rw [← hpre]
 rfl
end Go.Proofs.YtnkdeacghopkiaaGreatDoor
namespace Go.Proofs.YtnkdeacghopkiaaGreatDoor
open Go Go.Plat
set_option linter.unusedVariables false
set_option linter.unusedSimpArgs false
set_option maxRecDepth 100000
set_option maxHeartbeats 2000000
attribute [local irreducible] AWP zN yv zU zo yC yh zG yb yf zx za zY yz zr yg yx yy yn yo zw zy zT zef yc we zhf wM qA xz yT xA
structure zk0 (b : List UInt8) : Prop where
 plain : zmY b
 rels : ∀ r ∈ (xz b).1.rels, -9223372036854775808 ≤ r.at_ ∧ r.at_ ≤ 9223372036854775807 ∧ r.name.length ≤ 1000000000
 syms : ∀ s ∈ (xz b).1.syms, s.name.length ≤ 1000000000
def ziw (m : Msg) : Msg :=
 if (xz m.data).2.1 ≠ 0 then ⟨3, m.worker, m.unit, m.turn, (xz m.data).2.1, (xz m.data).2.2, []⟩
 else if xA (xz m.data).1 ≠ 0 then ⟨3, m.worker, m.unit, m.turn, xA (xz m.data).1, (xz m.data).2.2, []⟩
 else ⟨2, m.worker, m.unit, m.turn, 0, 0, zhf (xz m.data).1⟩
def wr (f : zn) (w : Int) : Bool := (f.dead[w.toNat]?).getD true
def zcJ (f : zn) (m : Msg) : zn := if wr f m.worker = true then f else qA f (ziw m)
def zhg (m : Msg) : List D := [.int .i64 m.kind, .int .i64 m.worker, .int .i64 m.unit, .int .i64 m.turn, .int .i64 m.err, .int .i64 m.at_, zm m.data]
theorem zm5 (f : zn) (m : Msg) : ∀ x ∈ fO f ++ [.cells (zhg m)], ClO 5 x := by
 intro x hx
 rcases List.mem_append.1 hx with hx | hx
 ·exact ClO.up (wE f x hx) (by decide)
 ·rw [List.mem_singleton.1 hx]
  exact .cells (.cons .int (.cons .int (.cons .int (.cons .int (.cons .int (.cons .int (.cons .sl .nil)))))))
theorem zoe : za Tryz.prog znG (z1 (fun ((f, m) : zn × Msg) => FSm f ∧ 0 ≤ m.worker ∧ (wr f m.worker = true ∨ zk0 m.data)) (fun _ => [.loc 0 0, .loc 4 0]) (fun (f, m) => fO f ++ [.cells (zhg m)]) (fun _ => .tup []) fun (f, m) => fO (zcJ f m) ++ [.cells (zhg m)]) := by
 refine ze zi Tryz.func37 rfl (by decide) ?_
 rintro ⟨f, m⟩ ⟨hf, hw0, hs⟩
 have hw0 : 0 ≤ m.worker := hw0
 have hs : wr f m.worker = true ∨ zk0 m.data := hs
 refine ⟨Nat.le_refl _, by simp [Tryz.f37], fun E hE => ?_⟩
 have hE5 : E.L.length = 5 := by rw [hE]; rfl
 have hdd := hf.dead
 have hW : zcJ f m = if wr f m.worker = true then f else qA f (ziw m) := rfl
 dsimp only
 generalize zcJ f m = F at *
 refine zb _ ?_
 (all_goals refine qgp ?_ <;> (repeat' first | exact trivial | intro hc | refine And.intro ?_ ?_) <;> refine Lf.mk ?_)
 ·have hda : wr f m.worker = true := by unfold wr; rw [List.getElem?_eq_none (by omega)]; rfl
  rw [if_pos hda] at hW
  rw [hW]
  exact yM rfl rfl
 ·have hlt : m.worker.toNat < f.dead.length := by omega
  have hda : f.dead[m.worker.toNat]? = some (wr f m.worker) := by unfold wr; rw [List.getElem?_eq_getElem hlt]; rfl
  refine zk (enc := D.bool) (wr f m.worker) (Int.natCast_nonneg _) (by rw [Int.toNat_natCast, Nat.zero_add]; exact hda) ?_
  (all_goals refine qgp ?_ <;> (repeat' first | exact trivial | intro hc | refine And.intro ?_ ?_) <;> refine Lf.mk ?_)
  ·rw [if_pos hc] at hW
   rw [hW]
   exact yM rfl rfl
  ·rw [hc, if_neg (by decide)] at hW
   rcases hs with hs | hs
   ·rw [hc] at hs; exact Bool.noConfusion hs
   refine zd zql m.data hs.plain (VS.mk (LeL.of_eq rfl)) ?_
   have hR : ziw m = if (xz m.data).2.1 ≠ 0 then ⟨3, m.worker, m.unit, m.turn, (xz m.data).2.1, (xz m.data).2.2, []⟩
    else if xA (xz m.data).1 ≠ 0 then ⟨3, m.worker, m.unit, m.turn, xA (xz m.data).1, (xz m.data).2.2, []⟩
    else ⟨2, m.worker, m.unit, m.turn, 0, 0, zhf (xz m.data).1⟩ := rfl
   have hrl := hs.rels
   have hsy := hs.syms
   generalize ziw m = R at *
   generalize xz m.data = U at *
   obtain ⟨o, fe, fa⟩ := U
   dsimp only at hR hrl hsy ⊢
   (all_goals refine qgp ?_ <;> (repeat' first | exact trivial | intro hc | refine And.intro ?_ ?_) <;> refine Lf.mk ?_)
   ·rw [if_neg (fun h => h hc)] at hR
    have hfe := hc
    refine zd zm4 o ⟨hrl, hsy⟩ (VS.mk (LeL.of_eq rfl)) ?_
    (all_goals refine qgp ?_ <;> (repeat' first | exact trivial | intro hc | refine And.intro ?_ ?_) <;> refine Lf.mk ?_)
    ·rw [if_pos hc] at hR
     subst hR
     refine xg zbr [_, _, _, _] (f, ⟨3, m.worker, m.unit, m.turn, xA o, fa, []⟩) hf rfl (.cons (.refl _) (.cons (LeD.agg (.cons (.refl _) (.cons (.refl _) (.cons (.refl _) (.cons (.refl _) (.cons (.refl _) (.cons (.refl _) (.cons (.nil 1) .nil)))))))) .nil)) rfl
      (.cons (.loc (Nat.lt_of_lt_of_le (by decide : 0 < 4) (Nat.le_of_eq rfl))) (.cons (.agg (.cons .int (.cons .int (.cons .int (.cons .int (.cons .int (.cons .int (.cons .nilsl .nil)))))))) .nil)) .tup0 (wE _) (wE _) ?_
     dsimp only
     rw [← hW]
     (all_goals refine qgp ?_ <;> (repeat' first | exact trivial | intro hc | refine And.intro ?_ ?_) <;> refine Lf.mk ?_)
     exact xc (fO F ++ [.cells (zhg m)]) [_, _, _] rfl (Nat.le_refl _) .tup0 (zm5 _ _)
    ·rw [if_neg (fun h => h hc)] at hR
     rw [if_pos hc]
     subst hR
     refine xg zbr [_, _, _, _] (f, ⟨2, m.worker, m.unit, m.turn, 0, 0, zhf o⟩) hf rfl (LeL.of_eq rfl) rfl
      (.cons (.loc (Nat.lt_of_lt_of_le (by decide : 0 < 4) (Nat.le_of_eq rfl))) (.cons (.agg (.cons .int (.cons .int (.cons .int (.cons .int (.cons .int (.cons .int (.cons .sl .nil)))))))) .nil)) .tup0 (wE _) (wE _) ?_
     dsimp only
     rw [← hW]
     (all_goals refine qgp ?_ <;> (repeat' first | exact trivial | intro hc | refine And.intro ?_ ?_) <;> refine Lf.mk ?_)
     exact xc (fO F ++ [.cells (zhg m)]) [_, _, _] rfl (Nat.le_refl _) .tup0 (zm5 _ _)
   ·rw [if_pos hc] at hR
    subst hR
    refine xg zbr [_, _, _, _] (f, ⟨3, m.worker, m.unit, m.turn, fe, fa, []⟩) hf rfl (.cons (.refl _) (.cons (LeD.agg (.cons (.refl _) (.cons (.refl _) (.cons (.refl _) (.cons (.refl _) (.cons (.refl _) (.cons (.refl _) (.cons (.nil 1) .nil)))))))) .nil)) rfl
     (.cons (.loc (Nat.lt_of_lt_of_le (by decide : 0 < 4) (Nat.le_of_eq rfl))) (.cons (.agg (.cons .int (.cons .int (.cons .int (.cons .int (.cons .int (.cons .int (.cons .nilsl .nil)))))))) .nil)) .tup0 (wE _) (wE _) ?_
    dsimp only
    rw [← hW]
    (all_goals refine qgp ?_ <;> (repeat' first | exact trivial | intro hc | refine And.intro ?_ ?_) <;> refine Lf.mk ?_)
    exact xc (fO F ++ [.cells (zhg m)]) [_, _, _] rfl (Nat.le_refl _) .tup0 (zm5 _ _)
attribute [local irreducible] zcJ
def zk1 (j : yP) (m : Msg) : yP := ⟨j.src, -1, j.turn, 0, true, m.data, m.err, m.at_⟩
def zix (f : zn) (m : Msg) : zn :=
 if (f.jobs.length : Int) ≤ m.unit then f else if m.kind = 1 then zcJ f m
 else if (zB f m.unit.toNat).done = false ∧ m.turn ≤ (zB f m.unit.toNat).turn ∧ 0 < m.turn then vR f m.unit.toNat (zk1 (zB f m.unit.toNat) m) else f
def zbs (f : zn) (b : List UInt8) : zn := if wM b ≠ 0 then f else zix f (we b)
structure zft (f : zn) (b : List UInt8) : Prop where
 len : b.length ≤ 1000000000
 lease : wM b = 0 → (we b).kind = 1 → (we b).unit < f.jobs.length → wr f (we b).worker = true ∨ zk0 (we b).data
theorem zof {b : List UInt8} (h : wM b = 0) : yT (we b) = 0 := by
 unfold wM at h
 split at h
 ·exact absurd h (by decide)
 ·exact h
theorem ztb {m : Msg} (h : yT m = 0) : 1 ≤ m.kind ∧ m.kind ≤ 3 ∧ 0 ≤ m.worker ∧ m.worker < 3 ∧ 0 ≤ m.unit ∧ m.unit < 4 ∧ 0 ≤ m.turn ∧ m.turn ≤ 65535 := by
 unfold yT at h
 split at h
 ·exact absurd h (by decide)
 split at h
 ·exact absurd h (by decide)
 ·omega
theorem ziy {l : List D} {k : Nat} {d : D} {K : D → Prop} (hk : k < l.length) (h : K d) : yb (l.set k d) ((0 + k : Nat) : Int) K := by
 have := zk (enc := id) (l := l.set k d) (n := ((0 + k : Nat) : Int)) d (K := K) (Int.natCast_nonneg _) (by rw [Int.toNat_natCast, Nat.zero_add]; exact List.getElem?_set_self hk) h
 rwa [List.map_id] at this
theorem zvQ {l : List D} {k : Nat} {d : D} : l.set (0 + k) d = l.set k d := by rw [Nat.zero_add]
theorem ziz {l : List D} {k : Nat} {c d : D} : (l.set k c).set (0 + k) d = l.set k d := by rw [Nat.zero_add, List.set_set]
def dJ (j : yP) (w n : Int) (d o : D) (e a : Int) : D := .agg [zm j.src, .int .i64 w, .int .i64 j.turn, .int .i64 n, d, o, .int .i64 e, .int .i64 a]
theorem zog : za Tryz.prog znE (z1 (fun ((f, b) : zn × List UInt8) => FIn f 2000000 ∧ zft f b) (fun (_, b) => [.loc 0 0, zm b]) (fun (f, _) => fO f) (fun _ => .tup []) fun (f, b) => fO (zbs f b)) := by
 refine ze zi Tryz.func23 rfl (by decide) ?_
 rintro ⟨f, b⟩ ⟨hf, hb⟩
 have hb : zft f b := hb
 have hf : FIn f 2000000 := hf
 refine ⟨Nat.le_refl _, by simp [Tryz.f23], fun E hE => ?_⟩
 have hE4 : E.L.length = 4 := by rw [hE]; rfl
 have hjs := hf.jobs
 have hF : zbs f b = if wM b ≠ 0 then f else zix f (we b) := rfl
 dsimp only
 generalize zbs f b = F at *
 refine zb _ ?_
 (all_goals refine qgp ?_ <;> (repeat' first | exact trivial | intro hc | refine And.intro ?_ ?_) <;> refine Lf.mk ?_)
 refine zd zl2 b hb.len (VS.mk (LeL.of_eq rfl)) ?_
 by_cases hp : wM b = 0
 ·rw [if_neg (fun h => h hp)] at hF
  have hlease := hb.lease hp
  have hright := ztb (zof hp)
  rw [if_pos hp, hp]
  generalize we b = m at *
  have hC : zix f m = if (f.jobs.length : Int) ≤ m.unit then f else if m.kind = 1 then zcJ f m
   else if (zB f m.unit.toNat).done = false ∧ m.turn ≤ (zB f m.unit.toNat).turn ∧ 0 < m.turn then vR f m.unit.toNat (zk1 (zB f m.unit.toNat) m) else f := rfl
  rw [hC] at hF
  clear hC
  (all_goals refine qgp ?_ <;> (repeat' first | exact trivial | intro hc | refine And.intro ?_ ?_) <;> refine Lf.mk ?_)
  ·exact absurd trivial hc
  ·rw [if_pos hc] at hF
   rw [hF]
   exact xc (fO f) [.cells (zhg m)] rfl (Nat.le_refl _) .tup0 (wE _)
  ·have hc0 : ¬ (f.jobs.length : Int) ≤ m.unit := by assumption
   rw [if_neg hc0, if_pos hc] at hF
   rw [hF]
   refine zbV zoe (f, m) ⟨hf.sm, hright.2.2.1, hlease hc (by omega)⟩ rfl (LeL.refl _) ?_
   (all_goals refine qgp ?_ <;> (repeat' first | exact trivial | intro hc | refine And.intro ?_ ?_) <;> refine Lf.mk ?_)
   exact xc (fO (zcJ f m)) [_] rfl (Nat.le_refl _) .tup0 (wE _)
  ·have hc0 : ¬ (f.jobs.length : Int) ≤ m.unit := by assumption
   rw [if_neg hc0, if_neg hc] at hF
   obtain ⟨k, hk⟩ : ∃ k, k = m.unit.toNat := ⟨_, rfl⟩
   rw [← hk] at hF ⊢
   have hkl : k < f.jobs.length := by omega
   obtain ⟨hx, hxm⟩ := zaj hkl
   obtain ⟨t0, t1, w0, w1, q0, q1⟩ := hf.nums _ hxm
   obtain ⟨j, hj⟩ : ∃ j, j = zB f k := ⟨_, rfl⟩
   rw [← hj] at hF hx t0 t1
   have ix := fun {l : List yP} {j : yP} (h : l[k]? = some j) {K : D → Prop} (hK : K (ya j)) => zk (enc := ya) (n := ((0 + k : Nat) : Int)) j (Int.natCast_nonneg _) (by rw [Int.toNat_natCast, Nat.zero_add]; exact h) hK
   have iy := fun (j : yP) {K : D → Prop} (hK : K (ya j)) => ix (l := f.jobs.set k j) (zjs hkl) hK
   have out : ∀ X, zG (fO f).length (ju []) (D.tup []) (fO f ++ X) (fO f) := fun X => xc (fO f) X rfl (Nat.le_refl _) .tup0 (wE _)
   refine ix hx ?_
   (all_goals refine qgp ?_ <;> (repeat' first | exact trivial | intro hc | refine And.intro ?_ ?_) <;> refine Lf.mk ?_)
   ·have hd0 := hc
    refine ix hx ?_
    (all_goals refine qgp ?_ <;> (repeat' first | exact trivial | intro hc | refine And.intro ?_ ?_) <;> refine Lf.mk ?_)
    ·rw [if_pos ⟨hd0, by assumption, hc⟩] at hF
     have hO := ziu f k (zk1 j m)
     have hml : k < (f.jobs.map ya).length := by rw [List.length_map]; exact hkl
     rw [← hF] at hO
     refine ix hx ?_
     (all_goals refine qgk ?_ <;> (repeat' first | exact trivial | intro hc | refine And.intro ?_ ?_) <;> refine Lf.mk ?_)
     refine yV ((f.jobs.map ya).set k (dJ j j.worker j.wait .tt (zm j.obj) j.fe j.fa)) zvQ ?_
     (all_goals refine qgk ?_ <;> (repeat' first | exact trivial | intro hc | refine And.intro ?_ ?_) <;> refine Lf.mk ?_)
     refine yY (by rw [List.length_set, List.length_map]) (VS.mk (ziy hml ?_))
     (all_goals refine qgk ?_ <;> (repeat' first | exact trivial | intro hc | refine And.intro ?_ ?_) <;> refine Lf.mk ?_)
     refine yV ((f.jobs.map ya).set k (dJ j (-1) j.wait .tt (zm j.obj) j.fe j.fa)) ziz ?_
     (all_goals refine qgk ?_ <;> (repeat' first | exact trivial | intro hc | refine And.intro ?_ ?_) <;> refine Lf.mk ?_)
     refine yY (by rw [List.length_set, List.length_map]) (VS.mk (ziy hml ?_))
     (all_goals refine qgk ?_ <;> (repeat' first | exact trivial | intro hc | refine And.intro ?_ ?_) <;> refine Lf.mk ?_)
     refine yV ((f.jobs.map ya).set k (dJ j (-1) 0 .tt (zm j.obj) j.fe j.fa)) ziz ?_
     (all_goals refine qgk ?_ <;> (repeat' first | exact trivial | intro hc | refine And.intro ?_ ?_) <;> refine Lf.mk ?_)
     refine yY (by rw [List.length_set, List.length_map]) (VS.mk (ziy hml ?_))
     (all_goals refine qgk ?_ <;> (repeat' first | exact trivial | intro hc | refine And.intro ?_ ?_) <;> refine Lf.mk ?_)
     refine yV ((f.jobs.map ya).set k (dJ j (-1) 0 .tt (zm m.data) j.fe j.fa)) ziz ?_
     (all_goals refine qgk ?_ <;> (repeat' first | exact trivial | intro hc | refine And.intro ?_ ?_) <;> refine Lf.mk ?_)
     refine yY (by rw [List.length_set, List.length_map]) (VS.mk (ziy hml ?_))
     (all_goals refine qgk ?_ <;> (repeat' first | exact trivial | intro hc | refine And.intro ?_ ?_) <;> refine Lf.mk ?_)
     refine yV ((f.jobs.map ya).set k (dJ j (-1) 0 .tt (zm m.data) m.err m.at_)) ziz ?_
     (all_goals refine qgk ?_ <;> (repeat' first | exact trivial | intro hc | refine And.intro ?_ ?_) <;> refine Lf.mk ?_)
     refine zot (k := 1) (e := 8) ((f.jobs.map ya).set k (ya (zk1 j m))) rfl (by rw [List.length_set, List.length_set]) (zou (.cons (.refl _) (.cons (.refl _) (.cons (.refl _) (.cons (.refl _) (.cons (LeD.tt rfl) (.cons (.refl _) (.cons (.refl _) (.cons (.refl _) .nil))))))))) ?_ (Nat.le_refl _)
     exact xc (fO F) [_] (by rw [hO, List.map_set]; rfl) (Nat.le_refl _) .tup0 (wE _)
    ·rw [if_neg (fun e => hc e.2.2)] at hF
     rw [hF]
     exact out [_]
    ·rw [if_neg (fun e => hc e.2.1)] at hF
     rw [hF]
     exact out [_]
   ·rw [if_neg (fun e => by rw [hc] at e; exact Bool.noConfusion e.1)] at hF
    rw [hF]
    exact out [_]
 ·rw [if_pos hp] at hF
  rw [if_neg hp, hF]
  (all_goals refine qgp ?_ <;> (repeat' first | exact trivial | intro hc | refine And.intro ?_ ?_) <;> refine Lf.mk ?_)
  exact xc (fO f) [_] rfl (Nat.le_refl _) .tup0 (wE _)
theorem y7 {m : Nat → Option Nat} {ds : List D} {K : List D → Prop} (h : ∀ d ∈ ds, ClD 0 d ∧ ClL 0 d.cells) (hK : K ds) : zlp m ds K := by
 unfold zlp
 refine ⟨ds, ⟨rfl, fun i d d' h1 h2 => ?_⟩, fun i d d' h1 h2 => ?_, hK⟩
 ·rw [h1] at h2; cases h2; exact xk.flat (h d (List.mem_of_getElem? h1)).1
 ·rw [h1] at h2; cases h2
  exact ⟨rfl, (h d (List.mem_of_getElem? h1)).2.ren fun k hk => absurd hk (Nat.not_lt_zero k)⟩
theorem zaV {m : Nat → Option Nat} {ds : List D} (h : ∀ d ∈ ds, ClD 0 d ∧ ClL 0 d.cells) : ∀ (i : Nat) d d', ds[i]? = some d → ds[i]? = some d' → d.cells.length = d'.cells.length ∧ vu m d.cells d'.cells := fun i d d' h1 h2 => by
 rw [h1] at h2; cases h2
 exact ⟨rfl, (h d (List.mem_of_getElem? h1)).2.ren fun k hk => absurd hk (Nat.not_lt_zero k)⟩
theorem vE {l : List Bool} : ∀ d ∈ l.map D.bool, ClD 0 d ∧ ClL 0 d.cells := fun d hd => by
 obtain ⟨b, _, rfl⟩ := List.mem_map.1 hd
 exact ⟨.bool, .cons .bool .nil⟩
theorem wZ {l : List (List UInt8)} : ∀ d ∈ l.map zm, ClD 0 d ∧ ClL 0 d.cells := fun d hd => by
 obtain ⟨b, _, rfl⟩ := List.mem_map.1 hd
 exact ⟨.sl, .cons .sl .nil⟩
theorem zaW {l : List yP} : ∀ d ∈ l.map ya, ClD 0 d ∧ ClL 0 d.cells := fun d hd => by
 obtain ⟨b, _, rfl⟩ := List.mem_map.1 hd
 have h : ClL 0 (ya b).cells := .cons .sl (.cons .int (.cons .int (.cons .int (.cons .bool (.cons .sl (.cons .int (.cons .int .nil)))))))
 exact ⟨.agg h, h⟩
theorem zfu : za Tryz.prog zbX (z1 (fun ds : List Bool => ds ≠ [] ∧ ds.length ≤ 1000) (fun ds => [.sl 1 (ds.map D.bool) none]) (fun _ => []) (fun ds => .osl 1 0 ds.length 0 ds.length) fun ds => [.arr 1 (ds.map D.bool)]) := by
 refine ze zi Tryz.func33 rfl (by decide) ?_
 rintro ds ⟨h0, hds⟩
 refine ⟨by simp, by simp [Tryz.f33], fun E hE => ?_⟩
 refine xv (zb _ ?_)
 (all_goals refine qgp ?_ <;> (repeat' first | exact trivial | intro hc | refine And.intro ?_ ?_) <;> refine Lf.mk ?_)
 refine xv (zb _ ?_)
 (all_goals refine qgp ?_ <;> (repeat' first | exact trivial | intro hc | refine And.intro ?_ ?_) <;> refine Lf.mk ?_)
 refine zqF (fun h => ?_) ?_
 ·exact absurd (List.map_eq_nil_iff.1 h) h0
 (all_goals refine qgp ?_ <;> (repeat' first | exact trivial | intro hc | refine And.intro ?_ ?_) <;> refine Lf.mk ?_)
 refine xv ?_
 refine zqQ zi (t := 5) rfl rfl (by simp [Tryz.f33]) .nilsl [] _ _ ?_ (znA 5 1 rfl) ?_
 ·(all_goals refine qgs ?_ <;> (repeat' first | exact trivial | intro hc | refine And.intro ?_ ?_) <;> refine Lf.mk ?_)
  refine za0 (VS.mk (za0 ?_))
  exact VS.mk (And.intro rfl rfl)
 ·(all_goals refine qgp ?_ <;> (repeat' first | exact trivial | intro hc | refine And.intro ?_ ?_) <;> refine Lf.mk ?_)
  refine zb _ ?_
  (all_goals refine qgp ?_ <;> (repeat' first | exact trivial | intro hc | refine And.intro ?_ ?_) <;> refine Lf.mk ?_)
  exact yM (by rw [List.nil_append, List.length_map]; rfl) rfl
theorem zaX {l : List UInt8} : ∀ (i : Nat) d, (l.map zA)[i]? = some d → d.cells.length = 1 := fun i d hd => by
 obtain ⟨c, _, rfl⟩ := List.mem_map.1 (List.mem_of_getElem? hd); rfl
def zvo (f : zn) : D := .agg [.int .i64 f.base, .osl 8 0 f.jobs.length 0 f.jobs.length, .osl 1 1 f.dead.length 0 f.dead.length, .osl 1 2 f.way.length 0 f.way.length]
structure ziA (f : zn) : Prop where
 jobs : f.jobs.length ≤ 1000
 dead : f.dead ≠ [] ∧ f.dead.length ≤ 1000
 way : f.way.length ≤ 1000
 data : ∀ j ∈ f.jobs, j.src.length ≤ 100000000 ∧ j.obj.length ≤ 100000000
 msgs : ∀ b ∈ f.way, b.length ≤ 100000000
def zjt (f g : zn) : List Ob := fO g ++ [.cells [.int .i64 f.base, .sl 8 (f.jobs.map ya) none, .sl 1 (f.dead.map D.bool) none, .sl 1 (f.way.map zm) none], .cells [.int .i64 0, .nilsl, .nilsl, .nilsl]]
theorem zur (f g : zn) : ∀ x ∈ zjt f g, ClO 6 x := by
 intro x hx
 rcases List.mem_append.1 hx with hx | hx
 ·exact ClO.up (wE g x hx) (by decide)
 simp only [List.mem_cons, List.not_mem_nil, or_false] at hx
 rcases hx with rfl | rfl
 ·exact .cells (.cons .int (.cons .sl (.cons .sl (.cons .sl .nil))))
 ·exact .cells (.cons .int (.cons .nilsl (.cons .nilsl (.cons .nilsl .nil))))
theorem ziB : za Tryz.prog zh4 (z1 ziA (fun f => [xp f]) (fun _ => []) zvo fun f => [.arr 8 (f.jobs.map ya), .arr 1 (f.dead.map D.bool), .arr 1 (f.way.map zm)]) := by
 refine ze zi Tryz.func20 rfl (by decide) ?_
 rintro f hf
 refine ⟨by show 0 ≤ 3; decide, by simp [Tryz.f20], fun E hE => ?_⟩
 have hE0 : E.L.length = 0 := by rw [hE]; rfl
 obtain ⟨hfj, hfd, hfw, hfdata, hfm⟩ := hf
 obtain ⟨base, jobs, dead, way⟩ := f
 have hfj : jobs.length ≤ 1000 := hfj
 have hfw : way.length ≤ 1000 := hfw
 refine xv (zb _ ?_)
 (all_goals refine qgp ?_ <;> (repeat' first | exact trivial | intro hc | refine And.intro ?_ ?_) <;> refine Lf.mk ?_)
 refine j7 (α := Unit) (fun _ => True) (fun _ => [(1, .loc 4 0), (2, .loc 5 0), (3, .loc 0 0)]) (fun _ => zjt ⟨base, jobs, dead, way⟩ ⟨base, [], dead, []⟩) (zb _ ?_) (fun _ _ => ?_)
 ·(all_goals refine qgn ?_ <;> (repeat' first | exact trivial | intro hc | refine And.intro ?_ ?_) <;> refine Lf.mk ?_)
  refine zhL ?_
  refine zdK zi mixed 4 6 [0, 1, 2, 3, 6, 4, 5, 7] [0, 1, 2, 3, 5, 6, 4, 7] rfl rfl rfl ?_ ?_
  ·(all_goals refine qgp ?_ <;> (repeat' first | exact trivial | intro hc | refine And.intro ?_ ?_) <;> refine Lf.mk ?_)
   refine ye zfu [] [2] dead hfd rfl rfl (And.intro (VS.mk (LeL.of_eq rfl)) (And.intro (VS.mk rfl) ?_))
   (all_goals refine qgp ?_ <;> (repeat' first | exact trivial | intro hc | refine And.intro ?_ ?_) <;> refine Lf.mk ?_)
   refine y7 vE ?_
   (all_goals refine qgp ?_ <;> (repeat' first | exact trivial | intro hc | refine And.intro ?_ ?_) <;> refine Lf.mk ?_)
   refine Exists.intro () (And.intro trivial ?_)
   refine xt (w8 3 8 [.int .i64 base, .osl 8 4 0 0 0, .osl 1 2 dead.length 0 dead.length, .nilsl] rfl ⟨.same, .here, .same, .same, trivial⟩) ?_
   refine xt (w8 3 1 [.int .i64 base, .osl 8 4 0 0 0, .osl 1 2 dead.length 0 dead.length, .osl 1 5 0 0 0] rfl ⟨.same, .same, .same, .here, trivial⟩) ?_
   refine wq [3, 4, 2, 5, 0, 1] rfl (by rw [hE0]; rfl) ?_ ⟨.loc rfl, .loc rfl, .loc rfl, trivial⟩
   exact .cons rfl ⟨_, rfl, .cons (.flat .int) (.cons (.osl rfl) (.cons (.osl rfl) (.cons (.osl rfl) .nil)))⟩ (.cons (o := .arr 8 []) rfl ⟨_, rfl, rfl, by simp⟩ (.cons (o := .arr 1 (dead.map D.bool)) rfl ⟨_, rfl, rfl, zaV vE⟩ (.cons (o := .arr 1 []) rfl ⟨_, rfl, rfl, by simp⟩
    (.cons rfl ⟨_, rfl, .cons (.flat .int) (.cons (.flat .sl) (.cons (.flat .sl) (.cons (.flat .sl) .nil)))⟩ (.cons rfl ⟨_, rfl, .cons (.flat .int) (.cons (.flat .nilsl) (.cons (.flat .nilsl) (.cons (.flat .nilsl) .nil)))⟩ .nil)))))
  ·(all_goals refine qgp ?_ <;> (repeat' first | exact trivial | intro hc | refine And.intro ?_ ?_) <;> refine Lf.mk ?_)
   refine ye zfu [] [3] dead hfd rfl rfl (And.intro (VS.mk (LeL.of_eq rfl)) (And.intro (VS.mk rfl) ?_))
   (all_goals refine qgp ?_ <;> (repeat' first | exact trivial | intro hc | refine And.intro ?_ ?_) <;> refine Lf.mk ?_)
   refine y7 vE ?_
   (all_goals refine qgp ?_ <;> (repeat' first | exact trivial | intro hc | refine And.intro ?_ ?_) <;> refine Lf.mk ?_)
   refine Exists.intro () (And.intro trivial ?_)
   refine xt (w8 2 8 [.int .i64 base, .osl 8 4 0 0 0, .osl 1 3 dead.length 0 dead.length, .nilsl] rfl ⟨.same, .here, .same, .same, trivial⟩) ?_
   refine xt (w8 2 1 [.int .i64 base, .osl 8 4 0 0 0, .osl 1 3 dead.length 0 dead.length, .osl 1 5 0 0 0] rfl ⟨.same, .same, .same, .here, trivial⟩) ?_
   refine wq [2, 4, 3, 5, 0, 1] rfl (by rw [hE0]; rfl) ?_ ⟨.loc rfl, .loc rfl, .loc rfl, trivial⟩
   exact .cons rfl ⟨_, rfl, .cons (.flat .int) (.cons (.osl rfl) (.cons (.osl rfl) (.cons (.osl rfl) .nil)))⟩ (.cons (o := .arr 8 []) rfl ⟨_, rfl, rfl, by simp⟩ (.cons (o := .arr 1 (dead.map D.bool)) rfl ⟨_, rfl, rfl, zaV vE⟩ (.cons (o := .arr 1 []) rfl ⟨_, rfl, rfl, by simp⟩
    (.cons rfl ⟨_, rfl, .cons (.flat .int) (.cons (.flat .sl) (.cons (.flat .sl) (.cons (.flat .sl) .nil)))⟩ (.cons rfl ⟨_, rfl, .cons (.flat .int) (.cons (.flat .nilsl) (.cons (.flat .nilsl) (.cons (.flat .nilsl) .nil)))⟩ .nil)))))
 ·dsimp only
  refine zb _ ?_
  (all_goals refine qgp ?_ <;> (repeat' first | exact trivial | intro hc | refine And.intro ?_ ?_) <;> refine Lf.mk ?_)
  refine z7 (α := Nat) (fun k => k ≤ jobs.length) (fun k => [(1, .loc 4 0), (2, .loc 5 0), (3, .loc 0 0), (15, .sl 8 (jobs.map ya) none), (16, .int .i64 jobs.length), (17, .int .i64 k)]) (fun k => zjt ⟨base, jobs, dead, way⟩ ⟨base, jobs.take k, dead, []⟩) (fun k => jobs.length - k) (fun _ => by rw [hE0]; exact Nat.zero_le _) 0 (Nat.zero_le _) ?_ ?_
  ·exact zX rfl ⟨rfl, rfl, rfl, rfl, rfl, rfl, trivial⟩
  intro k hk
  have hk : k ≤ jobs.length := hk
  refine zb _ ?_
  (all_goals refine qgp ?_ <;> (repeat' first | exact trivial | intro hc | refine And.intro ?_ ?_) <;> refine Lf.mk ?_)
  ·have hkl : k < jobs.length := by omega
   obtain ⟨j, hj⟩ := yi (l := jobs) (k := k) hkl
   obtain ⟨hs, ho⟩ := hfdata j (List.mem_of_getElem? hj)
   refine zk j (Int.natCast_nonneg _) (by rw [Int.toNat_natCast]; exact hj) ?_
   (all_goals refine qgp ?_ <;> (repeat' first | exact trivial | intro hc | refine And.intro ?_ ?_) <;> refine Lf.mk ?_)
   refine zd qV (j.src.map zA) ⟨by simpa using hs, zaX⟩ (VS.mk (LeL.of_eq rfl)) ?_
   (all_goals refine qgp ?_ <;> (repeat' first | exact trivial | intro hc | refine And.intro ?_ ?_) <;> refine Lf.mk ?_)
   refine zd qV (j.obj.map zA) ⟨by simpa using ho, zaX⟩ (VS.mk (LeL.of_eq rfl)) ?_
   (all_goals refine qgp ?_ <;> (repeat' first | exact trivial | intro hc | refine And.intro ?_ ?_) <;> refine Lf.mk ?_)
   have htk : jobs.take (k + 1) = jobs.take k ++ [j] := by rw [List.take_add_one, hj]; rfl
   refine wG (k + 1) [.cells (ya j).cells] (by show k + 1 ≤ _; omega) (by omega) ?_ (by rw [hE0]; exact Nat.zero_le _) (zur _ _) ⟨rfl, rfl, rfl, rfl, rfl, rfl, trivial⟩ (.cons (.loc (by show 4 < 6; decide)) (.cons (.loc (by show 5 < 6; decide)) (.cons (.loc (by show 0 < 6; decide)) (.cons .sl (.cons .int (.cons .int .nil))))))
   unfold zjt fO fC
   simp only [htk, List.map_append, List.length_append, List.length_map]
   rfl
  ·have hkn : k = jobs.length := by omega
   rw [hkn, List.take_length]
   refine z7 (α := Nat) (fun k => k ≤ way.length) (fun k => [(1, .loc 4 0), (2, .loc 5 0), (3, .loc 0 0), (37, .sl 1 (way.map zm) none), (38, .int .i64 way.length), (39, .int .i64 k)]) (fun k => zjt ⟨base, jobs, dead, way⟩ ⟨base, jobs, dead, way.take k⟩) (fun k => way.length - k) (fun _ => by rw [hE0]; exact Nat.zero_le _) 0 (Nat.zero_le _) ?_ ?_
   ·exact zX rfl ⟨rfl, rfl, rfl, rfl, rfl, rfl, trivial⟩
   intro q hq
   have hq : q ≤ way.length := hq
   refine zb _ ?_
   (all_goals refine qgp ?_ <;> (repeat' first | exact trivial | intro hc | refine And.intro ?_ ?_) <;> refine Lf.mk ?_)
   ·have hql : q < way.length := by omega
    obtain ⟨b, hb⟩ := yi (l := way) (k := q) hql
    have hbl := hfm b (List.mem_of_getElem? hb)
    refine zk b (Int.natCast_nonneg _) (by rw [Int.toNat_natCast]; exact hb) ?_
    (all_goals refine qgp ?_ <;> (repeat' first | exact trivial | intro hc | refine And.intro ?_ ?_) <;> refine Lf.mk ?_)
    refine zd qV (b.map zA) ⟨by simpa using hbl, zaX⟩ (VS.mk (LeL.of_eq rfl)) ?_
    (all_goals refine qgp ?_ <;> (repeat' first | exact trivial | intro hc | refine And.intro ?_ ?_) <;> refine Lf.mk ?_)
    have htk : way.take (q + 1) = way.take q ++ [b] := by rw [List.take_add_one, hb]; rfl
    refine zR (q + 1) (by show q + 1 ≤ _; omega) (by omega) ?_ ⟨rfl, rfl, rfl, rfl, rfl, rfl, trivial⟩
    unfold zjt fO fC
    simp only [htk, List.map_append, List.length_append, List.length_map]
    rfl
   ·have hqn : q = way.length := by omega
    rw [hqn, List.take_length]
    refine zlr [1, 2, 3] rfl rfl ?_
    (all_goals refine qgp ?_ <;> (repeat' first | exact trivial | intro hc | refine And.intro ?_ ?_) <;> refine Lf.mk ?_)
    refine y7 zaW ?_
    (all_goals refine qgp ?_ <;> (repeat' first | exact trivial | intro hc | refine And.intro ?_ ?_) <;> refine Lf.mk ?_)
    refine y7 vE ?_
    (all_goals refine qgp ?_ <;> (repeat' first | exact trivial | intro hc | refine And.intro ?_ ?_) <;> refine Lf.mk ?_)
    refine y7 wZ ?_
    exact And.intro (VS.mk rfl) (VS.mk rfl)
attribute [local irreducible] zix qm
theorem zeg {l : List D} (h1c : ∀ d ∈ l, qI d.cells = true) (h : ∀ d ∈ l, ∀ c ∈ d.cells, c.flat ∨ ∃ e ds, c = .sl e ds none) : vJ l l := by
 refine ⟨rfl, fun i d d' h1 h2 => ?_⟩
 rw [h1] at h2; cases h2
 refine ⟨rfl, h1c d (List.mem_of_getElem? h1), fun j c c' h3 h4 => ?_⟩
 rw [h3] at h4; cases h4
 intro w F ρ L v hr
 rcases h d (List.mem_of_getElem? h1) c (List.mem_of_getElem? h3) with hc | ⟨e, ds, rfl⟩
 ·exact hr.pure_inv hc
 ·exact hr.sl_inv
theorem zgz (l : List (List UInt8)) : vJ (l.map zm) (l.map zm) := zeg (fun d hd => by obtain ⟨b, _, rfl⟩ := List.mem_map.1 hd; rfl) fun d hd c hc => by
 obtain ⟨b, _, rfl⟩ := List.mem_map.1 hd
 rw [List.mem_singleton.1 hc]
 exact .inr ⟨_, _, rfl⟩
theorem zgA (l : List Bool) : vJ (l.map D.bool) (l.map D.bool) := zeg (fun d hd => by obtain ⟨b, _, rfl⟩ := List.mem_map.1 hd; rfl) fun d hd c hc => by
 obtain ⟨b, _, rfl⟩ := List.mem_map.1 hd
 rw [List.mem_singleton.1 hc]
 exact .inl trivial
theorem ziC (l : List yP) : vJ (l.map ya) (l.map ya) := zeg (fun d hd => by obtain ⟨b, _, rfl⟩ := List.mem_map.1 hd; rfl) fun d hd c hc => by
 obtain ⟨b, _, rfl⟩ := List.mem_map.1 hd
 simp only [ya, D.cells, List.mem_cons, List.not_mem_nil, or_false] at hc
 rcases hc with rfl | rfl | rfl | rfl | rfl | rfl | rfl | rfl
 ·exact .inr ⟨_, _, rfl⟩
 ·exact .inl trivial
 ·exact .inl trivial
 ·exact .inl trivial
 ·exact .inl trivial
 ·exact .inr ⟨_, _, rfl⟩
 ·exact .inl trivial
 ·exact .inl trivial
theorem zby {k e : Nat} {els els' : List D} {t : Nat} {a b c d a' b' c' d' : D} (h0 : Fz k e els els' t a a') (h1 : Fz k e els els' t b b') (h2 : Fz k e els els' t c c') (h3 : Fz k e els els' t d d') : Fz k e els els' t (.agg [a, b, c, d]) (.agg [a', b', c', d']) := by
 refine .agg _ _ rfl fun j x x' g1 g2 => ?_
 match j, g1, g2 with
 | 0, g1, g2 => cases g1; cases g2; exact h0
 | 1, g1, g2 => cases g1; cases g2; exact h1
 | 2, g1, g2 => cases g1; cases g2; exact h2
 | 3, g1, g2 => cases g1; cases g2; exact h3
 | j + 4, g1, g2 => cases g1
theorem zm6 {k e : Nat} {els els' : List D} {t : Nat} {a b a' : D} (h0 : Fz k e els els' t a a') : Fz k e els els' t (.tup [a, b]) (.tup [a', b]) := by
 refine .tup _ _ rfl fun j x x' g1 g2 => ?_
 match j, g1, g2 with
 | 0, g1, g2 => cases g1; cases g2; exact h0
 | 1, g1, g2 => cases g1; cases g2; exact .keep _
 | j + 2, g1, g2 => cases g1
theorem zhh {L : List Ob} {a b n : Nat} {o : Ob} (hab : a ≠ b) (hb : L[b]? = some o) : (L.set a .dead ++ [.spare n])[b]? = some o := by
 have hl := (List.getElem?_eq_some_iff.1 hb).1
 rw [List.getElem?_append_left (by rw [List.length_set]; exact hl), List.getElem?_set_ne hab, hb]
theorem zaY (f : zn) (L : List Ob) (c : Nat) (e : Int) (ha : L[1]? = some (.arr 8 (f.jobs.map ya))) (hb : L[2]? = some (.arr 1 (f.dead.map D.bool))) (hc : L[c]? = some (.arr 1 (f.way.map zm))) (h3 : 3 ≤ c) :
  zG 0 (.tup [.agg [.int .i64 f.base, .osl 8 1 f.jobs.length 0 f.jobs.length, .osl 1 2 f.dead.length 0 f.dead.length, .osl 1 c f.way.length 0 f.way.length], .int .i64 e]) (.tup [xp f, .int .i64 e]) L [] := by
 refine wO (k := 1) (e := 8) (els := f.jobs.map ya) (els' := f.jobs.map ya) (r1 := .tup [.agg [.int .i64 f.base, .sl 8 (f.jobs.map ya) (some L.length), .osl 1 2 f.dead.length 0 f.dead.length, .osl 1 c f.way.length 0 f.way.length], .int .i64 e]) ha (Nat.zero_le _) (ziC _)
  (zm6 (zby (.keep _) (.here _ _ (by simp) (by simp)) (.keep _) (.keep _))) ?_ (Nat.zero_le _)
 have hb := zhh (a := 1) (n := (f.jobs.map ya).length) (by decide) hb
 have hc := zhh (a := 1) (n := (f.jobs.map ya).length) (by omega) hc
 generalize L.set 1 Ob.dead ++ [Ob.spare (f.jobs.map ya).length] = L1 at *
 refine wO (k := 2) (e := 1) (els := f.dead.map D.bool) (els' := f.dead.map D.bool) (r1 := .tup [.agg [.int .i64 f.base, .sl 8 (f.jobs.map ya) (some L.length), .sl 1 (f.dead.map D.bool) (some L1.length), .osl 1 c f.way.length 0 f.way.length], .int .i64 e]) hb (Nat.zero_le _) (zgA _)
  (zm6 (zby (.keep _) (.keep _) (.here _ _ (by simp) (by simp)) (.keep _))) ?_ (Nat.zero_le _)
 have hc := zhh (a := 2) (n := (f.dead.map D.bool).length) (by omega) hc
 generalize L1.set 2 Ob.dead ++ [Ob.spare (f.dead.map D.bool).length] = L2 at *
 refine wO (k := c) (e := 1) (els := f.way.map zm) (els' := f.way.map zm) hc (Nat.zero_le _) (zgz _)
  (zm6 (zby (.keep _) (.keep _) (.keep _) (.here _ _ (by simp) (by simp)))) ?_ (Nat.zero_le _)
 exact zf (VS.mk (LeD.tup (.cons (LeD.agg (.cons (.refl _) (.cons (.strip _ _ _) (.cons (.strip _ _ _) (.cons (.strip _ _ _) .nil))))) (LeL.refl _))))
theorem ztc (f : zn) (X : List Ob) (e : Int) : zG 0 (.tup [.agg (fC f), .int .i64 e]) (.tup [xp f, .int .i64 e]) (fO f ++ X) [] := zaY f _ 3 e rfl rfl rfl (Nat.le_refl _)
theorem zus (f : zn) : zG 0 (zvo f) (xp f) [.arr 8 (f.jobs.map ya), .arr 1 (f.dead.map D.bool), .arr 1 (f.way.map zm)] [] := by
 refine wO (k := 0) (e := 8) (els := f.jobs.map ya) (els' := f.jobs.map ya) (r1 := .agg [.int .i64 f.base, .sl 8 (f.jobs.map ya) (some 3), .osl 1 1 f.dead.length 0 f.dead.length, .osl 1 2 f.way.length 0 f.way.length]) rfl (Nat.zero_le _) (ziC _)
  (zby (.keep _) (.here _ _ (by simp) (by simp)) (.keep _) (.keep _)) ?_ (Nat.zero_le _)
 refine wO (k := 1) (e := 1) (els := f.dead.map D.bool) (els' := f.dead.map D.bool) (r1 := .agg [.int .i64 f.base, .sl 8 (f.jobs.map ya) (some 3), .sl 1 (f.dead.map D.bool) (some 4), .osl 1 2 f.way.length 0 f.way.length]) rfl (Nat.zero_le _) (zgA _)
  (zby (.keep _) (.keep _) (.here _ _ (by simp) (by simp)) (.keep _)) ?_ (Nat.zero_le _)
 refine wO (k := 2) (e := 1) (els := f.way.map zm) (els' := f.way.map zm) rfl (Nat.zero_le _) (zgz _)
  (zby (.keep _) (.keep _) (.keep _) (.here _ _ (by simp) (by simp))) ?_ (Nat.zero_le _)
 exact zf (VS.mk (LeD.agg (.cons (.refl _) (.cons (.strip _ _ _) (.cons (.strip _ _ _) (.cons (.strip _ _ _) .nil))))))
theorem zr1 {P : Program} {f : Nat} {α : Type} {I : α → Prop} {A : α → List D} {R R' : α → D} {O' : α → List Ob} (h : za P f (z1 I A (fun _ => []) R O')) (he : ∀ p, I p → zG 0 (R p) (R' p) (O' p) []) : za P f (zz I A R') := by
 unfold za at h ⊢
 refine ⟨h.1, ?_⟩
 rintro av L d L' ⟨p, hI, has, rfl, rfl, rfl⟩ w ρ vs hf hr
 refine (h.2 av [] (R p) (O' p) ⟨p, hI, has, rfl, rfl, rfl⟩ w ρ vs hf hr).mono ?_
 rintro e w' ⟨v, ρ', rfl, hp⟩
 have hend : ∃ φ, xu 0 φ (O' p) [] ∧ φ (R p) (R' p) := by
  have := he p hI
  unfold zG at this
  rcases this with h | h
  ·obtain ⟨r', hr1, hr2⟩ := wk h
   obtain ⟨L3, ⟨hr3, hr4⟩, _, hS⟩ := qx hr2 (Nat.zero_le _)
   have hr3 := hr3.out
   have hr4 := hr4.out
   subst hr3
   subst hr4
   exact ⟨_, hS, hr1⟩
  ·exact h
 obtain ⟨φ, hS, hφ⟩ := hend
 obtain ⟨ρ2, g1, g2, g3, g4⟩ := hS w' ρ' hp.fits
 exact ⟨v, ρ2, rfl, g1, g2 _ _ _ hφ hp.rep, hp.ext, fun b off ho => hp.fresh b off (g3 b off ho), g4 ρ [] rfl hp.compat⟩
theorem zoh : za Tryz.prog zh4 (zz ziA (fun f => [xp f]) xp) := zr1 ziB fun f _ => zus f
attribute [local irreducible] zbs
structure Stp where
 kind : Int
 n : Int
def zqp (s : Stp) : D := .agg [.int .i64 s.kind, .int .i64 s.n]
def x8 (f : zn) (n : Int) : List UInt8 := (f.way[n.toNat]?).getD []
def qo (f : zn) (n : Int) : zn := { f with way := f.way.eraseIdx n.toNat }
def zju (f : zn) (n : Int) : zn := { f with dead := f.dead.set n.toNat (!wr f n) }
def doF (f : zn) (s : Stp) : zn × Int :=
 if s.kind = 1 then (qm f, 0)
 else if s.kind = 2 ∨ s.kind = 3 ∨ s.kind = 4 then
  if s.n < 0 ∨ (f.way.length : Int) ≤ s.n then (f, 6)
  else if s.kind = 4 then (if f.way.length < 12 then { f with way := f.way ++ [x8 f s.n] } else f, 0)
  else if s.kind = 2 then (zbs (qo f s.n) (x8 f s.n), 0) else (qo f s.n, 0)
 else if s.kind = 5 then if s.n < 0 ∨ (f.dead.length : Int) ≤ s.n then (f, 6) else (zju f s.n, 0)
 else (f, 1)
structure zfv (f : zn) (s : Stp) : Prop where
 own : ziA f
 nums : FIn f 1000000
 num : -9223372036854775808 ≤ s.n ∧ s.n ≤ 9223372036854775807
 come : s.kind = 2 → 0 ≤ s.n → s.n < f.way.length → zft (qo f s.n) (x8 f s.n)
theorem zcK : za Tryz.prog zqU (zz (fun ((f, s) : zn × Stp) => zfv f s) (fun (f, s) => [xp f, zqp s]) fun (f, s) => .tup [xp (doF f s).1, .int .i64 (doF f s).2]) := by
 refine ze zi Tryz.func8 rfl (by decide) ?_
 rintro ⟨f, ⟨kind, n⟩⟩ ⟨hown, hin, hn, hcome⟩
 have hn : -9223372036854775808 ≤ n ∧ n ≤ 9223372036854775807 := hn
 have hcome : kind = 2 → 0 ≤ n → n < f.way.length → zft (qo f n) (x8 f n) := hcome
 refine ⟨Nat.le_refl _, by simp [Tryz.f8], fun E hE => ?_⟩
 have hE0 : E.L.length = 0 := by rw [hE]; rfl
 have hw := hin.way
 have hdl := hin.dead
 have hD : doF f ⟨kind, n⟩ = if kind = 1 then (qm f, 0)
  else if kind = 2 ∨ kind = 3 ∨ kind = 4 then
   if n < 0 ∨ (f.way.length : Int) ≤ n then (f, 6)
   else if kind = 4 then (if f.way.length < 12 then { f with way := f.way ++ [x8 f n] } else f, 0)
   else if kind = 2 then (zbs (qo f n) (x8 f n), 0) else (qo f n, 0)
  else if kind = 5 then if n < 0 ∨ (f.dead.length : Int) ≤ n then (f, 6) else (zju f n, 0)
  else (f, 1) := rfl
 dsimp only
 generalize doF f ⟨kind, n⟩ = R at *
 refine xv (zb _ ?_)
 (all_goals refine qgp ?_ <;> (repeat' first | exact trivial | intro hc | refine And.intro ?_ ?_) <;> refine Lf.mk ?_)
 refine j7 (α := Unit) (fun _ => True) (fun _ => [(3, .loc 4 0), (4, .loc 5 0), (6, .loc 0 0), (5, .int .i64 0)]) (fun _ => fO f ++ [.cells [.int .i64 kind, .int .i64 n], .cells [.int .i64 0, .nilsl, .nilsl, .nilsl]]) (zb _ ?_) (fun _ _ => ?_)
 ·(all_goals refine qgp ?_ <;> (repeat' first | exact trivial | intro hc | refine And.intro ?_ ?_) <;> refine Lf.mk ?_)
  refine ye ziB [] [3, 4, 5] f hown rfl rfl (And.intro (VS.mk (LeL.of_eq rfl)) (And.intro (VS.mk rfl) ?_))
  (all_goals refine qgp ?_ <;> (repeat' first | exact trivial | intro hc | refine And.intro ?_ ?_) <;> refine Lf.mk ?_)
  refine y7 zaW ?_
  (all_goals refine qgp ?_ <;> (repeat' first | exact trivial | intro hc | refine And.intro ?_ ?_) <;> refine Lf.mk ?_)
  refine y7 vE ?_
  (all_goals refine qgp ?_ <;> (repeat' first | exact trivial | intro hc | refine And.intro ?_ ?_) <;> refine Lf.mk ?_)
  refine y7 wZ ?_
  (all_goals refine qgp ?_ <;> (repeat' first | exact trivial | intro hc | refine And.intro ?_ ?_) <;> refine Lf.mk ?_)
  refine Exists.intro () (And.intro trivial ?_)
  refine wq [6, 3, 4, 5, 1, 2] rfl (by rw [hE0]; rfl) ?_ ⟨.loc rfl, .loc rfl, .loc rfl, .flat .int, trivial⟩
  exact .cons rfl ⟨_, rfl, .cons (.flat .int) (.cons (.osl rfl) (.cons (.osl rfl) (.cons (.osl rfl) .nil)))⟩ (.cons (o := .arr 8 (f.jobs.map ya)) rfl ⟨_, rfl, rfl, zaV zaW⟩ (.cons (o := .arr 1 (f.dead.map D.bool)) rfl ⟨_, rfl, rfl, zaV vE⟩ (.cons (o := .arr 1 (f.way.map zm)) rfl ⟨_, rfl, rfl, zaV wZ⟩
   (.cons rfl ⟨_, rfl, .cons (.flat .int) (.cons (.flat .int) .nil)⟩ (.cons rfl ⟨_, rfl, .cons (.flat .int) (.cons (.flat .nilsl) (.cons (.flat .nilsl) (.cons (.flat .nilsl) .nil)))⟩ .nil)))))
 ·have fin : ∀ (g : zn) (e : Int) (X : List Ob), R = (g, e) → zG ([] : List Ob).length (ju [.agg (fC g), .int .i64 e]) (.tup [xp R.1, .int .i64 R.2]) (fO g ++ X) [] := fun g e X h => by rw [h]; exact ztc g X e
  have hol : (qo f n).way.length = f.way.length - 1 ∨ ¬ (0 ≤ n ∧ n < f.way.length) := by
   by_cases h : 0 ≤ n ∧ n < f.way.length
   ·exact .inl (by show (f.way.eraseIdx n.toNat).length = _; rw [List.length_eraseIdx, if_pos (by omega)])
   ·exact .inr h
  have hout : FIn (qo f n) 2000000 := ⟨hin.jobs, hin.dead, Nat.le_trans (List.length_eraseIdx_le _ _) hw, fun j hj => by have := hin.nums j hj; omega⟩
  have hway : 0 ≤ n → n < f.way.length → f.way[((0 + n.toNat : Nat) : Int).toNat]? = some (x8 f n) := fun h0 h1 => by
   rw [Int.toNat_natCast, Nat.zero_add]
   unfold x8
   rw [List.getElem?_eq_getElem (by omega)]
   rfl
  refine zb _ ?_
  (all_goals refine qgp ?_ <;> (repeat' first | exact trivial | intro hc | refine And.intro ?_ ?_) <;> refine Lf.mk ?_)
  ·refine xg zod [_, _] f ⟨hin, by have := hown.dead.1; cases hfd : f.dead with | nil => exact absurd hfd this | cons => exact Nat.succ_le_succ (Nat.zero_le _)⟩ rfl (LeL.refl _) rfl (.cons (.loc (Nat.lt_of_lt_of_le (by decide : 0 < 4) (Nat.le_of_eq rfl))) .nil) .tup0 (wE _) (wE _) ?_
   (all_goals refine qgp ?_ <;> (repeat' first | exact trivial | intro hc | refine And.intro ?_ ?_) <;> refine Lf.mk ?_)
   exact fin (qm f) 0 [_, _] (hD.trans (by rw [if_pos hc]))
  all_goals first
   | (exact fin f 6 [_, _] (hD.trans (by rw [if_neg (by omega), if_pos (by omega), if_pos (by omega)])))
   | skip
  all_goals first
   | (exact fin f 6 [_, _] (hD.trans (by rw [if_neg (by omega), if_neg (by omega), if_pos (by omega), if_pos (by omega)])))
   | (exact fin f 1 [_, _] (hD.trans (by rw [if_neg (by omega), if_neg (by omega), if_neg (by omega)])))
   | skip
  all_goals try
   refine zk (x8 f n) (Int.natCast_nonneg _) (hway (by omega) (by omega)) ?_
   (all_goals refine qgp ?_ <;> (repeat' first | exact trivial | intro hc | refine And.intro ?_ ?_) <;> refine Lf.mk ?_)
  ·refine ye zkb [3] [3, 6] (f.way, n.toNat) (by show n.toNat < f.way.length; omega) rfl rfl ?_
   (all_goals refine qgp ?_ <;> (repeat' first | exact trivial | intro hc | refine And.intro ?_ ?_) <;> refine Lf.mk ?_)
   refine y7 wZ ?_
   refine And.intro (VS.mk (LeL.of_eq ?_)) (And.intro (VS.mk rfl) ?_)
   ·show [D.osl 1 0 f.way.length 0 f.way.length, .int .i64 n, .int .i64 (n + 1)] = [D.osl 1 0 f.way.length 0 f.way.length, .int .i64 (n.toNat : Nat), .int .i64 (n.toNat + 1 : Nat)]
    rw [show ((n.toNat : Nat) : Int) = n by omega, show ((n.toNat + 1 : Nat) : Int) = n + 1 by omega]
   (all_goals refine qgp ?_ <;> (repeat' first | exact trivial | intro hc | refine And.intro ?_ ?_) <;> refine Lf.mk ?_)
   refine y7 wZ ?_
   (all_goals refine qgp ?_ <;> (repeat' first | exact trivial | intro hc | refine And.intro ?_ ?_) <;> refine Lf.mk ?_)
   ·refine ye zog [0, 1, 2, 6] [0, 1, 2, 6] (qo f n, x8 f n) ⟨hout, hcome hc (by omega) (by omega)⟩ rfl rfl ?_
    (all_goals refine qgp ?_ <;> (repeat' first | exact trivial | intro hc | refine And.intro ?_ ?_) <;> refine Lf.mk ?_)
    refine y7 zaW ?_
    (all_goals refine qgp ?_ <;> (repeat' first | exact trivial | intro hc | refine And.intro ?_ ?_) <;> refine Lf.mk ?_)
    refine y7 vE ?_
    (all_goals refine qgp ?_ <;> (repeat' first | exact trivial | intro hc | refine And.intro ?_ ?_) <;> refine Lf.mk ?_)
    refine y7 wZ ?_
    refine And.intro (VS.mk (LeL.of_eq rfl)) (And.intro (VS.mk ?_) ?_)
    ·show _ = fO (qo f n)
     unfold fO fC
     rw [hol.resolve_right (fun h => h (by omega))]
     rfl
    (all_goals refine qgp ?_ <;> (repeat' first | exact trivial | intro hc | refine And.intro ?_ ?_) <;> refine Lf.mk ?_)
    refine y7 zaW ?_
    (all_goals refine qgp ?_ <;> (repeat' first | exact trivial | intro hc | refine And.intro ?_ ?_) <;> refine Lf.mk ?_)
    refine y7 vE ?_
    (all_goals refine qgp ?_ <;> (repeat' first | exact trivial | intro hc | refine And.intro ?_ ?_) <;> refine Lf.mk ?_)
    refine y7 wZ ?_
    (all_goals refine qgp ?_ <;> (repeat' first | exact trivial | intro hc | refine And.intro ?_ ?_) <;> refine Lf.mk ?_)
    have hR : R = (zbs (qo f n) (x8 f n), 0) := hD.trans (by rw [if_neg (by omega), if_pos (by omega), if_neg (by omega), if_neg (by omega), if_pos hc])
    rw [hR]
    exact zaY _ _ 6 0 rfl rfl rfl (by decide)
  ·refine ye zkb [3] [3, 6] (f.way, n.toNat) (by show n.toNat < f.way.length; omega) rfl rfl ?_
   (all_goals refine qgp ?_ <;> (repeat' first | exact trivial | intro hc | refine And.intro ?_ ?_) <;> refine Lf.mk ?_)
   refine y7 wZ ?_
   refine And.intro (VS.mk (LeL.of_eq ?_)) (And.intro (VS.mk rfl) ?_)
   ·show [D.osl 1 0 f.way.length 0 f.way.length, .int .i64 n, .int .i64 (n + 1)] = [D.osl 1 0 f.way.length 0 f.way.length, .int .i64 (n.toNat : Nat), .int .i64 (n.toNat + 1 : Nat)]
    rw [show ((n.toNat : Nat) : Int) = n by omega, show ((n.toNat + 1 : Nat) : Int) = n + 1 by omega]
   (all_goals refine qgp ?_ <;> (repeat' first | exact trivial | intro hc | refine And.intro ?_ ?_) <;> refine Lf.mk ?_)
   refine y7 wZ ?_
   (all_goals refine qgp ?_ <;> (repeat' first | exact trivial | intro hc | refine And.intro ?_ ?_) <;> refine Lf.mk ?_)
   have hR : R = (qo f n, 0) := hD.trans (by rw [if_neg (by omega), if_pos (by omega), if_neg (by omega), if_neg (by omega), if_neg (by omega)])
   rw [hR, ← hol.resolve_right (fun h => h (by omega))]
   exact zaY (qo f n) _ 6 0 rfl rfl rfl (by decide)
  ·refine zd qV ((x8 f n).map zA) ⟨by have := hown.msgs (x8 f n) (List.mem_of_getElem? (hway (by omega) (by omega))); simpa using this, zaX⟩ (VS.mk (LeL.of_eq rfl)) ?_
   (all_goals refine qgp ?_ <;> (repeat' first | exact trivial | intro hc | refine And.intro ?_ ?_) <;> refine Lf.mk ?_)
   have hR : R = ({ f with way := f.way ++ [x8 f n] }, 0) := hD.trans (by rw [if_neg (by omega), if_pos (by omega), if_neg (by omega), if_pos (by omega), if_pos (by omega)])
   rw [hR]
   have e1 : (f.way.map zm ++ [zm (x8 f n)]).length = (f.way ++ [x8 f n]).length := by rw [List.length_append, List.length_map, List.length_append]; rfl
   have e2 : f.way.map zm ++ [zm (x8 f n)] = (f.way ++ [x8 f n]).map zm := by rw [List.map_append]; rfl
   have e3 := zaY { f with way := f.way ++ [x8 f n] } [.cells [.int .i64 f.base, .osl 8 1 f.jobs.length 0 f.jobs.length, .osl 1 2 f.dead.length 0 f.dead.length, .osl 1 3 (f.way.map zm ++ [zm (x8 f n)]).length 0 (f.way.map zm ++ [zm (x8 f n)]).length], .arr 8 (f.jobs.map ya), .arr 1 (f.dead.map D.bool), .arr 1 (f.way.map zm ++ [zm (x8 f n)]), .cells [.int .i64 kind, .int .i64 n],
     .cells [.int .i64 f.base, .osl 8 1 f.jobs.length 0 f.jobs.length, .osl 1 2 f.dead.length 0 f.dead.length, .osl 1 3 (f.way.map zm ++ [zm (x8 f n)]).length 0 (f.way.map zm ++ [zm (x8 f n)]).length]] 3 0 rfl rfl (by rw [e2]; rfl) (Nat.le_refl _)
   dsimp only at e3
   rw [← e1] at e3
   exact e3
  ·exact fin f 0 [_, _] (hD.trans (by rw [if_neg (by omega), if_pos (by omega), if_neg (by omega), if_pos (by omega), if_neg (by omega)]))
  ·have hlt : n.toNat < f.dead.length := by omega
   have hda : f.dead[n.toNat]? = some (wr f n) := by unfold wr; rw [List.getElem?_eq_getElem hlt]; rfl
   refine zk (enc := D.bool) (wr f n) (Int.natCast_nonneg _) (by rw [Int.toNat_natCast, Nat.zero_add]; exact hda) ?_
   (all_goals refine qgp ?_ <;> (repeat' first | exact trivial | intro hc | refine And.intro ?_ ?_) <;> refine Lf.mk ?_)
   refine zk (enc := D.bool) (wr f n) (Int.natCast_nonneg _) (by rw [Int.toNat_natCast, Nat.zero_add]; exact hda) ?_
   (all_goals refine qgk ?_ <;> (repeat' first | exact trivial | intro hc | refine And.intro ?_ ?_) <;> refine Lf.mk ?_)
   refine yV ((f.dead.set n.toNat (!wr f n)).map D.bool) (by rw [Nat.zero_add, List.map_set]) ?_
   (all_goals refine qgp ?_ <;> (repeat' first | exact trivial | intro hc | refine And.intro ?_ ?_) <;> refine Lf.mk ?_)
   have hR : R = (zju f n, 0) := hD.trans (by rw [if_neg (by omega), if_neg (by omega), if_pos (by omega), if_neg (by omega)])
   have e1 : f.dead.length = (zju f n).dead.length := (List.length_set).symm
   rw [hR, e1]
   exact zaY (zju f n) _ 3 0 rfl rfl rfl (Nat.le_refl _)
def zce (s : List UInt8) : yP := ⟨s, -1, 0, 0, false, [], 0, 0⟩
def noF : zn := ⟨0, [], [], []⟩
def jI (l : List (List UInt8)) (base w : Int) : zn := ⟨base, l.map zce, List.replicate w.toNat false, []⟩
def zhi (l : List (List UInt8)) : Bool := l.any fun s => decide (1200 < s.length)
def jJ (l : List (List UInt8)) (base w : Int) : Int :=
 if (l.length : Int) < 1 ∨ 4 < (l.length : Int) ∨ w < 1 ∨ 3 < w then 5 else if base < 0 ∨ 1048576 < base ∨ base % 4 ≠ 0 then 3 else if zhi l = true then 4 else 0
def zcf (l : List (List UInt8)) (base w : Int) : zn × Int := (if jJ l base w = 0 then jI l base w else noF, jJ l base w)
theorem ztd {l : List (List UInt8)} (h : ∀ s ∈ l, s.length ≤ 1200) : zhi l = false := by
 unfold zhi
 rw [List.any_eq_false]
 intro s hs
 have := h s hs
 rw [decide_eq_true_eq]
 omega
theorem zvp {l : List (List UInt8)} {k : Nat} {s : List UInt8} (h : l[k]? = some s) (hs : 1200 < s.length) : zhi l = true := by
 unfold zhi
 rw [List.any_eq_true]
 exact ⟨s, List.mem_of_getElem? h, decide_eq_true hs⟩
theorem LeD.els {e : Nat} {ds ds' : List D} (hl : ds.length = ds'.length) (h : ∀ (i : Nat) d d', ds[i]? = some d → ds'[i]? = some d' → LeL d.cells d'.cells) : LeD (.sl e ds none) (.sl e ds' none) := fun w F ρ L v hr => by
 have h0 := hr.sl_inv
 refine .pure _ _ ?_
 have at_ : ∀ (i : Nat) d', ds'[i]? = some d' → ∃ d, ds[i]? = some d ∧ LeL d.cells d'.cells := fun i d' hd => by
  have hlt := (List.getElem?_eq_some_iff.1 hd).1
  exact ⟨_, List.getElem?_eq_getElem (by omega), h i _ d' (List.getElem?_eq_getElem (by omega)) hd⟩
 have key : ∀ (i : Nat) d' (j : Nat) c', ds'[i]? = some d' → d'.cells[j]? = some c' → ∃ d c, ds[i]? = some d ∧ d.cells[j]? = some c ∧ LeD c c' := fun i d' j c' h1 h2 => by
  obtain ⟨d, h3, h4⟩ := at_ i d' h1
  have hlt := (List.getElem?_eq_some_iff.1 h2).1
  have hjl : j < d.cells.length := by rw [h4.1]; exact hlt
  have hc : d.cells[j]? = some d.cells[j] := List.getElem?_eq_getElem hjl
  exact ⟨d, _, h3, hc, h4.2 j _ c' hc h2⟩
 cases h0 with
 | slnil e a =>
  have : ds' = [] := List.eq_nil_of_length_eq_zero hl.symm
  subst this
  exact .slnil _ _
 | sl e ds b off cap val hcap hlen hcell hone hrep =>
  rw [hl] at hcap ⊢
  refine .sl e ds' b off cap val hcap (fun i d' h1 => ?_) (fun i d' j c' h1 h2 => ?_) (fun i d' j c' h1 h2 => ?_) fun i d' j c' h1 h2 => ?_
  ·obtain ⟨d, h3, h4⟩ := at_ i d' h1
   rw [← h4.1]
   exact hlen i d h3
  ·obtain ⟨d, c, h3, h4, _⟩ := key i d' j c' h1 h2
   exact hcell i d j c h3 h4
  ·obtain ⟨d, c, h3, h4, _⟩ := key i d' j c' h1 h2
   exact hone i d j c h3 h4
  ·obtain ⟨d, c, h3, h4, h5⟩ := key i d' j c' h1 h2
   exact zfG (h5 w F ρ [] _ (.pure _ _ (hrep i d j c h3 h4)))
def zvq (s : List UInt8) : D := .agg [zm s, .int .i64 (-1), .int .i64 0, .int .i64 0, .ff, .nilsl, .int .i64 0, .int .i64 0]
theorem zut (l : List (List UInt8)) : LeD (.sl 8 (l.map zvq) none) (.sl 8 ((l.map zce).map ya) none) := by
 refine LeD.els (by rw [List.length_map, List.length_map, List.length_map]) fun i d d' h1 h2 => ?_
 rw [List.map_map, List.getElem?_map] at h2
 rw [List.getElem?_map] at h1
 cases hl : l[i]? with
 | none => rw [hl] at h1; cases h1
 | some s =>
  rw [hl] at h1 h2
  cases h1; cases h2
  exact .cons (.refl _) (.cons (.refl _) (.cons (.refl _) (.cons (.refl _) (.cons (LeD.ff rfl) (.cons (.nil 1) (.cons (.refl _) (.cons (.refl _) .nil)))))))
theorem zuu (n : Nat) : LeD (.sl 1 (List.replicate n .ff) none) (.sl 1 ((List.replicate n false).map D.bool) none) := by
 refine LeD.els (by simp) fun i d d' h1 h2 => ?_
 have e1 := List.eq_of_mem_replicate (List.mem_of_getElem? h1)
 rw [List.map_replicate] at h2
 have e2 := List.eq_of_mem_replicate (List.mem_of_getElem? h2)
 subst e1; subst e2
 exact .cons (LeD.ff rfl) .nil
theorem zvr : LeD (.agg [.int .i64 0, .nilsl, .nilsl, .nilsl]) (xp noF) := LeD.agg (.cons (.refl _) (.cons (.nil 8) (.cons (.nil 1) (.cons (.nil 1) .nil))))
theorem ziD : za Tryz.prog zpz (zz (fun ((l, base, w) : List (List UInt8) × Int × Int) => (l.length ≤ 1000000000 ∧ ∀ s ∈ l, s.length ≤ 1000000000) ∧ (-9223372036854775808 ≤ base ∧ base ≤ 9223372036854775807) ∧ -9223372036854775808 ≤ w ∧ w ≤ 9223372036854775807)
  (fun (l, base, w) => [.sl 1 (l.map zm) none, .int .i64 base, .int .i64 w]) fun (l, base, w) => .tup [xp (zcf l base w).1, .int .i64 (zcf l base w).2]) := by
 refine ze zi Tryz.func7 rfl (by decide) ?_
 rintro ⟨l, base, w⟩ ⟨⟨hl, hs⟩, ⟨hb0, hb1⟩, hw0, hw1⟩
 have hl : l.length ≤ 1000000000 := hl
 have hs : ∀ s ∈ l, s.length ≤ 1000000000 := hs
 have hb0 : -9223372036854775808 ≤ base := hb0
 have hb1 : base ≤ 9223372036854775807 := hb1
 have hw0 : -9223372036854775808 ≤ w := hw0
 have hw1 : w ≤ 9223372036854775807 := hw1
 refine ⟨Nat.le_refl _, by simp [Tryz.f7], fun E hE => ?_⟩
 have hE0 : E.L.length = 0 := by rw [hE]; rfl
 have hR : zcf l base w = (if jJ l base w = 0 then jI l base w else noF, jJ l base w) := rfl
 have hN : jJ l base w = if (l.length : Int) < 1 ∨ 4 < (l.length : Int) ∨ w < 1 ∨ 3 < w then 5 else if base < 0 ∨ 1048576 < base ∨ base % 4 ≠ 0 then 3 else if zhi l = true then 4 else 0 := rfl
 dsimp only
 generalize zcf l base w = R at *
 generalize jJ l base w = e at *
 have no : ∀ n : Int, n ≠ 0 → e = n → LeL [.agg [.int .i64 0, .nilsl, .nilsl, .nilsl], .int .i64 n] [xp R.1, .int .i64 R.2] := fun n hn he => by
  rw [hR, he, if_neg hn]
  exact .cons zvr (LeL.refl _)
 refine zb _ ?_
 (all_goals refine qgp ?_ <;> (repeat' first | exact trivial | intro hc | refine And.intro ?_ ?_) <;> refine Lf.mk ?_)
 all_goals first
  | exact zf (VS.mk (LeD.tup (no 5 (by decide) (hN.trans (by rw [if_pos (by omega)])))))
  | exact zf (VS.mk (LeD.tup (no 3 (by decide) (hN.trans (by rw [if_neg (by omega), if_pos (by omega)])))))
  | skip
 refine z7 (α := Nat) (fun k => k ≤ l.length ∧ ∀ s ∈ l.take k, s.length ≤ 1200) (fun k => [(6, .loc 0 0), (7, .int .i64 0), (8, .loc 1 0), (44, .sl 1 (l.map zm) none), (45, .int .i64 l.length), (46, .int .i64 k)])
  (fun k => [.cells [.int .i64 0, .nilsl, .nilsl, .nilsl], .cells [.int .i64 base, .sl 8 ((l.take k).map zvq) (some 2), .sl 1 (List.replicate w.toNat .ff) none, .nilsl], .spare (l.take k).length]) (fun k => l.length - k) (fun _ => by rw [hE0]; exact Nat.zero_le _) 0 ⟨Nat.zero_le _, by simp⟩ ?_ ?_
 ·exact xt (qt 1 8 [.int .i64 base, .sl 8 [] (some 2), .sl 1 (List.replicate w.toNat .ff) none, .nilsl] rfl ⟨.same, .here, .same, .same, trivial⟩) (zX rfl ⟨rfl, rfl, rfl, rfl, rfl, rfl, trivial⟩)
 rintro k ⟨hk, hsk⟩
 have hk : k ≤ l.length := hk
 refine zb _ ?_
 (all_goals refine qgp ?_ <;> (repeat' first | exact trivial | intro hc | refine And.intro ?_ ?_) <;> refine Lf.mk ?_)
 ·obtain ⟨s, hx⟩ := yi (l := l) (k := k) (by omega)
  have hxs := hs s (List.mem_of_getElem? hx)
  refine zk s (Int.natCast_nonneg _) (by rw [Int.toNat_natCast]; exact hx) ?_
  (all_goals refine qgp ?_ <;> (repeat' first | exact trivial | intro hc | refine And.intro ?_ ?_) <;> refine Lf.mk ?_)
  ·have h4 : e = 4 := hN.trans (by rw [if_neg (by omega), if_neg (by omega), zvp hx (by omega)]; rfl)
   exact zf (VS.mk (LeD.tup (no 4 (by decide) h4)))
  ·refine zd qV (s.map zA) ⟨by rw [List.length_map]; omega, zaX⟩ (VS.mk (LeL.of_eq rfl)) ?_
   (all_goals refine qgp ?_ <;> (repeat' first | exact trivial | intro hc | refine And.intro ?_ ?_) <;> refine Lf.mk ?_)
   have htk : l.take (k + 1) = l.take k ++ [s] := by rw [List.take_add_one, hx]; rfl
   refine zR (k + 1) ⟨by omega, fun x hxk => ?_⟩ (by omega) ?_ ⟨rfl, rfl, rfl, rfl, rfl, rfl, trivial⟩
   ·rw [htk] at hxk
    rcases List.mem_append.1 hxk with h | h
    ·exact hsk x h
    ·rw [List.mem_singleton.1 h]; omega
   ·rw [htk]
    simp only [List.map_append, List.length_append, List.length_map]
    rfl
 ·have hk2 : k = l.length := by omega
  rw [hk2, List.take_length] at hsk ⊢
  have h0 : e = 0 := hN.trans (by rw [if_neg (by omega), if_neg (by omega), ztd hsk]; rfl)
  rw [hR, h0, if_pos rfl]
  exact zf (VS.mk (LeD.tup (.cons (LeD.agg (.cons (.refl _) (.cons ((LeD.strip _ _ _).trans (zut l)) (.cons (zuu _) (.cons (.nil 1) .nil))))) (LeL.refl _))))
attribute [local irreducible] doF jI
def goS : Stp := ⟨2, 0⟩
def zas : Stp := ⟨1, 0⟩
inductive zcL : Nat → zn → zn → Prop
 | done {f : zn} (h : f.way = []) : zcL 0 f f
 | step {n : Nat} {f g : zn} (h : f.way ≠ []) (ok : zfv f goS) (r : zcL n (doF f goS).1 g) : zcL (n + 1) f g
def zf8 (f g : zn) : Prop := zfv f zas ∧ ∃ n, zcL n (doF f zas).1 g
def jK (f : zn) : Bool := f.jobs.all fun j => j.done
inductive km : Nat → zn → zn → Nat → Prop
 | stop {n : Nat} {f : zn} (hj : f.jobs.length ≤ 1000) (h : 60 ≤ n ∨ jK f = true) : km n f f n
 | step {n m : Nat} {f g h : zn} (hn : n < 60) (hd : jK f = false) (hr : zf8 f g) (hs : km (n + 1) g h m) : km n f h m
inductive qp : List Stp → zn → zn → List Int → Prop
 | nil {f : zn} : qp [] f f []
 | cons {s : Stp} {l : List Stp} {f g : zn} {es : List Int} (ok : zfv f s) (r : qp l (doF f s).1 g es) : qp (s :: l) f g ((doF f s).2 :: es)
theorem zat : za Tryz.prog znC (zz (fun f : zn => f.jobs.length ≤ 1000) (fun f => [xp f]) fun f => .bool (jK f)) := by
 refine ze zi Tryz.func18 rfl (by decide) ?_
 rintro f hf
 refine ⟨Nat.le_refl _, by simp [Tryz.f18], fun E hE => ?_⟩
 have hE0 : E.L.length = 0 := by rw [hE]; rfl
 refine zb _ ?_
 (all_goals refine qgp ?_ <;> (repeat' first | exact trivial | intro hc | refine And.intro ?_ ?_) <;> refine Lf.mk ?_)
 refine z7 (α := Nat) (fun k => k ≤ f.jobs.length ∧ jK f = (f.jobs.drop k).all fun j => j.done) (fun k => [(6, .sl 8 (f.jobs.map ya) none), (7, .int .i64 f.jobs.length), (8, .int .i64 k)]) (fun _ => []) (fun k => f.jobs.length - k) (fun _ => by rw [hE0]; exact Nat.zero_le _) 0 ⟨Nat.zero_le _, rfl⟩ ?_ ?_
 ·exact zg2 [] [_] rfl (by rw [hE0]; exact Nat.zero_le _) (fun o ho => by cases ho) ⟨rfl, rfl, rfl, trivial⟩ (.cons .sl (.cons .int (.cons .int .nil)))
 rintro k ⟨hk, hd⟩
 have hk : k ≤ f.jobs.length := hk
 refine zb _ ?_
 (all_goals refine qgp ?_ <;> (repeat' first | exact trivial | intro hc | refine And.intro ?_ ?_) <;> refine Lf.mk ?_)
 ·have hkl : k < f.jobs.length := by omega
  obtain ⟨j, hx⟩ := yi (l := f.jobs) (k := k) hkl
  have hg : f.jobs[k] = j := by rw [List.getElem?_eq_getElem hkl] at hx; exact Option.some.inj hx
  rw [List.drop_eq_getElem_cons hkl, hg, List.all_cons] at hd
  refine zk j (Int.natCast_nonneg _) (by rw [Int.toNat_natCast]; exact hx) ?_
  (all_goals refine qgp ?_ <;> (repeat' first | exact trivial | intro hc | refine And.intro ?_ ?_) <;> refine Lf.mk ?_)
  ·rw [hc, Bool.false_and] at hd
   exact zf (VS.mk (LeD.ff hd))
  ·rw [hc, Bool.true_and] at hd
   exact wG (k + 1) [_] ⟨by omega, hd⟩ (by omega) rfl (by rw [hE0]; exact Nat.zero_le _) (fun o ho => by cases ho) ⟨rfl, rfl, rfl, trivial⟩ (.cons .sl (.cons .int (.cons .int .nil)))
 ·rw [List.drop_of_length_le (by omega)] at hd
  exact zf (VS.mk (LeD.tt hd))
theorem zfw : za Tryz.prog zlN (zz (fun ((f, g) : zn × zn) => zf8 f g) (fun (f, _) => [xp f]) fun (_, g) => xp g) := by
 refine ze zi Tryz.func17 rfl (by decide) ?_
 rintro ⟨f, g⟩ ⟨hok, N, hN⟩
 refine ⟨Nat.le_refl _, by simp [Tryz.f17], fun E hE => ?_⟩
 have hE0 : E.L.length = 0 := by rw [hE]; rfl
 refine zb _ ?_
 (all_goals refine qgp ?_ <;> (repeat' first | exact trivial | intro hc | refine And.intro ?_ ?_) <;> refine Lf.mk ?_)
 refine zd zcK (f, zas) hok (VS.mk (LeL.of_eq rfl)) ?_
 dsimp only at hN ⊢
 generalize doF f zas = T at *
 obtain ⟨c, e⟩ := T
 dsimp only at hN ⊢
 (all_goals refine qgp ?_ <;> (repeat' first | exact trivial | intro hc | refine And.intro ?_ ?_) <;> refine Lf.mk ?_)
 refine z7 (α := Nat × zn) (fun (n, c) => zcL n c g) (fun _ => [(2, .loc 0 0), (3, .loc 1 0)]) (fun (_, c) => [.cells [.int .i64 0, .nilsl, .nilsl, .nilsl], .cells (xp c).cells]) (fun (n, _) => n) (fun _ => by rw [hE0]; exact Nat.zero_le _) (N, c) hN ?_ ?_
 ·refine wq [1, 2] rfl (by rw [hE0]; rfl) ?_ ⟨.loc rfl, .loc rfl, trivial⟩
  exact .cons rfl ⟨_, rfl, .cons (.flat .int) (.cons (.flat .nilsl) (.cons (.flat .nilsl) (.cons (.flat .nilsl) .nil)))⟩ (.cons rfl ⟨_, rfl, .cons (.flat .int) (.cons (.flat .sl) (.cons (.flat .sl) (.cons (.flat .sl) .nil)))⟩ .nil)
 rintro ⟨n, c⟩ hd
 have hd : zcL n c g := hd
 dsimp only
 refine zb _ ?_
 cases hd with
 | done hw =>
  unfold xp D.cells
  dsimp only
  rw [hw]
  (all_goals refine qgp ?_ <;> (repeat' first | exact trivial | intro hc | refine And.intro ?_ ?_) <;> refine Lf.mk ?_)
  exact zf (VS.mk (LeD.refl _))
 | step hw ok r =>
  have hwl : 0 < c.way.length := List.length_pos_iff.2 hw
  have hw12 := ok.nums.way
  unfold xp D.cells
  dsimp only
  (all_goals refine qgp ?_ <;> (repeat' first | exact trivial | intro hc | refine And.intro ?_ ?_) <;> refine Lf.mk ?_)
  ·refine zd zcK (c, goS) ok (VS.mk (LeL.of_eq rfl)) ?_
   dsimp only
   generalize doF c goS = T at *
   obtain ⟨c1, e1⟩ := T
   dsimp only at r ⊢
   (all_goals refine qgp ?_ <;> (repeat' first | exact trivial | intro hc | refine And.intro ?_ ?_) <;> refine Lf.mk ?_)
   exact zR (_, c1) r (Nat.lt_succ_self _) rfl ⟨rfl, rfl, trivial⟩
theorem zen : za Tryz.prog zkz (zz (fun ((f, g, m) : zn × zn × Nat) => ziA f ∧ km 0 f g m) (fun (f, _, _) => [xp f]) fun (_, g, m) => .tup [xp g, .int .i64 m]) := by
 refine ze zi Tryz.func9 rfl (by decide) ?_
 rintro ⟨f, g, m⟩ ⟨hown, hs⟩
 have hs : km 0 f g m := hs
 refine ⟨Nat.le_refl _, by simp [Tryz.f9], fun E hE => ?_⟩
 have hE0 : E.L.length = 0 := by rw [hE]; rfl
 refine zb _ ?_
 (all_goals refine qgp ?_ <;> (repeat' first | exact trivial | intro hc | refine And.intro ?_ ?_) <;> refine Lf.mk ?_)
 refine zd zoh f hown (VS.mk (LeL.of_eq rfl)) ?_
 (all_goals refine qgp ?_ <;> (repeat' first | exact trivial | intro hc | refine And.intro ?_ ?_) <;> refine Lf.mk ?_)
 refine z7 (α := Nat × zn) (fun (n, c) => n ≤ 60 ∧ km n c g m) (fun (n, _) => [(2, .loc 0 0), (4, .loc 1 0), (5, .int .i64 n)]) (fun (_, c) => [.cells [.int .i64 0, .nilsl, .nilsl, .nilsl], .cells (xp c).cells]) (fun (n, _) => 60 - n) (fun _ => by rw [hE0]; exact Nat.zero_le _) (0, f) ⟨Nat.zero_le _, hs⟩ ?_ ?_
 ·refine wq [1, 2] rfl (by rw [hE0]; rfl) ?_ ⟨.loc rfl, .loc rfl, .flat .int, trivial⟩
  exact .cons rfl ⟨_, rfl, .cons (.flat .int) (.cons (.flat .nilsl) (.cons (.flat .nilsl) (.cons (.flat .nilsl) .nil)))⟩ (.cons rfl ⟨_, rfl, .cons (.flat .int) (.cons (.flat .sl) (.cons (.flat .sl) (.cons (.flat .sl) .nil)))⟩ .nil)
 rintro ⟨n, c⟩ ⟨hn60, hd⟩
 have hn60 : n ≤ 60 := hn60
 have hd : km n c g m := hd
 dsimp only
 refine zb _ ?_
 cases hd with
 | stop hj h =>
  unfold xp D.cells
  dsimp only
  (all_goals refine qgp ?_ <;> (repeat' first | exact trivial | intro hc | refine And.intro ?_ ?_) <;> refine Lf.mk ?_)
  ·have hdt : jK g = true := h.resolve_left (by omega)
   refine zd zat g hj (VS.mk (LeL.of_eq rfl)) ?_
   rw [hdt]
   (all_goals refine qgp ?_ <;> (repeat' first | exact trivial | intro hc | refine And.intro ?_ ?_) <;> refine Lf.mk ?_)
   (any_goals (first | (exfalso; refine Bool.false_ne_true ?_; assumption) | (exfalso; refine Bool.false_ne_true (Eq.symm ?_); assumption) | (exfalso; refine absurd trivial ?_; assumption) | skip))
   all_goals exact zf (VS.mk (LeD.refl _))
  ·exact zf (VS.mk (LeD.refl _))
 | step hn hdn hr hst =>
  unfold xp D.cells
  dsimp only
  (all_goals refine qgp ?_ <;> (repeat' first | exact trivial | intro hc | refine And.intro ?_ ?_) <;> refine Lf.mk ?_)
  ·refine zd zat c (by have := hr.1.nums.jobs; omega) (VS.mk (LeL.of_eq rfl)) ?_
   rw [hdn]
   (all_goals refine qgp ?_ <;> (repeat' first | exact trivial | intro hc | refine And.intro ?_ ?_) <;> refine Lf.mk ?_)
   (any_goals (first | (exfalso; refine Bool.false_ne_true ?_; assumption) | (exfalso; refine Bool.false_ne_true (Eq.symm ?_); assumption) | (exfalso; refine absurd trivial ?_; assumption) | skip))
   refine zd zfw (c, _) hr (VS.mk (LeL.of_eq rfl)) ?_
   (all_goals refine qgp ?_ <;> (repeat' first | exact trivial | intro hc | refine And.intro ?_ ?_) <;> refine Lf.mk ?_)
   exact zR (n + 1, _) ⟨by show n + 1 ≤ 60; omega, hst⟩ (by dsimp only; omega) rfl ⟨rfl, rfl, rfl, trivial⟩
theorem qp.len {l : List Stp} {f g : zn} {es : List Int} (h : qp l f g es) : es.length = l.length := by
 induction h with
 | nil => rfl
 | cons _ _ ih => rw [List.length_cons, List.length_cons, ih]
theorem qp.at {st : List Stp} {es : List Int} {c g : zn} {k : Nat} {s : Stp} (h : qp (st.drop k) c g (es.drop k)) (hs : st[k]? = some s) (hl : es.length = st.length) : zfv c s ∧ es[k]? = some (doF c s).2 ∧ qp (st.drop (k + 1)) (doF c s).1 g (es.drop (k + 1)) := by
 have hk := (List.getElem?_eq_some_iff.1 hs).1
 have hg : st[k] = s := by rw [List.getElem?_eq_getElem hk] at hs; exact Option.some.inj hs
 have hke : k < es.length := by omega
 rw [List.drop_eq_getElem_cons hk, hg, List.drop_eq_getElem_cons hke] at h
 generalize hq : es[k] :: es.drop (k + 1) = q at h
 cases h with
 | cons ok r =>
  injection hq with h1 h2
  subst h2
  exact ⟨ok, by rw [List.getElem?_eq_getElem hke, h1], r⟩
theorem zoi : za Tryz.prog znB (zz (fun ((l, base, w, st, g, es) : List (List UInt8) × Int × Int × List Stp × zn × List Int) => jJ l base w = 0 ∧ l.length ≤ 4 ∧ (-9223372036854775808 ≤ base ∧ base ≤ 9223372036854775807) ∧ (-9223372036854775808 ≤ w ∧ w ≤ 9223372036854775807) ∧ (∀ s ∈ l, s.length ≤ 1000000000) ∧ st.length ≤ 80 ∧ qp st (jI l base w) g es)
  (fun (l, base, w, st, _, _) => [.sl 1 (l.map zm) none, .int .i64 base, .int .i64 w, .sl 2 (st.map zqp) none]) fun (_, _, _, _, g, es) => .tup [xp g, .sl 1 (es.map (.int .i64)) none, .int .i64 0]) := by
 refine ze zi Tryz.func13 rfl (by decide) ?_
 rintro ⟨l, base, w, st, g, es⟩ ⟨hN, hl4, hb, hw, hsl, hst, hp⟩
 have hl4 : l.length ≤ 4 := hl4
 have hst : st.length ≤ 80 := hst
 have hp : qp st (jI l base w) g es := hp
 refine ⟨Nat.le_refl _, by simp [Tryz.f13], fun E hE => ?_⟩
 have hE0 : E.L.length = 0 := by rw [hE]; rfl
 have hR : zcf l base w = (jI l base w, 0) := by
  have hN : jJ l base w = 0 := hN
  unfold zcf
  rw [hN, if_pos rfl]
 refine zb _ ?_
 (all_goals refine qgp ?_ <;> (repeat' first | exact trivial | intro hc | refine And.intro ?_ ?_) <;> refine Lf.mk ?_)
 refine zd ziD (l, base, w) ⟨⟨by show l.length ≤ _; omega, hsl⟩, hb, hw⟩ (VS.mk (LeL.of_eq rfl)) ?_
 dsimp only
 rw [hR]
 dsimp only
 generalize jI l base w = f0 at *
 (all_goals refine qgp ?_ <;> (repeat' first | exact trivial | intro hc | refine And.intro ?_ ?_) <;> refine Lf.mk ?_)
 ·exact absurd trivial hc
 have hel := hp.len
 refine kX (j6 13 1 rfl) ?_
 refine z7 (α := Nat × zn) (fun (k, c) => k ≤ st.length ∧ qp (st.drop k) c g (es.drop k)) (fun (k, _) => [(8, .loc 0 0), (11, .loc 1 0), (13, .sl 1 ((es.take k).map (.int .i64)) (some 2)), (33, .sl 2 (st.map zqp) none), (34, .int .i64 st.length), (35, .int .i64 k)])
  (fun (k, c) => [.cells [.int .i64 0, .nilsl, .nilsl, .nilsl], .cells (xp c).cells, .spare (es.take k).length]) (fun (k, _) => st.length - k) (fun _ => by rw [hE0]; exact Nat.zero_le _) (0, f0) ⟨Nat.zero_le _, hp⟩ ?_ ?_
 ·exact zX rfl ⟨rfl, rfl, rfl, rfl, rfl, rfl, trivial⟩
 rintro ⟨k, c⟩ ⟨hk, hc0⟩
 have hk : k ≤ st.length := hk
 have hc0 : qp (st.drop k) c g (es.drop k) := hc0
 unfold xp D.cells
 dsimp only
 refine zb _ ?_
 (all_goals refine qgp ?_ <;> (repeat' first | exact trivial | intro hc | refine And.intro ?_ ?_) <;> refine Lf.mk ?_)
 ·obtain ⟨s, hx⟩ := yi (l := st) (k := k) (by omega)
  obtain ⟨ok, he, hr⟩ := hc0.at hx hel
  refine zk s (Int.natCast_nonneg _) (by rw [Int.toNat_natCast]; exact hx) ?_
  (all_goals refine qgp ?_ <;> (repeat' first | exact trivial | intro hc | refine And.intro ?_ ?_) <;> refine Lf.mk ?_)
  refine zd zcK (c, s) ok (VS.mk (LeL.of_eq rfl)) ?_
  dsimp only
  generalize doF c s = T at *
  obtain ⟨c1, e1⟩ := T
  dsimp only at hr he ⊢
  (all_goals refine qgp ?_ <;> (repeat' first | exact trivial | intro hc | refine And.intro ?_ ?_) <;> refine Lf.mk ?_)
  have htk : es.take (k + 1) = es.take k ++ [e1] := by rw [List.take_add_one, he]; rfl
  have hd : D.sl 1 ((es.take k).map (D.int .i64) ++ [D.int .i64 e1]) (some 2) = D.sl 1 ((es.take (k + 1)).map (D.int .i64)) (some 2) := by rw [htk, List.map_append]; rfl
  refine wG (k + 1, c1) [.cells (zqp s).cells, .cells (xp c1).cells] ⟨by show k + 1 ≤ _; omega, hr⟩ (by dsimp only; omega) ?_ (by rw [hE0]; exact Nat.zero_le _) ?_ ⟨rfl, rfl, hd, rfl, rfl, rfl, trivial⟩ (.cons (.loc (by show 0 < 3; decide)) (.cons (.loc (by show 1 < 3; decide)) (.cons (.tok (by show 2 < 3; decide)) (.cons .sl (.cons .int (.cons .int .nil))))))
  ·dsimp only
   rw [htk]
   simp only [List.length_append, List.length_map]
   rfl
  ·intro o ho
   simp only [List.mem_cons, List.not_mem_nil, or_false] at ho
   rcases ho with rfl | rfl | rfl
   ·exact .cells (.cons .int (.cons .nilsl (.cons .nilsl (.cons .nilsl .nil))))
   ·exact .cells (.cons .int (.cons .sl (.cons .sl (.cons .sl .nil))))
   ·exact .spare
 ·have hkn : k = st.length := by omega
  rw [hkn, List.drop_length, ← hel, List.drop_length] at hc0
  cases hc0
  rw [hkn, ← hel, List.take_length]
  exact zf (VS.mk (LeD.tup (.cons (.refl _) (.cons (.strip _ _ _) (LeL.refl _)))))
end Go.Proofs.YtnkdeacghopkiaaGreatDoor
namespace Go.Proofs.YtnkdeacghopkiaaGreatDoor
open Go Go.Plat
set_option linter.unusedVariables false
set_option linter.unusedSimpArgs false
set_option maxRecDepth 100000
set_option maxHeartbeats 2000000
attribute [local irreducible] AWP zN yv zU zo yC yh zG yb yf zx za zY yz zr yg yx yy yn yo zw zy zT
theorem zo3 (m : Msg) : kb m = [zt m.kind, zt m.worker, zt m.unit, zt (m.turn / 256), zt m.turn, zt m.err, zt (m.at_ / 256), zt m.at_,
  zt ((m.data.length : Int) / 256 / 256 / 256), zt ((m.data.length : Int) / 256 / 256), zt ((m.data.length : Int) / 256), zt (m.data.length : Int)] := by
 simp [kb, zfT, zic, zib, x1, yX]
theorem kn (b : List UInt8) (k : Nat) (h : k < b.length) : vw b (k : Int) = ((b.getD k 0).toNat : Int) := by
 unfold vw
 rw [if_pos ⟨by omega, by omega⟩]
 simp
theorem zm7 (b : List UInt8) (i : Nat) (h : i + 1 < b.length) : xG b (i : Int) 2 = ((b.getD i 0).toNat : Int) * 256 + ((b.getD (i + 1) 0).toNat : Int) := by
 simp only [xG]
 have h1 := kn b i (by omega)
 have h2 := kn b (i + 1) h
 simp only [Int.natCast_zero, Int.add_zero, Int.natCast_add, Int.natCast_one] at h1 h2 ⊢
 rw [h1, h2]
 omega
theorem zvs (b : List UInt8) (i : Nat) (h : i + 3 < b.length) : xG b (i : Int) 4 = ((((b.getD i 0).toNat : Int) * 256 + ((b.getD (i + 1) 0).toNat : Int)) * 256 + ((b.getD (i + 2) 0).toNat : Int)) * 256 + ((b.getD (i + 3) 0).toNat : Int) := by
 simp only [xG]
 have h0 := kn b i (by omega)
 have h1 := kn b (i + 1) (by omega)
 have h2 := kn b (i + 2) (by omega)
 have h3 := kn b (i + 3) (by omega)
 simp only [Int.natCast_zero, Int.add_zero, Int.natCast_add, Int.natCast_one, Int.zero_mul, Int.zero_add] at h0 h1 h2 h3 ⊢
 have h2' : vw b ((i : Int) + 2) = _ := h2
 have h3' : vw b ((i : Int) + 3) = _ := h3
 have e2 : (((2 : Nat) : Int)) = 2 := rfl
 have e3 : (((3 : Nat) : Int)) = 3 := rfl
 simp only [e2, e3]
 rw [h0, h1, h2', h3']
theorem zhj (m : Msg) : (xd m).length = 12 + m.data.length := by rw [xd, List.length_append, qy]
theorem jm (m : Msg) : (yc m).length = 14 + m.data.length := by rw [yc, List.length_append, zhj]; simp; omega
theorem ziE (m : Msg) : (yc m).take ((yc m).length - 2) = xd m := by
 rw [jm, yc, show 14 + m.data.length - 2 = (xd m).length by rw [zhj]; omega, List.take_left']
 rfl
theorem zuv (b : List UInt8) : 0 ≤ vZ b ∧ vZ b < 65521 := zbl b 1 (by decide) (by decide)
theorem wb (m : Msg) (k : Nat) (h : k < 12) : (yc m).getD k 0 = (kb m).getD k 0 := by
 rw [yc, xd, List.append_assoc, List.getD_eq_getElem?_getD, List.getD_eq_getElem?_getD, List.getElem?_append_left (by rw [qy]; exact h)]
theorem zvt (m : Msg) : xG (yc m) (((yc m).length : Int) - 2) 2 = vZ (xd m) := by
 have hl := jm m
 have hb := zhj m
 have hs := zuv (xd m)
 rw [show ((yc m).length : Int) - 2 = ((12 + m.data.length : Nat) : Int) by omega, zm7 _ _ (by omega)]
 have h0 : (yc m).getD (12 + m.data.length) 0 = zt (vZ (xd m) / 256) := by
  rw [yc, List.getD_eq_getElem?_getD, List.getElem?_append_right (by omega)]
  simp [hb]
 have h1 : (yc m).getD (12 + m.data.length + 1) 0 = zt (vZ (xd m)) := by
  rw [yc, List.getD_eq_getElem?_getD, List.getElem?_append_right (by omega)]
  simp [hb, show 12 + m.data.length + 1 - (12 + m.data.length) = 1 by omega]
 rw [h0, h1]
 have e0 := yD (vZ (xd m) / 256)
 have e1 := yD (vZ (xd m))
 omega
theorem zvu (m : Msg) (h : m.data.length ≤ 1048576) : xG (yc m) 8 4 = m.data.length := by
 have hl := jm m
 rw [show (8 : Int) = ((8 : Nat) : Int) from rfl, zvs _ _ (by omega), wb m 8 (by decide), wb m (8 + 1) (by decide), wb m (8 + 2) (by decide), wb m (8 + 3) (by decide), zo3]
 simp only [List.getD_cons_succ, List.getD_cons_zero]
 have e0 := yD ((m.data.length : Int) / 256 / 256 / 256)
 have e1 := yD ((m.data.length : Int) / 256 / 256)
 have e2 := yD ((m.data.length : Int) / 256)
 have e3 := yD (m.data.length : Int)
 rw [e0, e1, e2, e3]
 omega
theorem zgB {m : Msg} (h : yT m = 0) : we (yc m) = m := by
 obtain ⟨h1, h2, h3, h4, h5, h6, h7, h8, h9, h10, h11, h12, h13, _⟩ := zl1 h
 have hl := jm m
 unfold we
 rw [ziE, show (3 : Int) = ((3 : Nat) : Int) from rfl, show (6 : Int) = ((6 : Nat) : Int) from rfl, zm7 _ 3 (by omega), zm7 _ 6 (by omega), wb m 0 (by decide), wb m 1 (by decide), wb m 2 (by decide), wb m 3 (by decide), wb m (3 + 1) (by decide), wb m 5 (by decide), wb m 6 (by decide), wb m (6 + 1) (by decide), zo3]
 simp only [List.getD_cons_succ, List.getD_cons_zero, yD]
 obtain ⟨kind, worker, unit, turn, err, at_, data⟩ := m
 simp only [Msg.mk.injEq] at *
 refine ⟨by omega, by omega, by omega, by omega, by omega, by omega, ?_⟩
 rw [xd, List.drop_left' (qy _)]
theorem zoj {m : Msg} (h : yT m = 0) : wM (yc m) = 0 := by
 obtain ⟨h1, h2, h3, h4, h5, h6, h7, h8, h9, _⟩ := zl1 h
 have hl := jm m
 rw [zid, zgB h, h]
 rintro (k | k | k)
 ·omega
 ·rw [zvu m h9] at k; omega
 ·rw [zvt, ziE] at k; exact k rfl
end Go.Proofs.YtnkdeacghopkiaaGreatDoor
