/-
  A part of the proof: what the given program's functions answer, each once; conditions that are enough for it.
-/
import Derived.Test.YthmdddenbfbefaaGreatDoorSt2
import Derived.Test.YthmdddenbfbefaaGreatDoorFw3
import Derived.Test.YthmdddenbfbefaaGreatDoorSt1
namespace Go.Proofs.YthmdddenbfbefaaGreatDoor
open Go Go.Plat
set_option linter.unusedVariables false
set_option linter.unusedSimpArgs false
set_option maxRecDepth 100000
set_option maxHeartbeats 2000000
attribute [local irreducible] AWP zy ye zF zn yt z6 zE zW Lib.itoa zY zp za zN yu zo zZ zh.kids zh.kind zh.n zh.name yp yq yj yl zt zu xf wi zw vA xk xb wO wg xl xN yH yy yV xQ yb wx xn wQ zL zT wP yU
def eC (q : List zk) (b : Bld) (o : Out) : List D := [.sl 2 (q.map x9) none, .osl 13 1 b.items.length 0 b.items.length, .osl 2 2 b.syms.length 0 b.syms.length, .sl 1 (b.marks.map (.int .i64)) (some 3),
 .osl 1 4 (zJ b).length 0 (zJ b).length, .int .i64 b.shut.length, .sl 1 (o.code.map zH) (some 6), .nilsl, .sl 4 (o.rels.map zbn) (some 5), .int .i64 o.fe, .int .i64 o.fa]
def eT (b : Bld) (o : Out) : List Ob := [.arr 13 (b.items.map xm), .arr 2 (b.syms.map yF), .spare b.marks.length, .arr 1 (b.shut.map y6), .spare o.rels.length, .spare o.code.length]
def eO (q : List zk) (b : Bld) (o : Out) : List Ob := .cells (eC q b o) :: eT b o
theorem zhq {n : Nat} (l : List (List zq)) : ∀ d ∈ l.map y6, ClL n d.cells := by
 intro d hd
 obtain ⟨x, _, rfl⟩ := List.mem_map.1 hd
 exact .cons .sl .nil
theorem wR (q : List zk) (b : Bld) (o : Out) : ∀ x ∈ eO q b o, ClO 7 x := by
 intro x hx
 simp only [eO, eT, List.mem_cons, List.not_mem_nil, or_false] at hx
 rcases hx with rfl | rfl | rfl | rfl | rfl | rfl | rfl
 ·exact .cells (.cons .sl (.cons (.osl (by decide)) (.cons (.osl (by decide)) (.cons (.tok (by decide)) (.cons (.osl (by decide)) (.cons .int (.cons (.tok (by decide)) (.cons .nilsl (.cons (.tok (by decide)) (.cons .int (.cons .int .nil)))))))))))
 ·exact .arr (ke _)
 ·exact .arr (jy _)
 ·exact .spare
 ·exact .arr (zhq _)
 ·exact .spare
 ·exact .spare
theorem xW {n0 : Nat} {q : List zk} {b : Bld} {o o' : Out} {r d : D} {L : List Ob} (X : List Ob) (hL : L = eO q b o' ++ X) (ho : o' = o) (hr : r = d) (hn : n0 ≤ 7) (hd : ClD 7 d) : zE n0 r d L (eO q b o) := by
 subst ho; subst hr
 exact kq (eO q b o') X hL hn hd (wR _ _ _)
theorem zoX (q : List zk) (b : Bld) (o : Out) (e line : Int) : Ob.cells [.sl 2 (q.map x9) none, .osl 13 1 b.items.length 0 b.items.length, .osl 2 2 b.syms.length 0 b.syms.length, .sl 1 (b.marks.map (.int .i64)) (some 3),
  .osl 1 4 (zJ b).length 0 (zJ b).length, .int .i64 b.shut.length, .sl 1 (o.code.map zH) (some 6), .nilsl, .sl 4 (o.rels.map zbn) (some 5), .int .i64 (if o.fe = 0 then e else o.fe), .int .i64 (if o.fe = 0 then line else o.fa)] :: eT b o = eO q b (w6 o e line) := by
 unfold w6
 by_cases h : o.fe = 0
 ·rw [if_pos h, if_pos h, if_pos h]; rfl
 ·rw [if_neg h, if_neg h, if_neg h]; rfl
theorem jT {av : List D} {L : List Ob} {KP : D → Prop} {KW : D → List Ob → Prop} (q : List zk) (b : Bld) (o : Out) (e line : Int) (X : List Ob) (hL : L = eO q b o ++ X) (has : av = [.loc 0 0, .int .i64 e, .int .i64 line])
  (hK : KW .ff (eO q b (w6 o e line) ++ X)) : zn Tryz.prog vL av L KP KW := by
 subst has
 refine xL zgJ X ((.sl 2 (q.map x9) none, .osl 13 1 b.items.length 0 b.items.length, .osl 2 2 b.syms.length 0 b.syms.length, .sl 1 (b.marks.map (.int .i64)) (some 3),
  .osl 1 4 (zJ b).length 0 (zJ b).length, .int .i64 b.shut.length, .sl 1 (o.code.map zH) (some 6), .nilsl, .sl 4 (o.rels.map zbn) (some 5)), o.fe, o.fa, e, line, eT b o) trivial hL (LeL.refl _) rfl ?_ .ff (wR q b o) ?_ ?_
 ·exact .cons (.loc (Nat.lt_of_lt_of_le (by decide : 0 < 7) (Nat.le_of_eq rfl))) (.cons .int (.cons .int .nil))
 ·dsimp only
  rw [zoX]
  exact wR q b _
 ·dsimp only
  rw [zoX]
  exact hK
theorem zqe : za Tryz.prog za1 (yh (fun ((_, o, _, _, _) : Bld × Out × Ins × Int × List zk) => o.code.length ≤ 1000000000) (fun (_, _, i, line, _) => [.loc 0 0, je i, .int .i64 line])
  (fun (b, o, _, _, q) => eO q b o) (fun _ => .tup []) fun (b, o, i, line, q) => eO q b (xC o i line)) := by
 refine zg zj Tryz.func75 rfl (by decide) ?_
 rintro ⟨b, o, i, line, q⟩ hl
 have hl : o.code.length ≤ 1000000000 := hl
 refine ⟨Nat.le_refl _, by simp [Tryz.f75], fun E hE => ?_⟩
 show AWP _ _ _ _ (qa _ _ _ _ (eO q b (xC o i line))) _ (eO q b o)
 have hH : xC o i line = if yU i = 0 then ⟨o.code ++ [ym (vA i / 256), ym (vA i)], o.rels, o.fe, o.fa⟩ else w6 o (yU i) line := rfl
 generalize xC o i line = H at *
 refine zf _ ?_
 (all_goals refine qgp (Lf.mk ?_))
 refine ze zmy i trivial (VS.mk (LeL.of_eq rfl)) ?_
 generalize yU i = W at *
 (all_goals refine qgp ?_ <;> (repeat' first | exact trivial | intro hc | refine And.intro ?_ ?_) <;> refine Lf.mk ?_)
 ·rw [if_neg hc] at hH
  refine jT q b o W line [_] rfl rfl ?_
  rw [← hH]
  (all_goals refine qgp (Lf.mk ?_))
  exact xW [_] rfl rfl rfl (Nat.le_of_eq rfl) .tup0
 ·rw [if_pos hc] at hH
  subst hH
  have he : (if W = 0 then vA i else 0) = vA i := if_pos hc
  simp only [he]
  exact xW (o' := ⟨o.code ++ [ym (vA i / 256), ym (vA i)], o.rels, o.fe, o.fa⟩) [_] rfl rfl rfl (Nat.le_of_eq rfl) .tup0
theorem zoY {n : Nat} (i : Ins) : ClD n (je i) := .agg (.cons .int (.cons .int (.cons .int (.cons .int .nil))))
theorem zcS {av : List D} {L : List Ob} {KP : D → Prop} {KW : D → List Ob → Prop} (q : List zk) (b : Bld) (o : Out) (i : Ins) (line : Int) (X : List Ob) (hl : o.code.length ≤ 1000000000) (hL : L = eO q b o ++ X) (has : LeL av [.loc 0 0, je i, .int .i64 line])
  (hK : KW (.tup []) (eO q b (xC o i line) ++ X)) : zn Tryz.prog za1 av L KP KW := by
 refine zdp has ?_
 exact xL zqe X (b, o, i, line, q) hl hL (LeL.refl _) rfl (.cons (.loc (Nat.lt_of_lt_of_le (by decide : 0 < 7) (Nat.le_of_eq rfl))) (.cons (zoY i) (.cons .int .nil))) .tup0 (wR _ _ _) (wR _ _ _) hK
theorem zcg (o : Out) (i : Ins) (line : Int) : (xC o i line).code.length ≤ o.code.length + 2 := by
 unfold xC w6
 repeat' split
 all_goals simp
theorem zch (o : Out) (i : Ins) (a to line : Int) : (xT o i a to line).code.length ≤ o.code.length + 2 := by
 unfold xT
 split
 ·exact zcg _ _ _
 ·unfold w6; split <;> simp
attribute [local irreducible] xC
theorem zqf : za Tryz.prog za2 (yh (fun ((_, o, _, a, _, _, _) : Bld × Out × Ins × Int × Int × Int × List zk) => o.code.length ≤ 1000000000 ∧ 0 ≤ a ∧ a ≤ 1000000000000000) (fun (_, _, i, a, to, line, _) => [.loc 0 0, je i, .int .i64 a, .int .i64 to, .int .i64 line])
  (fun (b, o, _, _, _, _, q) => eO q b o) (fun _ => .tup []) fun (b, o, i, a, to, line, q) => eO q b (xT o i a to line)) := by
 refine zg zj Tryz.func78 rfl (by decide) ?_
 rintro ⟨b, o, i, a, to, line, q⟩ ⟨hl, h0, h1⟩
 have hl : o.code.length ≤ 1000000000 := hl
 refine ⟨Nat.le_refl _, by simp [Tryz.f78], fun E hE => ?_⟩
 show AWP _ _ _ _ (qa _ _ _ _ (eO q b (xT o i a to line))) _ (eO q b o)
 have hH : xT o i a to line = if (wi i.op a to).2 = 0 then xC o ⟨i.op, i.n, i.m, (wi i.op a to).1⟩ line else w6 o (wi i.op a to).2 line := rfl
 generalize xT o i a to line = H at *
 refine zf _ ?_
 (all_goals refine qgp (Lf.mk ?_))
 refine ze ziD (i.op, a, to) ⟨h0, h1⟩ (VS.mk (LeL.of_eq rfl)) ?_
 dsimp only
 generalize wi i.op a to = W at *
 (all_goals refine qgp ?_ <;> (repeat' first | exact trivial | intro hc | refine And.intro ?_ ?_) <;> refine Lf.mk ?_)
 ·rw [if_neg hc] at hH
  refine jT q b o W.2 line [_] rfl rfl ?_
  rw [← hH]
  (all_goals refine qgp (Lf.mk ?_))
  exact xW [_] rfl rfl rfl (Nat.le_of_eq rfl) .tup0
 ·rw [if_pos hc] at hH
  refine zcS q b o ⟨i.op, i.n, i.m, W.1⟩ line [_] hl rfl (LeL.of_eq rfl) ?_
  rw [← hH]
  (all_goals refine qgp (Lf.mk ?_))
  exact xW [_] rfl rfl rfl (Nat.le_of_eq rfl) .tup0
theorem zcT {av : List D} {L : List Ob} {KP : D → Prop} {KW : D → List Ob → Prop} (q : List zk) (b : Bld) (o : Out) (i : Ins) (a to line : Int) (X : List Ob) (hl : o.code.length ≤ 1000000000) (h0 : 0 ≤ a) (h1 : a ≤ 1000000000000000) (hL : L = eO q b o ++ X)
  (has : LeL av [.loc 0 0, je i, .int .i64 a, .int .i64 to, .int .i64 line]) (hK : KW (.tup []) (eO q b (xT o i a to line) ++ X)) : zn Tryz.prog za2 av L KP KW := by
 refine zdp has ?_
 exact xL zqf X (b, o, i, a, to, line, q) ⟨hl, h0, h1⟩ hL (LeL.refl _) rfl (.cons (.loc (Nat.lt_of_lt_of_le (by decide : 0 < 7) (Nat.le_of_eq rfl))) (.cons (zoY i) (.cons .int (.cons .int (.cons .int .nil))))) .tup0 (wR _ _ _) (wR _ _ _) hK
attribute [local irreducible] xT
theorem zqg : za Tryz.prog za3 (yh (fun ((b, o, k, x, _, _) : Bld × Out × Nat × zx × Int × List zk) => o.code.length ≤ 900000000 ∧ b.items[k]? = some x ∧ 0 ≤ x.at_ ∧ x.at_ ≤ 100000000000000) (fun (b, _, k, _, to, _) => [.loc 0 0, .aloc 1 b.items.length k 0, .int .i64 to])
  (fun (b, o, _, _, _, q) => eO q b o) (fun _ => .tup []) fun (b, o, _, x, to, q) => eO q b (vZ o x to)) := by
 refine zg zj Tryz.func79 rfl (by decide) ?_
 rintro ⟨b, o, k, x, to, q⟩ ⟨hl, hx, h0, h1⟩
 have hl : o.code.length ≤ 900000000 := hl
 have hx : b.items[k]? = some x := hx
 have h0 : 0 ≤ x.at_ := h0
 have h1 : x.at_ ≤ 100000000000000 := h1
 have hxn : b.items[((k : Nat) : Int).toNat]? = some x := by rw [Int.toNat_natCast]; exact hx
 refine ⟨Nat.le_refl _, by simp [Tryz.f79], fun E hE => ?_⟩
 show AWP _ _ _ _ (qa _ _ _ _ (eO q b (vZ o x to))) _ (eO q b o)
 have hH : vZ o x to = if x.long = false then xT o x.ins x.at_ to x.line else xC (xT (xC o ⟨w64 (35 - x.ins.op), 0, 0, 1⟩ x.line) ⟨19, 0, 0, 0⟩ (x.at_ + 2) to x.line) ⟨1, 0, 0, 0⟩ x.line := rfl
 generalize vZ o x to = H at *
 have hl1 := zcg o ⟨w64 (35 - x.ins.op), 0, 0, 1⟩ x.line
 have hl2 := zch (xC o ⟨w64 (35 - x.ins.op), 0, 0, 1⟩ x.line) ⟨19, 0, 0, 0⟩ (x.at_ + 2) to x.line
 refine zf _ ?_
 (all_goals refine qgp (Lf.mk ?_))
 refine zl x (Int.natCast_nonneg k) hxn ?_
 (all_goals refine qgp ?_ <;> (repeat' first | exact trivial | intro hc | refine And.intro ?_ ?_) <;> refine Lf.mk ?_)
 ·rw [if_pos hc] at hH
  refine zl x (Int.natCast_nonneg k) hxn ?_
  (all_goals refine qgp (Lf.mk ?_))
  refine zl x (Int.natCast_nonneg k) hxn ?_
  (all_goals refine qgp (Lf.mk ?_))
  refine zl x (Int.natCast_nonneg k) hxn ?_
  (all_goals refine qgp (Lf.mk ?_))
  refine zcT q b o x.ins x.at_ to x.line [] (by omega) h0 (by omega) rfl (LeL.of_eq rfl) ?_
  rw [← hH]
  (all_goals refine qgp (Lf.mk ?_))
  exact xW [] rfl rfl rfl (Nat.le_of_eq rfl) .tup0
 ·rw [if_neg (by rw [hc]; decide)] at hH
  refine zl x (Int.natCast_nonneg k) hxn ?_
  (all_goals refine qgp (Lf.mk ?_))
  refine zmZ ?_
  (all_goals refine qgp (Lf.mk ?_))
  refine zl x (Int.natCast_nonneg k) hxn ?_
  (all_goals refine qgp (Lf.mk ?_))
  refine zcS q b o ⟨w64 (35 - x.ins.op), 0, 0, 1⟩ x.line [_] (by omega) rfl (LeL.of_eq rfl) ?_
  generalize xC o ⟨w64 (35 - x.ins.op), 0, 0, 1⟩ x.line = o1 at *
  (all_goals refine qgp (Lf.mk ?_))
  refine zl x (Int.natCast_nonneg k) hxn ?_
  (all_goals refine qgp (Lf.mk ?_))
  refine zl x (Int.natCast_nonneg k) hxn ?_
  (all_goals refine qgp (Lf.mk ?_))
  refine zcT q b o1 ⟨19, 0, 0, 0⟩ (x.at_ + 2) to x.line [_] (by omega) (by omega) (by omega) rfl (LeL.of_eq rfl) ?_
  generalize xT o1 ⟨19, 0, 0, 0⟩ (x.at_ + 2) to x.line = o2 at *
  (all_goals refine qgp (Lf.mk ?_))
  refine zl x (Int.natCast_nonneg k) hxn ?_
  (all_goals refine qgp (Lf.mk ?_))
  refine zcS q b o2 ⟨1, 0, 0, 0⟩ x.line [_] (by omega) rfl (LeL.of_eq rfl) ?_
  rw [← hH]
  (all_goals refine qgp (Lf.mk ?_))
  exact xW [_] rfl rfl rfl (Nat.le_of_eq rfl) .tup0
end Go.Proofs.YthmdddenbfbefaaGreatDoor
namespace Go.Proofs.YthmdddenbfbefaaGreatDoor
open Go Go.Plat
set_option linter.unusedVariables false
set_option linter.unusedSimpArgs false
set_option maxRecDepth 100000
set_option maxHeartbeats 2000000
attribute [local irreducible] AWP zy ye zF zn yt z6 zE zW Lib.itoa zY zp za zN yu zo zZ zh.kids zh.kind zh.n zh.name yp yq yj yl zt zu xf wi zw vA xk xb wO wg xl xN yH yy yV xQ yb wx zd xn wQ zL wP yU
theorem zm1 {av : List D} {L : List Ob} {KP : D → Prop} {KW : D → List Ob → Prop} (q : List zk) (b : Bld) (o : Out) (v : zq) (X : List Ob) (hl : b.syms.length ≤ 1000000) (hL : L = eO q b o ++ X) (has : av = [.loc 0 0, yE v])
  (hK : KW (.tup [.int .i64 (zT b.syms v).1, .int .i64 (zT b.syms v).2]) (eO q b o ++ X)) : zn Tryz.prog w2 av L KP KW := by
 subst has
 have hm : za Tryz.prog w2 (yh (fun ((b, _, _, _) : Bld × Out × zq × List zk) => b.syms.length ≤ 1000000) (fun (_, _, v, _) => [.loc 0 0, yE v])
   (fun (b, o, _, q) => eO q b o) (fun (b, _, v, _) => .tup [.int .i64 (zT b.syms v).1, .int .i64 (zT b.syms v).2]) fun (b, o, _, q) => eO q b o) := by
  clear hK hL hl
  refine zg zj Tryz.func70 rfl (by decide) ?_
  rintro ⟨b, o, v, q⟩ hl
  have hl : b.syms.length ≤ 1000000 := hl
  refine ⟨Nat.le_refl _, by simp [Tryz.f70], fun E hE => ?_⟩
  show AWP _ _ _ _ (qa _ _ _ (.tup [.int .i64 (zT b.syms v).1, .int .i64 (zT b.syms v).2]) (eO q b o)) _ (eO q b o)
  have hT : zT b.syms v = if v.name = [] then (0, 8) else if zjy v.name b.syms 0 < 0 then (0, 6) else (w64 ((zcb b.syms (zjy v.name b.syms 0)).at_ + v.n), 0) := rfl
  generalize zT b.syms v = T at *
  refine zf _ ?_
  (all_goals refine qgp ?_ <;> (repeat' first | exact trivial | intro hc | refine And.intro ?_ ?_) <;> refine Lf.mk ?_)
  ·rw [if_pos hc] at hT
   subst hT
   exact xW [_] rfl rfl rfl (Nat.le_of_eq rfl) (.tup (.cons .int (.cons .int .nil)))
  rw [if_neg hc] at hT
  refine zho vV [.loc 7 0] (fun s => s.name == v.name) b.syms (.cells (eC q b o)) (.arr 13 (b.items.map xm)) [.spare b.marks.length, .arr 1 (b.shut.map y6), .spare o.rels.length, .spare o.code.length, .cells [.str v.name, .int .i64 v.n]] (by omega) rfl rfl
   (fun s hs KP KW hK => ?_) ?_
  ·exact zX zew [7] [7] (s, v) trivial rfl rfl ⟨VS.mk (LeL.refl _), VS.mk rfl, hK⟩
  have hp := zbC (fun s : zz => s.name == v.name) b.syms 0
  have hT : T = if xA (fun s : zz => s.name == v.name) b.syms 0 < 0 then (0, 6) else (w64 ((zcb b.syms (xA (fun s : zz => s.name == v.name) b.syms 0)).at_ + v.n), 0) := hT
  generalize xA (fun s : zz => s.name == v.name) b.syms 0 = p at *
  (all_goals refine qgp ?_ <;> (repeat' first | exact trivial | intro hc | refine And.intro ?_ ?_) <;> refine Lf.mk ?_)
  ·rw [if_pos hc] at hT
   subst hT
   exact xW [_] rfl rfl rfl (Nat.le_of_eq rfl) (.tup (.cons .int (.cons .int .nil)))
  have hpl : p.toNat < b.syms.length := by
   rcases hp with h | ⟨j, h1, h2⟩
   ·omega
   ·rw [h2, Int.toNat_natCast, Nat.zero_add]; exact h1
  have hs : b.syms[p.toNat]? = some (zcb b.syms p) := by unfold zcb; rw [List.getElem?_eq_getElem hpl]; rfl
  rw [if_neg hc] at hT
  refine zl (zcb b.syms p) (Int.natCast_nonneg _) (by rw [Int.toNat_natCast, Nat.zero_add]; exact hs) ?_
  (all_goals refine qgp (Lf.mk ?_))
  refine zmZ ?_
  (all_goals refine qgp (Lf.mk ?_))
  subst hT
  exact xW [_] rfl rfl rfl (Nat.le_of_eq rfl) (.tup (.cons .int (.cons .int .nil)))
 exact xL hm X (b, o, v, q) hl hL (LeL.refl _) rfl (.cons (.loc (Nat.lt_of_lt_of_le (by decide : 0 < 7) (Nat.le_of_eq rfl))) (.cons (zan v) .nil)) (.tup (.cons .int (.cons .int .nil))) (wR _ _ _) (wR _ _ _) hK
attribute [local irreducible] zT
theorem zcU (syms : List zz) (o : Out) (v : zq) (size : Nat) : (xZ syms o v size).code.length = o.code.length + size := by
 unfold xZ
 split
 ·dsimp only
  rw [vW]
  simp
 ·simp
theorem zof : za Tryz.prog zaZ (yh (fun ((b, o, _, size, _) : Bld × Out × zq × Nat × List zk) => b.syms.length ≤ 1000000 ∧ o.code.length ≤ 500000000 ∧ o.rels.length ≤ 500000000 ∧ 0 < size ∧ size ≤ 4) (fun (_, _, v, size, _) => [.loc 0 0, yE v, .int .i64 size])
  (fun (b, o, _, _, q) => eO q b o) (fun _ => .tup []) fun (b, o, v, size, q) => eO q b (xZ b.syms o v size)) := by
 refine zuD 6 zj Tryz.func72 rfl (by decide) ?_
 rintro ⟨b, o, v, size, q⟩ ⟨hs, hl, hr, h0, h4⟩
 have hs : b.syms.length ≤ 1000000 := hs
 have hl : o.code.length ≤ 500000000 := hl
 have hr : o.rels.length ≤ 500000000 := hr
 have h0 : 0 < size := h0
 have h4 : size ≤ 4 := h4
 have hlen := zcU b.syms o v size
 refine ⟨Nat.le_succ 6, ?_, Nat.le_refl _, by simp [Tryz.f72], fun E hE => ?_⟩
 ·intro k hk hk2
  obtain rfl : k = 6 := by
   have : k < 7 := hk2
   omega
  exact ⟨_, _, rfl, rfl, by rw [hlen]; omega⟩
 show AWP _ _ _ _ (qa _ _ _ _ (eO q b (xZ b.syms o v size))) _ (eO q b o)
 have hW : xZ b.syms o v size = if v.name = [] then ⟨yb (o.code ++ List.replicate size 0) o.code.length size v.n, o.rels, o.fe, o.fa⟩
  else ⟨o.code ++ List.replicate size 0, o.rels ++ [zhn b.syms o.code.length size v], o.fe, o.fa⟩ := rfl
 generalize xZ b.syms o v size = W at *
 refine zf _ ?_
 (all_goals refine qgk (Lf.mk ?_))
 refine wM ((o.code ++ List.replicate size 0).map zH) (by rw [List.map_append, List.map_replicate]; rfl) ?_
 have hcl : (o.code ++ List.replicate size 0).length = o.code.length + size := by simp
 rw [List.length_map]
 (all_goals refine qgk ?_ <;> (repeat' first | exact trivial | intro hc | refine And.intro ?_ ?_) <;> refine Lf.mk ?_)
 ·rw [if_pos hc] at hW
  refine zX zcO [] [8] (o.code ++ List.replicate size 0, o.code.length, size, v.n) ⟨by show -1000000000000 ≤ ((o.code.length : Nat) : Int); omega, by show ((o.code.length : Nat) : Int) ≤ _; omega, by show size ≤ _; omega, by show (o.code ++ List.replicate size 0).length ≤ _; omega⟩ rfl rfl ?_
  refine And.intro (VS.mk (LeL.of_eq rfl)) (And.intro (VS.mk rfl) ?_)
  (all_goals refine qgk (Lf.mk ?_))
  have key : ∀ k, k < 6 → zD [0, 1, 2, 3, 4, 5, 8] 0 k = some k := by decide
  subst hW
  have hpl := vW o.code.length size (o.code ++ List.replicate size 0) v.n
  refine zfi [0, 1, 2, 3, 4, 5, 8] rfl rfl ?_ (ClD.tup0 (n := 6) _ key)
  refine .cons (o := .cells [.sl 2 (q.map x9) none, .osl 13 1 b.items.length 0 b.items.length, .osl 2 2 b.syms.length 0 b.syms.length, .sl 1 (b.marks.map (.int .i64)) (some 3), .osl 1 4 (zJ b).length 0 (zJ b).length, .int .i64 b.shut.length,
   .sl 1 ((yb (o.code ++ List.replicate size 0) o.code.length size v.n).map zH) (some 8), .nilsl, .sl 4 (o.rels.map zbn) (some 5), .int .i64 o.fe, .int .i64 o.fa]) rfl
   ⟨_, rfl, .cons (ClD.sl (n := 6) _ key) (.cons (ClD.osl (n := 6) (by decide) _ key) (.cons (ClD.osl (n := 6) (by decide) _ key) (.cons (ClD.tok (n := 6) (by decide) _ key) (.cons (ClD.osl (n := 6) (by decide) _ key) (.cons (ClD.int (n := 6) _ key)
     (.cons (.tok rfl) (.cons (ClD.nilsl (n := 6) _ key) (.cons (ClD.tok (n := 6) (by decide) _ key) (.cons (ClD.int (n := 6) _ key) (.cons (ClD.int (n := 6) _ key) .nil))))))))))⟩
   (.cons (o := .arr 13 (b.items.map xm)) rfl (ClO.arr (n := 6) (ke _) _ key) (.cons (o := .arr 2 (b.syms.map yF)) rfl (ClO.arr (n := 6) (jy _) _ key) (.cons (o := .spare b.marks.length) rfl rfl
   (.cons (o := .arr 1 (b.shut.map y6)) rfl (ClO.arr (n := 6) (zhq _) _ key) (.cons (o := .spare o.rels.length) rfl rfl (.cons (o := .spare (o.code ++ List.replicate size 0).length) rfl (by rw [hpl]; rfl) .nil))))))
 ·rw [if_neg hc] at hW
  refine zm1 q b ⟨o.code ++ List.replicate size 0, o.rels, o.fe, o.fa⟩ v [_, _] hs rfl rfl ?_
  have hR : zhn b.syms o.code.length size v = if (zT b.syms v).2 = 0 then ⟨o.code.length, size, [], zd (zT b.syms v).1 32⟩ else ⟨o.code.length, size, v.name, v.n⟩ := rfl
  generalize zT b.syms v = T at *
  (all_goals refine qgk ?_ <;> (repeat' first | exact trivial | intro hc | refine And.intro ?_ ?_) <;> refine Lf.mk ?_)
  ·rw [if_pos hc] at hR
   refine ze yw T.1 trivial (VS.mk (LeL.of_eq rfl)) ?_
   (all_goals refine qgk (Lf.mk ?_))
   refine wM ((o.rels ++ [zhn b.syms o.code.length size v]).map zbn) (by rw [hR, List.map_append]; rfl) ?_
   rw [List.length_map]
   (all_goals refine qgk (Lf.mk ?_))
   subst hW
   exact xW (o' := ⟨o.code ++ List.replicate size 0, o.rels ++ [zhn b.syms o.code.length size v], o.fe, o.fa⟩) [_, _] rfl rfl rfl (by decide) .tup0
  ·rw [if_neg hc] at hR
   refine wM ((o.rels ++ [zhn b.syms o.code.length size v]).map zbn) (by rw [hR, List.map_append]; rfl) ?_
   rw [List.length_map]
   (all_goals refine qgk (Lf.mk ?_))
   subst hW
   exact xW (o' := ⟨o.code ++ List.replicate size 0, o.rels ++ [zhn b.syms o.code.length size v], o.fe, o.fa⟩) [_, _] rfl rfl rfl (by decide) .tup0
attribute [local irreducible] xC xT vZ
theorem zqh {o : Out} {to : Int} (h : to ≤ o.code.length) : wk o to = o := by
 unfold wk
 rw [show (to - (o.code.length : Int)).toNat = 0 by omega]
 simp
theorem zqi {o : Out} {to : Int} (h : (o.code.length : Int) < to) : wk ⟨o.code ++ [0], o.rels, o.fe, o.fa⟩ to = wk o to := by
 unfold wk
 have : (to - (o.code.length : Int)).toNat = (to - ((o.code ++ [0]).length : Int)).toNat + 1 := by simp; omega
 rw [this, List.replicate_succ]
 simp
theorem zvg {o : Out} {to : Int} {m : Nat} (h1 : o.code.length ≤ m) (h2 : to ≤ m) : (wk o to).code.length ≤ m := by
 unfold wk
 simp only [List.length_append, List.length_replicate]
 omega
theorem zfE (o : Out) (to : Int) : (wk o to).rels = o.rels := by unfold wk; rfl
theorem zfF (syms : List zz) (o : Out) (v : zq) (size : Nat) : (xZ syms o v size).rels.length ≤ o.rels.length + 1 := by
 unfold xZ
 split
 ·exact Nat.le_succ _
 ·simp
theorem zog : za Tryz.prog za0 (yh (fun ((_, o, to, _) : Bld × Out × Int × List zk) => o.code.length ≤ 1000000000 ∧ to ≤ 1000000000) (fun (_, _, to, _) => [.loc 0 0, .int .i64 to])
  (fun (b, o, _, q) => eO q b o) (fun _ => .tup []) fun (b, o, to, q) => eO q b (wk o to)) := by
 refine zg zj Tryz.func73 rfl (by decide) ?_
 rintro ⟨b, o, to, q⟩ ⟨hl, ht⟩
 have hl : o.code.length ≤ 1000000000 := hl
 have ht : to ≤ 1000000000 := ht
 refine ⟨Nat.le_refl _, by simp [Tryz.f73], fun E hE => ?_⟩
 have hE7 : E.L.length = 7 := by rw [hE]; rfl
 show AWP _ _ _ _ (qa _ _ _ _ (eO q b (wk o to))) _ (eO q b o)
 generalize hF : wk o to = F
 refine zf _ ?_
 (all_goals refine qgp (Lf.mk ?_))
 refine xg (α := Out) (fun p => wk p to = F ∧ p.code.length ≤ 1000000000) (fun _ => [(0, .loc 0 0), (1, .int .i64 to)]) (fun p => eO q b p) (fun p => (to - (p.code.length : Int)).toNat) (fun _ => by rw [hE7]; exact Nat.le_refl 7) o ⟨hF, hl⟩ ?_ ?_
 ·exact yC rfl ⟨rfl, rfl, trivial⟩
 rintro p ⟨i1, i2⟩
 refine zf _ ?_
 (all_goals refine qgk ?_ <;> (repeat' first | exact trivial | intro hc | refine And.intro ?_ ?_) <;> refine Lf.mk ?_)
 ·refine wM ((p.code ++ [0]).map zH) (by rw [List.map_append]; rfl) ?_
  rw [List.length_map]
  (all_goals refine qgk (Lf.mk ?_))
  exact y5 (⟨p.code ++ [0], p.rels, p.fe, p.fa⟩ : Out) ⟨by rw [zqi hc]; exact i1, by show (p.code ++ [0]).length ≤ _; simp; omega⟩ (by show (to - ((p.code ++ [0]).length : Int)).toNat < _; simp; omega) rfl ⟨rfl, rfl, trivial⟩
 ·rw [zqh (by omega)] at i1
  subst i1
  exact xy rfl rfl
theorem zkh {av : List D} {L : List Ob} {KP : D → Prop} {KW : D → List Ob → Prop} (q : List zk) (b : Bld) (o : Out) (to : Int) (X : List Ob) (hl : o.code.length ≤ 1000000000) (ht : to ≤ 1000000000) (hL : L = eO q b o ++ X) (has : av = [.loc 0 0, .int .i64 to])
  (hK : KW (.tup []) (eO q b (wk o to) ++ X)) : zn Tryz.prog za0 av L KP KW := by
 subst has
 exact xL zog X (b, o, to, q) ⟨hl, ht⟩ hL (LeL.refl _) rfl (.cons (.loc (Nat.lt_of_lt_of_le (by decide : 0 < 7) (Nat.le_of_eq rfl))) (.cons .int .nil)) .tup0 (wR _ _ _) (wR _ _ _) hK
theorem zki {av : List D} {L : List Ob} {KP : D → Prop} {KW : D → List Ob → Prop} (q : List zk) (b : Bld) (o : Out) (v : zq) (size : Nat) (X : List Ob) (hs : b.syms.length ≤ 1000000) (hl : o.code.length ≤ 500000000) (hr : o.rels.length ≤ 500000000) (h0 : 0 < size) (h4 : size ≤ 4) (hL : L = eO q b o ++ X)
  (has : LeL av [.loc 0 0, yE v, .int .i64 size]) (hK : KW (.tup []) (eO q b (xZ b.syms o v size) ++ X)) : zn Tryz.prog zaZ av L KP KW := by
 refine zdp has ?_
 exact xL zof X (b, o, v, size, q) ⟨hs, hl, hr, h0, h4⟩ hL (LeL.refl _) rfl (.cons (.loc (Nat.lt_of_lt_of_le (by decide : 0 < 7) (Nat.le_of_eq rfl))) (.cons (zan v) (.cons .int .nil))) .tup0 (wR _ _ _) (wR _ _ _) hK
theorem zrZ {av : List D} {L : List Ob} {KP : D → Prop} {KW : D → List Ob → Prop} (q : List zk) (b : Bld) (o : Out) (k : Nat) (x : zx) (to : Int) (X : List Ob) (hl : o.code.length ≤ 900000000) (hx : b.items[k]? = some x) (h0 : 0 ≤ x.at_) (h1 : x.at_ ≤ 100000000000000) (hL : L = eO q b o ++ X)
  (has : av = [.loc 0 0, .aloc 1 b.items.length k 0, .int .i64 to]) (hK : KW (.tup []) (eO q b (vZ o x to) ++ X)) : zn Tryz.prog za3 av L KP KW := by
 subst has
 exact xL zqg X (b, o, k, x, to, q) ⟨hl, hx, h0, h1⟩ hL (LeL.refl _) rfl (.cons (.loc (Nat.lt_of_lt_of_le (by decide : 0 < 7) (Nat.le_of_eq rfl))) (.cons (.aloc (Nat.lt_of_lt_of_le (by decide : 1 < 7) (Nat.le_of_eq rfl))) (.cons .int .nil))) .tup0 (wR _ _ _) (wR _ _ _) hK
def zfG (b : Bld) (k : Nat) : Ob := .cells [.aloc 1 b.items.length k 0]
theorem zr0 (q : List zk) (b : Bld) (o : Out) (k : Nat) : ∀ x ∈ eO q b o ++ [zfG b k], ClO (eO q b o ++ [zfG b k]).length x := by
 intro x hx
 have hl : (eO q b o ++ [zfG b k]).length = 8 := rfl
 rw [hl]
 rcases List.mem_append.1 hx with hx | hx
 ·exact ClO.up (wR q b o x hx) (by decide)
 ·rw [List.mem_singleton] at hx
  subst hx
  exact .cells (.cons (.aloc (by decide)) .nil)
theorem zqj {av : List D} {L : List Ob} {KP : D → Prop} {KW : D → List Ob → Prop} (q : List zk) (b : Bld) (o : Out) (k : Nat) (x y : zx) (hx : b.items[k]? = some x) (hL : L = eO q b o ++ [zfG b k]) (has : av = [xm y, .loc 7 0])
  (hK : KW (.bool (y.kind == 9 && y.pool == x.pool)) L) : zn Tryz.prog jK av L KP KW := by
 subst has
 refine vU zj Tryz.func77 rfl (by decide) (.bool (y.kind == 9 && y.pool == x.pool)) L (Nat.le_refl _) (by simp [Tryz.f77]) (fun E hE => ?_) hK
 subst hL
 have hxn : b.items[((k : Nat) : Int).toNat]? = some x := by rw [Int.toNat_natCast]; exact hx
 refine zf _ ?_
 (all_goals refine qgp ?_ <;> (repeat' first | exact trivial | intro hc | refine And.intro ?_ ?_) <;> refine Lf.mk ?_)
 ·refine zl x (Int.natCast_nonneg k) hxn ?_
  (all_goals refine qgp (Lf.mk ?_))
  have he : (y.kind == 9 && y.pool == x.pool) = (y.pool == x.pool) := by rw [hc]; simp
  rw [he]
  exact kq (eO q b o ++ [zfG b k]) [_] rfl (Nat.le_refl _) .bool (zr0 q b o k)
 ·have he : (y.kind == 9 && y.pool == x.pool) = false := by simp [hc]
  rw [he]
  exact vI (.ff rfl) (kq (eO q b o ++ [zfG b k]) [_] rfl (Nat.le_refl _) .bool (zr0 q b o k)) (Nat.le_refl _)
structure zm2 (b : Bld) (x : zx) : Prop where
 size : wv b.shut x
 lo : 0 ≤ x.at_
 hi : x.at_ ≤ 100000000
 idx : 0 ≤ x.idx ∧ x.idx ≤ 100000000
 pool : x.kind = 6 → 0 ≤ zmL x.pool b.items 0
def emB (b : Bld) (o : Out) (x : zx) : Out := vP b.shut b.items b.syms o x
attribute [local irreducible] wk xZ
theorem zoh : za Tryz.prog zfj (yh (fun ((b, o, k, x, _) : Bld × Out × Nat × zx × List zk) => b.has = false ∧ b.items[k]? = some x ∧ (∀ y ∈ b.items, zm2 b y) ∧ b.items.length ≤ 1000000 ∧ b.syms.length ≤ 1000000 ∧ o.code.length ≤ 400000000 ∧ o.rels.length ≤ 400000000) (fun (b, _, k, _, _) => [.loc 0 0, .aloc 1 b.items.length k 0])
  (fun (b, o, _, _, q) => eO q b o) (fun _ => .tup []) fun (b, o, _, x, q) => eO q b (emB b o x)) := by
 refine zg zj Tryz.func40 rfl (by decide) ?_
 rintro ⟨b, o, k, x, q⟩ ⟨hh, hx, hin, hil, hsl, hcl, hrl⟩
 have hh : b.has = false := hh
 have hx : b.items[k]? = some x := hx
 have hin : ∀ y ∈ b.items, zm2 b y := hin
 have hil : b.items.length ≤ 1000000 := hil
 have hsl : b.syms.length ≤ 1000000 := hsl
 have hcl : o.code.length ≤ 400000000 := hcl
 have hrl : o.rels.length ≤ 400000000 := hrl
 have hxe := hin x (List.mem_of_getElem? hx)
 obtain ⟨⟨hs8, hs7, hs9, hsp⟩, hlo, hhi, ⟨hi0, hi1⟩, hpool⟩ := hxe
 have hxn : b.items[((k : Nat) : Int).toNat]? = some x := by rw [Int.toNat_natCast]; exact hx
 refine ⟨Nat.le_refl _, by simp [Tryz.f40], fun E hE => ?_⟩
 have hE7 : E.L.length = 7 := by rw [hE]; rfl
 show AWP _ _ _ _ (qa _ _ _ _ (eO q b (emB b o x))) _ (eO q b o)
 have hH : emB b o x = if x.kind = 7 then (if x.at_ % x.size ≠ 0 then w6 o 11 x.line else xZ b.syms o x.val x.size.toNat)
  else if x.kind = 8 then wk o (upA x.at_ x.size)
  else if x.kind = 9 then ((b.shut[x.pool.toNat]?).getD []).foldl (fun o v => xZ b.syms o v 4) (wk o (upA x.at_ 4))
  else if x.at_ % 2 ≠ 0 then w6 o 11 x.line
  else if x.kind = 1 then xC o x.ins x.line
  else if x.kind = 6 then xT o x.ins x.at_ (upA (itA b.items (zmL x.pool b.items 0)).at_ 4 + 4 * x.idx) x.line
  else if (zT b.syms x.val).2 ≠ 0 then w6 o (zT b.syms x.val).2 x.line
  else if x.kind = 2 then vZ o x (zT b.syms x.val).1
  else xT o x.ins x.at_ (zT b.syms x.val).1 x.line := rfl
 generalize emB b o x = H at *
 refine zf _ ?_
 (all_goals refine qgp (Lf.mk ?_))
 refine zl x (Int.natCast_nonneg k) hxn ?_
 (all_goals refine qgp ?_ <;> (repeat' first | exact trivial | intro hc | refine And.intro ?_ ?_) <;> refine Lf.mk ?_)
 ·rw [if_pos hc] at hH
  have h7 := hs7 hc
  refine zl x (Int.natCast_nonneg k) hxn ?_
  (all_goals refine qgp (Lf.mk ?_))
  refine zl x (Int.natCast_nonneg k) hxn ?_
  (all_goals refine qgp ?_ <;> (repeat' first | exact trivial | intro hc | refine And.intro ?_ ?_) <;> refine Lf.mk ?_)
  ·rw [if_pos hc] at hH
   refine zl x (Int.natCast_nonneg k) hxn ?_
   (all_goals refine qgp (Lf.mk ?_))
   refine jT q b o 11 x.line [_] rfl rfl ?_
   rw [← hH]
   (all_goals refine qgp (Lf.mk ?_))
   exact xW [_] rfl rfl rfl (Nat.le_of_eq rfl) .tup0
  ·rw [if_neg (fun h => h hc)] at hH
   refine zl x (Int.natCast_nonneg k) hxn ?_
   (all_goals refine qgp (Lf.mk ?_))
   refine zl x (Int.natCast_nonneg k) hxn ?_
   (all_goals refine qgp (Lf.mk ?_))
   refine zki q b o x.val x.size.toNat [_] hsl (by omega) (by omega) (by omega) (by omega) rfl (LeL.of_eq (by rw [Int.toNat_of_nonneg (by omega)]; rfl)) ?_
   rw [← hH]
   (all_goals refine qgp (Lf.mk ?_))
   exact xW [_] rfl rfl rfl (Nat.le_of_eq rfl) .tup0
 ·rw [if_neg (by assumption), if_pos hc] at hH
  have h8 := hs8 hc
  have hu := kP (n := x.at_) h8.1
  refine zl x (Int.natCast_nonneg k) hxn ?_
  (all_goals refine qgp (Lf.mk ?_))
  refine zl x (Int.natCast_nonneg k) hxn ?_
  (all_goals refine qgp (Lf.mk ?_))
  refine ze zce (x.at_, x.size) ⟨hlo, by show x.at_ ≤ _; omega, h8.1, by show x.size ≤ _; omega⟩ (VS.mk (LeL.of_eq rfl)) ?_
  (all_goals refine qgp (Lf.mk ?_))
  refine zkh q b o (upA x.at_ x.size) [_] (by omega) (by omega) rfl rfl ?_
  rw [← hH]
  (all_goals refine qgp (Lf.mk ?_))
  exact xW [_] rfl rfl rfl (Nat.le_of_eq rfl) .tup0
 ·rw [if_neg (by assumption), if_neg (by assumption), if_pos hc] at hH
  have h9 := hs9 hc
  have hu := kP (n := x.at_) (k := 4) (by decide)
  have hpl : zJ b = b.shut.map y6 := by unfold zJ; rw [hh]
  have hlt : x.pool.toNat < b.shut.length := by omega
  have hgp : b.shut[x.pool.toNat]? = some ((b.shut[x.pool.toNat]?).getD []) := by rw [List.getElem?_eq_getElem hlt]; rfl
  have hpm := hsp _ (List.mem_of_getElem? hgp)
  generalize (b.shut[x.pool.toNat]?).getD [] = p at *
  refine zl x (Int.natCast_nonneg k) hxn ?_
  (all_goals refine qgp (Lf.mk ?_))
  refine ze zce (x.at_, 4) ⟨hlo, by show x.at_ ≤ _; omega, by decide, by decide⟩ (VS.mk (LeL.of_eq rfl)) ?_
  (all_goals refine qgp (Lf.mk ?_))
  refine zkh q b o (upA x.at_ 4) [_] (by omega) (by omega) rfl rfl ?_
  have hfl := zvg (o := o) (to := upA x.at_ 4) (m := 400000000) hcl (by omega)
  have hfr := zfE o (upA x.at_ 4)
  generalize wk o (upA x.at_ 4) = o1 at *
  (all_goals refine qgp (Lf.mk ?_))
  refine zl x (Int.natCast_nonneg k) hxn ?_
  (all_goals refine qgp (Lf.mk ?_))
  refine xa ⟨h9.1, by rw [hpl, List.length_map]; exact h9.2⟩ ?_
  (all_goals refine qgp (Lf.mk ?_))
  refine xa (by rw [hpl]) ?_
  refine VS.mk ?_
  refine zl (enc := y6) (l := b.shut) (n := ((0 + x.pool.toNat : Nat) : Int)) p (Int.natCast_nonneg _) (by rw [Int.toNat_natCast, Nat.zero_add]; exact hgp) ?_
  (all_goals refine qgp (Lf.mk ?_))
  refine xg (α := Nat × Out) (fun r => r.1 ≤ p.length ∧ (p.drop r.1).foldl (fun o v => xZ b.syms o v 4) r.2 = H ∧ r.2.code.length ≤ 400000000 + 4 * r.1 ∧ r.2.rels.length ≤ 400000000 + r.1)
   (fun r => [(0, .loc 0 0), (72, .sl 2 (p.map yE) none), (73, .int .i64 p.length), (74, .int .i64 r.1)]) (fun r => eO q b r.2) (fun r => p.length - r.1) (fun _ => by rw [hE7]; exact Nat.le_refl 7) (0, o1) ⟨Nat.zero_le _, hH.symm, by dsimp only; omega, by dsimp only; rw [hfr]; omega⟩ ?_ ?_
  ·exact zlS (eO q b o1) [zfG b k] rfl (by rw [hE7]; exact Nat.le_refl 7) (wR _ _ _) ⟨rfl, rfl, rfl, rfl, trivial⟩ (.cons (.loc (Nat.lt_of_lt_of_le (by decide : 0 < 7) (Nat.le_of_eq rfl))) (.cons .sl (.cons .int (.cons .int .nil))))
  rintro ⟨j, o2⟩ ⟨j1, j2, j3, j4⟩
  dsimp only at j1 j2 j3 j4 ⊢
  refine zf _ ?_
  (all_goals refine qgp ?_ <;> (repeat' first | exact trivial | intro hc | refine And.intro ?_ ?_) <;> refine Lf.mk ?_)
  ·obtain ⟨v, hv⟩ := ya (l := p) (k := j) (by omega)
   have hjl : j < p.length := by omega
   have hgv : p[j] = v := by rw [List.getElem?_eq_getElem hjl] at hv; exact Option.some.inj hv
   rw [List.drop_eq_getElem_cons hjl, hgv, List.foldl_cons] at j2
   have hwl := zcU b.syms o2 v 4
   have hwr := zfF b.syms o2 v 4
   refine zl v (by omega) (by simpa using hv) ?_
   (all_goals refine qgp (Lf.mk ?_))
   refine zki q b o2 v 4 [_] hsl (by omega) (by omega) (by decide) (by decide) rfl (LeL.of_eq rfl) ?_
   generalize xZ b.syms o2 v 4 = o3 at *
   (all_goals refine qgp (Lf.mk ?_))
   exact q7 (j + 1, o3) [_] ⟨by show j + 1 ≤ _; omega, j2, by dsimp only; omega, by dsimp only; omega⟩ (by dsimp only; omega) rfl (by rw [hE7]; exact Nat.le_refl 7) (wR _ _ _) ⟨rfl, rfl, rfl, rfl, trivial⟩
    (.cons (.loc (Nat.lt_of_lt_of_le (by decide : 0 < 7) (Nat.le_of_eq rfl))) (.cons .sl (.cons .int (.cons .int .nil))))
  ·have hj : j = p.length := by omega
   rw [hj, List.drop_length] at j2
   exact xW [] rfl j2 rfl (Nat.le_of_eq rfl) .tup0
 ·rw [if_neg (by assumption), if_neg (by assumption), if_neg hc] at hH
  refine zl x (Int.natCast_nonneg k) hxn ?_
  (all_goals refine qgp ?_ <;> (repeat' first | exact trivial | intro hc | refine And.intro ?_ ?_) <;> refine Lf.mk ?_)
  ·rw [if_pos hc] at hH
   refine zl x (Int.natCast_nonneg k) hxn ?_
   (all_goals refine qgp (Lf.mk ?_))
   refine jT q b o 11 x.line [_] rfl rfl ?_
   rw [← hH]
   (all_goals refine qgp (Lf.mk ?_))
   exact xW [_] rfl rfl rfl (Nat.le_of_eq rfl) .tup0
  ·rw [if_neg (fun h => h hc)] at hH
   refine zl x (Int.natCast_nonneg k) hxn ?_
   (all_goals refine qgp ?_ <;> (repeat' first | exact trivial | intro hc | refine And.intro ?_ ?_) <;> refine Lf.mk ?_)
   ·rw [if_pos hc] at hH
    refine zl x (Int.natCast_nonneg k) hxn ?_
    (all_goals refine qgp (Lf.mk ?_))
    refine zl x (Int.natCast_nonneg k) hxn ?_
    (all_goals refine qgp (Lf.mk ?_))
    refine zcS q b o x.ins x.line [_] (by omega) rfl (LeL.of_eq rfl) ?_
    rw [← hH]
    (all_goals refine qgp (Lf.mk ?_))
    exact xW [_] rfl rfl rfl (Nat.le_of_eq rfl) .tup0
   ·rw [if_neg (by assumption), if_pos hc] at hH
    have hp6 := hpool hc
    have hpos := zbC (fun y : zx => y.kind == 9 && y.pool == x.pool) b.items 0
    have hidx : zmL x.pool b.items 0 = xA (fun y : zx => y.kind == 9 && y.pool == x.pool) b.items 0 := rfl
    rw [hidx] at hp6 hH
    refine zrL jK [.loc 7 0] (fun y => y.kind == 9 && y.pool == x.pool) b.items (.cells (eC q b o)) [.arr 2 (b.syms.map yF), .spare b.marks.length, .arr 1 (b.shut.map y6), .spare o.rels.length, .spare o.code.length, zfG b k] (by omega) rfl rfl
     (fun y hy KP KW hK => zqj q b o k x y hx rfl rfl hK) ?_
    generalize xA (fun y : zx => y.kind == 9 && y.pool == x.pool) b.items 0 = z at *
    have hz : z.toNat < b.items.length := by
     rcases hpos with h | ⟨j, h1, h2⟩
     ·omega
     ·rw [h2, Int.toNat_natCast, Nat.zero_add]; exact h1
    have hit : b.items[z.toNat]? = some (itA b.items z) := by unfold itA; rw [List.getElem?_eq_getElem hz]; rfl
    have hie := hin _ (List.mem_of_getElem? hit)
    have hilo := hie.lo
    have hihi := hie.hi
    have hu := kP (n := (itA b.items z).at_) (k := 4) (by decide)
    (all_goals refine qgp (Lf.mk ?_))
    refine zl x (Int.natCast_nonneg k) hxn ?_
    (all_goals refine qgp (Lf.mk ?_))
    refine zl x (Int.natCast_nonneg k) hxn ?_
    (all_goals refine qgp (Lf.mk ?_))
    refine zl (itA b.items z) (Int.natCast_nonneg _) (by rw [Int.toNat_natCast, Nat.zero_add]; exact hit) ?_
    (all_goals refine qgp (Lf.mk ?_))
    refine ze zce ((itA b.items z).at_, 4) ⟨hilo, by show (itA b.items z).at_ ≤ _; omega, by decide, by decide⟩ (VS.mk (LeL.of_eq rfl)) ?_
    (all_goals refine qgp (Lf.mk ?_))
    refine zl x (Int.natCast_nonneg k) hxn ?_
    (all_goals refine qgp (Lf.mk ?_))
    refine zl x (Int.natCast_nonneg k) hxn ?_
    (all_goals refine qgp (Lf.mk ?_))
    refine zcT q b o x.ins x.at_ (upA (itA b.items z).at_ 4 + 4 * x.idx) x.line [_] (by omega) hlo (by omega) rfl (LeL.of_eq rfl) ?_
    rw [← hH]
    (all_goals refine qgp (Lf.mk ?_))
    exact xW [_] rfl rfl rfl (Nat.le_of_eq rfl) .tup0
   ·rw [if_neg (by assumption), if_neg hc] at hH
    refine zl x (Int.natCast_nonneg k) hxn ?_
    (all_goals refine qgp (Lf.mk ?_))
    refine zm1 q b o x.val [_] hsl rfl rfl ?_
    generalize zT b.syms x.val = T at *
    (all_goals refine qgp ?_ <;> (repeat' first | exact trivial | intro hc | refine And.intro ?_ ?_) <;> refine Lf.mk ?_)
    ·rw [if_pos hc] at hH
     refine zl x (Int.natCast_nonneg k) hxn ?_
     (all_goals refine qgp (Lf.mk ?_))
     refine jT q b o T.2 x.line [_] rfl rfl ?_
     rw [← hH]
     (all_goals refine qgp (Lf.mk ?_))
     exact xW [_] rfl rfl rfl (Nat.le_of_eq rfl) .tup0
    ·rw [if_neg (fun h => h hc)] at hH
     refine zl x (Int.natCast_nonneg k) hxn ?_
     (all_goals refine qgp ?_ <;> (repeat' first | exact trivial | intro hc | refine And.intro ?_ ?_) <;> refine Lf.mk ?_)
     ·rw [if_pos hc] at hH
      refine zrZ q b o k x T.1 [_] (by omega) hx hlo (by omega) rfl rfl ?_
      rw [← hH]
      (all_goals refine qgp (Lf.mk ?_))
      exact xW [_] rfl rfl rfl (Nat.le_of_eq rfl) .tup0
     ·rw [if_neg hc] at hH
      refine zl x (Int.natCast_nonneg k) hxn ?_
      (all_goals refine qgp (Lf.mk ?_))
      refine zl x (Int.natCast_nonneg k) hxn ?_
      (all_goals refine qgp (Lf.mk ?_))
      refine zl x (Int.natCast_nonneg k) hxn ?_
      (all_goals refine qgp (Lf.mk ?_))
      refine zcT q b o x.ins x.at_ T.1 x.line [_] (by omega) hlo (by omega) rfl (LeL.of_eq rfl) ?_
      rw [← hH]
      (all_goals refine qgp (Lf.mk ?_))
      exact xW [_] rfl rfl rfl (Nat.le_of_eq rfl) .tup0
end Go.Proofs.YthmdddenbfbefaaGreatDoor
namespace Go.Proofs.YthmdddenbfbefaaGreatDoor
open Go Go.Plat
set_option linter.unusedVariables false
set_option linter.unusedSimpArgs false
set_option maxRecDepth 100000
set_option maxHeartbeats 2000000
attribute [local irreducible] AWP zy ye zF zn yt z6 zE zW Lib.itoa zY zp za zN yu zo zZ yp yq yj yl zt zu xf zw xk wO wg yH xQ wx yU
def zjD (h : Bool) : Int := match h with | true => 1 | false => 0
structure zm3 (n : Nat) (h : Bool) (x : zx) : Prop where
 al : x.kind = 8 → 0 < x.size ∧ x.size ≤ 16
 da : x.kind = 7 → 0 < x.size ∧ x.size ≤ 4
 po : x.kind = 9 → 0 ≤ x.pool ∧ x.pool < n
 li : x.kind = 6 → 0 ≤ x.pool ∧ x.pool < n + zjD h
 ix : 0 ≤ x.idx ∧ x.idx ≤ 1000000
structure OkB (T : Nat) (b : Bld) : Prop where
 its : ∀ x ∈ b.items, zm3 b.shut.length b.has x
 put : ∀ j : Nat, j < b.shut.length → ∃ x ∈ b.items, x.kind = 9 ∧ x.pool = j
 len : b.marks.length = b.syms.length
 pos : ∀ m ∈ b.marks, 0 ≤ m
 shl : ∀ p ∈ b.shut, p.length ≤ T
theorem OkB.fail {T : Nat} {b : Bld} (h : OkB T b) (e line : Int) : OkB T (yA b e line) := by
 unfold yA
 split
 ·exact ⟨h.its, h.put, h.len, h.pos, h.shl⟩
 ·exact h
theorem OkB.set {T : Nat} {b : Bld} (h : OkB T b) (s : RB) : OkB T (xJ b s) := ⟨h.its, h.put, h.len, h.pos, h.shl⟩
theorem OkB.puts {T : Nat} {b : Bld} (h : OkB T b) {x : zx} (hx : zm3 b.shut.length b.has x) : OkB T (xu b x) :=
 ⟨fun y hy => by
   rcases List.mem_append.1 hy with hy | hy
   ·exact h.its y hy
   ·rw [List.mem_singleton] at hy; subst hy; exact hx,
 fun j hj => by obtain ⟨y, h1, h2⟩ := h.put j hj; exact ⟨y, List.mem_append_left _ h1, h2⟩, h.len, h.pos, h.shl⟩
theorem OkB.label {T : Nat} {q : List zk} {b : Bld} (h : OkB T b) (t : yB) (line : Int) : OkB T (xN q b t line) := by
 unfold xN
 split
 ·exact h.fail _ _
 ·refine ⟨h.its, h.put, by simp [h.len], fun m hm => ?_, h.shl⟩
  rcases List.mem_append.1 hm with hm | hm
  ·exact h.pos m hm
  ·rw [List.mem_singleton] at hm; subst hm; omega
theorem ztD {n : Nat} {h : Bool} {x : zx} (h8 : x.kind ≠ 8) (h7 : x.kind ≠ 7) (h9 : x.kind ≠ 9) (h6 : x.kind ≠ 6) (hi : x.idx = 0) : zm3 n h x :=
 ⟨fun e => absurd e h8, fun e => absurd e h7, fun e => absurd e h9, fun e => absurd e h6, by omega⟩
theorem zvh {n : Nat} {h : Bool} {size line : Int} {v : zq} (hs : size = 1 ∨ size = 2 ∨ size = 4) : zm3 n h ⟨7, 0, line, noI, false, size, v, 0, 0⟩ :=
 ⟨fun e => absurd e (by dsimp only; decide), fun _ => by dsimp only; omega, fun e => absurd e (by dsimp only; decide), fun e => absurd e (by dsimp only; decide), by dsimp only; decide⟩
theorem OkB.dat {T : Nat} {b : Bld} (h : OkB T b) {size : Int} (hs : size = 1 ∨ size = 2 ∨ size = 4) (line : Int) (o : AOp) : OkB T (wG size line b o) := by
 unfold wG
 refine OkB.puts ?_ (zvh hs)
 repeat' split
 all_goals first | exact h.fail _ _ | exact h
theorem OkB.datas {T : Nat} {size : Int} (hs : size = 1 ∨ size = 2 ∨ size = 4) {line : Int} : ∀ (l : List AOp) {b : Bld}, OkB T b → OkB T (l.foldl (wG size line) b)
 | [], b, h => h
 | o :: l, b, h => OkB.datas hs l (h.dat hs line o)
theorem OkB.data {T : Nat} {b : Bld} (h : OkB T b) {size : Int} (hs : size = 1 ∨ size = 2 ∨ size = 4) (l : List AOp) (line : Int) : OkB T (kw b size l line) := by
 unfold kw
 refine OkB.datas hs l ?_
 split
 ·exact h.fail _ _
 ·exact h
theorem OkB.align {T : Nat} {b : Bld} (h : OkB T b) (l : List AOp) (line : Int) : OkB T (qB b l line) := by
 unfold qB
 split
 ·exact h.fail _ _
 split
 ·exact h.fail _ _
 ·rename_i hn
  exact h.puts ⟨fun _ => by dsimp only; omega, fun e => absurd e (by dsimp only; decide), fun e => absurd e (by dsimp only; decide), fun e => absurd e (by dsimp only; decide), by dsimp only; decide⟩
theorem OkB.pool {T : Nat} {b : Bld} (h : OkB T b) (hc : b.cur.length ≤ T) (line : Int) : OkB T (vy b line) := by
 unfold vy
 split
 ·rename_i hh
  have hl : (b.shut ++ [b.cur]).length = b.shut.length + 1 := by simp
  refine ⟨fun x hx => ?_, fun j hj => ?_, h.len, h.pos, fun p hp => ?_⟩
  ·dsimp only at hx ⊢
   rw [hl]
   rcases List.mem_append.1 hx with hx | hx
   ·have := h.its x hx
    refine ⟨this.al, this.da, fun e => ?_, fun e => ?_, this.ix⟩
    ·have := this.po e; omega
    ·have := this.li e
     rw [hh] at this
     have h1 : zjD true = 1 := rfl
     have h0 : zjD false = 0 := rfl
     rw [h1] at this
     rw [h0]
     omega
   ·rw [List.mem_singleton] at hx
    subst hx
    exact ⟨fun e => absurd e (by dsimp only; decide), fun e => absurd e (by dsimp only; decide), fun _ => by dsimp only; omega, fun e => absurd e (by dsimp only; decide), by dsimp only; decide⟩
  ·have hj : j < (b.shut ++ [b.cur]).length := hj
   rw [hl] at hj
   by_cases hjn : j < b.shut.length
   ·obtain ⟨y, h1, h2⟩ := h.put j hjn
    exact ⟨y, List.mem_append_left _ h1, h2⟩
   ·refine ⟨⟨9, 0, line, noI, false, 0, noV, b.shut.length, 0⟩, List.mem_append_right _ (List.mem_singleton.2 rfl), rfl, ?_⟩
    show ((b.shut.length : Nat) : Int) = j
    omega
  ·rcases List.mem_append.1 hp with hp | hp
   ·exact h.shl p hp
   ·rw [List.mem_singleton] at hp; subst hp; exact hc
 ·exact h
theorem zr1 (b : Bld) (line : Int) : (vy b line).has = false := by
 unfold vy
 split
 ·rfl
 ·rename_i h
  cases hb : b.has with
  | true => exact absurd hb h
  | false => rfl
theorem zoZ (v : zq) : ∀ (l : List zq) (k : Nat), wg v l k ≤ k + l.length
 | [], k => by rw [wg]; simp
 | x :: l, k => by
  rw [wg]
  split
  ·simp; omega
  ·have := zoZ v l (k + 1)
   simp only [List.length_cons]; omega
theorem OkB.lit {T : Nat} {b : Bld} (h : OkB T b) (hc : b.cur.length ≤ 1000000) (v : zq) (reg line : Int) : OkB T (kb b v reg line) := by
 have hs : 0 ≤ wQ v b.cur ∧ wQ v b.cur ≤ 1000000 := by
  have := zoZ v b.cur 0
  unfold wQ
  split
  ·omega
  ·omega
 have h1 : zjD true = 1 := rfl
 have hb : OkB T { b with has := true, cur := wP v b.cur } := by
  refine ⟨fun x hx => ?_, h.put, h.len, h.pos, h.shl⟩
  have := h.its x hx
  refine ⟨this.al, this.da, this.po, fun e => ?_, this.ix⟩
  have := this.li e
  dsimp only
  rw [h1]
  cases hb : b.has with
  | true => rw [hb, h1] at this; exact this
  | false =>
   rw [hb] at this
   have h0 : zjD false = 0 := rfl
   rw [h0] at this
   omega
 exact hb.puts ⟨fun e => absurd e (by dsimp only; decide), fun e => absurd e (by dsimp only; decide), fun e => absurd e (by dsimp only; decide), fun _ => by dsimp only; rw [h1]; omega, hs⟩
theorem ztE {n : Nat} {h : Bool} (op sh : Int) (l : List AOp) (line : Int) : zm3 n h (wF op sh l line) := by
 unfold wF
 repeat' split
 all_goals exact ztD (by dsimp only; decide) (by dsimp only; decide) (by dsimp only; decide) (by dsimp only; decide) rfl
theorem OkB.instr {T : Nat} {b : Bld} (h : OkB T b) (hc : b.cur.length ≤ 1000000) (name : List UInt8) (l : List AOp) (line : Int) : OkB T (xp b name l line) := by
 unfold xp
 split
 ·exact h.lit hc _ _ _
 split
 ·exact h.fail _ _
 split
 ·exact h.fail _ _
 split
 ·exact h.puts (ztE _ _ _ _)
 ·exact h.fail _ _
theorem OkB.word {T : Nat} {b : Bld} (h : OkB T b) (hT : b.cur.length ≤ T) (hc : b.cur.length ≤ 1000000) (w : List UInt8) (l : List AOp) (line : Int) : OkB T (zei b w l line) := by
 unfold zei
 split
 ·exact h.data (by decide) _ _
 split
 ·exact h.data (by decide) _ _
 split
 ·exact h.data (by decide) _ _
 split
 ·exact h.align _ _
 split
 ·split
  ·exact h.fail _ _
  ·exact h.pool hT _
 ·exact h.instr hc _ _ _
theorem OkB.rest {T : Nat} {q : List zk} {b : Bld} (h : OkB T b) (hT : b.cur.length ≤ T) (hc : b.cur.length ≤ 1000000) (line : Int) (l : List yB) : OkB T (zbD q b line l) := by
 cases l with
 | nil => exact h
 | cons t r =>
  rw [zbD]
  split
  ·exact h
  split
  ·exact h.fail _ _
  split
  ·exact h.set _
  ·exact (h.set _).word hT hc _ _ _
theorem zo0 {T : Nat} {q : List zk} {line : Int} : ∀ (l : List yB) {b : Bld}, OkB T b → OkB T (yZ q line l b).1 ∧ (yZ q line l b).1.cur = b.cur
 | [], b, h => by rw [yZ]; exact ⟨h, rfl⟩
 | [t], b, h => by rw [yZ]; exact ⟨h, rfl⟩
 | t :: c :: r, b, h => by
  rw [yZ]
  split
  ·obtain ⟨h1, h2⟩ := zo0 r (h.label (q := q) t line)
   refine ⟨h1, h2.trans ?_⟩
   unfold xN
   split
   ·unfold yA; split <;> rfl
   ·rfl
  ·exact ⟨h, rfl⟩
theorem OkB.line {T : Nat} {q : List zk} {b : Bld} (h : OkB T b) (hT : b.cur.length ≤ T) (hc : b.cur.length ≤ 1000000) (x : yI) : OkB T (xK q b x) := by
 obtain ⟨h1, h2⟩ := zo0 (q := q) (line := x.pos) x.toks h
 exact h1.rest (by rw [h2]; exact hT) (by rw [h2]; exact hc) _ _
def vp : List yI → Nat
 | [] => 0
 | x :: l => x.toks.length + vp l
def b0 : Bld := ⟨[], [], [], [], false, [], 0, 0⟩
def xG (q : List zk) (l : List yI) (b : Bld) : Bld := l.foldl (xK q) b
def zaw (l : List yI) : Int := l.foldl (fun _ x => x.pos) 0
def noO : y0 := ⟨[], [], []⟩
def zm4 (b : Bld) : y0 × Int × Int :=
 if b.fe ≠ 0 then (noO, b.fe, b.fa) else if 8000 < (yG b.shut b.marks ⟨b.items, b.syms⟩).2 then (noO, 4, 0)
 else if (vf b.shut (yG b.shut b.marks ⟨b.items, b.syms⟩).1.items (yG b.shut b.marks ⟨b.items, b.syms⟩).1.syms ⟨[], [], b.fe, b.fa⟩).fe ≠ 0
  then (noO, (vf b.shut (yG b.shut b.marks ⟨b.items, b.syms⟩).1.items (yG b.shut b.marks ⟨b.items, b.syms⟩).1.syms ⟨[], [], b.fe, b.fa⟩).fe,
   (vf b.shut (yG b.shut b.marks ⟨b.items, b.syms⟩).1.items (yG b.shut b.marks ⟨b.items, b.syms⟩).1.syms ⟨[], [], b.fe, b.fa⟩).fa)
 else (⟨(vf b.shut (yG b.shut b.marks ⟨b.items, b.syms⟩).1.items (yG b.shut b.marks ⟨b.items, b.syms⟩).1.syms ⟨[], [], b.fe, b.fa⟩).code, (yG b.shut b.marks ⟨b.items, b.syms⟩).1.syms,
  (vf b.shut (yG b.shut b.marks ⟨b.items, b.syms⟩).1.items (yG b.shut b.marks ⟨b.items, b.syms⟩).1.syms ⟨[], [], b.fe, b.fa⟩).rels⟩, 0, 0)
def vq (q : List zk) (l : List yI) : y0 × Int × Int := zm4 (vy (xG q l b0) (zaw l))
attribute [local irreducible] zh.kids zh.kind zh.n zh.name wi vA xb xC xl xN xT vZ yy yV yb zd xn wQ zL zT wP xZ
def T4 : Ob := .cells [.nilsl, .nilsl, .nilsl]
def T5 : Ob := .cells [.int .i64 0, .int .i64 0]
def zxf (q : List zk) : List D := [.sl 2 (q.map x9) none, .nilsl, .nilsl, .nilsl, .nilsl, .int .i64 0, .nilsl, .nilsl, .nilsl, .int .i64 0, .int .i64 0]
theorem zqk {σ σ' : List (Nat × D)} (q : List zk) (h : zgb (zD [2, 3, 4, 5, 6, 7, 0, 1] 0) σ σ') : wa 0 σ [T4, T5, .cells (zxf q)] σ' (bO q b0 ++ [T4, T5]) := by
 have key : zD [2, 3, 4, 5, 6, 7, 0, 1] 0 3 = some 1 := rfl
 refine wz (zb2 2 13 [.sl 2 (q.map x9) none, .osl 13 3 0 0 0, .nilsl, .nilsl, .nilsl, .int .i64 0, .nilsl, .nilsl, .nilsl, .int .i64 0, .int .i64 0] rfl ⟨.same, .here, .same, .same, .same, .same, .same, .same, .same, .same, .same, trivial⟩) ?_
 refine wz (zb2 2 2 [.sl 2 (q.map x9) none, .osl 13 3 0 0 0, .osl 2 4 0 0 0, .nilsl, .nilsl, .int .i64 0, .nilsl, .nilsl, .nilsl, .int .i64 0, .int .i64 0] rfl ⟨.same, .same, .here, .same, .same, .same, .same, .same, .same, .same, .same, trivial⟩) ?_
 refine wz (qz 2 1 [.sl 2 (q.map x9) none, .osl 13 3 0 0 0, .osl 2 4 0 0 0, .sl 1 [] (some 5), .nilsl, .int .i64 0, .nilsl, .nilsl, .nilsl, .int .i64 0, .int .i64 0] rfl ⟨.same, .same, .same, .here, .same, .same, .same, .same, .same, .same, .same, trivial⟩) ?_
 refine wz (zb2 2 1 [.sl 2 (q.map x9) none, .osl 13 3 0 0 0, .osl 2 4 0 0 0, .sl 1 [] (some 5), .osl 1 6 0 0 0, .int .i64 0, .nilsl, .nilsl, .nilsl, .int .i64 0, .int .i64 0] rfl ⟨.same, .same, .same, .same, .here, .same, .same, .same, .same, .same, .same, trivial⟩) ?_
 refine wz zkH ?_
 refine zbv [2, 3, 4, 5, 6, 7, 0, 1] rfl rfl ?_ h
 refine .cons (o := .cells [.sl 2 (q.map x9) none, .osl 13 3 0 0 0, .osl 2 4 0 0 0, .sl 1 [] (some 5), .osl 1 6 0 0 0, .int .i64 0, .nilsl, .nilsl, .nilsl, .int .i64 0, .int .i64 0]) rfl
  ⟨_, rfl, .cons (.flat .sl) (.cons (.osl rfl) (.cons (.osl rfl) (.cons (.tok rfl) (.cons (.osl rfl) (.cons (.flat .int) (.cons (.flat .nilsl) (.cons (.flat .nilsl) (.cons (.flat .nilsl) (.cons (.flat .int) (.cons (.flat .int) .nil))))))))))⟩
  (.cons (o := .arr 13 []) rfl ⟨_, rfl, rfl, by simp⟩ (.cons (o := .arr 2 []) rfl ⟨_, rfl, rfl, by simp⟩ (.cons (o := .spare 0) rfl rfl (.cons (o := .arr 1 []) rfl ⟨_, rfl, rfl, by simp⟩ (.cons (o := .dead) rfl rfl
  (.cons (o := T4) rfl ⟨_, rfl, .cons (.flat .nilsl) (.cons (.flat .nilsl) (.cons (.flat .nilsl) .nil))⟩ (.cons (o := T5) rfl ⟨_, rfl, .cons (.flat .int) (.cons (.flat .int) .nil)⟩ .nil)))))))
theorem zr2 {av : List D} {L : List Ob} {KP : D → Prop} {KW : D → List Ob → Prop} (q : List zk) (b : Bld) (x : yI) (X : List Ob) (hr : z7 b (1 + x.toks.length)) (hw : wt (x.toks.map tk) ≤ 1048576) (hq : q.length ≤ 1000000)
  (hL : L = bO q b ++ X) (has : av = [.loc 0 0, x3 x])
  (hK1 : ((xK q b x).has = true → b.has = true) → KW (.tup []) (bO q (xK q b x) ++ X))
  (hK2 : b.has = false → (xK q b x).has = true → KW (.tup []) (bOn L.length q (xK q b x) ++ X ++ [.spare (xK q b x).cur.length])) : zn Tryz.prog zaW av L KP KW := by
 subst has
 have hcl : ClL (bO q b).length [.loc 0 0, x3 x] := .cons (.loc (Nat.lt_of_lt_of_le (by decide : 0 < 6) (Nat.le_of_eq rfl))) (.cons (.agg (.cons .int (.cons .sl .nil))) .nil)
 by_cases h : b.has = false ∧ (xK q b x).has = true
 ·refine zj5 ziC (bO q b) X (bOn 6 q (xK q b x)) (bOn L.length q (xK q b x)) (.spare (xK q b x).cur.length) (d := .tup []) hL ⟨(b, x, q), ⟨hr, hw, hq⟩, LeL.refl _, rfl, rfl, (zeh h.1 h.2).symm⟩ rfl rfl hcl .tup0 (xc _ _)
   (fun m hm hk => zgk q _ (fun j hj => hm j (Nat.lt_of_lt_of_le hj (by decide : 5 ≤ 6))) hk) .spare (hK2 h.1 h.2)
 ·have hn : (xK q b x).has = true → b.has = true := fun e => by
   cases hb : b.has with
   | true => rfl
   | false => exact absurd ⟨hb, e⟩ h
  refine zhd ziC (bO q b) X (bO q (xK q b x)) (d := .tup []) hL ⟨(b, x, q), ⟨hr, hw, hq⟩, LeL.refl _, rfl, rfl, (zgj hn).symm⟩ rfl hcl .tup0 (xc _ _) (xc _ _) (hK1 hn)
theorem zwr (q : List zk) (b : Bld) : ∀ x ∈ bO q b ++ [T4, T5], ClO (bO q b ++ [T4, T5]).length x := by
 intro x hx
 have hl : (bO q b ++ [T4, T5]).length = 8 := rfl
 rw [hl]
 rcases List.mem_append.1 hx with hx | hx
 ·exact ClO.up (xc q b x hx) (by decide)
 ·simp only [List.mem_cons, List.not_mem_nil, or_false] at hx
  rcases hx with rfl | rfl
  ·exact .cells (.cons .nilsl (.cons .nilsl (.cons .nilsl .nil)))
  ·exact .cells (.cons .int (.cons .int .nil))
theorem zws (q : List zk) (b : Bld) (h : b.has = true) : bO q b = [.cells (bCk q b), .arr 13 (b.items.map xm), .arr 2 (b.syms.map yF), .spare b.marks.length, .arr 1 (b.shut.map y6 ++ [.sl 2 (b.cur.map yE) (some 5)]), .spare b.cur.length] := by
 have hp : zJ b = b.shut.map y6 ++ [.sl 2 (b.cur.map yE) (some 5)] := by unfold zJ; rw [h]
 have hc : zda b = .spare b.cur.length := by unfold zda; rw [h]
 have hb : bC q b = bCk q b := by unfold bC bCk; rw [hp]; simp
 unfold bO bT
 rw [hb, hp, hc]
theorem zr3 {σ σ' : List (Nat × D)} (q : List zk) (b : Bld) (Y : Ob) (h : b.has = true) (hs : zgb (zD [0, 1, 2, 3, 4, 9, 6, 7] 0) σ σ') : wa 0 σ (bOn 9 q b ++ [T4, T5, Y] ++ [.spare b.cur.length]) σ' (bO q b ++ [T4, T5]) := by
 have key : ∀ k, k < 5 → zD [0, 1, 2, 3, 4, 9, 6, 7] 0 k = some k := by decide
 have hr := zgk (m := zD [0, 1, 2, 3, 4, 9, 6, 7] 0) (k := 9) (k' := 5) q b key rfl
 rw [zws q b h]
 refine zbv [0, 1, 2, 3, 4, 9, 6, 7] rfl rfl ?_ hs
 exact .cons (o := .cells (bCk q b)) rfl (hr 0 _ _ rfl rfl) (.cons (o := .arr 13 (b.items.map xm)) rfl (hr 1 _ _ rfl rfl) (.cons (o := .arr 2 (b.syms.map yF)) rfl (hr 2 _ _ rfl rfl) (.cons (o := .spare b.marks.length) rfl (hr 3 _ _ rfl rfl)
  (.cons (o := .arr 1 (b.shut.map y6 ++ [.sl 2 (b.cur.map yE) (some 9)])) rfl (hr 4 _ _ rfl rfl) (.cons (o := .spare b.cur.length) rfl rfl
  (.cons (o := T4) rfl ⟨_, rfl, .cons (.flat .nilsl) (.cons (.flat .nilsl) (.cons (.flat .nilsl) .nil))⟩ (.cons (o := T5) rfl ⟨_, rfl, .cons (.flat .int) (.cons (.flat .int) .nil)⟩ .nil)))))))
theorem zgM (q : List zk) (x : yI) (l : List yI) (b : Bld) : xG q (x :: l) b = xG q l (xK q b x) := rfl
theorem ziE {q : List zk} : ∀ (l : List yI) {b : Bld} {k : Nat}, z7 b (k + vp l) → z7 (xG q l b) k
 | [], b, k, h => h
 | x :: l, b, k, h => ziE l (z7.line x (by rw [vp] at h; exact h.less (by omega)))
theorem zm5 {T : Nat} {q : List zk} (hT : T ≤ 1000000) : ∀ (l : List yI) {b : Bld}, z7 b (1000000 - T + vp l) → OkB T b → OkB T (xG q l b)
 | [], b, _, h => h
 | x :: l, b, hr, h => by
  rw [vp] at hr
  have hc := hr.curl
  exact zm5 hT l (z7.line x (hr.less (by omega))) (h.line (by omega) (by omega) x)
theorem zql : z7 b0 1000000 := ⟨by decide, by decide, by decide, by decide, by decide, fun _ => rfl⟩
theorem ok0 (T : Nat) : OkB T b0 := ⟨(fun x hx => by cases hx), fun j hj => absurd hj (Nat.not_lt_zero j), rfl, (fun m hm => by cases hm), (fun p hp => by cases hp)⟩
end Go.Proofs.YthmdddenbfbefaaGreatDoor
namespace Go.Proofs.YthmdddenbfbefaaGreatDoor
open Go Go.Plat
set_option linter.unusedVariables false
set_option linter.unusedSimpArgs false
set_option maxRecDepth 100000
set_option maxHeartbeats 2000000
attribute [local irreducible] AWP zy ye zF zn yt z6 zE zW Lib.itoa zY zp za zN yu zo zZ yp yq yj yl zt zu xf wi zw vA xk wO wg xl yH xQ yb wx xn zT yU
structure Sim (x y : zx) : Prop where
 kind : y.kind = x.kind
 size : y.size = x.size
 pool : y.pool = x.pool
 idx : y.idx = x.idx
structure zbo (l m : List zx) : Prop where
 len : m.length = l.length
 from_ : ∀ y ∈ m, ∃ x ∈ l, Sim x y
 to_ : ∀ x ∈ l, ∃ y ∈ m, Sim x y
theorem zbo.refl (l : List zx) : zbo l l := ⟨rfl, fun y h => ⟨y, h, rfl, rfl, rfl, rfl⟩, fun y h => ⟨y, h, rfl, rfl, rfl, rfl⟩⟩
theorem Sim.trans {x y z : zx} (h : Sim x y) (k : Sim y z) : Sim x z := ⟨k.kind.trans h.kind, k.size.trans h.size, k.pool.trans h.pool, k.idx.trans h.idx⟩
theorem zbo.trans {a b c : List zx} (h : zbo a b) (k : zbo b c) : zbo a c :=
 ⟨k.len.trans h.len, fun z hz => by obtain ⟨y, h1, h2⟩ := k.from_ z hz; obtain ⟨x, h3, h4⟩ := h.from_ y h1; exact ⟨x, h3, h4.trans h2⟩,
   fun x hx => by obtain ⟨y, h1, h2⟩ := h.to_ x hx; obtain ⟨z, h3, h4⟩ := k.to_ y h1; exact ⟨z, h3, h2.trans h4⟩⟩
theorem zbo.cons {x y : zx} {l m : List zx} (h : Sim x y) (k : zbo l m) : zbo (x :: l) (y :: m) :=
 ⟨by simp [k.len], fun z hz => by
   rcases List.mem_cons.1 hz with rfl | hz
   ·exact ⟨x, List.mem_cons_self, h⟩
   ·obtain ⟨w, h1, h2⟩ := k.from_ z hz; exact ⟨w, List.mem_cons_of_mem _ h1, h2⟩,
 fun z hz => by
  rcases List.mem_cons.1 hz with rfl | hz
  ·exact ⟨y, List.mem_cons_self, h⟩
  ·obtain ⟨w, h1, h2⟩ := k.to_ z hz; exact ⟨w, List.mem_cons_of_mem _ h1, h2⟩⟩
theorem zkj (pools : List (List zq)) : ∀ (l : List zx) (a : Int), zbo l (yi pools l a).1
 | [], a => .refl _
 | x :: l, a => by rw [yi]; exact .cons ⟨rfl, rfl, rfl, rfl⟩ (zkj pools l _)
theorem zm6 (syms : List zz) : ∀ l : List zx, zbo l (l.map (yT syms))
 | [] => .refl _
 | x :: l => .cons (by unfold yT; split <;> exact ⟨rfl, rfl, rfl, rfl⟩) (zm6 syms l)
theorem zr4 {pools : List (List zq)} {x y : zx} (h : Sim x y) (k : wv pools x) : wv pools y :=
 ⟨fun e => by rw [h.size]; exact k.1 (by rw [← h.kind]; exact e), fun e => by rw [h.size]; exact k.2.1 (by rw [← h.kind]; exact e), fun e => by rw [h.pool]; exact k.2.2.1 (by rw [← h.kind]; exact e), k.2.2.2⟩
theorem zkk {pools : List (List zq)} : ∀ (l : List zx) (a : Int), 0 ≤ a → (∀ x ∈ l, wv pools x) → a ≤ (yi pools l a).2 ∧ ∀ x ∈ (yi pools l a).1, 0 ≤ x.at_ ∧ x.at_ ≤ (yi pools l a).2
 | [], a, h0, _ => ⟨Int.le_refl a, fun x hx => by cases hx⟩
 | y :: l, a, h0, hs => by
  have hz := zjC (a := a) (hs y List.mem_cons_self) h0
  obtain ⟨h1, h2⟩ := zkk l (a + xn pools y a) (by omega) (fun z hz => hs z (List.mem_cons_of_mem _ hz))
  rw [yi]
  refine ⟨by dsimp only; omega, fun x hx => ?_⟩
  rcases List.mem_cons.1 hx with rfl | hx
  ·exact ⟨h0, by dsimp only; omega⟩
  ·exact h2 x hx
structure zwt (pools : List (List zq)) (s : Lay) (R : Lay × Int) : Prop where
 sim : zbo s.items R.1.items
 syms : R.1.syms.length = s.syms.length
 at_ : ∀ x ∈ R.1.items, 0 ≤ x.at_ ∧ x.at_ ≤ R.2
theorem ziF {pools : List (List zq)} {marks : List Int} : ∀ (f : Nat) (s : Lay), wj s.items < f → (∀ x ∈ s.items, wv pools x) → zwt pools s (zcd pools marks f s)
 | 0, s, h, _ => absurd h (Nat.not_lt_zero _)
 | f + 1, s, h, hs => by
  have h1 := zkj pools s.items 0
  have h2 := zkk s.items 0 (Int.le_refl 0) hs
  have h3 := zcf pools s.items 0
  have h4 : (yK pools marks s).1.syms.length = s.syms.length := zbE _ _ _ _
  have hP : (yK pools marks s).1.items = (yi pools s.items 0).1 := rfl
  have hE : (yK pools marks s).2 = (yi pools s.items 0).2 := rfl
  rw [zdb]
  generalize yK pools marks s = P at *
  rw [← hP] at h1 h2 h3
  rw [← hE] at h2
  clear hP hE
  have h5 := zm6 P.1.syms P.1.items
  have hgr := zek P.1.syms P.1.items
  have hat : ∀ x ∈ P.1.items.map (yT P.1.syms), 0 ≤ x.at_ ∧ x.at_ ≤ P.2 := by
   intro x hx
   obtain ⟨y, hy, rfl⟩ := List.mem_map.1 hx
   have := h2.2 y hy
   unfold yT
   split
   ·exact this
   ·exact this
  have hso : ∀ x ∈ P.1.items.map (yT P.1.syms), wv pools x := by
   intro x hx
   obtain ⟨y, hy, h6⟩ := (h1.trans h5).from_ x hx
   exact zr4 h6 (hs y hy)
  split
  ·exact ⟨h1.trans h5, h4, hat⟩
  ·rename_i hn
   have hany : P.1.items.any (xB P.1.syms) = true := by
    cases hb : P.1.items.any (xB P.1.syms) with
    | true => rfl
    | false => exact absurd (.inl hb) hn
   have := hgr.2 hany
   have ih := ziF (pools := pools) (marks := marks) f ⟨P.1.items.map (yT P.1.syms), P.1.syms⟩ (by show wj (P.1.items.map (yT P.1.syms)) < f; omega) hso
   exact ⟨(h1.trans h5).trans ih.sim, ih.syms.trans h4, ih.at_⟩
theorem zkl (syms : List zz) : ∀ (p : List zq) (o : Out), (p.foldl (fun o v => xZ syms o v 4) o).code.length = o.code.length + 4 * p.length ∧ (p.foldl (fun o v => xZ syms o v 4) o).rels.length ≤ o.rels.length + p.length
 | [], o => by simp
 | v :: p, o => by
  have h1 := zcU syms o v 4
  have h2 := zfF syms o v 4
  obtain ⟨h3, h4⟩ := zkl syms p (xZ syms o v 4)
  rw [List.foldl_cons]
  simp only [List.length_cons]
  omega
theorem kh (o : Out) (e line : Int) : (w6 o e line).code = o.code ∧ (w6 o e line).rels = o.rels := by unfold w6; split <;> exact ⟨rfl, rfl⟩
theorem zcV (o : Out) (i : Ins) (line : Int) : (xC o i line).rels = o.rels := by
 unfold xC
 split
 ·rfl
 ·exact (kh _ _ _).2
theorem zcW (o : Out) (i : Ins) (a to line : Int) : (xT o i a to line).rels = o.rels := by
 unfold xT
 split
 ·exact zcV _ _ _
 ·exact (kh _ _ _).2
theorem ztF (o : Out) (x : zx) (to : Int) : (vZ o x to).code.length ≤ o.code.length + 6 ∧ (vZ o x to).rels = o.rels := by
 unfold vZ
 split
 ·exact ⟨by have := zch o x.ins x.at_ to x.line; omega, zcW _ _ _ _ _⟩
 ·have h1 := zcg o ⟨w64 (35 - x.ins.op), 0, 0, 1⟩ x.line
  have h2 := zch (xC o ⟨w64 (35 - x.ins.op), 0, 0, 1⟩ x.line) ⟨19, 0, 0, 0⟩ (x.at_ + 2) to x.line
  have h3 := zcg (xT (xC o ⟨w64 (35 - x.ins.op), 0, 0, 1⟩ x.line) ⟨19, 0, 0, 0⟩ (x.at_ + 2) to x.line) ⟨1, 0, 0, 0⟩ x.line
  exact ⟨by omega, by rw [zcV, zcW, zcV]⟩
theorem zkm (o : Out) (to : Int) : (wk o to).code.length ≤ o.code.length + to.toNat := by
 unfold wk
 simp only [List.length_append, List.length_replicate]
 omega
theorem zr5 {pools : List (List zq)} {items : List zx} {syms : List zz} {o : Out} {x : zx} (hs : wv pools x) (h0 : 0 ≤ x.at_) (h1 : x.at_ ≤ 8000) (hp : ∀ p ∈ pools, p.length ≤ 9000) :
  (vP pools items syms o x).code.length ≤ o.code.length + 44100 ∧ (vP pools items syms o x).rels.length ≤ o.rels.length + 9000 := by
 have hu4 := kP (n := x.at_) (k := 4) (by decide)
 unfold vP
 split
 ·rename_i h7
  have := hs.2.1 h7
  split
  ·rw [(kh _ _ _).1, (kh _ _ _).2]; omega
  ·have h2 := zcU syms o x.val x.size.toNat
   have h3 := zfF syms o x.val x.size.toNat
   omega
 split
 ·rename_i h8
  have := hs.1 h8
  have hu := kP (n := x.at_) this.1
  have h2 := zkm o (upA x.at_ x.size)
  rw [zfE]
  omega
 split
 ·have h2 := zkm o (upA x.at_ 4)
  have h3 := zkl syms ((pools[x.pool.toNat]?).getD []) (wk o (upA x.at_ 4))
  rw [zfE] at h3
  have h4 : ((pools[x.pool.toNat]?).getD []).length ≤ 9000 := by
   cases hg : pools[x.pool.toNat]? with
   | none => simp
   | some p => exact hp p (List.mem_of_getElem? hg)
  omega
 split
 ·rw [(kh _ _ _).1, (kh _ _ _).2]; omega
 split
 ·have := zcg o x.ins x.line; rw [zcV]; omega
 split
 ·have := zch o x.ins x.at_ (upA (itA items (zmL x.pool items 0)).at_ 4 + 4 * x.idx) x.line; rw [zcW]; omega
 split
 ·rw [(kh _ _ _).1, (kh _ _ _).2]; omega
 split
 ·have := ztF o x (zT syms x.val).1; rw [this.2]; omega
 ·have := zch o x.ins x.at_ (zT syms x.val).1 x.line; rw [zcW]; omega
theorem zm7 {α : Type} (p : α → Bool) : ∀ (l : List α) (k : Nat), (∃ x ∈ l, p x = true) → 0 ≤ xA p l k
 | [], k, h => by obtain ⟨x, h, _⟩ := h; cases h
 | y :: l, k, h => by
  rw [xA]
  split
  ·omega
  ·rename_i hn
   obtain ⟨x, h1, h2⟩ := h
   rcases List.mem_cons.1 h1 with rfl | h1
   ·exact absurd h2 hn
   ·exact zm7 p l (k + 1) ⟨x, h1, h2⟩
attribute [local irreducible] zh.kids zh.kind zh.n zh.name xb xC xN xT vZ yy yV zd wQ zL wP xZ
theorem zqm (l : List zz) : zbX (l.map yF) (l.map yF) := by
 refine ⟨rfl, fun i d d' h1 h2 => ?_⟩
 rw [h1] at h2
 cases h2
 simp only [List.getElem?_map, Option.map_eq_some_iff] at h1
 obtain ⟨c, _, rfl⟩ := h1
 refine ⟨rfl, rfl, fun j x x' h3 h4 => ?_⟩
 rw [h3] at h4
 cases h4
 match j, h3 with
 | 0, h3 =>
  cases h3
  intro w F ρ L v h
  cases h with | pure _ _ h => exact h
 | 1, h3 =>
  cases h3
  intro w F ρ L v h
  cases h with | pure _ _ h => exact h
 | j + 2, h3 => simp [yF, D.cells] at h3
theorem ztG {σ σ' : List (Nat × D)} (q : List zk) (items : List zx) (syms : List zz) (marks : List Int) (shut : List (List zq)) (cur : List zq) (fe fa : Int) (h : zgb (zD [0, 1, 2, 3, 4, 8, 9, 6, 7] 0) σ σ') :
  wa 0 σ (bO q ⟨items, syms, marks, shut, false, cur, fe, fa⟩ ++ [T4, T5]) σ' (eO q ⟨items, syms, marks, shut, false, cur, fe, fa⟩ ⟨[], [], fe, fa⟩ ++ [T4, T5]) := by
 have key : ∀ k, k < 5 → zD [0, 1, 2, 3, 4, 8, 9, 6, 7] 0 k = some k := by decide
 refine wz (qz 0 4 [.sl 2 (q.map x9) none, .osl 13 1 items.length 0 items.length, .osl 2 2 syms.length 0 syms.length, .sl 1 (marks.map (.int .i64)) (some 3), .osl 1 4 (zJ ⟨items, syms, marks, shut, false, cur, fe, fa⟩).length 0 (zJ ⟨items, syms, marks, shut, false, cur, fe, fa⟩).length,
  .int .i64 shut.length, .nilsl, .nilsl, .sl 4 [] (some 8), .int .i64 fe, .int .i64 fa] rfl ⟨.same, .same, .same, .same, .same, .same, .same, .same, .here, .same, .same, trivial⟩) ?_
 refine wz (qz 0 1 [.sl 2 (q.map x9) none, .osl 13 1 items.length 0 items.length, .osl 2 2 syms.length 0 syms.length, .sl 1 (marks.map (.int .i64)) (some 3), .osl 1 4 (zJ ⟨items, syms, marks, shut, false, cur, fe, fa⟩).length 0 (zJ ⟨items, syms, marks, shut, false, cur, fe, fa⟩).length,
  .int .i64 shut.length, .sl 1 [] (some 9), .nilsl, .sl 4 [] (some 8), .int .i64 fe, .int .i64 fa] rfl ⟨.same, .same, .same, .same, .same, .same, .here, .same, .same, .same, .same, trivial⟩) ?_
 refine zbv [0, 1, 2, 3, 4, 8, 9, 6, 7] rfl rfl ?_ h
 exact .cons (o := .cells [.sl 2 (q.map x9) none, .osl 13 1 items.length 0 items.length, .osl 2 2 syms.length 0 syms.length, .sl 1 (marks.map (.int .i64)) (some 3), .osl 1 4 (zJ ⟨items, syms, marks, shut, false, cur, fe, fa⟩).length 0 (zJ ⟨items, syms, marks, shut, false, cur, fe, fa⟩).length,
   .int .i64 shut.length, .sl 1 [] (some 9), .nilsl, .sl 4 [] (some 8), .int .i64 fe, .int .i64 fa]) rfl
  ⟨_, rfl, .cons (.flat .sl) (.cons (.osl rfl) (.cons (.osl rfl) (.cons (.tok rfl) (.cons (.osl rfl) (.cons (.flat .int) (.cons (.tok rfl) (.cons (.flat .nilsl) (.cons (.tok rfl) (.cons (.flat .int) (.cons (.flat .int) .nil))))))))))⟩
  (.cons (o := .arr 13 (items.map xm)) rfl (ClO.arr (n := 5) (ke _) _ key) (.cons (o := .arr 2 (syms.map yF)) rfl (ClO.arr (n := 5) (jy _) _ key) (.cons (o := .spare marks.length) rfl rfl (.cons (o := .arr 1 (shut.map y6)) rfl (ClO.arr (n := 5) (zhq _) _ key)
  (.cons (o := .spare 0) rfl rfl (.cons (o := .spare 0) rfl rfl
  (.cons (o := T4) rfl ⟨_, rfl, .cons (.flat .nilsl) (.cons (.flat .nilsl) (.cons (.flat .nilsl) .nil))⟩ (.cons (o := T5) rfl ⟨_, rfl, .cons (.flat .int) (.cons (.flat .int) .nil)⟩ .nil))))))))
theorem zfH (pools : List (List zq)) (items : List zx) (syms : List zz) (x : zx) (l : List zx) (o : Out) : (x :: l).foldl (fun o x => if o.fe = 0 then vP pools items syms o x else o) o = l.foldl (fun o x => if o.fe = 0 then vP pools items syms o x else o) (if o.fe = 0 then vP pools items syms o x else o) := rfl
theorem zoi : za Tryz.prog znO (zA (fun ((l, q) : List yI × List zk) => vp l ≤ 9000 ∧ (∀ x ∈ l, wt (x.toks.map tk) ≤ 1048576) ∧ q.length ≤ 1000000 ∧ l.length ≤ 1000000) (fun (l, q) => [.sl 2 (l.map x3) none, .sl 2 (q.map x9) none])
  fun (l, q) => .tup [qG (vq q l).1, .agg [.int .i64 (vq q l).2.1, .int .i64 (vq q l).2.2]]) := by
 refine zg zj Tryz.func19 rfl (by decide) ?_
 rintro ⟨l, q⟩ ⟨ht, hw, hq, hll⟩
 have ht : vp l ≤ 9000 := ht
 have hw : ∀ x ∈ l, wt (x.toks.map tk) ≤ 1048576 := hw
 have hq : q.length ≤ 1000000 := hq
 have hll : l.length ≤ 1000000 := hll
 refine ⟨Nat.le_refl _, by simp [Tryz.f19], fun E hE => ?_⟩
 have hE0 : E.L.length = 0 := by rw [hE]; rfl
 show AWP _ _ _ _ (qa _ _ _ (.tup [qG (vq q l).1, .agg [.int .i64 (vq q l).2.1, .int .i64 (vq q l).2.2]]) []) _ []
 refine wX (zf _ ?_)
 (all_goals refine qgp (Lf.mk ?_))
 refine wX (zf _ ?_)
 (all_goals refine qgp (Lf.mk ?_))
 refine wX (zf _ ?_)
 (all_goals refine qgp (Lf.mk ?_))
 refine zdq (α := Unit) (fun _ => True) (fun _ => [(4, .loc 6 0), (5, .loc 7 0), (6, .loc 0 0), (7, .int .i64 (zaw l))]) (fun _ => bO q (xG q l b0) ++ [T4, T5]) ?_ ?_
 ·refine zf _ ?_
  (all_goals refine qgp (Lf.mk ?_))
  refine xg (α := Nat × Bld × Int) (fun p => p.1 ≤ l.length ∧ xG q (l.drop p.1) p.2.1 = xG q l b0 ∧ (l.drop p.1).foldl (fun _ x => x.pos) p.2.2 = zaw l ∧ z7 p.2.1 (1 + vp (l.drop p.1)))
   (fun p => [(4, .loc 6 0), (5, .loc 7 0), (6, .loc 0 0), (7, .int .i64 p.2.2), (14, .sl 2 (l.map x3) none), (15, .int .i64 l.length), (16, .int .i64 p.1)]) (fun p => bO q p.2.1 ++ [T4, T5]) (fun p => l.length - p.1) (fun _ => by rw [hE0]; exact Nat.zero_le _) (0, b0, 0)
   ⟨Nat.zero_le _, rfl, rfl, zql.less (by show 1 + vp l ≤ _; omega)⟩ ?_ ?_
  ·rw [hE0]
   exact zqk q ⟨.loc rfl, .loc rfl, .loc rfl, .flat .int, .flat .sl, .flat .int, .flat .int, trivial⟩
  rintro ⟨k, b, la⟩ ⟨i1, i2, i3, i4⟩
  dsimp only at i1 i2 i3 i4 ⊢
  refine zf _ ?_
  (all_goals refine qgp ?_ <;> (repeat' first | exact trivial | intro hc | refine And.intro ?_ ?_) <;> refine Lf.mk ?_)
  ·obtain ⟨x, hx⟩ := ya (l := l) (k := k) (by omega)
   have hkl : k < l.length := by omega
   have hgx : l[k] = x := by rw [List.getElem?_eq_getElem hkl] at hx; exact Option.some.inj hx
   rw [List.drop_eq_getElem_cons hkl, hgx] at i2 i3 i4
   rw [zgM] at i2
   rw [List.foldl_cons] at i3
   rw [vp] at i4
   have hr' : z7 (xK q b x) (1 + vp (l.drop (k + 1))) := z7.line x (i4.less (by omega))
   refine zl x (by omega) (by simpa using hx) ?_
   (all_goals refine qgp (Lf.mk ?_))
   refine zr2 q b x [T4, T5, .cells [.int .i64 x.pos, .sl 3 (x.toks.map wN) none]] (i4.less (by omega)) (hw x (List.mem_of_getElem? hx)) hq rfl rfl (fun hn => ?_) (fun hn hn' => ?_)
   ·(all_goals refine qgp (Lf.mk ?_))
    exact q7 (k + 1, xK q b x, x.pos) [.cells [.int .i64 x.pos, .sl 3 (x.toks.map wN) none]] ⟨by show k + 1 ≤ _; omega, i2, i3, hr'⟩ (by dsimp only; omega) (by simp) (by rw [hE0]; exact Nat.zero_le _) (zwr _ _) ⟨rfl, rfl, rfl, rfl, rfl, rfl, rfl, trivial⟩
     (.cons (.loc (Nat.lt_of_lt_of_le (by decide : 6 < 8) (Nat.le_of_eq rfl))) (.cons (.loc (Nat.lt_of_lt_of_le (by decide : 7 < 8) (Nat.le_of_eq rfl))) (.cons (.loc (Nat.lt_of_lt_of_le (by decide : 0 < 8) (Nat.le_of_eq rfl))) (.cons .int (.cons .sl (.cons .int (.cons .int .nil)))))))
   ·(all_goals refine qgp (Lf.mk ?_))
    refine zj6 (k + 1, xK q b x, x.pos) ⟨by show k + 1 ≤ _; omega, i2, i3, hr'⟩ (by dsimp only; omega) ?_
    rw [hE0]
    exact zr3 q (xK q b x) _ hn' ⟨.loc rfl, .loc rfl, .loc rfl, .flat .int, .flat .sl, .flat .int, .flat .int, trivial⟩
  ·have hk : k = l.length := by omega
   rw [hk, List.drop_length] at i2 i3
   have e1 : b = xG q l b0 := i2
   have e2 : la = zaw l := i3
   subst e1
   exact ⟨(), trivial, yC rfl ⟨rfl, rfl, rfl, by rw [← e2]; rfl, trivial⟩⟩
 ·rintro _ _
  have hroom : z7 (xG q l b0) (1000000 - 9000) := ziE l (zql.less (by omega))
  have hok : OkB 9000 (xG q l b0) := zm5 (by decide) l (zql.less (by omega)) (ok0 9000)
  have hroom2 : z7 (vy (xG q l b0) (zaw l)) 990999 := (hroom.less (by decide : 990999 + 1 ≤ 1000000 - 9000)).pool _
  have hok2 : OkB 9000 (vy (xG q l b0) (zaw l)) := hok.pool (by have := hroom.curl; omega) _
  have hsh := zr1 (xG q l b0) (zaw l)
  have hbi := hroom.items
  have hbs := hroom.shut
  have hR : vq q l = zm4 (vy (xG q l b0) (zaw l)) := rfl
  rw [hR]
  generalize xG q l b0 = b1 at *
  refine wX (zf _ ?_)
  (all_goals refine qgp (Lf.mk ?_))
  refine zkg q b1 (zaw l) [T4, T5] (by omega) (by omega) rfl rfl ?_
  generalize vy b1 (zaw l) = b2 at *
  (all_goals refine qgp (Lf.mk ?_))
  obtain ⟨items, syms, marks, shut, has, cur, fe, fa⟩ := b2
  have hsh : has = false := hsh
  subst hsh
  clear hR hroom hok hbi hbs
  have hL : zm4 ⟨items, syms, marks, shut, false, cur, fe, fa⟩ = if fe ≠ 0 then (noO, fe, fa) else if 8000 < (yG shut marks ⟨items, syms⟩).2 then (noO, 4, 0)
   else if (vf shut (yG shut marks ⟨items, syms⟩).1.items (yG shut marks ⟨items, syms⟩).1.syms ⟨[], [], fe, fa⟩).fe ≠ 0
    then (noO, (vf shut (yG shut marks ⟨items, syms⟩).1.items (yG shut marks ⟨items, syms⟩).1.syms ⟨[], [], fe, fa⟩).fe, (vf shut (yG shut marks ⟨items, syms⟩).1.items (yG shut marks ⟨items, syms⟩).1.syms ⟨[], [], fe, fa⟩).fa)
   else (⟨(vf shut (yG shut marks ⟨items, syms⟩).1.items (yG shut marks ⟨items, syms⟩).1.syms ⟨[], [], fe, fa⟩).code, (yG shut marks ⟨items, syms⟩).1.syms,
    (vf shut (yG shut marks ⟨items, syms⟩).1.items (yG shut marks ⟨items, syms⟩).1.syms ⟨[], [], fe, fa⟩).rels⟩, 0, 0) := rfl
  generalize zm4 ⟨items, syms, marks, shut, false, cur, fe, fa⟩ = R at *
  refine wX (zf _ ?_)
  (all_goals refine qgp ?_ <;> (repeat' first | exact trivial | intro hc | refine And.intro ?_ ?_) <;> refine Lf.mk ?_)
  ·rw [if_pos hc] at hL
   subst hL
   exact zb (VS.mk (LeD.tup (.cons (LeD.agg (.cons (.nil 1) (.cons (.nil 2) (.cons (.nil 4) .nil)))) (LeL.refl _))))
  have hfe : fe = 0 := hc
  rw [if_neg (fun h => h hc)] at hL
  have hTl : ∀ p ∈ shut, p.length ≤ 9000 := hok2.shl
  have hsz : ∀ x ∈ items, wv shut x := fun x hx => by
   have := hok2.its x hx
   exact ⟨this.al, this.da, this.po, fun p hp => by have := hTl p hp; omega⟩
  have hil : items.length ≤ 9001 := by have := hroom2.items; dsimp only at this; omega
  have hml : marks.length ≤ 9001 := by have := hroom2.marks; dsimp only at this; omega
  have hlay : jS shut marks ⟨items, syms⟩ := ⟨hsz, by show items.length ≤ _; omega, hok2.len, by omega, hok2.pos⟩
  have hW := ziF (pools := shut) (marks := marks) (wj items + 1) ⟨items, syms⟩ (Nat.lt_succ_self _) hsz
  have hW : zwt shut ⟨items, syms⟩ (yG shut marks ⟨items, syms⟩) := hW
  refine wX (zf _ ?_)
  (all_goals refine qgp (Lf.mk ?_))
  refine xL zoe [T4, T5] (⟨items, syms⟩, marks, shut, cur, fe, fa, q) hlay rfl (LeL.refl _) rfl (.cons (.loc (Nat.lt_of_lt_of_le (by decide : 0 < 6) (Nat.le_of_eq rfl))) .nil) .int (xc _ _) (xc _ _) ?_
  dsimp only
  generalize yG shut marks ⟨items, syms⟩ = W at *
  obtain ⟨⟨its, sys⟩, n⟩ := W
  dsimp only at hL ⊢
  (all_goals refine qgp ?_ <;> (repeat' first | exact trivial | intro hc | refine And.intro ?_ ?_) <;> refine Lf.mk ?_)
  ·rw [if_pos hc] at hL
   subst hL
   exact zb (VS.mk (LeD.tup (.cons (LeD.agg (.cons (.nil 1) (.cons (.nil 2) (.cons (.nil 4) .nil)))) (LeL.refl _))))
  rw [if_neg hc] at hL
  have hlen : its.length = items.length := hW.sim.len
  have hsl : sys.length = syms.length := hW.syms
  have hsyl : syms.length ≤ 9001 := by have := hok2.len; dsimp only at this; omega
  have hin : ∀ y ∈ its, zm2 ⟨its, sys, marks, shut, false, cur, fe, fa⟩ y := fun y hy => by
   obtain ⟨x, hx, hs⟩ := hW.sim.from_ y hy
   have hi := hok2.its x hx
   have ha := hW.at_ y hy
   refine ⟨zr4 hs (hsz x hx), ha.1, by omega, ?_, fun h6 => ?_⟩
   ·rw [hs.idx]; have := hi.ix; omega
   ·have hl := hi.li (by rw [← hs.kind]; exact h6)
    have h0 : zjD false = 0 := rfl
    rw [h0] at hl
    dsimp only at hl
    obtain ⟨z, hz, hz9, hzp⟩ := hok2.put x.pool.toNat (by dsimp only; omega)
    obtain ⟨u, hu, hzu⟩ := hW.sim.to_ z hz
    refine zm7 _ _ _ ⟨u, hu, ?_⟩
    rw [hzu.kind, hz9, hzu.pool, hzp, hs.pool, Int.toNat_of_nonneg hl.1]
    simp
  have hgrow : ∀ (o : Out), ∀ y ∈ its, (vP shut its sys o y).code.length ≤ o.code.length + 44100 ∧ (vP shut its sys o y).rels.length ≤ o.rels.length + 9000 := fun o y hy => by
   have ha := hW.at_ y hy
   exact zr5 (hin y hy).size ha.1 (by omega) hTl
  have hF : vf shut its sys ⟨[], [], fe, fa⟩ = its.foldl (fun o x => if o.fe = 0 then vP shut its sys o x else o) ⟨[], [], fe, fa⟩ := rfl
  generalize vf shut its sys ⟨[], [], fe, fa⟩ = F at *
  refine zdq (α := Unit) (fun _ => True) (fun _ => [(4, .loc 7 0), (5, .loc 8 0), (6, .loc 0 0)]) (fun _ => eO q ⟨its, sys, marks, shut, false, cur, fe, fa⟩ F ++ [T4, T5]) ?_ ?_
  ·refine zf _ ?_
   (all_goals refine qgp (Lf.mk ?_))
   refine xg (α := Nat × Out) (fun p => p.1 ≤ its.length ∧ (its.drop p.1).foldl (fun o x => if o.fe = 0 then vP shut its sys o x else o) p.2 = F ∧ p.2.code.length ≤ 44100 * p.1 ∧ p.2.rels.length ≤ 9000 * p.1)
    (fun p => [(4, .loc 7 0), (5, .loc 8 0), (6, .loc 0 0), (49, .int .i64 its.length), (50, .int .i64 p.1)]) (fun p => eO q ⟨its, sys, marks, shut, false, cur, fe, fa⟩ p.2 ++ [T4, T5]) (fun p => its.length - p.1) (fun _ => by rw [hE0]; exact Nat.zero_le _) (0, ⟨[], [], fe, fa⟩)
    ⟨Nat.zero_le _, hF.symm, Nat.le_refl _, Nat.le_refl _⟩ ?_ ?_
   ·rw [hE0]
    exact ztG q its sys marks shut cur fe fa ⟨.loc rfl, .loc rfl, .loc rfl, .flat .int, .flat .int, trivial⟩
   rintro ⟨k, o⟩ ⟨j1, j2, j3, j4⟩
   dsimp only at j1 j2 j3 j4 ⊢
   refine zf _ ?_
   (all_goals refine qgp ?_ <;> (repeat' first | exact trivial | intro hc | refine And.intro ?_ ?_) <;> refine Lf.mk ?_)
   ·obtain ⟨x, hx⟩ := ya (l := its) (k := k) (by omega)
    have hkl : k < its.length := by omega
    have hgx : its[k] = x := by rw [List.getElem?_eq_getElem hkl] at hx; exact Option.some.inj hx
    rw [List.drop_eq_getElem_cons hkl, hgx, zfH, if_pos (by assumption)] at j2
    obtain ⟨g1, g2⟩ := hgrow o x (List.mem_of_getElem? hx)
    refine xL zoh [T4, T5] (⟨its, sys, marks, shut, false, cur, fe, fa⟩, o, k, x, q) ⟨rfl, hx, hin, by show its.length ≤ _; omega, by show sys.length ≤ _; omega, by show o.code.length ≤ _; omega, by show o.rels.length ≤ _; omega⟩ rfl
     (LeL.of_eq (by show [D.loc 0 0, .aloc 1 its.length (0 + ((k : Nat) : Int).toNat) 0] = _; rw [Nat.zero_add, Int.toNat_natCast])) rfl
     (.cons (.loc (Nat.lt_of_lt_of_le (by decide : 0 < 7) (Nat.le_of_eq rfl))) (.cons (.aloc (Nat.lt_of_lt_of_le (by decide : 1 < 7) (Nat.le_of_eq rfl))) .nil)) .tup0 (wR _ _ _) (wR _ _ _) ?_
    have hem : emB ⟨its, sys, marks, shut, false, cur, fe, fa⟩ o x = vP shut its sys o x := rfl
    dsimp only
    rw [hem]
    generalize vP shut its sys o x = o2 at *
    (all_goals refine qgp (Lf.mk ?_))
    exact y5 (k + 1, o2) ⟨by show k + 1 ≤ _; omega, j2, by dsimp only; omega, by dsimp only; omega⟩ (by dsimp only; omega) rfl ⟨rfl, rfl, rfl, rfl, rfl, trivial⟩
   ·have hkl : k < its.length := by omega
    rw [List.drop_eq_getElem_cons hkl, zfH, if_neg hc] at j2
    exact y5 (k + 1, o) ⟨by show k + 1 ≤ _; omega, j2, by dsimp only; omega, by dsimp only; omega⟩ (by dsimp only; omega) rfl ⟨rfl, rfl, rfl, rfl, rfl, trivial⟩
   ·have hk : k = its.length := by omega
    rw [hk, List.drop_length] at j2
    have j2 : o = F := j2
    subst j2
    exact ⟨(), trivial, yC rfl ⟨rfl, rfl, rfl, trivial⟩⟩
  ·rintro _ _
   refine zf _ ?_
   (all_goals refine qgp ?_ <;> (repeat' first | exact trivial | intro hc | refine And.intro ?_ ?_) <;> refine Lf.mk ?_)
   ·rw [if_pos hc] at hL
    subst hL
    exact zb (VS.mk (LeD.tup (.cons (LeD.agg (.cons (.nil 1) (.cons (.nil 2) (.cons (.nil 4) .nil)))) (LeL.refl _))))
   ·rw [if_neg (fun h => h hc)] at hL
    subst hL
    refine zdT (k := 2) (e := 2) (els := sys.map yF) (els' := sys.map yF) (r1 := .tup [.agg [.sl 1 (F.code.map zH) (some 6), .sl 2 (sys.map yF) (some 9), .sl 4 (F.rels.map zbn) (some 5)], .agg [.int .i64 0, .int .i64 0]]) rfl (Nat.zero_le 2) (zqm sys) ?_ ?_ (Nat.zero_le _)
    ·refine .tup _ _ rfl fun i d d' h1 h2 => ?_
     match i, h1, h2 with
     | 0, h1, h2 =>
      cases h1
      cases h2
      refine .agg _ _ rfl fun j c c' g1 g2 => ?_
      match j, g1, g2 with
      | 0, g1, g2 => cases g1; cases g2; exact .keep _
      | 1, g1, g2 => cases g1; cases g2; exact .here _ _ (by simp) (by simp)
      | 2, g1, g2 => cases g1; cases g2; exact .keep _
      | j + 3, g1, g2 => cases g1
     | 1, h1, h2 => cases h1; cases h2; exact .keep _
     | i + 2, h1, h2 => cases h1
    ·exact zb (VS.mk (LeD.tup (.cons (LeD.agg (.cons (.strip _ _ _) (.cons (.strip _ _ _) (.cons (.strip _ _ _) .nil)))) (LeL.refl _))))
end Go.Proofs.YthmdddenbfbefaaGreatDoor
namespace Go.Proofs.YthmdddenbfbefaaGreatDoor
open Go Go.Plat
set_option linter.unusedVariables false
set_option linter.unusedSimpArgs false
set_option maxRecDepth 100000
set_option maxHeartbeats 2000000
attribute [local irreducible] AWP zy ye zF zn yt z6 zE zW zY zp za zN yu zo zZ yp yq yj yl zt zu zw xF yD yo yk zG w3 xo qe xH xE wd okC puF puR xS zI xR
theorem zr6 {α : Type} {l : List α} {k : Nat} {x : α} (h : l[k]? = some x) : l.take (k + 1) = l.take k ++ [x] := by
 have hk := (List.getElem?_eq_some_iff.1 h).1
 rw [List.take_succ_eq_append_getElem hk]
 congr 2
 rw [List.getElem?_eq_getElem hk] at h
 exact Option.some.inj h
theorem zqn : za Tryz.prog zpF (zA (fun l : List yI => l.length ≤ 1000000000 ∧ ∀ x ∈ l, x.toks.length ≤ 1000000000) (fun l => [.sl 2 (l.map x3) none]) fun l => .sl 2 (l.map x3) none) := by
 refine zg zj Tryz.func119 rfl (by decide) ?_
 rintro l ⟨hl, ht⟩
 refine ⟨Nat.le_refl _, by simp [Tryz.f119], fun E hE => ?_⟩
 refine zf _ ?_
 (all_goals refine qgp (Lf.mk ?_))
 refine wW (qX 3 2 rfl) ?_
 refine z8 (α := Nat) (fun k => k ≤ l.length)
  (fun k => [(3, .sl 2 ((l.take k).map x3) (some 0)), (6, .sl 2 (l.map x3) none), (7, .int .i64 l.length), (8, .int .i64 k)])
  (fun k => [.spare (l.take k).length]) (fun k => l.length - k) (fun _ => by simp [hE]) 0 (Nat.zero_le _) ?_ ?_
 ·(repeat' (first | (refine VS.mk ?_) | exact trivial | exact rfl | refine And.intro ?_ ?_))
 intro k hk
 have hkl : (l.take k).length = k := by rw [List.length_take]; omega
 refine zf _ ?_
 (all_goals refine qgp ?_ <;> (repeat' first | exact trivial | intro hc | refine And.intro ?_ ?_) <;> refine Lf.mk ?_)
 ·obtain ⟨x, hx⟩ : ∃ x, l[k]? = some x := ⟨_, List.getElem?_eq_getElem (by omega)⟩
  have hS := zr6 hx
  have hkl1 : (l.take (k + 1)).length = k + 1 := by rw [List.length_take]; omega
  have hxt := ht x (List.mem_of_getElem? hx)
  refine zl x (by omega) (by simpa using hx) ?_
  (all_goals refine qgp (Lf.mk ?_))
  refine zC (k + 1) (by omega) (by omega) ?_
  (repeat' (first | (refine VS.mk ?_) | exact trivial | exact rfl | refine And.intro ?_ ?_))
  ·rw [hkl1, List.length_append, List.length_map, hkl]; rfl
  ·rw [hS, List.map_append, List.map_cons, List.map_nil]; rfl
 ·have e : l.take k = l := List.take_of_length_le (by omega)
  rw [e]
  exact zb (VS.mk (LeD.of_eq rfl))
end Go.Proofs.YthmdddenbfbefaaGreatDoor
namespace Go.Proofs.YthmdddenbfbefaaGreatDoor
open Go Go.Plat
set_option linter.unusedVariables false
set_option linter.unusedSimpArgs false
set_option maxRecDepth 100000
set_option maxHeartbeats 2000000
attribute [local irreducible] AWP zy ye zF zn yt z6 zE zW Lib.itoa zY zp za zN yu zo zZ zh.kids zh.kind zh.n zh.name yp yq yj yl zt zu xf wi zw vq vA xk xb wO xC wg xl xN xT yP yH vZ yy yV xQ yb wx zd xn wQ zL zT wP xZ yU
def kY (x : yI) : List UInt8 := match x.toks with
 | t :: _ => if t.kind = 1 then t.text else []
 | [] => []
theorem zoj : za Tryz.prog zl5 (zA (fun x : yI => x.toks.length ≤ 1000000000) (fun x => [x3 x]) fun x => .str (kY x)) := by
 refine zg zj Tryz.func114 rfl (by decide) ?_
 rintro ⟨pos, toks⟩ hl
 have hl : toks.length ≤ 1000000000 := hl
 refine ⟨Nat.le_refl _, by simp [Tryz.f114], fun E hE => ?_⟩
 cases toks with
 | nil =>
  refine zf _ ?_
  (all_goals refine qgp ?_ <;> (repeat' first | exact trivial | intro hc | refine And.intro ?_ ?_) <;> refine Lf.mk ?_)
  exact zb (VS.mk (LeD.refl _))
 | cons t r =>
  have hl : r.length + 1 ≤ 1000000000 := hl
  refine zf _ ?_
  (all_goals refine qgp ?_ <;> (repeat' first | exact trivial | intro hc | refine And.intro ?_ ?_) <;> refine Lf.mk ?_)
  all_goals refine zb (VS.mk (LeD.of_eq (congrArg D.str ?_)))
  ·unfold kY; dsimp only; rw [if_neg hc]
  ·unfold kY; dsimp only; rw [if_pos hc]
def mC (out : List yI) (looked fe fa : Int) : List D := [.nilsl, .nilsl, .sl 2 (out.map x3) (some 1), .int .i64 looked, .int .i64 fe, .int .i64 fa]
def mO (out : List yI) (looked fe fa : Int) : List Ob := [.cells (mC out looked fe fa), .spare out.length]
theorem ziG (out : List yI) (looked fe fa : Int) : ∀ x ∈ mO out looked fe fa, ClO 2 x := by
 intro x hx
 simp only [mO, List.mem_cons, List.not_mem_nil, or_false] at hx
 rcases hx with rfl | rfl
 ·exact .cells (.cons .nilsl (.cons .nilsl (.cons (.tok (by decide)) (.cons .int (.cons .int (.cons .int .nil))))))
 ·exact .spare
theorem zok : za Tryz.prog zfm (yh (fun _ : List yI × Int × Int × Int × List UInt8 => True) (fun (_, _, _, _, name) => [.loc 0 0, .str name]) (fun (out, looked, fe, fa, _) => mO out looked fe fa) (fun _ => .int .i64 (-1)) fun (out, looked, fe, fa, _) => mO out looked fe fa) := by
 refine zg zj Tryz.func117 rfl (by decide) ?_
 rintro ⟨out, looked, fe, fa, name⟩ _
 refine ⟨Nat.le_refl _, by simp [Tryz.f117], fun E hE => ?_⟩
 refine zf _ ?_
 (all_goals refine qgp (Lf.mk ?_))
 refine vU zj Tryz.func169 rfl (by decide) (.int .i64 (-1)) (mO out looked fe fa ++ [.cells [.str name]]) (Nat.le_refl _) (by simp [Tryz.f169]) (fun E' hE' => ?_) ?_
 ·refine zf _ ?_
  (all_goals refine qgp (Lf.mk ?_))
  refine zdV (zf _ ?_)
  (all_goals refine qgp ?_ <;> (repeat' first | exact trivial | intro hc | refine And.intro ?_ ?_) <;> refine Lf.mk ?_)
  exact xy rfl rfl
 ·(all_goals refine qgp (Lf.mk ?_))
  exact kq (mO out looked fe fa) [_] rfl (Nat.le_refl _) .int (ziG _ _ _ _)
def ki (h : List UInt8) : Prop := h ≠ [46, 109, 97, 99, 114, 111] ∧ h ≠ [46, 114, 101, 112, 116] ∧ h ≠ [46, 105, 102] ∧ h ≠ [46, 101, 110, 100, 109] ∧ h ≠ [46, 101, 110, 100, 114] ∧ h ≠ [46, 101, 110, 100, 105, 102] ∧ h ≠ [46, 101, 108, 115, 101] ∧ h ≠ [46, 101, 113, 117]
instance (h : List UInt8) : Decidable (ki h) := by unfold ki; infer_instance
theorem zm8 : za Tryz.prog zeA (yh (fun ((l, out, looked, deep) : List yI × List yI × Int × Int) => 0 ≤ deep ∧ deep ≤ 6 ∧ out.length + l.length ≤ 200 ∧ 0 ≤ looked ∧ looked + (l.length : Int) ≤ 4000 ∧ ∀ x ∈ l, ki (kY x) ∧ x.toks.length ≤ 1000000000)
  (fun (l, _, _, deep) => [.loc 0 0, .sl 2 (l.map x3) none, .int .i64 deep]) (fun (_, out, looked, _) => mO out looked 0 0) (fun _ => .tup []) fun (l, out, looked, _) => mO (out ++ l) (looked + (l.length : Int)) 0 0) := by
 refine zg zj Tryz.func59 rfl (by decide) ?_
 rintro ⟨l, out, looked, deep⟩ ⟨hd0, hd1, hol, hk0, hk1, hl⟩
 have hd1 : deep ≤ 6 := hd1
 have hol : out.length + l.length ≤ 200 := hol
 have hk0 : 0 ≤ looked := hk0
 have hk1 : looked + (l.length : Int) ≤ 4000 := hk1
 have hl : ∀ x ∈ l, ki (kY x) ∧ x.toks.length ≤ 1000000000 := hl
 refine ⟨Nat.le_refl _, by simp [Tryz.f59], fun E hE => ?_⟩
 have hE2 : E.L.length = 2 := by rw [hE]; rfl
 refine zf _ ?_
 (all_goals refine qgp ?_ <;> (repeat' first | exact trivial | intro hc | refine And.intro ?_ ?_) <;> refine Lf.mk ?_)
 refine xg (α := Nat) (fun k => k ≤ l.length) (fun k => [(0, .loc 0 0), (1, .sl 2 (l.map x3) none), (2, .int .i64 deep), (7, .int .i64 k)]) (fun k => mO (out ++ l.take k) (looked + (k : Int)) 0 0) (fun k => l.length - k) (fun _ => by rw [hE2]; exact Nat.le_refl 2) 0 (Nat.zero_le _) ?_ ?_
 ·exact yC (by simp) ⟨rfl, rfl, rfl, rfl, trivial⟩
 intro k hk
 have hk : k ≤ l.length := hk
 refine zf _ ?_
 (all_goals refine qgp ?_ <;> (repeat' first | exact trivial | intro hc | refine And.intro ?_ ?_) <;> refine Lf.mk ?_)
 ·obtain ⟨x, hx⟩ := ya (l := l) (k := k) (by omega)
  have hkl : k < l.length := by omega
  have hgx : l[k] = x := by rw [List.getElem?_eq_getElem hkl] at hx; exact Option.some.inj hx
  obtain ⟨hp, hxl⟩ := hl x (List.mem_of_getElem? hx)
  have hxk : l[((k : Nat) : Int).toNat]? = some x := by rw [Int.toNat_natCast]; exact hx
  refine zl x (Int.natCast_nonneg k) hxk ?_
  (all_goals refine qgp (Lf.mk ?_))
  refine ze zoj x hxl (VS.mk (LeL.of_eq rfl)) ?_
  obtain ⟨p1, p2, p3, p4, p5, p6, p7, p8⟩ := hp
  (all_goals refine qgp ?_ <;> (repeat' first | exact trivial | intro hc | refine And.intro ?_ ?_) <;> refine Lf.mk ?_)
  all_goals first
   | (exfalso; exact p1 (by assumption))
   | (exfalso; exact p2 (by assumption))
   | (exfalso; exact p3 (by assumption))
   | (exfalso; exact p4 (by assumption))
   | (exfalso; exact p5 (by assumption))
   | (exfalso; exact p6 (by assumption))
   | (exfalso; exact p7 (by assumption))
   | (exfalso; exact p8 (by assumption))
   | skip
  have hok : (out ++ l.take k).length = out.length + k := by rw [List.length_append, List.length_take]; omega
  refine xL zok [] (out ++ l.take k, looked + (k : Int) + 1, 0, 0, kY x) trivial rfl (LeL.refl _) rfl (.cons (.loc (Nat.lt_of_lt_of_le (by decide : 0 < 2) (Nat.le_of_eq rfl))) (.cons .str .nil)) .int (ziG _ _ _ _) (ziG _ _ _ _) ?_
  have htk : (l.take (k + 1)).drop k = [x] := by
   rw [List.take_succ_eq_append_getElem hkl, List.drop_left' (by rw [List.length_take]; omega), hgx]
  have htk2 : out ++ l.take (k + 1) = (out ++ l.take k) ++ [x] := by rw [List.take_succ_eq_append_getElem hkl, hgx, List.append_assoc]
  generalize out ++ l.take k = ok at *
  (all_goals refine qgk ?_ <;> (repeat' first | exact trivial | intro hc | refine And.intro ?_ ?_) <;> refine Lf.mk ?_)
  ·exact absurd hc (by decide)
  ·exfalso; omega
  refine ze zqn [x] ⟨by simp, fun y hy => by rw [List.mem_singleton] at hy; subst hy; exact hxl⟩ (VS.mk (LeL.of_eq (by rw [Int.toNat_natCast, show (((k : Nat) : Int) + 1).toNat = k + 1 by omega, htk]))) ?_
  (all_goals refine qgk (Lf.mk ?_))
  exact y5 (k + 1) (by show k + 1 ≤ _; omega) (by omega) (by dsimp only; rw [htk2, show looked + (((k + 1 : Nat)) : Int) = looked + (k : Int) + 1 by omega]; rfl) ⟨rfl, rfl, rfl, rfl, trivial⟩
 ·exact absurd trivial hc
 ·have hk2 : k = l.length := by omega
  rw [hk2, List.take_length]
  exact xy rfl rfl
def zr7 (l : List yI) : Prop := l.length ≤ 200 ∧ ∀ x ∈ l, ki (kY x) ∧ x.toks.length ≤ 1000000000
theorem zm9 : za Tryz.prog zjl (zA (fun l : List yI => zr7 l) (fun l => [.sl 2 (l.map x3) none]) fun l => .tup [.sl 2 (l.map x3) none, .sl 2 [] none, .agg [.int .i64 0, .int .i64 0]]) := by
 refine zg zj Tryz.func32 rfl (by decide) ?_
 rintro l ⟨hl, hp⟩
 refine ⟨Nat.le_refl _, by simp [Tryz.f32], fun E hE => ?_⟩
 have hE0 : E.L.length = 0 := by rw [hE]; rfl
 refine wX (zf _ ?_)
 (all_goals refine qgp (Lf.mk ?_))
 refine wX (zf _ ?_)
 (all_goals refine qgp (Lf.mk ?_))
 refine wW (σ' := [(0, .sl 2 (l.map x3) none), (4, .loc 2 0), (5, .loc 0 0)]) (L' := mO [] 0 0 0 ++ [T5]) ?_ ?_
 ·rw [hE0]
  refine wz (qz 1 2 [.nilsl, .nilsl, .sl 2 [] (some 2), .int .i64 0, .int .i64 0, .int .i64 0] rfl ⟨.same, .same, .here, .same, .same, .same, trivial⟩) ?_
  refine zbv [1, 2, 0] rfl rfl ?_ ⟨.flat .sl, .loc rfl, .loc rfl, trivial⟩
  exact .cons (o := .cells [.nilsl, .nilsl, .sl 2 [] (some 2), .int .i64 0, .int .i64 0, .int .i64 0]) rfl ⟨_, rfl, .cons (.flat .nilsl) (.cons (.flat .nilsl) (.cons (.tok rfl) (.cons (.flat .int) (.cons (.flat .int) (.cons (.flat .int) .nil)))))⟩
   (.cons (o := .spare 0) rfl rfl (.cons (o := T5) rfl ⟨_, rfl, .cons (.flat .int) (.cons (.flat .int) .nil)⟩ .nil))
 refine zf _ ?_
 (all_goals refine qgp (Lf.mk ?_))
 refine xL zm8 [T5] (l, [], 0, 0) ⟨by decide, by decide, by simpa using hl, by decide, by show 0 + (l.length : Int) ≤ 4000; omega, hp⟩ rfl (LeL.refl _) rfl (.cons (.loc (Nat.lt_of_lt_of_le (by decide : 0 < 2) (Nat.le_of_eq rfl))) (.cons .sl (.cons .int .nil))) .tup0 (ziG _ _ _ _) (ziG _ _ _ _) ?_
 dsimp only
 rw [List.nil_append]
 (all_goals refine qgp ?_ <;> (repeat' first | exact trivial | intro hc | refine And.intro ?_ ?_) <;> refine Lf.mk ?_)
 ·exact absurd trivial hc
 ·exact zb (VS.mk (LeD.tup (.cons (.strip _ _ _) (.cons (.nil 2) (LeL.refl _)))))
end Go.Proofs.YthmdddenbfbefaaGreatDoor
namespace Go.Proofs.YthmdddenbfbefaaGreatDoor
open Go Go.Plat
set_option linter.unusedVariables false
set_option linter.unusedSimpArgs false
set_option maxRecDepth 100000
set_option maxHeartbeats 2000000
attribute [local irreducible] AWP zy ye zF zn yt z6 zE zW zY zp za zN yu zo zZ yp yq yj yl zt zu zw xF yD yo yk zG w3 xo qe xH xE wd okC puF puR xS zI xR
end Go.Proofs.YthmdddenbfbefaaGreatDoor
namespace Go.Proofs.YthmdddenbfbefaaGreatDoor
open Go Go.Plat
set_option linter.unusedVariables false
set_option linter.unusedSimpArgs false
set_option maxRecDepth 100000
set_option maxHeartbeats 2000000
attribute [local irreducible] AWP zy ye zF zn yt z6 zE zW Lib.itoa zY zp za zN yu zo zZ zh.kids zh.kind zh.n zh.name yp yq yj yl zt zu xf wi zw vq vA xk xb wO xC wg xl xN xT yP yH vZ yy yV xQ yb wx zd xn wQ zL zT wP xZ yU
def kZ (b : List UInt8) : y0 × Int × Int := if (yP b).2.1 ≠ 0 then (noO, (yP b).2.1, (yP b).2.2) else vq [] (yP b).1
structure ziH (b : List UInt8) : Prop where
 len : b.length ≤ 1000000000
 plain : zr7 (yP b).1
 tot : vp (yP b).1 ≤ 9000
 wts : ∀ x ∈ (yP b).1, wt (x.toks.map tk) ≤ 1048576
theorem zqo : za Tryz.prog zih (zA ziH (fun b => [.sl 1 (b.map zH) none]) fun b => .tup [qG (kZ b).1, .agg [.int .i64 (kZ b).2.1, .int .i64 (kZ b).2.2]]) := by
 refine zg zj Tryz.func13 rfl (by decide) ?_
 rintro b ⟨h1, h2, h3, h4⟩
 refine ⟨Nat.le_refl _, by simp [Tryz.f13], fun E hE => ?_⟩
 have hU : kZ b = if (yP b).2.1 ≠ 0 then (noO, (yP b).2.1, (yP b).2.2) else vq [] (yP b).1 := rfl
 generalize kZ b = U at *
 refine zf _ ?_
 (all_goals refine qgp (Lf.mk ?_))
 refine ze zhj b h1 (VS.mk (LeL.of_eq rfl)) ?_
 have hD : zrj (yP b) = .tup [.sl 2 ((yP b).1.map x3) none, .agg [.int .i64 (yP b).2.1, .int .i64 (yP b).2.2]] := rfl
 rw [hD]
 generalize yP b = W at *
 obtain ⟨l, e, a⟩ := W
 dsimp only at h2 h3 h4 hU ⊢
 (all_goals refine qgp ?_ <;> (repeat' first | exact trivial | intro hc | refine And.intro ?_ ?_) <;> refine Lf.mk ?_)
 ·rw [if_pos hc] at hU
  subst hU
  exact zb (VS.mk (LeD.tup (.cons (LeD.agg (.cons (.nil 1) (.cons (.nil 2) (.cons (.nil 4) .nil)))) (LeL.refl _))))
 rw [if_neg (fun h => h hc)] at hU
 refine ze zm9 l h2 (VS.mk (LeL.of_eq rfl)) ?_
 (all_goals refine qgp ?_ <;> (repeat' first | exact trivial | intro hc | refine And.intro ?_ ?_) <;> refine Lf.mk ?_)
 ·exact absurd trivial hc
 refine ze zoi (l, []) ⟨h3, h4, by decide, by have := h2.1; show l.length ≤ _; omega⟩ (VS.mk (LeL.of_eq rfl)) ?_
 dsimp only
 rw [← hU]
 (all_goals refine qgp (Lf.mk ?_))
 exact zb (VS.mk (LeD.refl _))
end Go.Proofs.YthmdddenbfbefaaGreatDoor
namespace Go.Proofs.YthmdddenbfbefaaGreatDoor
open Go Go.Plat
set_option linter.unusedVariables false
set_option linter.unusedSimpArgs false
set_option maxRecDepth 100000
set_option maxHeartbeats 2000000
attribute [local irreducible] AWP zy ye zF zn yt z6 zE zW zY zp za zN yu zo zZ yp yq yj yl zt zu zw xF yD yo yk zG w3 xo qe yP yH xH xE wd okC puF puR xS zI xR
end Go.Proofs.YthmdddenbfbefaaGreatDoor
namespace Go.Proofs.YthmdddenbfbefaaGreatDoor
open Go Go.Plat
set_option linter.unusedVariables false
set_option linter.unusedSimpArgs false
set_option maxRecDepth 100000
set_option maxHeartbeats 2000000
attribute [local irreducible] AWP zy ye zF zn yt z6 zE zW zY zp za zN yu zo zZ yp yq yj yl zt zu zw xF yD yo yk zG w3 xo qe yH xH xE wd okC puF puR xS zI xR
theorem zkn (a b : List UInt8) : yx 10 (a ++ 10 :: b) = yx 10 a ++ yx 10 b := by
 induction a with
 | nil =>
  show (if (10 : UInt8) = 10 then [] :: yx 10 b else _) = _
  rw [if_pos rfl]; rfl
 | cons c a ih =>
  rw [List.cons_append, yx, yx, ih]
  split
  ·rfl
  ·have h := jw 10 a
   cases hs : yx 10 a with
   | nil => rw [hs] at h; simp at h
   | cons x r => rfl
theorem ziI (ys : List (List UInt8)) : ∀ (xs : List (List UInt8)) (k : Int) (out : List yI), we (xs ++ ys) k out =
  if (we xs k out).2.1 ≠ 0 then we xs k out else we ys (k + xs.length) (we xs k out).1
 | [], k, out => by
  rw [List.nil_append, we, if_neg (by simp)]
  simp
 | p :: xs, k, out => by
  have ih := ziI ys xs (k + 1)
  have e : k + 1 + (xs.length : Int) = k + ((p :: xs).length : Int) := by rw [List.length_cons]; omega
  rw [List.cons_append, kN, kN]
  by_cases h : (qe p).2 ≠ 0
  ·rw [if_pos h, if_pos h, if_pos h]
  rw [if_neg h, if_neg h]
  by_cases h2 : (qe p).1.length = 0
  ·rw [if_pos h2, if_pos h2, ih, e]
  ·rw [if_neg h2, if_neg h2, ih, e]
end Go.Proofs.YthmdddenbfbefaaGreatDoor
namespace Go.Proofs.YthmdddenbfbefaaGreatDoor
open Go Go.Plat
set_option linter.unusedVariables false
set_option linter.unusedSimpArgs false
set_option maxRecDepth 100000
set_option maxHeartbeats 2000000
attribute [local irreducible] AWP zy ye zF zn yt z6 zE zW zY zp za zN yu zo zZ yp yq yj yl zt zu zw
theorem zjE {l : List UInt8} {j : Int} {c : UInt8} {i : Int} (h : i ≠ j) : xd (yX l j c) i = xd l i := by
 unfold yX
 split
 ·unfold xd
  simp only [List.length_set]
  split
  ·rw [List.getD_eq_getElem?_getD, List.getD_eq_getElem?_getD, List.getElem?_set_ne (by omega)]
  ·rfl
 ·rfl
theorem zeD {l : List UInt8} {j : Int} {c : UInt8} (h0 : 0 ≤ j) (h1 : j < l.length) : xd (yX l j c) j = c.toNat := by
 unfold yX
 rw [if_pos ⟨h0, h1⟩]
 unfold xd
 rw [if_pos (by simp; omega)]
 rw [List.getD_eq_getElem?_getD, List.getElem?_set_self (by omega)]
 rfl
theorem zax (at_ : Int) : ∀ (k : Nat) (l : List UInt8) (n i : Int), (i < at_ ∨ at_ + k ≤ i) → xd (yb l at_ k n) i = xd l i
 | 0, l, n, i, _ => rfl
 | k + 1, l, n, i, h => by
  rw [yb, zax at_ k _ _ i (by omega), zjE (by omega)]
theorem jU {b c : List UInt8} {at_ : Int} : ∀ k : Nat, (∀ i, at_ ≤ i → i < at_ + k → xd b i = xd c i) → yv b at_ k = yv c at_ k
 | 0, _ => rfl
 | k + 1, h => by rw [yv, yv, jU k (fun i h1 h2 => h i h1 (by omega)), h (at_ + k) (by omega) (by omega)]
theorem zfI (at_ : Int) (h0 : 0 ≤ at_) : ∀ (k : Nat) (l : List UInt8) (n : Int), at_ + k ≤ l.length → 0 ≤ n → n < 256 ^ k → yv (yb l at_ k n) at_ k = n
 | 0, l, n, _, h1, h2 => by simp at h2; simp [yv]; omega
 | k + 1, l, n, hl, h1, h2 => by
  rw [Int.pow_succ] at h2
  rw [yv, yb, zfI at_ h0 k _ _ (by rw [zfx]; omega) (by omega) (by omega), zax at_ k _ _ _ (by omega), zeD (by omega) (by omega), xY]
  omega
def zbF : List UInt8 := [46, 108, 111, 110, 103]
def zcX (n : Int) : List yB := [⟨1, 0, zbF⟩, ⟨2, n, []⟩]
theorem ztH (n k : Int) : xf [] k ⟨[⟨2, n, []⟩], 0, 0⟩ = ([⟨[], 0, ⟨[], zd (zd n 32) 32⟩⟩], ⟨[], 0, 0⟩) := by kernel_rfl
theorem zqp (n : Int) : zd (zd n 32) 32 = zd n 32 := by
 have h : ∀ n, zd n 32 = if n % 4294967296 / 2147483648 = 1 then n % 4294967296 - 4294967296 else n % 4294967296 := fun _ => rfl
 have h1 := h n
 have h2 := h (zd n 32)
 generalize zd n 32 = m at *
 rw [h2]
 split at h1 <;> split <;> omega
theorem zvi (n k : Int) : xf [] k ⟨[⟨2, n, []⟩], 0, 0⟩ = ([⟨[], 0, ⟨[], zd n 32⟩⟩], ⟨[], 0, 0⟩) := by rw [ztH, zqp]
def zay (k n : Int) : zx := ⟨7, 0, k, noI, false, 4, ⟨[], zd n 32⟩, 0, 0⟩
theorem zel {n : Int} (h0 : 0 ≤ n) (h1 : n < 4294967296) : zd n 32 = if n < 2147483648 then n else n - 4294967296 := by
 have : zd n 32 = if n % 4294967296 / 2147483648 = 1 then n % 4294967296 - 4294967296 else n % 4294967296 := rfl
 rw [this]
 split
 ·rw [if_neg (by omega)]; omega
 ·rw [if_pos (by omega)]; omega
def wn : List Int → Int → List yI
 | [], _ => []
 | n :: l, k => ⟨k, zcX n⟩ :: wn l (k + 1)
def qg : List Int → Int → List zx
 | [], _ => []
 | n :: l, k => zay k n :: qg l (k + 1)
def yW : List Int → Int → Int → List zx
 | [], _, _ => []
 | n :: l, k, a => { zay k n with at_ := a } :: yW l (k + 1) (a + 4)
def k8 (l : List Int) : Prop := ∀ n ∈ l, 0 ≤ n ∧ n < 4294967296
theorem zfJ (syms : List zz) : ∀ (l : List Int) (k a : Int), (yW l k a).any (xB syms) = false ∧ (yW l k a).map (yT syms) = yW l k a ∧ wj (qg l k) = 0
 | [], k, a => ⟨rfl, rfl, rfl⟩
 | n :: l, k, a => by
  obtain ⟨h1, h2, h3⟩ := zfJ syms l (k + 1) (a + 4)
  have hm : xB syms { zay k n with at_ := a } = false := by
   unfold xB
   exact decide_eq_false fun h => absurd h.1 (by show ¬ (7 : Int) = 2; decide)
  have hg : yT syms { zay k n with at_ := a } = { zay k n with at_ := a } := by unfold yT; rw [if_neg (by rw [hm]; decide)]
  refine ⟨by rw [yW, List.any_cons, hm, h1]; rfl, by rw [yW, List.map_cons, hg, h2], ?_⟩
  unfold wj at h3 ⊢
  rw [qg, List.filter_cons, if_neg (show ¬ decide ((zay k n).kind = 2 ∧ (zay k n).long = false) = true by show ¬ decide ((7 : Int) = 2 ∧ false = false) = true; decide)]
  exact h3
def xX : List Int → List UInt8 → List UInt8
 | [], c => c
 | n :: l, c => xX l (yb (c ++ List.replicate 4 0) c.length 4 (zd n 32))
theorem zgm {a b : Int} (h : a % 256 = b % 256) : ym a = ym b := by unfold ym; rw [h]
theorem zqq {n : Int} (h0 : 0 ≤ n) (h1 : n < 4294967296) (l : List UInt8) (a : Int) : yb l a 4 (zd n 32) = yb l a 4 n := by
 rw [zel h0 h1]
 split
 ·rfl
 ·rw [yb, yb, yb, yb, yb, yb, yb, yb]
  rw [zgm (show (n - 4294967296) % 256 = n % 256 by omega), zgm (show (n - 4294967296) / 256 % 256 = n / 256 % 256 by omega), zgm (show (n - 4294967296) / 256 / 256 % 256 = n / 256 / 256 % 256 by omega),
   zgm (show (n - 4294967296) / 256 / 256 / 256 % 256 = n / 256 / 256 / 256 % 256 by omega)]
  rfl
theorem zqr {c d : List UInt8} {i : Int} (h : i < c.length) : xd (c ++ d) i = xd c i := by
 unfold xd
 by_cases h0 : 0 ≤ i
 ·rw [if_pos ⟨h0, by rw [List.length_append]; omega⟩, if_pos ⟨h0, h⟩]
  have : i.toNat < c.length := by omega
  rw [List.getD_eq_getElem?_getD, List.getD_eq_getElem?_getD, List.getElem?_append_left this]
 ·rw [if_neg (fun e => h0 e.1), if_neg (fun e => h0 e.1)]
theorem zna : ∀ (l : List Int) (c : List UInt8), (xX l c).length = c.length + 4 * l.length
 | [], c => rfl
 | n :: l, c => by rw [xX, zna l, vW]; simp; omega
theorem zfK : ∀ (l : List Int) (c : List UInt8) (i : Int), i < c.length → xd (xX l c) i = xd c i
 | [], c, i, _ => rfl
 | n :: l, c, i, h => by
  rw [xX, zfK l _ i (by rw [vW, List.length_append]; omega), zax _ _ _ _ _ (.inl h), zqr h]
theorem znb : ∀ (l : List Int) (c : List UInt8) (i : Nat) (n : Int), k8 l → l[i]? = some n → yv (xX l c) (c.length + 4 * (i : Int)) 4 = n
 | [], c, i, n, _, h => by cases h
 | m :: l, c, i, n, hl, h => by
  have hm := hl m List.mem_cons_self
  have hlen : (yb (c ++ List.replicate 4 0) c.length 4 (zd m 32)).length = c.length + 4 := by rw [vW]; simp
  rw [xX]
  cases i with
  | zero =>
   cases h
   rw [jU 4 (c := yb (c ++ List.replicate 4 0) c.length 4 (zd m 32)) (fun j h1 h2 => zfK l _ j (by rw [hlen]; omega)), zqq hm.1 hm.2, show (c.length : Int) + 4 * ((0 : Nat) : Int) = c.length by omega]
   exact zfI _ (by omega) 4 _ _ (by simp) hm.1 hm.2
  | succ i =>
   have := znb l (yb (c ++ List.replicate 4 0) c.length 4 (zd m 32)) i n (fun x hx => hl x (List.mem_cons_of_mem _ hx)) h
   rw [hlen] at this
   rw [show (c.length : Int) + 4 * ((i + 1 : Nat) : Int) = ((c.length + 4 : Nat) : Int) + 4 * (i : Int) by omega]
   exact this
def jV (n : Int) : List UInt8 := zbF ++ 32 :: Lib.itoa n
def xz : List Int → List UInt8
 | [] => []
 | n :: l => jV n ++ 10 :: xz l
theorem zko : ∀ (a : List UInt8), (∀ c ∈ a, c ≠ 10) → yx 10 a = [a]
 | [], _ => rfl
 | c :: a, h => by
  have ih := zko a fun x hx => h x (List.mem_cons_of_mem _ hx)
  rw [yx, if_neg (h c List.mem_cons_self), ih]
theorem zvj {n : Int} (h0 : 0 ≤ n) : ∀ c ∈ jV n, c ≠ 10 := by
 obtain ⟨u, rfl⟩ := Int.eq_ofNat_of_zero_le h0
 intro c hc
 unfold jV zbF at hc
 rcases List.mem_append.1 hc with hc | hc
 ·simp only [List.mem_cons, List.not_mem_nil, or_false] at hc
  rcases hc with rfl | rfl | rfl | rfl | rfl <;> decide
 ·rcases List.mem_cons.1 hc with rfl | hc
  ·decide
  ·unfold Lib.itoa at hc
   rw [if_neg (by omega), Int.toNat_natCast] at hc
   have := zjq u c hc
   rintro rfl
   have : (10 : UInt8).toNat = 10 := rfl
   omega
theorem zvk {u : Nat} (h : u < 4294967296) : (Lib.decDigits u).length ≤ 10 := by
 rw [Lib.decDigits_length]
 have key : ∀ k v : Nat, v < 10 ^ k → 1 ≤ k → Lib.nDigits v ≤ k := fun k => by
  induction k with
  | zero => intro v h1 h2; omega
  | succ k ih =>
   intro v h1 h2
   by_cases hv : v < 10
   ·rw [Lib.nDigits_small hv]; omega
   ·rw [Lib.nDigits_big hv]
    rw [Nat.pow_succ] at h1
    by_cases hk : k = 0
    ·subst hk; omega
    ·have := ih (v / 10) (by omega) (by omega); omega
 exact key 10 u (by omega) (by decide)
theorem zhr {n : Int} (h0 : 0 ≤ n) (h1 : n < 4294967296) : qe (jV n) = (zcX n, 0) ∧ (jV n).length ≤ 16 := by
 obtain ⟨u, rfl⟩ := Int.eq_ofNat_of_zero_le h0
 have hi : Lib.itoa (u : Int) = Lib.decDigits u := by unfold Lib.itoa; rw [if_neg (by omega), Int.toNat_natCast]
 have hl := zvk (u := u) (by omega)
 have hlen : (jV (u : Int)).length ≤ 16 := by unfold jV zbF; rw [hi]; simp; omega
 refine ⟨?_, hlen⟩
 rw [zoz, if_neg (by omega)]
 have hx : xo (jV (u : Int)) [] = some (zcX u) := by
  unfold jV
  rw [hi, show zbF ++ 32 :: Lib.decDigits u = (46 :: [108, 111, 110, 103]) ++ (32 :: Lib.decDigits u) from rfl, zs6 (c := 46) (s := [108, 111, 110, 103]) (rest := 32 :: Lib.decDigits u) (by decide +kernel) (by decide +kernel) rfl, zre]
  have := zuQ (u := u) (by omega) (rest := []) trivial ([] ++ [⟨1, 0, 46 :: [108, 111, 110, 103]⟩])
  rw [List.append_nil] at this
  rw [this, zhh]
  rfl
 rw [hx]
 rfl
theorem ziJ : ∀ (l : List Int) (k : Int) (out : List yI), k8 l → we (yx 10 (xz l)) k out = (out ++ wn l k, 0, 0)
 | [], k, out, _ => by
  show we [[]] k out = _
  rw [kN, if_neg (by decide +kernel), if_pos (by decide +kernel), wn, List.append_nil]
  rfl
 | n :: l, k, out, h => by
  have hn := h n List.mem_cons_self
  obtain ⟨hx, _⟩ := zhr hn.1 hn.2
  rw [xz, zkn, zko _ (zvj hn.1), List.singleton_append, kN, hx, if_neg (fun h => h rfl), if_neg (by show ¬ 2 = 0; decide), ziJ l (k + 1) _ (fun m hm => h m (List.mem_cons_of_mem _ hm)), wn, List.append_assoc]
  rfl
theorem zhs : ∀ l : List Int, k8 l → (xz l).length ≤ 17 * l.length
 | [], _ => Nat.le_refl _
 | n :: l, h => by
  have hn := h n List.mem_cons_self
  have h1 := (zhr hn.1 hn.2).2
  have h2 := zhs l fun m hm => h m (List.mem_cons_of_mem _ hm)
  rw [xz]
  simp only [List.length_append, List.length_cons]
  omega
theorem znc : ∀ (l : List Int) (k : Int), k8 l → (wn l k).length = l.length ∧ vp (wn l k) = 2 * l.length ∧ ∀ x ∈ wn l k, ki (kY x) ∧ x.toks.length ≤ 1000000000 ∧ wt (x.toks.map tk) ≤ 1048576
 | [], k, _ => ⟨rfl, rfl, fun x hx => by cases hx⟩
 | n :: l, k, h => by
  obtain ⟨h1, h2, h3⟩ := znc l (k + 1) fun m hm => h m (List.mem_cons_of_mem _ hm)
  rw [wn]
  refine ⟨by simp [h1], ?_, fun x hx => ?_⟩
  ·rw [vp, h2]
   show 2 + 2 * l.length = 2 * (l.length + 1)
   omega
  ·rcases List.mem_cons.1 hx with rfl | hx
   ·refine ⟨?_, by show 2 ≤ _; decide, ?_⟩
    ·show ki zbF; decide
    ·show 1 + zbF.length + (1 + 0 + 0) ≤ _; decide
   ·exact h3 x hx
attribute [local irreducible] xK
theorem zqs (q : List zk) (l m : List yI) (b : Bld) : xG q (l ++ m) b = xG q m (xG q l b) := by unfold xG; rw [List.foldl_append]
end Go.Proofs.YthmdddenbfbefaaGreatDoor
namespace Go.Proofs.YthmdddenbfbefaaGreatDoor
open Go Go.Plat
set_option linter.unusedVariables false
set_option linter.unusedSimpArgs false
set_option maxRecDepth 100000
set_option maxHeartbeats 2000000
attribute [local irreducible] AWP zy ye zF zn yt z6 zE zW zY zp za zN yu zo zZ yp yq yj yl zt zu zw yo yk zG yH okC zd
def upI (n : Int) : Int := n + 3 - (n + 3) % 4
def wl : List y0 → Int → List Int
 | [], _ => []
 | o :: l, n => upI n :: wl l (upI n + o.code.length)
def qx : List y0 → Int → Int
 | [], n => n
 | o :: l, n => qx l (upI n + o.code.length)
def zqt (n : Int) : D := .int .i64 n
def zfL (l : List Int) : D := .sl 1 (l.map zqt) none
theorem zwZ : ∀ i : Fin 64, (~~~ (3#64)).getLsbD i = decide (2 ≤ i.1) := by decide
theorem zr8 (x : BitVec 64) : x &&& ~~~ (3#64) = (x >>> 2) <<< 2 := by
 apply BitVec.eq_of_getLsbD_eq
 intro i hi
 rw [BitVec.getLsbD_and, zwZ ⟨i, hi⟩, BitVec.getLsbD_shiftLeft, BitVec.getLsbD_ushiftRight]
 by_cases h : 2 ≤ i
 ·simp [h, hi, show ¬ i < 2 by omega, show 2 + (i - 2) = i by omega]
 ·simp [h, show i < 2 by omega]
theorem ztI {n : Int} (h0 : 0 ≤ n) (h1 : n ≤ 9223372036854775807) : zw .andNot .i64 n 3 = n - n % 4 := by
 obtain ⟨a, rfl⟩ := Int.eq_ofNat_of_zero_le h0
 have ha : a ≤ 9223372036854775807 := by omega
 unfold zw
 have hx := zaV ha
 have e : (BitVec.ofInt IntKind.i64.bits (a : Int) &&& ~~~ BitVec.ofInt IntKind.i64.bits 3).toNat = a / 4 * 4 := by
  generalize BitVec.ofInt IntKind.i64.bits (a : Int) = x at *
  change BitVec 64 at x
  show (x &&& ~~~ (3#64)).toNat = _
  rw [zr8, BitVec.toNat_shiftLeft, BitVec.toNat_ushiftRight]
  have hx : x.toNat = a := hx
  rw [hx, Nat.shiftRight_eq_div_pow, Nat.shiftLeft_eq]
  omega
 show IntKind.i64.wrap ((_ : Nat) : Int) = _
 rw [e]
 refine (Go.Plat.wrap_small (by omega)).trans ?_
 omega
theorem zfM (n : Int) : n ≤ upI n ∧ upI n ≤ n + 3 ∧ upI n % 4 = 0 := by unfold upI; omega
theorem znd : za Tryz.prog zl3 (zA (fun ((l, n) : List y0 × Int) => l.length ≤ 1048576 ∧ 0 ≤ n ∧ n ≤ 1000000000 ∧ ∀ o ∈ l, o.code.length ≤ 1048576) (fun (l, n) => [.sl 3 (l.map qG) none, .int .i64 n])
  fun (l, n) => .tup [zfL (wl l n), .int .i64 (qx l n)]) := by
 refine zg zj Tryz.func91 rfl (by decide) ?_
 rintro ⟨l, n⟩ ⟨hl, hn0, hn1, ho⟩
 refine ⟨Nat.le_refl _, by simp [Tryz.f91], fun E hE => ?_⟩
 refine zf _ ?_
 (all_goals refine qgo (Lf.mk ?_))
 refine wW (qX 6 1 rfl) ?_
 refine z8 (α := Nat × List Int × Int) (fun p => p.1 ≤ l.length ∧ p.2.1.length = p.1 ∧ p.2.1 ++ wl (l.drop p.1) p.2.2 = wl l n ∧ qx (l.drop p.1) p.2.2 = qx l n ∧ 0 ≤ p.2.2 ∧ p.2.2 ≤ 1000000000 + p.1 * 1048580)
  (fun p => [(11, .sl 3 (l.map qG) none), (12, .int .i64 l.length), (13, .int .i64 p.1), (6, .sl 1 (p.2.1.map zqt) (some 0)), (7, .int .i64 p.2.2)])
  (fun p => [.spare p.2.1.length]) (fun p => l.length - p.1) (fun _ => by simp [hE]) (0, [], n) ⟨Nat.zero_le _, rfl, by simp, by simp, hn0, by dsimp only; omega⟩ ?_ ?_
 ·(repeat' (first | (refine VS.mk ?_) | exact trivial | exact rfl | refine And.intro ?_ ?_))
 rintro ⟨k, bs, a⟩ ⟨hk, hbl, hb, he, ha0, ha1⟩
 dsimp only at hk hbl hb he ha0 ha1 ⊢
 refine zf _ ?_
 have hkb : (k : Int) * 1048580 ≤ 1048576 * 1048580 := by omega
 (all_goals refine qgo ?_ <;> (repeat' first | exact trivial | intro hc | refine And.intro ?_ ?_) <;> refine Lf.mk ?_)
 ·obtain ⟨o, hok⟩ := ya (l := l) (k := k) (by omega)
  have hkl : k < l.length := by omega
  have hget : l[k] = o := by rw [List.getElem?_eq_getElem hkl] at hok; exact Option.some.inj hok
  have hoc := ho o (List.mem_of_getElem? hok)
  rw [List.drop_eq_getElem_cons hkl, hget, wl] at hb
  rw [List.drop_eq_getElem_cons hkl, hget, qx] at he
  have hup := zfM a
  refine zl o (by omega) (by simpa using hok) ?_
  (all_goals refine qgo (Lf.mk ?_))
  refine wb (ztI (by omega) (by omega)) ?_
  (all_goals refine qgo (Lf.mk ?_))
  refine zC (k + 1, bs ++ [upI a], upI a + o.code.length) ⟨by (dsimp only; omega), by (dsimp only; rw [List.length_append, hbl]; rfl), by (dsimp only; rw [List.append_assoc]; exact hb), he, by (dsimp only; omega), by (dsimp only; omega)⟩ (by dsimp only; omega) ?_
  (repeat' (first | (refine VS.mk ?_) | exact trivial | exact rfl | refine And.intro ?_ ?_))
  ·simp
  ·simp [zqt, upI]
 ·obtain rfl : k = l.length := by omega
  rw [List.drop_length, wl, List.append_nil] at hb
  rw [List.drop_length, qx] at he
  refine zb (VS.mk ?_)
  rw [hb, he]
  (first | exact LeL.refl _ | (repeat' (first | exact LeL.nil | exact LeD.refl _ | exact LeD.nil _ | exact LeD.strip _ _ _ | refine LeL.cons ?_ ?_ | refine LeD.tup ?_ | refine LeD.agg ?_)))
def qJ (n : List UInt8) : List zz → Option Int
 | [] => none
 | s :: l => if s.name = n then some s.at_ else qJ n l
def zem (n : List UInt8) : List zz → Nat → Int
 | [], _ => -1
 | s :: l, k => if s.name = n then k else zem n l (k + 1)
theorem zqu : za Tryz.prog zbi (yh (fun _ : zz × List UInt8 => True) (fun (s, n) => [yF s, .loc 0 0]) (fun (s, n) => [.cells [.str n]]) (fun (s, n) => .bool (s.name == n)) fun (s, n) => [.cells [.str n]]) := by
 refine zg zj Tryz.func145 rfl (by decide) ?_
 rintro ⟨s, n⟩ -
 refine ⟨Nat.le_refl _, by simp [Tryz.f145], fun E hE => ?_⟩
 refine zf _ ?_
 (all_goals refine qgo (Lf.mk ?_))
 refine yn ?_
 (repeat' (first | (refine VS.mk ?_) | exact trivial | exact rfl | refine And.intro ?_ ?_))
theorem zne : za Tryz.prog wZ (yh (fun ((l, n) : List zz × List UInt8) => l.length ≤ 1000000000) (fun (l, n) => [.sl 2 (l.map yF) none, .fn zbi [.loc 0 0]])
  (fun (l, n) => [.cells [.str n]]) (fun (l, n) => .int .i64 (zem n l 0)) fun (l, n) => [.cells [.str n]]) := by
 refine zg zj Tryz.func133 rfl (by decide) ?_
 rintro ⟨l, n⟩ hl
 have hl : l.length ≤ 1000000000 := hl
 refine ⟨Nat.le_refl _, by simp [Tryz.f133], fun E hE => ?_⟩
 refine zf _ ?_
 (all_goals refine qgo (Lf.mk ?_))
 refine z8 (α := Nat) (fun k => k ≤ l.length ∧ zem n l 0 = zem n (l.drop k) k)
  (fun k => [(7, .int .i64 l.length), (8, .int .i64 k), (0, .sl 2 (l.map yF) none), (1, .fn zbi [.loc 0 0])])
  (fun _ => [.cells [.str n]]) (fun k => l.length - k) (fun _ => by simp [hE]) 0 ⟨Nat.zero_le _, by simp⟩ ?_ ?_
 ·(repeat' (first | (refine VS.mk ?_) | exact trivial | exact rfl | refine And.intro ?_ ?_))
 rintro k ⟨hk, hf⟩
 refine zf _ ?_
 (all_goals refine qgo ?_ <;> (repeat' first | exact trivial | intro hc | refine And.intro ?_ ?_) <;> refine Lf.mk ?_)
 ·obtain ⟨s, hsk⟩ := ya (l := l) (k := k) (by omega)
  have hkl : k < l.length := by omega
  have hget : l[k] = s := by rw [List.getElem?_eq_getElem hkl] at hsk; exact Option.some.inj hsk
  rw [List.drop_eq_getElem_cons hkl, hget, zem] at hf
  refine zl s (by omega) (by simpa using hsk) ?_
  (all_goals refine qgo (Lf.mk ?_))
  refine zX zqu [0] [0] (s, n) trivial rfl rfl ?_
  refine And.intro (VS.mk (LeL.of_eq rfl)) (And.intro (VS.mk rfl) ?_)
  (all_goals refine qgo ?_ <;> (repeat' first | exact trivial | intro hc | refine And.intro ?_ ?_) <;> refine Lf.mk ?_)
  ·rw [if_pos hc] at hf
   refine yn ?_
   (repeat' (first | (refine VS.mk ?_) | exact trivial | exact rfl | refine And.intro ?_ ?_))
   exact congrArg (D.int .i64) hf.symm
  ·rw [if_neg hc] at hf
   refine zC (k + 1) ⟨by omega, hf⟩ (by omega) ?_
   (repeat' (first | (refine VS.mk ?_) | exact trivial | exact rfl | refine And.intro ?_ ?_))
 ·rw [List.drop_of_length_le (by omega), zem] at hf
  refine yn ?_
  (repeat' (first | (refine VS.mk ?_) | exact trivial | exact rfl | refine And.intro ?_ ?_))
  exact congrArg (D.int .i64) hf.symm
theorem znf (n : List UInt8) : ∀ (l : List zz) (k : Nat), (qJ n l = none ∧ zem n l k = -1) ∨ ∃ (i : Nat) (s : zz), l[i]? = some s ∧ zem n l k = ((k + i : Nat) : Int) ∧ qJ n l = some s.at_
 | [], k => .inl ⟨rfl, rfl⟩
 | s :: l, k => by
  rw [qJ, zem]
  by_cases h : s.name = n
  ·rw [if_pos h, if_pos h]
   exact .inr ⟨0, s, rfl, rfl, rfl⟩
  ·rw [if_neg h, if_neg h]
   rcases znf n l (k + 1) with h1 | ⟨i, t, h1, h2, h3⟩
   ·exact .inl h1
   ·exact .inr ⟨i + 1, t, h1, by rw [h2]; congr 1; omega, h3⟩
theorem zgN : za Tryz.prog znS (zA (fun ((l, n) : List zz × List UInt8) => l.length ≤ 1000000000) (fun (l, n) => [.sl 2 (l.map yF) none, .str n])
  fun (l, n) => .tup [.int .i64 ((qJ n l).getD 0), .bool (qJ n l).isSome]) := by
 refine zg zj Tryz.func92 rfl (by decide) ?_
 rintro ⟨l, n⟩ hl
 have hl : l.length ≤ 1000000000 := hl
 refine ⟨Nat.le_refl _, by simp [Tryz.f92], fun E hE => ?_⟩
 refine zf _ ?_
 (all_goals refine qgo (Lf.mk ?_))
 refine zX zne [0] [0] (l, n) hl rfl rfl ?_
 refine And.intro (VS.mk (LeL.of_eq rfl)) (And.intro (VS.mk rfl) ?_)
 rcases znf n l 0 with ⟨h1, h2⟩ | ⟨i, s, h1, h2, h3⟩
 ·dsimp only
  rw [h2]
  (all_goals refine qgo ?_ <;> (repeat' first | exact trivial | intro hc | refine And.intro ?_ ?_) <;> refine Lf.mk ?_)
  all_goals first
   | (exfalso; omega)
   | (refine zb (VS.mk ?_); rw [h1]; exact .tup (.cons (.refl _) (.cons (.ff rfl) .nil)))
 ·have hil : i < l.length := (List.getElem?_eq_some_iff.1 h1).1
  rw [Nat.zero_add] at h2
  dsimp only
  rw [h2]
  (all_goals refine qgo ?_ <;> (repeat' first | exact trivial | intro hc | refine And.intro ?_ ?_) <;> refine Lf.mk ?_)
  ·exfalso; omega
  ·refine zl s (by omega) (by simpa using h1) ?_
   (all_goals refine qgo (Lf.mk ?_))
   refine zb (VS.mk ?_)
   rw [h3]
   exact .tup (.cons (.refl _) (.cons (.tt rfl) .nil))
end Go.Proofs.YthmdddenbfbefaaGreatDoor
namespace Go.Proofs.YthmdddenbfbefaaGreatDoor
open Go Go.Plat
set_option linter.unusedVariables false
set_option linter.unusedSimpArgs false
set_option maxRecDepth 100000
set_option maxHeartbeats 2000000
attribute [local irreducible] AWP zy ye zF zn yt z6 zE zW zY zp za zN yu zo zZ yp yq yj yl zt zu zw
attribute [local irreducible] yo zG zd
theorem zr9 {s : List UInt8} (h : yH s = true) : 1 ≤ s.length ∧ s.length ≤ 10 := by
 unfold yH at h
 rw [Bool.and_eq_true, Bool.and_eq_true] at h
 exact of_decide_eq_true h.1.1
attribute [local irreducible] yH
theorem zng {n : Int} : ∀ {l : List zz} {had : List (List UInt8)}, wA n l had = none → ∀ s ∈ l, yH s.name = true ∧ 0 ≤ s.at_ ∧ s.at_ ≤ n
 | [], _, _, s, hs => by simp at hs
 | t :: l, had, h, s, hs => by
  rw [wA] at h
  split at h
  ·cases h
  rename_i h1
  split at h
  ·cases h
  rename_i h2
  rcases List.mem_cons.1 hs with rfl | hs
  ·refine ⟨?_, by omega, by omega⟩
   cases hn : yH s.name with
   | true => rfl
   | false => exact (h1 (.inl hn)).elim
  ·exact zng h s hs
theorem znh {n : Int} : ∀ {l : List zz} {had : List (List UInt8)} {e : Int}, wA n l had = some e → e ≠ 0
 | [], _, _, h => by cases h
 | t :: l, had, e, h => by
  rw [wA] at h
  split at h
  ·cases h; decide
  split at h
  ·cases h; decide
  exact znh h
structure zld (n : Int) (r : jf) : Prop where
 size : r.size = 2 ∨ r.size = 4
 at0 : 0 ≤ r.at_
 at1 : r.at_ + r.size ≤ n
 name : r.name = [] ∨ yH r.name = true
 add : zd r.add 32 = r.add
theorem zni {n : Int} : ∀ {l : List jf} {last : Int}, 0 ≤ last → qw n l last = 0 → ∀ r ∈ l, zld n r
 | [], _, _, _, s, hs => by simp at hs
 | t :: l, last, h0, h, r, hs => by
  rw [qw] at h
  split at h
  ·cases h
  rename_i h1
  split at h
  ·cases h
  rename_i h2
  split at h
  ·cases h
  rename_i h3
  split at h
  ·cases h
  rename_i h4
  split at h
  ·cases h
  rename_i h5
  rcases List.mem_cons.1 hs with rfl | hs
  ·refine ⟨by omega, by omega, by omega, ?_, Classical.not_not.1 h5⟩
   cases hn : yH r.name with
   | true => exact .inr rfl
   | false => exact .inl (Classical.not_not.1 fun hne => h4 ⟨hne, hn⟩)
  ·exact zni (by omega) h r hs
structure zw0 (o : y0) : Prop where
 code : o.code.length ≤ 8000
 syms : o.syms.length ≤ 255
 rels : o.rels.length ≤ 16000
 sym : ∀ s ∈ o.syms, yH s.name = true ∧ 0 ≤ s.at_ ∧ s.at_ ≤ o.code.length
 rel : ∀ r ∈ o.rels, zld o.code.length r
theorem zht {o : y0} (h : wE o = 0) : zw0 o := by
 unfold wE at h
 split at h
 ·cases h
 rename_i h1
 split at h
 ·rename_i e he
  exact (znh he h).elim
 rename_i he
 exact ⟨by omega, by omega, by omega, zng he, zni (Int.le_refl _) h⟩
theorem zld.len {n : Int} {r : jf} (h : zld n r) : r.name.length ≤ 10 := by
 rcases h.name with h | h
 ·rw [h]; decide
 ·exact (zr9 h).2
end Go.Proofs.YthmdddenbfbefaaGreatDoor
namespace Go.Proofs.YthmdddenbfbefaaGreatDoor
open Go Go.Plat
set_option linter.unusedVariables false
set_option maxRecDepth 100000
attribute [local irreducible] yo yk zG yH okC zd
def ztJ (e a : Int) : D := .agg [.int .i64 e, .int .i64 a]
def zci (b : Int) : List zz → List zz → Option (List zz)
 | [], acc => some acc
 | s :: l, acc => if (qJ s.name acc).isSome = true then none else zci b l (acc ++ [⟨s.name, b + s.at_⟩])
def jW (bs : List UInt8) (off : Nat) (code : List UInt8) : List UInt8 := bs ++ List.replicate (off - bs.length) 0 ++ code
def lay (base : Int) : List y0 → Int → Nat → List UInt8 → List zz → Nat ⊕ (List UInt8 × List zz)
 | [], _, _, bs, ss => .inr (bs, ss)
 | o :: l, n, i, bs, ss => match zci (upI n) o.syms ss with
  | none => .inl i
  | some ss' => lay base l (upI n + o.code.length) (i + 1) (jW bs (upI n - base).toNat o.code) ss'
def za8 (b : Int) (ss : List zz) (r : jf) : Option Int := if r.name = [] then some b else qJ r.name ss
def jh (base b : Int) (ss : List zz) : List jf → List UInt8 → Int ⊕ List UInt8
 | [], bs => .inr bs
 | r :: l, bs => match za8 b ss r with
  | none => .inl 6
  | some a => if r.size = 2 ∧ (zd (a + r.add) 32 < -32768 ∨ 65535 < zd (a + r.add) 32) then .inl 3
   else jh base b ss l (yb bs (b - base + r.at_) r.size.toNat (zd (a + r.add) 32))
def fix (base : Int) (ss : List zz) : List y0 → Int → Nat → List UInt8 → (Int × Nat) ⊕ List UInt8
 | [], _, _, bs => .inr bs
 | o :: l, n, i, bs => match jh base (upI n) ss o.rels bs with
  | .inl e => .inl (e, i)
  | .inr bs' => fix base ss l (upI n + o.code.length) (i + 1) bs'
def kQ : List y0 → Nat → Option (Int × Nat)
 | [], _ => none
 | o :: l, i => if wE o = 0 then kQ l (i + 1) else some (wE o, i)
def zen (l : List y0) (base : Int) : qF × Int × Int :=
 match kQ l 0 with
 | some (e, i) => (zav, e, i)
 | none => match lay base l base 0 [] [] with
  | .inl i => (zav, 7, i)
  | .inr (bs, ss) => match fix base ss l base 0 bs with
   | .inl (e, i) => (zav, e, i)
   | .inr bs' => (⟨base, bs', ss⟩, 0, 0)
def xU (l : List y0) (base : Int) : qF × Int × Int :=
 if base < 0 ∨ 1048576 < base ∨ base % 4 ≠ 0 then (zav, 3, 0) else if l.length < 1 ∨ 4 < l.length then (zav, 5, 0) else zen l base
def zjF (x : qF × Int × Int) : D := .tup [zjr x.1, ztJ x.2.1 x.2.2]
theorem zkp : ∀ {l : List y0} {k : Nat}, kQ l k = none → ∀ o ∈ l, wE o = 0
 | [], _, _, o, h => by simp at h
 | x :: l, k, h, o, ho => by
  rw [kQ] at h
  split at h
  ·rename_i hx
   rcases List.mem_cons.1 ho with rfl | ho
   ·exact hx
   ·exact zkp h o ho
  ·cases h
theorem zkq {n : List UInt8} : ∀ {l : List zz} {a : Int}, qJ n l = some a → ∃ s ∈ l, s.at_ = a
 | [], a, h => by cases h
 | s :: l, a, h => by
  rw [qJ] at h
  split at h
  ·cases h; exact ⟨s, by simp, rfl⟩
  ·obtain ⟨t, h1, h2⟩ := zkq h
   exact ⟨t, by simp [h1], h2⟩
theorem zgO (bs : List UInt8) (a : Int) (k : Nat) (n : Int) : (yb bs a k n).length = bs.length := vW a k bs n
theorem zjG : ∀ (l : List y0) (n : Int), n ≤ qx l n
 | [], n => Int.le_refl _
 | o :: l, n => by
  have h1 := zjG l (upI n + o.code.length)
  have h2 := zfM n
  rw [qx]; omega
theorem zo1 : ∀ (l : List y0) (n : Int), (∀ o ∈ l, o.code.length ≤ 8000) → qx l n ≤ n + l.length * 8003
 | [], n, _ => by rw [qx]; simp
 | o :: l, n, h => by
  have h1 := zo1 l (upI n + o.code.length) fun x hx => h x (by simp [hx])
  have h2 := zfM n
  have h3 := h o (by simp)
  rw [qx, List.length_cons]; omega
theorem zgP {α : Type} {l r : List α} {k : Nat} {x : α} (h : l.drop k = x :: r) : l[k]? = some x := by
 have := List.getElem?_drop (xs := l) (i := k) (j := 0)
 rw [h] at this
 simpa using this.symm
theorem zkr {α : Type} {l r : List α} {k : Nat} {x : α} (h : l.drop k = x :: r) : l.drop (k + 1) = r := by
 rw [← List.drop_drop, h]; rfl
theorem vQ {α : Type} {l : List α} {k : Nat} {o : α} (h : l[k]? = some o) : l.drop k = o :: l.drop (k + 1) := by
 obtain ⟨hk, h2⟩ := List.getElem?_eq_some_iff.1 h
 rw [List.drop_eq_getElem_cons hk, h2]
theorem zfN (n : Int) : -2147483648 ≤ zd n 32 ∧ zd n 32 ≤ 2147483647 := by
 have : zd n 32 = if n % 4294967296 / 2147483648 = 1 then n % 4294967296 - 4294967296 else n % 4294967296 := by unfold zd; rfl
 rw [this]
 split <;> omega
theorem ztK {base : Int} {o : y0} {l : List y0} {n : Int} {i : Nat} {bs : List UInt8} {ss : List zz} : lay base (o :: l) n i bs ss = match zci (upI n) o.syms ss with
  | none => .inl i
  | some ss' => lay base l (upI n + o.code.length) (i + 1) (jW bs (upI n - base).toNat o.code) ss' := by rw [lay]
theorem zvl {base n : Int} {i : Nat} {bs : List UInt8} {ss : List zz} : lay base [] n i bs ss = .inr (bs, ss) := rfl
theorem ztL {base : Int} {o : y0} {l : List y0} {n : Int} {i : Nat} {bs : List UInt8} {ss : List zz} : fix base ss (o :: l) n i bs = match jh base (upI n) ss o.rels bs with
  | .inl e => .inl (e, i)
  | .inr bs' => fix base ss l (upI n + o.code.length) (i + 1) bs' := by rw [fix]
theorem zvm {base n : Int} {i : Nat} {bs : List UInt8} {ss : List zz} : fix base ss [] n i bs = .inr bs := rfl
theorem zsa {base b : Int} {ss : List zz} {r : jf} {l : List jf} {bs : List UInt8} : jh base b ss (r :: l) bs = match za8 b ss r with
  | none => .inl 6
  | some a => if r.size = 2 ∧ (zd (a + r.add) 32 < -32768 ∨ 65535 < zd (a + r.add) 32) then .inl 3
   else jh base b ss l (yb bs (b - base + r.at_) r.size.toNat (zd (a + r.add) 32)) := by rw [jh]
theorem ztM {base b : Int} {ss : List zz} {bs : List UInt8} : jh base b ss [] bs = .inr bs := rfl
theorem zsb {b : Int} {s : zz} {l acc : List zz} : zci b (s :: l) acc = if (qJ s.name acc).isSome = true then none else zci b l (acc ++ [⟨s.name, b + s.at_⟩]) := by rw [zci]
theorem ztN {b : Int} {acc : List zz} : zci b [] acc = some acc := rfl
theorem ziK {o : y0} {l : List y0} {n : Int} : wl (o :: l) n = upI n :: wl l (upI n + o.code.length) := rfl
theorem zsc {o : y0} {l : List y0} {n : Int} : qx (o :: l) n = qx l (upI n + o.code.length) := rfl
theorem ztO {n : Int} : qx [] n = n := rfl
theorem zsd {bs code : List UInt8} {off N : Nat} (h1 : bs.length ≤ off) (h2 : off + code.length ≤ N) :
  vC ((bs ++ List.replicate (N - bs.length) 0).map zH) off (code.map zH) = ((jW bs off code) ++ List.replicate (N - (jW bs off code).length) 0).map zH := by
 have hlen : (jW bs off code).length = off + code.length := by unfold jW; simp; omega
 rw [hlen]
 unfold vC jW
 rw [List.length_map, ← List.map_take, ← List.map_drop, ← List.map_append, ← List.map_append]
 congr 1
 have e1 : (bs ++ List.replicate (N - bs.length) 0).take off = bs ++ List.replicate (off - bs.length) 0 := by
  rw [List.take_append, List.take_of_length_le h1, List.take_replicate]
  congr 2; omega
 have e2 : (bs ++ List.replicate (N - bs.length) (0 : UInt8)).drop (off + code.length) = List.replicate (N - (off + code.length)) 0 := by
  rw [List.drop_append, List.drop_of_length_le (by omega), List.drop_replicate, List.nil_append]
  congr 1; omega
 rw [e1, e2]
theorem ztP {bs code : List UInt8} {off : Nat} (h1 : bs.length ≤ off) : (jW bs off code).length = off + code.length := by unfold jW; simp; omega
end Go.Proofs.YthmdddenbfbefaaGreatDoor
namespace Go.Proofs.YthmdddenbfbefaaGreatDoor
open Go Go.Plat
set_option linter.unusedVariables false
set_option linter.unusedSimpArgs false
set_option maxRecDepth 100000
set_option maxHeartbeats 2000000
attribute [local irreducible] AWP zy ye zF zn yt z6 zE zW zY zp za zN yu zo zZ yp yq yj yl zt zu zci wl zw yo qx qJ fix jh yk lay zG yH okC yb zd upI wE
structure InL (l : List y0) (base : Int) : Prop where
 base0 : -9223372036854775808 ≤ base
 base1 : base ≤ 9223372036854775807
 len : l.length ≤ 1048576
 rel : ∀ o ∈ l, ∀ r ∈ o.rels, -9223372036854775808 ≤ r.at_ ∧ r.at_ ≤ 9223372036854775807 ∧ r.name.length ≤ 1000000000
 sym : ∀ o ∈ l, ∀ s ∈ o.syms, s.name.length ≤ 1000000000
theorem kR {e a : Int} {x : qF × Int × Int} (h : x = (zav, e, a)) : LeD (.tup [.agg [.int .i64 0, .nilsl, .nilsl], .agg [.int .i64 e, .int .i64 a]]) (zjF x) := by
 subst h
 exact .tup (.cons (.agg (.cons (.refl _) (.cons (.nil 1) (.cons (.nil 2) .nil)))) (.cons (.refl _) .nil))
theorem zqv : za Tryz.prog znP (zA (fun ((l, base) : List y0 × Int) => InL l base) (fun (l, base) => [.sl 3 (l.map qG) none, .int .i64 base]) fun (l, base) => zjF (xU l base)) := by
 refine zg zj Tryz.func52 rfl (by decide) ?_
 rintro ⟨l, base⟩ hin
 have hb0 := hin.base0
 have hb1 := hin.base1
 have hll := hin.len
 refine ⟨Nat.le_refl _, by simp [Tryz.f52], fun E hE => ?_⟩
 refine zf _ ?_
 (all_goals refine qgo ?_ <;> (repeat' first | exact trivial | intro hc | refine And.intro ?_ ?_) <;> refine Lf.mk ?_)
 ·exact zb (VS.mk (kR (by show xU l base = _; unfold xU; rw [if_pos (by omega)])))
 ·exact zb (VS.mk (kR (by show xU l base = _; unfold xU; rw [if_pos (by omega)])))
 ·exact zb (VS.mk (kR (by show xU l base = _; unfold xU; rw [if_pos (by omega)])))
 ·exact zb (VS.mk (kR (by show xU l base = _; unfold xU; rw [if_neg (by omega), if_pos (by omega)])))
 ·exact zb (VS.mk (kR (by show xU l base = _; unfold xU; rw [if_neg (by omega), if_pos (by omega)])))
 have hlo : xU l base = zen l base := by unfold xU; rw [if_neg (by omega), if_neg (by omega)]
 have hl4 : l.length ≤ 4 := by omega
 refine z8 (α := Nat) (fun k => k ≤ l.length ∧ kQ l 0 = kQ (l.drop k) k)
  (fun k => [(48, .sl 3 (l.map qG) none), (49, .int .i64 l.length), (50, .int .i64 k), (0, .sl 3 (l.map qG) none), (1, .int .i64 base), (4, .loc 0 0), (5, .loc 1 0)])
  (fun _ => [.cells [.int .i64 0, .nilsl, .nilsl], .cells [.int .i64 0, .int .i64 0]]) (fun k => l.length - k) (fun _ => by simp [hE]) 0 ⟨Nat.zero_le _, by simp⟩ ?_ ?_
 ·(repeat' (first | (refine VS.mk ?_) | exact trivial | exact rfl | refine And.intro ?_ ?_))
 rintro k ⟨hk, hf⟩
 refine zf _ ?_
 (all_goals refine qgo ?_ <;> (repeat' first | exact trivial | intro hc | refine And.intro ?_ ?_) <;> refine Lf.mk ?_)
 ·obtain ⟨o, hok⟩ := ya (l := l) (k := k) (by omega)
  rw [vQ hok, kQ] at hf
  have hom := List.mem_of_getElem? hok
  refine zl o (by omega) (by simpa using hok) ?_
  (all_goals refine qgo (Lf.mk ?_))
  refine ze zfy o ⟨hin.rel o hom, hin.sym o hom⟩ (VS.mk (by (first | exact LeL.refl _ | (repeat' (first | exact LeL.nil | exact LeD.refl _ | exact LeD.nil _ | exact LeD.strip _ _ _ | refine LeL.cons ?_ ?_ | refine LeD.tup ?_ | refine LeD.agg ?_))))) ?_
  (all_goals refine qgo ?_ <;> (repeat' first | exact trivial | intro hc | refine And.intro ?_ ?_) <;> refine Lf.mk ?_)
  ·rw [if_neg hc] at hf
   exact zb (VS.mk (kR (by show xU l base = _; rw [hlo]; unfold zen; rw [hf])))
  ·rw [if_pos hc] at hf
   refine zC (k + 1) ⟨by omega, hf⟩ (by omega) ?_
   (repeat' (first | (refine VS.mk ?_) | exact trivial | exact rfl | refine And.intro ?_ ?_))
 rw [List.drop_of_length_le (by omega), kQ] at hf
 have hlr : zen l base = match lay base l base 0 [] [] with
  | .inl i => (zav, 7, i)
  | .inr (bs, ss) => match fix base ss l base 0 bs with
   | .inl (e, i) => (zav, e, i)
   | .inr bs' => (⟨base, bs', ss⟩, 0, 0) := by unfold zen; rw [hf]; try rfl
 have hok := zkp hf
 have hcode : ∀ o ∈ l, o.code.length ≤ 8000 := fun o ho => (zht (hok o ho)).code
 clear hf
 refine ze znd (l, base) ⟨by omega, by omega, by omega, fun o ho => by have := hcode o ho; omega⟩ (VS.mk (LeL.of_eq rfl)) ?_
 have he0 := zjG l base
 have he1 := zo1 l base hcode
 (all_goals refine qgs (Lf.mk ?_))
 refine zli ?_
 (all_goals refine qgo (Lf.mk ?_))
 generalize hN : (qx l base - base).toNat = N at *
 have hNe : qx l base - base = (N : Nat) := by omega
 have hN1 : N ≤ 32012 := by omega
 have hR : (List.replicate N (D.int .u8 0)).length = N := List.length_replicate
 refine wW (qz 3 2 [.int .i64 base, .osl 1 2 (List.replicate N (D.int .u8 0)).length 0 (List.replicate N (D.int .u8 0)).length, .sl 2 [] (some 4)] rfl ⟨.same, .same, .here, trivial⟩) ?_
 generalize hLAY : lay base l base 0 [] [] = LAY at *
 refine z8 (α := Nat × Int × List UInt8 × List zz) (fun p => p.1 ≤ l.length ∧ lay base (l.drop p.1) p.2.1 p.1 p.2.2.1 p.2.2.2 = LAY ∧ (wl l base).drop p.1 = wl (l.drop p.1) p.2.1 ∧ qx (l.drop p.1) p.2.1 = qx l base ∧
   (p.2.2.1.length : Int) = p.2.1 - base ∧ p.2.1 ≤ base + p.1 * 8003 ∧ p.2.2.2.length ≤ p.1 * 255 ∧ ∀ s ∈ p.2.2.2, 0 ≤ s.at_ ∧ s.at_ ≤ 100000000)
  (fun p => [(76, .sl 3 (l.map qG) none), (77, .int .i64 l.length), (78, .int .i64 p.1), (0, .sl 3 (l.map qG) none), (1, .int .i64 base), (4, .loc 0 0), (5, .loc 1 0), (9, zfL (wl l base)), (11, .loc 3 0)])
  (fun p => [.cells [.int .i64 0, .nilsl, .nilsl], .cells [.int .i64 0, .int .i64 0], .arr 1 ((p.2.2.1 ++ List.replicate (N - p.2.2.1.length) 0).map zH), .cells [.int .i64 base, .osl 1 2 N 0 N, .sl 2 (p.2.2.2.map yF) (some 4)], .spare p.2.2.2.length])
  (fun p => l.length - p.1) (fun _ => by simp [hE]) (0, base, [], []) ⟨Nat.zero_le _, by simpa using hLAY, by simp, by simp, by simp, by dsimp only; omega, by simp, by simp⟩ ?_ ?_
 ·(repeat' (first | (refine VS.mk ?_) | exact trivial | exact rfl | refine And.intro ?_ ?_))
  refine vH (List.replicate N 0) (by rw [List.map_replicate]; rfl) ?_
  (repeat' (first | (refine VS.mk ?_) | exact trivial | exact rfl | refine And.intro ?_ ?_))
  simp [vh]
 rintro ⟨k, n, bs, ss⟩ ⟨hk, hlay, hbas, hend, hbl, hn, hsl, hss⟩
 dsimp only at hk hlay hbas hend hbl hn hsl hss ⊢
 refine zf _ ?_
 (all_goals refine qgo ?_ <;> (repeat' first | exact trivial | intro hc | refine And.intro ?_ ?_) <;> refine Lf.mk ?_)
 ·obtain ⟨o, hok1⟩ := ya (l := l) (k := k) (by omega)
  have hom := List.mem_of_getElem? hok1
  have hob := zht (hok o hom)
  have hoc := hob.code
  have hup := zfM n
  rw [vQ hok1, ztK] at hlay
  rw [vQ hok1, ziK] at hbas
  rw [vQ hok1, zsc] at hend
  have hge := zjG (l.drop (k + 1)) (upI n + o.code.length)
  have hbk : (wl l base)[k]? = some (upI n) := zgP hbas
  refine zl o (by omega) (by simpa using hok1) ?_
  (all_goals refine qgk (Lf.mk ?_))
  refine zl (upI n) (by omega) (by simpa using hbk) ?_
  (all_goals refine qgk (Lf.mk ?_))
  have ho1 : bs.length ≤ (upI n - base).toNat := by omega
  have ho2 : (upI n - base).toNat + o.code.length ≤ N := by omega
  have hll2 := ztP (code := o.code) ho1
  refine wM (((jW bs (upI n - base).toNat o.code) ++ List.replicate (N - (jW bs (upI n - base).toNat o.code).length) 0).map zH) (by rw [Nat.zero_add]; exact zsd ho1 ho2) ?_
  generalize hB : jW bs (upI n - base).toNat o.code = B at *
  (all_goals refine qgo (Lf.mk ?_))
  generalize hADD : zci (upI n) o.syms ss = ADD at *
  have hos := hob.syms
  refine z8 (α := Nat × List zz) (fun p => p.1 ≤ o.syms.length ∧ zci (upI n) (o.syms.drop p.1) p.2 = ADD ∧ p.2.length ≤ k * 255 + p.1 ∧ ∀ s ∈ p.2, 0 ≤ s.at_ ∧ s.at_ ≤ 100000000)
   (fun p => [(96, .sl 2 (o.syms.map yF) none), (97, .int .i64 o.syms.length), (98, .int .i64 p.1), (76, .sl 3 (l.map qG) none), (77, .int .i64 l.length), (78, .int .i64 k), (0, .sl 3 (l.map qG) none), (1, .int .i64 base), (4, .loc 0 0), (5, .loc 1 0), (9, zfL (wl l base)), (11, .loc 3 0), (12, .int .i64 k)])
   (fun p => [.cells [.int .i64 0, .nilsl, .nilsl], .cells [.int .i64 0, .int .i64 0], .arr 1 ((B ++ List.replicate (N - B.length) 0).map zH), .cells [.int .i64 base, .osl 1 2 N 0 N, .sl 2 (p.2.map yF) (some 4)], .spare p.2.length])
   (fun p => o.syms.length - p.1) (fun _ => by simp [hE]) (0, ss) ⟨Nat.zero_le _, by simpa using hADD, hsl, hss⟩ ?_ ?_
  ·(repeat' (first | (refine VS.mk ?_) | exact trivial | exact rfl | refine And.intro ?_ ?_))
   refine vH (B ++ List.replicate (N - B.length) 0) rfl ?_
   (repeat' (first | (refine VS.mk ?_) | exact trivial | exact rfl | refine And.intro ?_ ?_))
  rintro ⟨j, acc⟩ ⟨hj, hadd, hal, has⟩
  dsimp only at hj hadd hal has ⊢
  refine zf _ ?_
  (all_goals refine qgo ?_ <;> (repeat' first | exact trivial | intro hc | refine And.intro ?_ ?_) <;> refine Lf.mk ?_)
  ·obtain ⟨s, hsj⟩ := ya (l := o.syms) (k := j) (by omega)
   have hsm := List.mem_of_getElem? hsj
   obtain ⟨_, hs0, hs1⟩ := hob.sym s hsm
   rw [vQ hsj, zsb] at hadd
   refine zl s (by omega) (by simpa using hsj) ?_
   (all_goals refine qgo (Lf.mk ?_))
   refine ze zgN (acc, s.name) (by dsimp only; omega) (VS.mk (by (first | exact LeL.refl _ | (repeat' (first | exact LeL.nil | exact LeD.refl _ | exact LeD.nil _ | exact LeD.strip _ _ _ | refine LeL.cons ?_ ?_ | refine LeD.tup ?_ | refine LeD.agg ?_))))) ?_
   (all_goals refine qgo ?_ <;> (repeat' first | exact trivial | intro hc | refine And.intro ?_ ?_) <;> refine Lf.mk ?_)
   ·rw [if_pos hc] at hadd
    subst hadd
    exact zb (VS.mk (kR (by show xU l base = _; rw [hlo, hlr, ← hlay])))
   ·rw [if_neg (by rw [hc]; decide)] at hadd
    refine zl (upI n) (by omega) (by simpa using hbk) ?_
    (all_goals refine qgo (Lf.mk ?_))
    have has2 : ∀ t ∈ acc ++ [(⟨s.name, upI n + s.at_⟩ : zz)], 0 ≤ t.at_ ∧ t.at_ ≤ 100000000 := fun t ht => by
     rcases List.mem_append.1 ht with h1 | h1
     ·exact has t h1
     ·rw [List.mem_singleton.1 h1]
      exact ⟨by show 0 ≤ upI n + s.at_; omega, by show upI n + s.at_ ≤ _; omega⟩
    refine zC (j + 1, acc ++ [⟨s.name, upI n + s.at_⟩]) ⟨by (dsimp only; omega), hadd, by (dsimp only; rw [List.length_append]; show _ + 1 ≤ _; omega), has2⟩ (by dsimp only; omega) ?_
    (repeat' (first | (refine VS.mk ?_) | exact trivial | exact rfl | refine And.intro ?_ ?_))
    ·refine vH (B ++ List.replicate (N - B.length) 0) rfl ?_
     (repeat' (first | (refine VS.mk ?_) | exact trivial | exact rfl | refine And.intro ?_ ?_))
     simp [yF, vh]
  ·have hje : j = o.syms.length := by omega
   rw [List.drop_of_length_le (by omega), ztN] at hadd
   subst hadd
   refine zC (k + 1, upI n + o.code.length, B, acc) ⟨by (dsimp only; omega), hlay, zkr hbas, hend, by (dsimp only; omega), by (dsimp only; omega), by (dsimp only; omega), has⟩ (by dsimp only; omega) ?_
   (repeat' (first | (refine VS.mk ?_) | exact trivial | exact rfl | refine And.intro ?_ ?_))
   refine vH (B ++ List.replicate (N - B.length) 0) rfl ?_
   (repeat' (first | (refine VS.mk ?_) | exact trivial | exact rfl | refine And.intro ?_ ?_))
 have hke : k = l.length := by omega
 rw [List.drop_of_length_le (by omega), zvl] at hlay
 rw [List.drop_of_length_le (by omega), ztO] at hend
 subst hlay
 have hbN : bs.length = N := by omega
 have hlr2 : zen l base = match fix base ss l base 0 bs with
   | .inl (e, i) => (zav, e, i)
   | .inr bs' => (⟨base, bs', ss⟩, 0, 0) := hlr
 refine wW (zie (k := 2) 3 bs [.int .i64 base, .sl 1 (bs.map zH) (some 5), .sl 2 (ss.map yF) (some 4)] rfl (by rw [show N - bs.length = 0 by omega]; simp) rfl
  ⟨.keep _, .here N N (by simp [hbN]) (by simp [hbN]), .keep _, trivial⟩) ?_
 refine wW (zfg 3 [.int .i64 base, .sl 1 (bs.map zH) none, .sl 2 (ss.map yF) (some 4)] rfl (.cons (.refl _) (.cons (.strip _ _ _) (.cons (.refl _) .nil)))) ?_
 have hss4 : ss.length ≤ 1020 := by omega
 clear hlr hend hn hsl hbas hbl
 generalize hFIX : fix base ss l base 0 bs = FIX at *
 refine z8 (α := Nat × Int × List UInt8) (fun p => p.1 ≤ l.length ∧ fix base ss (l.drop p.1) p.2.1 p.1 p.2.2 = FIX ∧ (wl l base).drop p.1 = wl (l.drop p.1) p.2.1 ∧ base ≤ p.2.1 ∧ p.2.1 ≤ base + p.1 * 8003 ∧ p.2.2.length = N)
  (fun p => [(131, .sl 3 (l.map qG) none), (132, .int .i64 l.length), (133, .int .i64 p.1), (1, .int .i64 base), (4, .loc 0 0), (5, .loc 1 0), (9, zfL (wl l base)), (11, .loc 3 0)])
  (fun p => [.cells [.int .i64 0, .nilsl, .nilsl], .cells [.int .i64 0, .int .i64 0], .dead, .cells [.int .i64 base, .sl 1 (p.2.2.map zH) none, .sl 2 (ss.map yF) (some 4)], .spare ss.length])
  (fun p => l.length - p.1) (fun _ => by simp [hE]) (0, base, bs) ⟨Nat.zero_le _, by simpa using hFIX, by simp, by simp, by dsimp only; omega, hbN⟩ ?_ ?_
 ·(repeat' (first | (refine VS.mk ?_) | exact trivial | exact rfl | refine And.intro ?_ ?_))
 rintro ⟨k, n, bs⟩ ⟨hk, hfix, hbas, hn0, hn, hbl⟩
 dsimp only at hk hfix hbas hn0 hn hbl ⊢
 refine zf _ ?_
 (all_goals refine qgo ?_ <;> (repeat' first | exact trivial | intro hc | refine And.intro ?_ ?_) <;> refine Lf.mk ?_)
 ·obtain ⟨o, hok1⟩ := ya (l := l) (k := k) (by omega)
  have hom := List.mem_of_getElem? hok1
  have hob := zht (hok o hom)
  have hoc := hob.code
  have hup := zfM n
  rw [vQ hok1, ztL] at hfix
  rw [vQ hok1, ziK] at hbas
  have hbk : (wl l base)[k]? = some (upI n) := zgP hbas
  have hor := hob.rels
  refine zl o (by omega) (by simpa using hok1) ?_
  (all_goals refine qgo (Lf.mk ?_))
  generalize hFX : jh base (upI n) ss o.rels bs = FX at *
  refine z8 (α := Nat × List UInt8) (fun p => p.1 ≤ o.rels.length ∧ jh base (upI n) ss (o.rels.drop p.1) p.2 = FX ∧ p.2.length = N)
   (fun p => [(139, .sl 4 (o.rels.map zbn) none), (140, .int .i64 o.rels.length), (141, .int .i64 p.1), (131, .sl 3 (l.map qG) none), (132, .int .i64 l.length), (133, .int .i64 k), (1, .int .i64 base), (4, .loc 0 0), (5, .loc 1 0), (9, zfL (wl l base)), (11, .loc 3 0), (18, .int .i64 k)])
   (fun p => [.cells [.int .i64 0, .nilsl, .nilsl], .cells [.int .i64 0, .int .i64 0], .dead, .cells [.int .i64 base, .sl 1 (p.2.map zH) none, .sl 2 (ss.map yF) (some 4)], .spare ss.length])
   (fun p => o.rels.length - p.1) (fun _ => by simp [hE]) (0, bs) ⟨Nat.zero_le _, by simpa using hFX, hbl⟩ ?_ ?_
  ·(repeat' (first | (refine VS.mk ?_) | exact trivial | exact rfl | refine And.intro ?_ ?_))
  rintro ⟨j, cs⟩ ⟨hj, hfx, hcl⟩
  dsimp only at hj hfx hcl ⊢
  refine zf _ ?_
  (all_goals refine qgo ?_ <;> (repeat' first | exact trivial | intro hc | refine And.intro ?_ ?_) <;> refine Lf.mk ?_)
  ·obtain ⟨r, hrj⟩ := ya (l := o.rels) (k := j) (by omega)
   have hro := hob.rel r (List.mem_of_getElem? hrj)
   have hrn := hro.len
   have hrs := hro.size
   have hr0 := hro.at0
   have hr1 := hro.at1
   have hra := zfN r.add
   rw [hro.add] at hra
   rw [vQ hrj, zsa] at hfx
   refine zl r (by omega) (by simpa using hrj) ?_
   (all_goals refine qgo (Lf.mk ?_))
   refine zl (upI n) (by omega) (by simpa using hbk) ?_
   (all_goals refine qgo ?_ <;> (repeat' first | exact trivial | intro hc | refine And.intro ?_ ?_) <;> refine Lf.mk ?_)
   ·refine ze zgN (ss, r.name) (by dsimp only; omega) (VS.mk (by (first | exact LeL.refl _ | (repeat' (first | exact LeL.nil | exact LeD.refl _ | exact LeD.nil _ | exact LeD.strip _ _ _ | refine LeL.cons ?_ ?_ | refine LeD.tup ?_ | refine LeD.agg ?_))))) ?_
    dsimp only
    have hp0 : za8 (upI n) ss r = qJ r.name ss := by unfold za8; rw [if_neg hc]
    rcases hfs : qJ r.name ss with _ | a
    ·rw [hfs] at hp0
     rw [hp0] at hfx
     subst hfx
     (all_goals refine qgo ?_ <;> (repeat' first | exact trivial | intro hc | refine And.intro ?_ ?_) <;> refine Lf.mk ?_)
     ·exact zb (VS.mk (kR (by show xU l base = _; rw [hlo, hlr2, ← hfix])))
     ·exact Bool.noConfusion hc
    ·obtain ⟨t, ht1, ht2⟩ := zkq hfs
     obtain ⟨hA0, hA1⟩ := hss t ht1
     rw [ht2] at hA0 hA1
     have hpl : za8 (upI n) ss r = some a := by rw [hp0, hfs]
     simp only [Option.getD_some, Option.isSome_some]
     (all_goals refine qgo ?_ <;> (repeat' first | exact trivial | intro hc | refine And.intro ?_ ?_) <;> refine Lf.mk ?_)
     (any_goals (first | (exfalso; refine hc ?_; simp; done) | (exfalso; exact Bool.noConfusion hc) | (exfalso; exact hc (by with_reducible rfl)) | (exfalso; exact hc rfl) | skip))
     refine ze yw (a + r.add) trivial (VS.mk (LeL.of_eq rfl)) ?_
     have hsb := zfN (a + r.add)
     generalize hv : zd (a + r.add) 32 = v at *
     rw [hpl] at hfx
     dsimp only at hfx
     rw [hv] at hfx
     (all_goals refine qgo ?_ <;> (repeat' first | exact trivial | intro hc | refine And.intro ?_ ?_) <;> refine Lf.mk ?_)
     any_goals (first | (rw [if_pos ⟨by assumption, by omega⟩] at hfx; subst hfx; exact zb (VS.mk (kR (by show xU l base = _; rw [hlo, hlr2, ← hfix])))) | skip)
     all_goals
      rw [if_neg (by omega)] at hfx
      have hsz : ((r.size.toNat : Nat) : Int) = r.size := Int.toNat_of_nonneg (by omega)
      refine zl (upI n) (by omega) (by simpa using hbk) ?_
      (all_goals refine qgo (Lf.mk ?_))
      refine zX zcO [] [6] (cs, upI n - base + r.at_, r.size.toNat, v) ⟨by omega, by omega, by omega, by omega⟩ rfl rfl ?_
      refine And.intro (VS.mk (LeL.of_eq (by dsimp only; rw [hsz]; rfl))) (And.intro (VS.mk rfl) ?_)
      (all_goals refine qgo (Lf.mk ?_))
      refine zeu (j + 1, yb cs (upI n - base + r.at_) r.size.toNat v) ⟨by (dsimp only; omega), hfx, by (dsimp only; rw [zgO]; exact hcl)⟩ (by dsimp only; omega)
       (zfg 3 [.int .i64 base, .sl 1 ((yb cs (upI n - base + r.at_) r.size.toNat v).map zH) none, .sl 2 (ss.map yF) (some 4)] rfl (.cons (.refl _) (.cons (.strip _ _ _) (.cons (.refl _) .nil)))) (by rw [hE]; exact Nat.zero_le _) ?_
      (repeat' (first | (refine VS.mk ?_) | exact trivial | exact rfl | refine And.intro ?_ ?_))
   ·have hpl : za8 (upI n) ss r = some (upI n) := by unfold za8; rw [if_pos hc]
    have hA0 : 0 ≤ upI n := by omega
    have hA1 : upI n ≤ 100000000 := by omega
    refine ze yw (upI n + r.add) trivial (VS.mk (LeL.of_eq rfl)) ?_
    have hsb := zfN (upI n + r.add)
    generalize hv : zd (upI n + r.add) 32 = v at *
    rw [hpl] at hfx
    dsimp only at hfx
    rw [hv] at hfx
    (all_goals refine qgo ?_ <;> (repeat' first | exact trivial | intro hc | refine And.intro ?_ ?_) <;> refine Lf.mk ?_)
    any_goals (first | (rw [if_pos ⟨by assumption, by omega⟩] at hfx; subst hfx; exact zb (VS.mk (kR (by show xU l base = _; rw [hlo, hlr2, ← hfix])))) | skip)
    all_goals
     rw [if_neg (by omega)] at hfx
     have hsz : ((r.size.toNat : Nat) : Int) = r.size := Int.toNat_of_nonneg (by omega)
     refine zl (upI n) (by omega) (by simpa using hbk) ?_
     (all_goals refine qgo (Lf.mk ?_))
     refine zX zcO [] [6] (cs, upI n - base + r.at_, r.size.toNat, v) ⟨by omega, by omega, by omega, by omega⟩ rfl rfl ?_
     refine And.intro (VS.mk (LeL.of_eq (by dsimp only; rw [hsz]; rfl))) (And.intro (VS.mk rfl) ?_)
     (all_goals refine qgo (Lf.mk ?_))
     refine zeu (j + 1, yb cs (upI n - base + r.at_) r.size.toNat v) ⟨by (dsimp only; omega), hfx, by (dsimp only; rw [zgO]; exact hcl)⟩ (by dsimp only; omega)
      (zfg 3 [.int .i64 base, .sl 1 ((yb cs (upI n - base + r.at_) r.size.toNat v).map zH) none, .sl 2 (ss.map yF) (some 4)] rfl (.cons (.refl _) (.cons (.strip _ _ _) (.cons (.refl _) .nil)))) (by rw [hE]; exact Nat.zero_le _) ?_
     (repeat' (first | (refine VS.mk ?_) | exact trivial | exact rfl | refine And.intro ?_ ?_))
  ·rw [List.drop_of_length_le (by omega), ztM] at hfx
   subst hfx
   refine zC (k + 1, upI n + o.code.length, cs) ⟨by (dsimp only; omega), hfix, zkr hbas, by (dsimp only; omega), by (dsimp only; omega), hcl⟩ (by dsimp only; omega) ?_
   (repeat' (first | (refine VS.mk ?_) | exact trivial | exact rfl | refine And.intro ?_ ?_))
 ·rw [List.drop_of_length_le (by omega), zvm] at hfix
  subst hfix
  have hout : xU l base = (⟨base, bs, ss⟩, 0, 0) := by rw [hlo, hlr2]
  refine zb (VS.mk ?_)
  show LeD _ (zjF (xU l base))
  rw [hout]
  exact .tup (.cons (.agg (.cons (.refl _) (.cons (.refl _) (.cons (.strip _ _ _) .nil)))) (.cons (.refl _) .nil))
end Go.Proofs.YthmdddenbfbefaaGreatDoor
namespace Go.Proofs.YthmdddenbfbefaaGreatDoor
open Go Go.Plat
set_option linter.unusedVariables false
set_option linter.unusedSimpArgs false
set_option maxRecDepth 100000
set_option maxHeartbeats 2000000
attribute [local irreducible] AWP zy ye zF zn yt z6 zE zW zY zp za zN yu zo zZ yp yq yj yl zt zu zw
attribute [local irreducible] zfw xl yY
end Go.Proofs.YthmdddenbfbefaaGreatDoor
namespace Go.Proofs.YthmdddenbfbefaaGreatDoor
open Go Go.Plat
set_option linter.unusedVariables false
set_option linter.unusedSimpArgs false
set_option maxRecDepth 100000
attribute [local irreducible] zw xe yv xl yY yb zd
structure zM where
 r : Nat → Int
 t : Bool
 pc : Int
 pr : Int
 img : qF
 told : List Int
 steps : Int
def w7 (m : zM) : List D :=
 [.int .i64 (m.r 0), .int .i64 (m.r 1), .int .i64 (m.r 2), .int .i64 (m.r 3), .int .i64 (m.r 4), .int .i64 (m.r 5), .int .i64 (m.r 6), .int .i64 (m.r 7),
  .int .i64 (m.r 8), .int .i64 (m.r 9), .int .i64 (m.r 10), .int .i64 (m.r 11), .int .i64 (m.r 12), .int .i64 (m.r 13), .int .i64 (m.r 14), .int .i64 (m.r 15),
  .bool m.t, .int .i64 m.pc, .int .i64 m.pr, .int .i64 m.img.base, vh m.img.bytes, .sl 2 (m.img.syms.map yF) none, .sl 1 (m.told.map zg7) none, .int .i64 m.steps]
def zbG (m : zM) : D := .agg (w7 m)
def wm : zM := ⟨fun _ => 0, false, 0, 0, zav, [], 0⟩
def up (r : Nat → Int) (n v : Int) : Nat → Int := fun k => if (k : Int) = n then v else r k
theorem zw1 (r : Nat → Int) (n v : Int) (h : 0 ≤ n) : up r n v n.toNat = v := by unfold up; rw [if_pos (by omega)]
theorem zse {r : Nat → Int} {n : Int} {rest : List D} {K : D → Prop} (h0 : 0 ≤ n) (h1 : n < 16) (h : K (.int .i64 (r n.toNat))) :
  zW (.int .i64 (r 0) :: .int .i64 (r 1) :: .int .i64 (r 2) :: .int .i64 (r 3) :: .int .i64 (r 4) :: .int .i64 (r 5) :: .int .i64 (r 6) :: .int .i64 (r 7) :: .int .i64 (r 8) :: .int .i64 (r 9) :: .int .i64 (r 10) :: .int .i64 (r 11) :: .int .i64 (r 12) :: .int .i64 (r 13) :: .int .i64 (r 14) :: .int .i64 (r 15) :: rest) ((0 + n.toNat * 1 : Nat) : Int) K := by
 refine ⟨by omega, .int .i64 (r n.toNat), ?_, h⟩
 obtain ⟨k, rfl⟩ := Int.eq_ofNat_of_zero_le h0
 have hk : k < 16 := by omega
 simp only [Int.toNat_natCast, Nat.mul_one, Nat.zero_add]
 match k, hk with
 | 0, _ | 1, _ | 2, _ | 3, _ | 4, _ | 5, _ | 6, _ | 7, _ | 8, _ | 9, _ | 10, _ | 11, _ | 12, _ | 13, _ | 14, _ | 15, _ => rfl
theorem zo2 {r : Nat → Int} {n v : Int} {rest : List D} {K : List D → Nat → Prop} (h0 : 0 ≤ n) (h1 : n < 16) (h : K (.int .i64 ((up r n v) 0) :: .int .i64 ((up r n v) 1) :: .int .i64 ((up r n v) 2) :: .int .i64 ((up r n v) 3) :: .int .i64 ((up r n v) 4) :: .int .i64 ((up r n v) 5) :: .int .i64 ((up r n v) 6) :: .int .i64 ((up r n v) 7) :: .int .i64 ((up r n v) 8) :: .int .i64 ((up r n v) 9) :: .int .i64 ((up r n v) 10) :: .int .i64 ((up r n v) 11) :: .int .i64 ((up r n v) 12) :: .int .i64 ((up r n v) 13) :: .int .i64 ((up r n v) 14) :: .int .i64 ((up r n v) 15) :: rest) (16 + rest.length)) :
  zo (List.set (.int .i64 (r 0) :: .int .i64 (r 1) :: .int .i64 (r 2) :: .int .i64 (r 3) :: .int .i64 (r 4) :: .int .i64 (r 5) :: .int .i64 (r 6) :: .int .i64 (r 7) :: .int .i64 (r 8) :: .int .i64 (r 9) :: .int .i64 (r 10) :: .int .i64 (r 11) :: .int .i64 (r 12) :: .int .i64 (r 13) :: .int .i64 (r 14) :: .int .i64 (r 15) :: rest) (0 + n.toNat * 1) (.int .i64 v)) K := by
 unfold zo
 have e : List.set (.int .i64 (r 0) :: .int .i64 (r 1) :: .int .i64 (r 2) :: .int .i64 (r 3) :: .int .i64 (r 4) :: .int .i64 (r 5) :: .int .i64 (r 6) :: .int .i64 (r 7) :: .int .i64 (r 8) :: .int .i64 (r 9) :: .int .i64 (r 10) :: .int .i64 (r 11) :: .int .i64 (r 12) :: .int .i64 (r 13) :: .int .i64 (r 14) :: .int .i64 (r 15) :: rest) (0 + n.toNat * 1) (.int .i64 v) = (.int .i64 ((up r n v) 0) :: .int .i64 ((up r n v) 1) :: .int .i64 ((up r n v) 2) :: .int .i64 ((up r n v) 3) :: .int .i64 ((up r n v) 4) :: .int .i64 ((up r n v) 5) :: .int .i64 ((up r n v) 6) :: .int .i64 ((up r n v) 7) :: .int .i64 ((up r n v) 8) :: .int .i64 ((up r n v) 9) :: .int .i64 ((up r n v) 10) :: .int .i64 ((up r n v) 11) :: .int .i64 ((up r n v) 12) :: .int .i64 ((up r n v) 13) :: .int .i64 ((up r n v) 14) :: .int .i64 ((up r n v) 15) :: rest) := by
  obtain ⟨k, rfl⟩ := Int.eq_ofNat_of_zero_le h0
  have hk : k < 16 := by omega
  simp only [Int.toNat_natCast, Nat.mul_one, Nat.zero_add]
  match k, hk with
  | 0, _ | 1, _ | 2, _ | 3, _ | 4, _ | 5, _ | 6, _ | 7, _ | 8, _ | 9, _ | 10, _ | 11, _ | 12, _ | 13, _ | 14, _ | 15, _ => rfl
 rw [e]
 refine cast ?_ h
 congr 1
 simp only [List.length_cons]
 omega
theorem zsf {n : Int} {l : List D} {K : Prop} (h0 : 0 ≤ n) (h1 : n < 16) (hl : Nat.ble 16 l.length = true) (h : K) : zt (0 + n.toNat * 1 < l.length) K :=
 ⟨by have := Nat.le_of_ble_eq_true hl; omega, h⟩
def inM (m : zM) (at_ size : Int) : Bool := decide (m.img.base ≤ at_ ∧ at_ % size = 0 ∧ at_ - m.img.base ≤ m.img.bytes.length - size)
def xq (m : zM) (at_ : Int) : Ins × Int := if inM m at_ 2 = true then xe (yv m.img.bytes (at_ - m.img.base) 2) else (zhk, 6)
def qC (op : Int) : Bool := decide (op = 2 ∨ (17 ≤ op ∧ op ≤ 22))
def wI (op : Int) : Int := match xl op with | some r => r.shape | none => 0
def toM (i : Ins) (at_ : Int) : Int := if wI i.op = 4 ∨ wI i.op = 5 ∨ wI i.op = 7 then at_ + 4 + 2 * i.imm else if wI i.op = 8 then (at_ + 4) - (at_ + 4) % 4 + 4 * i.imm else 0
def jX (a b : Int) : Int := zw .and .i32 a b
def zcY (a b : Int) : Int := zw .or .i32 a b
def za9 (a b : Int) : Int := zw .xor .i32 a b
def xr (m : zM) (n v : Int) : zM := { m with r := up m.r n v }
def zcj (m : zM) (t : Bool) : zM := { m with t := t }
def x6 (m : zM) (i : Ins) (at_ : Int) : zM × Int :=
 if inM m (if i.op = 26 then m.r i.m.toNat else toM i at_) (if i.op = 23 then 2 else 4) = true then
  (xr m i.n (if i.op = 23 then zd (zd (yv m.img.bytes (toM i at_ - m.img.base) 2) 16) 32 else zd (yv m.img.bytes ((if i.op = 26 then m.r i.m.toNat else toM i at_) - m.img.base) 4) 32), 0)
 else (m, 3)
def zdc (m : zM) (i : Ins) : zM × Int :=
 if inM m (m.r i.n.toNat) 4 = true then ({ m with img := { m.img with bytes := yb m.img.bytes (m.r i.n.toNat - m.img.base) 4 (m.r i.m.toNat) } }, 0) else (m, 3)
def zeo (m : zM) (i : Ins) : zM :=
 let n := m.r i.n.toNat
 let v := m.r i.m.toNat
 if i.op = 5 then xr m i.n v
 else if i.op = 6 then xr m i.n (zd (n + v) 32)
 else if i.op = 7 then xr m i.n (zd (n - v) 32)
 else if i.op = 8 then xr m i.n (jX n v)
 else if i.op = 9 then xr m i.n (zcY n v)
 else if i.op = 10 then xr m i.n (za9 n v)
 else if i.op = 11 then zcj m (decide (jX n v = 0))
 else if i.op = 12 then zcj m (decide (n = v))
 else if i.op = 13 then zcj m (decide (n > v))
 else m
def zO (m : zM) (i : Ins) (at_ : Int) : zM × Int :=
 let n := m.r i.n.toNat
 if i.op = 3 then (xr m i.n i.imm, 0)
 else if i.op = 4 then (xr m i.n (zd (n + i.imm) 32), 0)
 else if i.op = 14 then (zcj (xr m i.n (zd (n * 2) 32)) (decide (n < 0)), 0)
 else if i.op = 15 then (zcj (xr m i.n (n % 4294967296 / 2)) (decide (n % 2 = 1)), 0)
 else if i.op = 16 then (zcj (xr m i.n (zd (n - 1) 32)) (decide (zd (n - 1) 32 = 0)), 0)
 else if i.op = 23 ∨ i.op = 24 ∨ i.op = 26 then x6 m i at_
 else if i.op = 25 then zdc m i
 else if i.op = 27 then ({ m with told := m.told ++ [m.r 0] }, 0)
 else (zeo m i, 0)
def xD (m : zM) (i : Ins) : zM × Int × Bool :=
 if i.op = 17 then (m, if m.t = true then toM i m.pc else m.pc + 2, false)
 else if i.op = 18 then (m, if m.t = true then m.pc + 2 else toM i m.pc, false)
 else if i.op = 2 then (m, m.pr, true)
 else if i.op = 21 then (m, m.r i.n.toNat, true)
 else if i.op = 22 then ({ m with pr := m.pc + 4 }, m.r i.n.toNat, true)
 else if i.op = 20 then ({ m with pr := m.pc + 4 }, toM i m.pc, true)
 else (m, toM i m.pc, true)
def wr (m : zM) (to : Int) : zM × Bool × Int :=
 let j := xq m (m.pc + 2)
 if j.2 ≠ 0 then (wm, false, j.2)
 else if qC j.1.op = true ∨ j.1.op = 27 then (wm, false, 8)
 else let x := zO m j.1 (m.pc + 2)
  if x.2 ≠ 0 then (wm, false, x.2) else ({ x.1 with pc := to }, false, 0)
def xt (m : zM) : zM × Bool × Int :=
 let i := xq m m.pc
 if i.2 ≠ 0 then (wm, false, i.2)
 else
  let m1 : zM := { m with steps := m.steps + 1 }
  if i.1.op = 27 ∧ i.1.imm = 0 then (m1, true, 0)
  else if qC i.1.op = false then
   let x := zO m1 i.1 m.pc
   if x.2 ≠ 0 then (wm, false, x.2) else ({ x.1 with pc := x.1.pc + 2 }, false, 0)
  else
   let l := xD m1 i.1
   if l.2.2 = true then wr l.1 l.2.1 else ({ l.1 with pc := l.2.1 }, false, 0)
def y7 : Nat → zM → zM × Int
 | 0, _ => (wm, 13)
 | n + 1, m => let s := xt m
  if s.2.2 ≠ 0 then (wm, s.2.2) else if s.2.1 = true then (s.1, 0) else y7 n s.1
structure InM (k : Nat) (m : zM) : Prop where
 regs : ∀ j, j < 16 → -2147483648 ≤ m.r j ∧ m.r j ≤ 2147483647
 pc : -5000000000 - 100000 * (k : Int) ≤ m.pc ∧ m.pc ≤ 5000000000 + 100000 * (k : Int)
 pr : -5000000000 - 100000 * (k : Int) ≤ m.pr ∧ m.pr ≤ 5000000000 + 100000 * (k : Int)
 base : 0 ≤ m.img.base ∧ m.img.base ≤ 1048576
 len : m.img.bytes.length ≤ 1048576
 syms : m.img.syms.length ≤ 1048576
 told : m.told.length ≤ 1048576 + k
 steps : 0 ≤ m.steps ∧ m.steps ≤ 1000000 + k
theorem InM.mono {k j : Nat} {m : zM} (h : InM k m) (hk : k ≤ j) : InM j m :=
 ⟨h.regs, by have := h.pc; omega, by have := h.pr; omega, h.base, h.len, h.syms, by have := h.told; omega, by have := h.steps; omega⟩
structure InI (i : Ins) : Prop where
 n : 0 ≤ i.n ∧ i.n < 16
 m : 0 ≤ i.m ∧ i.m < 16
 imm : -4096 ≤ i.imm ∧ i.imm ≤ 4096
end Go.Proofs.YthmdddenbfbefaaGreatDoor
namespace Go.Proofs.YthmdddenbfbefaaGreatDoor
open Go Go.Plat
set_option linter.unusedVariables false
set_option linter.unusedSimpArgs false
set_option maxRecDepth 100000
theorem zsg (n : Int) : IntKind.i32.wrap n = zd n 32 := by
 have : zd n 32 = if n % 4294967296 / 2147483648 = 1 then n % 4294967296 - 4294967296 else n % 4294967296 := rfl
 rw [this]
 have e : IntKind.i32.wrap n = if n % 4294967296 ≥ 2147483648 then n % 4294967296 - 4294967296 else n % 4294967296 := by
  simp only [IntKind.wrap, IntKind.signed, IntKind.bits, show (2 : Int) ^ 32 = 4294967296 from rfl, show (2 : Int) ^ (32 - 1) = 2147483648 from rfl, Bool.true_and, decide_eq_true_eq]
 rw [e]
 split <;> split <;> omega
theorem zvn (n : Int) : IntKind.u32.wrap n = n % 4294967296 := by simp [IntKind.wrap, IntKind.signed, IntKind.bits]
theorem zvo (n : Int) : IntKind.u16.wrap n = n % 65536 := by simp [IntKind.wrap, IntKind.signed, IntKind.bits]
theorem zwu (n : Int) : IntKind.i16.wrap n = zd n 16 := by
 have : zd n 16 = if n % 65536 / 32768 = 1 then n % 65536 - 65536 else n % 65536 := rfl
 rw [this]
 have e : IntKind.i16.wrap n = if n % 65536 ≥ 32768 then n % 65536 - 65536 else n % 65536 := by
  simp only [IntKind.wrap, IntKind.signed, IntKind.bits, show (2 : Int) ^ 16 = 65536 from rfl, show (2 : Int) ^ (16 - 1) = 32768 from rfl, Bool.true_and, decide_eq_true_eq]
 rw [e]
 split <;> split <;> omega
theorem zwv {n : Int} {K : D → Prop} (h : K (.int .i32 (zd n 32))) : zy .i32 n K := by unfold zy; rw [zsg]; exact h
theorem zww {n : Int} {K : D → Prop} (h : K (.int .u32 (n % 4294967296))) : zy .u32 n K := by unfold zy; rw [zvn]; exact h
theorem zwx {n : Int} {K : D → Prop} (h : K (.int .u16 (n % 65536))) : zy .u16 n K := by unfold zy; rw [zvo]; exact h
theorem zwy {n : Int} {K : D → Prop} (h : K (.int .i16 (zd n 16))) : zy .i16 n K := by unfold zy; rw [zwu]; exact h
theorem zep (n : Int) : -2147483648 ≤ zd n 32 ∧ zd n 32 ≤ 2147483647 := by
 have : zd n 32 = if n % 4294967296 / 2147483648 = 1 then n % 4294967296 - 4294967296 else n % 4294967296 := rfl
 rw [this]
 split <;> omega
theorem zxg {n : Int} (h1 : 0 ≤ n) (h2 : n ≤ 65535) : zd n 16 = if n > 32767 then n - 65536 else n := by
 have : zd n 16 = if n % 65536 / 32768 = 1 then n % 65536 - 65536 else n % 65536 := rfl
 rw [this]
 split <;> split <;> omega
theorem zjH (v : BitVec 64) : IntKind.i64.wrap (v.toNat : Int) = v.toInt := by
 have h := v.isLt
 rw [BitVec.toInt_eq_toNat_cond]
 simp only [IntKind.wrap, IntKind.signed, IntKind.bits, show (2 : Int) ^ 64 = 18446744073709551616 from rfl, show (2 : Int) ^ (64 - 1) = 9223372036854775808 from rfl, Bool.true_and, decide_eq_true_eq]
 have e : (2 : Nat) ^ 64 = 18446744073709551616 := rfl
 rw [e] at h ⊢
 split <;> split <;> omega
theorem zjI (v : BitVec 32) : IntKind.i32.wrap (v.toNat : Int) = v.toInt := by
 have h := v.isLt
 rw [BitVec.toInt_eq_toNat_cond]
 simp only [IntKind.wrap, IntKind.signed, IntKind.bits, show (2 : Int) ^ 32 = 4294967296 from rfl, show (2 : Int) ^ (32 - 1) = 2147483648 from rfl, Bool.true_and, decide_eq_true_eq]
 have e : (2 : Nat) ^ 32 = 4294967296 := rfl
 rw [e] at h ⊢
 split <;> split <;> omega
theorem zao {a : Int} (h1 : -2147483648 ≤ a) (h2 : a ≤ 2147483647) : BitVec.ofInt 64 a = (BitVec.ofInt 32 a).signExtend 64 := by
 unfold BitVec.signExtend
 rw [BitVec.toInt_ofInt, Int.bmod_eq_of_le (by have : (2 : Nat) ^ 32 = 4294967296 := rfl; omega) (by have : (2 : Nat) ^ 32 = 4294967296 := rfl; omega)]
theorem zhu (v : BitVec 32) : (v.signExtend 64).toInt = v.toInt := by
 rw [BitVec.toInt_signExtend_of_le (by decide)]
section
variable {a b : Int} (ha1 : -2147483648 ≤ a) (ha2 : a ≤ 2147483647) (hb1 : -2147483648 ≤ b) (hb2 : b ≤ 2147483647)
include ha1 ha2 hb1 hb2
theorem zw2 : zw .and .i64 a b = jX a b := by
 unfold jX zw
 show IntKind.i64.wrap ((BitVec.ofInt 64 a &&& BitVec.ofInt 64 b).toNat : Int) = IntKind.i32.wrap ((BitVec.ofInt 32 a &&& BitVec.ofInt 32 b).toNat : Int)
 rw [zjH, zjI, zao ha1 ha2, zao hb1 hb2, ← BitVec.signExtend_and, zhu]
theorem zxh : zw .or .i64 a b = zcY a b := by
 unfold zcY zw
 show IntKind.i64.wrap ((BitVec.ofInt 64 a ||| BitVec.ofInt 64 b).toNat : Int) = IntKind.i32.wrap ((BitVec.ofInt 32 a ||| BitVec.ofInt 32 b).toNat : Int)
 rw [zjH, zjI, zao ha1 ha2, zao hb1 hb2, ← BitVec.signExtend_or, zhu]
theorem zw3 : zw .xor .i64 a b = za9 a b := by
 unfold za9 zw
 show IntKind.i64.wrap ((BitVec.ofInt 64 a ^^^ BitVec.ofInt 64 b).toNat : Int) = IntKind.i32.wrap ((BitVec.ofInt 32 a ^^^ BitVec.ofInt 32 b).toNat : Int)
 rw [zjH, zjI, zao ha1 ha2, zao hb1 hb2, ← BitVec.signExtend_xor, zhu]
end
theorem zhv (op : BinOp) (a b : Int) : -2147483648 ≤ zw op .i32 a b ∧ zw op .i32 a b ≤ 2147483647 := by
 unfold zw
 rw [zsg]
 exact zep _
theorem zvp {a b : Int} (h1 : -2147483648 ≤ a ∧ a ≤ 2147483647) (h2 : -2147483648 ≤ b ∧ b ≤ 2147483647) {K : D → Prop} (h : K (.int .i64 (jX a b))) : ye .and .i64 a b K := by
 unfold ye; rw [zw2 h1.1 h1.2 h2.1 h2.2]; exact h
theorem zwz {a b : Int} (h1 : -2147483648 ≤ a ∧ a ≤ 2147483647) (h2 : -2147483648 ≤ b ∧ b ≤ 2147483647) {K : D → Prop} (h : K (.int .i64 (zcY a b))) : ye .or .i64 a b K := by
 unfold ye; rw [zxh h1.1 h1.2 h2.1 h2.2]; exact h
theorem zvq {a b : Int} (h1 : -2147483648 ≤ a ∧ a ≤ 2147483647) (h2 : -2147483648 ≤ b ∧ b ≤ 2147483647) {K : D → Prop} (h : K (.int .i64 (za9 a b))) : ye .xor .i64 a b K := by
 unfold ye; rw [zw3 h1.1 h1.2 h2.1 h2.2]; exact h
theorem zxi : (~~~ (3#64)).toNat = 18446744073709551612 := by decide
theorem zsh (x : Nat) (hx : x < 18446744073709551616) : x &&& 18446744073709551612 = x / 4 * 4 := by
 have e1 : x / 4 * 4 = (x >>> 2) <<< 2 := by rw [Nat.shiftRight_eq_div_pow, Nat.shiftLeft_eq]
 have e2 : (18446744073709551612 : Nat) = (2 ^ 62 - 1) <<< 2 := by decide
 rw [e1, e2]
 refine Nat.eq_of_testBit_eq fun i => ?_
 rw [Nat.testBit_and, Nat.testBit_shiftLeft, Nat.testBit_shiftLeft, Nat.testBit_shiftRight, Nat.testBit_two_pow_sub_one]
 by_cases hi : 2 ≤ i
 ·rw [show 2 + (i - 2) = i by omega]
  by_cases h64 : i - 2 < 62
  ·simp [hi, h64]
  ·have : x.testBit i = false := Nat.testBit_lt_two_pow (Nat.lt_of_lt_of_le hx (show 2 ^ 64 ≤ 2 ^ i from Nat.pow_le_pow_right (by decide) (by omega)))
   simp [this]
 ·simp [hi]
theorem zwA {n : Int} (h1 : -4611686018427387904 ≤ n) (h2 : n ≤ 4611686018427387904) : zw .andNot .i64 n 3 = n - n % 4 := by
 unfold zw
 show IntKind.i64.wrap ((BitVec.ofInt 64 n &&& ~~~ (BitVec.ofInt 64 3)).toNat : Int) = _
 rw [show BitVec.ofInt 64 3 = 3#64 from rfl, BitVec.toNat_and, zxi, zsh _ (BitVec.ofInt 64 n).isLt]
 have h3 := toNat_ofInt n
 simp only [IntKind.wrap, IntKind.signed, IntKind.bits, show (2 : Int) ^ 64 = 18446744073709551616 from rfl, show (2 : Int) ^ (64 - 1) = 9223372036854775808 from rfl, Bool.true_and, decide_eq_true_eq]
 split <;> omega
end Go.Proofs.YthmdddenbfbefaaGreatDoor
namespace Go.Proofs.YthmdddenbfbefaaGreatDoor
open Go Go.Plat
set_option linter.unusedVariables false
set_option linter.unusedSimpArgs false
set_option maxRecDepth 100000
set_option maxHeartbeats 2000000
attribute [local irreducible] AWP zy ye zF zn yt z6 zE zW zY zp za zN yu zo zZ yp yq yj yl zt zu zw xe yv xl yY yb zd
theorem zck : za Tryz.prog zs0 (yh (fun ((m, at_, size) : zM × Int × Int) => InM 10000 m ∧ -4000000000000 ≤ at_ ∧ at_ ≤ 4000000000000 ∧ (size = 2 ∨ size = 4))
  (fun (m, at_, size) => [.loc 0 0, .int .i64 at_, .int .i64 size]) (fun (m, _, _) => [.cells (w7 m)]) (fun (m, at_, size) => .bool (inM m at_ size)) fun (m, _, _) => [.cells (w7 m)]) := by
 refine zg zj Tryz.func146 rfl (by decide) ?_
 rintro ⟨m, at_, size⟩ ⟨hm, h1, h2, hs⟩
 have hb := hm.base
 have hl := hm.len
 refine ⟨Nat.le_refl _, by simp [Tryz.f146], fun E hE => ?_⟩
 refine zf _ ?_
 (all_goals refine qgv ?_ <;> (repeat' first | exact trivial | intro hc | refine And.intro ?_ ?_) <;> refine Lf.mk ?_)
 ·refine vI (r1 := .bool (inM m at_ size)) (LeD.of_eq (congrArg D.bool ?_)) (yn ?_) (Nat.le_refl _)
  ·exact decide_eq_decide.2 ⟨fun h => ⟨by assumption, by assumption, h⟩, fun h => h.2.2⟩
  ·(repeat' (first | (refine VS.mk ?_) | exact trivial | exact rfl | refine And.intro ?_ ?_))
 ·refine vI (r1 := .bool (inM m at_ size)) (LeD.ff (decide_eq_false fun h => hc h.2.1)) (yn ?_) (Nat.le_refl _)
  (repeat' (first | (refine VS.mk ?_) | exact trivial | exact rfl | refine And.intro ?_ ?_))
 ·refine vI (r1 := .bool (inM m at_ size)) (LeD.ff (decide_eq_false fun h => hc h.1)) (yn ?_) (Nat.le_refl _)
  (repeat' (first | (refine VS.mk ?_) | exact trivial | exact rfl | refine And.intro ?_ ?_))
theorem zfO {m : zM} {a s : Int} : inM m a s = true ↔ (m.img.base ≤ a ∧ a % s = 0 ∧ a - m.img.base ≤ m.img.bytes.length - s) := by unfold inM; exact decide_eq_true_iff
attribute [local irreducible] inM
theorem zdd : za Tryz.prog znT (yh (fun ((m, at_) : zM × Int) => InM 10000 m ∧ -4000000000000 ≤ at_ ∧ at_ ≤ 4000000000000)
  (fun (m, at_) => [.loc 0 0, .int .i64 at_]) (fun (m, _) => [.cells (w7 m)]) (fun (m, at_) => .tup [je (xq m at_).1, .int .i64 (xq m at_).2]) fun (m, _) => [.cells (w7 m)]) := by
 refine zg zj Tryz.func95 rfl (by decide) ?_
 rintro ⟨m, at_⟩ ⟨hm, h1, h2⟩
 have hb := hm.base
 have hl := hm.len
 refine ⟨Nat.le_refl _, by simp [Tryz.f95], fun E hE => ?_⟩
 refine zf _ ?_
 (all_goals refine qgv (Lf.mk ?_))
 refine zX zck [0] [0] (m, at_, 2) ⟨hm, h1, h2, .inl rfl⟩ rfl rfl ?_
 refine And.intro (VS.mk (LeL.of_eq rfl)) (And.intro (VS.mk rfl) ?_)
 (all_goals refine qgv ?_ <;> (repeat' first | exact trivial | intro hc | refine And.intro ?_ ?_) <;> refine Lf.mk ?_)
 ·have hf : xq m at_ = (zhk, 6) := by unfold xq; rw [if_neg (by rw [hc]; decide)]
  refine yN [0] rfl rfl ?_
  (repeat' (first | (refine VS.mk ?_) | exact trivial | exact rfl | refine And.intro ?_ ?_))
  all_goals (dsimp only; rw [hf]; rfl)
 ·have hf : xq m at_ = xe (yv m.img.bytes (at_ - m.img.base) 2) := by unfold xq; rw [if_pos hc]
  have hin : m.img.base ≤ at_ ∧ at_ % 2 = 0 ∧ at_ - m.img.base ≤ m.img.bytes.length - 2 := zfO.1 hc
  refine ze zcN (m.img.bytes, at_ - m.img.base, 2) ⟨by omega, by omega, by decide⟩ (VS.mk (by (first | exact LeL.refl _ | (repeat' (first | exact LeL.nil | exact LeD.refl _ | exact LeD.nil _ | exact LeD.strip _ _ _ | refine LeL.cons ?_ ?_ | refine LeD.tup ?_ | refine LeD.agg ?_))))) ?_
  (all_goals refine qgv (Lf.mk ?_))
  refine ze zmz (yv m.img.bytes (at_ - m.img.base) 2) trivial (VS.mk (by (first | exact LeL.refl _ | (repeat' (first | exact LeL.nil | exact LeD.refl _ | exact LeD.nil _ | exact LeD.strip _ _ _ | refine LeL.cons ?_ ?_ | refine LeD.tup ?_ | refine LeD.agg ?_))))) ?_
  (all_goals refine qgv (Lf.mk ?_))
  refine yN [0] rfl rfl ?_
  (repeat' (first | (refine VS.mk ?_) | exact trivial | exact rfl | refine And.intro ?_ ?_))
  all_goals (dsimp only; rw [hf]; try rfl)
theorem zde : za Tryz.prog znU (zA (fun _ : Int => True) (fun op => [.int .i64 op]) fun op => .bool (qC op)) := by
 refine zg zj Tryz.func96 rfl (by decide) fun op _ => ?_
 refine ⟨Nat.le_refl _, by simp [Tryz.f96], fun E hE => ?_⟩
 refine zf _ ?_
 (all_goals refine qgv ?_ <;> (repeat' first | exact trivial | intro hc | refine And.intro ?_ ?_) <;> refine Lf.mk ?_)
 all_goals (refine zb (VS.mk ?_))
 all_goals first
  | exact LeD.tt (decide_eq_true (by omega))
  | exact LeD.ff (decide_eq_false (by omega))
  | exact LeD.of_eq (congrArg D.bool (decide_eq_decide.2 (by omega)))
theorem zgQ : za Tryz.prog znQ (zA (fun i : qF => i.bytes.length ≤ 1048576 ∧ i.syms.length ≤ 1048576) (fun i => [zjr i]) zjr) := by
 refine zg zj Tryz.func55 rfl (by decide) ?_
 rintro i ⟨h1, h2⟩
 refine ⟨Nat.le_refl _, by simp [Tryz.f55], fun E hE => ?_⟩
 refine zf _ ?_
 (all_goals refine qgv (Lf.mk ?_))
 refine ze zmA (i.bytes.map zH) ⟨by simp; omega, fun i d hd => ?_⟩ (VS.mk (LeL.of_eq rfl)) ?_
 ·obtain ⟨c, _, rfl⟩ := List.mem_map.1 (List.mem_of_getElem? hd); rfl
 (all_goals refine qgv (Lf.mk ?_))
 refine ze zmC (i.syms.map yF) ⟨by simp; omega, fun i d hd => ?_⟩ (VS.mk (LeL.of_eq rfl)) ?_
 ·obtain ⟨c, _, rfl⟩ := List.mem_map.1 (List.mem_of_getElem? hd); rfl
 (all_goals refine qgv (Lf.mk ?_))
 exact zb (VS.mk (LeD.of_eq rfl))
def zap (i : qF) : zM := ⟨fun _ => 0, false, i.base, -1, i, [], 0⟩
theorem zsi : za Tryz.prog zq3 (zA (fun i : qF => i.bytes.length ≤ 1048576 ∧ i.syms.length ≤ 1048576) (fun i => [zjr i]) fun i => zbG (zap i)) := by
 refine zg zj Tryz.func29 rfl (by decide) ?_
 rintro i ⟨h1, h2⟩
 refine ⟨Nat.le_refl _, by simp [Tryz.f29], fun E hE => ?_⟩
 refine zf _ ?_
 (all_goals refine qgv (Lf.mk ?_))
 refine ze zgQ i ⟨h1, h2⟩ (VS.mk (LeL.of_eq rfl)) ?_
 (all_goals refine qgv (Lf.mk ?_))
 refine zb (VS.mk ?_)
 (first | exact LeL.refl _ | (repeat' (first | exact LeL.nil | exact LeD.refl _ | exact LeD.nil _ | exact LeD.strip _ _ _ | refine LeL.cons ?_ ?_ | refine LeD.tup ?_ | refine LeD.agg ?_)))
 all_goals first | exact LeD.ff rfl | skip
theorem ziL : za Tryz.prog zq4 (zA (fun m : zM => m.img.bytes.length ≤ 1048576 ∧ m.img.syms.length ≤ 1048576 ∧ m.told.length ≤ 2000000) (fun m => [zbG m]) zbG) := by
 refine zg zj Tryz.func53 rfl (by decide) ?_
 rintro m ⟨h1, h2, h3⟩
 refine ⟨Nat.le_refl _, by simp [Tryz.f53], fun E hE => ?_⟩
 refine zf _ ?_
 (all_goals refine qgv (Lf.mk ?_))
 refine ze zgQ m.img ⟨h1, h2⟩ (VS.mk (LeL.of_eq rfl)) ?_
 (all_goals refine qgv (Lf.mk ?_))
 refine ze zmB (m.told.map zg7) ⟨by simp; omega, fun i d hd => ?_⟩ (VS.mk (LeL.of_eq rfl)) ?_
 ·obtain ⟨c, _, rfl⟩ := List.mem_map.1 (List.mem_of_getElem? hd); rfl
 (all_goals refine qgv (Lf.mk ?_))
 exact zb (VS.mk (LeD.of_eq rfl))
end Go.Proofs.YthmdddenbfbefaaGreatDoor
namespace Go.Proofs.YthmdddenbfbefaaGreatDoor
open Go Go.Plat
set_option linter.unusedVariables false
set_option linter.unusedSimpArgs false
set_option maxRecDepth 100000
set_option maxHeartbeats 2000000
attribute [local irreducible] AWP zy ye zF zn yt z6 zE zW zY zp za zN yu zo zZ yp yq yj yl zt zu zw
attribute [local irreducible] xe zfw vA wO zau xl yY zc9 zd yU
attribute [local irreducible] zjd
end Go.Proofs.YthmdddenbfbefaaGreatDoor
namespace Go.Proofs.YthmdddenbfbefaaGreatDoor
open Go Go.Plat
set_option linter.unusedVariables false
set_option linter.unusedSimpArgs false
set_option maxRecDepth 100000
set_option maxHeartbeats 2000000
attribute [local irreducible] AWP zy ye zF zn yt z6 zE zW zY zp za zN yu zo zZ yp yq yj yl zt zu zw zfw xl yY
attribute [local irreducible] zjd xe vA wO zau zc9 zd yU
end Go.Proofs.YthmdddenbfbefaaGreatDoor
namespace Go.Proofs.YthmdddenbfbefaaGreatDoor
open Go Go.Plat
set_option linter.unusedVariables false
set_option linter.unusedSimpArgs false
set_option maxRecDepth 100000
set_option maxHeartbeats 2000000
attribute [local irreducible] AWP zy ye zF zn yt z6 zE zW zY zp za zN yu zo zZ yp yq yj yl zt zu zw
attribute [local irreducible] zfw zau xl yY zc9 zd
end Go.Proofs.YthmdddenbfbefaaGreatDoor
namespace Go.Proofs.YthmdddenbfbefaaGreatDoor
open Go Go.Plat
set_option linter.unusedVariables false
set_option linter.unusedSimpArgs false
set_option maxRecDepth 100000
set_option maxHeartbeats 2000000
attribute [local irreducible] AWP zy ye zF zn yt z6 zE zW zY zp za zN yu zo zZ yp yq yj yl zt zu zw zfw xl yY
end Go.Proofs.YthmdddenbfbefaaGreatDoor
namespace Go.Proofs.YthmdddenbfbefaaGreatDoor
open Go Go.Plat
set_option linter.unusedVariables false
set_option linter.unusedSimpArgs false
set_option maxRecDepth 100000
set_option maxHeartbeats 2000000
attribute [local irreducible] AWP zy ye zF zn yt z6 zE zW zY zp za zN yu zo zZ yp yq yj yl zt zu zw xe yv inM xl yY yb wI zd
def ldM (i : Ins) : Bool := decide (wI i.op = 4 ∨ wI i.op = 5 ∨ wI i.op = 7 ∨ wI i.op = 8)
theorem zqw {op : Int} {r : zaj} (h : xl op = some r) : wI op = r.shape := by unfold wI; rw [h]
theorem zqx {op : Int} (h : xl op = none) : wI op = 0 := by unfold wI; rw [h]
theorem zqy (op : Int) : ∃ s, kv op = .tup [.str s, .int .i64 (wI op)] := by
 unfold kv
 cases h : xl op with
 | none => exact ⟨[], by rw [zqx h]⟩
 | some r => exact ⟨r.name, by rw [zqw h]⟩
theorem zsj {n : Int} (h1 : -4611686018427387904 ≤ n) (h2 : n ≤ 4611686018427387904) {K : D → Prop} (h : K (.int .i64 (n - n % 4))) : ye .andNot .i64 n 3 K := by
 unfold ye; rw [zwA h1 h2]; exact h
theorem znj : za Tryz.prog zs1 (zA (fun ((i, at_) : Ins × Int) => -4096 ≤ i.imm ∧ i.imm ≤ 4096 ∧ -4000000000000 ≤ at_ ∧ at_ ≤ 4000000000000) (fun (i, at_) => [je i, .int .i64 at_]) fun (i, at_) => .tup [.int .i64 (toM i at_), .bool (ldM i)]) := by
 refine zg zj Tryz.func150 rfl (by decide) ?_
 rintro ⟨i, at_⟩ ⟨h1, h2, h3, h4⟩
 refine ⟨Nat.le_refl _, by simp [Tryz.f150], fun E hE => ?_⟩
 refine zf _ ?_
 (all_goals refine qgv (Lf.mk ?_))
 refine ze zby i.op trivial (VS.mk (LeL.of_eq rfl)) ?_
 obtain ⟨s, hs⟩ := zqy i.op
 rw [hs]
 (all_goals refine qgv ?_ <;> (repeat' first | exact trivial | intro hc | refine And.intro ?_ ?_) <;> refine Lf.mk ?_)
 any_goals (refine zsj (by omega) (by omega) ?_)
 (all_goals refine qgv (Lf.mk ?_))
 all_goals (refine zb (VS.mk (LeD.tup (.cons (LeD.of_eq (congrArg (D.int .i64) ?_)) (.cons ?_ .nil)))))
 all_goals first
  | exact LeD.tt (decide_eq_true (by omega))
  | exact LeD.ff (decide_eq_false (by omega))
  | (unfold toM; rw [if_pos (by omega)]; done)
  | (unfold toM; rw [if_neg (by omega), if_pos (by omega)]; done)
  | (unfold toM; rw [if_neg (by omega), if_neg (by omega)]; done)
end Go.Proofs.YthmdddenbfbefaaGreatDoor
namespace Go.Proofs.YthmdddenbfbefaaGreatDoor
open Go Go.Plat
set_option linter.unusedVariables false
set_option linter.unusedSimpArgs false
set_option maxRecDepth 100000
set_option maxHeartbeats 2000000
attribute [local irreducible] AWP zy ye zF zn yt z6 zE zW zY zp za zN yu zo zZ yp yq yj yl zt zu zw xe inM xl yY yb wI zd up
theorem zsk {i : Ins} {a : Int} (h1 : -4096 ≤ i.imm) (h2 : i.imm ≤ 4096) : a - 20000 ≤ toM i a ∧ toM i a ≤ a + 20000 ∨ toM i a = 0 := by
 unfold toM
 split
 ·exact .inl ⟨by omega, by omega⟩
 split
 ·exact .inl ⟨by omega, by omega⟩
 ·exact .inr rfl
theorem ztQ (b : List UInt8) (a : Int) : 0 ≤ yv b a 2 ∧ yv b a 2 ≤ 65535 := by
 have h0 := ka b (a + (0 : Nat)); have h1 := ka b (a + (1 : Nat))
 simp only [yv]; omega
theorem ixr {i : Ins} (h : 0 ≤ i.n ∧ i.n < 16) {m : zM} {k : Nat} (hm : InM k m) : -2147483648 ≤ m.r i.n.toNat ∧ m.r i.n.toNat ≤ 2147483647 := hm.regs _ (by omega)
theorem ixm {i : Ins} (h : 0 ≤ i.m ∧ i.m < 16) {m : zM} {k : Nat} (hm : InM k m) : -2147483648 ≤ m.r i.m.toNat ∧ m.r i.m.toNat ≤ 2147483647 := hm.regs _ (by omega)
attribute [local irreducible] yv toM ldM
theorem zeq : za Tryz.prog zpH (yh (fun ((m, i, at_) : zM × Ins × Int) => InM 10000 m ∧ InI i ∧ -2000000000000 ≤ at_ ∧ at_ ≤ 2000000000000)
  (fun (m, i, at_) => [.loc 0 0, je i, .int .i64 at_]) (fun (m, _, _) => [.cells (w7 m)]) (fun (m, i, at_) => .int .i64 (x6 m i at_).2) fun (m, i, at_) => [.cells (w7 (x6 m i at_).1)]) := by
 refine zg zj Tryz.func148 rfl (by decide) ?_
 rintro ⟨m, i, at_⟩ ⟨hm, hi, h1, h2⟩
 obtain ⟨n0, n1⟩ := hi.n
 obtain ⟨m0, m1⟩ := hi.m
 obtain ⟨q0, q1⟩ := hi.imm
 have hb := hm.base
 have hl := hm.len
 have hrm := ixm hi.m hm
 have hto := zsk (a := at_) q0 q1
 refine ⟨Nat.le_refl _, by simp [Tryz.f148], fun E hE => ?_⟩
 refine zf _ ?_
 (all_goals refine qgv (Lf.mk ?_))
 refine ze znj (i, at_) ⟨q0, q1, by omega, by omega⟩ (VS.mk (LeL.of_eq rfl)) ?_
 (all_goals refine qgv ?_ <;> (repeat' first | exact trivial | intro hc | refine And.intro ?_ ?_) <;> refine Lf.mk ?_)
 ·refine zX zck [0] [0] (m, m.r i.m.toNat, 4) ⟨hm, by omega, by omega, by decide⟩ rfl rfl ?_
  refine And.intro (VS.mk (LeL.of_eq rfl)) (And.intro (VS.mk rfl) ?_)
  have hF : (if i.op = 26 then m.r i.m.toNat else toM i at_) = m.r i.m.toNat := if_pos (by assumption)
  have hS : (if i.op = 23 then (2 : Int) else 4) = 4 := if_neg (by assumption)
  (all_goals refine qgv ?_ <;> (repeat' first | exact trivial | intro hc | refine And.intro ?_ ?_) <;> refine Lf.mk ?_)
  ·have hL : x6 m i at_ = (m, 3) := by unfold x6; rw [hF, hS, if_neg (by rw [hc]; decide)]
   refine yN [0] rfl rfl ?_
   (repeat' (first | (refine VS.mk ?_) | exact trivial | exact rfl | refine And.intro ?_ ?_))
   all_goals (dsimp only; rw [hL]; try rfl)
  have hin := zfO.1 (show inM m (m.r i.m.toNat) 4 = true from hc)
  refine ze zcN (m.img.bytes, m.r i.m.toNat - m.img.base, 4) ⟨by omega, by omega, by decide⟩ (VS.mk (by (first | exact LeL.refl _ | (repeat' (first | exact LeL.nil | exact LeD.refl _ | exact LeD.nil _ | exact LeD.strip _ _ _ | refine LeL.cons ?_ ?_ | refine LeD.tup ?_ | refine LeD.agg ?_))))) ?_
  (all_goals refine qgv ?_ <;> (repeat' first | exact trivial | intro hc | refine And.intro ?_ ?_) <;> refine Lf.mk ?_)
  refine ze yw (yv m.img.bytes (m.r i.m.toNat - m.img.base) 4) trivial (VS.mk (LeL.of_eq rfl)) ?_
  have hL : x6 m i at_ = (xr m i.n (zd (yv m.img.bytes (m.r i.m.toNat - m.img.base) 4) 32), 0) := by unfold x6; rw [hF, hS, if_pos (by assumption), if_neg (by assumption)]
  (all_goals refine qgv (Lf.mk ?_))
  refine yN [0] rfl rfl ?_
  (repeat' (first | (refine VS.mk ?_) | exact trivial | exact rfl | refine And.intro ?_ ?_))
  all_goals (dsimp only; rw [hL]; try rfl)
 ·refine zX zck [0] [0] (m, toM i at_, 2) ⟨hm, by omega, by omega, by decide⟩ rfl rfl ?_
  refine And.intro (VS.mk (LeL.of_eq rfl)) (And.intro (VS.mk rfl) ?_)
  have hF : (if i.op = 26 then m.r i.m.toNat else toM i at_) = toM i at_ := if_neg (by assumption)
  have hS : (if i.op = 23 then (2 : Int) else 4) = 2 := if_pos (by assumption)
  (all_goals refine qgv ?_ <;> (repeat' first | exact trivial | intro hc | refine And.intro ?_ ?_) <;> refine Lf.mk ?_)
  ·have hL : x6 m i at_ = (m, 3) := by unfold x6; rw [hF, hS, if_neg (by rw [hc]; decide)]
   refine yN [0] rfl rfl ?_
   (repeat' (first | (refine VS.mk ?_) | exact trivial | exact rfl | refine And.intro ?_ ?_))
   all_goals (dsimp only; rw [hL]; try rfl)
  have hin := zfO.1 (show inM m (toM i at_) 2 = true from hc)
  refine ze zcN (m.img.bytes, toM i at_ - m.img.base, 2) ⟨by omega, by omega, by decide⟩ (VS.mk (by (first | exact LeL.refl _ | (repeat' (first | exact LeL.nil | exact LeD.refl _ | exact LeD.nil _ | exact LeD.strip _ _ _ | refine LeL.cons ?_ ?_ | refine LeD.tup ?_ | refine LeD.agg ?_))))) ?_
  have hg2 := ztQ m.img.bytes (toM i at_ - m.img.base)
  have hL : x6 m i at_ = (xr m i.n (zd (zd (yv m.img.bytes (toM i at_ - m.img.base) 2) 16) 32), 0) := by unfold x6; rw [hF, hS, if_pos (by assumption), if_pos (by assumption)]
  have h16 := zxg hg2.1 hg2.2
  rw [h16] at hL
  (all_goals refine qgv ?_ <;> (repeat' first | exact trivial | intro hc | refine And.intro ?_ ?_) <;> refine Lf.mk ?_)
  any_goals (first | (exfalso; exact hc trivial) | skip)
  ·refine ze yw (yv m.img.bytes (toM i at_ - m.img.base) 2 - 65536) trivial (VS.mk (LeL.of_eq rfl)) ?_
   rw [if_pos (by omega)] at hL
   (all_goals refine qgv (Lf.mk ?_))
   refine yN [0] rfl rfl ?_
   (repeat' (first | (refine VS.mk ?_) | exact trivial | exact rfl | refine And.intro ?_ ?_))
   all_goals (dsimp only; rw [hL]; try rfl)
  ·refine ze yw (yv m.img.bytes (toM i at_ - m.img.base) 2) trivial (VS.mk (LeL.of_eq rfl)) ?_
   rw [if_neg (by omega)] at hL
   (all_goals refine qgv (Lf.mk ?_))
   refine yN [0] rfl rfl ?_
   (repeat' (first | (refine VS.mk ?_) | exact trivial | exact rfl | refine And.intro ?_ ?_))
   all_goals (dsimp only; rw [hL]; try rfl)
 ·refine zX zck [0] [0] (m, toM i at_, 4) ⟨hm, by omega, by omega, by decide⟩ rfl rfl ?_
  refine And.intro (VS.mk (LeL.of_eq rfl)) (And.intro (VS.mk rfl) ?_)
  have hF : (if i.op = 26 then m.r i.m.toNat else toM i at_) = toM i at_ := if_neg (by assumption)
  have hS : (if i.op = 23 then (2 : Int) else 4) = 4 := if_neg (by assumption)
  (all_goals refine qgv ?_ <;> (repeat' first | exact trivial | intro hc | refine And.intro ?_ ?_) <;> refine Lf.mk ?_)
  ·have hL : x6 m i at_ = (m, 3) := by unfold x6; rw [hF, hS, if_neg (by rw [hc]; decide)]
   refine yN [0] rfl rfl ?_
   (repeat' (first | (refine VS.mk ?_) | exact trivial | exact rfl | refine And.intro ?_ ?_))
   all_goals (dsimp only; rw [hL]; try rfl)
  have hin := zfO.1 (show inM m (toM i at_) 4 = true from hc)
  refine ze zcN (m.img.bytes, toM i at_ - m.img.base, 4) ⟨by omega, by omega, by decide⟩ (VS.mk (by (first | exact LeL.refl _ | (repeat' (first | exact LeL.nil | exact LeD.refl _ | exact LeD.nil _ | exact LeD.strip _ _ _ | refine LeL.cons ?_ ?_ | refine LeD.tup ?_ | refine LeD.agg ?_))))) ?_
  (all_goals refine qgv ?_ <;> (repeat' first | exact trivial | intro hc | refine And.intro ?_ ?_) <;> refine Lf.mk ?_)
  refine ze yw (yv m.img.bytes (toM i at_ - m.img.base) 4) trivial (VS.mk (LeL.of_eq rfl)) ?_
  have hL : x6 m i at_ = (xr m i.n (zd (yv m.img.bytes (toM i at_ - m.img.base) 4) 32), 0) := by unfold x6; rw [hF, hS, if_pos (by assumption), if_neg (by assumption)]
  (all_goals refine qgv (Lf.mk ?_))
  refine yN [0] rfl rfl ?_
  (repeat' (first | (refine VS.mk ?_) | exact trivial | exact rfl | refine And.intro ?_ ?_))
  all_goals (dsimp only; rw [hL]; try rfl)
attribute [local irreducible] jX zcY za9
theorem zvr {n : Int} : zw .and .i64 n 4294967295 = n % 4294967296 := qr (k := 32) (by decide) (by decide)
theorem zqz : za Tryz.prog zq7 (yh (fun ((m, i) : zM × Ins) => InM 10000 m ∧ InI i)
  (fun (m, i) => [.loc 0 0, je i]) (fun (m, _) => [.cells (w7 m)]) (fun _ => .tup []) fun (m, i) => [.cells (w7 (zeo m i))]) := by
 refine zg zj Tryz.func149 rfl (by decide) ?_
 rintro ⟨m, i⟩ ⟨hm, hi⟩
 obtain ⟨n0, n1⟩ := hi.n
 obtain ⟨m0, m1⟩ := hi.m
 have hrm := ixm hi.m hm
 have hrn := ixr hi.n hm
 refine ⟨Nat.le_refl _, by simp [Tryz.f149], fun E hE => ?_⟩
 refine zf _ ?_
 (all_goals refine zae ?_ <;> (repeat' first | exact trivial | intro hc | refine And.intro ?_ ?_) <;> refine Lf.mk ?_)
 all_goals try (refine ze yw _ trivial (VS.mk (LeL.of_eq rfl)) ?_)
 (all_goals refine zae (Lf.mk ?_))
 all_goals first
  | (dsimp only; refine yN [0] rfl rfl ?_; (repeat' (first | (refine VS.mk ?_) | exact trivial | exact rfl | refine And.intro ?_ ?_)); all_goals (unfold zeo; dsimp only; (repeat (first | (rw [if_pos (by assumption)]) | (rw [if_neg (by assumption)]))); try rfl); done)
  | skip
theorem zkY : za Tryz.prog kM (yh (fun ds : List D => ds.length ≤ 100000000 ∧ ∀ (i : Nat) d, ds[i]? = some d → d.cells.length = 1) (fun ds => [.sl 1 ds none]) (fun _ => []) (fun ds => .sl 1 ds (some 0)) fun ds => [.spare ds.length]) := by
 refine zg zj Tryz.func94 rfl (by decide) ?_
 rintro ds ⟨hds, hlen⟩
 refine ⟨by simp, by simp [Tryz.f94], fun E hE => ?_⟩
 refine zf _ ?_
 (all_goals refine qgo (Lf.mk ?_))
 refine zhR (fun h => ?_) ?_
 ·subst h
  (all_goals refine qgo (Lf.mk ?_))
  refine zuw (e := 1) (yn (r := .sl 1 [] (some 0)) ?_) (by decide)
  (repeat' (first | (refine VS.mk ?_) | exact trivial | exact rfl | refine And.intro ?_ ?_))
 (all_goals refine qgo (Lf.mk ?_))
 refine yn ?_
 (repeat' (first | (refine VS.mk ?_) | exact trivial | exact rfl | refine And.intro ?_ ?_))
theorem zaz : za Tryz.prog znV (yh (fun ((m, i, at_) : zM × Ins × Int) => InM 10000 m ∧ InI i ∧ -2000000000000 ≤ at_ ∧ at_ ≤ 2000000000000)
  (fun (m, i, at_) => [.loc 0 0, je i, .int .i64 at_]) (fun (m, _, _) => [.cells (w7 m)]) (fun (m, i, at_) => .int .i64 (zO m i at_).2) fun (m, i, at_) => [.cells (w7 (zO m i at_).1)]) := by
 refine zg zj Tryz.func97 rfl (by decide) ?_
 rintro ⟨m, i, at_⟩ ⟨hm, hi, h1, h2⟩
 obtain ⟨n0, n1⟩ := hi.n
 obtain ⟨m0, m1⟩ := hi.m
 obtain ⟨q0, q1⟩ := hi.imm
 have hrm := ixm hi.m hm
 have hrn := ixr hi.n hm
 have hr0 := hm.regs 0 (by decide)
 have htold := hm.told
 have hb := hm.base
 have hl := hm.len
 refine ⟨Nat.le_refl _, by simp [Tryz.f97], fun E hE => ?_⟩
 refine zf _ ?_
 (all_goals refine zae ?_ <;> (repeat' first | exact trivial | intro hc | refine And.intro ?_ ?_) <;> refine Lf.mk ?_)
 ·have hP : zO m i at_ = (xr m i.n i.imm, 0) := by unfold zO; (repeat (first | (rw [if_pos (by assumption)]) | (rw [if_neg (by assumption)])))
  dsimp only; rw [hP]
  refine yN [0] rfl rfl ?_
  (repeat' (first | (refine VS.mk ?_) | exact trivial | exact rfl | refine And.intro ?_ ?_))
 ·have hP : zO m i at_ = (xr m i.n (zd (m.r i.n.toNat + i.imm) 32), 0) := by unfold zO; dsimp only; (repeat (first | (rw [if_pos (by assumption)]) | (rw [if_neg (by assumption)])))
  refine ze yw (m.r i.n.toNat + i.imm) trivial (VS.mk (LeL.of_eq rfl)) ?_
  (all_goals refine zae (Lf.mk ?_))
  dsimp only; rw [hP]
  refine yN [0] rfl rfl ?_
  (repeat' (first | (refine VS.mk ?_) | exact trivial | exact rfl | refine And.intro ?_ ?_))
 ·have hP : zO m i at_ = (zcj (xr m i.n (zd (m.r i.n.toNat * 2) 32)) (decide (m.r i.n.toNat < 0)), 0) := by unfold zO; dsimp only; (repeat (first | (rw [if_pos (by assumption)]) | (rw [if_neg (by assumption)])))
  refine ze yw (m.r i.n.toNat * 2) trivial (VS.mk (LeL.of_eq rfl)) ?_
  (all_goals refine zae (Lf.mk ?_))
  dsimp only; rw [hP]
  refine yN [0] rfl rfl ?_
  (repeat' (first | (refine VS.mk ?_) | exact trivial | exact rfl | refine And.intro ?_ ?_))
 ·have hP : zO m i at_ = (zcj (xr m i.n (m.r i.n.toNat % 4294967296 / 2)) (decide (m.r i.n.toNat % 2 = 1)), 0) := by unfold zO; dsimp only; (repeat (first | (rw [if_pos (by assumption)]) | (rw [if_neg (by assumption)])))
  dsimp only; rw [hP]
  refine yN [0] rfl rfl ?_
  (repeat' (first | (refine VS.mk ?_) | exact trivial | exact rfl | refine And.intro ?_ ?_))
 ·have hP : zO m i at_ = (zcj (xr m i.n (zd (m.r i.n.toNat - 1) 32)) (decide (zd (m.r i.n.toNat - 1) 32 = 0)), 0) := by unfold zO; dsimp only; (repeat (first | (rw [if_pos (by assumption)]) | (rw [if_neg (by assumption)])))
  refine ze yw (m.r i.n.toNat - 1) trivial (VS.mk (LeL.of_eq rfl)) ?_
  (all_goals refine zae (Lf.mk ?_))
  rw [zw1 _ _ _ n0]
  dsimp only; rw [hP]
  refine yN [0] rfl rfl ?_
  (repeat' (first | (refine VS.mk ?_) | exact trivial | exact rfl | refine And.intro ?_ ?_))
 ·have hP : zO m i at_ = x6 m i at_ := by unfold zO; dsimp only; rw [if_neg (by omega), if_neg (by omega), if_neg (by omega), if_neg (by omega), if_neg (by omega), if_pos (by omega)]
  refine zX zeq [0] [0] (m, i, at_) ⟨hm, hi, h1, h2⟩ rfl rfl ?_
  refine And.intro (VS.mk (LeL.of_eq rfl)) (And.intro (VS.mk rfl) ?_)
  (all_goals refine zae (Lf.mk ?_))
  dsimp only; rw [hP]
  refine yN [0] rfl rfl ?_
  (repeat' (first | (refine VS.mk ?_) | exact trivial | exact rfl | refine And.intro ?_ ?_))
 ·have hP : zO m i at_ = x6 m i at_ := by unfold zO; dsimp only; rw [if_neg (by omega), if_neg (by omega), if_neg (by omega), if_neg (by omega), if_neg (by omega), if_pos (by omega)]
  refine zX zeq [0] [0] (m, i, at_) ⟨hm, hi, h1, h2⟩ rfl rfl ?_
  refine And.intro (VS.mk (LeL.of_eq rfl)) (And.intro (VS.mk rfl) ?_)
  (all_goals refine zae (Lf.mk ?_))
  dsimp only; rw [hP]
  refine yN [0] rfl rfl ?_
  (repeat' (first | (refine VS.mk ?_) | exact trivial | exact rfl | refine And.intro ?_ ?_))
 ·have hP : zO m i at_ = x6 m i at_ := by unfold zO; dsimp only; rw [if_neg (by omega), if_neg (by omega), if_neg (by omega), if_neg (by omega), if_neg (by omega), if_pos (by omega)]
  refine zX zeq [0] [0] (m, i, at_) ⟨hm, hi, h1, h2⟩ rfl rfl ?_
  refine And.intro (VS.mk (LeL.of_eq rfl)) (And.intro (VS.mk rfl) ?_)
  (all_goals refine zae (Lf.mk ?_))
  dsimp only; rw [hP]
  refine yN [0] rfl rfl ?_
  (repeat' (first | (refine VS.mk ?_) | exact trivial | exact rfl | refine And.intro ?_ ?_))
 ·have hP : zO m i at_ = zdc m i := by unfold zO; dsimp only; rw [if_neg (by omega), if_neg (by omega), if_neg (by omega), if_neg (by omega), if_neg (by omega), if_neg (by omega), if_pos (by omega)]
  refine zX zck [0] [0] (m, m.r i.n.toNat, 4) ⟨hm, by omega, by omega, by decide⟩ rfl rfl ?_
  refine And.intro (VS.mk (LeL.of_eq rfl)) (And.intro (VS.mk rfl) ?_)
  (all_goals refine zae ?_ <;> (repeat' first | exact trivial | intro hc | refine And.intro ?_ ?_) <;> refine Lf.mk ?_)
  ·have hQ : zdc m i = (m, 3) := by unfold zdc; rw [if_neg (by rw [hc]; decide)]
   dsimp only; rw [hP, hQ]
   refine yN [0] rfl rfl ?_
   (repeat' (first | (refine VS.mk ?_) | exact trivial | exact rfl | refine And.intro ?_ ?_))
  have hin := zfO.1 hc
  have hQ : zdc m i = ({ m with img := { m.img with bytes := yb m.img.bytes (m.r i.n.toNat - m.img.base) 4 (m.r i.m.toNat) } }, 0) := by unfold zdc; rw [if_pos hc]
  refine zX zcO [] [2] (m.img.bytes, m.r i.n.toNat - m.img.base, 4, m.r i.m.toNat) ⟨by omega, by omega, by decide, by omega⟩ rfl rfl ?_
  refine And.intro (VS.mk (by (first | exact LeL.refl _ | (repeat' (first | exact LeL.nil | exact LeD.refl _ | exact LeD.nil _ | exact LeD.strip _ _ _ | refine LeL.cons ?_ ?_ | refine LeD.tup ?_ | refine LeD.agg ?_))))) (And.intro (VS.mk rfl) ?_)
  (all_goals refine zae (Lf.mk ?_))
  dsimp only; rw [hP, hQ]
  refine zlP 0 (w7 { m with img := { m.img with bytes := yb m.img.bytes (m.r i.n.toNat - m.img.base) 4 (m.r i.m.toNat) } }) rfl (by (first | exact LeL.refl _ | (repeat' (first | exact LeL.nil | exact LeD.refl _ | exact LeD.nil _ | exact LeD.strip _ _ _ | refine LeL.cons ?_ ?_ | refine LeD.tup ?_ | refine LeD.agg ?_)))) ?_ (Nat.le_refl _)
  refine yN [0] rfl rfl ?_
  (repeat' (first | (refine VS.mk ?_) | exact trivial | exact rfl | refine And.intro ?_ ?_))
 ·have hP : zO m i at_ = ({ m with told := m.told ++ [m.r 0] }, 0) := by unfold zO; dsimp only; rw [if_neg (by omega), if_neg (by omega), if_neg (by omega), if_neg (by omega), if_neg (by omega), if_neg (by omega), if_neg (by omega), if_pos (by omega)]
  refine zX zkY [] [2] (m.told.map zg7) ⟨by simp; omega, fun i d hd => ?_⟩ rfl rfl ?_
  ·obtain ⟨c, _, rfl⟩ := List.mem_map.1 (List.mem_of_getElem? hd); rfl
  refine And.intro (VS.mk (LeL.of_eq rfl)) (And.intro (VS.mk rfl) ?_)
  (all_goals refine zae (Lf.mk ?_))
  dsimp only; rw [hP]
  refine zlP 0 (w7 { m with told := m.told ++ [m.r 0] }) rfl (by (first | exact LeL.refl _ | (repeat' (first | exact LeL.nil | exact LeD.refl _ | exact LeD.nil _ | exact LeD.strip _ _ _ | refine LeL.cons ?_ ?_ | refine LeD.tup ?_ | refine LeD.agg ?_)))) ?_ (Nat.le_refl _)
  refine yN [0] rfl rfl ?_
  (repeat' (first | (refine VS.mk ?_) | exact trivial | exact rfl | refine And.intro ?_ ?_))
 ·have hP : zO m i at_ = (zeo m i, 0) := by unfold zO; dsimp only; rw [if_neg (by omega), if_neg (by omega), if_neg (by omega), if_neg (by omega), if_neg (by omega), if_neg (by omega), if_neg (by omega), if_neg (by omega)]
  refine zX zqz [0] [0] (m, i) ⟨hm, hi⟩ rfl rfl ?_
  refine And.intro (VS.mk (LeL.of_eq rfl)) (And.intro (VS.mk rfl) ?_)
  (all_goals refine zae (Lf.mk ?_))
  dsimp only; rw [hP]
  refine yN [0] rfl rfl ?_
  (repeat' (first | (refine VS.mk ?_) | exact trivial | exact rfl | refine And.intro ?_ ?_))
attribute [local irreducible] xq qC zO
theorem ziM : za Tryz.prog zpE (yh (fun ((m, i) : zM × Ins) => InM 10000 m ∧ InI i)
  (fun (m, i) => [.loc 0 0, je i]) (fun (m, _) => [.cells (w7 m)]) (fun (m, i) => .tup [.int .i64 (xD m i).2.1, .bool (xD m i).2.2]) fun (m, i) => [.cells (w7 (xD m i).1)]) := by
 refine zg zj Tryz.func98 rfl (by decide) ?_
 rintro ⟨m, i⟩ ⟨hm, hi⟩
 obtain ⟨n0, n1⟩ := hi.n
 obtain ⟨m0, m1⟩ := hi.m
 obtain ⟨q0, q1⟩ := hi.imm
 have hrm := ixm hi.m hm
 have hrn := ixr hi.n hm
 have hpc := hm.pc
 have hpr := hm.pr
 refine ⟨Nat.le_refl _, by simp [Tryz.f98], fun E hE => ?_⟩
 refine zf _ ?_
 (all_goals refine qgv (Lf.mk ?_))
 refine ze znj (i, m.pc) ⟨q0, q1, by omega, by omega⟩ (VS.mk (LeL.of_eq rfl)) ?_
 (all_goals refine qgv ?_ <;> (repeat' first | exact trivial | intro hc | refine And.intro ?_ ?_) <;> refine Lf.mk ?_)
 all_goals
  have hn : ¬ (m.t = true) ∨ m.t = true := by cases m.t <;> simp
  refine vI (r1 := .tup [.int .i64 (xD m i).2.1, .bool (xD m i).2.2]) (LeD.tup (.cons (LeD.of_eq (congrArg _ ?_)) (.cons ?_ .nil))) (yN [0] rfl rfl ?_) (Nat.le_refl _)
  ·unfold xD; (repeat (first | (rw [if_pos (by assumption)]) | (rw [if_neg (by assumption)]))); try (simp [*])
  ·first | exact LeD.tt (by unfold xD; (repeat (first | (rw [if_pos (by assumption)]) | (rw [if_neg (by assumption)])))) | exact LeD.ff (by unfold xD; (repeat (first | (rw [if_pos (by assumption)]) | (rw [if_neg (by assumption)]))))
  ·(repeat' (first | (refine VS.mk ?_) | exact trivial | exact rfl | refine And.intro ?_ ?_))
   all_goals (dsimp only; unfold xD; (repeat (first | (rw [if_pos (by assumption)]) | (rw [if_neg (by assumption)]))); try rfl)
theorem zvs (n : Int) : (-128 ≤ zd n 8 ∧ zd n 8 ≤ 127) ∧ (-2048 ≤ zd n 12 ∧ zd n 12 ≤ 2047) := by
 have e8 : zd n 8 = if n % 256 / 128 = 1 then n % 256 - 256 else n % 256 := by unfold zd; rfl
 have e12 : zd n 12 = if n % 4096 / 2048 = 1 then n % 4096 - 4096 else n % 4096 := by unfold zd; rfl
 rw [e8, e12]
 constructor <;> split <;> omega
theorem zvt (w : Int) : InI (xe w).1 := by
 unfold xe
 split
 ·exact ⟨by decide, by decide, by decide⟩
 split
 ·rename_i r _
  have h := zvs w
  refine ⟨?_, ?_, ?_⟩
  ·show 0 ≤ (if zbz r.shape = true then w / 256 % 16 else 0) ∧ (if zbz r.shape = true then w / 256 % 16 else 0) < 16
   split <;> omega
  ·show 0 ≤ (if zbA r.shape = true then w / 16 % 16 else 0) ∧ (if zbA r.shape = true then w / 16 % 16 else 0) < 16
   split <;> omega
  ·show -4096 ≤ zix w r.shape ∧ zix w r.shape ≤ 4096
   unfold zix
   (repeat' split) <;> omega
 ·exact ⟨by decide, by decide, by decide⟩
theorem zba (m : zM) (a : Int) : InI (xq m a).1 := by
 unfold xq
 split
 ·exact zvt _
 ·exact ⟨by decide, by decide, by decide⟩
theorem zwB (a b : Int) : -2147483648 ≤ jX a b ∧ jX a b ≤ 2147483647 := by unfold jX; exact zhv _ a b
theorem zw4 (a b : Int) : -2147483648 ≤ zcY a b ∧ zcY a b ≤ 2147483647 := by unfold zcY; exact zhv _ a b
theorem zwC (a b : Int) : -2147483648 ≤ za9 a b ∧ za9 a b ≤ 2147483647 := by unfold za9; exact zhv _ a b
theorem zw5 {r : Nat → Int} {n v : Int} (h : ∀ j, j < 16 → -2147483648 ≤ r j ∧ r j ≤ 2147483647) (h1 : -2147483648 ≤ v) (h2 : v ≤ 2147483647) : ∀ j, j < 16 → -2147483648 ≤ up r n v j ∧ up r n v j ≤ 2147483647 := by
 intro j hj
 unfold up
 split
 ·exact ⟨h1, h2⟩
 ·exact h j hj
theorem vE {k : Nat} {m : zM} {n v : Int} (h : InM k m) (h1 : -2147483648 ≤ v ∧ v ≤ 2147483647) : InM k (xr m n v) := ⟨zw5 h.regs h1.1 h1.2, h.pc, h.pr, h.base, h.len, h.syms, h.told, h.steps⟩
theorem zbL {k : Nat} {m : zM} {t : Bool} (h : InM k m) : InM k (zcj m t) := ⟨h.regs, h.pc, h.pr, h.base, h.len, h.syms, h.told, h.steps⟩
theorem ztR {k : Nat} {m : zM} {i : Ins} {a : Int} (h : InM k m) : InM k (x6 m i a).1 := by
 unfold x6
 refine iteInduction (motive := fun x : zM × Int => InM k x.1) (fun _ => ?_) (fun _ => h)
 refine vE h ?_
 split <;> exact zep _
theorem zvu {k : Nat} {m : zM} {i : Ins} (h : InM k m) : InM k (zdc m i).1 := by
 unfold zdc
 split
 ·exact ⟨h.regs, h.pc, h.pr, h.base, by show (yb _ _ _ _).length ≤ _; rw [vW]; exact h.len, h.syms, h.told, h.steps⟩
 ·exact h
theorem zvv {k : Nat} {m : zM} {i : Ins} (h : InM k m) (hi : InI i) : InM k (zeo m i) := by
 have hrm := ixm hi.m h
 have hrn := ixr hi.n h
 unfold zeo
 dsimp only
 split
 ·exact vE h hrm
 split
 ·exact vE h (zep _)
 split
 ·exact vE h (zep _)
 split
 ·exact vE h (zwB _ _)
 split
 ·exact vE h (zw4 _ _)
 split
 ·exact vE h (zwC _ _)
 split
 ·exact zbL h
 split
 ·exact zbL h
 split
 ·exact zbL h
 ·exact h
theorem jA {k : Nat} {m : zM} {i : Ins} {a : Int} (h : InM k m) (hi : InI i) : InM (k + 1) (zO m i a).1 := by
 have hrm := ixm hi.m h
 have hrn := ixr hi.n h
 have hq := hi.imm
 have hm := h.mono (Nat.le_add_right k 1)
 unfold zO
 dsimp only
 split
 ·exact vE hm (by omega)
 split
 ·exact vE hm (zep _)
 split
 ·exact zbL (vE hm (zep _))
 split
 ·exact zbL (vE hm (by omega))
 split
 ·exact zbL (vE hm (zep _))
 split
 ·exact ztR hm
 split
 ·exact zvu hm
 split
 ·exact ⟨h.regs, hm.pc, hm.pr, h.base, h.len, h.syms, by show (m.told ++ _).length ≤ _; rw [List.length_append, List.length_singleton]; have := h.told; omega, hm.steps⟩
 ·exact zvv hm hi
theorem zbb (m : zM) (i : Ins) (a : Int) : (zO m i a).1.pc = m.pc := by
 have hl : (x6 m i a).1.pc = m.pc := by
  unfold x6
  exact iteInduction (motive := fun x : zM × Int => x.1.pc = m.pc) (fun _ => rfl) (fun _ => rfl)
 have hp : (zdc m i).1.pc = m.pc := by
  unfold zdc
  exact iteInduction (motive := fun x : zM × Int => x.1.pc = m.pc) (fun _ => rfl) (fun _ => rfl)
 have hs : (zeo m i).pc = m.pc := by
  unfold zeo
  dsimp only
  repeat' (first | rfl | refine iteInduction (motive := fun x : zM => x.pc = m.pc) (fun _ => ?_) (fun _ => ?_))
 unfold zO
 dsimp only
 repeat' (first | rfl | exact hl | exact hp | exact hs | refine iteInduction (motive := fun x : zM × Int => x.1.pc = m.pc) (fun _ => ?_) (fun _ => ?_))
theorem zhw {k : Nat} {m : zM} {i : Ins} (h : InM k m) (hi : InI i) : InM (k + 1) (xD m i).1 ∧ (xD m i).1.pc = m.pc ∧ -5000000000 - 100000 * (k + 1 : Int) ≤ (xD m i).2.1 ∧ (xD m i).2.1 ≤ 5000000000 + 100000 * (k + 1 : Int) := by
 have hm := h.mono (Nat.le_add_right k 1)
 have hpr := h.pr
 have hpc := h.pc
 have hrn := ixr hi.n h
 have hto := zsk (a := m.pc) hi.imm.1 hi.imm.2
 have hpr' : InM (k + 1) { m with pr := m.pc + 4 } := ⟨h.regs, hm.pc, by show _ ≤ m.pc + 4 ∧ m.pc + 4 ≤ _; omega, h.base, h.len, h.syms, hm.told, hm.steps⟩
 unfold xD
 split
 ·refine ⟨hm, rfl, ?_, ?_⟩ <;> (dsimp only; split <;> omega)
 split
 ·refine ⟨hm, rfl, ?_, ?_⟩ <;> (dsimp only; split <;> omega)
 split
 ·exact ⟨hm, rfl, by dsimp only; omega, by dsimp only; omega⟩
 split
 ·exact ⟨hm, rfl, by dsimp only; omega, by dsimp only; omega⟩
 split
 ·exact ⟨hpr', rfl, by dsimp only; omega, by dsimp only; omega⟩
 split
 ·exact ⟨hpr', rfl, by dsimp only; omega, by dsimp only; omega⟩
 ·exact ⟨hm, rfl, by dsimp only; omega, by dsimp only; omega⟩
def wS (m : zM) : D := .tup [zbG (xt m).1, .bool (xt m).2.1, .int .i64 (xt m).2.2]
theorem zqA : za Tryz.prog zpC (zA (fun m : zM => InM 9990 m) (fun m => [zbG m]) wS) := by
 refine zg zj Tryz.func54 rfl (by decide) ?_
 rintro m hm
 have hm' := hm.mono (show 9990 ≤ 10000 by decide)
 have hpc := hm.pc
 have hpr := hm.pr
 have htold := hm.told
 have hst := hm.steps
 have hm1 : InM 9991 { m with steps := m.steps + 1 } := ⟨hm.regs, by show _ ≤ m.pc ∧ m.pc ≤ _; omega, by show _ ≤ m.pr ∧ m.pr ≤ _; omega, hm.base, hm.len, hm.syms, by show m.told.length ≤ _; omega, by show _ ≤ m.steps + 1 ∧ m.steps + 1 ≤ _; omega⟩
 refine ⟨Nat.le_refl _, by simp [Tryz.f54], fun E hE => ?_⟩
 refine zf _ ?_
 (all_goals refine qgv (Lf.mk ?_))
 refine ze ziL m ⟨hm.len, hm.syms, by omega⟩ (VS.mk (LeL.of_eq rfl)) ?_
 (all_goals refine qgv (Lf.mk ?_))
 have hI := zba m m.pc
 obtain ⟨i, e, hie⟩ : ∃ i e, xq m m.pc = (i, e) := ⟨_, _, rfl⟩
 refine zX zdd [2] [2] (m, m.pc) ⟨hm', by omega, by omega⟩ rfl rfl ?_
 dsimp only
 rw [hie] at hI ⊢
 refine And.intro (VS.mk (LeL.of_eq rfl)) (And.intro (VS.mk rfl) ?_)
 (all_goals refine qgv ?_ <;> (repeat' first | exact trivial | intro hc | refine And.intro ?_ ?_) <;> refine Lf.mk ?_)
 ·have hS : xt m = (wm, false, e) := by unfold xt; rw [hie]; dsimp only; (repeat (first | (rw [if_pos (by assumption)]) | (rw [if_neg (by assumption)])))
  refine zb (VS.mk ?_)
  unfold wS; rw [hS]
  (first | exact LeL.refl _ | (repeat' (first | exact LeL.nil | exact LeD.refl _ | exact LeD.nil _ | exact LeD.strip _ _ _ | refine LeL.cons ?_ ?_ | refine LeD.tup ?_ | refine LeD.agg ?_)))
  all_goals first | exact LeD.ff rfl | skip
 ·have hS : xt m = ({ m with steps := m.steps + 1 }, true, 0) := by unfold xt; rw [hie]; dsimp only; rw [if_neg (by omega), if_pos (by omega)]
  refine zb (VS.mk ?_)
  unfold wS; rw [hS]
  (first | exact LeL.refl _ | (repeat' (first | exact LeL.nil | exact LeD.refl _ | exact LeD.nil _ | exact LeD.strip _ _ _ | refine LeL.cons ?_ ?_ | refine LeD.tup ?_ | refine LeD.agg ?_)))
  all_goals first | exact LeD.tt rfl | skip
 all_goals
  refine ze zde i.op trivial (VS.mk (LeL.of_eq rfl)) ?_
  (all_goals refine qgv ?_ <;> (repeat' first | exact trivial | intro hc | refine And.intro ?_ ?_) <;> refine Lf.mk ?_)
 ·have hP := jA (k := 9991) (a := m.pc) hm1 hI
  have hpp := zbb { m with steps := m.steps + 1 } i m.pc
  obtain ⟨x, f, hx⟩ : ∃ x f, zO { m with steps := m.steps + 1 } i m.pc = (x, f) := ⟨_, _, rfl⟩
  rw [hx] at hP hpp
  have hS : xt m = if f ≠ 0 then (wm, false, f) else ({ x with pc := x.pc + 2 }, false, 0) := by unfold xt; rw [hie]; dsimp only; rw [if_neg (by omega), if_neg (by omega), if_pos hc, hx]
  refine zX zaz [2] [2] ({ m with steps := m.steps + 1 }, i, m.pc) ⟨hm1.mono (by decide), hI, by omega, by omega⟩ rfl rfl ?_
  dsimp only
  rw [hx]
  refine And.intro (VS.mk (LeL.of_eq rfl)) (And.intro (VS.mk rfl) ?_)
  have hxp := hP.pc
  (all_goals refine qgv ?_ <;> (repeat' first | exact trivial | intro hc | refine And.intro ?_ ?_) <;> refine Lf.mk ?_)
  ·rw [if_pos hc] at hS
   refine zb (VS.mk ?_)
   unfold wS; rw [hS]
   (first | exact LeL.refl _ | (repeat' (first | exact LeL.nil | exact LeD.refl _ | exact LeD.nil _ | exact LeD.strip _ _ _ | refine LeL.cons ?_ ?_ | refine LeD.tup ?_ | refine LeD.agg ?_)))
   all_goals first | exact LeD.ff rfl | skip
  ·rw [if_neg (by omega)] at hS
   refine zb (VS.mk ?_)
   unfold wS; rw [hS]
   (first | exact LeL.refl _ | (repeat' (first | exact LeL.nil | exact LeD.refl _ | exact LeD.nil _ | exact LeD.strip _ _ _ | refine LeL.cons ?_ ?_ | refine LeD.tup ?_ | refine LeD.agg ?_)))
   all_goals first | exact LeD.ff rfl | skip
 ·have hL := zhw (k := 9991) hm1 hI
  obtain ⟨x, to, late, hx⟩ : ∃ x to late, xD { m with steps := m.steps + 1 } i = (x, to, late) := ⟨_, _, _, rfl⟩
  rw [hx] at hL
  obtain ⟨hL1, hL2, hL3, hL4⟩ := hL
  dsimp only at hL1 hL2 hL3 hL4
  have hxp := hL1.pc
  have hS : xt m = if late = true then wr x to else ({ x with pc := to }, false, 0) := by unfold xt; rw [hie]; dsimp only; rw [if_neg (by omega), if_neg (by omega), if_neg (by rw [hc]; decide), hx]
  refine zX ziM [2] [2] ({ m with steps := m.steps + 1 }, i) ⟨hm1.mono (by decide), hI⟩ rfl rfl ?_
  dsimp only
  rw [hx]
  dsimp only
  refine And.intro (VS.mk (LeL.of_eq rfl)) (And.intro (VS.mk rfl) ?_)
  (all_goals refine qgv ?_ <;> (repeat' first | exact trivial | intro hc | refine And.intro ?_ ?_) <;> refine Lf.mk ?_)
  ·rw [if_pos hc] at hS
   have hJ := zba x (x.pc + 2)
   obtain ⟨j, e', hj⟩ : ∃ j e', xq x (x.pc + 2) = (j, e') := ⟨_, _, rfl⟩
   refine zX zdd [2] [2] (x, x.pc + 2) ⟨hL1.mono (by decide), by omega, by omega⟩ rfl rfl ?_
   dsimp only
   rw [hj] at hJ ⊢
   dsimp only at hJ ⊢
   refine And.intro (VS.mk (LeL.of_eq rfl)) (And.intro (VS.mk rfl) ?_)
   (all_goals refine qgv ?_ <;> (repeat' first | exact trivial | intro hc | refine And.intro ?_ ?_) <;> refine Lf.mk ?_)
   ·refine ze zde j.op trivial (VS.mk (LeL.of_eq rfl)) ?_
    (all_goals refine qgv ?_ <;> (repeat' first | exact trivial | intro hc | refine And.intro ?_ ?_) <;> refine Lf.mk ?_)
    ·have hT : wr x to = (wm, false, 8) := by unfold wr; rw [hj]; dsimp only; rw [if_neg (by omega), if_pos (.inl (by assumption))]
     refine zb (VS.mk ?_)
     unfold wS; rw [hS, hT]
     (first | exact LeL.refl _ | (repeat' (first | exact LeL.nil | exact LeD.refl _ | exact LeD.nil _ | exact LeD.strip _ _ _ | refine LeL.cons ?_ ?_ | refine LeD.tup ?_ | refine LeD.agg ?_)))
     all_goals first | exact LeD.ff rfl | skip
    ·have hT : wr x to = (wm, false, 8) := by unfold wr; rw [hj]; dsimp only; rw [if_neg (by omega), if_pos (.inr (by assumption))]
     refine zb (VS.mk ?_)
     unfold wS; rw [hS, hT]
     (first | exact LeL.refl _ | (repeat' (first | exact LeL.nil | exact LeD.refl _ | exact LeD.nil _ | exact LeD.strip _ _ _ | refine LeL.cons ?_ ?_ | refine LeD.tup ?_ | refine LeD.agg ?_)))
     all_goals first | exact LeD.ff rfl | skip
    have hnl : ¬ (qC j.op = true ∨ j.op = 27) := by
     rintro (h | h)
     ·have h9 : qC j.op = false := by assumption
      rw [h] at h9; cases h9
     ·omega
    have hP := jA (k := 9992) (a := x.pc + 2) hL1 hJ
    have hpp := zbb x j (x.pc + 2)
    obtain ⟨y, f, hy⟩ : ∃ y f, zO x j (x.pc + 2) = (y, f) := ⟨_, _, rfl⟩
    rw [hy] at hP hpp
    have hT : wr x to = if f ≠ 0 then (wm, false, f) else ({ y with pc := to }, false, 0) := by unfold wr; rw [hj]; dsimp only; rw [if_neg (by omega), if_neg hnl, hy]
    refine zX zaz [2] [2] (x, j, x.pc + 2) ⟨hL1.mono (by decide), hJ, by omega, by omega⟩ rfl rfl ?_
    dsimp only
    rw [hy]
    refine And.intro (VS.mk (LeL.of_eq rfl)) (And.intro (VS.mk rfl) ?_)
    (all_goals refine qgv ?_ <;> (repeat' first | exact trivial | intro hc | refine And.intro ?_ ?_) <;> refine Lf.mk ?_)
    ·rw [if_pos hc] at hT
     refine zb (VS.mk ?_)
     unfold wS; rw [hS, hT]
     (first | exact LeL.refl _ | (repeat' (first | exact LeL.nil | exact LeD.refl _ | exact LeD.nil _ | exact LeD.strip _ _ _ | refine LeL.cons ?_ ?_ | refine LeD.tup ?_ | refine LeD.agg ?_)))
     all_goals first | exact LeD.ff rfl | skip
    ·rw [if_neg (by omega)] at hT
     refine zb (VS.mk ?_)
     unfold wS; rw [hS, hT]
     (first | exact LeL.refl _ | (repeat' (first | exact LeL.nil | exact LeD.refl _ | exact LeD.nil _ | exact LeD.strip _ _ _ | refine LeL.cons ?_ ?_ | refine LeD.tup ?_ | refine LeD.agg ?_)))
     all_goals first | exact LeD.ff rfl | skip
   ·have hT : wr x to = (wm, false, e') := by unfold wr; rw [hj]; dsimp only; rw [if_pos (by assumption)]
    refine zb (VS.mk ?_)
    unfold wS; rw [hS, hT]
    (first | exact LeL.refl _ | (repeat' (first | exact LeL.nil | exact LeD.refl _ | exact LeD.nil _ | exact LeD.strip _ _ _ | refine LeL.cons ?_ ?_ | refine LeD.tup ?_ | refine LeD.agg ?_)))
    all_goals first | exact LeD.ff rfl | skip
  ·rw [if_neg (by rw [hc]; decide)] at hS
   refine zb (VS.mk ?_)
   unfold wS; rw [hS]
   (first | exact LeL.refl _ | (repeat' (first | exact LeL.nil | exact LeD.refl _ | exact LeD.nil _ | exact LeD.strip _ _ _ | refine LeL.cons ?_ ?_ | refine LeD.tup ?_ | refine LeD.agg ?_)))
   all_goals first | exact LeD.ff rfl | skip
 ·have hP := jA (k := 9991) (a := m.pc) hm1 hI
  have hpp := zbb { m with steps := m.steps + 1 } i m.pc
  obtain ⟨x, f, hx⟩ : ∃ x f, zO { m with steps := m.steps + 1 } i m.pc = (x, f) := ⟨_, _, rfl⟩
  rw [hx] at hP hpp
  have hS : xt m = if f ≠ 0 then (wm, false, f) else ({ x with pc := x.pc + 2 }, false, 0) := by unfold xt; rw [hie]; dsimp only; rw [if_neg (by omega), if_neg (by omega), if_pos hc, hx]
  refine zX zaz [2] [2] ({ m with steps := m.steps + 1 }, i, m.pc) ⟨hm1.mono (by decide), hI, by omega, by omega⟩ rfl rfl ?_
  dsimp only
  rw [hx]
  refine And.intro (VS.mk (LeL.of_eq rfl)) (And.intro (VS.mk rfl) ?_)
  have hxp := hP.pc
  (all_goals refine qgv ?_ <;> (repeat' first | exact trivial | intro hc | refine And.intro ?_ ?_) <;> refine Lf.mk ?_)
  ·rw [if_pos hc] at hS
   refine zb (VS.mk ?_)
   unfold wS; rw [hS]
   (first | exact LeL.refl _ | (repeat' (first | exact LeL.nil | exact LeD.refl _ | exact LeD.nil _ | exact LeD.strip _ _ _ | refine LeL.cons ?_ ?_ | refine LeD.tup ?_ | refine LeD.agg ?_)))
   all_goals first | exact LeD.ff rfl | skip
  ·rw [if_neg (by omega)] at hS
   refine zb (VS.mk ?_)
   unfold wS; rw [hS]
   (first | exact LeL.refl _ | (repeat' (first | exact LeL.nil | exact LeD.refl _ | exact LeD.nil _ | exact LeD.strip _ _ _ | refine LeL.cons ?_ ?_ | refine LeD.tup ?_ | refine LeD.agg ?_)))
   all_goals first | exact LeD.ff rfl | skip
 ·have hL := zhw (k := 9991) hm1 hI
  obtain ⟨x, to, late, hx⟩ : ∃ x to late, xD { m with steps := m.steps + 1 } i = (x, to, late) := ⟨_, _, _, rfl⟩
  rw [hx] at hL
  obtain ⟨hL1, hL2, hL3, hL4⟩ := hL
  dsimp only at hL1 hL2 hL3 hL4
  have hxp := hL1.pc
  have hS : xt m = if late = true then wr x to else ({ x with pc := to }, false, 0) := by unfold xt; rw [hie]; dsimp only; rw [if_neg (by omega), if_neg (by omega), if_neg (by rw [hc]; decide), hx]
  refine zX ziM [2] [2] ({ m with steps := m.steps + 1 }, i) ⟨hm1.mono (by decide), hI⟩ rfl rfl ?_
  dsimp only
  rw [hx]
  dsimp only
  refine And.intro (VS.mk (LeL.of_eq rfl)) (And.intro (VS.mk rfl) ?_)
  (all_goals refine qgv ?_ <;> (repeat' first | exact trivial | intro hc | refine And.intro ?_ ?_) <;> refine Lf.mk ?_)
  ·rw [if_pos hc] at hS
   have hJ := zba x (x.pc + 2)
   obtain ⟨j, e', hj⟩ : ∃ j e', xq x (x.pc + 2) = (j, e') := ⟨_, _, rfl⟩
   refine zX zdd [2] [2] (x, x.pc + 2) ⟨hL1.mono (by decide), by omega, by omega⟩ rfl rfl ?_
   dsimp only
   rw [hj] at hJ ⊢
   dsimp only at hJ ⊢
   refine And.intro (VS.mk (LeL.of_eq rfl)) (And.intro (VS.mk rfl) ?_)
   (all_goals refine qgv ?_ <;> (repeat' first | exact trivial | intro hc | refine And.intro ?_ ?_) <;> refine Lf.mk ?_)
   ·refine ze zde j.op trivial (VS.mk (LeL.of_eq rfl)) ?_
    (all_goals refine qgv ?_ <;> (repeat' first | exact trivial | intro hc | refine And.intro ?_ ?_) <;> refine Lf.mk ?_)
    ·have hT : wr x to = (wm, false, 8) := by unfold wr; rw [hj]; dsimp only; rw [if_neg (by omega), if_pos (.inl (by assumption))]
     refine zb (VS.mk ?_)
     unfold wS; rw [hS, hT]
     (first | exact LeL.refl _ | (repeat' (first | exact LeL.nil | exact LeD.refl _ | exact LeD.nil _ | exact LeD.strip _ _ _ | refine LeL.cons ?_ ?_ | refine LeD.tup ?_ | refine LeD.agg ?_)))
     all_goals first | exact LeD.ff rfl | skip
    ·have hT : wr x to = (wm, false, 8) := by unfold wr; rw [hj]; dsimp only; rw [if_neg (by omega), if_pos (.inr (by assumption))]
     refine zb (VS.mk ?_)
     unfold wS; rw [hS, hT]
     (first | exact LeL.refl _ | (repeat' (first | exact LeL.nil | exact LeD.refl _ | exact LeD.nil _ | exact LeD.strip _ _ _ | refine LeL.cons ?_ ?_ | refine LeD.tup ?_ | refine LeD.agg ?_)))
     all_goals first | exact LeD.ff rfl | skip
    have hnl : ¬ (qC j.op = true ∨ j.op = 27) := by
     rintro (h | h)
     ·have h9 : qC j.op = false := by assumption
      rw [h] at h9; cases h9
     ·omega
    have hP := jA (k := 9992) (a := x.pc + 2) hL1 hJ
    have hpp := zbb x j (x.pc + 2)
    obtain ⟨y, f, hy⟩ : ∃ y f, zO x j (x.pc + 2) = (y, f) := ⟨_, _, rfl⟩
    rw [hy] at hP hpp
    have hT : wr x to = if f ≠ 0 then (wm, false, f) else ({ y with pc := to }, false, 0) := by unfold wr; rw [hj]; dsimp only; rw [if_neg (by omega), if_neg hnl, hy]
    refine zX zaz [2] [2] (x, j, x.pc + 2) ⟨hL1.mono (by decide), hJ, by omega, by omega⟩ rfl rfl ?_
    dsimp only
    rw [hy]
    refine And.intro (VS.mk (LeL.of_eq rfl)) (And.intro (VS.mk rfl) ?_)
    (all_goals refine qgv ?_ <;> (repeat' first | exact trivial | intro hc | refine And.intro ?_ ?_) <;> refine Lf.mk ?_)
    ·rw [if_pos hc] at hT
     refine zb (VS.mk ?_)
     unfold wS; rw [hS, hT]
     (first | exact LeL.refl _ | (repeat' (first | exact LeL.nil | exact LeD.refl _ | exact LeD.nil _ | exact LeD.strip _ _ _ | refine LeL.cons ?_ ?_ | refine LeD.tup ?_ | refine LeD.agg ?_)))
     all_goals first | exact LeD.ff rfl | skip
    ·rw [if_neg (by omega)] at hT
     refine zb (VS.mk ?_)
     unfold wS; rw [hS, hT]
     (first | exact LeL.refl _ | (repeat' (first | exact LeL.nil | exact LeD.refl _ | exact LeD.nil _ | exact LeD.strip _ _ _ | refine LeL.cons ?_ ?_ | refine LeD.tup ?_ | refine LeD.agg ?_)))
     all_goals first | exact LeD.ff rfl | skip
   ·have hT : wr x to = (wm, false, e') := by unfold wr; rw [hj]; dsimp only; rw [if_pos (by assumption)]
    refine zb (VS.mk ?_)
    unfold wS; rw [hS, hT]
    (first | exact LeL.refl _ | (repeat' (first | exact LeL.nil | exact LeD.refl _ | exact LeD.nil _ | exact LeD.strip _ _ _ | refine LeL.cons ?_ ?_ | refine LeD.tup ?_ | refine LeD.agg ?_)))
    all_goals first | exact LeD.ff rfl | skip
  ·rw [if_neg (by rw [hc]; decide)] at hS
   refine zb (VS.mk ?_)
   unfold wS; rw [hS]
   (first | exact LeL.refl _ | (repeat' (first | exact LeL.nil | exact LeD.refl _ | exact LeD.nil _ | exact LeD.strip _ _ _ | refine LeL.cons ?_ ?_ | refine LeD.tup ?_ | refine LeD.agg ?_)))
   all_goals first | exact LeD.ff rfl | skip
attribute [local irreducible] xD
theorem ztS {k : Nat} {m : zM} {to : Int} (h : InM k m) (h1 : -5000000000 - 100000 * (k + 1 : Int) ≤ to) (h2 : to ≤ 5000000000 + 100000 * (k + 1 : Int)) : (wr m to).2.2 = 0 → InM (k + 1) (wr m to).1 := by
 unfold wr
 dsimp only
 refine iteInduction (motive := fun x : zM × Bool × Int => x.2.2 = 0 → InM (k + 1) x.1) (fun h h' => absurd h' h) (fun _ => ?_)
 refine iteInduction (motive := fun x : zM × Bool × Int => x.2.2 = 0 → InM (k + 1) x.1) (fun _ h' => absurd h' (by decide)) (fun _ => ?_)
 refine iteInduction (motive := fun x : zM × Bool × Int => x.2.2 = 0 → InM (k + 1) x.1) (fun h h' => absurd h' h) (fun _ _ => ?_)
 have hp := jA (k := k) (a := m.pc + 2) h (zba m (m.pc + 2))
 exact ⟨hp.regs, ⟨by show _ ≤ to; omega, by show to ≤ _; omega⟩, hp.pr, hp.base, hp.len, hp.syms, hp.told, hp.steps⟩
theorem ztT {k : Nat} {m : zM} (h : InM k m) : (xt m).2.2 = 0 → InM (k + 3) (xt m).1 := by
 have hI := zba m m.pc
 have hpc := h.pc
 have hpr := h.pr
 have htold := h.told
 have hst := h.steps
 have hm1 : InM (k + 1) { m with steps := m.steps + 1 } := ⟨h.regs, by show _ ≤ m.pc ∧ m.pc ≤ _; omega, by show _ ≤ m.pr ∧ m.pr ≤ _; omega, h.base, h.len, h.syms, by show m.told.length ≤ _; omega, by show _ ≤ m.steps + 1 ∧ m.steps + 1 ≤ _; omega⟩
 unfold xt
 dsimp only
 refine iteInduction (motive := fun x : zM × Bool × Int => x.2.2 = 0 → InM (k + 3) x.1) (fun h h' => absurd h' h) (fun _ => ?_)
 refine iteInduction (motive := fun x : zM × Bool × Int => x.2.2 = 0 → InM (k + 3) x.1) (fun _ _ => hm1.mono (by omega)) (fun _ => ?_)
 refine iteInduction (motive := fun x : zM × Bool × Int => x.2.2 = 0 → InM (k + 3) x.1) (fun _ => ?_) (fun _ => ?_)
 ·refine iteInduction (motive := fun x : zM × Bool × Int => x.2.2 = 0 → InM (k + 3) x.1) (fun h h' => absurd h' h) (fun _ _ => ?_)
  have hp := (jA (k := k + 1) (a := m.pc) hm1 hI).mono (show k + 1 + 1 ≤ k + 3 by omega)
  have hpp := zbb { m with steps := m.steps + 1 } (xq m m.pc).1 m.pc
  dsimp only at hpp
  exact ⟨hp.regs, ⟨by show _ ≤ (zO _ _ _).1.pc + 2; omega, by show (zO _ _ _).1.pc + 2 ≤ _; omega⟩, hp.pr, hp.base, hp.len, hp.syms, hp.told, hp.steps⟩
 ·obtain ⟨h1, h2, h3, h4⟩ := zhw (k := k + 1) hm1 hI
  refine iteInduction (motive := fun x : zM × Bool × Int => x.2.2 = 0 → InM (k + 3) x.1) (fun _ => ?_) (fun _ _ => ?_)
  ·exact ztS (k := k + 2) h1 (by omega) (by omega)
  ·have hp := h1.mono (show k + 1 + 1 ≤ k + 3 by omega)
   exact ⟨hp.regs, ⟨by show _ ≤ (xD _ _).2.1; omega, by show (xD _ _).2.1 ≤ _; omega⟩, hp.pr, hp.base, hp.len, hp.syms, hp.told, hp.steps⟩
def zw6 : List D := [.int .i64 0, .int .i64 0, .int .i64 0, .int .i64 0, .int .i64 0, .int .i64 0, .int .i64 0, .int .i64 0, .int .i64 0, .int .i64 0, .int .i64 0, .int .i64 0, .int .i64 0, .int .i64 0, .int .i64 0, .int .i64 0, .ff, .int .i64 0, .int .i64 0, .int .i64 0, .nilsl, .nilsl, .nilsl, .int .i64 0]
def qH (m : zM) (most : Int) : zM × Int := if most < 0 ∨ most > 2000 then (wm, 3) else y7 most.toNat m
attribute [local irreducible] xt
theorem zsl : za Tryz.prog zq2 (zA (fun ((m, most) : zM × Int) => InM 0 m) (fun (m, most) => [zbG m, .int .i64 most]) fun (m, most) => .tup [zbG (qH m most).1, .int .i64 (qH m most).2]) := by
 refine zg zj Tryz.func28 rfl (by decide) ?_
 rintro ⟨m, most⟩ hm
 have hm : InM 0 m := hm
 have htold := hm.told
 refine ⟨Nat.le_refl _, by simp [Tryz.f28], fun E hE => ?_⟩
 refine zf _ ?_
 (all_goals refine qgv ?_ <;> (repeat' first | exact trivial | intro hc | refine And.intro ?_ ?_) <;> refine Lf.mk ?_)
 ·have hR : qH m most = (wm, 3) := by unfold qH; rw [if_pos (by omega)]
  refine zb (VS.mk ?_)
  (try dsimp only); rw [hR]
  (first | exact LeL.refl _ | (repeat' (first | exact LeL.nil | exact LeD.refl _ | exact LeD.nil _ | exact LeD.strip _ _ _ | refine LeL.cons ?_ ?_ | refine LeD.tup ?_ | refine LeD.agg ?_)))
  all_goals first | exact LeD.ff rfl | skip
 ·have hR : qH m most = (wm, 3) := by unfold qH; rw [if_pos (by omega)]
  refine zb (VS.mk ?_)
  (try dsimp only); rw [hR]
  (first | exact LeL.refl _ | (repeat' (first | exact LeL.nil | exact LeD.refl _ | exact LeD.nil _ | exact LeD.strip _ _ _ | refine LeL.cons ?_ ?_ | refine LeD.tup ?_ | refine LeD.agg ?_)))
  all_goals first | exact LeD.ff rfl | skip
 have hR : qH m most = y7 most.toNat m := by unfold qH; rw [if_neg (by omega)]
 refine ze ziL m ⟨hm.len, hm.syms, by omega⟩ (VS.mk (LeL.of_eq rfl)) ?_
 (all_goals refine qgv (Lf.mk ?_))
 refine z8 (α := Nat × zM) (fun p => (p.1 : Int) ≤ most ∧ InM (3 * p.1) p.2 ∧ y7 (most.toNat - p.1) p.2 = y7 most.toNat m)
  (fun p => [(19, .int .i64 most), (20, .int .i64 p.1), (6, .loc 2 0), (4, .loc 1 0)])
  (fun p => [.cells (w7 m), .cells zw6, .cells (w7 p.2)]) (fun p => most.toNat - p.1) (fun _ => by simp [hE]) (0, m) ⟨by omega, hm, by rw [Nat.sub_zero]⟩ ?_ ?_
 ·(repeat' (first | (refine VS.mk ?_) | exact trivial | exact rfl | refine And.intro ?_ ?_))
 rintro ⟨k, x⟩ ⟨hk, hx, hrun⟩
 dsimp only at hk hx hrun
 refine zf _ ?_
 (all_goals refine qgv ?_ <;> (repeat' first | exact trivial | intro hc | refine And.intro ?_ ?_) <;> refine Lf.mk ?_)
 ·refine ze zqA x (hx.mono (by omega)) (VS.mk (LeL.of_eq rfl)) ?_
  have hin := ztT hx
  obtain ⟨y, en, e, hy⟩ : ∃ y en e, xt x = (y, en, e) := ⟨_, _, _, rfl⟩
  have hst : y7 (most.toNat - k) x = if e ≠ 0 then (wm, e) else if en = true then (y, 0) else y7 (most.toNat - (k + 1)) y := by
   rw [show most.toNat - k = (most.toNat - (k + 1)) + 1 by omega, y7, hy]
  rw [hy] at hin
  unfold wS
  rw [hy]
  dsimp only at hin ⊢
  (all_goals refine qgv ?_ <;> (repeat' first | exact trivial | intro hc | refine And.intro ?_ ?_) <;> refine Lf.mk ?_)
  ·rw [if_pos hc] at hst
   refine zb (VS.mk ?_)
   (try dsimp only); rw [hR, ← hrun, hst]
   (first | exact LeL.refl _ | (repeat' (first | exact LeL.nil | exact LeD.refl _ | exact LeD.nil _ | exact LeD.strip _ _ _ | refine LeL.cons ?_ ?_ | refine LeD.tup ?_ | refine LeD.agg ?_)))
   all_goals first | exact LeD.ff rfl | skip
  ·rw [if_neg (by omega), if_pos hc] at hst
   refine zb (VS.mk ?_)
   (try dsimp only); rw [hR, ← hrun, hst]
   (first | exact LeL.refl _ | (repeat' (first | exact LeL.nil | exact LeD.refl _ | exact LeD.nil _ | exact LeD.strip _ _ _ | refine LeL.cons ?_ ?_ | refine LeD.tup ?_ | refine LeD.agg ?_)))
  ·rw [if_neg (by omega), if_neg (by rw [hc]; decide)] at hst
   refine zC (k + 1, y) ⟨by dsimp only; omega, by dsimp only; exact (hin (by assumption)).mono (by omega), by dsimp only; rw [← hst, hrun]⟩ (by dsimp only; omega) ?_
   (repeat' (first | (refine VS.mk ?_) | exact trivial | exact rfl | refine And.intro ?_ ?_))
 ·have hst : y7 (most.toNat - k) x = (wm, 13) := by rw [show most.toNat - k = 0 by omega]; rfl
  refine zb (VS.mk ?_)
  (try dsimp only); rw [hR, ← hrun, hst]
  (first | exact LeL.refl _ | (repeat' (first | exact LeL.nil | exact LeD.refl _ | exact LeD.nil _ | exact LeD.strip _ _ _ | refine LeL.cons ?_ ?_ | refine LeD.tup ?_ | refine LeD.agg ?_)))
  all_goals first | exact LeD.ff rfl | skip
end Go.Proofs.YthmdddenbfbefaaGreatDoor
