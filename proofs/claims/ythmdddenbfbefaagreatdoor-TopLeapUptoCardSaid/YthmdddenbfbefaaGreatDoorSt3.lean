/-
  A part of the proof: what the given program's functions answer, each once; conditions that are enough for it.
-/
import Derived.Test.YthmdddenbfbefaaGreatDoorSt2
import Derived.Test.YthmdddenbfbefaaGreatDoorFw3
import Derived.Test.YthmdddenbfbefaaGreatDoorSt1
namespace Go.Proofs.YthmdddenbfbefaaGreatDoor
open Go Go.Plat
set_option linter.unusedVariables false
set_option linter.unusedSimpArgs false
set_option maxRecDepth 100000
set_option maxHeartbeats 2000000
attribute [local irreducible] AWP zC yg zJ zo yw z8 zH z1 Lib.itoa z6 zt za zP yx zp z7 zh.kids zh.kind zh.n zh.name yt yu yi yk zw zx xw xK zy yI xb xk w6 wv y6 xU yL yr y0 xJ xv wR y7 w9 zM zO w8 zU
def eC (q : List zl) (b : Bld) (o : Out) : List D := [.sl 2 (q.map wj) none, .osl 13 1 b.items.length 0 b.items.length, .osl 2 2 b.syms.length 0 b.syms.length, .sl 1 (b.marks.map (.int .i64)) (some 3),
 .osl 1 4 (zK b).length 0 (zK b).length, .int .i64 b.shut.length, .sl 1 (o.code.map zE) (some 6), .nilsl, .sl 4 (o.rels.map zbE) (some 5), .int .i64 o.fe, .int .i64 o.fa]
def eT (b : Bld) (o : Out) : List Ob := [.arr 13 (b.items.map xp), .arr 2 (b.syms.map yJ), .spare b.marks.length, .arr 1 (b.shut.map xd), .spare o.rels.length, .spare o.code.length]
def eO (q : List zl) (b : Bld) (o : Out) : List Ob := .cells (eC q b o) :: eT b o
theorem zhP {n : Nat} (l : List (List zr)) : ∀ d ∈ l.map xd, ClL n d.cells := by
 intro d hd
 obtain ⟨x, _, rfl⟩ := List.mem_map.1 hd
 exact .cons .sl .nil
theorem va (q : List zl) (b : Bld) (o : Out) : ∀ x ∈ eO q b o, ClO 7 x := by
 intro x hx
 simp only [eO, eT, List.mem_cons, List.not_mem_nil, or_false] at hx
 rcases hx with rfl | rfl | rfl | rfl | rfl | rfl | rfl
 ·exact .cells (.cons .sl (.cons (.osl (by decide)) (.cons (.osl (by decide)) (.cons (.tok (by decide)) (.cons (.osl (by decide)) (.cons .int (.cons (.tok (by decide)) (.cons .nilsl (.cons (.tok (by decide)) (.cons .int (.cons .int .nil)))))))))))
 ·exact .arr (kC _)
 ·exact .arr (jK _)
 ·exact .spare
 ·exact .arr (zhP _)
 ·exact .spare
 ·exact .spare
theorem x6 {n0 : Nat} {q : List zl} {b : Bld} {o o' : Out} {r d : D} {L : List Ob} (X : List Ob) (hL : L = eO q b o' ++ X) (ho : o' = o) (hr : r = d) (hn : n0 ≤ 7) (hd : ClD 7 d) : zH n0 r d L (eO q b o) := by
 subst ho; subst hr
 exact qZ (eO q b o') X hL hn hd (va _ _ _)
theorem zpC (q : List zl) (b : Bld) (o : Out) (e line : Int) : Ob.cells [.sl 2 (q.map wj) none, .osl 13 1 b.items.length 0 b.items.length, .osl 2 2 b.syms.length 0 b.syms.length, .sl 1 (b.marks.map (.int .i64)) (some 3),
  .osl 1 4 (zK b).length 0 (zK b).length, .int .i64 b.shut.length, .sl 1 (o.code.map zE) (some 6), .nilsl, .sl 4 (o.rels.map zbE) (some 5), .int .i64 (if o.fe = 0 then e else o.fe), .int .i64 (if o.fe = 0 then line else o.fa)] :: eT b o = eO q b (vQ o e line) := by
 unfold vQ
 by_cases h : o.fe = 0
 ·rw [if_pos h, if_pos h, if_pos h]; rfl
 ·rw [if_neg h, if_neg h, if_neg h]; rfl
theorem zac {av : List D} {L : List Ob} {KP : D → Prop} {KW : D → List Ob → Prop} (q : List zl) (b : Bld) (o : Out) (e line : Int) (X : List Ob) (hL : L = eO q b o ++ X) (has : av = [.loc 0 0, .int .i64 e, .int .i64 line])
  (hK : KW .ff (eO q b (vQ o e line) ++ X)) : zo Tryz.prog qb av L KP KW := by
 subst has
 refine xr zg8 X ((.sl 2 (q.map wj) none, .osl 13 1 b.items.length 0 b.items.length, .osl 2 2 b.syms.length 0 b.syms.length, .sl 1 (b.marks.map (.int .i64)) (some 3),
  .osl 1 4 (zK b).length 0 (zK b).length, .int .i64 b.shut.length, .sl 1 (o.code.map zE) (some 6), .nilsl, .sl 4 (o.rels.map zbE) (some 5)), o.fe, o.fa, e, line, eT b o) trivial hL (LeL.refl _) rfl ?_ .ff (va q b o) ?_ ?_
 ·exact .cons (.loc (Nat.lt_of_lt_of_le (by decide : 0 < 7) (Nat.le_of_eq rfl))) (.cons .int (.cons .int .nil))
 ·dsimp only
  rw [zpC]
  exact va q b _
 ·dsimp only
  rw [zpC]
  exact hK
theorem zqV : za Tryz.prog zbi (ya (fun ((_, o, _, _, _) : Bld × Out × Ins × Int × List zl) => o.code.length ≤ 1000000000) (fun (_, _, i, line, _) => [.loc 0 0, jv i, .int .i64 line])
  (fun (b, o, _, _, q) => eO q b o) (fun _ => .tup []) fun (b, o, i, line, q) => eO q b (xE o i line)) := by
 refine zf zj Tryz.func75 rfl (by decide) ?_
 rintro ⟨b, o, i, line, q⟩ hl
 have hl : o.code.length ≤ 1000000000 := hl
 refine ⟨Nat.le_refl _, by simp [Tryz.f75], fun E hE => ?_⟩
 show AWP _ _ _ _ (vS _ _ _ _ (eO q b (xE o i line))) _ (eO q b o)
 have hH : xE o i line = if zU i = 0 then ⟨o.code ++ [yq (yI i / 256), yq (yI i)], o.rels, o.fe, o.fa⟩ else vQ o (zU i) line := rfl
 generalize xE o i line = H at *
 refine ze _ ?_
 (all_goals refine qgp (Lf.mk ?_))
 refine zb znd i trivial (VS.mk (LeL.of_eq rfl)) ?_
 generalize zU i = W at *
 (all_goals refine qgp ?_ <;> (repeat' first | exact trivial | intro hc | refine And.intro ?_ ?_) <;> refine Lf.mk ?_)
 ·rw [if_neg hc] at hH
  refine zac q b o W line [_] rfl rfl ?_
  rw [← hH]
  (all_goals refine qgp (Lf.mk ?_))
  exact x6 [_] rfl rfl rfl (Nat.le_of_eq rfl) .tup0
 ·rw [if_pos hc] at hH
  subst hH
  have he : (if W = 0 then yI i else 0) = yI i := if_pos hc
  simp only [he]
  exact x6 (o' := ⟨o.code ++ [yq (yI i / 256), yq (yI i)], o.rels, o.fe, o.fa⟩) [_] rfl rfl rfl (Nat.le_of_eq rfl) .tup0
theorem zpD {n : Nat} (i : Ins) : ClD n (jv i) := .agg (.cons .int (.cons .int (.cons .int (.cons .int .nil))))
theorem zdb {av : List D} {L : List Ob} {KP : D → Prop} {KW : D → List Ob → Prop} (q : List zl) (b : Bld) (o : Out) (i : Ins) (line : Int) (X : List Ob) (hl : o.code.length ≤ 1000000000) (hL : L = eO q b o ++ X) (has : LeL av [.loc 0 0, jv i, .int .i64 line])
  (hK : KW (.tup []) (eO q b (xE o i line) ++ X)) : zo Tryz.prog zbi av L KP KW := by
 refine zdJ has ?_
 exact xr zqV X (b, o, i, line, q) hl hL (LeL.refl _) rfl (.cons (.loc (Nat.lt_of_lt_of_le (by decide : 0 < 7) (Nat.le_of_eq rfl))) (.cons (zpD i) (.cons .int .nil))) .tup0 (va _ _ _) (va _ _ _) hK
theorem zcz (o : Out) (i : Ins) (line : Int) : (xE o i line).code.length ≤ o.code.length + 2 := by
 unfold xE vQ
 repeat' split
 all_goals simp
theorem zcA (o : Out) (i : Ins) (a to line : Int) : (xL o i a to line).code.length ≤ o.code.length + 2 := by
 unfold xL
 split
 ·exact zcz _ _ _
 ·unfold vQ; split <;> simp
attribute [local irreducible] xE
theorem zqW : za Tryz.prog zbj (ya (fun ((_, o, _, a, _, _, _) : Bld × Out × Ins × Int × Int × Int × List zl) => o.code.length ≤ 1000000000 ∧ 0 ≤ a ∧ a ≤ 1000000000000000) (fun (_, _, i, a, to, line, _) => [.loc 0 0, jv i, .int .i64 a, .int .i64 to, .int .i64 line])
  (fun (b, o, _, _, _, _, q) => eO q b o) (fun _ => .tup []) fun (b, o, i, a, to, line, q) => eO q b (xL o i a to line)) := by
 refine zf zj Tryz.func78 rfl (by decide) ?_
 rintro ⟨b, o, i, a, to, line, q⟩ ⟨hl, h0, h1⟩
 have hl : o.code.length ≤ 1000000000 := hl
 refine ⟨Nat.le_refl _, by simp [Tryz.f78], fun E hE => ?_⟩
 show AWP _ _ _ _ (vS _ _ _ _ (eO q b (xL o i a to line))) _ (eO q b o)
 have hH : xL o i a to line = if (xK i.op a to).2 = 0 then xE o ⟨i.op, i.n, i.m, (xK i.op a to).1⟩ line else vQ o (xK i.op a to).2 line := rfl
 generalize xL o i a to line = H at *
 refine ze _ ?_
 (all_goals refine qgp (Lf.mk ?_))
 refine zb zi1 (i.op, a, to) ⟨h0, h1⟩ (VS.mk (LeL.of_eq rfl)) ?_
 dsimp only
 generalize xK i.op a to = W at *
 (all_goals refine qgp ?_ <;> (repeat' first | exact trivial | intro hc | refine And.intro ?_ ?_) <;> refine Lf.mk ?_)
 ·rw [if_neg hc] at hH
  refine zac q b o W.2 line [_] rfl rfl ?_
  rw [← hH]
  (all_goals refine qgp (Lf.mk ?_))
  exact x6 [_] rfl rfl rfl (Nat.le_of_eq rfl) .tup0
 ·rw [if_pos hc] at hH
  refine zdb q b o ⟨i.op, i.n, i.m, W.1⟩ line [_] hl rfl (LeL.of_eq rfl) ?_
  rw [← hH]
  (all_goals refine qgp (Lf.mk ?_))
  exact x6 [_] rfl rfl rfl (Nat.le_of_eq rfl) .tup0
theorem zdc {av : List D} {L : List Ob} {KP : D → Prop} {KW : D → List Ob → Prop} (q : List zl) (b : Bld) (o : Out) (i : Ins) (a to line : Int) (X : List Ob) (hl : o.code.length ≤ 1000000000) (h0 : 0 ≤ a) (h1 : a ≤ 1000000000000000) (hL : L = eO q b o ++ X)
  (has : LeL av [.loc 0 0, jv i, .int .i64 a, .int .i64 to, .int .i64 line]) (hK : KW (.tup []) (eO q b (xL o i a to line) ++ X)) : zo Tryz.prog zbj av L KP KW := by
 refine zdJ has ?_
 exact xr zqW X (b, o, i, a, to, line, q) ⟨hl, h0, h1⟩ hL (LeL.refl _) rfl (.cons (.loc (Nat.lt_of_lt_of_le (by decide : 0 < 7) (Nat.le_of_eq rfl))) (.cons (zpD i) (.cons .int (.cons .int (.cons .int .nil))))) .tup0 (va _ _ _) (va _ _ _) hK
attribute [local irreducible] xL
theorem zqX : za Tryz.prog zbk (ya (fun ((b, o, k, x, _, _) : Bld × Out × Nat × zn × Int × List zl) => o.code.length ≤ 900000000 ∧ b.items[k]? = some x ∧ 0 ≤ x.at_ ∧ x.at_ ≤ 100000000000000) (fun (b, _, k, _, to, _) => [.loc 0 0, .aloc 1 b.items.length k 0, .int .i64 to])
  (fun (b, o, _, _, _, q) => eO q b o) (fun _ => .tup []) fun (b, o, _, x, to, q) => eO q b (qf o x to)) := by
 refine zf zj Tryz.func79 rfl (by decide) ?_
 rintro ⟨b, o, k, x, to, q⟩ ⟨hl, hx, h0, h1⟩
 have hl : o.code.length ≤ 900000000 := hl
 have hx : b.items[k]? = some x := hx
 have h0 : 0 ≤ x.at_ := h0
 have h1 : x.at_ ≤ 100000000000000 := h1
 have hxn : b.items[((k : Nat) : Int).toNat]? = some x := by rw [Int.toNat_natCast]; exact hx
 refine ⟨Nat.le_refl _, by simp [Tryz.f79], fun E hE => ?_⟩
 show AWP _ _ _ _ (vS _ _ _ _ (eO q b (qf o x to))) _ (eO q b o)
 have hH : qf o x to = if x.long = false then xL o x.ins x.at_ to x.line else xE (xL (xE o ⟨w64 (35 - x.ins.op), 0, 0, 1⟩ x.line) ⟨19, 0, 0, 0⟩ (x.at_ + 2) to x.line) ⟨1, 0, 0, 0⟩ x.line := rfl
 generalize qf o x to = H at *
 have hl1 := zcz o ⟨w64 (35 - x.ins.op), 0, 0, 1⟩ x.line
 have hl2 := zcA (xE o ⟨w64 (35 - x.ins.op), 0, 0, 1⟩ x.line) ⟨19, 0, 0, 0⟩ (x.at_ + 2) to x.line
 refine ze _ ?_
 (all_goals refine qgp (Lf.mk ?_))
 refine zk x (Int.natCast_nonneg k) hxn ?_
 (all_goals refine qgp ?_ <;> (repeat' first | exact trivial | intro hc | refine And.intro ?_ ?_) <;> refine Lf.mk ?_)
 ·rw [if_pos hc] at hH
  refine zk x (Int.natCast_nonneg k) hxn ?_
  (all_goals refine qgp (Lf.mk ?_))
  refine zk x (Int.natCast_nonneg k) hxn ?_
  (all_goals refine qgp (Lf.mk ?_))
  refine zk x (Int.natCast_nonneg k) hxn ?_
  (all_goals refine qgp (Lf.mk ?_))
  refine zdc q b o x.ins x.at_ to x.line [] (by omega) h0 (by omega) rfl (LeL.of_eq rfl) ?_
  rw [← hH]
  (all_goals refine qgp (Lf.mk ?_))
  exact x6 [] rfl rfl rfl (Nat.le_of_eq rfl) .tup0
 ·rw [if_neg (by rw [hc]; decide)] at hH
  refine zk x (Int.natCast_nonneg k) hxn ?_
  (all_goals refine qgp (Lf.mk ?_))
  refine znE ?_
  (all_goals refine qgp (Lf.mk ?_))
  refine zk x (Int.natCast_nonneg k) hxn ?_
  (all_goals refine qgp (Lf.mk ?_))
  refine zdb q b o ⟨w64 (35 - x.ins.op), 0, 0, 1⟩ x.line [_] (by omega) rfl (LeL.of_eq rfl) ?_
  generalize xE o ⟨w64 (35 - x.ins.op), 0, 0, 1⟩ x.line = o1 at *
  (all_goals refine qgp (Lf.mk ?_))
  refine zk x (Int.natCast_nonneg k) hxn ?_
  (all_goals refine qgp (Lf.mk ?_))
  refine zk x (Int.natCast_nonneg k) hxn ?_
  (all_goals refine qgp (Lf.mk ?_))
  refine zdc q b o1 ⟨19, 0, 0, 0⟩ (x.at_ + 2) to x.line [_] (by omega) (by omega) (by omega) rfl (LeL.of_eq rfl) ?_
  generalize xL o1 ⟨19, 0, 0, 0⟩ (x.at_ + 2) to x.line = o2 at *
  (all_goals refine qgp (Lf.mk ?_))
  refine zk x (Int.natCast_nonneg k) hxn ?_
  (all_goals refine qgp (Lf.mk ?_))
  refine zdb q b o2 ⟨1, 0, 0, 0⟩ x.line [_] (by omega) rfl (LeL.of_eq rfl) ?_
  rw [← hH]
  (all_goals refine qgp (Lf.mk ?_))
  exact x6 [_] rfl rfl rfl (Nat.le_of_eq rfl) .tup0
end Go.Proofs.YthmdddenbfbefaaGreatDoor
namespace Go.Proofs.YthmdddenbfbefaaGreatDoor
open Go Go.Plat
set_option linter.unusedVariables false
set_option linter.unusedSimpArgs false
set_option maxRecDepth 100000
set_option maxHeartbeats 2000000
attribute [local irreducible] AWP zC yg zJ zo yw z8 zH z1 Lib.itoa z6 zt za zP yx zp z7 zh.kids zh.kind zh.n zh.name yt yu yi yk zw zx xw xK zy yI xb xk w6 wv y6 xU yL yr y0 xJ xv wR zg y7 w9 zM w8 zU
theorem znG {av : List D} {L : List Ob} {KP : D → Prop} {KW : D → List Ob → Prop} (q : List zl) (b : Bld) (o : Out) (v : zr) (X : List Ob) (hl : b.syms.length ≤ 1000000) (hL : L = eO q b o ++ X) (has : av = [.loc 0 0, yH v])
  (hK : KW (.tup [.int .i64 (zO b.syms v).1, .int .i64 (zO b.syms v).2]) (eO q b o ++ X)) : zo Tryz.prog vl av L KP KW := by
 subst has
 have hm : za Tryz.prog vl (ya (fun ((b, _, _, _) : Bld × Out × zr × List zl) => b.syms.length ≤ 1000000) (fun (_, _, v, _) => [.loc 0 0, yH v])
   (fun (b, o, _, q) => eO q b o) (fun (b, _, v, _) => .tup [.int .i64 (zO b.syms v).1, .int .i64 (zO b.syms v).2]) fun (b, o, _, q) => eO q b o) := by
  clear hK hL hl
  refine zf zj Tryz.func70 rfl (by decide) ?_
  rintro ⟨b, o, v, q⟩ hl
  have hl : b.syms.length ≤ 1000000 := hl
  refine ⟨Nat.le_refl _, by simp [Tryz.f70], fun E hE => ?_⟩
  show AWP _ _ _ _ (vS _ _ _ (.tup [.int .i64 (zO b.syms v).1, .int .i64 (zO b.syms v).2]) (eO q b o)) _ (eO q b o)
  have hT : zO b.syms v = if v.name = [] then (0, 8) else if zfU v.name b.syms 0 < 0 then (0, 6) else (w64 ((zcu b.syms (zfU v.name b.syms 0)).at_ + v.n), 0) := rfl
  generalize zO b.syms v = T at *
  refine ze _ ?_
  (all_goals refine qgp ?_ <;> (repeat' first | exact trivial | intro hc | refine And.intro ?_ ?_) <;> refine Lf.mk ?_)
  ·rw [if_pos hc] at hT
   subst hT
   exact x6 [_] rfl rfl rfl (Nat.le_of_eq rfl) (.tup (.cons .int (.cons .int .nil)))
  rw [if_neg hc] at hT
  refine zhN qm [.loc 7 0] (fun s => s.name == v.name) b.syms (.cells (eC q b o)) (.arr 13 (b.items.map xp)) [.spare b.marks.length, .arr 1 (b.shut.map xd), .spare o.rels.length, .spare o.code.length, .cells [.str v.name, .int .i64 v.n]] (by omega) rfl rfl
   (fun s hs KP KW hK => ?_) ?_
  ·exact zY zeS [7] [7] (s, v) trivial rfl rfl ⟨VS.mk (LeL.refl _), VS.mk rfl, hK⟩
  have hp := zbT (fun s : zu => s.name == v.name) b.syms 0
  have hT : T = if xF (fun s : zu => s.name == v.name) b.syms 0 < 0 then (0, 6) else (w64 ((zcu b.syms (xF (fun s : zu => s.name == v.name) b.syms 0)).at_ + v.n), 0) := hT
  generalize xF (fun s : zu => s.name == v.name) b.syms 0 = p at *
  (all_goals refine qgp ?_ <;> (repeat' first | exact trivial | intro hc | refine And.intro ?_ ?_) <;> refine Lf.mk ?_)
  ·rw [if_pos hc] at hT
   subst hT
   exact x6 [_] rfl rfl rfl (Nat.le_of_eq rfl) (.tup (.cons .int (.cons .int .nil)))
  have hpl : p.toNat < b.syms.length := by
   rcases hp with h | ⟨j, h1, h2⟩
   ·omega
   ·rw [h2, Int.toNat_natCast, Nat.zero_add]; exact h1
  have hs : b.syms[p.toNat]? = some (zcu b.syms p) := by unfold zcu; rw [List.getElem?_eq_getElem hpl]; rfl
  rw [if_neg hc] at hT
  refine zk (zcu b.syms p) (Int.natCast_nonneg _) (by rw [Int.toNat_natCast, Nat.zero_add]; exact hs) ?_
  (all_goals refine qgp (Lf.mk ?_))
  refine znE ?_
  (all_goals refine qgp (Lf.mk ?_))
  subst hT
  exact x6 [_] rfl rfl rfl (Nat.le_of_eq rfl) (.tup (.cons .int (.cons .int .nil)))
 exact xr hm X (b, o, v, q) hl hL (LeL.refl _) rfl (.cons (.loc (Nat.lt_of_lt_of_le (by decide : 0 < 7) (Nat.le_of_eq rfl))) (.cons (zaC v) .nil)) (.tup (.cons .int (.cons .int .nil))) (va _ _ _) (va _ _ _) hK
attribute [local irreducible] zO
theorem zdd (syms : List zu) (o : Out) (v : zr) (size : Nat) : (wg syms o v size).code.length = o.code.length + size := by
 unfold wg
 split
 ·dsimp only
  rw [zcs]
  simp
 ·simp
theorem zoT : za Tryz.prog zbg (ya (fun ((b, o, _, size, _) : Bld × Out × zr × Nat × List zl) => b.syms.length ≤ 1000000 ∧ o.code.length ≤ 500000000 ∧ o.rels.length ≤ 500000000 ∧ 0 < size ∧ size ≤ 4) (fun (_, _, v, size, _) => [.loc 0 0, yH v, .int .i64 size])
  (fun (b, o, _, _, q) => eO q b o) (fun _ => .tup []) fun (b, o, v, size, q) => eO q b (wg b.syms o v size)) := by
 refine zvv 6 zj Tryz.func72 rfl (by decide) ?_
 rintro ⟨b, o, v, size, q⟩ ⟨hs, hl, hr, h0, h4⟩
 have hs : b.syms.length ≤ 1000000 := hs
 have hl : o.code.length ≤ 500000000 := hl
 have hr : o.rels.length ≤ 500000000 := hr
 have h0 : 0 < size := h0
 have h4 : size ≤ 4 := h4
 have hlen := zdd b.syms o v size
 refine ⟨Nat.le_succ 6, ?_, Nat.le_refl _, by simp [Tryz.f72], fun E hE => ?_⟩
 ·intro k hk hk2
  obtain rfl : k = 6 := by
   have : k < 7 := hk2
   omega
  exact ⟨_, _, rfl, rfl, by rw [hlen]; omega⟩
 show AWP _ _ _ _ (vS _ _ _ _ (eO q b (wg b.syms o v size))) _ (eO q b o)
 have hW : wg b.syms o v size = if v.name = [] then ⟨xv (o.code ++ List.replicate size 0) o.code.length size v.n, o.rels, o.fe, o.fa⟩
  else ⟨o.code ++ List.replicate size 0, o.rels ++ [zhM b.syms o.code.length size v], o.fe, o.fa⟩ := rfl
 generalize wg b.syms o v size = W at *
 refine ze _ ?_
 (all_goals refine qgk (Lf.mk ?_))
 refine w4 ((o.code ++ List.replicate size 0).map zE) (by rw [List.map_append, List.map_replicate]; rfl) ?_
 have hcl : (o.code ++ List.replicate size 0).length = o.code.length + size := by simp
 rw [List.length_map]
 (all_goals refine qgk ?_ <;> (repeat' first | exact trivial | intro hc | refine And.intro ?_ ?_) <;> refine Lf.mk ?_)
 ·rw [if_pos hc] at hW
  refine zY zc7 [] [8] (o.code ++ List.replicate size 0, o.code.length, size, v.n) ⟨by show -1000000000000 ≤ ((o.code.length : Nat) : Int); omega, by show ((o.code.length : Nat) : Int) ≤ _; omega, by show size ≤ _; omega, by show (o.code ++ List.replicate size 0).length ≤ _; omega⟩ rfl rfl ?_
  refine And.intro (VS.mk (LeL.of_eq rfl)) (And.intro (VS.mk rfl) ?_)
  (all_goals refine qgk (Lf.mk ?_))
  have key : ∀ k, k < 6 → zD [0, 1, 2, 3, 4, 5, 8] 0 k = some k := by decide
  subst hW
  have hpl := zcs o.code.length size (o.code ++ List.replicate size 0) v.n
  refine zfC [0, 1, 2, 3, 4, 5, 8] rfl rfl ?_ (ClD.tup0 (n := 6) _ key)
  refine .cons (o := .cells [.sl 2 (q.map wj) none, .osl 13 1 b.items.length 0 b.items.length, .osl 2 2 b.syms.length 0 b.syms.length, .sl 1 (b.marks.map (.int .i64)) (some 3), .osl 1 4 (zK b).length 0 (zK b).length, .int .i64 b.shut.length,
   .sl 1 ((xv (o.code ++ List.replicate size 0) o.code.length size v.n).map zE) (some 8), .nilsl, .sl 4 (o.rels.map zbE) (some 5), .int .i64 o.fe, .int .i64 o.fa]) rfl
   ⟨_, rfl, .cons (ClD.sl (n := 6) _ key) (.cons (ClD.osl (n := 6) (by decide) _ key) (.cons (ClD.osl (n := 6) (by decide) _ key) (.cons (ClD.tok (n := 6) (by decide) _ key) (.cons (ClD.osl (n := 6) (by decide) _ key) (.cons (ClD.int (n := 6) _ key)
     (.cons (.tok rfl) (.cons (ClD.nilsl (n := 6) _ key) (.cons (ClD.tok (n := 6) (by decide) _ key) (.cons (ClD.int (n := 6) _ key) (.cons (ClD.int (n := 6) _ key) .nil))))))))))⟩
   (.cons (o := .arr 13 (b.items.map xp)) rfl (ClO.arr (n := 6) (kC _) _ key) (.cons (o := .arr 2 (b.syms.map yJ)) rfl (ClO.arr (n := 6) (jK _) _ key) (.cons (o := .spare b.marks.length) rfl rfl
   (.cons (o := .arr 1 (b.shut.map xd)) rfl (ClO.arr (n := 6) (zhP _) _ key) (.cons (o := .spare o.rels.length) rfl rfl (.cons (o := .spare (o.code ++ List.replicate size 0).length) rfl (by rw [hpl]; rfl) .nil))))))
 ·rw [if_neg hc] at hW
  refine znG q b ⟨o.code ++ List.replicate size 0, o.rels, o.fe, o.fa⟩ v [_, _] hs rfl rfl ?_
  have hR : zhM b.syms o.code.length size v = if (zO b.syms v).2 = 0 then ⟨o.code.length, size, [], zg (zO b.syms v).1 32⟩ else ⟨o.code.length, size, v.name, v.n⟩ := rfl
  generalize zO b.syms v = T at *
  (all_goals refine qgk ?_ <;> (repeat' first | exact trivial | intro hc | refine And.intro ?_ ?_) <;> refine Lf.mk ?_)
  ·rw [if_pos hc] at hR
   refine zb yp T.1 trivial (VS.mk (LeL.of_eq rfl)) ?_
   (all_goals refine qgk (Lf.mk ?_))
   refine w4 ((o.rels ++ [zhM b.syms o.code.length size v]).map zbE) (by rw [hR, List.map_append]; rfl) ?_
   rw [List.length_map]
   (all_goals refine qgk (Lf.mk ?_))
   subst hW
   exact x6 (o' := ⟨o.code ++ List.replicate size 0, o.rels ++ [zhM b.syms o.code.length size v], o.fe, o.fa⟩) [_, _] rfl rfl rfl (by decide) .tup0
  ·rw [if_neg hc] at hR
   refine w4 ((o.rels ++ [zhM b.syms o.code.length size v]).map zbE) (by rw [hR, List.map_append]; rfl) ?_
   rw [List.length_map]
   (all_goals refine qgk (Lf.mk ?_))
   subst hW
   exact x6 (o' := ⟨o.code ++ List.replicate size 0, o.rels ++ [zhM b.syms o.code.length size v], o.fe, o.fa⟩) [_, _] rfl rfl rfl (by decide) .tup0
attribute [local irreducible] xE xL qf
theorem zqY {o : Out} {to : Int} (h : to ≤ o.code.length) : wy o to = o := by
 unfold wy
 rw [show (to - (o.code.length : Int)).toNat = 0 by omega]
 simp
theorem zqZ {o : Out} {to : Int} (h : (o.code.length : Int) < to) : wy ⟨o.code ++ [0], o.rels, o.fe, o.fa⟩ to = wy o to := by
 unfold wy
 have : (to - (o.code.length : Int)).toNat = (to - ((o.code ++ [0]).length : Int)).toNat + 1 := by simp; omega
 rw [this, List.replicate_succ]
 simp
theorem zv8 {o : Out} {to : Int} {m : Nat} (h1 : o.code.length ≤ m) (h2 : to ≤ m) : (wy o to).code.length ≤ m := by
 unfold wy
 simp only [List.length_append, List.length_replicate]
 omega
theorem zfZ (o : Out) (to : Int) : (wy o to).rels = o.rels := by unfold wy; rfl
theorem zf0 (syms : List zu) (o : Out) (v : zr) (size : Nat) : (wg syms o v size).rels.length ≤ o.rels.length + 1 := by
 unfold wg
 split
 ·exact Nat.le_succ _
 ·simp
theorem zoU : za Tryz.prog zbh (ya (fun ((_, o, to, _) : Bld × Out × Int × List zl) => o.code.length ≤ 1000000000 ∧ to ≤ 1000000000) (fun (_, _, to, _) => [.loc 0 0, .int .i64 to])
  (fun (b, o, _, q) => eO q b o) (fun _ => .tup []) fun (b, o, to, q) => eO q b (wy o to)) := by
 refine zf zj Tryz.func73 rfl (by decide) ?_
 rintro ⟨b, o, to, q⟩ ⟨hl, ht⟩
 have hl : o.code.length ≤ 1000000000 := hl
 have ht : to ≤ 1000000000 := ht
 refine ⟨Nat.le_refl _, by simp [Tryz.f73], fun E hE => ?_⟩
 have hE7 : E.L.length = 7 := by rw [hE]; rfl
 show AWP _ _ _ _ (vS _ _ _ _ (eO q b (wy o to))) _ (eO q b o)
 generalize hF : wy o to = F
 refine ze _ ?_
 (all_goals refine qgp (Lf.mk ?_))
 refine y5 (α := Out) (fun p => wy p to = F ∧ p.code.length ≤ 1000000000) (fun _ => [(0, .loc 0 0), (1, .int .i64 to)]) (fun p => eO q b p) (fun p => (to - (p.code.length : Int)).toNat) (fun _ => by rw [hE7]; exact Nat.le_refl 7) o ⟨hF, hl⟩ ?_ ?_
 ·exact yv rfl ⟨rfl, rfl, trivial⟩
 rintro p ⟨i1, i2⟩
 refine ze _ ?_
 (all_goals refine qgk ?_ <;> (repeat' first | exact trivial | intro hc | refine And.intro ?_ ?_) <;> refine Lf.mk ?_)
 ·refine w4 ((p.code ++ [0]).map zE) (by rw [List.map_append]; rfl) ?_
  rw [List.length_map]
  (all_goals refine qgk (Lf.mk ?_))
  exact yP (⟨p.code ++ [0], p.rels, p.fe, p.fa⟩ : Out) ⟨by rw [zqZ hc]; exact i1, by show (p.code ++ [0]).length ≤ _; simp; omega⟩ (by show (to - ((p.code ++ [0]).length : Int)).toNat < _; simp; omega) rfl ⟨rfl, rfl, trivial⟩
 ·rw [zqY (by omega)] at i1
  subst i1
  exact xx rfl rfl
theorem zkL {av : List D} {L : List Ob} {KP : D → Prop} {KW : D → List Ob → Prop} (q : List zl) (b : Bld) (o : Out) (to : Int) (X : List Ob) (hl : o.code.length ≤ 1000000000) (ht : to ≤ 1000000000) (hL : L = eO q b o ++ X) (has : av = [.loc 0 0, .int .i64 to])
  (hK : KW (.tup []) (eO q b (wy o to) ++ X)) : zo Tryz.prog zbh av L KP KW := by
 subst has
 exact xr zoU X (b, o, to, q) ⟨hl, ht⟩ hL (LeL.refl _) rfl (.cons (.loc (Nat.lt_of_lt_of_le (by decide : 0 < 7) (Nat.le_of_eq rfl))) (.cons .int .nil)) .tup0 (va _ _ _) (va _ _ _) hK
theorem zkM {av : List D} {L : List Ob} {KP : D → Prop} {KW : D → List Ob → Prop} (q : List zl) (b : Bld) (o : Out) (v : zr) (size : Nat) (X : List Ob) (hs : b.syms.length ≤ 1000000) (hl : o.code.length ≤ 500000000) (hr : o.rels.length ≤ 500000000) (h0 : 0 < size) (h4 : size ≤ 4) (hL : L = eO q b o ++ X)
  (has : LeL av [.loc 0 0, yH v, .int .i64 size]) (hK : KW (.tup []) (eO q b (wg b.syms o v size) ++ X)) : zo Tryz.prog zbg av L KP KW := by
 refine zdJ has ?_
 exact xr zoT X (b, o, v, size, q) ⟨hs, hl, hr, h0, h4⟩ hL (LeL.refl _) rfl (.cons (.loc (Nat.lt_of_lt_of_le (by decide : 0 < 7) (Nat.le_of_eq rfl))) (.cons (zaC v) (.cons .int .nil))) .tup0 (va _ _ _) (va _ _ _) hK
theorem zsE {av : List D} {L : List Ob} {KP : D → Prop} {KW : D → List Ob → Prop} (q : List zl) (b : Bld) (o : Out) (k : Nat) (x : zn) (to : Int) (X : List Ob) (hl : o.code.length ≤ 900000000) (hx : b.items[k]? = some x) (h0 : 0 ≤ x.at_) (h1 : x.at_ ≤ 100000000000000) (hL : L = eO q b o ++ X)
  (has : av = [.loc 0 0, .aloc 1 b.items.length k 0, .int .i64 to]) (hK : KW (.tup []) (eO q b (qf o x to) ++ X)) : zo Tryz.prog zbk av L KP KW := by
 subst has
 exact xr zqX X (b, o, k, x, to, q) ⟨hl, hx, h0, h1⟩ hL (LeL.refl _) rfl (.cons (.loc (Nat.lt_of_lt_of_le (by decide : 0 < 7) (Nat.le_of_eq rfl))) (.cons (.aloc (Nat.lt_of_lt_of_le (by decide : 1 < 7) (Nat.le_of_eq rfl))) (.cons .int .nil))) .tup0 (va _ _ _) (va _ _ _) hK
def zf1 (b : Bld) (k : Nat) : Ob := .cells [.aloc 1 b.items.length k 0]
theorem zsF (q : List zl) (b : Bld) (o : Out) (k : Nat) : ∀ x ∈ eO q b o ++ [zf1 b k], ClO (eO q b o ++ [zf1 b k]).length x := by
 intro x hx
 have hl : (eO q b o ++ [zf1 b k]).length = 8 := rfl
 rw [hl]
 rcases List.mem_append.1 hx with hx | hx
 ·exact ClO.up (va q b o x hx) (by decide)
 ·rw [List.mem_singleton] at hx
  subst hx
  exact .cells (.cons (.aloc (by decide)) .nil)
theorem zq0 {av : List D} {L : List Ob} {KP : D → Prop} {KW : D → List Ob → Prop} (q : List zl) (b : Bld) (o : Out) (k : Nat) (x y : zn) (hx : b.items[k]? = some x) (hL : L = eO q b o ++ [zf1 b k]) (has : av = [xp y, .loc 7 0])
  (hK : KW (.bool (y.kind == 9 && y.pool == x.pool)) L) : zo Tryz.prog jW av L KP KW := by
 subst has
 refine ql zj Tryz.func77 rfl (by decide) (.bool (y.kind == 9 && y.pool == x.pool)) L (Nat.le_refl _) (by simp [Tryz.f77]) (fun E hE => ?_) hK
 subst hL
 have hxn : b.items[((k : Nat) : Int).toNat]? = some x := by rw [Int.toNat_natCast]; exact hx
 refine ze _ ?_
 (all_goals refine qgp ?_ <;> (repeat' first | exact trivial | intro hc | refine And.intro ?_ ?_) <;> refine Lf.mk ?_)
 ·refine zk x (Int.natCast_nonneg k) hxn ?_
  (all_goals refine qgp (Lf.mk ?_))
  have he : (y.kind == 9 && y.pool == x.pool) = (y.pool == x.pool) := by rw [hc]; simp
  rw [he]
  exact qZ (eO q b o ++ [zf1 b k]) [_] rfl (Nat.le_refl _) .bool (zsF q b o k)
 ·have he : (y.kind == 9 && y.pool == x.pool) = false := by simp [hc]
  rw [he]
  exact v8 (.ff rfl) (qZ (eO q b o ++ [zf1 b k]) [_] rfl (Nat.le_refl _) .bool (zsF q b o k)) (Nat.le_refl _)
structure znH (b : Bld) (x : zn) : Prop where
 size : wN b.shut x
 lo : 0 ≤ x.at_
 hi : x.at_ ≤ 100000000
 idx : 0 ≤ x.idx ∧ x.idx ≤ 100000000
 pool : x.kind = 6 → 0 ≤ znq x.pool b.items 0
def emB (b : Bld) (o : Out) (x : zn) : Out := wT b.shut b.items b.syms o x
attribute [local irreducible] wy wg
theorem zoV : za Tryz.prog zfD (ya (fun ((b, o, k, x, _) : Bld × Out × Nat × zn × List zl) => b.has = false ∧ b.items[k]? = some x ∧ (∀ y ∈ b.items, znH b y) ∧ b.items.length ≤ 1000000 ∧ b.syms.length ≤ 1000000 ∧ o.code.length ≤ 400000000 ∧ o.rels.length ≤ 400000000) (fun (b, _, k, _, _) => [.loc 0 0, .aloc 1 b.items.length k 0])
  (fun (b, o, _, _, q) => eO q b o) (fun _ => .tup []) fun (b, o, _, x, q) => eO q b (emB b o x)) := by
 refine zf zj Tryz.func40 rfl (by decide) ?_
 rintro ⟨b, o, k, x, q⟩ ⟨hh, hx, hin, hil, hsl, hcl, hrl⟩
 have hh : b.has = false := hh
 have hx : b.items[k]? = some x := hx
 have hin : ∀ y ∈ b.items, znH b y := hin
 have hil : b.items.length ≤ 1000000 := hil
 have hsl : b.syms.length ≤ 1000000 := hsl
 have hcl : o.code.length ≤ 400000000 := hcl
 have hrl : o.rels.length ≤ 400000000 := hrl
 have hxe := hin x (List.mem_of_getElem? hx)
 obtain ⟨⟨hs8, hs7, hs9, hsp⟩, hlo, hhi, ⟨hi0, hi1⟩, hpool⟩ := hxe
 have hxn : b.items[((k : Nat) : Int).toNat]? = some x := by rw [Int.toNat_natCast]; exact hx
 refine ⟨Nat.le_refl _, by simp [Tryz.f40], fun E hE => ?_⟩
 have hE7 : E.L.length = 7 := by rw [hE]; rfl
 show AWP _ _ _ _ (vS _ _ _ _ (eO q b (emB b o x))) _ (eO q b o)
 have hH : emB b o x = if x.kind = 7 then (if x.at_ % x.size ≠ 0 then vQ o 11 x.line else wg b.syms o x.val x.size.toNat)
  else if x.kind = 8 then wy o (upA x.at_ x.size)
  else if x.kind = 9 then ((b.shut[x.pool.toNat]?).getD []).foldl (fun o v => wg b.syms o v 4) (wy o (upA x.at_ 4))
  else if x.at_ % 2 ≠ 0 then vQ o 11 x.line
  else if x.kind = 1 then xE o x.ins x.line
  else if x.kind = 6 then xL o x.ins x.at_ (upA (itA b.items (znq x.pool b.items 0)).at_ 4 + 4 * x.idx) x.line
  else if (zO b.syms x.val).2 ≠ 0 then vQ o (zO b.syms x.val).2 x.line
  else if x.kind = 2 then qf o x (zO b.syms x.val).1
  else xL o x.ins x.at_ (zO b.syms x.val).1 x.line := rfl
 generalize emB b o x = H at *
 refine ze _ ?_
 (all_goals refine qgp (Lf.mk ?_))
 refine zk x (Int.natCast_nonneg k) hxn ?_
 (all_goals refine qgp ?_ <;> (repeat' first | exact trivial | intro hc | refine And.intro ?_ ?_) <;> refine Lf.mk ?_)
 ·rw [if_pos hc] at hH
  have h7 := hs7 hc
  refine zk x (Int.natCast_nonneg k) hxn ?_
  (all_goals refine qgp (Lf.mk ?_))
  refine zk x (Int.natCast_nonneg k) hxn ?_
  (all_goals refine qgp ?_ <;> (repeat' first | exact trivial | intro hc | refine And.intro ?_ ?_) <;> refine Lf.mk ?_)
  ·rw [if_pos hc] at hH
   refine zk x (Int.natCast_nonneg k) hxn ?_
   (all_goals refine qgp (Lf.mk ?_))
   refine zac q b o 11 x.line [_] rfl rfl ?_
   rw [← hH]
   (all_goals refine qgp (Lf.mk ?_))
   exact x6 [_] rfl rfl rfl (Nat.le_of_eq rfl) .tup0
  ·rw [if_neg (fun h => h hc)] at hH
   refine zk x (Int.natCast_nonneg k) hxn ?_
   (all_goals refine qgp (Lf.mk ?_))
   refine zk x (Int.natCast_nonneg k) hxn ?_
   (all_goals refine qgp (Lf.mk ?_))
   refine zkM q b o x.val x.size.toNat [_] hsl (by omega) (by omega) (by omega) (by omega) rfl (LeL.of_eq (by rw [Int.toNat_of_nonneg (by omega)]; rfl)) ?_
   rw [← hH]
   (all_goals refine qgp (Lf.mk ?_))
   exact x6 [_] rfl rfl rfl (Nat.le_of_eq rfl) .tup0
 ·rw [if_neg (by assumption), if_pos hc] at hH
  have h8 := hs8 hc
  have hu := je (n := x.at_) h8.1
  refine zk x (Int.natCast_nonneg k) hxn ?_
  (all_goals refine qgp (Lf.mk ?_))
  refine zk x (Int.natCast_nonneg k) hxn ?_
  (all_goals refine qgp (Lf.mk ?_))
  refine zb zcx (x.at_, x.size) ⟨hlo, by show x.at_ ≤ _; omega, h8.1, by show x.size ≤ _; omega⟩ (VS.mk (LeL.of_eq rfl)) ?_
  (all_goals refine qgp (Lf.mk ?_))
  refine zkL q b o (upA x.at_ x.size) [_] (by omega) (by omega) rfl rfl ?_
  rw [← hH]
  (all_goals refine qgp (Lf.mk ?_))
  exact x6 [_] rfl rfl rfl (Nat.le_of_eq rfl) .tup0
 ·rw [if_neg (by assumption), if_neg (by assumption), if_pos hc] at hH
  have h9 := hs9 hc
  have hu := je (n := x.at_) (k := 4) (by decide)
  have hpl : zK b = b.shut.map xd := by unfold zK; rw [hh]
  have hlt : x.pool.toNat < b.shut.length := by omega
  have hgp : b.shut[x.pool.toNat]? = some ((b.shut[x.pool.toNat]?).getD []) := by rw [List.getElem?_eq_getElem hlt]; rfl
  have hpm := hsp _ (List.mem_of_getElem? hgp)
  generalize (b.shut[x.pool.toNat]?).getD [] = p at *
  refine zk x (Int.natCast_nonneg k) hxn ?_
  (all_goals refine qgp (Lf.mk ?_))
  refine zb zcx (x.at_, 4) ⟨hlo, by show x.at_ ≤ _; omega, by decide, by decide⟩ (VS.mk (LeL.of_eq rfl)) ?_
  (all_goals refine qgp (Lf.mk ?_))
  refine zkL q b o (upA x.at_ 4) [_] (by omega) (by omega) rfl rfl ?_
  have hfl := zv8 (o := o) (to := upA x.at_ 4) (m := 400000000) hcl (by omega)
  have hfr := zfZ o (upA x.at_ 4)
  generalize wy o (upA x.at_ 4) = o1 at *
  (all_goals refine qgp (Lf.mk ?_))
  refine zk x (Int.natCast_nonneg k) hxn ?_
  (all_goals refine qgp (Lf.mk ?_))
  refine xj ⟨h9.1, by rw [hpl, List.length_map]; exact h9.2⟩ ?_
  (all_goals refine qgp (Lf.mk ?_))
  refine xj (by rw [hpl]) ?_
  refine VS.mk ?_
  refine zk (enc := xd) (l := b.shut) (n := ((0 + x.pool.toNat : Nat) : Int)) p (Int.natCast_nonneg _) (by rw [Int.toNat_natCast, Nat.zero_add]; exact hgp) ?_
  (all_goals refine qgp (Lf.mk ?_))
  refine y5 (α := Nat × Out) (fun r => r.1 ≤ p.length ∧ (p.drop r.1).foldl (fun o v => wg b.syms o v 4) r.2 = H ∧ r.2.code.length ≤ 400000000 + 4 * r.1 ∧ r.2.rels.length ≤ 400000000 + r.1)
   (fun r => [(0, .loc 0 0), (72, .sl 2 (p.map yH) none), (73, .int .i64 p.length), (74, .int .i64 r.1)]) (fun r => eO q b r.2) (fun r => p.length - r.1) (fun _ => by rw [hE7]; exact Nat.le_refl 7) (0, o1) ⟨Nat.zero_le _, hH.symm, by dsimp only; omega, by dsimp only; rw [hfr]; omega⟩ ?_ ?_
  ·exact zmv (eO q b o1) [zf1 b k] rfl (by rw [hE7]; exact Nat.le_refl 7) (va _ _ _) ⟨rfl, rfl, rfl, rfl, trivial⟩ (.cons (.loc (Nat.lt_of_lt_of_le (by decide : 0 < 7) (Nat.le_of_eq rfl))) (.cons .sl (.cons .int (.cons .int .nil))))
  rintro ⟨j, o2⟩ ⟨j1, j2, j3, j4⟩
  dsimp only at j1 j2 j3 j4 ⊢
  refine ze _ ?_
  (all_goals refine qgp ?_ <;> (repeat' first | exact trivial | intro hc | refine And.intro ?_ ?_) <;> refine Lf.mk ?_)
  ·obtain ⟨v, hv⟩ := yj (l := p) (k := j) (by omega)
   have hjl : j < p.length := by omega
   have hgv : p[j] = v := by rw [List.getElem?_eq_getElem hjl] at hv; exact Option.some.inj hv
   rw [List.drop_eq_getElem_cons hjl, hgv, List.foldl_cons] at j2
   have hwl := zdd b.syms o2 v 4
   have hwr := zf0 b.syms o2 v 4
   refine zk v (by omega) (by simpa using hv) ?_
   (all_goals refine qgp (Lf.mk ?_))
   refine zkM q b o2 v 4 [_] hsl (by omega) (by omega) (by decide) (by decide) rfl (LeL.of_eq rfl) ?_
   generalize wg b.syms o2 v 4 = o3 at *
   (all_goals refine qgp (Lf.mk ?_))
   exact kw (j + 1, o3) [_] ⟨by show j + 1 ≤ _; omega, j2, by dsimp only; omega, by dsimp only; omega⟩ (by dsimp only; omega) rfl (by rw [hE7]; exact Nat.le_refl 7) (va _ _ _) ⟨rfl, rfl, rfl, rfl, trivial⟩
    (.cons (.loc (Nat.lt_of_lt_of_le (by decide : 0 < 7) (Nat.le_of_eq rfl))) (.cons .sl (.cons .int (.cons .int .nil))))
  ·have hj : j = p.length := by omega
   rw [hj, List.drop_length] at j2
   exact x6 [] rfl j2 rfl (Nat.le_of_eq rfl) .tup0
 ·rw [if_neg (by assumption), if_neg (by assumption), if_neg hc] at hH
  refine zk x (Int.natCast_nonneg k) hxn ?_
  (all_goals refine qgp ?_ <;> (repeat' first | exact trivial | intro hc | refine And.intro ?_ ?_) <;> refine Lf.mk ?_)
  ·rw [if_pos hc] at hH
   refine zk x (Int.natCast_nonneg k) hxn ?_
   (all_goals refine qgp (Lf.mk ?_))
   refine zac q b o 11 x.line [_] rfl rfl ?_
   rw [← hH]
   (all_goals refine qgp (Lf.mk ?_))
   exact x6 [_] rfl rfl rfl (Nat.le_of_eq rfl) .tup0
  ·rw [if_neg (fun h => h hc)] at hH
   refine zk x (Int.natCast_nonneg k) hxn ?_
   (all_goals refine qgp ?_ <;> (repeat' first | exact trivial | intro hc | refine And.intro ?_ ?_) <;> refine Lf.mk ?_)
   ·rw [if_pos hc] at hH
    refine zk x (Int.natCast_nonneg k) hxn ?_
    (all_goals refine qgp (Lf.mk ?_))
    refine zk x (Int.natCast_nonneg k) hxn ?_
    (all_goals refine qgp (Lf.mk ?_))
    refine zdb q b o x.ins x.line [_] (by omega) rfl (LeL.of_eq rfl) ?_
    rw [← hH]
    (all_goals refine qgp (Lf.mk ?_))
    exact x6 [_] rfl rfl rfl (Nat.le_of_eq rfl) .tup0
   ·rw [if_neg (by assumption), if_pos hc] at hH
    have hp6 := hpool hc
    have hpos := zbT (fun y : zn => y.kind == 9 && y.pool == x.pool) b.items 0
    have hidx : znq x.pool b.items 0 = xF (fun y : zn => y.kind == 9 && y.pool == x.pool) b.items 0 := rfl
    rw [hidx] at hp6 hH
    refine zsq jW [.loc 7 0] (fun y => y.kind == 9 && y.pool == x.pool) b.items (.cells (eC q b o)) [.arr 2 (b.syms.map yJ), .spare b.marks.length, .arr 1 (b.shut.map xd), .spare o.rels.length, .spare o.code.length, zf1 b k] (by omega) rfl rfl
     (fun y hy KP KW hK => zq0 q b o k x y hx rfl rfl hK) ?_
    generalize xF (fun y : zn => y.kind == 9 && y.pool == x.pool) b.items 0 = z at *
    have hz : z.toNat < b.items.length := by
     rcases hpos with h | ⟨j, h1, h2⟩
     ·omega
     ·rw [h2, Int.toNat_natCast, Nat.zero_add]; exact h1
    have hit : b.items[z.toNat]? = some (itA b.items z) := by unfold itA; rw [List.getElem?_eq_getElem hz]; rfl
    have hie := hin _ (List.mem_of_getElem? hit)
    have hilo := hie.lo
    have hihi := hie.hi
    have hu := je (n := (itA b.items z).at_) (k := 4) (by decide)
    (all_goals refine qgp (Lf.mk ?_))
    refine zk x (Int.natCast_nonneg k) hxn ?_
    (all_goals refine qgp (Lf.mk ?_))
    refine zk x (Int.natCast_nonneg k) hxn ?_
    (all_goals refine qgp (Lf.mk ?_))
    refine zk (itA b.items z) (Int.natCast_nonneg _) (by rw [Int.toNat_natCast, Nat.zero_add]; exact hit) ?_
    (all_goals refine qgp (Lf.mk ?_))
    refine zb zcx ((itA b.items z).at_, 4) ⟨hilo, by show (itA b.items z).at_ ≤ _; omega, by decide, by decide⟩ (VS.mk (LeL.of_eq rfl)) ?_
    (all_goals refine qgp (Lf.mk ?_))
    refine zk x (Int.natCast_nonneg k) hxn ?_
    (all_goals refine qgp (Lf.mk ?_))
    refine zk x (Int.natCast_nonneg k) hxn ?_
    (all_goals refine qgp (Lf.mk ?_))
    refine zdc q b o x.ins x.at_ (upA (itA b.items z).at_ 4 + 4 * x.idx) x.line [_] (by omega) hlo (by omega) rfl (LeL.of_eq rfl) ?_
    rw [← hH]
    (all_goals refine qgp (Lf.mk ?_))
    exact x6 [_] rfl rfl rfl (Nat.le_of_eq rfl) .tup0
   ·rw [if_neg (by assumption), if_neg hc] at hH
    refine zk x (Int.natCast_nonneg k) hxn ?_
    (all_goals refine qgp (Lf.mk ?_))
    refine znG q b o x.val [_] hsl rfl rfl ?_
    generalize zO b.syms x.val = T at *
    (all_goals refine qgp ?_ <;> (repeat' first | exact trivial | intro hc | refine And.intro ?_ ?_) <;> refine Lf.mk ?_)
    ·rw [if_pos hc] at hH
     refine zk x (Int.natCast_nonneg k) hxn ?_
     (all_goals refine qgp (Lf.mk ?_))
     refine zac q b o T.2 x.line [_] rfl rfl ?_
     rw [← hH]
     (all_goals refine qgp (Lf.mk ?_))
     exact x6 [_] rfl rfl rfl (Nat.le_of_eq rfl) .tup0
    ·rw [if_neg (fun h => h hc)] at hH
     refine zk x (Int.natCast_nonneg k) hxn ?_
     (all_goals refine qgp ?_ <;> (repeat' first | exact trivial | intro hc | refine And.intro ?_ ?_) <;> refine Lf.mk ?_)
     ·rw [if_pos hc] at hH
      refine zsE q b o k x T.1 [_] (by omega) hx hlo (by omega) rfl rfl ?_
      rw [← hH]
      (all_goals refine qgp (Lf.mk ?_))
      exact x6 [_] rfl rfl rfl (Nat.le_of_eq rfl) .tup0
     ·rw [if_neg hc] at hH
      refine zk x (Int.natCast_nonneg k) hxn ?_
      (all_goals refine qgp (Lf.mk ?_))
      refine zk x (Int.natCast_nonneg k) hxn ?_
      (all_goals refine qgp (Lf.mk ?_))
      refine zk x (Int.natCast_nonneg k) hxn ?_
      (all_goals refine qgp (Lf.mk ?_))
      refine zdc q b o x.ins x.at_ T.1 x.line [_] (by omega) hlo (by omega) rfl (LeL.of_eq rfl) ?_
      rw [← hH]
      (all_goals refine qgp (Lf.mk ?_))
      exact x6 [_] rfl rfl rfl (Nat.le_of_eq rfl) .tup0
end Go.Proofs.YthmdddenbfbefaaGreatDoor
namespace Go.Proofs.YthmdddenbfbefaaGreatDoor
open Go Go.Plat
set_option linter.unusedVariables false
set_option linter.unusedSimpArgs false
set_option maxRecDepth 100000
set_option maxHeartbeats 2000000
attribute [local irreducible] AWP zC yg zJ zo yw z8 zH z1 Lib.itoa z6 zt za zP yx zp z7 yt yu yi yk zw zx xw zy xb w6 wv yL xJ wR zU
def zj0 (h : Bool) : Int := match h with | true => 1 | false => 0
structure znI (n : Nat) (h : Bool) (x : zn) : Prop where
 al : x.kind = 8 → 0 < x.size ∧ x.size ≤ 16
 da : x.kind = 7 → 0 < x.size ∧ x.size ≤ 4
 po : x.kind = 9 → 0 ≤ x.pool ∧ x.pool < n
 li : x.kind = 6 → 0 ≤ x.pool ∧ x.pool < n + zj0 h
 ix : 0 ≤ x.idx ∧ x.idx ≤ 1000000
structure OkB (T : Nat) (b : Bld) : Prop where
 its : ∀ x ∈ b.items, znI b.shut.length b.has x
 put : ∀ j : Nat, j < b.shut.length → ∃ x ∈ b.items, x.kind = 9 ∧ x.pool = j
 len : b.marks.length = b.syms.length
 pos : ∀ m ∈ b.marks, 0 ≤ m
 shl : ∀ p ∈ b.shut, p.length ≤ T
theorem OkB.fail {T : Nat} {b : Bld} (h : OkB T b) (e line : Int) : OkB T (yD b e line) := by
 unfold yD
 split
 ·exact ⟨h.its, h.put, h.len, h.pos, h.shl⟩
 ·exact h
theorem OkB.set {T : Nat} {b : Bld} (h : OkB T b) (s : RB) : OkB T (xR b s) := ⟨h.its, h.put, h.len, h.pos, h.shl⟩
theorem OkB.puts {T : Nat} {b : Bld} (h : OkB T b) {x : zn} (hx : znI b.shut.length b.has x) : OkB T (xA b x) :=
 ⟨fun y hy => by
   rcases List.mem_append.1 hy with hy | hy
   ·exact h.its y hy
   ·rw [List.mem_singleton] at hy; subst hy; exact hx,
 fun j hj => by obtain ⟨y, h1, h2⟩ := h.put j hj; exact ⟨y, List.mem_append_left _ h1, h2⟩, h.len, h.pos, h.shl⟩
theorem OkB.label {T : Nat} {q : List zl} {b : Bld} (h : OkB T b) (t : yG) (line : Int) : OkB T (xU q b t line) := by
 unfold xU
 split
 ·exact h.fail _ _
 ·refine ⟨h.its, h.put, by simp [h.len], fun m hm => ?_, h.shl⟩
  rcases List.mem_append.1 hm with hm | hm
  ·exact h.pos m hm
  ·rw [List.mem_singleton] at hm; subst hm; omega
theorem zui {n : Nat} {h : Bool} {x : zn} (h8 : x.kind ≠ 8) (h7 : x.kind ≠ 7) (h9 : x.kind ≠ 9) (h6 : x.kind ≠ 6) (hi : x.idx = 0) : znI n h x :=
 ⟨fun e => absurd e h8, fun e => absurd e h7, fun e => absurd e h9, fun e => absurd e h6, by omega⟩
theorem zv9 {n : Nat} {h : Bool} {size line : Int} {v : zr} (hs : size = 1 ∨ size = 2 ∨ size = 4) : znI n h ⟨7, 0, line, noI, false, size, v, 0, 0⟩ :=
 ⟨fun e => absurd e (by dsimp only; decide), fun _ => by dsimp only; omega, fun e => absurd e (by dsimp only; decide), fun e => absurd e (by dsimp only; decide), by dsimp only; decide⟩
theorem OkB.dat {T : Nat} {b : Bld} (h : OkB T b) {size : Int} (hs : size = 1 ∨ size = 2 ∨ size = 4) (line : Int) (o : AOp) : OkB T (vf size line b o) := by
 unfold vf
 refine OkB.puts ?_ (zv9 hs)
 repeat' split
 all_goals first | exact h.fail _ _ | exact h
theorem OkB.datas {T : Nat} {size : Int} (hs : size = 1 ∨ size = 2 ∨ size = 4) {line : Int} : ∀ (l : List AOp) {b : Bld}, OkB T b → OkB T (l.foldl (vf size line) b)
 | [], b, h => h
 | o :: l, b, h => OkB.datas hs l (h.dat hs line o)
theorem OkB.data {T : Nat} {b : Bld} (h : OkB T b) {size : Int} (hs : size = 1 ∨ size = 2 ∨ size = 4) (l : List AOp) (line : Int) : OkB T (jl b size l line) := by
 unfold jl
 refine OkB.datas hs l ?_
 split
 ·exact h.fail _ _
 ·exact h
theorem OkB.align {T : Nat} {b : Bld} (h : OkB T b) (l : List AOp) (line : Int) : OkB T (qX b l line) := by
 unfold qX
 split
 ·exact h.fail _ _
 split
 ·exact h.fail _ _
 ·rename_i hn
  exact h.puts ⟨fun _ => by dsimp only; omega, fun e => absurd e (by dsimp only; decide), fun e => absurd e (by dsimp only; decide), fun e => absurd e (by dsimp only; decide), by dsimp only; decide⟩
theorem OkB.pool {T : Nat} {b : Bld} (h : OkB T b) (hc : b.cur.length ≤ T) (line : Int) : OkB T (vP b line) := by
 unfold vP
 split
 ·rename_i hh
  have hl : (b.shut ++ [b.cur]).length = b.shut.length + 1 := by simp
  refine ⟨fun x hx => ?_, fun j hj => ?_, h.len, h.pos, fun p hp => ?_⟩
  ·dsimp only at hx ⊢
   rw [hl]
   rcases List.mem_append.1 hx with hx | hx
   ·have := h.its x hx
    refine ⟨this.al, this.da, fun e => ?_, fun e => ?_, this.ix⟩
    ·have := this.po e; omega
    ·have := this.li e
     rw [hh] at this
     have h1 : zj0 true = 1 := rfl
     have h0 : zj0 false = 0 := rfl
     rw [h1] at this
     rw [h0]
     omega
   ·rw [List.mem_singleton] at hx
    subst hx
    exact ⟨fun e => absurd e (by dsimp only; decide), fun e => absurd e (by dsimp only; decide), fun _ => by dsimp only; omega, fun e => absurd e (by dsimp only; decide), by dsimp only; decide⟩
  ·have hj : j < (b.shut ++ [b.cur]).length := hj
   rw [hl] at hj
   by_cases hjn : j < b.shut.length
   ·obtain ⟨y, h1, h2⟩ := h.put j hjn
    exact ⟨y, List.mem_append_left _ h1, h2⟩
   ·refine ⟨⟨9, 0, line, noI, false, 0, noV, b.shut.length, 0⟩, List.mem_append_right _ (List.mem_singleton.2 rfl), rfl, ?_⟩
    show ((b.shut.length : Nat) : Int) = j
    omega
  ·rcases List.mem_append.1 hp with hp | hp
   ·exact h.shl p hp
   ·rw [List.mem_singleton] at hp; subst hp; exact hc
 ·exact h
theorem zsG (b : Bld) (line : Int) : (vP b line).has = false := by
 unfold vP
 split
 ·rfl
 ·rename_i h
  cases hb : b.has with
  | true => exact absurd hb h
  | false => rfl
theorem zpE (v : zr) : ∀ (l : List zr) (k : Nat), wv v l k ≤ k + l.length
 | [], k => by rw [wv]; simp
 | x :: l, k => by
  rw [wv]
  split
  ·simp; omega
  ·have := zpE v l (k + 1)
   simp only [List.length_cons]; omega
theorem OkB.lit {T : Nat} {b : Bld} (h : OkB T b) (hc : b.cur.length ≤ 1000000) (v : zr) (reg line : Int) : OkB T (kB b v reg line) := by
 have hs : 0 ≤ w9 v b.cur ∧ w9 v b.cur ≤ 1000000 := by
  have := zpE v b.cur 0
  unfold w9
  split
  ·omega
  ·omega
 have h1 : zj0 true = 1 := rfl
 have hb : OkB T { b with has := true, cur := w8 v b.cur } := by
  refine ⟨fun x hx => ?_, h.put, h.len, h.pos, h.shl⟩
  have := h.its x hx
  refine ⟨this.al, this.da, this.po, fun e => ?_, this.ix⟩
  have := this.li e
  dsimp only
  rw [h1]
  cases hb : b.has with
  | true => rw [hb, h1] at this; exact this
  | false =>
   rw [hb] at this
   have h0 : zj0 false = 0 := rfl
   rw [h0] at this
   omega
 exact hb.puts ⟨fun e => absurd e (by dsimp only; decide), fun e => absurd e (by dsimp only; decide), fun e => absurd e (by dsimp only; decide), fun _ => by dsimp only; rw [h1]; omega, hs⟩
theorem zuj {n : Nat} {h : Bool} (op sh : Int) (l : List AOp) (line : Int) : znI n h (wY op sh l line) := by
 unfold wY
 repeat' split
 all_goals exact zui (by dsimp only; decide) (by dsimp only; decide) (by dsimp only; decide) (by dsimp only; decide) rfl
theorem OkB.instr {T : Nat} {b : Bld} (h : OkB T b) (hc : b.cur.length ≤ 1000000) (name : List UInt8) (l : List AOp) (line : Int) : OkB T (xy b name l line) := by
 unfold xy
 split
 ·exact h.lit hc _ _ _
 split
 ·exact h.fail _ _
 split
 ·exact h.fail _ _
 split
 ·exact h.puts (zuj _ _ _ _)
 ·exact h.fail _ _
theorem OkB.word {T : Nat} {b : Bld} (h : OkB T b) (hT : b.cur.length ≤ T) (hc : b.cur.length ≤ 1000000) (w : List UInt8) (l : List AOp) (line : Int) : OkB T (zgE b w l line) := by
 unfold zgE
 split
 ·exact h.data (by decide) _ _
 split
 ·exact h.data (by decide) _ _
 split
 ·exact h.data (by decide) _ _
 split
 ·exact h.align _ _
 split
 ·split
  ·exact h.fail _ _
  ·exact h.pool hT _
 ·exact h.instr hc _ _ _
theorem OkB.rest {T : Nat} {q : List zl} {b : Bld} (h : OkB T b) (hT : b.cur.length ≤ T) (hc : b.cur.length ≤ 1000000) (line : Int) (l : List yG) : OkB T (zda q b line l) := by
 cases l with
 | nil => exact h
 | cons t r =>
  rw [zda]
  split
  ·exact h
  split
  ·exact h.fail _ _
  split
  ·exact h.set _
  ·exact (h.set _).word hT hc _ _ _
theorem zpF {T : Nat} {q : List zl} {line : Int} : ∀ (l : List yG) {b : Bld}, OkB T b → OkB T (xe q line l b).1 ∧ (xe q line l b).1.cur = b.cur
 | [], b, h => by rw [xe]; exact ⟨h, rfl⟩
 | [t], b, h => by rw [xe]; exact ⟨h, rfl⟩
 | t :: c :: r, b, h => by
  rw [xe]
  split
  ·obtain ⟨h1, h2⟩ := zpF r (h.label (q := q) t line)
   refine ⟨h1, h2.trans ?_⟩
   unfold xU
   split
   ·unfold yD; split <;> rfl
   ·rfl
  ·exact ⟨h, rfl⟩
theorem OkB.line {T : Nat} {q : List zl} {b : Bld} (h : OkB T b) (hT : b.cur.length ≤ T) (hc : b.cur.length ≤ 1000000) (x : zN) : OkB T (xZ q b x) := by
 obtain ⟨h1, h2⟩ := zpF (q := q) (line := x.pos) x.toks h
 exact h1.rest (by rw [h2]; exact hT) (by rw [h2]; exact hc) _ _
def kE : List zN → Nat
 | [] => 0
 | x :: l => x.toks.length + kE l
def b0 : Bld := ⟨[], [], [], [], false, [], 0, 0⟩
def xB (q : List zl) (l : List zN) (b : Bld) : Bld := l.foldl (xZ q) b
def zaO (l : List zN) : Int := l.foldl (fun _ x => x.pos) 0
def noO : xc := ⟨[], [], []⟩
def zj1 (b : Bld) : xc × Int × Int :=
 if b.fe ≠ 0 then (noO, b.fe, b.fa) else if 8000 < (yK b.shut b.marks ⟨b.items, b.syms⟩).2 then (noO, 4, 0)
 else if (vA b.shut (yK b.shut b.marks ⟨b.items, b.syms⟩).1.items (yK b.shut b.marks ⟨b.items, b.syms⟩).1.syms ⟨[], [], b.fe, b.fa⟩).fe ≠ 0
  then (noO, (vA b.shut (yK b.shut b.marks ⟨b.items, b.syms⟩).1.items (yK b.shut b.marks ⟨b.items, b.syms⟩).1.syms ⟨[], [], b.fe, b.fa⟩).fe,
   (vA b.shut (yK b.shut b.marks ⟨b.items, b.syms⟩).1.items (yK b.shut b.marks ⟨b.items, b.syms⟩).1.syms ⟨[], [], b.fe, b.fa⟩).fa)
 else (⟨(vA b.shut (yK b.shut b.marks ⟨b.items, b.syms⟩).1.items (yK b.shut b.marks ⟨b.items, b.syms⟩).1.syms ⟨[], [], b.fe, b.fa⟩).code, (yK b.shut b.marks ⟨b.items, b.syms⟩).1.syms,
  (vA b.shut (yK b.shut b.marks ⟨b.items, b.syms⟩).1.items (yK b.shut b.marks ⟨b.items, b.syms⟩).1.syms ⟨[], [], b.fe, b.fa⟩).rels⟩, 0, 0)
def wz (q : List zl) (l : List zN) : xc × Int × Int := zj1 (vP (xB q l b0) (zaO l))
attribute [local irreducible] zh.kids zh.kind zh.n zh.name xK yI xk xE y6 xU xL qf yr y0 xv zg y7 w9 zM zO w8 wg
def T4 : Ob := .cells [.nilsl, .nilsl, .nilsl]
def T5 : Ob := .cells [.int .i64 0, .int .i64 0]
def zyb (q : List zl) : List D := [.sl 2 (q.map wj) none, .nilsl, .nilsl, .nilsl, .nilsl, .int .i64 0, .nilsl, .nilsl, .nilsl, .int .i64 0, .int .i64 0]
theorem zq1 {σ σ' : List (Nat × D)} (q : List zl) (h : zgv (zD [2, 3, 4, 5, 6, 7, 0, 1] 0) σ σ') : wl 0 σ [T4, T5, .cells (zyb q)] σ' (bO q b0 ++ [T4, T5]) := by
 have key : zD [2, 3, 4, 5, 6, 7, 0, 1] 0 3 = some 1 := rfl
 refine wo (zcj 2 13 [.sl 2 (q.map wj) none, .osl 13 3 0 0 0, .nilsl, .nilsl, .nilsl, .int .i64 0, .nilsl, .nilsl, .nilsl, .int .i64 0, .int .i64 0] rfl ⟨.same, .here, .same, .same, .same, .same, .same, .same, .same, .same, .same, trivial⟩) ?_
 refine wo (zcj 2 2 [.sl 2 (q.map wj) none, .osl 13 3 0 0 0, .osl 2 4 0 0 0, .nilsl, .nilsl, .int .i64 0, .nilsl, .nilsl, .nilsl, .int .i64 0, .int .i64 0] rfl ⟨.same, .same, .here, .same, .same, .same, .same, .same, .same, .same, .same, trivial⟩) ?_
 refine wo (vW 2 1 [.sl 2 (q.map wj) none, .osl 13 3 0 0 0, .osl 2 4 0 0 0, .sl 1 [] (some 5), .nilsl, .int .i64 0, .nilsl, .nilsl, .nilsl, .int .i64 0, .int .i64 0] rfl ⟨.same, .same, .same, .here, .same, .same, .same, .same, .same, .same, .same, trivial⟩) ?_
 refine wo (zcj 2 1 [.sl 2 (q.map wj) none, .osl 13 3 0 0 0, .osl 2 4 0 0 0, .sl 1 [] (some 5), .osl 1 6 0 0 0, .int .i64 0, .nilsl, .nilsl, .nilsl, .int .i64 0, .int .i64 0] rfl ⟨.same, .same, .same, .same, .here, .same, .same, .same, .same, .same, .same, trivial⟩) ?_
 refine wo zlg ?_
 refine jV [2, 3, 4, 5, 6, 7, 0, 1] rfl rfl ?_ h
 refine .cons (o := .cells [.sl 2 (q.map wj) none, .osl 13 3 0 0 0, .osl 2 4 0 0 0, .sl 1 [] (some 5), .osl 1 6 0 0 0, .int .i64 0, .nilsl, .nilsl, .nilsl, .int .i64 0, .int .i64 0]) rfl
  ⟨_, rfl, .cons (.flat .sl) (.cons (.osl rfl) (.cons (.osl rfl) (.cons (.tok rfl) (.cons (.osl rfl) (.cons (.flat .int) (.cons (.flat .nilsl) (.cons (.flat .nilsl) (.cons (.flat .nilsl) (.cons (.flat .int) (.cons (.flat .int) .nil))))))))))⟩
  (.cons (o := .arr 13 []) rfl ⟨_, rfl, rfl, by simp⟩ (.cons (o := .arr 2 []) rfl ⟨_, rfl, rfl, by simp⟩ (.cons (o := .spare 0) rfl rfl (.cons (o := .arr 1 []) rfl ⟨_, rfl, rfl, by simp⟩ (.cons (o := .dead) rfl rfl
  (.cons (o := T4) rfl ⟨_, rfl, .cons (.flat .nilsl) (.cons (.flat .nilsl) (.cons (.flat .nilsl) .nil))⟩ (.cons (o := T5) rfl ⟨_, rfl, .cons (.flat .int) (.cons (.flat .int) .nil)⟩ .nil)))))))
theorem zsH {av : List D} {L : List Ob} {KP : D → Prop} {KW : D → List Ob → Prop} (q : List zl) (b : Bld) (x : zN) (X : List Ob) (hr : zZ b (1 + x.toks.length)) (hw : wt (x.toks.map tk) ≤ 1048576) (hq : q.length ≤ 1000000)
  (hL : L = bO q b ++ X) (has : av = [.loc 0 0, yZ x])
  (hK1 : ((xZ q b x).has = true → b.has = true) → KW (.tup []) (bO q (xZ q b x) ++ X))
  (hK2 : b.has = false → (xZ q b x).has = true → KW (.tup []) (bOn L.length q (xZ q b x) ++ X ++ [.spare (xZ q b x).cur.length])) : zo Tryz.prog zbd av L KP KW := by
 subst has
 have hcl : ClL (bO q b).length [.loc 0 0, yZ x] := .cons (.loc (Nat.lt_of_lt_of_le (by decide : 0 < 6) (Nat.le_of_eq rfl))) (.cons (.agg (.cons .int (.cons .sl .nil))) .nil)
 by_cases h : b.has = false ∧ (xZ q b x).has = true
 ·refine zkz zi0 (bO q b) X (bOn 6 q (xZ q b x)) (bOn L.length q (xZ q b x)) (.spare (xZ q b x).cur.length) (d := .tup []) hL ⟨(b, x, q), ⟨hr, hw, hq⟩, LeL.refl _, rfl, rfl, (zeD h.1 h.2).symm⟩ rfl rfl hcl .tup0 (xl _ _)
   (fun m hm hk => zgG q _ (fun j hj => hm j (Nat.lt_of_lt_of_le hj (by decide : 5 ≤ 6))) hk) .spare (hK2 h.1 h.2)
 ·have hn : (xZ q b x).has = true → b.has = true := fun e => by
   cases hb : b.has with
   | true => rfl
   | false => exact absurd ⟨hb, e⟩ h
  refine zhD zi0 (bO q b) X (bO q (xZ q b x)) (d := .tup []) hL ⟨(b, x, q), ⟨hr, hw, hq⟩, LeL.refl _, rfl, rfl, (zgF hn).symm⟩ rfl hcl .tup0 (xl _ _) (xl _ _) (hK1 hn)
theorem zxm (q : List zl) (b : Bld) : ∀ x ∈ bO q b ++ [T4, T5], ClO (bO q b ++ [T4, T5]).length x := by
 intro x hx
 have hl : (bO q b ++ [T4, T5]).length = 8 := rfl
 rw [hl]
 rcases List.mem_append.1 hx with hx | hx
 ·exact ClO.up (xl q b x hx) (by decide)
 ·simp only [List.mem_cons, List.not_mem_nil, or_false] at hx
  rcases hx with rfl | rfl
  ·exact .cells (.cons .nilsl (.cons .nilsl (.cons .nilsl .nil)))
  ·exact .cells (.cons .int (.cons .int .nil))
theorem zxn (q : List zl) (b : Bld) (h : b.has = true) : bO q b = [.cells (bCk q b), .arr 13 (b.items.map xp), .arr 2 (b.syms.map yJ), .spare b.marks.length, .arr 1 (b.shut.map xd ++ [.sl 2 (b.cur.map yH) (some 5)]), .spare b.cur.length] := by
 have hp : zK b = b.shut.map xd ++ [.sl 2 (b.cur.map yH) (some 5)] := by unfold zK; rw [h]
 have hc : zdv b = .spare b.cur.length := by unfold zdv; rw [h]
 have hb : bC q b = bCk q b := by unfold bC bCk; rw [hp]; simp
 unfold bO bT
 rw [hb, hp, hc]
theorem zsI {σ σ' : List (Nat × D)} (q : List zl) (b : Bld) (Y : Ob) (h : b.has = true) (hs : zgv (zD [0, 1, 2, 3, 4, 9, 6, 7] 0) σ σ') : wl 0 σ (bOn 9 q b ++ [T4, T5, Y] ++ [.spare b.cur.length]) σ' (bO q b ++ [T4, T5]) := by
 have key : ∀ k, k < 5 → zD [0, 1, 2, 3, 4, 9, 6, 7] 0 k = some k := by decide
 have hr := zgG (m := zD [0, 1, 2, 3, 4, 9, 6, 7] 0) (k := 9) (k' := 5) q b key rfl
 rw [zxn q b h]
 refine jV [0, 1, 2, 3, 4, 9, 6, 7] rfl rfl ?_ hs
 exact .cons (o := .cells (bCk q b)) rfl (hr 0 _ _ rfl rfl) (.cons (o := .arr 13 (b.items.map xp)) rfl (hr 1 _ _ rfl rfl) (.cons (o := .arr 2 (b.syms.map yJ)) rfl (hr 2 _ _ rfl rfl) (.cons (o := .spare b.marks.length) rfl (hr 3 _ _ rfl rfl)
  (.cons (o := .arr 1 (b.shut.map xd ++ [.sl 2 (b.cur.map yH) (some 9)])) rfl (hr 4 _ _ rfl rfl) (.cons (o := .spare b.cur.length) rfl rfl
  (.cons (o := T4) rfl ⟨_, rfl, .cons (.flat .nilsl) (.cons (.flat .nilsl) (.cons (.flat .nilsl) .nil))⟩ (.cons (o := T5) rfl ⟨_, rfl, .cons (.flat .int) (.cons (.flat .int) .nil)⟩ .nil)))))))
theorem zhb (q : List zl) (x : zN) (l : List zN) (b : Bld) : xB q (x :: l) b = xB q l (xZ q b x) := rfl
theorem zi2 {q : List zl} : ∀ (l : List zN) {b : Bld} {k : Nat}, zZ b (k + kE l) → zZ (xB q l b) k
 | [], b, k, h => h
 | x :: l, b, k, h => zi2 l (zZ.line x (by rw [kE] at h; exact h.less (by omega)))
theorem znJ {T : Nat} {q : List zl} (hT : T ≤ 1000000) : ∀ (l : List zN) {b : Bld}, zZ b (1000000 - T + kE l) → OkB T b → OkB T (xB q l b)
 | [], b, _, h => h
 | x :: l, b, hr, h => by
  rw [kE] at hr
  have hc := hr.curl
  exact znJ hT l (zZ.line x (hr.less (by omega))) (h.line (by omega) (by omega) x)
theorem zq2 : zZ b0 1000000 := ⟨by decide, by decide, by decide, by decide, by decide, fun _ => rfl⟩
theorem ok0 (T : Nat) : OkB T b0 := ⟨(fun x hx => by cases hx), fun j hj => absurd hj (Nat.not_lt_zero j), rfl, (fun m hm => by cases hm), (fun p hp => by cases hp)⟩
end Go.Proofs.YthmdddenbfbefaaGreatDoor
namespace Go.Proofs.YthmdddenbfbefaaGreatDoor
open Go Go.Plat
set_option linter.unusedVariables false
set_option linter.unusedSimpArgs false
set_option maxRecDepth 100000
set_option maxHeartbeats 2000000
attribute [local irreducible] AWP zC yg zJ zo yw z8 zH z1 Lib.itoa z6 zt za zP yx zp z7 yt yu yi yk zw zx xw xK zy yI xb w6 wv y6 yL xJ xv wR y7 zO zU
structure Sim (x y : zn) : Prop where
 kind : y.kind = x.kind
 size : y.size = x.size
 pool : y.pool = x.pool
 idx : y.idx = x.idx
structure zbF (l m : List zn) : Prop where
 len : m.length = l.length
 from_ : ∀ y ∈ m, ∃ x ∈ l, Sim x y
 to_ : ∀ x ∈ l, ∃ y ∈ m, Sim x y
theorem zbF.refl (l : List zn) : zbF l l := ⟨rfl, fun y h => ⟨y, h, rfl, rfl, rfl, rfl⟩, fun y h => ⟨y, h, rfl, rfl, rfl, rfl⟩⟩
theorem Sim.trans {x y z : zn} (h : Sim x y) (k : Sim y z) : Sim x z := ⟨k.kind.trans h.kind, k.size.trans h.size, k.pool.trans h.pool, k.idx.trans h.idx⟩
theorem zbF.trans {a b c : List zn} (h : zbF a b) (k : zbF b c) : zbF a c :=
 ⟨k.len.trans h.len, fun z hz => by obtain ⟨y, h1, h2⟩ := k.from_ z hz; obtain ⟨x, h3, h4⟩ := h.from_ y h1; exact ⟨x, h3, h4.trans h2⟩,
   fun x hx => by obtain ⟨y, h1, h2⟩ := h.to_ x hx; obtain ⟨z, h3, h4⟩ := k.to_ y h1; exact ⟨z, h3, h2.trans h4⟩⟩
theorem zbF.cons {x y : zn} {l m : List zn} (h : Sim x y) (k : zbF l m) : zbF (x :: l) (y :: m) :=
 ⟨by simp [k.len], fun z hz => by
   rcases List.mem_cons.1 hz with rfl | hz
   ·exact ⟨x, List.mem_cons_self, h⟩
   ·obtain ⟨w, h1, h2⟩ := k.from_ z hz; exact ⟨w, List.mem_cons_of_mem _ h1, h2⟩,
 fun z hz => by
  rcases List.mem_cons.1 hz with rfl | hz
  ·exact ⟨y, List.mem_cons_self, h⟩
  ·obtain ⟨w, h1, h2⟩ := k.to_ z hz; exact ⟨w, List.mem_cons_of_mem _ h1, h2⟩⟩
theorem zkN (pools : List (List zr)) : ∀ (l : List zn) (a : Int), zbF l (yn pools l a).1
 | [], a => .refl _
 | x :: l, a => by rw [yn]; exact .cons ⟨rfl, rfl, rfl, rfl⟩ (zkN pools l _)
theorem znK (syms : List zu) : ∀ l : List zn, zbF l (l.map (yQ syms))
 | [] => .refl _
 | x :: l => .cons (by unfold yQ; split <;> exact ⟨rfl, rfl, rfl, rfl⟩) (znK syms l)
theorem zsJ {pools : List (List zr)} {x y : zn} (h : Sim x y) (k : wN pools x) : wN pools y :=
 ⟨fun e => by rw [h.size]; exact k.1 (by rw [← h.kind]; exact e), fun e => by rw [h.size]; exact k.2.1 (by rw [← h.kind]; exact e), fun e => by rw [h.pool]; exact k.2.2.1 (by rw [← h.kind]; exact e), k.2.2.2⟩
theorem zkO {pools : List (List zr)} : ∀ (l : List zn) (a : Int), 0 ≤ a → (∀ x ∈ l, wN pools x) → a ≤ (yn pools l a).2 ∧ ∀ x ∈ (yn pools l a).1, 0 ≤ x.at_ ∧ x.at_ ≤ (yn pools l a).2
 | [], a, h0, _ => ⟨Int.le_refl a, fun x hx => by cases hx⟩
 | y :: l, a, h0, hs => by
  have hz := zjZ (a := a) (hs y List.mem_cons_self) h0
  obtain ⟨h1, h2⟩ := zkO l (a + y7 pools y a) (by omega) (fun z hz => hs z (List.mem_cons_of_mem _ hz))
  rw [yn]
  refine ⟨by dsimp only; omega, fun x hx => ?_⟩
  rcases List.mem_cons.1 hx with rfl | hx
  ·exact ⟨h0, by dsimp only; omega⟩
  ·exact h2 x hx
structure zxo (pools : List (List zr)) (s : Lay) (R : Lay × Int) : Prop where
 sim : zbF s.items R.1.items
 syms : R.1.syms.length = s.syms.length
 at_ : ∀ x ∈ R.1.items, 0 ≤ x.at_ ∧ x.at_ ≤ R.2
theorem zi3 {pools : List (List zr)} {marks : List Int} : ∀ (f : Nat) (s : Lay), xH s.items < f → (∀ x ∈ s.items, wN pools x) → zxo pools s (zcw pools marks f s)
 | 0, s, h, _ => absurd h (Nat.not_lt_zero _)
 | f + 1, s, h, hs => by
  have h1 := zkN pools s.items 0
  have h2 := zkO s.items 0 (Int.le_refl 0) hs
  have h3 := zcy pools s.items 0
  have h4 : (yR pools marks s).1.syms.length = s.syms.length := zbU _ _ _ _
  have hP : (yR pools marks s).1.items = (yn pools s.items 0).1 := rfl
  have hE : (yR pools marks s).2 = (yn pools s.items 0).2 := rfl
  rw [zaN]
  generalize yR pools marks s = P at *
  rw [← hP] at h1 h2 h3
  rw [← hE] at h2
  clear hP hE
  have h5 := znK P.1.syms P.1.items
  have hgr := zeF P.1.syms P.1.items
  have hat : ∀ x ∈ P.1.items.map (yQ P.1.syms), 0 ≤ x.at_ ∧ x.at_ ≤ P.2 := by
   intro x hx
   obtain ⟨y, hy, rfl⟩ := List.mem_map.1 hx
   have := h2.2 y hy
   unfold yQ
   split
   ·exact this
   ·exact this
  have hso : ∀ x ∈ P.1.items.map (yQ P.1.syms), wN pools x := by
   intro x hx
   obtain ⟨y, hy, h6⟩ := (h1.trans h5).from_ x hx
   exact zsJ h6 (hs y hy)
  split
  ·exact ⟨h1.trans h5, h4, hat⟩
  ·rename_i hn
   have hany : P.1.items.any (xz P.1.syms) = true := by
    cases hb : P.1.items.any (xz P.1.syms) with
    | true => rfl
    | false => exact absurd (.inl hb) hn
   have := hgr.2 hany
   have ih := zi3 (pools := pools) (marks := marks) f ⟨P.1.items.map (yQ P.1.syms), P.1.syms⟩ (by show xH (P.1.items.map (yQ P.1.syms)) < f; omega) hso
   exact ⟨(h1.trans h5).trans ih.sim, ih.syms.trans h4, ih.at_⟩
theorem zkP (syms : List zu) : ∀ (p : List zr) (o : Out), (p.foldl (fun o v => wg syms o v 4) o).code.length = o.code.length + 4 * p.length ∧ (p.foldl (fun o v => wg syms o v 4) o).rels.length ≤ o.rels.length + p.length
 | [], o => by simp
 | v :: p, o => by
  have h1 := zdd syms o v 4
  have h2 := zf0 syms o v 4
  obtain ⟨h3, h4⟩ := zkP syms p (wg syms o v 4)
  rw [List.foldl_cons]
  simp only [List.length_cons]
  omega
theorem kF (o : Out) (e line : Int) : (vQ o e line).code = o.code ∧ (vQ o e line).rels = o.rels := by unfold vQ; split <;> exact ⟨rfl, rfl⟩
theorem zde (o : Out) (i : Ins) (line : Int) : (xE o i line).rels = o.rels := by
 unfold xE
 split
 ·rfl
 ·exact (kF _ _ _).2
theorem zdf (o : Out) (i : Ins) (a to line : Int) : (xL o i a to line).rels = o.rels := by
 unfold xL
 split
 ·exact zde _ _ _
 ·exact (kF _ _ _).2
theorem zuk (o : Out) (x : zn) (to : Int) : (qf o x to).code.length ≤ o.code.length + 6 ∧ (qf o x to).rels = o.rels := by
 unfold qf
 split
 ·exact ⟨by have := zcA o x.ins x.at_ to x.line; omega, zdf _ _ _ _ _⟩
 ·have h1 := zcz o ⟨w64 (35 - x.ins.op), 0, 0, 1⟩ x.line
  have h2 := zcA (xE o ⟨w64 (35 - x.ins.op), 0, 0, 1⟩ x.line) ⟨19, 0, 0, 0⟩ (x.at_ + 2) to x.line
  have h3 := zcz (xL (xE o ⟨w64 (35 - x.ins.op), 0, 0, 1⟩ x.line) ⟨19, 0, 0, 0⟩ (x.at_ + 2) to x.line) ⟨1, 0, 0, 0⟩ x.line
  exact ⟨by omega, by rw [zde, zdf, zde]⟩
theorem zkQ (o : Out) (to : Int) : (wy o to).code.length ≤ o.code.length + to.toNat := by
 unfold wy
 simp only [List.length_append, List.length_replicate]
 omega
theorem zsK {pools : List (List zr)} {items : List zn} {syms : List zu} {o : Out} {x : zn} (hs : wN pools x) (h0 : 0 ≤ x.at_) (h1 : x.at_ ≤ 8000) (hp : ∀ p ∈ pools, p.length ≤ 9000) :
  (wT pools items syms o x).code.length ≤ o.code.length + 44100 ∧ (wT pools items syms o x).rels.length ≤ o.rels.length + 9000 := by
 have hu4 := je (n := x.at_) (k := 4) (by decide)
 unfold wT
 split
 ·rename_i h7
  have := hs.2.1 h7
  split
  ·rw [(kF _ _ _).1, (kF _ _ _).2]; omega
  ·have h2 := zdd syms o x.val x.size.toNat
   have h3 := zf0 syms o x.val x.size.toNat
   omega
 split
 ·rename_i h8
  have := hs.1 h8
  have hu := je (n := x.at_) this.1
  have h2 := zkQ o (upA x.at_ x.size)
  rw [zfZ]
  omega
 split
 ·have h2 := zkQ o (upA x.at_ 4)
  have h3 := zkP syms ((pools[x.pool.toNat]?).getD []) (wy o (upA x.at_ 4))
  rw [zfZ] at h3
  have h4 : ((pools[x.pool.toNat]?).getD []).length ≤ 9000 := by
   cases hg : pools[x.pool.toNat]? with
   | none => simp
   | some p => exact hp p (List.mem_of_getElem? hg)
  omega
 split
 ·rw [(kF _ _ _).1, (kF _ _ _).2]; omega
 split
 ·have := zcz o x.ins x.line; rw [zde]; omega
 split
 ·have := zcA o x.ins x.at_ (upA (itA items (znq x.pool items 0)).at_ 4 + 4 * x.idx) x.line; rw [zdf]; omega
 split
 ·rw [(kF _ _ _).1, (kF _ _ _).2]; omega
 split
 ·have := zuk o x (zO syms x.val).1; rw [this.2]; omega
 ·have := zcA o x.ins x.at_ (zO syms x.val).1 x.line; rw [zdf]; omega
theorem znL {α : Type} (p : α → Bool) : ∀ (l : List α) (k : Nat), (∃ x ∈ l, p x = true) → 0 ≤ xF p l k
 | [], k, h => by obtain ⟨x, h, _⟩ := h; cases h
 | y :: l, k, h => by
  rw [xF]
  split
  ·omega
  ·rename_i hn
   obtain ⟨x, h1, h2⟩ := h
   rcases List.mem_cons.1 h1 with rfl | h1
   ·exact absurd h2 hn
   ·exact znL p l (k + 1) ⟨x, h1, h2⟩
attribute [local irreducible] zh.kids zh.kind zh.n zh.name xk xE xU xL qf yr y0 zg w9 zM w8 wg
theorem zq3 (l : List zu) : zce (l.map yJ) (l.map yJ) := by
 refine ⟨rfl, fun i d d' h1 h2 => ?_⟩
 rw [h1] at h2
 cases h2
 simp only [List.getElem?_map, Option.map_eq_some_iff] at h1
 obtain ⟨c, _, rfl⟩ := h1
 refine ⟨rfl, rfl, fun j x x' h3 h4 => ?_⟩
 rw [h3] at h4
 cases h4
 match j, h3 with
 | 0, h3 =>
  cases h3
  intro w F ρ L v h
  cases h with | pure _ _ h => exact h
 | 1, h3 =>
  cases h3
  intro w F ρ L v h
  cases h with | pure _ _ h => exact h
 | j + 2, h3 => simp [yJ, D.cells] at h3
theorem zul {σ σ' : List (Nat × D)} (q : List zl) (items : List zn) (syms : List zu) (marks : List Int) (shut : List (List zr)) (cur : List zr) (fe fa : Int) (h : zgv (zD [0, 1, 2, 3, 4, 8, 9, 6, 7] 0) σ σ') :
  wl 0 σ (bO q ⟨items, syms, marks, shut, false, cur, fe, fa⟩ ++ [T4, T5]) σ' (eO q ⟨items, syms, marks, shut, false, cur, fe, fa⟩ ⟨[], [], fe, fa⟩ ++ [T4, T5]) := by
 have key : ∀ k, k < 5 → zD [0, 1, 2, 3, 4, 8, 9, 6, 7] 0 k = some k := by decide
 refine wo (vW 0 4 [.sl 2 (q.map wj) none, .osl 13 1 items.length 0 items.length, .osl 2 2 syms.length 0 syms.length, .sl 1 (marks.map (.int .i64)) (some 3), .osl 1 4 (zK ⟨items, syms, marks, shut, false, cur, fe, fa⟩).length 0 (zK ⟨items, syms, marks, shut, false, cur, fe, fa⟩).length,
  .int .i64 shut.length, .nilsl, .nilsl, .sl 4 [] (some 8), .int .i64 fe, .int .i64 fa] rfl ⟨.same, .same, .same, .same, .same, .same, .same, .same, .here, .same, .same, trivial⟩) ?_
 refine wo (vW 0 1 [.sl 2 (q.map wj) none, .osl 13 1 items.length 0 items.length, .osl 2 2 syms.length 0 syms.length, .sl 1 (marks.map (.int .i64)) (some 3), .osl 1 4 (zK ⟨items, syms, marks, shut, false, cur, fe, fa⟩).length 0 (zK ⟨items, syms, marks, shut, false, cur, fe, fa⟩).length,
  .int .i64 shut.length, .sl 1 [] (some 9), .nilsl, .sl 4 [] (some 8), .int .i64 fe, .int .i64 fa] rfl ⟨.same, .same, .same, .same, .same, .same, .here, .same, .same, .same, .same, trivial⟩) ?_
 refine jV [0, 1, 2, 3, 4, 8, 9, 6, 7] rfl rfl ?_ h
 exact .cons (o := .cells [.sl 2 (q.map wj) none, .osl 13 1 items.length 0 items.length, .osl 2 2 syms.length 0 syms.length, .sl 1 (marks.map (.int .i64)) (some 3), .osl 1 4 (zK ⟨items, syms, marks, shut, false, cur, fe, fa⟩).length 0 (zK ⟨items, syms, marks, shut, false, cur, fe, fa⟩).length,
   .int .i64 shut.length, .sl 1 [] (some 9), .nilsl, .sl 4 [] (some 8), .int .i64 fe, .int .i64 fa]) rfl
  ⟨_, rfl, .cons (.flat .sl) (.cons (.osl rfl) (.cons (.osl rfl) (.cons (.tok rfl) (.cons (.osl rfl) (.cons (.flat .int) (.cons (.tok rfl) (.cons (.flat .nilsl) (.cons (.tok rfl) (.cons (.flat .int) (.cons (.flat .int) .nil))))))))))⟩
  (.cons (o := .arr 13 (items.map xp)) rfl (ClO.arr (n := 5) (kC _) _ key) (.cons (o := .arr 2 (syms.map yJ)) rfl (ClO.arr (n := 5) (jK _) _ key) (.cons (o := .spare marks.length) rfl rfl (.cons (o := .arr 1 (shut.map xd)) rfl (ClO.arr (n := 5) (zhP _) _ key)
  (.cons (o := .spare 0) rfl rfl (.cons (o := .spare 0) rfl rfl
  (.cons (o := T4) rfl ⟨_, rfl, .cons (.flat .nilsl) (.cons (.flat .nilsl) (.cons (.flat .nilsl) .nil))⟩ (.cons (o := T5) rfl ⟨_, rfl, .cons (.flat .int) (.cons (.flat .int) .nil)⟩ .nil))))))))
theorem zf2 (pools : List (List zr)) (items : List zn) (syms : List zu) (x : zn) (l : List zn) (o : Out) : (x :: l).foldl (fun o x => if o.fe = 0 then wT pools items syms o x else o) o = l.foldl (fun o x => if o.fe = 0 then wT pools items syms o x else o) (if o.fe = 0 then wT pools items syms o x else o) := rfl
theorem zhc : za Tryz.prog zos (zz (fun ((l, q) : List zN × List zl) => kE l ≤ 9000 ∧ (∀ x ∈ l, wt (x.toks.map tk) ≤ 1048576) ∧ q.length ≤ 1000000 ∧ l.length ≤ 1000000) (fun (l, q) => [.sl 2 (l.map yZ) none, .sl 2 (q.map wj) none])
  fun (l, q) => .tup [qP (wz q l).1, .agg [.int .i64 (wz q l).2.1, .int .i64 (wz q l).2.2]]) := by
 refine zf zj Tryz.func19 rfl (by decide) ?_
 rintro ⟨l, q⟩ ⟨ht, hw, hq, hll⟩
 have ht : kE l ≤ 9000 := ht
 have hw : ∀ x ∈ l, wt (x.toks.map tk) ≤ 1048576 := hw
 have hq : q.length ≤ 1000000 := hq
 have hll : l.length ≤ 1000000 := hll
 refine ⟨Nat.le_refl _, by simp [Tryz.f19], fun E hE => ?_⟩
 have hE0 : E.L.length = 0 := by rw [hE]; rfl
 show AWP _ _ _ _ (vS _ _ _ (.tup [qP (wz q l).1, .agg [.int .i64 (wz q l).2.1, .int .i64 (wz q l).2.2]]) []) _ []
 refine wq (ze _ ?_)
 (all_goals refine qgp (Lf.mk ?_))
 refine wq (ze _ ?_)
 (all_goals refine qgp (Lf.mk ?_))
 refine wq (ze _ ?_)
 (all_goals refine qgp (Lf.mk ?_))
 refine zdK (α := Unit) (fun _ => True) (fun _ => [(4, .loc 6 0), (5, .loc 7 0), (6, .loc 0 0), (7, .int .i64 (zaO l))]) (fun _ => bO q (xB q l b0) ++ [T4, T5]) ?_ ?_
 ·refine ze _ ?_
  (all_goals refine qgp (Lf.mk ?_))
  refine y5 (α := Nat × Bld × Int) (fun p => p.1 ≤ l.length ∧ xB q (l.drop p.1) p.2.1 = xB q l b0 ∧ (l.drop p.1).foldl (fun _ x => x.pos) p.2.2 = zaO l ∧ zZ p.2.1 (1 + kE (l.drop p.1)))
   (fun p => [(4, .loc 6 0), (5, .loc 7 0), (6, .loc 0 0), (7, .int .i64 p.2.2), (14, .sl 2 (l.map yZ) none), (15, .int .i64 l.length), (16, .int .i64 p.1)]) (fun p => bO q p.2.1 ++ [T4, T5]) (fun p => l.length - p.1) (fun _ => by rw [hE0]; exact Nat.zero_le _) (0, b0, 0)
   ⟨Nat.zero_le _, rfl, rfl, zq2.less (by show 1 + kE l ≤ _; omega)⟩ ?_ ?_
  ·rw [hE0]
   exact zq1 q ⟨.loc rfl, .loc rfl, .loc rfl, .flat .int, .flat .sl, .flat .int, .flat .int, trivial⟩
  rintro ⟨k, b, la⟩ ⟨i1, i2, i3, i4⟩
  dsimp only at i1 i2 i3 i4 ⊢
  refine ze _ ?_
  (all_goals refine qgp ?_ <;> (repeat' first | exact trivial | intro hc | refine And.intro ?_ ?_) <;> refine Lf.mk ?_)
  ·obtain ⟨x, hx⟩ := yj (l := l) (k := k) (by omega)
   have hkl : k < l.length := by omega
   have hgx : l[k] = x := by rw [List.getElem?_eq_getElem hkl] at hx; exact Option.some.inj hx
   rw [List.drop_eq_getElem_cons hkl, hgx] at i2 i3 i4
   rw [zhb] at i2
   rw [List.foldl_cons] at i3
   rw [kE] at i4
   have hr' : zZ (xZ q b x) (1 + kE (l.drop (k + 1))) := zZ.line x (i4.less (by omega))
   refine zk x (by omega) (by simpa using hx) ?_
   (all_goals refine qgp (Lf.mk ?_))
   refine zsH q b x [T4, T5, .cells [.int .i64 x.pos, .sl 3 (x.toks.map wI) none]] (i4.less (by omega)) (hw x (List.mem_of_getElem? hx)) hq rfl rfl (fun hn => ?_) (fun hn hn' => ?_)
   ·(all_goals refine qgp (Lf.mk ?_))
    exact kw (k + 1, xZ q b x, x.pos) [.cells [.int .i64 x.pos, .sl 3 (x.toks.map wI) none]] ⟨by show k + 1 ≤ _; omega, i2, i3, hr'⟩ (by dsimp only; omega) (by simp) (by rw [hE0]; exact Nat.zero_le _) (zxm _ _) ⟨rfl, rfl, rfl, rfl, rfl, rfl, rfl, trivial⟩
     (.cons (.loc (Nat.lt_of_lt_of_le (by decide : 6 < 8) (Nat.le_of_eq rfl))) (.cons (.loc (Nat.lt_of_lt_of_le (by decide : 7 < 8) (Nat.le_of_eq rfl))) (.cons (.loc (Nat.lt_of_lt_of_le (by decide : 0 < 8) (Nat.le_of_eq rfl))) (.cons .int (.cons .sl (.cons .int (.cons .int .nil)))))))
   ·(all_goals refine qgp (Lf.mk ?_))
    refine zkA (k + 1, xZ q b x, x.pos) ⟨by show k + 1 ≤ _; omega, i2, i3, hr'⟩ (by dsimp only; omega) ?_
    rw [hE0]
    exact zsI q (xZ q b x) _ hn' ⟨.loc rfl, .loc rfl, .loc rfl, .flat .int, .flat .sl, .flat .int, .flat .int, trivial⟩
  ·have hk : k = l.length := by omega
   rw [hk, List.drop_length] at i2 i3
   have e1 : b = xB q l b0 := i2
   have e2 : la = zaO l := i3
   subst e1
   exact ⟨(), trivial, yv rfl ⟨rfl, rfl, rfl, by rw [← e2]; rfl, trivial⟩⟩
 ·rintro _ _
  have hroom : zZ (xB q l b0) (1000000 - 9000) := zi2 l (zq2.less (by omega))
  have hok : OkB 9000 (xB q l b0) := znJ (by decide) l (zq2.less (by omega)) (ok0 9000)
  have hroom2 : zZ (vP (xB q l b0) (zaO l)) 990999 := (hroom.less (by decide : 990999 + 1 ≤ 1000000 - 9000)).pool _
  have hok2 : OkB 9000 (vP (xB q l b0) (zaO l)) := hok.pool (by have := hroom.curl; omega) _
  have hsh := zsG (xB q l b0) (zaO l)
  have hbi := hroom.items
  have hbs := hroom.shut
  have hR : wz q l = zj1 (vP (xB q l b0) (zaO l)) := rfl
  rw [hR]
  generalize xB q l b0 = b1 at *
  refine wq (ze _ ?_)
  (all_goals refine qgp (Lf.mk ?_))
  refine zkK q b1 (zaO l) [T4, T5] (by omega) (by omega) rfl rfl ?_
  generalize vP b1 (zaO l) = b2 at *
  (all_goals refine qgp (Lf.mk ?_))
  obtain ⟨items, syms, marks, shut, has, cur, fe, fa⟩ := b2
  have hsh : has = false := hsh
  subst hsh
  clear hR hroom hok hbi hbs
  have hL : zj1 ⟨items, syms, marks, shut, false, cur, fe, fa⟩ = if fe ≠ 0 then (noO, fe, fa) else if 8000 < (yK shut marks ⟨items, syms⟩).2 then (noO, 4, 0)
   else if (vA shut (yK shut marks ⟨items, syms⟩).1.items (yK shut marks ⟨items, syms⟩).1.syms ⟨[], [], fe, fa⟩).fe ≠ 0
    then (noO, (vA shut (yK shut marks ⟨items, syms⟩).1.items (yK shut marks ⟨items, syms⟩).1.syms ⟨[], [], fe, fa⟩).fe, (vA shut (yK shut marks ⟨items, syms⟩).1.items (yK shut marks ⟨items, syms⟩).1.syms ⟨[], [], fe, fa⟩).fa)
   else (⟨(vA shut (yK shut marks ⟨items, syms⟩).1.items (yK shut marks ⟨items, syms⟩).1.syms ⟨[], [], fe, fa⟩).code, (yK shut marks ⟨items, syms⟩).1.syms,
    (vA shut (yK shut marks ⟨items, syms⟩).1.items (yK shut marks ⟨items, syms⟩).1.syms ⟨[], [], fe, fa⟩).rels⟩, 0, 0) := rfl
  generalize zj1 ⟨items, syms, marks, shut, false, cur, fe, fa⟩ = R at *
  refine wq (ze _ ?_)
  (all_goals refine qgp ?_ <;> (repeat' first | exact trivial | intro hc | refine And.intro ?_ ?_) <;> refine Lf.mk ?_)
  ·rw [if_pos hc] at hL
   subst hL
   exact zd (VS.mk (LeD.tup (.cons (LeD.agg (.cons (.nil 1) (.cons (.nil 2) (.cons (.nil 4) .nil)))) (LeL.refl _))))
  have hfe : fe = 0 := hc
  rw [if_neg (fun h => h hc)] at hL
  have hTl : ∀ p ∈ shut, p.length ≤ 9000 := hok2.shl
  have hsz : ∀ x ∈ items, wN shut x := fun x hx => by
   have := hok2.its x hx
   exact ⟨this.al, this.da, this.po, fun p hp => by have := hTl p hp; omega⟩
  have hil : items.length ≤ 9001 := by have := hroom2.items; dsimp only at this; omega
  have hml : marks.length ≤ 9001 := by have := hroom2.marks; dsimp only at this; omega
  have hlay : zab shut marks ⟨items, syms⟩ := ⟨hsz, by show items.length ≤ _; omega, hok2.len, by omega, hok2.pos⟩
  have hW := zi3 (pools := shut) (marks := marks) (xH items + 1) ⟨items, syms⟩ (Nat.lt_succ_self _) hsz
  have hW : zxo shut ⟨items, syms⟩ (yK shut marks ⟨items, syms⟩) := hW
  refine wq (ze _ ?_)
  (all_goals refine qgp (Lf.mk ?_))
  refine xr zoS [T4, T5] (⟨items, syms⟩, marks, shut, cur, fe, fa, q) hlay rfl (LeL.refl _) rfl (.cons (.loc (Nat.lt_of_lt_of_le (by decide : 0 < 6) (Nat.le_of_eq rfl))) .nil) .int (xl _ _) (xl _ _) ?_
  dsimp only
  generalize yK shut marks ⟨items, syms⟩ = W at *
  obtain ⟨⟨its, sys⟩, n⟩ := W
  dsimp only at hL ⊢
  (all_goals refine qgp ?_ <;> (repeat' first | exact trivial | intro hc | refine And.intro ?_ ?_) <;> refine Lf.mk ?_)
  ·rw [if_pos hc] at hL
   subst hL
   exact zd (VS.mk (LeD.tup (.cons (LeD.agg (.cons (.nil 1) (.cons (.nil 2) (.cons (.nil 4) .nil)))) (LeL.refl _))))
  rw [if_neg hc] at hL
  have hlen : its.length = items.length := hW.sim.len
  have hsl : sys.length = syms.length := hW.syms
  have hsyl : syms.length ≤ 9001 := by have := hok2.len; dsimp only at this; omega
  have hin : ∀ y ∈ its, znH ⟨its, sys, marks, shut, false, cur, fe, fa⟩ y := fun y hy => by
   obtain ⟨x, hx, hs⟩ := hW.sim.from_ y hy
   have hi := hok2.its x hx
   have ha := hW.at_ y hy
   refine ⟨zsJ hs (hsz x hx), ha.1, by omega, ?_, fun h6 => ?_⟩
   ·rw [hs.idx]; have := hi.ix; omega
   ·have hl := hi.li (by rw [← hs.kind]; exact h6)
    have h0 : zj0 false = 0 := rfl
    rw [h0] at hl
    dsimp only at hl
    obtain ⟨z, hz, hz9, hzp⟩ := hok2.put x.pool.toNat (by dsimp only; omega)
    obtain ⟨u, hu, hzu⟩ := hW.sim.to_ z hz
    refine znL _ _ _ ⟨u, hu, ?_⟩
    rw [hzu.kind, hz9, hzu.pool, hzp, hs.pool, Int.toNat_of_nonneg hl.1]
    simp
  have hgrow : ∀ (o : Out), ∀ y ∈ its, (wT shut its sys o y).code.length ≤ o.code.length + 44100 ∧ (wT shut its sys o y).rels.length ≤ o.rels.length + 9000 := fun o y hy => by
   have ha := hW.at_ y hy
   exact zsK (hin y hy).size ha.1 (by omega) hTl
  have hF : vA shut its sys ⟨[], [], fe, fa⟩ = its.foldl (fun o x => if o.fe = 0 then wT shut its sys o x else o) ⟨[], [], fe, fa⟩ := rfl
  generalize vA shut its sys ⟨[], [], fe, fa⟩ = F at *
  refine zdK (α := Unit) (fun _ => True) (fun _ => [(4, .loc 7 0), (5, .loc 8 0), (6, .loc 0 0)]) (fun _ => eO q ⟨its, sys, marks, shut, false, cur, fe, fa⟩ F ++ [T4, T5]) ?_ ?_
  ·refine ze _ ?_
   (all_goals refine qgp (Lf.mk ?_))
   refine y5 (α := Nat × Out) (fun p => p.1 ≤ its.length ∧ (its.drop p.1).foldl (fun o x => if o.fe = 0 then wT shut its sys o x else o) p.2 = F ∧ p.2.code.length ≤ 44100 * p.1 ∧ p.2.rels.length ≤ 9000 * p.1)
    (fun p => [(4, .loc 7 0), (5, .loc 8 0), (6, .loc 0 0), (49, .int .i64 its.length), (50, .int .i64 p.1)]) (fun p => eO q ⟨its, sys, marks, shut, false, cur, fe, fa⟩ p.2 ++ [T4, T5]) (fun p => its.length - p.1) (fun _ => by rw [hE0]; exact Nat.zero_le _) (0, ⟨[], [], fe, fa⟩)
    ⟨Nat.zero_le _, hF.symm, Nat.le_refl _, Nat.le_refl _⟩ ?_ ?_
   ·rw [hE0]
    exact zul q its sys marks shut cur fe fa ⟨.loc rfl, .loc rfl, .loc rfl, .flat .int, .flat .int, trivial⟩
   rintro ⟨k, o⟩ ⟨j1, j2, j3, j4⟩
   dsimp only at j1 j2 j3 j4 ⊢
   refine ze _ ?_
   (all_goals refine qgp ?_ <;> (repeat' first | exact trivial | intro hc | refine And.intro ?_ ?_) <;> refine Lf.mk ?_)
   ·obtain ⟨x, hx⟩ := yj (l := its) (k := k) (by omega)
    have hkl : k < its.length := by omega
    have hgx : its[k] = x := by rw [List.getElem?_eq_getElem hkl] at hx; exact Option.some.inj hx
    rw [List.drop_eq_getElem_cons hkl, hgx, zf2, if_pos (by assumption)] at j2
    obtain ⟨g1, g2⟩ := hgrow o x (List.mem_of_getElem? hx)
    refine xr zoV [T4, T5] (⟨its, sys, marks, shut, false, cur, fe, fa⟩, o, k, x, q) ⟨rfl, hx, hin, by show its.length ≤ _; omega, by show sys.length ≤ _; omega, by show o.code.length ≤ _; omega, by show o.rels.length ≤ _; omega⟩ rfl
     (LeL.of_eq (by show [D.loc 0 0, .aloc 1 its.length (0 + ((k : Nat) : Int).toNat) 0] = _; rw [Nat.zero_add, Int.toNat_natCast])) rfl
     (.cons (.loc (Nat.lt_of_lt_of_le (by decide : 0 < 7) (Nat.le_of_eq rfl))) (.cons (.aloc (Nat.lt_of_lt_of_le (by decide : 1 < 7) (Nat.le_of_eq rfl))) .nil)) .tup0 (va _ _ _) (va _ _ _) ?_
    have hem : emB ⟨its, sys, marks, shut, false, cur, fe, fa⟩ o x = wT shut its sys o x := rfl
    dsimp only
    rw [hem]
    generalize wT shut its sys o x = o2 at *
    (all_goals refine qgp (Lf.mk ?_))
    exact yP (k + 1, o2) ⟨by show k + 1 ≤ _; omega, j2, by dsimp only; omega, by dsimp only; omega⟩ (by dsimp only; omega) rfl ⟨rfl, rfl, rfl, rfl, rfl, trivial⟩
   ·have hkl : k < its.length := by omega
    rw [List.drop_eq_getElem_cons hkl, zf2, if_neg hc] at j2
    exact yP (k + 1, o) ⟨by show k + 1 ≤ _; omega, j2, by dsimp only; omega, by dsimp only; omega⟩ (by dsimp only; omega) rfl ⟨rfl, rfl, rfl, rfl, rfl, trivial⟩
   ·have hk : k = its.length := by omega
    rw [hk, List.drop_length] at j2
    have j2 : o = F := j2
    subst j2
    exact ⟨(), trivial, yv rfl ⟨rfl, rfl, rfl, trivial⟩⟩
  ·rintro _ _
   refine ze _ ?_
   (all_goals refine qgp ?_ <;> (repeat' first | exact trivial | intro hc | refine And.intro ?_ ?_) <;> refine Lf.mk ?_)
   ·rw [if_pos hc] at hL
    subst hL
    exact zd (VS.mk (LeD.tup (.cons (LeD.agg (.cons (.nil 1) (.cons (.nil 2) (.cons (.nil 4) .nil)))) (LeL.refl _))))
   ·rw [if_neg (fun h => h hc)] at hL
    subst hL
    refine zed (k := 2) (e := 2) (els := sys.map yJ) (els' := sys.map yJ) (r1 := .tup [.agg [.sl 1 (F.code.map zE) (some 6), .sl 2 (sys.map yJ) (some 9), .sl 4 (F.rels.map zbE) (some 5)], .agg [.int .i64 0, .int .i64 0]]) rfl (Nat.zero_le 2) (zq3 sys) ?_ ?_ (Nat.zero_le _)
    ·refine .tup _ _ rfl fun i d d' h1 h2 => ?_
     match i, h1, h2 with
     | 0, h1, h2 =>
      cases h1
      cases h2
      refine .agg _ _ rfl fun j c c' g1 g2 => ?_
      match j, g1, g2 with
      | 0, g1, g2 => cases g1; cases g2; exact .keep _
      | 1, g1, g2 => cases g1; cases g2; exact .here _ _ (by simp) (by simp)
      | 2, g1, g2 => cases g1; cases g2; exact .keep _
      | j + 3, g1, g2 => cases g1
     | 1, h1, h2 => cases h1; cases h2; exact .keep _
     | i + 2, h1, h2 => cases h1
    ·exact zd (VS.mk (LeD.tup (.cons (LeD.agg (.cons (.strip _ _ _) (.cons (.strip _ _ _) (.cons (.strip _ _ _) .nil)))) (LeL.refl _))))
end Go.Proofs.YthmdddenbfbefaaGreatDoor
namespace Go.Proofs.YthmdddenbfbefaaGreatDoor
open Go Go.Plat
set_option linter.unusedVariables false
set_option linter.unusedSimpArgs false
set_option maxRecDepth 100000
set_option maxHeartbeats 2000000
attribute [local irreducible] AWP zC yg zJ zo yw z8 zH z1 z6 zt za zP yx zp z7 yt yu yi yk zw zx zy xN yE ym yh zF vo xt vT xP xM wr okC puF puR xY zI xX
theorem zsL {α : Type} {l : List α} {k : Nat} {x : α} (h : l[k]? = some x) : l.take (k + 1) = l.take k ++ [x] := by
 have hk := (List.getElem?_eq_some_iff.1 h).1
 rw [List.take_succ_eq_append_getElem hk]
 congr 2
 rw [List.getElem?_eq_getElem hk] at h
 exact Option.some.inj h
theorem zi4 : za Tryz.prog zqo (zz (fun l : List zN => l.length ≤ 1000000000 ∧ ∀ x ∈ l, x.toks.length ≤ 1000000000) (fun l => [.sl 2 (l.map yZ) none]) fun l => .sl 2 (l.map yZ) none) := by
 refine zf zj Tryz.func119 rfl (by decide) ?_
 rintro l ⟨hl, ht⟩
 refine ⟨Nat.le_refl _, by simp [Tryz.f119], fun E hE => ?_⟩
 refine ze _ ?_
 (all_goals refine qgp (Lf.mk ?_))
 refine wP (kq 3 2 rfl) ?_
 refine yb (α := Nat) (fun k => k ≤ l.length)
  (fun k => [(3, .sl 2 ((l.take k).map yZ) (some 0)), (6, .sl 2 (l.map yZ) none), (7, .int .i64 l.length), (8, .int .i64 k)])
  (fun k => [.spare (l.take k).length]) (fun k => l.length - k) (fun _ => by simp [hE]) 0 (Nat.zero_le _) ?_ ?_
 ·(repeat' (first | (refine VS.mk ?_) | exact trivial | exact rfl | refine And.intro ?_ ?_))
 intro k hk
 have hkl : (l.take k).length = k := by rw [List.length_take]; omega
 refine ze _ ?_
 (all_goals refine qgp ?_ <;> (repeat' first | exact trivial | intro hc | refine And.intro ?_ ?_) <;> refine Lf.mk ?_)
 ·obtain ⟨x, hx⟩ : ∃ x, l[k]? = some x := ⟨_, List.getElem?_eq_getElem (by omega)⟩
  have hS := zsL hx
  have hkl1 : (l.take (k + 1)).length = k + 1 := by rw [List.length_take]; omega
  have hxt := ht x (List.mem_of_getElem? hx)
  refine zk x (by omega) (by simpa using hx) ?_
  (all_goals refine qgp (Lf.mk ?_))
  refine zA (k + 1) (by omega) (by omega) ?_
  (repeat' (first | (refine VS.mk ?_) | exact trivial | exact rfl | refine And.intro ?_ ?_))
  ·rw [hkl1, List.length_append, List.length_map, hkl]; rfl
  ·rw [hS, List.map_append, List.map_cons, List.map_nil]; rfl
 ·have e : l.take k = l := List.take_of_length_le (by omega)
  rw [e]
  exact zd (VS.mk (LeD.of_eq rfl))
end Go.Proofs.YthmdddenbfbefaaGreatDoor
namespace Go.Proofs.YthmdddenbfbefaaGreatDoor
open Go Go.Plat
set_option linter.unusedVariables false
set_option linter.unusedSimpArgs false
set_option maxRecDepth 100000
set_option maxHeartbeats 2000000
attribute [local irreducible] AWP zC yg zJ zo yw z8 zH z1 Lib.itoa z6 zt za zP yx zp z7 zh.kids zh.kind zh.n zh.name yt yu yi yk zw zx xw xK zy wz yI xb xk w6 xE wv y6 xU xL yF yL qf yr y0 xJ xv wR zg y7 w9 zM zO w8 wg zU
def vt (x : zN) : List UInt8 := match x.toks with
 | t :: _ => if t.kind = 1 then t.text else []
 | [] => []
theorem qp : za Tryz.prog zmI (zz (fun x : zN => x.toks.length ≤ 1000000000) (fun x => [yZ x]) fun x => .str (vt x)) := by
 refine zf zj Tryz.func114 rfl (by decide) ?_
 rintro ⟨pos, toks⟩ hl
 have hl : toks.length ≤ 1000000000 := hl
 refine ⟨Nat.le_refl _, by simp [Tryz.f114], fun E hE => ?_⟩
 cases toks with
 | nil =>
  refine ze _ ?_
  (all_goals refine qgp ?_ <;> (repeat' first | exact trivial | intro hc | refine And.intro ?_ ?_) <;> refine Lf.mk ?_)
  exact zd (VS.mk (LeD.refl _))
 | cons t r =>
  have hl : r.length + 1 ≤ 1000000000 := hl
  refine ze _ ?_
  (all_goals refine qgp ?_ <;> (repeat' first | exact trivial | intro hc | refine And.intro ?_ ?_) <;> refine Lf.mk ?_)
  all_goals refine zd (VS.mk (LeD.of_eq (congrArg D.str ?_)))
  ·unfold vt; dsimp only; rw [if_neg hc]
  ·unfold vt; dsimp only; rw [if_pos hc]
def mC (out : List zN) (looked fe fa : Int) : List D := [.nilsl, .nilsl, .sl 2 (out.map yZ) (some 1), .int .i64 looked, .int .i64 fe, .int .i64 fa]
def mO (out : List zN) (looked fe fa : Int) : List Ob := [.cells (mC out looked fe fa), .spare out.length]
theorem qq (out : List zN) (looked fe fa : Int) : ∀ x ∈ mO out looked fe fa, ClO 2 x := by
 intro x hx
 simp only [mO, List.mem_cons, List.not_mem_nil, or_false] at hx
 rcases hx with rfl | rfl
 ·exact .cells (.cons .nilsl (.cons .nilsl (.cons (.tok (by decide)) (.cons .int (.cons .int (.cons .int .nil))))))
 ·exact .spare
theorem zhd : za Tryz.prog zfG (ya (fun _ : List zN × Int × Int × Int × List UInt8 => True) (fun (_, _, _, _, name) => [.loc 0 0, .str name]) (fun (out, looked, fe, fa, _) => mO out looked fe fa) (fun _ => .int .i64 (-1)) fun (out, looked, fe, fa, _) => mO out looked fe fa) := by
 refine zf zj Tryz.func117 rfl (by decide) ?_
 rintro ⟨out, looked, fe, fa, name⟩ _
 refine ⟨Nat.le_refl _, by simp [Tryz.f117], fun E hE => ?_⟩
 refine ze _ ?_
 (all_goals refine qgp (Lf.mk ?_))
 refine ql zj Tryz.func169 rfl (by decide) (.int .i64 (-1)) (mO out looked fe fa ++ [.cells [.str name]]) (Nat.le_refl _) (by simp [Tryz.f169]) (fun E' hE' => ?_) ?_
 ·refine ze _ ?_
  (all_goals refine qgp (Lf.mk ?_))
  refine zef (ze _ ?_)
  (all_goals refine qgp ?_ <;> (repeat' first | exact trivial | intro hc | refine And.intro ?_ ?_) <;> refine Lf.mk ?_)
  exact xx rfl rfl
 ·(all_goals refine qgp (Lf.mk ?_))
  exact qZ (mO out looked fe fa) [_] rfl (Nat.le_refl _) .int (qq _ _ _ _)
def wA (h : List UInt8) : Prop := h ≠ [46, 109, 97, 99, 114, 111] ∧ h ≠ [46, 114, 101, 112, 116] ∧ h ≠ [46, 105, 102] ∧ h ≠ [46, 101, 110, 100, 109] ∧ h ≠ [46, 101, 110, 100, 114] ∧ h ≠ [46, 101, 110, 100, 105, 102] ∧ h ≠ [46, 101, 108, 115, 101] ∧ h ≠ [46, 101, 113, 117]
instance (h : List UInt8) : Decidable (wA h) := by unfold wA; infer_instance
theorem zf3 : za Tryz.prog zah (ya (fun ((l, out, looked, deep) : List zN × List zN × Int × Int) => 0 ≤ deep ∧ deep ≤ 6 ∧ out.length + l.length ≤ 200 ∧ 0 ≤ looked ∧ looked + (l.length : Int) ≤ 4000 ∧ ∀ x ∈ l, wA (vt x) ∧ x.toks.length ≤ 1000000000)
  (fun (l, _, _, deep) => [.loc 0 0, .sl 2 (l.map yZ) none, .int .i64 deep]) (fun (_, out, looked, _) => mO out looked 0 0) (fun _ => .tup []) fun (l, out, looked, _) => mO (out ++ l) (looked + (l.length : Int)) 0 0) := by
 refine zf zj Tryz.func59 rfl (by decide) ?_
 rintro ⟨l, out, looked, deep⟩ ⟨hd0, hd1, hol, hk0, hk1, hl⟩
 have hd1 : deep ≤ 6 := hd1
 have hol : out.length + l.length ≤ 200 := hol
 have hk0 : 0 ≤ looked := hk0
 have hk1 : looked + (l.length : Int) ≤ 4000 := hk1
 have hl : ∀ x ∈ l, wA (vt x) ∧ x.toks.length ≤ 1000000000 := hl
 refine ⟨Nat.le_refl _, by simp [Tryz.f59], fun E hE => ?_⟩
 have hE2 : E.L.length = 2 := by rw [hE]; rfl
 refine ze _ ?_
 (all_goals refine qgp ?_ <;> (repeat' first | exact trivial | intro hc | refine And.intro ?_ ?_) <;> refine Lf.mk ?_)
 refine y5 (α := Nat) (fun k => k ≤ l.length) (fun k => [(0, .loc 0 0), (1, .sl 2 (l.map yZ) none), (2, .int .i64 deep), (7, .int .i64 k)]) (fun k => mO (out ++ l.take k) (looked + (k : Int)) 0 0) (fun k => l.length - k) (fun _ => by rw [hE2]; exact Nat.le_refl 2) 0 (Nat.zero_le _) ?_ ?_
 ·exact yv (by simp) ⟨rfl, rfl, rfl, rfl, trivial⟩
 intro k hk
 have hk : k ≤ l.length := hk
 refine ze _ ?_
 (all_goals refine qgp ?_ <;> (repeat' first | exact trivial | intro hc | refine And.intro ?_ ?_) <;> refine Lf.mk ?_)
 ·obtain ⟨x, hx⟩ := yj (l := l) (k := k) (by omega)
  have hkl : k < l.length := by omega
  have hgx : l[k] = x := by rw [List.getElem?_eq_getElem hkl] at hx; exact Option.some.inj hx
  obtain ⟨hp, hxl⟩ := hl x (List.mem_of_getElem? hx)
  have hxk : l[((k : Nat) : Int).toNat]? = some x := by rw [Int.toNat_natCast]; exact hx
  refine zk x (Int.natCast_nonneg k) hxk ?_
  (all_goals refine qgp (Lf.mk ?_))
  refine zb qp x hxl (VS.mk (LeL.of_eq rfl)) ?_
  obtain ⟨p1, p2, p3, p4, p5, p6, p7, p8⟩ := hp
  (all_goals refine qgp ?_ <;> (repeat' first | exact trivial | intro hc | refine And.intro ?_ ?_) <;> refine Lf.mk ?_)
  all_goals first
   | (exfalso; exact p1 (by assumption))
   | (exfalso; exact p2 (by assumption))
   | (exfalso; exact p3 (by assumption))
   | (exfalso; exact p4 (by assumption))
   | (exfalso; exact p5 (by assumption))
   | (exfalso; exact p6 (by assumption))
   | (exfalso; exact p7 (by assumption))
   | (exfalso; exact p8 (by assumption))
   | skip
  have hok : (out ++ l.take k).length = out.length + k := by rw [List.length_append, List.length_take]; omega
  refine xr zhd [] (out ++ l.take k, looked + (k : Int) + 1, 0, 0, vt x) trivial rfl (LeL.refl _) rfl (.cons (.loc (Nat.lt_of_lt_of_le (by decide : 0 < 2) (Nat.le_of_eq rfl))) (.cons .str .nil)) .int (qq _ _ _ _) (qq _ _ _ _) ?_
  have htk : (l.take (k + 1)).drop k = [x] := by
   rw [List.take_succ_eq_append_getElem hkl, List.drop_left' (by rw [List.length_take]; omega), hgx]
  have htk2 : out ++ l.take (k + 1) = (out ++ l.take k) ++ [x] := by rw [List.take_succ_eq_append_getElem hkl, hgx, List.append_assoc]
  generalize out ++ l.take k = ok at *
  (all_goals refine qgk ?_ <;> (repeat' first | exact trivial | intro hc | refine And.intro ?_ ?_) <;> refine Lf.mk ?_)
  ·exact absurd hc (by decide)
  ·exfalso; omega
  refine zb zi4 [x] ⟨by simp, fun y hy => by rw [List.mem_singleton] at hy; subst hy; exact hxl⟩ (VS.mk (LeL.of_eq (by rw [Int.toNat_natCast, show (((k : Nat) : Int) + 1).toNat = k + 1 by omega, htk]))) ?_
  (all_goals refine qgk (Lf.mk ?_))
  exact yP (k + 1) (by show k + 1 ≤ _; omega) (by omega) (by dsimp only; rw [htk2, show looked + (((k + 1 : Nat)) : Int) = looked + (k : Int) + 1 by omega]; rfl) ⟨rfl, rfl, rfl, rfl, trivial⟩
 ·exact absurd trivial hc
 ·have hk2 : k = l.length := by omega
  rw [hk2, List.take_length]
  exact xx rfl rfl
def zsM (l : List zN) : Prop := l.length ≤ 200 ∧ ∀ x ∈ l, wA (vt x) ∧ x.toks.length ≤ 1000000000
theorem znM : za Tryz.prog zdL (zz (fun l : List zN => zsM l) (fun l => [.sl 2 (l.map yZ) none]) fun l => .tup [.sl 2 (l.map yZ) none, .sl 2 [] none, .agg [.int .i64 0, .int .i64 0]]) := by
 refine zf zj Tryz.func32 rfl (by decide) ?_
 rintro l ⟨hl, hp⟩
 refine ⟨Nat.le_refl _, by simp [Tryz.f32], fun E hE => ?_⟩
 have hE0 : E.L.length = 0 := by rw [hE]; rfl
 refine wq (ze _ ?_)
 (all_goals refine qgp (Lf.mk ?_))
 refine wq (ze _ ?_)
 (all_goals refine qgp (Lf.mk ?_))
 refine wP (σ' := [(0, .sl 2 (l.map yZ) none), (4, .loc 2 0), (5, .loc 0 0)]) (L' := mO [] 0 0 0 ++ [T5]) ?_ ?_
 ·rw [hE0]
  refine wo (vW 1 2 [.nilsl, .nilsl, .sl 2 [] (some 2), .int .i64 0, .int .i64 0, .int .i64 0] rfl ⟨.same, .same, .here, .same, .same, .same, trivial⟩) ?_
  refine jV [1, 2, 0] rfl rfl ?_ ⟨.flat .sl, .loc rfl, .loc rfl, trivial⟩
  exact .cons (o := .cells [.nilsl, .nilsl, .sl 2 [] (some 2), .int .i64 0, .int .i64 0, .int .i64 0]) rfl ⟨_, rfl, .cons (.flat .nilsl) (.cons (.flat .nilsl) (.cons (.tok rfl) (.cons (.flat .int) (.cons (.flat .int) (.cons (.flat .int) .nil)))))⟩
   (.cons (o := .spare 0) rfl rfl (.cons (o := T5) rfl ⟨_, rfl, .cons (.flat .int) (.cons (.flat .int) .nil)⟩ .nil))
 refine ze _ ?_
 (all_goals refine qgp (Lf.mk ?_))
 refine xr zf3 [T5] (l, [], 0, 0) ⟨by decide, by decide, by simpa using hl, by decide, by show 0 + (l.length : Int) ≤ 4000; omega, hp⟩ rfl (LeL.refl _) rfl (.cons (.loc (Nat.lt_of_lt_of_le (by decide : 0 < 2) (Nat.le_of_eq rfl))) (.cons .sl (.cons .int .nil))) .tup0 (qq _ _ _ _) (qq _ _ _ _) ?_
 dsimp only
 rw [List.nil_append]
 (all_goals refine qgp ?_ <;> (repeat' first | exact trivial | intro hc | refine And.intro ?_ ?_) <;> refine Lf.mk ?_)
 ·exact absurd trivial hc
 ·exact zd (VS.mk (LeD.tup (.cons (.strip _ _ _) (.cons (.nil 2) (LeL.refl _)))))
end Go.Proofs.YthmdddenbfbefaaGreatDoor
namespace Go.Proofs.YthmdddenbfbefaaGreatDoor
open Go Go.Plat
set_option linter.unusedVariables false
set_option linter.unusedSimpArgs false
set_option maxRecDepth 100000
set_option maxHeartbeats 2000000
attribute [local irreducible] AWP zC yg zJ zo yw z8 zH z1 z6 zt za zP yx zp z7 yt yu yi yk zw zx zy xN yE ym yh zF vo xt vT xP xM wr okC puF puR xY zI xX
end Go.Proofs.YthmdddenbfbefaaGreatDoor
namespace Go.Proofs.YthmdddenbfbefaaGreatDoor
open Go Go.Plat
set_option linter.unusedVariables false
set_option linter.unusedSimpArgs false
set_option maxRecDepth 100000
set_option maxHeartbeats 2000000
attribute [local irreducible] AWP zC yg zJ zo yw z8 zH z1 Lib.itoa z6 zt za zP yx zp z7 zh.kids zh.kind zh.n zh.name yt yu yi yk zw zx xw xK zy wz yI xb xk w6 xE wv y6 xU xL yF yL qf yr y0 xJ xv wR zg y7 w9 zM zO w8 wg zU
def zdg (b : List UInt8) : xc × Int × Int := if (yF b).2.1 ≠ 0 then (noO, (yF b).2.1, (yF b).2.2) else wz [] (yF b).1
structure zi5 (b : List UInt8) : Prop where
 len : b.length ≤ 1000000000
 plain : zsM (yF b).1
 tot : kE (yF b).1 ≤ 9000
 wts : ∀ x ∈ (yF b).1, wt (x.toks.map tk) ≤ 1048576
theorem zq4 : za Tryz.prog zej (zz zi5 (fun b => [.sl 1 (b.map zE) none]) fun b => .tup [qP (zdg b).1, .agg [.int .i64 (zdg b).2.1, .int .i64 (zdg b).2.2]]) := by
 refine zf zj Tryz.func13 rfl (by decide) ?_
 rintro b ⟨h1, h2, h3, h4⟩
 refine ⟨Nat.le_refl _, by simp [Tryz.f13], fun E hE => ?_⟩
 have hU : zdg b = if (yF b).2.1 ≠ 0 then (noO, (yF b).2.1, (yF b).2.2) else wz [] (yF b).1 := rfl
 generalize zdg b = U at *
 refine ze _ ?_
 (all_goals refine qgp (Lf.mk ?_))
 refine zb zco b h1 (VS.mk (LeL.of_eq rfl)) ?_
 have hD : zm2 (yF b) = .tup [.sl 2 ((yF b).1.map yZ) none, .agg [.int .i64 (yF b).2.1, .int .i64 (yF b).2.2]] := rfl
 rw [hD]
 generalize yF b = W at *
 obtain ⟨l, e, a⟩ := W
 dsimp only at h2 h3 h4 hU ⊢
 (all_goals refine qgp ?_ <;> (repeat' first | exact trivial | intro hc | refine And.intro ?_ ?_) <;> refine Lf.mk ?_)
 ·rw [if_pos hc] at hU
  subst hU
  exact zd (VS.mk (LeD.tup (.cons (LeD.agg (.cons (.nil 1) (.cons (.nil 2) (.cons (.nil 4) .nil)))) (LeL.refl _))))
 rw [if_neg (fun h => h hc)] at hU
 refine zb znM l h2 (VS.mk (LeL.of_eq rfl)) ?_
 (all_goals refine qgp ?_ <;> (repeat' first | exact trivial | intro hc | refine And.intro ?_ ?_) <;> refine Lf.mk ?_)
 ·exact absurd trivial hc
 refine zb zhc (l, []) ⟨h3, h4, by decide, by have := h2.1; show l.length ≤ _; omega⟩ (VS.mk (LeL.of_eq rfl)) ?_
 dsimp only
 rw [← hU]
 (all_goals refine qgp (Lf.mk ?_))
 exact zd (VS.mk (LeD.refl _))
end Go.Proofs.YthmdddenbfbefaaGreatDoor
namespace Go.Proofs.YthmdddenbfbefaaGreatDoor
open Go Go.Plat
set_option linter.unusedVariables false
set_option linter.unusedSimpArgs false
set_option maxRecDepth 100000
set_option maxHeartbeats 2000000
attribute [local irreducible] AWP zC yg zJ zo yw z8 zH z1 z6 zt za zP yx zp z7 yt yu yi yk zw zx zy xN yE ym yh zF vo xt vT yF yL xP xM wr okC puF puR xY zI xX
end Go.Proofs.YthmdddenbfbefaaGreatDoor
namespace Go.Proofs.YthmdddenbfbefaaGreatDoor
open Go Go.Plat
set_option linter.unusedVariables false
set_option linter.unusedSimpArgs false
set_option maxRecDepth 100000
set_option maxHeartbeats 2000000
attribute [local irreducible] AWP zC yg zJ zo yw z8 zH z1 z6 zt za zP yx zp z7 yt yu yi yk zw zx zy xN yE ym yh zF vo xt vT yL xP xM wr okC puF puR xY zI xX
theorem zsN (a b : List UInt8) : yy 10 (a ++ 10 :: b) = yy 10 a ++ yy 10 b := by
 induction a with
 | nil =>
  show (if (10 : UInt8) = 10 then [] :: yy 10 b else _) = _
  rw [if_pos rfl]; rfl
 | cons c a ih =>
  rw [List.cons_append, yy, yy, ih]
  split
  ·rfl
  ·have h := jI 10 a
   cases hs : yy 10 a with
   | nil => rw [hs] at h; simp at h
   | cons x r => rfl
end Go.Proofs.YthmdddenbfbefaaGreatDoor
namespace Go.Proofs.YthmdddenbfbefaaGreatDoor
open Go Go.Plat
set_option linter.unusedVariables false
set_option linter.unusedSimpArgs false
set_option maxRecDepth 100000
set_option maxHeartbeats 2000000
attribute [local irreducible] AWP zC yg zJ zo yw z8 zH z1 z6 zt za zP yx zp z7 yt yu yi yk zw zx zy
theorem zq5 (n : Int) : zg (zg n 32) 32 = zg n 32 := by
 have h : ∀ n, zg n 32 = if n % 4294967296 / 2147483648 = 1 then n % 4294967296 - 4294967296 else n % 4294967296 := fun _ => rfl
 have h1 := h n
 have h2 := h (zg n 32)
 generalize zg n 32 = m at *
 rw [h2]
 split at h1 <;> split <;> omega
theorem zum {n : Int} (h0 : 0 ≤ n) (h1 : n < 4294967296) : zg n 32 = if n < 2147483648 then n else n - 4294967296 := by
 have : zg n 32 = if n % 4294967296 / 2147483648 = 1 then n % 4294967296 - 4294967296 else n % 4294967296 := rfl
 rw [this]
 split
 ·rw [if_neg (by omega)]; omega
 ·rw [if_pos (by omega)]; omega
theorem zkR : ∀ (a : List UInt8), (∀ c ∈ a, c ≠ 10) → yy 10 a = [a]
 | [], _ => rfl
 | c :: a, h => by
  have ih := zkR a fun x hx => h x (List.mem_cons_of_mem _ hx)
  rw [yy, if_neg (h c List.mem_cons_self), ih]
theorem zwa {u : Nat} (h : u < 4294967296) : (Lib.decDigits u).length ≤ 10 := by
 rw [Lib.decDigits_length]
 have key : ∀ k v : Nat, v < 10 ^ k → 1 ≤ k → Lib.nDigits v ≤ k := fun k => by
  induction k with
  | zero => intro v h1 h2; omega
  | succ k ih =>
   intro v h1 h2
   by_cases hv : v < 10
   ·rw [Lib.nDigits_small hv]; omega
   ·rw [Lib.nDigits_big hv]
    rw [Nat.pow_succ] at h1
    by_cases hk : k = 0
    ·subst hk; omega
    ·have := ih (v / 10) (by omega) (by omega); omega
 exact key 10 u (by omega) (by decide)
def x7 : List UInt8 := [46, 114, 101, 112, 116]
def zad : List UInt8 := [46, 101, 110, 100, 114]
def zaD (k : Int) : zN := ⟨k, [⟨1, 0, [110, 111, 112]⟩]⟩
def zq6 (k n : Int) : zN := ⟨k, [⟨1, 0, x7⟩, ⟨2, n, []⟩]⟩
def zlM (k : Int) : zN := ⟨k, [⟨1, 0, zad⟩]⟩
theorem znN {u : Nat} (h1 : u < 4294967296) : vT (x7 ++ 32 :: Lib.itoa (u : Int)) = ([⟨1, 0, x7⟩, ⟨2, u, []⟩], 0) ∧ (x7 ++ 32 :: Lib.itoa (u : Int)).length ≤ 16 ∧ ∀ c ∈ x7 ++ 32 :: Lib.itoa (u : Int), c ≠ 10 := by
 have hi : Lib.itoa (u : Int) = Lib.decDigits u := by unfold Lib.itoa; rw [if_neg (by omega), Int.toNat_natCast]
 have hl := zwa h1
 have hlen : (x7 ++ 32 :: Lib.itoa (u : Int)).length ≤ 16 := by unfold x7; rw [hi]; simp; omega
 refine ⟨?_, hlen, ?_⟩
 ·rw [zpe, if_neg (by omega)]
  have hx : xt (x7 ++ 32 :: Lib.itoa (u : Int)) [] = some [⟨1, 0, x7⟩, ⟨2, u, []⟩] := by
   rw [hi, show x7 ++ 32 :: Lib.decDigits u = (46 :: [114, 101, 112, 116]) ++ (32 :: Lib.decDigits u) from rfl, ztM (c := 46) (s := [114, 101, 112, 116]) (rest := 32 :: Lib.decDigits u) (by decide +kernel) (by decide +kernel) rfl, zrV]
   have := zvI h1 (rest := []) trivial ([] ++ [⟨1, 0, 46 :: [114, 101, 112, 116]⟩])
   rw [List.append_nil] at this
   rw [this, zhH]
   rfl
  rw [hx]
  rfl
 ·intro c hc
  rcases List.mem_append.1 hc with hc | hc
  ·simp only [x7, List.mem_cons, List.not_mem_nil, or_false] at hc
   rcases hc with rfl | rfl | rfl | rfl | rfl <;> decide
  ·rcases List.mem_cons.1 hc with rfl | hc
   ·decide
   ·rw [hi] at hc
    have := zjO u c hc
    rintro rfl
    have : (10 : UInt8).toNat = 10 := rfl
    omega
theorem zkS {t : List UInt8} {ts : List yG} (rest : List UInt8) (k : Int) (out : List zN) (hn : ∀ c ∈ t, c ≠ 10) (hx : vT t = (ts, 0)) (hs : ts.length ≠ 0) : vE (yy 10 (t ++ 10 :: rest)) k out = vE (yy 10 rest) (k + 1) (out ++ [⟨k, ts⟩]) := by
 rw [zsN, zkR _ hn, List.singleton_append, zdq, hx, if_neg (fun h => h rfl), if_neg hs]
theorem zae {t : List UInt8} {ts : List yG} (rest : List UInt8) (k : Int) (out : List zN) (hn : t.all (fun c => c != 10) = true) (hx : vT t = (ts, 0)) (hs : ts.length ≠ 0) : vE (yy 10 (t ++ 10 :: rest)) k out = vE (yy 10 rest) (k + 1) (out ++ [⟨k, ts⟩]) :=
 zkS rest k out (fun c hc e => by have := List.all_eq_true.1 hn c hc; subst e; exact absurd this (by decide)) hx hs
def znO (k op : Int) : zn := ⟨1, 0, k, ⟨op, 0, 0, 0⟩, false, 0, noV, 0, 0⟩
def bI (its : List zn) (sy : List zu) (mk : List Int) : Bld := ⟨its, sy, mk, [], false, [], 0, 0⟩
theorem zun (its : List zn) (sy : List zu) (mk : List Int) (k : Int) : xZ [] (bI its sy mk) (zaD k) = bI (its ++ [znO k 1]) sy mk := by kernel_rfl
theorem zkT (k : Int) (sy : List zu) (mk : List Int) : ∀ (B : Nat) (its : List zn), xB [] (List.replicate B (zaD k)) (bI its sy mk) = bI (its ++ List.replicate B (znO k 1)) sy mk
 | 0, its => by simp [xB]
 | B + 1, its => by rw [List.replicate_succ, zhb, zun, zkT k sy mk B, List.append_assoc, List.replicate_succ]; rfl
attribute [local irreducible] xZ
theorem zi6 (q : List zl) (l m : List zN) (b : Bld) : xB q (l ++ m) b = xB q m (xB q l b) := by unfold xB; rw [List.foldl_append]
end Go.Proofs.YthmdddenbfbefaaGreatDoor
namespace Go.Proofs.YthmdddenbfbefaaGreatDoor
open Go Go.Plat
set_option linter.unusedVariables false
set_option linter.unusedSimpArgs false
set_option maxRecDepth 100000
set_option maxHeartbeats 2000000
attribute [local irreducible] AWP zC yg zJ zo yw z8 zH z1 z6 zt za zP yx zp z7 yt yu yi yk zw zx zy
def wb (f : Nat → Bool) : Nat → Bool
 | 0 => true
 | n + 1 => match f n with
  | true => wb f n
  | false => false
theorem xS {f : Nat → Bool} : ∀ {n : Nat}, wb f n = true → ∀ i, i < n → f i = true
 | 0, _, i, h => by omega
 | n + 1, h, i, hi => by
  simp only [wb] at h
  split at h
  ·rename_i h1
   rcases Nat.lt_or_ge i n with h2 | h2
   ·exact xS h i h2
   ·obtain rfl : i = n := by omega
    exact h1
  ·cases h
def toB (r : qz) : Nat × Nat × Nat := (r.shape.toNat, (zaL r.shape).toNat, r.bits.toNat)
def zaP : List (Nat × Nat × Nat) := [(0, 65535, 9), (0, 65535, 11), (1, 61440, 57344), (1, 61440, 28672), (2, 61455, 24579), (2, 61455, 12300), (2, 61455, 12296), (2, 61455, 8201), (2, 61455, 8203), (2, 61455, 8202), (2, 61455, 8200), (2, 61455, 12288), (2, 61455, 12295), (3, 61695, 16384), (3, 61695, 16385), (3, 61695, 16400), (4, 65280, 35072), (4, 65280, 35584), (5, 61440, 40960), (5, 61440, 45056), (6, 61695, 16427), (6, 61695, 16395), (7, 61440, 36864), (8, 61440, 53248), (9, 61455, 8194), (10, 61455, 24578), (11, 65280, 49920)]
theorem znP : yA.map toB = zaP := by unfold yA toB zaL; rfl
def zf4 (w : Nat) : List (Nat × Nat × Nat) → Nat → Nat
 | [], k => k
 | p :: l, k => match Nat.beq (w &&& p.2.1) p.2.2 with
  | true => k
  | false => zf4 w l (k + 1)
theorem zpG (w : Nat) : ∀ l k, k ≤ zf4 w l k
 | [], k => Nat.le_refl _
 | p :: l, k => by
  simp only [zf4]
  split
  ·exact Nat.le_refl _
  ·have := zpG w l (k + 1); omega
theorem znQ (w : Nat) : ∀ (l : List qz) (k j : Nat), (∀ r ∈ l, 0 ≤ r.bits) → zf4 w (l.map toB) k = k + j → l.find? (zey w) = l[j]?
 | [], k, j, _, _ => by simp
 | r :: l, k, j, hb, h => by
  have h0 := hb r (by simp)
  simp only [List.map_cons, zf4, toB] at h
  have hf : zey w r = Nat.beq (w &&& (zaL r.shape).toNat) r.bits.toNat := by
   unfold zey
   rw [Bool.eq_iff_iff]
   constructor
   ·intro h
    have h := LawfulBEq.eq_of_beq h
    rw [← h]
    exact Nat.beq_refl _
   ·intro h
    have h := Nat.eq_of_beq_eq_true h
    rw [h, Int.toNat_of_nonneg h0]
    exact beq_self_eq_true _
  rw [List.find?_cons, hf]
  split at h
  ·rename_i hb
   obtain rfl : j = 0 := by omega
   rw [hb]
   rfl
  ·rename_i hn
   have := zpG w (l.map toB) (k + 1)
   cases j with
   | zero => omega
   | succ j =>
    rw [hn]
    exact znQ w l (k + 1) j (fun r hr => hb r (by simp [hr])) (by omega)
def fB (j b n m v : Nat) : Bool := match Nat.beq (b ||| n * 256 ||| m * 16 ||| v) (b + n * 256 + m * 16 + v) with
 | true => Nat.beq (zf4 (b + n * 256 + m * 16 + v) zaP 0) j
 | false => false
theorem zxT {j b n m v : Nat} (h : fB j b n m v = true) : znb b n m v = b + n * 256 + m * 16 + v ∧ zf4 (b + n * 256 + m * 16 + v) zaP 0 = j := by
 unfold fB at h
 split at h
 ·rename_i h1
  exact ⟨Nat.eq_of_beq_eq_true h1, Nat.eq_of_beq_eq_true h⟩
 ·cases h
def zu5 (s : Nat) (f : Nat → Nat → Nat → Bool) : Bool :=
 match s with
 | 0 => f 0 0 0
 | 1 => wb (fun n => wb (fun v => f n 0 v) 256) 16
 | 7 => wb (fun n => wb (fun v => f n 0 v) 256) 16
 | 8 => wb (fun n => wb (fun v => f n 0 v) 256) 16
 | 2 => wb (fun n => wb (fun m => f n m 0) 16) 16
 | 9 => wb (fun n => wb (fun m => f n m 0) 16) 16
 | 10 => wb (fun n => wb (fun m => f n m 0) 16) 16
 | 3 => wb (fun n => f n 0 0) 16
 | 6 => wb (fun n => f n 0 0) 16
 | 4 => wb (fun v => f 0 0 v) 256
 | 11 => wb (fun v => f 0 0 v) 256
 | _ => wb (fun v => f 0 0 v) 4096
theorem zxU : ∀ j, j < 27 → (match zaP[j]? with | some p => zu5 p.1 (fB j p.2.2) | none => true) = true :=
 xS (n := 27) (by kernel_rfl)
theorem zq7 : ∀ r ∈ yA, (r.shape = 0 ∨ ((r.shape = 1 ∨ r.shape = 7 ∨ r.shape = 8) ∧ r.bits % 4096 = 0) ∨ ((r.shape = 2 ∨ r.shape = 9 ∨ r.shape = 10) ∧ r.bits % 4096 < 16) ∨ ((r.shape = 3 ∨ r.shape = 6) ∧ r.bits % 4096 < 256) ∨
  ((r.shape = 4 ∨ r.shape = 11) ∧ r.bits % 256 = 0) ∨ (r.shape = 5 ∧ r.bits % 4096 = 0)) := by unfold yA; decide
attribute [local irreducible] wb zbC y6 yA zaP
theorem zuo {r : qz} {j : Nat} (hj : yA[j]? = some r) : zu5 r.shape.toNat (fB j r.bits.toNat) = true := by
 have hjl : j < 27 := by have := (List.getElem?_eq_some_iff.1 hj).1; rwa [wX] at this
 have h := zxU j hjl
 rw [← znP, List.getElem?_map, hj] at h
 exact h
theorem zxp {r : qz} {j w : Nat} (hj : yA[j]? = some r) (h : zf4 w zaP 0 = j) : zbC w = some r := by
 unfold zbC
 rw [znQ w yA 0 j (fun r hr => (zfR r hr).2.1) (by rw [znP, h]; omega), hj]
theorem zup {r : qz} (hr : r ∈ yA) {n m v : Nat} (h : (r.shape = 0 ∧ n = 0 ∧ m = 0 ∧ v = 0) ∨ ((r.shape = 1 ∨ r.shape = 7 ∨ r.shape = 8) ∧ n < 16 ∧ m = 0 ∧ v < 256) ∨ ((r.shape = 2 ∨ r.shape = 9 ∨ r.shape = 10) ∧ n < 16 ∧ m < 16 ∧ v = 0) ∨
  ((r.shape = 3 ∨ r.shape = 6) ∧ n < 16 ∧ m = 0 ∧ v = 0) ∨ ((r.shape = 4 ∨ r.shape = 11) ∧ n = 0 ∧ m = 0 ∧ v < 256) ∨ (r.shape = 5 ∧ n = 0 ∧ m = 0 ∧ v < 4096)) :
  znb r.bits.toNat n m v = r.bits.toNat + n * 256 + m * 16 + v ∧ zbC (r.bits.toNat + n * 256 + m * 16 + v) = some r := by
 obtain ⟨j, hj⟩ := List.getElem?_of_mem hr
 have hf := zuo hj
 have key : fB j r.bits.toNat n m v = true := by
  rcases h with ⟨h, rfl, rfl, rfl⟩ | ⟨h | h | h, hn, rfl, hv⟩ | ⟨h | h | h, hn, hm, rfl⟩ | ⟨h | h, hn, rfl, rfl⟩ | ⟨h | h, rfl, rfl, hv⟩ | ⟨h, rfl, rfl, hv⟩ <;> rw [h] at hf
  ·exact hf
  ·exact xS (xS (f := fun n => wb (fun v => fB j r.bits.toNat n 0 v) 256) hf n hn) v hv
  ·exact xS (xS (f := fun n => wb (fun v => fB j r.bits.toNat n 0 v) 256) hf n hn) v hv
  ·exact xS (xS (f := fun n => wb (fun v => fB j r.bits.toNat n 0 v) 256) hf n hn) v hv
  ·exact xS (f := fun m => fB j r.bits.toNat n m 0) (xS (f := fun n => wb (fun m => fB j r.bits.toNat n m 0) 16) hf n hn) m hm
  ·exact xS (f := fun m => fB j r.bits.toNat n m 0) (xS (f := fun n => wb (fun m => fB j r.bits.toNat n m 0) 16) hf n hn) m hm
  ·exact xS (f := fun m => fB j r.bits.toNat n m 0) (xS (f := fun n => wb (fun m => fB j r.bits.toNat n m 0) 16) hf n hn) m hm
  ·exact xS (f := fun n => fB j r.bits.toNat n 0 0) hf n hn
  ·exact xS (f := fun n => fB j r.bits.toNat n 0 0) hf n hn
  ·exact xS (f := fun v => fB j r.bits.toNat 0 0 v) hf v hv
  ·exact xS (f := fun v => fB j r.bits.toNat 0 0 v) hf v hv
  ·exact xS (f := fun v => fB j r.bits.toNat 0 0 v) hf v hv
 obtain ⟨h1, h2⟩ := zxT key
 exact ⟨h1, zxp hj h2⟩
theorem zpH (n : Int) : zg n 8 = if n % 256 / 128 = 1 then n % 256 - 256 else n % 256 := rfl
theorem zuq (n : Int) : zg n 12 = if n % 4096 / 2048 = 1 then n % 4096 - 4096 else n % 4096 := rfl
theorem zu6 {i : Ins} (h : zU i = 0) : 0 ≤ yI i ∧ yI i ≤ 65535 ∧ wk (yI i) = (i, 0) := by
 obtain ⟨r, hi, h1, h2, h3, h4, h5, h6, h7, h8⟩ := znc h
 obtain ⟨hm, ho⟩ := zfQ hi
 obtain ⟨_, b2, b3⟩ := zfR r hm
 obtain ⟨N, hN⟩ := Int.eq_ofNat_of_zero_le h1
 obtain ⟨M, hM⟩ := Int.eq_ofNat_of_zero_le h3
 obtain ⟨B, hB⟩ := Int.eq_ofNat_of_zero_le b2
 have he : yI i = qO r i := by unfold yI; rw [hi]
 have fin : ∀ V : Nat, qO r i = (znb B N M V : Nat) → znb B N M V = B + N * 256 + M * 16 + V → zbC (B + N * 256 + M * 16 + V) = some r → B + N * 256 + M * 16 + V < 65536 →
   zgB ((B + N * 256 + M * 16 + V : Nat) : Int) r = i → 0 ≤ yI i ∧ yI i ≤ 65535 ∧ wk (yI i) = (i, 0) := by
  intro V e1 e2 e3 e4 e5
  rw [he, e1, e2]
  refine ⟨by omega, by omega, ?_⟩
  unfold wk
  rw [if_neg (by omega)]
  simp only [Int.toNat_natCast, e3, e5]
 have hins : ∀ W : Int, zgB W r = i ↔ (if wJ r.shape = true then W / 256 % 16 else 0) = i.n ∧ (if wK r.shape = true then W / 16 % 16 else 0) = i.m ∧ vO W r.shape = i.imm := by
  intro W
  unfold zgB
  obtain ⟨op, n, m, imm⟩ := i
  simp only [Ins.mk.injEq] at *
  simp [ho]
 have hcode := fun V => zup hm (n := N) (m := M) (v := V)
 rw [hB, Int.toNat_natCast] at hcode
 have hsh := zq7 r hm
 rw [hB] at hsh b3
 rcases hsh with hs | ⟨hs, hb⟩ | ⟨hs, hb⟩ | ⟨hs, hb⟩ | ⟨hs, hb⟩ | ⟨hs, hb⟩
 ·have u1 : wJ r.shape = false := by rw [hs]; rfl
  have u2 : wK r.shape = false := by rw [hs]; rfl
  have hlo : vr r.shape = 0 := by rw [hs]; rfl
  have hhi : wd r.shape = 0 := by rw [hs]; rfl
  have hn0 := h5 u1
  have hm0 := h6 u2
  obtain ⟨V, hV⟩ := Int.eq_ofNat_of_zero_le (Int.emod_nonneg i.imm (show (256 : Int) ≠ 0 by decide))
  have hV2 := Int.emod_lt_of_pos i.imm (show (0 : Int) < 256 by decide)
  have hc := hcode V (by omega)
  refine fin V ?_ hc.1 hc.2 (by omega) ((hins _).2 ⟨?_, ?_, ?_⟩)
  ·unfold qO; rw [if_neg (by omega), hV, hB, hN, hM]; rfl
  ·rw [if_neg (by rw [u1]; decide)]; omega
  ·rw [if_neg (by rw [u2]; decide)]; omega
  ·unfold vO; rw [if_neg (by omega), if_neg (by omega), if_neg (by omega)]; omega
 ·rcases hs with hs | hs | hs
  ·have u1 : wJ r.shape = true := by rw [hs]; rfl
   have u2 : wK r.shape = false := by rw [hs]; rfl
   have hlo : vr r.shape = -128 := by rw [hs]; rfl
   have hhi : wd r.shape = 127 := by rw [hs]; rfl
   have hm0 := h6 u2
   obtain ⟨V, hV⟩ := Int.eq_ofNat_of_zero_le (Int.emod_nonneg i.imm (show (256 : Int) ≠ 0 by decide))
   have hV2 := Int.emod_lt_of_pos i.imm (show (0 : Int) < 256 by decide)
   have hc := hcode V (by omega)
   refine fin V ?_ hc.1 hc.2 (by omega) ((hins _).2 ⟨?_, ?_, ?_⟩)
   ·unfold qO; rw [if_neg (by omega), hV, hB, hN, hM]; rfl
   ·rw [if_pos u1]; omega
   ·rw [if_neg (by rw [u2]; decide)]; omega
   ·unfold vO; rw [if_pos (by omega), zpH]; split <;> omega
  ·have u1 : wJ r.shape = true := by rw [hs]; rfl
   have u2 : wK r.shape = false := by rw [hs]; rfl
   have hlo : vr r.shape = 0 := by rw [hs]; rfl
   have hhi : wd r.shape = 255 := by rw [hs]; rfl
   have hm0 := h6 u2
   obtain ⟨V, hV⟩ := Int.eq_ofNat_of_zero_le (Int.emod_nonneg i.imm (show (256 : Int) ≠ 0 by decide))
   have hV2 := Int.emod_lt_of_pos i.imm (show (0 : Int) < 256 by decide)
   have hc := hcode V (by omega)
   refine fin V ?_ hc.1 hc.2 (by omega) ((hins _).2 ⟨?_, ?_, ?_⟩)
   ·unfold qO; rw [if_neg (by omega), hV, hB, hN, hM]; rfl
   ·rw [if_pos u1]; omega
   ·rw [if_neg (by rw [u2]; decide)]; omega
   ·unfold vO; rw [if_neg (by omega), if_neg (by omega), if_pos (by omega)]; omega
  ·have u1 : wJ r.shape = true := by rw [hs]; rfl
   have u2 : wK r.shape = false := by rw [hs]; rfl
   have hlo : vr r.shape = 0 := by rw [hs]; rfl
   have hhi : wd r.shape = 255 := by rw [hs]; rfl
   have hm0 := h6 u2
   obtain ⟨V, hV⟩ := Int.eq_ofNat_of_zero_le (Int.emod_nonneg i.imm (show (256 : Int) ≠ 0 by decide))
   have hV2 := Int.emod_lt_of_pos i.imm (show (0 : Int) < 256 by decide)
   have hc := hcode V (by omega)
   refine fin V ?_ hc.1 hc.2 (by omega) ((hins _).2 ⟨?_, ?_, ?_⟩)
   ·unfold qO; rw [if_neg (by omega), hV, hB, hN, hM]; rfl
   ·rw [if_pos u1]; omega
   ·rw [if_neg (by rw [u2]; decide)]; omega
   ·unfold vO; rw [if_neg (by omega), if_neg (by omega), if_pos (by omega)]; omega
 ·rcases hs with hs | hs | hs
  ·have u1 : wJ r.shape = true := by rw [hs]; rfl
   have u2 : wK r.shape = true := by rw [hs]; rfl
   have hlo : vr r.shape = 0 := by rw [hs]; rfl
   have hhi : wd r.shape = 0 := by rw [hs]; rfl
   obtain ⟨V, hV⟩ := Int.eq_ofNat_of_zero_le (Int.emod_nonneg i.imm (show (256 : Int) ≠ 0 by decide))
   have hV2 := Int.emod_lt_of_pos i.imm (show (0 : Int) < 256 by decide)
   have hc := hcode V (by omega)
   refine fin V ?_ hc.1 hc.2 (by omega) ((hins _).2 ⟨?_, ?_, ?_⟩)
   ·unfold qO; rw [if_neg (by omega), hV, hB, hN, hM]; rfl
   ·rw [if_pos u1]; omega
   ·rw [if_pos u2]; omega
   ·unfold vO; rw [if_neg (by omega), if_neg (by omega), if_neg (by omega)]; omega
  ·have u1 : wJ r.shape = true := by rw [hs]; rfl
   have u2 : wK r.shape = true := by rw [hs]; rfl
   have hlo : vr r.shape = 0 := by rw [hs]; rfl
   have hhi : wd r.shape = 0 := by rw [hs]; rfl
   obtain ⟨V, hV⟩ := Int.eq_ofNat_of_zero_le (Int.emod_nonneg i.imm (show (256 : Int) ≠ 0 by decide))
   have hV2 := Int.emod_lt_of_pos i.imm (show (0 : Int) < 256 by decide)
   have hc := hcode V (by omega)
   refine fin V ?_ hc.1 hc.2 (by omega) ((hins _).2 ⟨?_, ?_, ?_⟩)
   ·unfold qO; rw [if_neg (by omega), hV, hB, hN, hM]; rfl
   ·rw [if_pos u1]; omega
   ·rw [if_pos u2]; omega
   ·unfold vO; rw [if_neg (by omega), if_neg (by omega), if_neg (by omega)]; omega
  ·have u1 : wJ r.shape = true := by rw [hs]; rfl
   have u2 : wK r.shape = true := by rw [hs]; rfl
   have hlo : vr r.shape = 0 := by rw [hs]; rfl
   have hhi : wd r.shape = 0 := by rw [hs]; rfl
   obtain ⟨V, hV⟩ := Int.eq_ofNat_of_zero_le (Int.emod_nonneg i.imm (show (256 : Int) ≠ 0 by decide))
   have hV2 := Int.emod_lt_of_pos i.imm (show (0 : Int) < 256 by decide)
   have hc := hcode V (by omega)
   refine fin V ?_ hc.1 hc.2 (by omega) ((hins _).2 ⟨?_, ?_, ?_⟩)
   ·unfold qO; rw [if_neg (by omega), hV, hB, hN, hM]; rfl
   ·rw [if_pos u1]; omega
   ·rw [if_pos u2]; omega
   ·unfold vO; rw [if_neg (by omega), if_neg (by omega), if_neg (by omega)]; omega
 ·rcases hs with hs | hs
  ·have u1 : wJ r.shape = true := by rw [hs]; rfl
   have u2 : wK r.shape = false := by rw [hs]; rfl
   have hlo : vr r.shape = 0 := by rw [hs]; rfl
   have hhi : wd r.shape = 0 := by rw [hs]; rfl
   have hm0 := h6 u2
   obtain ⟨V, hV⟩ := Int.eq_ofNat_of_zero_le (Int.emod_nonneg i.imm (show (256 : Int) ≠ 0 by decide))
   have hV2 := Int.emod_lt_of_pos i.imm (show (0 : Int) < 256 by decide)
   have hc := hcode V (by omega)
   refine fin V ?_ hc.1 hc.2 (by omega) ((hins _).2 ⟨?_, ?_, ?_⟩)
   ·unfold qO; rw [if_neg (by omega), hV, hB, hN, hM]; rfl
   ·rw [if_pos u1]; omega
   ·rw [if_neg (by rw [u2]; decide)]; omega
   ·unfold vO; rw [if_neg (by omega), if_neg (by omega), if_neg (by omega)]; omega
  ·have u1 : wJ r.shape = true := by rw [hs]; rfl
   have u2 : wK r.shape = false := by rw [hs]; rfl
   have hlo : vr r.shape = 0 := by rw [hs]; rfl
   have hhi : wd r.shape = 0 := by rw [hs]; rfl
   have hm0 := h6 u2
   obtain ⟨V, hV⟩ := Int.eq_ofNat_of_zero_le (Int.emod_nonneg i.imm (show (256 : Int) ≠ 0 by decide))
   have hV2 := Int.emod_lt_of_pos i.imm (show (0 : Int) < 256 by decide)
   have hc := hcode V (by omega)
   refine fin V ?_ hc.1 hc.2 (by omega) ((hins _).2 ⟨?_, ?_, ?_⟩)
   ·unfold qO; rw [if_neg (by omega), hV, hB, hN, hM]; rfl
   ·rw [if_pos u1]; omega
   ·rw [if_neg (by rw [u2]; decide)]; omega
   ·unfold vO; rw [if_neg (by omega), if_neg (by omega), if_neg (by omega)]; omega
 ·rcases hs with hs | hs
  ·have u1 : wJ r.shape = false := by rw [hs]; rfl
   have u2 : wK r.shape = false := by rw [hs]; rfl
   have hlo : vr r.shape = -128 := by rw [hs]; rfl
   have hhi : wd r.shape = 127 := by rw [hs]; rfl
   have hn0 := h5 u1
   have hm0 := h6 u2
   obtain ⟨V, hV⟩ := Int.eq_ofNat_of_zero_le (Int.emod_nonneg i.imm (show (256 : Int) ≠ 0 by decide))
   have hV2 := Int.emod_lt_of_pos i.imm (show (0 : Int) < 256 by decide)
   have hc := hcode V (by omega)
   refine fin V ?_ hc.1 hc.2 (by omega) ((hins _).2 ⟨?_, ?_, ?_⟩)
   ·unfold qO; rw [if_neg (by omega), hV, hB, hN, hM]; rfl
   ·rw [if_neg (by rw [u1]; decide)]; omega
   ·rw [if_neg (by rw [u2]; decide)]; omega
   ·unfold vO; rw [if_pos (by omega), zpH]; split <;> omega
  ·have u1 : wJ r.shape = false := by rw [hs]; rfl
   have u2 : wK r.shape = false := by rw [hs]; rfl
   have hlo : vr r.shape = 0 := by rw [hs]; rfl
   have hhi : wd r.shape = 255 := by rw [hs]; rfl
   have hn0 := h5 u1
   have hm0 := h6 u2
   obtain ⟨V, hV⟩ := Int.eq_ofNat_of_zero_le (Int.emod_nonneg i.imm (show (256 : Int) ≠ 0 by decide))
   have hV2 := Int.emod_lt_of_pos i.imm (show (0 : Int) < 256 by decide)
   have hc := hcode V (by omega)
   refine fin V ?_ hc.1 hc.2 (by omega) ((hins _).2 ⟨?_, ?_, ?_⟩)
   ·unfold qO; rw [if_neg (by omega), hV, hB, hN, hM]; rfl
   ·rw [if_neg (by rw [u1]; decide)]; omega
   ·rw [if_neg (by rw [u2]; decide)]; omega
   ·unfold vO; rw [if_neg (by omega), if_neg (by omega), if_pos (by omega)]; omega
 ·have u1 : wJ r.shape = false := by rw [hs]; rfl
  have u2 : wK r.shape = false := by rw [hs]; rfl
  have hlo : vr r.shape = -2048 := by rw [hs]; rfl
  have hhi : wd r.shape = 2047 := by rw [hs]; rfl
  have hn0 := h5 u1
  have hm0 := h6 u2
  obtain ⟨V, hV⟩ := Int.eq_ofNat_of_zero_le (Int.emod_nonneg i.imm (show (4096 : Int) ≠ 0 by decide))
  have hV2 := Int.emod_lt_of_pos i.imm (show (0 : Int) < 4096 by decide)
  have hc := hcode V (by omega)
  refine fin V ?_ hc.1 hc.2 (by omega) ((hins _).2 ⟨?_, ?_, ?_⟩)
  ·unfold qO; rw [if_pos hs, hV, hB, hN, hM]; rfl
  ·rw [if_neg (by rw [u1]; decide)]; omega
  ·rw [if_neg (by rw [u2]; decide)]; omega
  ·unfold vO; rw [if_neg (by omega), if_pos hs, zuq]; split <;> omega
theorem zur {r : qz} {i : Ins} (hi : y6 i.op = some r) (h : ¬ jc r i) : zU i = 0 := by
 unfold zU
 rw [hi]
 exact if_neg h
end Go.Proofs.YthmdddenbfbefaaGreatDoor
namespace Go.Proofs.YthmdddenbfbefaaGreatDoor
open Go Go.Plat
set_option linter.unusedVariables false
set_option linter.unusedSimpArgs false
set_option maxRecDepth 100000
set_option maxHeartbeats 2000000
attribute [local irreducible] AWP zC yg zJ zo yw z8 zH z1 z6 zt za zP yx zp z7 yt yu yi yk zw zx zy
def atI (x : zn) (a : Int) : zn := { x with at_ := a }
def yN : List zn → Int → List zn
 | [], _ => []
 | x :: l, a => atI x a :: yN l (a + 2)
theorem zf5 : ∀ (F : List zn) (a b : Int), yN (yN F a) b = yN F b
 | [], a, b => rfl
 | x :: F, a, b => by rw [yN, yN, zf5 F, yN]; rfl
theorem zeG : ∀ (F : List zn) (a : Int), (yN F a).length = F.length
 | [], _ => rfl
 | x :: F, a => by rw [yN, List.length_cons, zeG F, List.length_cons]
theorem zlN {syms : List zu} {x : zn} (h : x.kind ≠ 2 ∨ x.long = true) : xz syms x = false ∧ yQ syms x = x := by
 have hm : xz syms x = false := by
  unfold xz
  refine decide_eq_false fun e => ?_
  rcases h with h | h
  ·exact h e.1
  ·rw [h] at e; exact absurd e.2.1 (by decide)
 exact ⟨hm, by unfold yQ; rw [if_neg (by rw [hm]; decide)]⟩
theorem zkU (F G : List zn) : xH (F ++ G) = xH F + xH G := by unfold xH; rw [List.filter_append, List.length_append]
theorem zi7 {n : Int} (h1 : -1000000 ≤ n) (h2 : n ≤ 1000000) : w64 n = n := by unfold w64; exact kg (by omega) (by omega)
theorem zpI {a m to : Int} (ht : to = a + 4 + 2 * m) (ha : 0 ≤ a) (ha' : a ≤ 100000) (h1 : -100000 ≤ m) (h2 : m ≤ 100000) : (w64 (to - (a + 4))).tmod 2 = 0 ∧ w64 ((w64 (to - (a + 4))).tdiv 2) = m := by
 have e : to - (a + 4) = 2 * m := by omega
 rw [e, zi7 (by omega) (by omega)]
 have hd : (2 * m).tdiv 2 = m := by rw [Int.mul_comm]; exact Int.mul_tdiv_cancel m (by decide)
 have hm : (2 * m).tmod 2 = 0 := by rw [Int.mul_comm]; exact Int.mul_tmod_left m 2
 rw [hd, zi7 (by omega) (by omega)]
 exact ⟨hm, rfl⟩
theorem zpJ {op a m to : Int} (ho : op = 17 ∨ op = 18) (ht : to = a + 4 + 2 * m) (ha : 0 ≤ a) (ha' : a ≤ 100000) (h1 : -100000 ≤ m) (h2 : m ≤ 100000) : xK op a to = if m < -128 ∨ 127 < m then (m, 3) else (m, 0) := by
 obtain ⟨e1, e2⟩ := zpI ht ha ha' h1 h2
 unfold xK zcv
 have hf : jn op a = a + 4 := by unfold jn; rw [if_neg (by omega)]
 have hof : ofA op = 2 := by unfold ofA; rw [if_neg (by omega)]
 have hs : zaa op = 4 := by rcases ho with rfl | rfl <;> kernel_rfl
 rw [hf, hof, hs, e1, e2, if_neg (fun h => h rfl)]
 rfl
theorem zus {a m to : Int} (ht : to = a + 4 + 2 * m) (ha : 0 ≤ a) (ha' : a ≤ 100000) (h1 : -2048 ≤ m) (h2 : m ≤ 2047) : xK 19 a to = (m, 0) := by
 obtain ⟨e1, e2⟩ := zpI ht ha ha' (by omega) (by omega)
 unfold xK zcv
 have hf : jn 19 a = a + 4 := by unfold jn; rw [if_neg (by omega)]
 have hof : ofA 19 = 2 := by unfold ofA; rw [if_neg (by omega)]
 have hs : zaa 19 = 5 := by kernel_rfl
 have hlo : vr 5 = -2048 := by kernel_rfl
 have hhi : wd 5 = 2047 := by kernel_rfl
 rw [hf, hof, hs, e1, e2, if_neg (fun h => h rfl), hlo, hhi, if_neg (by omega)]
theorem zi8 {W : List UInt8} (t : Int) (h1 : 0 ≤ t) (h2 : t ≤ 1000000) (hW : W ≠ [] := by decide) : zO [⟨W, t⟩] ⟨W, 0⟩ = (t, 0) := by
 have hi : zfU W [⟨W, t⟩] 0 = 0 := by unfold zfU; rw [xF, if_pos (beq_self_eq_true W)]; rfl
 unfold zO
 dsimp only
 rw [if_neg hW, hi, if_neg (by decide)]
 show (w64 (t + 0), (0 : Int)) = (t, 0)
 rw [Int.add_zero, zi7 (by omega) h2]
structure zut (op imm : Int) : Prop where
 right : zU ⟨op, 0, 0, imm⟩ = 0
 lo : 0 ≤ yI ⟨op, 0, 0, imm⟩
 hi : yI ⟨op, 0, 0, imm⟩ < 65536
 dec : wk (yI ⟨op, 0, 0, imm⟩) = (⟨op, 0, 0, imm⟩, 0)
theorem zj2 {op imm : Int} {r : qz} (hi : y6 op = some r) (h1 : vr r.shape ≤ imm) (h2 : imm ≤ wd r.shape) : zut op imm := by
 have h : zU ⟨op, 0, 0, imm⟩ = 0 := by
  refine zur hi ?_
  unfold jc
  dsimp only
  rintro (h | h | ⟨_, h⟩ | h | h | ⟨_, h⟩ | h | h) <;> first | omega | exact h rfl
 obtain ⟨a, b, c⟩ := zu6 h
 exact ⟨h, a, by omega, c⟩
theorem zq8 {op imm : Int} (ho : op = 17 ∨ op = 18) (h1 : -128 ≤ imm) (h2 : imm ≤ 127) : zut op imm := by
 rcases ho with rfl | rfl
 ·exact zj2 (r := ⟨17, [98, 116], 4, 35072⟩) (by kernel_rfl) h1 h2
 ·exact zj2 (r := ⟨18, [98, 102], 4, 35584⟩) (by kernel_rfl) h1 h2
theorem zsO {imm : Int} (h1 : -2048 ≤ imm) (h2 : imm ≤ 2047) : zut 19 imm := zj2 (r := ⟨19, [98, 114, 97], 5, 40960⟩) (by kernel_rfl) h1 h2
def vI (w : Int) : List UInt8 := [yq (w / 256), yq w]
theorem zgI {c : List UInt8} {i : Ins} {line : Int} (h : zU i = 0) : xE ⟨c, [], 0, 0⟩ i line = ⟨c ++ vI (yI i), [], 0, 0⟩ := by unfold xE; rw [if_pos h]; rfl
theorem zpK {c : List UInt8} {i : Ins} {a to m line : Int} (ha : xK i.op a to = (m, 0)) (h : zU ⟨i.op, i.n, i.m, m⟩ = 0) : xL ⟨c, [], 0, 0⟩ i a to line = ⟨c ++ vI (yI ⟨i.op, i.n, i.m, m⟩), [], 0, 0⟩ := by
 unfold xL
 rw [ha, if_pos rfl, zgI h]
theorem zwb {c d : List UInt8} {w : Int} (h0 : 0 ≤ w) (h1 : w < 65536) : y8 (c ++ (vI w ++ d)) c.length 2 = w := by
 have b : ∀ (j : Nat) (x : UInt8), (c ++ (vI w ++ d))[c.length + j]? = some x → qW (c ++ (vI w ++ d)) ((c.length : Int) + (j : Int)) = x.toNat := fun j x hx => by
  have hl := (List.getElem?_eq_some_iff.1 hx).1
  unfold qW
  rw [if_pos ⟨by omega, by omega⟩, show ((c.length : Int) + (j : Int)).toNat = c.length + j by omega, List.getD_eq_getElem?_getD, hx]
  rfl
 have b0 := b 0 (yq (w / 256)) (by rw [List.getElem?_append_right (by omega), Nat.add_zero, Nat.sub_self]; rfl)
 have b1 := b 1 (yq w) (by rw [List.getElem?_append_right (by omega), show c.length + 1 - c.length = 1 by omega]; rfl)
 rw [y8, y8, y8, b0, b1, xO, xO]
 omega
attribute [local irreducible] Lib.itoa zh.kids zh.kind zh.n zh.name xw xK wz yI xb xk w6 xE wv y6 xU xL yF yL qf yr y0 xJ xv wR zg y7 w9 zM zO w8 wg zU
structure Rp where
 h : zN
 n : Int
 body : List zN
 e : zN
structure zj3 (r : Rp) : Prop where
 head : r.h.toks = [⟨1, 0, x7⟩, ⟨2, r.n, []⟩]
 lo : 0 ≤ r.n
 hi : r.n ≤ 200
 fin : r.e.toks = [⟨1, 0, zad⟩]
 body : ∀ x ∈ r.body, wA (vt x) ∧ x.toks.length ≤ 1000000000
def rpL (r : Rp) : List zN := r.h :: (r.body ++ [r.e])
def rpO (r : Rp) : List zN := (List.replicate r.n.toNat r.body).flatten
theorem zj4 {r : Rp} (h : zj3 r) : vt r.h = x7 ∧ vt r.e = zad := by unfold vt; rw [h.head, h.fin]; exact ⟨rfl, rfl⟩
theorem zu7 {r : Rp} (rest : List zN) : (rpL r ++ rest)[0]? = some r.h ∧ (rpL r ++ rest)[r.body.length + 1]? = some r.e ∧ (rpL r ++ rest).length = r.body.length + 2 + rest.length := by
 unfold rpL
 refine ⟨rfl, ?_, ?_⟩
 ·rw [List.cons_append, List.getElem?_cons_succ, List.append_assoc, List.getElem?_append_right (Nat.le_refl _), Nat.sub_self]; rfl
 ·simp only [List.cons_append, List.length_cons, List.length_append, List.length_nil]; omega
theorem zxV {r : Rp} (rest : List zN) {k : Nat} (h0 : 0 < k) (h1 : k < r.body.length + 1) : ∃ x ∈ r.body, (rpL r ++ rest)[k]? = some x := by
 obtain ⟨j, rfl⟩ : ∃ j, k = j + 1 := ⟨k - 1, by omega⟩
 have hj : j < r.body.length := by omega
 refine ⟨r.body[j], List.getElem_mem hj, ?_⟩
 unfold rpL
 rw [List.cons_append, List.getElem?_cons_succ, List.append_assoc, List.getElem?_append_left hj, List.getElem?_eq_getElem hj]
theorem zi9 : za Tryz.prog zoC (zz (fun ((r, rest) : Rp × List zN) => zj3 r ∧ r.body.length + rest.length ≤ 1000000)
  (fun (r, rest) => [.sl 2 ((rpL r ++ rest).map yZ) none, .str x7, .str zad]) fun (r, _) => .tup [.int .i64 (r.body.length + 1 : Nat), .int .i64 (-1)]) := by
 refine zf zj Tryz.func164 rfl (by decide) ?_
 rintro ⟨r, rest⟩ ⟨hr, hl⟩
 have hl : r.body.length + rest.length ≤ 1000000 := hl
 obtain ⟨hh, he⟩ := zj4 hr
 dsimp only
 obtain ⟨a1, a2, a3⟩ := zu7 (r := r) rest
 have a4 := fun k => zxV (r := r) rest (k := k)
 generalize rpL r ++ rest = l at *
 refine ⟨Nat.le_refl _, by simp [Tryz.f164], fun E hE => ?_⟩
 refine ze _ ?_
 (all_goals refine qgp (Lf.mk ?_))
 refine yb (α := Nat) (fun k => k ≤ r.body.length + 1) (fun k => [(0, .sl 2 (l.map yZ) none), (1, .str x7), (2, .str zad), (8, .int .i64 (if k = 0 then 0 else 1)), (9, .int .i64 (-1)), (12, .sl 2 (l.map yZ) none), (13, .int .i64 l.length), (14, .int .i64 k)]) (fun _ => []) (fun k => r.body.length + 2 - k) (fun _ => by simp [hE]) 0 (Nat.zero_le _) ?_ ?_
 ·(repeat' (first | (refine VS.mk ?_) | exact trivial | exact rfl | refine And.intro ?_ ?_))
 intro k hk
 have hk : k ≤ r.body.length + 1 := hk
 have key : ∃ x, l[k]? = some x ∧ x.toks.length ≤ 1000000000 ∧ ((k = 0 ∧ vt x = x7) ∨ (0 < k ∧ k < r.body.length + 1 ∧ wA (vt x)) ∨ (k = r.body.length + 1 ∧ vt x = zad)) := by
  by_cases h0 : k = 0
  ·subst h0; exact ⟨_, a1, by rw [hr.head]; show 2 ≤ _; decide, .inl ⟨rfl, hh⟩⟩
  by_cases h1 : k = r.body.length + 1
  ·subst h1; exact ⟨_, a2, by rw [hr.fin]; decide, .inr (.inr ⟨rfl, he⟩)⟩
  ·obtain ⟨x, hx, hg⟩ := a4 k (by omega) (by omega)
   exact ⟨x, hg, (hr.body x hx).2, .inr (.inl ⟨by omega, by omega, (hr.body x hx).1⟩)⟩
 obtain ⟨x, hx, hxl, hcase⟩ := key
 have hkl : k < l.length := by omega
 have hxk : l[((k : Nat) : Int).toNat]? = some x := by rw [Int.toNat_natCast]; exact hx
 refine ze _ ?_
 (all_goals refine qgp ?_ <;> (repeat' first | exact trivial | intro hc | refine And.intro ?_ ?_) <;> refine Lf.mk ?_)
 ·refine zk x (Int.natCast_nonneg k) hxk ?_
  (all_goals refine qgp (Lf.mk ?_))
  refine zb qp x hxl (VS.mk (LeL.of_eq rfl)) ?_
  rcases hcase with ⟨h0, hq⟩ | ⟨h0, h1, p1, p2, p3, p4, p5, p6, p7, p8⟩ | ⟨h0, hq⟩
  ·rw [hq]
   subst h0
   (all_goals refine qgp ?_ <;> (repeat' first | exact trivial | intro hc | refine And.intro ?_ ?_) <;> refine Lf.mk ?_)
   all_goals first
    | (exfalso; exact (by assumption : ¬ True) trivial)
    | (exfalso; exact absurd (by assumption : x7 = zad) (by decide))
    | skip
   refine zA 1 (by show 1 ≤ _; omega) (by omega) ?_
   (repeat' (first | (refine VS.mk ?_) | exact trivial | exact rfl | refine And.intro ?_ ?_))
  ·have hd : (if k = 0 then (0 : Int) else 1) = 1 := if_neg (by omega)
   rw [hd]
   (all_goals refine qgp ?_ <;> (repeat' first | exact trivial | intro hc | refine And.intro ?_ ?_) <;> refine Lf.mk ?_)
   all_goals first
    | (exfalso; exact p2 (by assumption))
    | (exfalso; exact p5 (by assumption))
    | (exfalso; exact p7 (by assumption))
    | skip
   refine zA (k + 1) (by show k + 1 ≤ _; omega) (by omega) ?_
   (repeat' (first | (refine VS.mk ?_) | exact trivial | exact rfl | refine And.intro ?_ ?_))
  ·have hd : (if k = 0 then (0 : Int) else 1) = 1 := if_neg (by omega)
   rw [hq, hd]
   (all_goals refine qgp ?_ <;> (repeat' first | exact trivial | intro hc | refine And.intro ?_ ?_) <;> refine Lf.mk ?_)
   all_goals first
    | (exfalso; exact (by assumption : ¬ True) trivial)
    | (exfalso; exact absurd (by assumption : zad = x7) (by decide))
    | skip
   subst h0
   exact zd (VS.mk (LeD.refl _))
def znR (n : Int) : zh := (xJ [⟨2, n, []⟩]).1
theorem zwc (n : Int) : xJ [⟨2, n, []⟩] = (znR n, 1, 0) := by
 have h : (xJ [⟨2, n, []⟩]).2 = (1, 0) := by kernel_rfl
 exact Prod.ext rfl h
theorem zuu {n : Int} (h0 : 0 ≤ n) (h1 : n ≤ 200) : xb [] (znR n) = (⟨[], n⟩, 0) := by
 have h : xb [] (znR n) = (⟨[], zg (zg n 32) 32⟩, 0) := by kernel_rfl
 rw [h, zq5, zum h0 (by omega), if_pos (by omega)]
theorem zsP (n : Int) : yr (znR n) = 1 := by kernel_rfl
theorem zlx : za Tryz.prog zel (ya (fun ((_, n, _, _) : Int × Int × List zN × Int) => 0 ≤ n ∧ n ≤ 200) (fun (pos, n, _, _) => [.loc 0 0, .agg [.int .i64 pos, .sl 3 [wI ⟨1, 0, x7⟩, wI ⟨2, n, []⟩] none]]) (fun (_, _, out, looked) => mO out looked 0 0) (fun (_, n, _, _) => .tup [.int .i64 n, .tt]) fun (_, _, out, looked) => mO out looked 0 0) := by
 refine zf zj Tryz.func166 rfl (by decide) ?_
 rintro ⟨pos, n, out, looked⟩ ⟨h0, h1⟩
 have h0 : 0 ≤ n := h0
 have h1 : n ≤ 200 := h1
 have hn := zsP n
 have he := zuu h0 h1
 have hp := zwc n
 refine ⟨Nat.le_refl _, by simp [Tryz.f166], fun E hE => ?_⟩
 refine ze _ ?_
 (all_goals refine qgp (Lf.mk ?_))
 refine zb zg6 [⟨2, n, []⟩] (by show 1 ≤ _; decide) (VS.mk (LeL.of_eq rfl)) ?_
 rw [hp]
 generalize znR n = X at *
 (all_goals refine qgp ?_ <;> (repeat' first | exact trivial | intro hc | refine And.intro ?_ ?_) <;> refine Lf.mk ?_)
 all_goals first
  | (exfalso; exact (by assumption : ¬ True) trivial)
  | (exfalso; exact absurd (by assumption : (1 : Int) ≠ 1) (by decide))
  | skip
 refine qT (by show -9223372036854775808 ≤ ((2 : Nat) : Int) - 1; decide) (by show ((2 : Nat) : Int) - 1 ≤ 9223372036854775807; decide) ?_
 show jp _ _ (.int .i64 1) _ _
 (all_goals refine qgp ?_ <;> (repeat' first | exact trivial | intro hc | refine And.intro ?_ ?_) <;> refine Lf.mk ?_)
 ·exfalso; exact absurd trivial hc
 refine zb (zex [] (by decide) 1) X ⟨Nat.le_of_eq hn, by show yr X ≤ _; omega⟩ (VS.mk (.cons (.refl _) (.cons (.nil 2) .nil))) ?_
 rw [he]
 (all_goals refine qgp ?_ <;> (repeat' first | exact trivial | intro hc | refine And.intro ?_ ?_) <;> refine Lf.mk ?_)
 all_goals first
  | (exfalso; exact (by assumption : ¬ True) trivial)
  | skip
 exact qZ (mO out looked 0 0) [_, _, _] rfl (Nat.le_refl _) (.tup (.cons .int (.cons .tt .nil))) (qq _ _ _ _)
def kG (r : Rp) (k : Nat) : List zN := (List.replicate k r.body).flatten
theorem znS (r : Rp) (k : Nat) : (kG r k).length = k * r.body.length := by unfold kG; simp
theorem zsQ (r : Rp) (k : Nat) : kG r (k + 1) = kG r k ++ r.body := by unfold kG; rw [List.replicate_succ', List.flatten_append]; simp
theorem znT : za Tryz.prog zeV (ya (fun ((r, rest, out, looked, deep) : Rp × List zN × List zN × Int × Int) => zj3 r ∧ r.body.length + rest.length ≤ 1000000 ∧ 0 ≤ deep ∧ deep ≤ 5 ∧ out.length + (rpO r).length ≤ 200 ∧ 0 ≤ looked ∧ looked + ((rpO r).length : Int) ≤ 4000)
  (fun (r, rest, _, _, deep) => [.loc 0 0, .sl 2 ((rpL r ++ rest).map yZ) none, .int .i64 deep]) (fun (_, _, out, looked, _) => mO out looked 0 0) (fun (r, _, _, _, _) => .int .i64 (r.body.length + 2 : Nat)) fun (r, _, out, looked, _) => mO (out ++ rpO r) (looked + ((rpO r).length : Int)) 0 0) := by
 refine zf zj Tryz.func115 rfl (by decide) ?_
 rintro ⟨r, rest, out, looked, deep⟩ ⟨hr, hl, hd0, hd1, ho, hk0, hk1⟩
 have hl : r.body.length + rest.length ≤ 1000000 := hl
 have hd0 : 0 ≤ deep := hd0
 have hd1 : deep ≤ 5 := hd1
 have ho : out.length + (rpO r).length ≤ 200 := ho
 have hk0 : 0 ≤ looked := hk0
 have hk1 : looked + ((rpO r).length : Int) ≤ 4000 := hk1
 obtain ⟨hh, he⟩ := zj4 hr
 have hn0 := hr.lo
 have hn1 := hr.hi
 have hhl : r.h.toks.length = 2 := by rw [hr.head]; rfl
 have hel : r.e.toks.length = 1 := by rw [hr.fin]; rfl
 obtain ⟨a1, a2, a3⟩ := zu7 (r := r) rest
 have hcut : ((rpL r ++ rest).take (r.body.length + 1)).drop 1 = r.body := by
  unfold rpL
  rw [List.cons_append, List.take_succ_cons, List.drop_succ_cons, List.drop_zero, List.append_assoc, List.take_left' rfl]
 have hO : rpO r = kG r r.n.toNat := rfl
 have q0 : (rpL r ++ rest)[(0 : Int).toNat]? = some r.h := a1
 have q1 : (rpL r ++ rest)[((r.body.length + 1 : Nat) : Int).toNat]? = some r.e := by rw [Int.toNat_natCast]; exact a2
 have hme := zi9
 refine ⟨Nat.le_refl _, by simp [Tryz.f115], fun E hE => ?_⟩
 have hE2 : E.L.length = 2 := by rw [hE]; rfl
 show AWP _ _ _ _ (vS _ _ _ _ (mO (out ++ rpO r) (looked + ((rpO r).length : Int)) 0 0)) _ (mO out looked 0 0)
 dsimp only
 generalize hL : rpL r ++ rest = l at *
 refine ze _ ?_
 (all_goals refine qgp (Lf.mk ?_))
 refine zk r.h (by decide) q0 ?_
 (all_goals refine qgp (Lf.mk ?_))
 refine zb qp r.h (by show _ ≤ _; omega) (VS.mk (LeL.of_eq rfl)) ?_
 rw [hh]
 (all_goals refine qgp ?_ <;> (repeat' first | exact trivial | intro hc | refine And.intro ?_ ?_) <;> refine Lf.mk ?_)
 all_goals first
  | (exfalso; exact (by assumption : ¬ True) trivial)
  | (exfalso; refine absurd hc ?_; decide)
  | skip
 refine zb zi9 (r, rest) ⟨hr, hl⟩ (VS.mk (LeL.of_eq (by rw [← hL]; rfl))) ?_
 dsimp only
 (all_goals refine qgp ?_ <;> (repeat' first | exact trivial | intro hc | refine And.intro ?_ ?_) <;> refine Lf.mk ?_)
 refine zk r.e (Int.natCast_nonneg _) q1 ?_
 (all_goals refine qgp ?_ <;> (repeat' first | exact trivial | intro hc | refine And.intro ?_ ?_) <;> refine Lf.mk ?_)
 refine zk r.h (by decide) q0 ?_
 (all_goals refine qgp (Lf.mk ?_))
 refine zb qp r.h (by show _ ≤ _; omega) (VS.mk (LeL.of_eq rfl)) ?_
 rw [hh]
 (all_goals refine qgp ?_ <;> (repeat' first | exact trivial | intro hc | refine And.intro ?_ ?_) <;> refine Lf.mk ?_)
 all_goals first
  | (exfalso; exact (by assumption : ¬ True) trivial)
  | (exfalso; exact absurd (by assumption : x7 = [46, 105, 102]) (by decide))
  | skip
 refine zk r.h (by decide) q0 ?_
 (all_goals refine qgp (Lf.mk ?_))
 refine zb qp r.h (by show _ ≤ _; omega) (VS.mk (LeL.of_eq rfl)) ?_
 rw [hh]
 (all_goals refine qgp ?_ <;> (repeat' first | exact trivial | intro hc | refine And.intro ?_ ?_) <;> refine Lf.mk ?_)
 all_goals first
  | (exfalso; exact (by assumption : ¬ True) trivial)
  | (exfalso; refine absurd hc ?_; decide)
  | skip
 refine zk r.h (by decide) q0 ?_
 (all_goals refine qgp (Lf.mk ?_))
 refine xr zlx [] (r.h.pos, r.n, out, looked) ⟨hn0, hn1⟩ rfl (LeL.of_eq (by rw [hr.head]; rfl)) rfl (.cons (.loc (Nat.lt_of_lt_of_le (by decide : 0 < 2) (Nat.le_of_eq rfl))) (.cons (.agg (.cons .int (.cons .sl .nil))) .nil)) (.tup (.cons .int (.cons .tt .nil))) (qq _ _ _ _) (qq _ _ _ _) ?_
 dsimp only
 (all_goals refine qgp ?_ <;> (repeat' first | exact trivial | intro hc | refine And.intro ?_ ?_) <;> refine Lf.mk ?_)
 refine y5 (α := Nat) (fun k => k ≤ r.n.toNat) (fun k => [(0, .loc 0 0), (1, .sl 2 (l.map yZ) none), (2, .int .i64 deep), (7, .int .i64 (r.body.length + 1 : Nat)), (151, .int .i64 (max r.n 0)), (152, .int .i64 k)]) (fun k => mO (out ++ kG r k) (looked + ((kG r k).length : Int)) 0 0) (fun k => r.n.toNat - k) (fun _ => by rw [hE2]; exact Nat.le_refl 2) 0 (Nat.zero_le _) ?_ ?_
 ·refine yv (by simp [kG]) ⟨rfl, rfl, rfl, rfl, rfl, rfl, trivial⟩
 intro k hk
 have hk : k ≤ r.n.toNat := hk
 refine ze _ ?_
 (all_goals refine qgp ?_ <;> (repeat' first | exact trivial | intro hc | refine And.intro ?_ ?_) <;> refine Lf.mk ?_)
 ·have hkn : k < r.n.toNat := by rw [Int.max_eq_left hn0] at *; omega
  have hkey : (kG r k).length + r.body.length ≤ (rpO r).length := by rw [hO, znS, znS, ← Nat.succ_mul]; exact Nat.mul_le_mul_right _ hkn
  refine xr zf3 [] (r.body, out ++ kG r k, looked + ((kG r k).length : Int), deep + 1) ⟨by show 0 ≤ deep + 1; omega, by show deep + 1 ≤ 6; omega, by show (out ++ kG r k).length + r.body.length ≤ 200; rw [List.length_append]; omega, by show 0 ≤ looked + ((kG r k).length : Int); omega, by show looked + ((kG r k).length : Int) + (r.body.length : Int) ≤ 4000; omega, hr.body⟩ rfl
   (LeL.of_eq (by rw [show (1 : Int).toNat = 1 from rfl, Int.toNat_natCast, hcut]; rfl)) rfl (.cons (.loc (Nat.lt_of_lt_of_le (by decide : 0 < 2) (Nat.le_of_eq rfl))) (.cons .sl (.cons .int .nil))) .tup0 (qq _ _ _ _) (qq _ _ _ _) ?_
  (all_goals refine qgp (Lf.mk ?_))
  exact yP (k + 1) (by show k + 1 ≤ _; omega) (by omega) (by dsimp only; rw [zsQ, List.append_assoc, List.length_append, show looked + (((kG r k).length + r.body.length : Nat) : Int) = looked + ((kG r k).length : Int) + (r.body.length : Int) by omega]; rfl) ⟨rfl, rfl, rfl, rfl, rfl, rfl, trivial⟩
 ·exact absurd trivial hc
 ·have hkn : k = r.n.toNat := by rw [Int.max_eq_left hn0] at *; omega
  rw [hO, ← hkn]
  exact xx rfl rfl
inductive Seg where
 | pl (x : zN)
 | rp (r : Rp)
def zyc : Seg → List zN
 | .pl x => [x]
 | .rp r => rpL r
def zyd : Seg → List zN
 | .pl x => [x]
 | .rp r => rpO r
def zlO : Seg → Prop
 | .pl x => wA (vt x) ∧ x.toks.length ≤ 1000000000
 | .rp r => zj3 r
def qg : List Seg → List zN
 | [] => []
 | s :: l => zyc s ++ qg l
def x8 : List Seg → List zN
 | [] => []
 | s :: l => zyd s ++ x8 l
def zye : Seg → Nat
 | .pl _ => 1
 | .rp r => 1 + (rpO r).length
def qQ : List Seg → Nat
 | [] => 0
 | s :: l => zye s + qQ l
structure MSt where
 rest : List Seg
 out : List zN
 looked : Int
 at_ : Nat
theorem zkV {S : List zN} {k : Nat} {x : zN} {r : List zN} (h : S.drop k = x :: r) : S[k]? = some x ∧ k < S.length ∧ S.drop (k + 1) = r := by
 have hk : k < S.length := by
  rcases Nat.lt_or_ge k S.length with h1 | h1
  ·exact h1
  ·rw [List.drop_eq_nil_of_le h1] at h; cases h
 have h2 := List.drop_eq_getElem_cons hk
 rw [h2] at h
 injection h with h3 h4
 exact ⟨by rw [List.getElem?_eq_getElem hk, h3], hk, h4⟩
theorem zoW : za Tryz.prog zah (ya (fun ((l, out, looked) : List Seg × List zN × Int) => (∀ s ∈ l, zlO s) ∧ (qg l).length ≤ 100000 ∧ out.length + (x8 l).length ≤ 200 ∧ 0 ≤ looked ∧ looked + (qQ l : Int) ≤ 4000)
  (fun (l, _, _) => [.loc 0 0, .sl 2 ((qg l).map yZ) none, .int .i64 0]) (fun (_, out, looked) => mO out looked 0 0) (fun _ => .tup []) fun (l, out, looked) => mO (out ++ x8 l) (looked + (qQ l : Int)) 0 0) := by
 refine zf zj Tryz.func59 rfl (by decide) ?_
 rintro ⟨l, out, looked⟩ ⟨hs, hl, ho, hk0, hk1⟩
 have hs : ∀ s ∈ l, zlO s := hs
 have hl : (qg l).length ≤ 100000 := hl
 have ho : out.length + (x8 l).length ≤ 200 := ho
 have hk0 : 0 ≤ looked := hk0
 have hk1 : looked + (qQ l : Int) ≤ 4000 := hk1
 refine ⟨Nat.le_refl _, by simp [Tryz.f59], fun E hE => ?_⟩
 have hE2 : E.L.length = 2 := by rw [hE]; rfl
 show AWP _ _ _ _ (vS _ _ _ _ (mO (out ++ x8 l) (looked + (qQ l : Int)) 0 0)) _ (mO out looked 0 0)
 dsimp only
 rw [← List.length_append] at ho
 generalize hO : out ++ x8 l = O at *
 generalize hK : looked + (qQ l : Int) = K at *
 generalize hS : qg l = S at *
 refine ze _ ?_
 (all_goals refine qgp ?_ <;> (repeat' first | exact trivial | intro hc | refine And.intro ?_ ?_) <;> refine Lf.mk ?_)
 refine y5 (α := MSt) (fun s => (∀ x ∈ s.rest, zlO x) ∧ qg s.rest = S.drop s.at_ ∧ s.out ++ x8 s.rest = O ∧ s.looked + (qQ s.rest : Int) = K ∧ 0 ≤ s.looked ∧ s.at_ ≤ S.length) (fun s => [(0, .loc 0 0), (1, .sl 2 (S.map yZ) none), (2, .int .i64 0), (7, .int .i64 s.at_)])
  (fun s => mO s.out s.looked 0 0) (fun s => s.rest.length) (fun _ => by rw [hE2]; exact Nat.le_refl 2) ⟨l, out, looked, 0⟩ ⟨hs, hS, hO, hK, hk0, Nat.zero_le _⟩ ?_ ?_
 ·exact yv rfl ⟨rfl, rfl, rfl, rfl, trivial⟩
 rintro ⟨rest, out1, lk, k⟩ ⟨i1, i2, i3, i4, i5, i6⟩
 dsimp only at i1 i2 i3 i4 i5 i6 ⊢
 match rest, i1, i2, i3, i4 with
 | [], _, i2, i3, i4 =>
  have hk : k = S.length := by
   have : (S.drop k).length = 0 := by rw [← i2]; rfl
   rw [List.length_drop] at this
   omega
  have e1 : out1 = O := by rw [← i3]; exact (List.append_nil _).symm
  have e2 : lk = K := by rw [← i4]; exact (Int.add_zero _).symm
  rw [e1, e2]
  refine ze _ ?_
  (all_goals refine qgp ?_ <;> (repeat' first | exact trivial | intro hc | refine And.intro ?_ ?_) <;> refine Lf.mk ?_)
  exact xx rfl rfl
 | .pl x :: r, i1, i2, i3, i4 =>
  obtain ⟨hx, hkl, hdr⟩ := zkV (x := x) (r := qg r) (by rw [← i2]; rfl)
  obtain ⟨hp, hxl⟩ : wA (vt x) ∧ x.toks.length ≤ 1000000000 := i1 _ List.mem_cons_self
  have hxk : S[((k : Nat) : Int).toNat]? = some x := by rw [Int.toNat_natCast]; exact hx
  have hlo : out1.length + 1 ≤ 200 := by
   have : (out1 ++ x8 (.pl x :: r)).length ≤ 200 := by rw [i3]; exact ho
   rw [List.length_append] at this
   have h1 : (x8 (.pl x :: r)).length = 1 + (x8 r).length := by show ([x] ++ x8 r).length = _; rw [List.length_append]; rfl
   omega
  have hlk : lk + 1 ≤ 4000 := by
   have h1 : qQ (.pl x :: r) = 1 + qQ r := rfl
   omega
  have hcut : (S.take (k + 1)).drop k = [x] := by
   have hgx : S[k] = x := by rw [List.getElem?_eq_getElem hkl] at hx; exact Option.some.inj hx
   rw [List.take_succ_eq_append_getElem hkl, List.drop_left' (by rw [List.length_take]; omega), hgx]
  refine ze _ ?_
  (all_goals refine qgp ?_ <;> (repeat' first | exact trivial | intro hc | refine And.intro ?_ ?_) <;> refine Lf.mk ?_)
  ·refine zk x (Int.natCast_nonneg k) hxk ?_
   (all_goals refine qgp (Lf.mk ?_))
   refine zb qp x hxl (VS.mk (LeL.of_eq rfl)) ?_
   obtain ⟨p1, p2, p3, p4, p5, p6, p7, p8⟩ := hp
   (all_goals refine qgp ?_ <;> (repeat' first | exact trivial | intro hc | refine And.intro ?_ ?_) <;> refine Lf.mk ?_)
   all_goals first
    | (exfalso; exact p1 (by assumption))
    | (exfalso; exact p2 (by assumption))
    | (exfalso; exact p3 (by assumption))
    | (exfalso; exact p4 (by assumption))
    | (exfalso; exact p5 (by assumption))
    | (exfalso; exact p6 (by assumption))
    | (exfalso; exact p7 (by assumption))
    | (exfalso; exact p8 (by assumption))
    | skip
   refine xr zhd [] (out1, lk + 1, 0, 0, vt x) trivial rfl (LeL.refl _) rfl (.cons (.loc (Nat.lt_of_lt_of_le (by decide : 0 < 2) (Nat.le_of_eq rfl))) (.cons .str .nil)) .int (qq _ _ _ _) (qq _ _ _ _) ?_
   (all_goals refine qgk ?_ <;> (repeat' first | exact trivial | intro hc | refine And.intro ?_ ?_) <;> refine Lf.mk ?_)
   ·exact absurd hc (by decide)
   ·exfalso; omega
   refine zb zi4 [x] ⟨by simp, fun y hy => by rw [List.mem_singleton] at hy; subst hy; exact hxl⟩ (VS.mk (LeL.of_eq (by rw [Int.toNat_natCast, show (((k : Nat) : Int) + 1).toNat = k + 1 by omega, hcut]))) ?_
   (all_goals refine qgk (Lf.mk ?_))
   exact yP (⟨r, out1 ++ [x], lk + 1, k + 1⟩ : MSt) ⟨fun y hy => i1 y (List.mem_cons_of_mem _ hy), hdr.symm, by rw [List.append_assoc]; exact i3, by have h1 : qQ (.pl x :: r) = 1 + qQ r := rfl; dsimp only; omega, by dsimp only; omega, by dsimp only; omega⟩ (Nat.lt_succ_self _) rfl ⟨rfl, rfl, rfl, rfl, trivial⟩
  ·exact absurd trivial hc
 | .rp r :: r', i1, i2, i3, i4 =>
  have hr : zj3 r := i1 _ List.mem_cons_self
  obtain ⟨hx, hkl, _⟩ := zkV (x := r.h) (r := (r.body ++ [r.e]) ++ qg r') (by rw [← i2]; rfl)
  have hdr : S.drop k = rpL r ++ qg r' := i2.symm
  have hlen : (rpL r ++ qg r').length + k ≤ S.length := by rw [← hdr, List.length_drop]; omega
  have hpl : (rpL r).length = r.body.length + 2 := by unfold rpL; simp
  have hxk : S[((k : Nat) : Int).toNat]? = some r.h := by rw [Int.toNat_natCast]; exact hx
  have hlo : out1.length + (rpO r).length ≤ 200 := by
   have : (out1 ++ (rpO r ++ x8 r')).length ≤ 200 := by have := ho; rw [← i3] at this; exact this
   rw [List.length_append, List.length_append] at this
   omega
  have hks : qQ (.rp r :: r') = 1 + (rpO r).length + qQ r' := rfl
  have hhl : r.h.toks.length = 2 := by rw [hr.head]; rfl
  rw [List.length_append] at hlen
  refine ze _ ?_
  (all_goals refine qgp ?_ <;> (repeat' first | exact trivial | intro hc | refine And.intro ?_ ?_) <;> refine Lf.mk ?_)
  ·refine zk r.h (Int.natCast_nonneg k) hxk ?_
   (all_goals refine qgp (Lf.mk ?_))
   refine zb qp r.h (by show _ ≤ _; omega) (VS.mk (LeL.of_eq rfl)) ?_
   rw [(zj4 hr).1]
   (all_goals refine qgp ?_ <;> (repeat' first | exact trivial | intro hc | refine And.intro ?_ ?_) <;> refine Lf.mk ?_)
   all_goals first
    | (exfalso; exact (by assumption : ¬ True) trivial)
    | (exfalso; exact absurd (by assumption : x7 = [46, 109, 97, 99, 114, 111]) (by decide))
    | (exfalso; exact absurd (by assumption : ¬ x7 = [46, 114, 101, 112, 116]) (by decide))
    | skip
   refine xr znT [] (r, qg r', out1, lk + 1, 0) ⟨hr, by show r.body.length + (qg r').length ≤ _; omega, by decide, by decide, hlo, by show 0 ≤ lk + 1; omega, by show lk + 1 + ((rpO r).length : Int) ≤ 4000; omega⟩ rfl
    (LeL.of_eq (by rw [Int.toNat_natCast, hdr]; rfl)) rfl (.cons (.loc (Nat.lt_of_lt_of_le (by decide : 0 < 2) (Nat.le_of_eq rfl))) (.cons .sl (.cons .int .nil))) .int (qq _ _ _ _) (qq _ _ _ _) ?_
   dsimp only
   (all_goals refine qgp (Lf.mk ?_))
   exact yP (⟨r', out1 ++ rpO r, lk + 1 + ((rpO r).length : Int), k + (r.body.length + 2)⟩ : MSt) ⟨fun y hy => i1 y (List.mem_cons_of_mem _ hy), by
    dsimp only
    rw [← List.drop_drop, hdr, List.drop_left' hpl], by rw [List.append_assoc]; exact i3, by dsimp only; omega, by dsimp only; omega, by dsimp only; omega⟩ (Nat.lt_succ_self _) rfl ⟨rfl, rfl, rfl, rfl, trivial⟩
  ·exact absurd trivial hc
def zsR (l : List Seg) : Prop := (∀ s ∈ l, zlO s) ∧ (qg l).length ≤ 100000 ∧ (x8 l).length ≤ 200 ∧ qQ l ≤ 4000
theorem zoX : za Tryz.prog zdL (zz (fun l : List Seg => zsR l) (fun l => [.sl 2 ((qg l).map yZ) none]) fun l => .tup [.sl 2 ((x8 l).map yZ) none, .sl 2 [] none, .agg [.int .i64 0, .int .i64 0]]) := by
 refine zf zj Tryz.func32 rfl (by decide) ?_
 rintro l ⟨hs, hl, ho, hk⟩
 refine ⟨Nat.le_refl _, by simp [Tryz.f32], fun E hE => ?_⟩
 have hE0 : E.L.length = 0 := by rw [hE]; rfl
 generalize hS : qg l = S at *
 refine wq (ze _ ?_)
 (all_goals refine qgp (Lf.mk ?_))
 refine wq (ze _ ?_)
 (all_goals refine qgp (Lf.mk ?_))
 refine wP (σ' := [(0, .sl 2 (S.map yZ) none), (4, .loc 2 0), (5, .loc 0 0)]) (L' := mO [] 0 0 0 ++ [T5]) ?_ ?_
 ·rw [hE0]
  refine wo (vW 1 2 [.nilsl, .nilsl, .sl 2 [] (some 2), .int .i64 0, .int .i64 0, .int .i64 0] rfl ⟨.same, .same, .here, .same, .same, .same, trivial⟩) ?_
  refine jV [1, 2, 0] rfl rfl ?_ ⟨.flat .sl, .loc rfl, .loc rfl, trivial⟩
  exact .cons (o := .cells [.nilsl, .nilsl, .sl 2 [] (some 2), .int .i64 0, .int .i64 0, .int .i64 0]) rfl ⟨_, rfl, .cons (.flat .nilsl) (.cons (.flat .nilsl) (.cons (.tok rfl) (.cons (.flat .int) (.cons (.flat .int) (.cons (.flat .int) .nil)))))⟩
   (.cons (o := .spare 0) rfl rfl (.cons (o := T5) rfl ⟨_, rfl, .cons (.flat .int) (.cons (.flat .int) .nil)⟩ .nil))
 refine ze _ ?_
 (all_goals refine qgp (Lf.mk ?_))
 refine xr zoW [T5] (l, [], 0) ⟨hs, by rw [hS]; exact hl, by simpa using ho, by decide, by show 0 + (qQ l : Int) ≤ 4000; omega⟩ rfl (LeL.of_eq (by rw [← hS]; rfl)) rfl (.cons (.loc (Nat.lt_of_lt_of_le (by decide : 0 < 2) (Nat.le_of_eq rfl))) (.cons .sl (.cons .int .nil))) .tup0 (qq _ _ _ _) (qq _ _ _ _) ?_
 dsimp only
 rw [List.nil_append]
 (all_goals refine qgp ?_ <;> (repeat' first | exact trivial | intro hc | refine And.intro ?_ ?_) <;> refine Lf.mk ?_)
 ·exact absurd trivial hc
 ·exact zd (VS.mk (LeD.tup (.cons (.strip _ _ _) (.cons (.nil 2) (LeL.refl _)))))
structure zq9 (b : List UInt8) (l : List Seg) : Prop where
 len : b.length ≤ 1000000000
 lines : yF b = (qg l, 0, 0)
 ok : zsR l
 tot : kE (x8 l) ≤ 9000
 wts : ∀ x ∈ x8 l, wt (x.toks.map tk) ≤ 1048576
theorem zsS : za Tryz.prog zej (zz (fun ((b, l) : List UInt8 × List Seg) => zq9 b l) (fun (b, _) => [.sl 1 (b.map zE) none]) fun (_, l) => .tup [qP (wz [] (x8 l)).1, .agg [.int .i64 (wz [] (x8 l)).2.1, .int .i64 (wz [] (x8 l)).2.2]]) := by
 refine zf zj Tryz.func13 rfl (by decide) ?_
 rintro ⟨b, l⟩ ⟨h1, h2, h3, h4, h5⟩
 refine ⟨Nat.le_refl _, by simp [Tryz.f13], fun E hE => ?_⟩
 refine ze _ ?_
 (all_goals refine qgp (Lf.mk ?_))
 refine zb zco b h1 (VS.mk (LeL.of_eq rfl)) ?_
 have hD : zm2 (yF b) = .tup [.sl 2 ((yF b).1.map yZ) none, .agg [.int .i64 (yF b).2.1, .int .i64 (yF b).2.2]] := rfl
 rw [hD, h2]
 dsimp only
 (all_goals refine qgp ?_ <;> (repeat' first | exact trivial | intro hc | refine And.intro ?_ ?_) <;> refine Lf.mk ?_)
 ·exact absurd trivial hc
 refine zb zoX l h3 (VS.mk (LeL.of_eq rfl)) ?_
 (all_goals refine qgp ?_ <;> (repeat' first | exact trivial | intro hc | refine And.intro ?_ ?_) <;> refine Lf.mk ?_)
 ·exact absurd trivial hc
 refine zb zhc (x8 l, []) ⟨h4, h5, by decide, by have := h3.2.2.1; show (x8 l).length ≤ _; omega⟩ (VS.mk (LeL.of_eq rfl)) ?_
 dsimp only
 generalize wz [] (x8 l) = R
 (all_goals refine qgp (Lf.mk ?_))
 exact zd (VS.mk (LeD.refl _))
end Go.Proofs.YthmdddenbfbefaaGreatDoor
namespace Go.Proofs.YthmdddenbfbefaaGreatDoor
open Go Go.Plat
set_option linter.unusedVariables false
set_option linter.unusedSimpArgs false
set_option maxRecDepth 100000
set_option maxHeartbeats 2000000
attribute [local irreducible] AWP zC yg zJ zo yw z8 zH z1 z6 zt za zP yx zp z7 yt yu yi yk zw zx zy ym yh zF yL okC zg
def upI (n : Int) : Int := n + 3 - (n + 3) % 4
def wB : List xc → Int → List Int
 | [], _ => []
 | o :: l, n => upI n :: wB l (upI n + o.code.length)
def qR : List xc → Int → Int
 | [], n => n
 | o :: l, n => qR l (upI n + o.code.length)
def zra (n : Int) : D := .int .i64 n
def zf6 (l : List Int) : D := .sl 1 (l.map zra) none
theorem zxW : ∀ i : Fin 64, (~~~ (3#64)).getLsbD i = decide (2 ≤ i.1) := by decide
theorem zsT (x : BitVec 64) : x &&& ~~~ (3#64) = (x >>> 2) <<< 2 := by
 apply BitVec.eq_of_getLsbD_eq
 intro i hi
 rw [BitVec.getLsbD_and, zxW ⟨i, hi⟩, BitVec.getLsbD_shiftLeft, BitVec.getLsbD_ushiftRight]
 by_cases h : 2 ≤ i
 ·simp [h, hi, show ¬ i < 2 by omega, show 2 + (i - 2) = i by omega]
 ·simp [h, show i < 2 by omega]
theorem zuv {n : Int} (h0 : 0 ≤ n) (h1 : n ≤ 9223372036854775807) : zy .andNot .i64 n 3 = n - n % 4 := by
 obtain ⟨a, rfl⟩ := Int.eq_ofNat_of_zero_le h0
 have ha : a ≤ 9223372036854775807 := by omega
 unfold zy
 have hx := zbc ha
 have e : (BitVec.ofInt IntKind.i64.bits (a : Int) &&& ~~~ BitVec.ofInt IntKind.i64.bits 3).toNat = a / 4 * 4 := by
  generalize BitVec.ofInt IntKind.i64.bits (a : Int) = x at *
  change BitVec 64 at x
  show (x &&& ~~~ (3#64)).toNat = _
  rw [zsT, BitVec.toNat_shiftLeft, BitVec.toNat_ushiftRight]
  have hx : x.toNat = a := hx
  rw [hx, Nat.shiftRight_eq_div_pow, Nat.shiftLeft_eq]
  omega
 show IntKind.i64.wrap ((_ : Nat) : Int) = _
 rw [e]
 refine (Go.Plat.wrap_small (by omega)).trans ?_
 omega
theorem zf7 (n : Int) : n ≤ upI n ∧ upI n ≤ n + 3 ∧ upI n % 4 = 0 := by unfold upI; omega
theorem znU : za Tryz.prog zmG (zz (fun ((l, n) : List xc × Int) => l.length ≤ 1048576 ∧ 0 ≤ n ∧ n ≤ 1000000000 ∧ ∀ o ∈ l, o.code.length ≤ 1048576) (fun (l, n) => [.sl 3 (l.map qP) none, .int .i64 n])
  fun (l, n) => .tup [zf6 (wB l n), .int .i64 (qR l n)]) := by
 refine zf zj Tryz.func91 rfl (by decide) ?_
 rintro ⟨l, n⟩ ⟨hl, hn0, hn1, ho⟩
 refine ⟨Nat.le_refl _, by simp [Tryz.f91], fun E hE => ?_⟩
 refine ze _ ?_
 (all_goals refine qgo (Lf.mk ?_))
 refine wP (kq 6 1 rfl) ?_
 refine yb (α := Nat × List Int × Int) (fun p => p.1 ≤ l.length ∧ p.2.1.length = p.1 ∧ p.2.1 ++ wB (l.drop p.1) p.2.2 = wB l n ∧ qR (l.drop p.1) p.2.2 = qR l n ∧ 0 ≤ p.2.2 ∧ p.2.2 ≤ 1000000000 + p.1 * 1048580)
  (fun p => [(11, .sl 3 (l.map qP) none), (12, .int .i64 l.length), (13, .int .i64 p.1), (6, .sl 1 (p.2.1.map zra) (some 0)), (7, .int .i64 p.2.2)])
  (fun p => [.spare p.2.1.length]) (fun p => l.length - p.1) (fun _ => by simp [hE]) (0, [], n) ⟨Nat.zero_le _, rfl, by simp, by simp, hn0, by dsimp only; omega⟩ ?_ ?_
 ·(repeat' (first | (refine VS.mk ?_) | exact trivial | exact rfl | refine And.intro ?_ ?_))
 rintro ⟨k, bs, a⟩ ⟨hk, hbl, hb, he, ha0, ha1⟩
 dsimp only at hk hbl hb he ha0 ha1 ⊢
 refine ze _ ?_
 have hkb : (k : Int) * 1048580 ≤ 1048576 * 1048580 := by omega
 (all_goals refine qgo ?_ <;> (repeat' first | exact trivial | intro hc | refine And.intro ?_ ?_) <;> refine Lf.mk ?_)
 ·obtain ⟨o, hok⟩ := yj (l := l) (k := k) (by omega)
  have hkl : k < l.length := by omega
  have hget : l[k] = o := by rw [List.getElem?_eq_getElem hkl] at hok; exact Option.some.inj hok
  have hoc := ho o (List.mem_of_getElem? hok)
  rw [List.drop_eq_getElem_cons hkl, hget, wB] at hb
  rw [List.drop_eq_getElem_cons hkl, hget, qR] at he
  have hup := zf7 a
  refine zk o (by omega) (by simpa using hok) ?_
  (all_goals refine qgo (Lf.mk ?_))
  refine wm (zuv (by omega) (by omega)) ?_
  (all_goals refine qgo (Lf.mk ?_))
  refine zA (k + 1, bs ++ [upI a], upI a + o.code.length) ⟨by (dsimp only; omega), by (dsimp only; rw [List.length_append, hbl]; rfl), by (dsimp only; rw [List.append_assoc]; exact hb), he, by (dsimp only; omega), by (dsimp only; omega)⟩ (by dsimp only; omega) ?_
  (repeat' (first | (refine VS.mk ?_) | exact trivial | exact rfl | refine And.intro ?_ ?_))
  ·simp
  ·simp [zra, upI]
 ·obtain rfl : k = l.length := by omega
  rw [List.drop_length, wB, List.append_nil] at hb
  rw [List.drop_length, qR] at he
  refine zd (VS.mk ?_)
  rw [hb, he]
  (first | exact LeL.refl _ | (repeat' (first | exact LeL.nil | exact LeD.refl _ | exact LeD.nil _ | exact LeD.strip _ _ _ | refine LeL.cons ?_ ?_ | refine LeD.tup ?_ | refine LeD.agg ?_)))
def qS (n : List UInt8) : List zu → Option Int
 | [] => none
 | s :: l => if s.name = n then some s.at_ else qS n l
def zeH (n : List UInt8) : List zu → Nat → Int
 | [], _ => -1
 | s :: l, k => if s.name = n then k else zeH n l (k + 1)
theorem zrb : za Tryz.prog zbx (ya (fun _ : zu × List UInt8 => True) (fun (s, n) => [yJ s, .loc 0 0]) (fun (s, n) => [.cells [.str n]]) (fun (s, n) => .bool (s.name == n)) fun (s, n) => [.cells [.str n]]) := by
 refine zf zj Tryz.func145 rfl (by decide) ?_
 rintro ⟨s, n⟩ -
 refine ⟨Nat.le_refl _, by simp [Tryz.f145], fun E hE => ?_⟩
 refine ze _ ?_
 (all_goals refine qgo (Lf.mk ?_))
 refine yl ?_
 (repeat' (first | (refine VS.mk ?_) | exact trivial | exact rfl | refine And.intro ?_ ?_))
theorem znV : za Tryz.prog vh (ya (fun ((l, n) : List zu × List UInt8) => l.length ≤ 1000000000) (fun (l, n) => [.sl 2 (l.map yJ) none, .fn zbx [.loc 0 0]])
  (fun (l, n) => [.cells [.str n]]) (fun (l, n) => .int .i64 (zeH n l 0)) fun (l, n) => [.cells [.str n]]) := by
 refine zf zj Tryz.func133 rfl (by decide) ?_
 rintro ⟨l, n⟩ hl
 have hl : l.length ≤ 1000000000 := hl
 refine ⟨Nat.le_refl _, by simp [Tryz.f133], fun E hE => ?_⟩
 refine ze _ ?_
 (all_goals refine qgo (Lf.mk ?_))
 refine yb (α := Nat) (fun k => k ≤ l.length ∧ zeH n l 0 = zeH n (l.drop k) k)
  (fun k => [(7, .int .i64 l.length), (8, .int .i64 k), (0, .sl 2 (l.map yJ) none), (1, .fn zbx [.loc 0 0])])
  (fun _ => [.cells [.str n]]) (fun k => l.length - k) (fun _ => by simp [hE]) 0 ⟨Nat.zero_le _, by simp⟩ ?_ ?_
 ·(repeat' (first | (refine VS.mk ?_) | exact trivial | exact rfl | refine And.intro ?_ ?_))
 rintro k ⟨hk, hf⟩
 refine ze _ ?_
 (all_goals refine qgo ?_ <;> (repeat' first | exact trivial | intro hc | refine And.intro ?_ ?_) <;> refine Lf.mk ?_)
 ·obtain ⟨s, hsk⟩ := yj (l := l) (k := k) (by omega)
  have hkl : k < l.length := by omega
  have hget : l[k] = s := by rw [List.getElem?_eq_getElem hkl] at hsk; exact Option.some.inj hsk
  rw [List.drop_eq_getElem_cons hkl, hget, zeH] at hf
  refine zk s (by omega) (by simpa using hsk) ?_
  (all_goals refine qgo (Lf.mk ?_))
  refine zY zrb [0] [0] (s, n) trivial rfl rfl ?_
  refine And.intro (VS.mk (LeL.of_eq rfl)) (And.intro (VS.mk rfl) ?_)
  (all_goals refine qgo ?_ <;> (repeat' first | exact trivial | intro hc | refine And.intro ?_ ?_) <;> refine Lf.mk ?_)
  ·rw [if_pos hc] at hf
   refine yl ?_
   (repeat' (first | (refine VS.mk ?_) | exact trivial | exact rfl | refine And.intro ?_ ?_))
   exact congrArg (D.int .i64) hf.symm
  ·rw [if_neg hc] at hf
   refine zA (k + 1) ⟨by omega, hf⟩ (by omega) ?_
   (repeat' (first | (refine VS.mk ?_) | exact trivial | exact rfl | refine And.intro ?_ ?_))
 ·rw [List.drop_of_length_le (by omega), zeH] at hf
  refine yl ?_
  (repeat' (first | (refine VS.mk ?_) | exact trivial | exact rfl | refine And.intro ?_ ?_))
  exact congrArg (D.int .i64) hf.symm
theorem znW (n : List UInt8) : ∀ (l : List zu) (k : Nat), (qS n l = none ∧ zeH n l k = -1) ∨ ∃ (i : Nat) (s : zu), l[i]? = some s ∧ zeH n l k = ((k + i : Nat) : Int) ∧ qS n l = some s.at_
 | [], k => .inl ⟨rfl, rfl⟩
 | s :: l, k => by
  rw [qS, zeH]
  by_cases h : s.name = n
  ·rw [if_pos h, if_pos h]
   exact .inr ⟨0, s, rfl, rfl, rfl⟩
  ·rw [if_neg h, if_neg h]
   rcases znW n l (k + 1) with h1 | ⟨i, t, h1, h2, h3⟩
   ·exact .inl h1
   ·exact .inr ⟨i + 1, t, h1, by rw [h2]; congr 1; omega, h3⟩
theorem zhe : za Tryz.prog zow (zz (fun ((l, n) : List zu × List UInt8) => l.length ≤ 1000000000) (fun (l, n) => [.sl 2 (l.map yJ) none, .str n])
  fun (l, n) => .tup [.int .i64 ((qS n l).getD 0), .bool (qS n l).isSome]) := by
 refine zf zj Tryz.func92 rfl (by decide) ?_
 rintro ⟨l, n⟩ hl
 have hl : l.length ≤ 1000000000 := hl
 refine ⟨Nat.le_refl _, by simp [Tryz.f92], fun E hE => ?_⟩
 refine ze _ ?_
 (all_goals refine qgo (Lf.mk ?_))
 refine zY znV [0] [0] (l, n) hl rfl rfl ?_
 refine And.intro (VS.mk (LeL.of_eq rfl)) (And.intro (VS.mk rfl) ?_)
 rcases znW n l 0 with ⟨h1, h2⟩ | ⟨i, s, h1, h2, h3⟩
 ·dsimp only
  rw [h2]
  (all_goals refine qgo ?_ <;> (repeat' first | exact trivial | intro hc | refine And.intro ?_ ?_) <;> refine Lf.mk ?_)
  all_goals first
   | (exfalso; omega)
   | (refine zd (VS.mk ?_); rw [h1]; exact .tup (.cons (.refl _) (.cons (.ff rfl) .nil)))
 ·have hil : i < l.length := (List.getElem?_eq_some_iff.1 h1).1
  rw [Nat.zero_add] at h2
  dsimp only
  rw [h2]
  (all_goals refine qgo ?_ <;> (repeat' first | exact trivial | intro hc | refine And.intro ?_ ?_) <;> refine Lf.mk ?_)
  ·exfalso; omega
  ·refine zk s (by omega) (by simpa using h1) ?_
   (all_goals refine qgo (Lf.mk ?_))
   refine zd (VS.mk ?_)
   rw [h3]
   exact .tup (.cons (.refl _) (.cons (.tt rfl) .nil))
end Go.Proofs.YthmdddenbfbefaaGreatDoor
namespace Go.Proofs.YthmdddenbfbefaaGreatDoor
open Go Go.Plat
set_option linter.unusedVariables false
set_option linter.unusedSimpArgs false
set_option maxRecDepth 100000
set_option maxHeartbeats 2000000
attribute [local irreducible] AWP zC yg zJ zo yw z8 zH z1 z6 zt za zP yx zp z7 yt yu yi yk zw zx zy
attribute [local irreducible] ym zF zg
theorem zsU {s : List UInt8} (h : yL s = true) : 1 ≤ s.length ∧ s.length ≤ 10 := by
 unfold yL at h
 rw [Bool.and_eq_true, Bool.and_eq_true] at h
 exact of_decide_eq_true h.1.1
attribute [local irreducible] yL
theorem znX {n : Int} : ∀ {l : List zu} {had : List (List UInt8)}, w7 n l had = none → ∀ s ∈ l, yL s.name = true ∧ 0 ≤ s.at_ ∧ s.at_ ≤ n
 | [], _, _, s, hs => by simp at hs
 | t :: l, had, h, s, hs => by
  rw [w7] at h
  split at h
  ·cases h
  rename_i h1
  split at h
  ·cases h
  rename_i h2
  rcases List.mem_cons.1 hs with rfl | hs
  ·refine ⟨?_, by omega, by omega⟩
   cases hn : yL s.name with
   | true => rfl
   | false => exact (h1 (.inl hn)).elim
  ·exact znX h s hs
theorem znY {n : Int} : ∀ {l : List zu} {had : List (List UInt8)} {e : Int}, w7 n l had = some e → e ≠ 0
 | [], _, _, h => by cases h
 | t :: l, had, e, h => by
  rw [w7] at h
  split at h
  ·cases h; decide
  split at h
  ·cases h; decide
  exact znY h
structure zlP (n : Int) (r : zbD) : Prop where
 size : r.size = 2 ∨ r.size = 4
 at0 : 0 ≤ r.at_
 at1 : r.at_ + r.size ≤ n
 name : r.name = [] ∨ yL r.name = true
 add : zg r.add 32 = r.add
theorem znZ {n : Int} : ∀ {l : List zbD} {last : Int}, 0 ≤ last → kP n l last = 0 → ∀ r ∈ l, zlP n r
 | [], _, _, _, s, hs => by simp at hs
 | t :: l, last, h0, h, r, hs => by
  rw [kP] at h
  split at h
  ·cases h
  rename_i h1
  split at h
  ·cases h
  rename_i h2
  split at h
  ·cases h
  rename_i h3
  split at h
  ·cases h
  rename_i h4
  split at h
  ·cases h
  rename_i h5
  rcases List.mem_cons.1 hs with rfl | hs
  ·refine ⟨by omega, by omega, by omega, ?_, Classical.not_not.1 h5⟩
   cases hn : yL r.name with
   | true => exact .inr rfl
   | false => exact .inl (Classical.not_not.1 fun hne => h4 ⟨hne, hn⟩)
  ·exact znZ (by omega) h r hs
structure zxX (o : xc) : Prop where
 code : o.code.length ≤ 8000
 syms : o.syms.length ≤ 255
 rels : o.rels.length ≤ 16000
 sym : ∀ s ∈ o.syms, yL s.name = true ∧ 0 ≤ s.at_ ∧ s.at_ ≤ o.code.length
 rel : ∀ r ∈ o.rels, zlP o.code.length r
theorem zhQ {o : xc} (h : wu o = 0) : zxX o := by
 unfold wu at h
 split at h
 ·cases h
 rename_i h1
 split at h
 ·rename_i e he
  exact (znY he h).elim
 rename_i he
 exact ⟨by omega, by omega, by omega, znX he, znZ (Int.le_refl _) h⟩
theorem zlP.len {n : Int} {r : zbD} (h : zlP n r) : r.name.length ≤ 10 := by
 rcases h.name with h | h
 ·rw [h]; decide
 ·exact (zsU h).2
end Go.Proofs.YthmdddenbfbefaaGreatDoor
namespace Go.Proofs.YthmdddenbfbefaaGreatDoor
open Go Go.Plat
set_option linter.unusedVariables false
set_option maxRecDepth 100000
attribute [local irreducible] ym yh zF yL okC zg
def zuw (e a : Int) : D := .agg [.int .i64 e, .int .i64 a]
def zaE (b : Int) : List zu → List zu → Option (List zu)
 | [], acc => some acc
 | s :: l, acc => if (qS s.name acc).isSome = true then none else zaE b l (acc ++ [⟨s.name, b + s.at_⟩])
def zaf (bs : List UInt8) (off : Nat) (code : List UInt8) : List UInt8 := bs ++ List.replicate (off - bs.length) 0 ++ code
def lay (base : Int) : List xc → Int → Nat → List UInt8 → List zu → Nat ⊕ (List UInt8 × List zu)
 | [], _, _, bs, ss => .inr (bs, ss)
 | o :: l, n, i, bs, ss => match zaE (upI n) o.syms ss with
  | none => .inl i
  | some ss' => lay base l (upI n + o.code.length) (i + 1) (zaf bs (upI n - base).toNat o.code) ss'
def zcB (b : Int) (ss : List zu) (r : zbD) : Option Int := if r.name = [] then some b else qS r.name ss
def zbG (base b : Int) (ss : List zu) : List zbD → List UInt8 → Int ⊕ List UInt8
 | [], bs => .inr bs
 | r :: l, bs => match zcB b ss r with
  | none => .inl 6
  | some a => if r.size = 2 ∧ (zg (a + r.add) 32 < -32768 ∨ 65535 < zg (a + r.add) 32) then .inl 3
   else zbG base b ss l (xv bs (b - base + r.at_) r.size.toNat (zg (a + r.add) 32))
def fix (base : Int) (ss : List zu) : List xc → Int → Nat → List UInt8 → (Int × Nat) ⊕ List UInt8
 | [], _, _, bs => .inr bs
 | o :: l, n, i, bs => match zbG base (upI n) ss o.rels bs with
  | .inl e => .inl (e, i)
  | .inr bs' => fix base ss l (upI n + o.code.length) (i + 1) bs'
def jf : List xc → Nat → Option (Int × Nat)
 | [], _ => none
 | o :: l, i => if wu o = 0 then jf l (i + 1) else some (wu o, i)
def zeI (l : List xc) (base : Int) : j8 × Int × Int :=
 match jf l 0 with
 | some (e, i) => (zaM, e, i)
 | none => match lay base l base 0 [] [] with
  | .inl i => (zaM, 7, i)
  | .inr (bs, ss) => match fix base ss l base 0 bs with
   | .inl (e, i) => (zaM, e, i)
   | .inr bs' => (⟨base, bs', ss⟩, 0, 0)
def x3 (l : List xc) (base : Int) : j8 × Int × Int :=
 if base < 0 ∨ 1048576 < base ∨ base % 4 ≠ 0 then (zaM, 3, 0) else if l.length < 1 ∨ 4 < l.length then (zaM, 5, 0) else zeI l base
def zj5 (x : j8 × Int × Int) : D := .tup [zjP x.1, zuw x.2.1 x.2.2]
theorem zkW : ∀ {l : List xc} {k : Nat}, jf l k = none → ∀ o ∈ l, wu o = 0
 | [], _, _, o, h => by simp at h
 | x :: l, k, h, o, ho => by
  rw [jf] at h
  split at h
  ·rename_i hx
   rcases List.mem_cons.1 ho with rfl | ho
   ·exact hx
   ·exact zkW h o ho
  ·cases h
theorem zkX {n : List UInt8} : ∀ {l : List zu} {a : Int}, qS n l = some a → ∃ s ∈ l, s.at_ = a
 | [], a, h => by cases h
 | s :: l, a, h => by
  rw [qS] at h
  split at h
  ·cases h; exact ⟨s, by simp, rfl⟩
  ·obtain ⟨t, h1, h2⟩ := zkX h
   exact ⟨t, by simp [h1], h2⟩
theorem zhf (bs : List UInt8) (a : Int) (k : Nat) (n : Int) : (xv bs a k n).length = bs.length := zcs a k bs n
theorem zj6 : ∀ (l : List xc) (n : Int), n ≤ qR l n
 | [], n => Int.le_refl _
 | o :: l, n => by
  have h1 := zj6 l (upI n + o.code.length)
  have h2 := zf7 n
  rw [qR]; omega
theorem zpL : ∀ (l : List xc) (n : Int), (∀ o ∈ l, o.code.length ≤ 8000) → qR l n ≤ n + l.length * 8003
 | [], n, _ => by rw [qR]; simp
 | o :: l, n, h => by
  have h1 := zpL l (upI n + o.code.length) fun x hx => h x (by simp [hx])
  have h2 := zf7 n
  have h3 := h o (by simp)
  rw [qR, List.length_cons]; omega
theorem zhg {α : Type} {l r : List α} {k : Nat} {x : α} (h : l.drop k = x :: r) : l[k]? = some x := by
 have := List.getElem?_drop (xs := l) (i := k) (j := 0)
 rw [h] at this
 simpa using this.symm
theorem zkY {α : Type} {l r : List α} {k : Nat} {x : α} (h : l.drop k = x :: r) : l.drop (k + 1) = r := by
 rw [← List.drop_drop, h]; rfl
theorem qh {α : Type} {l : List α} {k : Nat} {o : α} (h : l[k]? = some o) : l.drop k = o :: l.drop (k + 1) := by
 obtain ⟨hk, h2⟩ := List.getElem?_eq_some_iff.1 h
 rw [List.drop_eq_getElem_cons hk, h2]
theorem zf8 (n : Int) : -2147483648 ≤ zg n 32 ∧ zg n 32 ≤ 2147483647 := by
 have : zg n 32 = if n % 4294967296 / 2147483648 = 1 then n % 4294967296 - 4294967296 else n % 4294967296 := by unfold zg; rfl
 rw [this]
 split <;> omega
theorem zux {base : Int} {o : xc} {l : List xc} {n : Int} {i : Nat} {bs : List UInt8} {ss : List zu} : lay base (o :: l) n i bs ss = match zaE (upI n) o.syms ss with
  | none => .inl i
  | some ss' => lay base l (upI n + o.code.length) (i + 1) (zaf bs (upI n - base).toNat o.code) ss' := by rw [lay]
theorem zwd {base n : Int} {i : Nat} {bs : List UInt8} {ss : List zu} : lay base [] n i bs ss = .inr (bs, ss) := rfl
theorem zuy {base : Int} {o : xc} {l : List xc} {n : Int} {i : Nat} {bs : List UInt8} {ss : List zu} : fix base ss (o :: l) n i bs = match zbG base (upI n) ss o.rels bs with
  | .inl e => .inl (e, i)
  | .inr bs' => fix base ss l (upI n + o.code.length) (i + 1) bs' := by rw [fix]
theorem zwe {base n : Int} {i : Nat} {bs : List UInt8} {ss : List zu} : fix base ss [] n i bs = .inr bs := rfl
theorem zsV {base b : Int} {ss : List zu} {r : zbD} {l : List zbD} {bs : List UInt8} : zbG base b ss (r :: l) bs = match zcB b ss r with
  | none => .inl 6
  | some a => if r.size = 2 ∧ (zg (a + r.add) 32 < -32768 ∨ 65535 < zg (a + r.add) 32) then .inl 3
   else zbG base b ss l (xv bs (b - base + r.at_) r.size.toNat (zg (a + r.add) 32)) := by rw [zbG]
theorem zuz {base b : Int} {ss : List zu} {bs : List UInt8} : zbG base b ss [] bs = .inr bs := rfl
theorem zsW {b : Int} {s : zu} {l acc : List zu} : zaE b (s :: l) acc = if (qS s.name acc).isSome = true then none else zaE b l (acc ++ [⟨s.name, b + s.at_⟩]) := by rw [zaE]
theorem zuA {b : Int} {acc : List zu} : zaE b [] acc = some acc := rfl
theorem zja {o : xc} {l : List xc} {n : Int} : wB (o :: l) n = upI n :: wB l (upI n + o.code.length) := rfl
theorem zsX {o : xc} {l : List xc} {n : Int} : qR (o :: l) n = qR l (upI n + o.code.length) := rfl
theorem zuB {n : Int} : qR [] n = n := rfl
theorem zsY {bs code : List UInt8} {off N : Nat} (h1 : bs.length ≤ off) (h2 : off + code.length ≤ N) :
  vV ((bs ++ List.replicate (N - bs.length) 0).map zE) off (code.map zE) = ((zaf bs off code) ++ List.replicate (N - (zaf bs off code).length) 0).map zE := by
 have hlen : (zaf bs off code).length = off + code.length := by unfold zaf; simp; omega
 rw [hlen]
 unfold vV zaf
 rw [List.length_map, ← List.map_take, ← List.map_drop, ← List.map_append, ← List.map_append]
 congr 1
 have e1 : (bs ++ List.replicate (N - bs.length) 0).take off = bs ++ List.replicate (off - bs.length) 0 := by
  rw [List.take_append, List.take_of_length_le h1, List.take_replicate]
  congr 2; omega
 have e2 : (bs ++ List.replicate (N - bs.length) (0 : UInt8)).drop (off + code.length) = List.replicate (N - (off + code.length)) 0 := by
  rw [List.drop_append, List.drop_of_length_le (by omega), List.drop_replicate, List.nil_append]
  congr 1; omega
 rw [e1, e2]
theorem zuC {bs code : List UInt8} {off : Nat} (h1 : bs.length ≤ off) : (zaf bs off code).length = off + code.length := by unfold zaf; simp; omega
end Go.Proofs.YthmdddenbfbefaaGreatDoor
namespace Go.Proofs.YthmdddenbfbefaaGreatDoor
open Go Go.Plat
set_option linter.unusedVariables false
set_option linter.unusedSimpArgs false
set_option maxRecDepth 100000
set_option maxHeartbeats 2000000
attribute [local irreducible] AWP zC yg zJ zo yw z8 zH z1 z6 zt za zP yx zp z7 yt yu yi yk zw zx zaE wB zy ym qR qS fix zbG yh lay zF yL okC xv zg upI wu
structure InL (l : List xc) (base : Int) : Prop where
 base0 : -9223372036854775808 ≤ base
 base1 : base ≤ 9223372036854775807
 len : l.length ≤ 1048576
 rel : ∀ o ∈ l, ∀ r ∈ o.rels, -9223372036854775808 ≤ r.at_ ∧ r.at_ ≤ 9223372036854775807 ∧ r.name.length ≤ 1000000000
 sym : ∀ o ∈ l, ∀ s ∈ o.syms, s.name.length ≤ 1000000000
theorem jg {e a : Int} {x : j8 × Int × Int} (h : x = (zaM, e, a)) : LeD (.tup [.agg [.int .i64 0, .nilsl, .nilsl], .agg [.int .i64 e, .int .i64 a]]) (zj5 x) := by
 subst h
 exact .tup (.cons (.agg (.cons (.refl _) (.cons (.nil 1) (.cons (.nil 2) .nil)))) (.cons (.refl _) .nil))
theorem zrc : za Tryz.prog zot (zz (fun ((l, base) : List xc × Int) => InL l base) (fun (l, base) => [.sl 3 (l.map qP) none, .int .i64 base]) fun (l, base) => zj5 (x3 l base)) := by
 refine zf zj Tryz.func52 rfl (by decide) ?_
 rintro ⟨l, base⟩ hin
 have hb0 := hin.base0
 have hb1 := hin.base1
 have hll := hin.len
 refine ⟨Nat.le_refl _, by simp [Tryz.f52], fun E hE => ?_⟩
 refine ze _ ?_
 (all_goals refine qgo ?_ <;> (repeat' first | exact trivial | intro hc | refine And.intro ?_ ?_) <;> refine Lf.mk ?_)
 ·exact zd (VS.mk (jg (by show x3 l base = _; unfold x3; rw [if_pos (by omega)])))
 ·exact zd (VS.mk (jg (by show x3 l base = _; unfold x3; rw [if_pos (by omega)])))
 ·exact zd (VS.mk (jg (by show x3 l base = _; unfold x3; rw [if_pos (by omega)])))
 ·exact zd (VS.mk (jg (by show x3 l base = _; unfold x3; rw [if_neg (by omega), if_pos (by omega)])))
 ·exact zd (VS.mk (jg (by show x3 l base = _; unfold x3; rw [if_neg (by omega), if_pos (by omega)])))
 have hlo : x3 l base = zeI l base := by unfold x3; rw [if_neg (by omega), if_neg (by omega)]
 have hl4 : l.length ≤ 4 := by omega
 refine yb (α := Nat) (fun k => k ≤ l.length ∧ jf l 0 = jf (l.drop k) k)
  (fun k => [(48, .sl 3 (l.map qP) none), (49, .int .i64 l.length), (50, .int .i64 k), (0, .sl 3 (l.map qP) none), (1, .int .i64 base), (4, .loc 0 0), (5, .loc 1 0)])
  (fun _ => [.cells [.int .i64 0, .nilsl, .nilsl], .cells [.int .i64 0, .int .i64 0]]) (fun k => l.length - k) (fun _ => by simp [hE]) 0 ⟨Nat.zero_le _, by simp⟩ ?_ ?_
 ·(repeat' (first | (refine VS.mk ?_) | exact trivial | exact rfl | refine And.intro ?_ ?_))
 rintro k ⟨hk, hf⟩
 refine ze _ ?_
 (all_goals refine qgo ?_ <;> (repeat' first | exact trivial | intro hc | refine And.intro ?_ ?_) <;> refine Lf.mk ?_)
 ·obtain ⟨o, hok⟩ := yj (l := l) (k := k) (by omega)
  rw [qh hok, jf] at hf
  have hom := List.mem_of_getElem? hok
  refine zk o (by omega) (by simpa using hok) ?_
  (all_goals refine qgo (Lf.mk ?_))
  refine zb zfS o ⟨hin.rel o hom, hin.sym o hom⟩ (VS.mk (by (first | exact LeL.refl _ | (repeat' (first | exact LeL.nil | exact LeD.refl _ | exact LeD.nil _ | exact LeD.strip _ _ _ | refine LeL.cons ?_ ?_ | refine LeD.tup ?_ | refine LeD.agg ?_))))) ?_
  (all_goals refine qgo ?_ <;> (repeat' first | exact trivial | intro hc | refine And.intro ?_ ?_) <;> refine Lf.mk ?_)
  ·rw [if_neg hc] at hf
   exact zd (VS.mk (jg (by show x3 l base = _; rw [hlo]; unfold zeI; rw [hf])))
  ·rw [if_pos hc] at hf
   refine zA (k + 1) ⟨by omega, hf⟩ (by omega) ?_
   (repeat' (first | (refine VS.mk ?_) | exact trivial | exact rfl | refine And.intro ?_ ?_))
 rw [List.drop_of_length_le (by omega), jf] at hf
 have hlr : zeI l base = match lay base l base 0 [] [] with
  | .inl i => (zaM, 7, i)
  | .inr (bs, ss) => match fix base ss l base 0 bs with
   | .inl (e, i) => (zaM, e, i)
   | .inr bs' => (⟨base, bs', ss⟩, 0, 0) := by unfold zeI; rw [hf]; try rfl
 have hok := zkW hf
 have hcode : ∀ o ∈ l, o.code.length ≤ 8000 := fun o ho => (zhQ (hok o ho)).code
 clear hf
 refine zb znU (l, base) ⟨by omega, by omega, by omega, fun o ho => by have := hcode o ho; omega⟩ (VS.mk (LeL.of_eq rfl)) ?_
 have he0 := zj6 l base
 have he1 := zpL l base hcode
 (all_goals refine qgs (Lf.mk ?_))
 refine zlV ?_
 (all_goals refine qgo (Lf.mk ?_))
 generalize hN : (qR l base - base).toNat = N at *
 have hNe : qR l base - base = (N : Nat) := by omega
 have hN1 : N ≤ 32012 := by omega
 have hR : (List.replicate N (D.int .u8 0)).length = N := List.length_replicate
 refine wP (vW 3 2 [.int .i64 base, .osl 1 2 (List.replicate N (D.int .u8 0)).length 0 (List.replicate N (D.int .u8 0)).length, .sl 2 [] (some 4)] rfl ⟨.same, .same, .here, trivial⟩) ?_
 generalize hLAY : lay base l base 0 [] [] = LAY at *
 refine yb (α := Nat × Int × List UInt8 × List zu) (fun p => p.1 ≤ l.length ∧ lay base (l.drop p.1) p.2.1 p.1 p.2.2.1 p.2.2.2 = LAY ∧ (wB l base).drop p.1 = wB (l.drop p.1) p.2.1 ∧ qR (l.drop p.1) p.2.1 = qR l base ∧
   (p.2.2.1.length : Int) = p.2.1 - base ∧ p.2.1 ≤ base + p.1 * 8003 ∧ p.2.2.2.length ≤ p.1 * 255 ∧ ∀ s ∈ p.2.2.2, 0 ≤ s.at_ ∧ s.at_ ≤ 100000000)
  (fun p => [(76, .sl 3 (l.map qP) none), (77, .int .i64 l.length), (78, .int .i64 p.1), (0, .sl 3 (l.map qP) none), (1, .int .i64 base), (4, .loc 0 0), (5, .loc 1 0), (9, zf6 (wB l base)), (11, .loc 3 0)])
  (fun p => [.cells [.int .i64 0, .nilsl, .nilsl], .cells [.int .i64 0, .int .i64 0], .arr 1 ((p.2.2.1 ++ List.replicate (N - p.2.2.1.length) 0).map zE), .cells [.int .i64 base, .osl 1 2 N 0 N, .sl 2 (p.2.2.2.map yJ) (some 4)], .spare p.2.2.2.length])
  (fun p => l.length - p.1) (fun _ => by simp [hE]) (0, base, [], []) ⟨Nat.zero_le _, by simpa using hLAY, by simp, by simp, by simp, by dsimp only; omega, by simp, by simp⟩ ?_ ?_
 ·(repeat' (first | (refine VS.mk ?_) | exact trivial | exact rfl | refine And.intro ?_ ?_))
  refine v7 (List.replicate N 0) (by rw [List.map_replicate]; rfl) ?_
  (repeat' (first | (refine VS.mk ?_) | exact trivial | exact rfl | refine And.intro ?_ ?_))
  simp [vC]
 rintro ⟨k, n, bs, ss⟩ ⟨hk, hlay, hbas, hend, hbl, hn, hsl, hss⟩
 dsimp only at hk hlay hbas hend hbl hn hsl hss ⊢
 refine ze _ ?_
 (all_goals refine qgo ?_ <;> (repeat' first | exact trivial | intro hc | refine And.intro ?_ ?_) <;> refine Lf.mk ?_)
 ·obtain ⟨o, hok1⟩ := yj (l := l) (k := k) (by omega)
  have hom := List.mem_of_getElem? hok1
  have hob := zhQ (hok o hom)
  have hoc := hob.code
  have hup := zf7 n
  rw [qh hok1, zux] at hlay
  rw [qh hok1, zja] at hbas
  rw [qh hok1, zsX] at hend
  have hge := zj6 (l.drop (k + 1)) (upI n + o.code.length)
  have hbk : (wB l base)[k]? = some (upI n) := zhg hbas
  refine zk o (by omega) (by simpa using hok1) ?_
  (all_goals refine qgk (Lf.mk ?_))
  refine zk (upI n) (by omega) (by simpa using hbk) ?_
  (all_goals refine qgk (Lf.mk ?_))
  have ho1 : bs.length ≤ (upI n - base).toNat := by omega
  have ho2 : (upI n - base).toNat + o.code.length ≤ N := by omega
  have hll2 := zuC (code := o.code) ho1
  refine w4 (((zaf bs (upI n - base).toNat o.code) ++ List.replicate (N - (zaf bs (upI n - base).toNat o.code).length) 0).map zE) (by rw [Nat.zero_add]; exact zsY ho1 ho2) ?_
  generalize hB : zaf bs (upI n - base).toNat o.code = B at *
  (all_goals refine qgo (Lf.mk ?_))
  generalize hADD : zaE (upI n) o.syms ss = ADD at *
  have hos := hob.syms
  refine yb (α := Nat × List zu) (fun p => p.1 ≤ o.syms.length ∧ zaE (upI n) (o.syms.drop p.1) p.2 = ADD ∧ p.2.length ≤ k * 255 + p.1 ∧ ∀ s ∈ p.2, 0 ≤ s.at_ ∧ s.at_ ≤ 100000000)
   (fun p => [(96, .sl 2 (o.syms.map yJ) none), (97, .int .i64 o.syms.length), (98, .int .i64 p.1), (76, .sl 3 (l.map qP) none), (77, .int .i64 l.length), (78, .int .i64 k), (0, .sl 3 (l.map qP) none), (1, .int .i64 base), (4, .loc 0 0), (5, .loc 1 0), (9, zf6 (wB l base)), (11, .loc 3 0), (12, .int .i64 k)])
   (fun p => [.cells [.int .i64 0, .nilsl, .nilsl], .cells [.int .i64 0, .int .i64 0], .arr 1 ((B ++ List.replicate (N - B.length) 0).map zE), .cells [.int .i64 base, .osl 1 2 N 0 N, .sl 2 (p.2.map yJ) (some 4)], .spare p.2.length])
   (fun p => o.syms.length - p.1) (fun _ => by simp [hE]) (0, ss) ⟨Nat.zero_le _, by simpa using hADD, hsl, hss⟩ ?_ ?_
  ·(repeat' (first | (refine VS.mk ?_) | exact trivial | exact rfl | refine And.intro ?_ ?_))
   refine v7 (B ++ List.replicate (N - B.length) 0) rfl ?_
   (repeat' (first | (refine VS.mk ?_) | exact trivial | exact rfl | refine And.intro ?_ ?_))
  rintro ⟨j, acc⟩ ⟨hj, hadd, hal, has⟩
  dsimp only at hj hadd hal has ⊢
  refine ze _ ?_
  (all_goals refine qgo ?_ <;> (repeat' first | exact trivial | intro hc | refine And.intro ?_ ?_) <;> refine Lf.mk ?_)
  ·obtain ⟨s, hsj⟩ := yj (l := o.syms) (k := j) (by omega)
   have hsm := List.mem_of_getElem? hsj
   obtain ⟨_, hs0, hs1⟩ := hob.sym s hsm
   rw [qh hsj, zsW] at hadd
   refine zk s (by omega) (by simpa using hsj) ?_
   (all_goals refine qgo (Lf.mk ?_))
   refine zb zhe (acc, s.name) (by dsimp only; omega) (VS.mk (by (first | exact LeL.refl _ | (repeat' (first | exact LeL.nil | exact LeD.refl _ | exact LeD.nil _ | exact LeD.strip _ _ _ | refine LeL.cons ?_ ?_ | refine LeD.tup ?_ | refine LeD.agg ?_))))) ?_
   (all_goals refine qgo ?_ <;> (repeat' first | exact trivial | intro hc | refine And.intro ?_ ?_) <;> refine Lf.mk ?_)
   ·rw [if_pos hc] at hadd
    subst hadd
    exact zd (VS.mk (jg (by show x3 l base = _; rw [hlo, hlr, ← hlay])))
   ·rw [if_neg (by rw [hc]; decide)] at hadd
    refine zk (upI n) (by omega) (by simpa using hbk) ?_
    (all_goals refine qgo (Lf.mk ?_))
    have has2 : ∀ t ∈ acc ++ [(⟨s.name, upI n + s.at_⟩ : zu)], 0 ≤ t.at_ ∧ t.at_ ≤ 100000000 := fun t ht => by
     rcases List.mem_append.1 ht with h1 | h1
     ·exact has t h1
     ·rw [List.mem_singleton.1 h1]
      exact ⟨by show 0 ≤ upI n + s.at_; omega, by show upI n + s.at_ ≤ _; omega⟩
    refine zA (j + 1, acc ++ [⟨s.name, upI n + s.at_⟩]) ⟨by (dsimp only; omega), hadd, by (dsimp only; rw [List.length_append]; show _ + 1 ≤ _; omega), has2⟩ (by dsimp only; omega) ?_
    (repeat' (first | (refine VS.mk ?_) | exact trivial | exact rfl | refine And.intro ?_ ?_))
    ·refine v7 (B ++ List.replicate (N - B.length) 0) rfl ?_
     (repeat' (first | (refine VS.mk ?_) | exact trivial | exact rfl | refine And.intro ?_ ?_))
     simp [yJ, vC]
  ·have hje : j = o.syms.length := by omega
   rw [List.drop_of_length_le (by omega), zuA] at hadd
   subst hadd
   refine zA (k + 1, upI n + o.code.length, B, acc) ⟨by (dsimp only; omega), hlay, zkY hbas, hend, by (dsimp only; omega), by (dsimp only; omega), by (dsimp only; omega), has⟩ (by dsimp only; omega) ?_
   (repeat' (first | (refine VS.mk ?_) | exact trivial | exact rfl | refine And.intro ?_ ?_))
   refine v7 (B ++ List.replicate (N - B.length) 0) rfl ?_
   (repeat' (first | (refine VS.mk ?_) | exact trivial | exact rfl | refine And.intro ?_ ?_))
 have hke : k = l.length := by omega
 rw [List.drop_of_length_le (by omega), zwd] at hlay
 rw [List.drop_of_length_le (by omega), zuB] at hend
 subst hlay
 have hbN : bs.length = N := by omega
 have hlr2 : zeI l base = match fix base ss l base 0 bs with
   | .inl (e, i) => (zaM, e, i)
   | .inr bs' => (⟨base, bs', ss⟩, 0, 0) := hlr
 refine wP (ziE (k := 2) 3 bs [.int .i64 base, .sl 1 (bs.map zE) (some 5), .sl 2 (ss.map yJ) (some 4)] rfl (by rw [show N - bs.length = 0 by omega]; simp) rfl
  ⟨.keep _, .here N N (by simp [hbN]) (by simp [hbN]), .keep _, trivial⟩) ?_
 refine wP (zfA 3 [.int .i64 base, .sl 1 (bs.map zE) none, .sl 2 (ss.map yJ) (some 4)] rfl (.cons (.refl _) (.cons (.strip _ _ _) (.cons (.refl _) .nil)))) ?_
 have hss4 : ss.length ≤ 1020 := by omega
 clear hlr hend hn hsl hbas hbl
 generalize hFIX : fix base ss l base 0 bs = FIX at *
 refine yb (α := Nat × Int × List UInt8) (fun p => p.1 ≤ l.length ∧ fix base ss (l.drop p.1) p.2.1 p.1 p.2.2 = FIX ∧ (wB l base).drop p.1 = wB (l.drop p.1) p.2.1 ∧ base ≤ p.2.1 ∧ p.2.1 ≤ base + p.1 * 8003 ∧ p.2.2.length = N)
  (fun p => [(131, .sl 3 (l.map qP) none), (132, .int .i64 l.length), (133, .int .i64 p.1), (1, .int .i64 base), (4, .loc 0 0), (5, .loc 1 0), (9, zf6 (wB l base)), (11, .loc 3 0)])
  (fun p => [.cells [.int .i64 0, .nilsl, .nilsl], .cells [.int .i64 0, .int .i64 0], .dead, .cells [.int .i64 base, .sl 1 (p.2.2.map zE) none, .sl 2 (ss.map yJ) (some 4)], .spare ss.length])
  (fun p => l.length - p.1) (fun _ => by simp [hE]) (0, base, bs) ⟨Nat.zero_le _, by simpa using hFIX, by simp, by simp, by dsimp only; omega, hbN⟩ ?_ ?_
 ·(repeat' (first | (refine VS.mk ?_) | exact trivial | exact rfl | refine And.intro ?_ ?_))
 rintro ⟨k, n, bs⟩ ⟨hk, hfix, hbas, hn0, hn, hbl⟩
 dsimp only at hk hfix hbas hn0 hn hbl ⊢
 refine ze _ ?_
 (all_goals refine qgo ?_ <;> (repeat' first | exact trivial | intro hc | refine And.intro ?_ ?_) <;> refine Lf.mk ?_)
 ·obtain ⟨o, hok1⟩ := yj (l := l) (k := k) (by omega)
  have hom := List.mem_of_getElem? hok1
  have hob := zhQ (hok o hom)
  have hoc := hob.code
  have hup := zf7 n
  rw [qh hok1, zuy] at hfix
  rw [qh hok1, zja] at hbas
  have hbk : (wB l base)[k]? = some (upI n) := zhg hbas
  have hor := hob.rels
  refine zk o (by omega) (by simpa using hok1) ?_
  (all_goals refine qgo (Lf.mk ?_))
  generalize hFX : zbG base (upI n) ss o.rels bs = FX at *
  refine yb (α := Nat × List UInt8) (fun p => p.1 ≤ o.rels.length ∧ zbG base (upI n) ss (o.rels.drop p.1) p.2 = FX ∧ p.2.length = N)
   (fun p => [(139, .sl 4 (o.rels.map zbE) none), (140, .int .i64 o.rels.length), (141, .int .i64 p.1), (131, .sl 3 (l.map qP) none), (132, .int .i64 l.length), (133, .int .i64 k), (1, .int .i64 base), (4, .loc 0 0), (5, .loc 1 0), (9, zf6 (wB l base)), (11, .loc 3 0), (18, .int .i64 k)])
   (fun p => [.cells [.int .i64 0, .nilsl, .nilsl], .cells [.int .i64 0, .int .i64 0], .dead, .cells [.int .i64 base, .sl 1 (p.2.map zE) none, .sl 2 (ss.map yJ) (some 4)], .spare ss.length])
   (fun p => o.rels.length - p.1) (fun _ => by simp [hE]) (0, bs) ⟨Nat.zero_le _, by simpa using hFX, hbl⟩ ?_ ?_
  ·(repeat' (first | (refine VS.mk ?_) | exact trivial | exact rfl | refine And.intro ?_ ?_))
  rintro ⟨j, cs⟩ ⟨hj, hfx, hcl⟩
  dsimp only at hj hfx hcl ⊢
  refine ze _ ?_
  (all_goals refine qgo ?_ <;> (repeat' first | exact trivial | intro hc | refine And.intro ?_ ?_) <;> refine Lf.mk ?_)
  ·obtain ⟨r, hrj⟩ := yj (l := o.rels) (k := j) (by omega)
   have hro := hob.rel r (List.mem_of_getElem? hrj)
   have hrn := hro.len
   have hrs := hro.size
   have hr0 := hro.at0
   have hr1 := hro.at1
   have hra := zf8 r.add
   rw [hro.add] at hra
   rw [qh hrj, zsV] at hfx
   refine zk r (by omega) (by simpa using hrj) ?_
   (all_goals refine qgo (Lf.mk ?_))
   refine zk (upI n) (by omega) (by simpa using hbk) ?_
   (all_goals refine qgo ?_ <;> (repeat' first | exact trivial | intro hc | refine And.intro ?_ ?_) <;> refine Lf.mk ?_)
   ·refine zb zhe (ss, r.name) (by dsimp only; omega) (VS.mk (by (first | exact LeL.refl _ | (repeat' (first | exact LeL.nil | exact LeD.refl _ | exact LeD.nil _ | exact LeD.strip _ _ _ | refine LeL.cons ?_ ?_ | refine LeD.tup ?_ | refine LeD.agg ?_))))) ?_
    dsimp only
    have hp0 : zcB (upI n) ss r = qS r.name ss := by unfold zcB; rw [if_neg hc]
    rcases hfs : qS r.name ss with _ | a
    ·rw [hfs] at hp0
     rw [hp0] at hfx
     subst hfx
     (all_goals refine qgo ?_ <;> (repeat' first | exact trivial | intro hc | refine And.intro ?_ ?_) <;> refine Lf.mk ?_)
     ·exact zd (VS.mk (jg (by show x3 l base = _; rw [hlo, hlr2, ← hfix])))
     ·exact Bool.noConfusion hc
    ·obtain ⟨t, ht1, ht2⟩ := zkX hfs
     obtain ⟨hA0, hA1⟩ := hss t ht1
     rw [ht2] at hA0 hA1
     have hpl : zcB (upI n) ss r = some a := by rw [hp0, hfs]
     simp only [Option.getD_some, Option.isSome_some]
     (all_goals refine qgo ?_ <;> (repeat' first | exact trivial | intro hc | refine And.intro ?_ ?_) <;> refine Lf.mk ?_)
     (any_goals (first | (exfalso; refine hc ?_; simp; done) | (exfalso; exact Bool.noConfusion hc) | (exfalso; exact hc (by with_reducible rfl)) | (exfalso; exact hc rfl) | skip))
     refine zb yp (a + r.add) trivial (VS.mk (LeL.of_eq rfl)) ?_
     have hsb := zf8 (a + r.add)
     generalize hv : zg (a + r.add) 32 = v at *
     rw [hpl] at hfx
     dsimp only at hfx
     rw [hv] at hfx
     (all_goals refine qgo ?_ <;> (repeat' first | exact trivial | intro hc | refine And.intro ?_ ?_) <;> refine Lf.mk ?_)
     any_goals (first | (rw [if_pos ⟨by assumption, by omega⟩] at hfx; subst hfx; exact zd (VS.mk (jg (by show x3 l base = _; rw [hlo, hlr2, ← hfix])))) | skip)
     all_goals
      rw [if_neg (by omega)] at hfx
      have hsz : ((r.size.toNat : Nat) : Int) = r.size := Int.toNat_of_nonneg (by omega)
      refine zk (upI n) (by omega) (by simpa using hbk) ?_
      (all_goals refine qgo (Lf.mk ?_))
      refine zY zc7 [] [6] (cs, upI n - base + r.at_, r.size.toNat, v) ⟨by omega, by omega, by omega, by omega⟩ rfl rfl ?_
      refine And.intro (VS.mk (LeL.of_eq (by dsimp only; rw [hsz]; rfl))) (And.intro (VS.mk rfl) ?_)
      (all_goals refine qgo (Lf.mk ?_))
      refine zeQ (j + 1, xv cs (upI n - base + r.at_) r.size.toNat v) ⟨by (dsimp only; omega), hfx, by (dsimp only; rw [zhf]; exact hcl)⟩ (by dsimp only; omega)
       (zfA 3 [.int .i64 base, .sl 1 ((xv cs (upI n - base + r.at_) r.size.toNat v).map zE) none, .sl 2 (ss.map yJ) (some 4)] rfl (.cons (.refl _) (.cons (.strip _ _ _) (.cons (.refl _) .nil)))) (by rw [hE]; exact Nat.zero_le _) ?_
      (repeat' (first | (refine VS.mk ?_) | exact trivial | exact rfl | refine And.intro ?_ ?_))
   ·have hpl : zcB (upI n) ss r = some (upI n) := by unfold zcB; rw [if_pos hc]
    have hA0 : 0 ≤ upI n := by omega
    have hA1 : upI n ≤ 100000000 := by omega
    refine zb yp (upI n + r.add) trivial (VS.mk (LeL.of_eq rfl)) ?_
    have hsb := zf8 (upI n + r.add)
    generalize hv : zg (upI n + r.add) 32 = v at *
    rw [hpl] at hfx
    dsimp only at hfx
    rw [hv] at hfx
    (all_goals refine qgo ?_ <;> (repeat' first | exact trivial | intro hc | refine And.intro ?_ ?_) <;> refine Lf.mk ?_)
    any_goals (first | (rw [if_pos ⟨by assumption, by omega⟩] at hfx; subst hfx; exact zd (VS.mk (jg (by show x3 l base = _; rw [hlo, hlr2, ← hfix])))) | skip)
    all_goals
     rw [if_neg (by omega)] at hfx
     have hsz : ((r.size.toNat : Nat) : Int) = r.size := Int.toNat_of_nonneg (by omega)
     refine zk (upI n) (by omega) (by simpa using hbk) ?_
     (all_goals refine qgo (Lf.mk ?_))
     refine zY zc7 [] [6] (cs, upI n - base + r.at_, r.size.toNat, v) ⟨by omega, by omega, by omega, by omega⟩ rfl rfl ?_
     refine And.intro (VS.mk (LeL.of_eq (by dsimp only; rw [hsz]; rfl))) (And.intro (VS.mk rfl) ?_)
     (all_goals refine qgo (Lf.mk ?_))
     refine zeQ (j + 1, xv cs (upI n - base + r.at_) r.size.toNat v) ⟨by (dsimp only; omega), hfx, by (dsimp only; rw [zhf]; exact hcl)⟩ (by dsimp only; omega)
      (zfA 3 [.int .i64 base, .sl 1 ((xv cs (upI n - base + r.at_) r.size.toNat v).map zE) none, .sl 2 (ss.map yJ) (some 4)] rfl (.cons (.refl _) (.cons (.strip _ _ _) (.cons (.refl _) .nil)))) (by rw [hE]; exact Nat.zero_le _) ?_
     (repeat' (first | (refine VS.mk ?_) | exact trivial | exact rfl | refine And.intro ?_ ?_))
  ·rw [List.drop_of_length_le (by omega), zuz] at hfx
   subst hfx
   refine zA (k + 1, upI n + o.code.length, cs) ⟨by (dsimp only; omega), hfix, zkY hbas, by (dsimp only; omega), by (dsimp only; omega), hcl⟩ (by dsimp only; omega) ?_
   (repeat' (first | (refine VS.mk ?_) | exact trivial | exact rfl | refine And.intro ?_ ?_))
 ·rw [List.drop_of_length_le (by omega), zwe] at hfix
  subst hfix
  have hout : x3 l base = (⟨base, bs, ss⟩, 0, 0) := by rw [hlo, hlr2]
  refine zd (VS.mk ?_)
  show LeD _ (zj5 (x3 l base))
  rw [hout]
  exact .tup (.cons (.agg (.cons (.refl _) (.cons (.refl _) (.cons (.strip _ _ _) .nil)))) (.cons (.refl _) .nil))
end Go.Proofs.YthmdddenbfbefaaGreatDoor
namespace Go.Proofs.YthmdddenbfbefaaGreatDoor
open Go Go.Plat
set_option linter.unusedVariables false
set_option linter.unusedSimpArgs false
set_option maxRecDepth 100000
attribute [local irreducible] zy wk y8 y6 yA xv zg
structure zG where
 r : Nat → Int
 t : Bool
 pc : Int
 pr : Int
 img : j8
 told : List Int
 steps : Int
def vu (m : zG) : List D :=
 [.int .i64 (m.r 0), .int .i64 (m.r 1), .int .i64 (m.r 2), .int .i64 (m.r 3), .int .i64 (m.r 4), .int .i64 (m.r 5), .int .i64 (m.r 6), .int .i64 (m.r 7),
  .int .i64 (m.r 8), .int .i64 (m.r 9), .int .i64 (m.r 10), .int .i64 (m.r 11), .int .i64 (m.r 12), .int .i64 (m.r 13), .int .i64 (m.r 14), .int .i64 (m.r 15),
  .bool m.t, .int .i64 m.pc, .int .i64 m.pr, .int .i64 m.img.base, vC m.img.bytes, .sl 2 (m.img.syms.map yJ) none, .sl 1 (m.told.map zhx) none, .int .i64 m.steps]
def zbV (m : zG) : D := .agg (vu m)
def wC : zG := ⟨fun _ => 0, false, 0, 0, zaM, [], 0⟩
def up (r : Nat → Int) (n v : Int) : Nat → Int := fun k => if (k : Int) = n then v else r k
theorem zxY (r : Nat → Int) (n v : Int) (h : 0 ≤ n) : up r n v n.toNat = v := by unfold up; rw [if_pos (by omega)]
theorem zsZ {r : Nat → Int} {n : Int} {rest : List D} {K : D → Prop} (h0 : 0 ≤ n) (h1 : n < 16) (h : K (.int .i64 (r n.toNat))) :
  z1 (.int .i64 (r 0) :: .int .i64 (r 1) :: .int .i64 (r 2) :: .int .i64 (r 3) :: .int .i64 (r 4) :: .int .i64 (r 5) :: .int .i64 (r 6) :: .int .i64 (r 7) :: .int .i64 (r 8) :: .int .i64 (r 9) :: .int .i64 (r 10) :: .int .i64 (r 11) :: .int .i64 (r 12) :: .int .i64 (r 13) :: .int .i64 (r 14) :: .int .i64 (r 15) :: rest) ((0 + n.toNat * 1 : Nat) : Int) K := by
 refine ⟨by omega, .int .i64 (r n.toNat), ?_, h⟩
 obtain ⟨k, rfl⟩ := Int.eq_ofNat_of_zero_le h0
 have hk : k < 16 := by omega
 simp only [Int.toNat_natCast, Nat.mul_one, Nat.zero_add]
 match k, hk with
 | 0, _ | 1, _ | 2, _ | 3, _ | 4, _ | 5, _ | 6, _ | 7, _ | 8, _ | 9, _ | 10, _ | 11, _ | 12, _ | 13, _ | 14, _ | 15, _ => rfl
theorem zpM {r : Nat → Int} {n v : Int} {rest : List D} {K : List D → Nat → Prop} (h0 : 0 ≤ n) (h1 : n < 16) (h : K (.int .i64 ((up r n v) 0) :: .int .i64 ((up r n v) 1) :: .int .i64 ((up r n v) 2) :: .int .i64 ((up r n v) 3) :: .int .i64 ((up r n v) 4) :: .int .i64 ((up r n v) 5) :: .int .i64 ((up r n v) 6) :: .int .i64 ((up r n v) 7) :: .int .i64 ((up r n v) 8) :: .int .i64 ((up r n v) 9) :: .int .i64 ((up r n v) 10) :: .int .i64 ((up r n v) 11) :: .int .i64 ((up r n v) 12) :: .int .i64 ((up r n v) 13) :: .int .i64 ((up r n v) 14) :: .int .i64 ((up r n v) 15) :: rest) (16 + rest.length)) :
  zp (List.set (.int .i64 (r 0) :: .int .i64 (r 1) :: .int .i64 (r 2) :: .int .i64 (r 3) :: .int .i64 (r 4) :: .int .i64 (r 5) :: .int .i64 (r 6) :: .int .i64 (r 7) :: .int .i64 (r 8) :: .int .i64 (r 9) :: .int .i64 (r 10) :: .int .i64 (r 11) :: .int .i64 (r 12) :: .int .i64 (r 13) :: .int .i64 (r 14) :: .int .i64 (r 15) :: rest) (0 + n.toNat * 1) (.int .i64 v)) K := by
 unfold zp
 have e : List.set (.int .i64 (r 0) :: .int .i64 (r 1) :: .int .i64 (r 2) :: .int .i64 (r 3) :: .int .i64 (r 4) :: .int .i64 (r 5) :: .int .i64 (r 6) :: .int .i64 (r 7) :: .int .i64 (r 8) :: .int .i64 (r 9) :: .int .i64 (r 10) :: .int .i64 (r 11) :: .int .i64 (r 12) :: .int .i64 (r 13) :: .int .i64 (r 14) :: .int .i64 (r 15) :: rest) (0 + n.toNat * 1) (.int .i64 v) = (.int .i64 ((up r n v) 0) :: .int .i64 ((up r n v) 1) :: .int .i64 ((up r n v) 2) :: .int .i64 ((up r n v) 3) :: .int .i64 ((up r n v) 4) :: .int .i64 ((up r n v) 5) :: .int .i64 ((up r n v) 6) :: .int .i64 ((up r n v) 7) :: .int .i64 ((up r n v) 8) :: .int .i64 ((up r n v) 9) :: .int .i64 ((up r n v) 10) :: .int .i64 ((up r n v) 11) :: .int .i64 ((up r n v) 12) :: .int .i64 ((up r n v) 13) :: .int .i64 ((up r n v) 14) :: .int .i64 ((up r n v) 15) :: rest) := by
  obtain ⟨k, rfl⟩ := Int.eq_ofNat_of_zero_le h0
  have hk : k < 16 := by omega
  simp only [Int.toNat_natCast, Nat.mul_one, Nat.zero_add]
  match k, hk with
  | 0, _ | 1, _ | 2, _ | 3, _ | 4, _ | 5, _ | 6, _ | 7, _ | 8, _ | 9, _ | 10, _ | 11, _ | 12, _ | 13, _ | 14, _ | 15, _ => rfl
 rw [e]
 refine cast ?_ h
 congr 1
 simp only [List.length_cons]
 omega
theorem zs0 {n : Int} {l : List D} {K : Prop} (h0 : 0 ≤ n) (h1 : n < 16) (hl : Nat.ble 16 l.length = true) (h : K) : zw (0 + n.toNat * 1 < l.length) K :=
 ⟨by have := Nat.le_of_ble_eq_true hl; omega, h⟩
def inM (m : zG) (at_ size : Int) : Bool := decide (m.img.base ≤ at_ ∧ at_ % size = 0 ∧ at_ - m.img.base ≤ m.img.bytes.length - size)
def xu (m : zG) (at_ : Int) : Ins × Int := if inM m at_ 2 = true then wk (y8 m.img.bytes (at_ - m.img.base) 2) else (zhJ, 6)
def wO (op : Int) : Bool := decide (op = 2 ∨ (17 ≤ op ∧ op ≤ 22))
def wD (op : Int) : Int := match y6 op with | some r => r.shape | none => 0
def toM (i : Ins) (at_ : Int) : Int := if wD i.op = 4 ∨ wD i.op = 5 ∨ wD i.op = 7 then at_ + 4 + 2 * i.imm else if wD i.op = 8 then (at_ + 4) - (at_ + 4) % 4 + 4 * i.imm else 0
def zag (a b : Int) : Int := zy .and .i32 a b
def zdh (a b : Int) : Int := zy .or .i32 a b
def zbo (a b : Int) : Int := zy .xor .i32 a b
def xI (m : zG) (n v : Int) : zG := { m with r := up m.r n v }
def zcC (m : zG) (t : Bool) : zG := { m with t := t }
def wL (m : zG) (i : Ins) (at_ : Int) : zG × Int :=
 if inM m (if i.op = 26 then m.r i.m.toNat else toM i at_) (if i.op = 23 then 2 else 4) = true then
  (xI m i.n (if i.op = 23 then zg (zg (y8 m.img.bytes (toM i at_ - m.img.base) 2) 16) 32 else zg (y8 m.img.bytes ((if i.op = 26 then m.r i.m.toNat else toM i at_) - m.img.base) 4) 32), 0)
 else (m, 3)
def zdw (m : zG) (i : Ins) : zG × Int :=
 if inM m (m.r i.n.toNat) 4 = true then ({ m with img := { m.img with bytes := xv m.img.bytes (m.r i.n.toNat - m.img.base) 4 (m.r i.m.toNat) } }, 0) else (m, 3)
def zeJ (m : zG) (i : Ins) : zG :=
 let n := m.r i.n.toNat
 let v := m.r i.m.toNat
 if i.op = 5 then xI m i.n v
 else if i.op = 6 then xI m i.n (zg (n + v) 32)
 else if i.op = 7 then xI m i.n (zg (n - v) 32)
 else if i.op = 8 then xI m i.n (zag n v)
 else if i.op = 9 then xI m i.n (zdh n v)
 else if i.op = 10 then xI m i.n (zbo n v)
 else if i.op = 11 then zcC m (decide (zag n v = 0))
 else if i.op = 12 then zcC m (decide (n = v))
 else if i.op = 13 then zcC m (decide (n > v))
 else m
def zS (m : zG) (i : Ins) (at_ : Int) : zG × Int :=
 let n := m.r i.n.toNat
 if i.op = 3 then (xI m i.n i.imm, 0)
 else if i.op = 4 then (xI m i.n (zg (n + i.imm) 32), 0)
 else if i.op = 14 then (zcC (xI m i.n (zg (n * 2) 32)) (decide (n < 0)), 0)
 else if i.op = 15 then (zcC (xI m i.n (n % 4294967296 / 2)) (decide (n % 2 = 1)), 0)
 else if i.op = 16 then (zcC (xI m i.n (zg (n - 1) 32)) (decide (zg (n - 1) 32 = 0)), 0)
 else if i.op = 23 ∨ i.op = 24 ∨ i.op = 26 then wL m i at_
 else if i.op = 25 then zdw m i
 else if i.op = 27 then ({ m with told := m.told ++ [m.r 0] }, 0)
 else (zeJ m i, 0)
def xf (m : zG) (i : Ins) : zG × Int × Bool :=
 if i.op = 17 then (m, if m.t = true then toM i m.pc else m.pc + 2, false)
 else if i.op = 18 then (m, if m.t = true then m.pc + 2 else toM i m.pc, false)
 else if i.op = 2 then (m, m.pr, true)
 else if i.op = 21 then (m, m.r i.n.toNat, true)
 else if i.op = 22 then ({ m with pr := m.pc + 4 }, m.r i.n.toNat, true)
 else if i.op = 20 then ({ m with pr := m.pc + 4 }, toM i m.pc, true)
 else (m, toM i m.pc, true)
def wE (m : zG) (to : Int) : zG × Bool × Int :=
 let j := xu m (m.pc + 2)
 if j.2 ≠ 0 then (wC, false, j.2)
 else if wO j.1.op = true ∨ j.1.op = 27 then (wC, false, 8)
 else let x := zS m j.1 (m.pc + 2)
  if x.2 ≠ 0 then (wC, false, x.2) else ({ x.1 with pc := to }, false, 0)
def xq (m : zG) : zG × Bool × Int :=
 let i := xu m m.pc
 if i.2 ≠ 0 then (wC, false, i.2)
 else
  let m1 : zG := { m with steps := m.steps + 1 }
  if i.1.op = 27 ∧ i.1.imm = 0 then (m1, true, 0)
  else if wO i.1.op = false then
   let x := zS m1 i.1 m.pc
   if x.2 ≠ 0 then (wC, false, x.2) else ({ x.1 with pc := x.1.pc + 2 }, false, 0)
  else
   let l := xf m1 i.1
   if l.2.2 = true then wE l.1 l.2.1 else ({ l.1 with pc := l.2.1 }, false, 0)
def yC : Nat → zG → zG × Int
 | 0, _ => (wC, 13)
 | n + 1, m => let s := xq m
  if s.2.2 ≠ 0 then (wC, s.2.2) else if s.2.1 = true then (s.1, 0) else yC n s.1
structure InM (k : Nat) (m : zG) : Prop where
 regs : ∀ j, j < 16 → -2147483648 ≤ m.r j ∧ m.r j ≤ 2147483647
 pc : -5000000000 - 100000 * (k : Int) ≤ m.pc ∧ m.pc ≤ 5000000000 + 100000 * (k : Int)
 pr : -5000000000 - 100000 * (k : Int) ≤ m.pr ∧ m.pr ≤ 5000000000 + 100000 * (k : Int)
 base : 0 ≤ m.img.base ∧ m.img.base ≤ 1048576
 len : m.img.bytes.length ≤ 1048576
 syms : m.img.syms.length ≤ 1048576
 told : m.told.length ≤ 1048576 + k
 steps : 0 ≤ m.steps ∧ m.steps ≤ 1000000 + k
theorem InM.mono {k j : Nat} {m : zG} (h : InM k m) (hk : k ≤ j) : InM j m :=
 ⟨h.regs, by have := h.pc; omega, by have := h.pr; omega, h.base, h.len, h.syms, by have := h.told; omega, by have := h.steps; omega⟩
structure InI (i : Ins) : Prop where
 n : 0 ≤ i.n ∧ i.n < 16
 m : 0 ≤ i.m ∧ i.m < 16
 imm : -4096 ≤ i.imm ∧ i.imm ≤ 4096
end Go.Proofs.YthmdddenbfbefaaGreatDoor
namespace Go.Proofs.YthmdddenbfbefaaGreatDoor
open Go Go.Plat
set_option linter.unusedVariables false
set_option linter.unusedSimpArgs false
set_option maxRecDepth 100000
theorem zs1 (n : Int) : IntKind.i32.wrap n = zg n 32 := by
 have : zg n 32 = if n % 4294967296 / 2147483648 = 1 then n % 4294967296 - 4294967296 else n % 4294967296 := rfl
 rw [this]
 have e : IntKind.i32.wrap n = if n % 4294967296 ≥ 2147483648 then n % 4294967296 - 4294967296 else n % 4294967296 := by
  simp only [IntKind.wrap, IntKind.signed, IntKind.bits, show (2 : Int) ^ 32 = 4294967296 from rfl, show (2 : Int) ^ (32 - 1) = 2147483648 from rfl, Bool.true_and, decide_eq_true_eq]
 rw [e]
 split <;> split <;> omega
theorem zwf (n : Int) : IntKind.u32.wrap n = n % 4294967296 := by simp [IntKind.wrap, IntKind.signed, IntKind.bits]
theorem zwg (n : Int) : IntKind.u16.wrap n = n % 65536 := by simp [IntKind.wrap, IntKind.signed, IntKind.bits]
theorem zxq (n : Int) : IntKind.i16.wrap n = zg n 16 := by
 have : zg n 16 = if n % 65536 / 32768 = 1 then n % 65536 - 65536 else n % 65536 := rfl
 rw [this]
 have e : IntKind.i16.wrap n = if n % 65536 ≥ 32768 then n % 65536 - 65536 else n % 65536 := by
  simp only [IntKind.wrap, IntKind.signed, IntKind.bits, show (2 : Int) ^ 16 = 65536 from rfl, show (2 : Int) ^ (16 - 1) = 32768 from rfl, Bool.true_and, decide_eq_true_eq]
 rw [e]
 split <;> split <;> omega
theorem zxr {n : Int} {K : D → Prop} (h : K (.int .i32 (zg n 32))) : zC .i32 n K := by unfold zC; rw [zs1]; exact h
theorem zxs {n : Int} {K : D → Prop} (h : K (.int .u32 (n % 4294967296))) : zC .u32 n K := by unfold zC; rw [zwf]; exact h
theorem zxt {n : Int} {K : D → Prop} (h : K (.int .u16 (n % 65536))) : zC .u16 n K := by unfold zC; rw [zwg]; exact h
theorem zxu {n : Int} {K : D → Prop} (h : K (.int .i16 (zg n 16))) : zC .i16 n K := by unfold zC; rw [zxq]; exact h
theorem zeK (n : Int) : -2147483648 ≤ zg n 32 ∧ zg n 32 ≤ 2147483647 := by
 have : zg n 32 = if n % 4294967296 / 2147483648 = 1 then n % 4294967296 - 4294967296 else n % 4294967296 := rfl
 rw [this]
 split <;> omega
theorem zyf {n : Int} (h1 : 0 ≤ n) (h2 : n ≤ 65535) : zg n 16 = if n > 32767 then n - 65536 else n := by
 have : zg n 16 = if n % 65536 / 32768 = 1 then n % 65536 - 65536 else n % 65536 := rfl
 rw [this]
 split <;> split <;> omega
theorem zj7 (v : BitVec 64) : IntKind.i64.wrap (v.toNat : Int) = v.toInt := by
 have h := v.isLt
 rw [BitVec.toInt_eq_toNat_cond]
 simp only [IntKind.wrap, IntKind.signed, IntKind.bits, show (2 : Int) ^ 64 = 18446744073709551616 from rfl, show (2 : Int) ^ (64 - 1) = 9223372036854775808 from rfl, Bool.true_and, decide_eq_true_eq]
 have e : (2 : Nat) ^ 64 = 18446744073709551616 := rfl
 rw [e] at h ⊢
 split <;> split <;> omega
theorem zj8 (v : BitVec 32) : IntKind.i32.wrap (v.toNat : Int) = v.toInt := by
 have h := v.isLt
 rw [BitVec.toInt_eq_toNat_cond]
 simp only [IntKind.wrap, IntKind.signed, IntKind.bits, show (2 : Int) ^ 32 = 4294967296 from rfl, show (2 : Int) ^ (32 - 1) = 2147483648 from rfl, Bool.true_and, decide_eq_true_eq]
 have e : (2 : Nat) ^ 32 = 4294967296 := rfl
 rw [e] at h ⊢
 split <;> split <;> omega
theorem zaF {a : Int} (h1 : -2147483648 ≤ a) (h2 : a ≤ 2147483647) : BitVec.ofInt 64 a = (BitVec.ofInt 32 a).signExtend 64 := by
 unfold BitVec.signExtend
 rw [BitVec.toInt_ofInt, Int.bmod_eq_of_le (by have : (2 : Nat) ^ 32 = 4294967296 := rfl; omega) (by have : (2 : Nat) ^ 32 = 4294967296 := rfl; omega)]
theorem zhR (v : BitVec 32) : (v.signExtend 64).toInt = v.toInt := by
 rw [BitVec.toInt_signExtend_of_le (by decide)]
section
variable {a b : Int} (ha1 : -2147483648 ≤ a) (ha2 : a ≤ 2147483647) (hb1 : -2147483648 ≤ b) (hb2 : b ≤ 2147483647)
include ha1 ha2 hb1 hb2
theorem zxZ : zy .and .i64 a b = zag a b := by
 unfold zag zy
 show IntKind.i64.wrap ((BitVec.ofInt 64 a &&& BitVec.ofInt 64 b).toNat : Int) = IntKind.i32.wrap ((BitVec.ofInt 32 a &&& BitVec.ofInt 32 b).toNat : Int)
 rw [zj7, zj8, zaF ha1 ha2, zaF hb1 hb2, ← BitVec.signExtend_and, zhR]
theorem zyg : zy .or .i64 a b = zdh a b := by
 unfold zdh zy
 show IntKind.i64.wrap ((BitVec.ofInt 64 a ||| BitVec.ofInt 64 b).toNat : Int) = IntKind.i32.wrap ((BitVec.ofInt 32 a ||| BitVec.ofInt 32 b).toNat : Int)
 rw [zj7, zj8, zaF ha1 ha2, zaF hb1 hb2, ← BitVec.signExtend_or, zhR]
theorem zx0 : zy .xor .i64 a b = zbo a b := by
 unfold zbo zy
 show IntKind.i64.wrap ((BitVec.ofInt 64 a ^^^ BitVec.ofInt 64 b).toNat : Int) = IntKind.i32.wrap ((BitVec.ofInt 32 a ^^^ BitVec.ofInt 32 b).toNat : Int)
 rw [zj7, zj8, zaF ha1 ha2, zaF hb1 hb2, ← BitVec.signExtend_xor, zhR]
end
theorem zhS (op : BinOp) (a b : Int) : -2147483648 ≤ zy op .i32 a b ∧ zy op .i32 a b ≤ 2147483647 := by
 unfold zy
 rw [zs1]
 exact zeK _
theorem zwh {a b : Int} (h1 : -2147483648 ≤ a ∧ a ≤ 2147483647) (h2 : -2147483648 ≤ b ∧ b ≤ 2147483647) {K : D → Prop} (h : K (.int .i64 (zag a b))) : yg .and .i64 a b K := by
 unfold yg; rw [zxZ h1.1 h1.2 h2.1 h2.2]; exact h
theorem zxv {a b : Int} (h1 : -2147483648 ≤ a ∧ a ≤ 2147483647) (h2 : -2147483648 ≤ b ∧ b ≤ 2147483647) {K : D → Prop} (h : K (.int .i64 (zdh a b))) : yg .or .i64 a b K := by
 unfold yg; rw [zyg h1.1 h1.2 h2.1 h2.2]; exact h
theorem zwi {a b : Int} (h1 : -2147483648 ≤ a ∧ a ≤ 2147483647) (h2 : -2147483648 ≤ b ∧ b ≤ 2147483647) {K : D → Prop} (h : K (.int .i64 (zbo a b))) : yg .xor .i64 a b K := by
 unfold yg; rw [zx0 h1.1 h1.2 h2.1 h2.2]; exact h
theorem zyh : (~~~ (3#64)).toNat = 18446744073709551612 := by decide
theorem zs2 (x : Nat) (hx : x < 18446744073709551616) : x &&& 18446744073709551612 = x / 4 * 4 := by
 have e1 : x / 4 * 4 = (x >>> 2) <<< 2 := by rw [Nat.shiftRight_eq_div_pow, Nat.shiftLeft_eq]
 have e2 : (18446744073709551612 : Nat) = (2 ^ 62 - 1) <<< 2 := by decide
 rw [e1, e2]
 refine Nat.eq_of_testBit_eq fun i => ?_
 rw [Nat.testBit_and, Nat.testBit_shiftLeft, Nat.testBit_shiftLeft, Nat.testBit_shiftRight, Nat.testBit_two_pow_sub_one]
 by_cases hi : 2 ≤ i
 ·rw [show 2 + (i - 2) = i by omega]
  by_cases h64 : i - 2 < 62
  ·simp [hi, h64]
  ·have : x.testBit i = false := Nat.testBit_lt_two_pow (Nat.lt_of_lt_of_le hx (show 2 ^ 64 ≤ 2 ^ i from Nat.pow_le_pow_right (by decide) (by omega)))
   simp [this]
 ·simp [hi]
theorem zxw {n : Int} (h1 : -4611686018427387904 ≤ n) (h2 : n ≤ 4611686018427387904) : zy .andNot .i64 n 3 = n - n % 4 := by
 unfold zy
 show IntKind.i64.wrap ((BitVec.ofInt 64 n &&& ~~~ (BitVec.ofInt 64 3)).toNat : Int) = _
 rw [show BitVec.ofInt 64 3 = 3#64 from rfl, BitVec.toNat_and, zyh, zs2 _ (BitVec.ofInt 64 n).isLt]
 have h3 := toNat_ofInt n
 simp only [IntKind.wrap, IntKind.signed, IntKind.bits, show (2 : Int) ^ 64 = 18446744073709551616 from rfl, show (2 : Int) ^ (64 - 1) = 9223372036854775808 from rfl, Bool.true_and, decide_eq_true_eq]
 split <;> omega
end Go.Proofs.YthmdddenbfbefaaGreatDoor
namespace Go.Proofs.YthmdddenbfbefaaGreatDoor
open Go Go.Plat
set_option linter.unusedVariables false
set_option linter.unusedSimpArgs false
set_option maxRecDepth 100000
set_option maxHeartbeats 2000000
attribute [local irreducible] AWP zC yg zJ zo yw z8 zH z1 z6 zt za zP yx zp z7 yt yu yi yk zw zx zy wk y8 y6 yA xv zg
theorem zcD : za Tryz.prog ztG (ya (fun ((m, at_, size) : zG × Int × Int) => InM 10000 m ∧ -4000000000000 ≤ at_ ∧ at_ ≤ 4000000000000 ∧ (size = 2 ∨ size = 4))
  (fun (m, at_, size) => [.loc 0 0, .int .i64 at_, .int .i64 size]) (fun (m, _, _) => [.cells (vu m)]) (fun (m, at_, size) => .bool (inM m at_ size)) fun (m, _, _) => [.cells (vu m)]) := by
 refine zf zj Tryz.func146 rfl (by decide) ?_
 rintro ⟨m, at_, size⟩ ⟨hm, h1, h2, hs⟩
 have hb := hm.base
 have hl := hm.len
 refine ⟨Nat.le_refl _, by simp [Tryz.f146], fun E hE => ?_⟩
 refine ze _ ?_
 (all_goals refine qgv ?_ <;> (repeat' first | exact trivial | intro hc | refine And.intro ?_ ?_) <;> refine Lf.mk ?_)
 ·refine v8 (r1 := .bool (inM m at_ size)) (LeD.of_eq (congrArg D.bool ?_)) (yl ?_) (Nat.le_refl _)
  ·exact decide_eq_decide.2 ⟨fun h => ⟨by assumption, by assumption, h⟩, fun h => h.2.2⟩
  ·(repeat' (first | (refine VS.mk ?_) | exact trivial | exact rfl | refine And.intro ?_ ?_))
 ·refine v8 (r1 := .bool (inM m at_ size)) (LeD.ff (decide_eq_false fun h => hc h.2.1)) (yl ?_) (Nat.le_refl _)
  (repeat' (first | (refine VS.mk ?_) | exact trivial | exact rfl | refine And.intro ?_ ?_))
 ·refine v8 (r1 := .bool (inM m at_ size)) (LeD.ff (decide_eq_false fun h => hc h.1)) (yl ?_) (Nat.le_refl _)
  (repeat' (first | (refine VS.mk ?_) | exact trivial | exact rfl | refine And.intro ?_ ?_))
theorem zf9 {m : zG} {a s : Int} : inM m a s = true ↔ (m.img.base ≤ a ∧ a % s = 0 ∧ a - m.img.base ≤ m.img.bytes.length - s) := by unfold inM; exact decide_eq_true_iff
attribute [local irreducible] inM
theorem zdx : za Tryz.prog zox (ya (fun ((m, at_) : zG × Int) => InM 10000 m ∧ -4000000000000 ≤ at_ ∧ at_ ≤ 4000000000000)
  (fun (m, at_) => [.loc 0 0, .int .i64 at_]) (fun (m, _) => [.cells (vu m)]) (fun (m, at_) => .tup [jv (xu m at_).1, .int .i64 (xu m at_).2]) fun (m, _) => [.cells (vu m)]) := by
 refine zf zj Tryz.func95 rfl (by decide) ?_
 rintro ⟨m, at_⟩ ⟨hm, h1, h2⟩
 have hb := hm.base
 have hl := hm.len
 refine ⟨Nat.le_refl _, by simp [Tryz.f95], fun E hE => ?_⟩
 refine ze _ ?_
 (all_goals refine qgv (Lf.mk ?_))
 refine zY zcD [0] [0] (m, at_, 2) ⟨hm, h1, h2, .inl rfl⟩ rfl rfl ?_
 refine And.intro (VS.mk (LeL.of_eq rfl)) (And.intro (VS.mk rfl) ?_)
 (all_goals refine qgv ?_ <;> (repeat' first | exact trivial | intro hc | refine And.intro ?_ ?_) <;> refine Lf.mk ?_)
 ·have hf : xu m at_ = (zhJ, 6) := by unfold xu; rw [if_neg (by rw [hc]; decide)]
  refine yU [0] rfl rfl ?_
  (repeat' (first | (refine VS.mk ?_) | exact trivial | exact rfl | refine And.intro ?_ ?_))
  all_goals (dsimp only; rw [hf]; rfl)
 ·have hf : xu m at_ = wk (y8 m.img.bytes (at_ - m.img.base) 2) := by unfold xu; rw [if_pos hc]
  have hin : m.img.base ≤ at_ ∧ at_ % 2 = 0 ∧ at_ - m.img.base ≤ m.img.bytes.length - 2 := zf9.1 hc
  refine zb zc6 (m.img.bytes, at_ - m.img.base, 2) ⟨by omega, by omega, by decide⟩ (VS.mk (by (first | exact LeL.refl _ | (repeat' (first | exact LeL.nil | exact LeD.refl _ | exact LeD.nil _ | exact LeD.strip _ _ _ | refine LeL.cons ?_ ?_ | refine LeD.tup ?_ | refine LeD.agg ?_))))) ?_
  (all_goals refine qgv (Lf.mk ?_))
  refine zb zne (y8 m.img.bytes (at_ - m.img.base) 2) trivial (VS.mk (by (first | exact LeL.refl _ | (repeat' (first | exact LeL.nil | exact LeD.refl _ | exact LeD.nil _ | exact LeD.strip _ _ _ | refine LeL.cons ?_ ?_ | refine LeD.tup ?_ | refine LeD.agg ?_))))) ?_
  (all_goals refine qgv (Lf.mk ?_))
  refine yU [0] rfl rfl ?_
  (repeat' (first | (refine VS.mk ?_) | exact trivial | exact rfl | refine And.intro ?_ ?_))
  all_goals (dsimp only; rw [hf]; try rfl)
theorem zdy : za Tryz.prog zoy (zz (fun _ : Int => True) (fun op => [.int .i64 op]) fun op => .bool (wO op)) := by
 refine zf zj Tryz.func96 rfl (by decide) fun op _ => ?_
 refine ⟨Nat.le_refl _, by simp [Tryz.f96], fun E hE => ?_⟩
 refine ze _ ?_
 (all_goals refine qgv ?_ <;> (repeat' first | exact trivial | intro hc | refine And.intro ?_ ?_) <;> refine Lf.mk ?_)
 all_goals (refine zd (VS.mk ?_))
 all_goals first
  | exact LeD.tt (decide_eq_true (by omega))
  | exact LeD.ff (decide_eq_false (by omega))
  | exact LeD.of_eq (congrArg D.bool (decide_eq_decide.2 (by omega)))
theorem zhh : za Tryz.prog zou (zz (fun i : j8 => i.bytes.length ≤ 1048576 ∧ i.syms.length ≤ 1048576) (fun i => [zjP i]) zjP) := by
 refine zf zj Tryz.func55 rfl (by decide) ?_
 rintro i ⟨h1, h2⟩
 refine ⟨Nat.le_refl _, by simp [Tryz.f55], fun E hE => ?_⟩
 refine ze _ ?_
 (all_goals refine qgv (Lf.mk ?_))
 refine zb znf (i.bytes.map zE) ⟨by simp; omega, fun i d hd => ?_⟩ (VS.mk (LeL.of_eq rfl)) ?_
 ·obtain ⟨c, _, rfl⟩ := List.mem_map.1 (List.mem_of_getElem? hd); rfl
 (all_goals refine qgv (Lf.mk ?_))
 refine zb znh (i.syms.map yJ) ⟨by simp; omega, fun i d hd => ?_⟩ (VS.mk (LeL.of_eq rfl)) ?_
 ·obtain ⟨c, _, rfl⟩ := List.mem_map.1 (List.mem_of_getElem? hd); rfl
 (all_goals refine qgv (Lf.mk ?_))
 exact zd (VS.mk (LeD.of_eq rfl))
def zbH (i : j8) : zG := ⟨fun _ => 0, false, i.base, -1, i, [], 0⟩
theorem zs3 : za Tryz.prog zrK (zz (fun i : j8 => i.bytes.length ≤ 1048576 ∧ i.syms.length ≤ 1048576) (fun i => [zjP i]) fun i => zbV (zbH i)) := by
 refine zf zj Tryz.func29 rfl (by decide) ?_
 rintro i ⟨h1, h2⟩
 refine ⟨Nat.le_refl _, by simp [Tryz.f29], fun E hE => ?_⟩
 refine ze _ ?_
 (all_goals refine qgv (Lf.mk ?_))
 refine zb zhh i ⟨h1, h2⟩ (VS.mk (LeL.of_eq rfl)) ?_
 (all_goals refine qgv (Lf.mk ?_))
 refine zd (VS.mk ?_)
 (first | exact LeL.refl _ | (repeat' (first | exact LeL.nil | exact LeD.refl _ | exact LeD.nil _ | exact LeD.strip _ _ _ | refine LeL.cons ?_ ?_ | refine LeD.tup ?_ | refine LeD.agg ?_)))
 all_goals first | exact LeD.ff rfl | skip
theorem zjb : za Tryz.prog zrL (zz (fun m : zG => m.img.bytes.length ≤ 1048576 ∧ m.img.syms.length ≤ 1048576 ∧ m.told.length ≤ 2000000) (fun m => [zbV m]) zbV) := by
 refine zf zj Tryz.func53 rfl (by decide) ?_
 rintro m ⟨h1, h2, h3⟩
 refine ⟨Nat.le_refl _, by simp [Tryz.f53], fun E hE => ?_⟩
 refine ze _ ?_
 (all_goals refine qgv (Lf.mk ?_))
 refine zb zhh m.img ⟨h1, h2⟩ (VS.mk (LeL.of_eq rfl)) ?_
 (all_goals refine qgv (Lf.mk ?_))
 refine zb zng (m.told.map zhx) ⟨by simp; omega, fun i d hd => ?_⟩ (VS.mk (LeL.of_eq rfl)) ?_
 ·obtain ⟨c, _, rfl⟩ := List.mem_map.1 (List.mem_of_getElem? hd); rfl
 (all_goals refine qgv (Lf.mk ?_))
 exact zd (VS.mk (LeD.of_eq rfl))
end Go.Proofs.YthmdddenbfbefaaGreatDoor
namespace Go.Proofs.YthmdddenbfbefaaGreatDoor
open Go Go.Plat
set_option linter.unusedVariables false
set_option linter.unusedSimpArgs false
set_option maxRecDepth 100000
set_option maxHeartbeats 2000000
attribute [local irreducible] AWP zC yg zJ zo yw z8 zH z1 z6 zt za zP yx zp z7 yt yu yi yk zw zx zy
attribute [local irreducible] wb wk zbC yI w6 wd y6 yA vr zaP zg zU
attribute [local irreducible] zjC
end Go.Proofs.YthmdddenbfbefaaGreatDoor
namespace Go.Proofs.YthmdddenbfbefaaGreatDoor
open Go Go.Plat
set_option linter.unusedVariables false
set_option linter.unusedSimpArgs false
set_option maxRecDepth 100000
set_option maxHeartbeats 2000000
attribute [local irreducible] AWP zC yg zJ zo yw z8 zH z1 z6 zt za zP yx zp z7 yt yu yi yk zw zx zy zbC y6 yA zaP
attribute [local irreducible] zjC wb wk yI w6 wd vr zg zU
end Go.Proofs.YthmdddenbfbefaaGreatDoor
namespace Go.Proofs.YthmdddenbfbefaaGreatDoor
open Go Go.Plat
set_option linter.unusedVariables false
set_option linter.unusedSimpArgs false
set_option maxRecDepth 100000
set_option maxHeartbeats 2000000
attribute [local irreducible] AWP zC yg zJ zo yw z8 zH z1 z6 zt za zP yx zp z7 yt yu yi yk zw zx zy
attribute [local irreducible] wb zbC wd y6 yA vr zaP zg
end Go.Proofs.YthmdddenbfbefaaGreatDoor
namespace Go.Proofs.YthmdddenbfbefaaGreatDoor
open Go Go.Plat
set_option linter.unusedVariables false
set_option linter.unusedSimpArgs false
set_option maxRecDepth 100000
set_option maxHeartbeats 2000000
attribute [local irreducible] AWP zC yg zJ zo yw z8 zH z1 z6 zt za zP yx zp z7 yt yu yi yk zw zx wb zy zbC y6 yA zaP
end Go.Proofs.YthmdddenbfbefaaGreatDoor
namespace Go.Proofs.YthmdddenbfbefaaGreatDoor
open Go Go.Plat
set_option linter.unusedVariables false
set_option linter.unusedSimpArgs false
set_option maxRecDepth 100000
set_option maxHeartbeats 2000000
attribute [local irreducible] AWP zC yg zJ zo yw z8 zH z1 z6 zt za zP yx zp z7 yt yu yi yk zw zx zy wk y8 inM y6 yA xv wD zg
def ldM (i : Ins) : Bool := decide (wD i.op = 4 ∨ wD i.op = 5 ∨ wD i.op = 7 ∨ wD i.op = 8)
theorem zrd {op : Int} {r : qz} (h : y6 op = some r) : wD op = r.shape := by unfold wD; rw [h]
theorem zre {op : Int} (h : y6 op = none) : wD op = 0 := by unfold wD; rw [h]
theorem zrf (op : Int) : ∃ s, kO op = .tup [.str s, .int .i64 (wD op)] := by
 unfold kO
 cases h : y6 op with
 | none => exact ⟨[], by rw [zre h]⟩
 | some r => exact ⟨r.name, by rw [zrd h]⟩
theorem zs4 {n : Int} (h1 : -4611686018427387904 ≤ n) (h2 : n ≤ 4611686018427387904) {K : D → Prop} (h : K (.int .i64 (n - n % 4))) : yg .andNot .i64 n 3 K := by
 unfold yg; rw [zxw h1 h2]; exact h
theorem zn0 : za Tryz.prog ztH (zz (fun ((i, at_) : Ins × Int) => -4096 ≤ i.imm ∧ i.imm ≤ 4096 ∧ -4000000000000 ≤ at_ ∧ at_ ≤ 4000000000000) (fun (i, at_) => [jv i, .int .i64 at_]) fun (i, at_) => .tup [.int .i64 (toM i at_), .bool (ldM i)]) := by
 refine zf zj Tryz.func150 rfl (by decide) ?_
 rintro ⟨i, at_⟩ ⟨h1, h2, h3, h4⟩
 refine ⟨Nat.le_refl _, by simp [Tryz.f150], fun E hE => ?_⟩
 refine ze _ ?_
 (all_goals refine qgv (Lf.mk ?_))
 refine zb zbR i.op trivial (VS.mk (LeL.of_eq rfl)) ?_
 obtain ⟨s, hs⟩ := zrf i.op
 rw [hs]
 (all_goals refine qgv ?_ <;> (repeat' first | exact trivial | intro hc | refine And.intro ?_ ?_) <;> refine Lf.mk ?_)
 any_goals (refine zs4 (by omega) (by omega) ?_)
 (all_goals refine qgv (Lf.mk ?_))
 all_goals (refine zd (VS.mk (LeD.tup (.cons (LeD.of_eq (congrArg (D.int .i64) ?_)) (.cons ?_ .nil)))))
 all_goals first
  | exact LeD.tt (decide_eq_true (by omega))
  | exact LeD.ff (decide_eq_false (by omega))
  | (unfold toM; rw [if_pos (by omega)]; done)
  | (unfold toM; rw [if_neg (by omega), if_pos (by omega)]; done)
  | (unfold toM; rw [if_neg (by omega), if_neg (by omega)]; done)
end Go.Proofs.YthmdddenbfbefaaGreatDoor
namespace Go.Proofs.YthmdddenbfbefaaGreatDoor
open Go Go.Plat
set_option linter.unusedVariables false
set_option linter.unusedSimpArgs false
set_option maxRecDepth 100000
set_option maxHeartbeats 2000000
attribute [local irreducible] AWP zC yg zJ zo yw z8 zH z1 z6 zt za zP yx zp z7 yt yu yi yk zw zx zy wk inM y6 yA xv wD zg up
theorem zs5 {i : Ins} {a : Int} (h1 : -4096 ≤ i.imm) (h2 : i.imm ≤ 4096) : a - 20000 ≤ toM i a ∧ toM i a ≤ a + 20000 ∨ toM i a = 0 := by
 unfold toM
 split
 ·exact .inl ⟨by omega, by omega⟩
 split
 ·exact .inl ⟨by omega, by omega⟩
 ·exact .inr rfl
theorem zuD (b : List UInt8) (a : Int) : 0 ≤ y8 b a 2 ∧ y8 b a 2 ≤ 65535 := by
 have h0 := kA b (a + (0 : Nat)); have h1 := kA b (a + (1 : Nat))
 simp only [y8]; omega
theorem ixr {i : Ins} (h : 0 ≤ i.n ∧ i.n < 16) {m : zG} {k : Nat} (hm : InM k m) : -2147483648 ≤ m.r i.n.toNat ∧ m.r i.n.toNat ≤ 2147483647 := hm.regs _ (by omega)
theorem ixm {i : Ins} (h : 0 ≤ i.m ∧ i.m < 16) {m : zG} {k : Nat} (hm : InM k m) : -2147483648 ≤ m.r i.m.toNat ∧ m.r i.m.toNat ≤ 2147483647 := hm.regs _ (by omega)
attribute [local irreducible] y8 toM ldM
theorem zeL : za Tryz.prog zqq (ya (fun ((m, i, at_) : zG × Ins × Int) => InM 10000 m ∧ InI i ∧ -2000000000000 ≤ at_ ∧ at_ ≤ 2000000000000)
  (fun (m, i, at_) => [.loc 0 0, jv i, .int .i64 at_]) (fun (m, _, _) => [.cells (vu m)]) (fun (m, i, at_) => .int .i64 (wL m i at_).2) fun (m, i, at_) => [.cells (vu (wL m i at_).1)]) := by
 refine zf zj Tryz.func148 rfl (by decide) ?_
 rintro ⟨m, i, at_⟩ ⟨hm, hi, h1, h2⟩
 obtain ⟨n0, n1⟩ := hi.n
 obtain ⟨m0, m1⟩ := hi.m
 obtain ⟨q0, q1⟩ := hi.imm
 have hb := hm.base
 have hl := hm.len
 have hrm := ixm hi.m hm
 have hto := zs5 (a := at_) q0 q1
 refine ⟨Nat.le_refl _, by simp [Tryz.f148], fun E hE => ?_⟩
 refine ze _ ?_
 (all_goals refine qgv (Lf.mk ?_))
 refine zb zn0 (i, at_) ⟨q0, q1, by omega, by omega⟩ (VS.mk (LeL.of_eq rfl)) ?_
 (all_goals refine qgv ?_ <;> (repeat' first | exact trivial | intro hc | refine And.intro ?_ ?_) <;> refine Lf.mk ?_)
 ·refine zY zcD [0] [0] (m, m.r i.m.toNat, 4) ⟨hm, by omega, by omega, by decide⟩ rfl rfl ?_
  refine And.intro (VS.mk (LeL.of_eq rfl)) (And.intro (VS.mk rfl) ?_)
  have hF : (if i.op = 26 then m.r i.m.toNat else toM i at_) = m.r i.m.toNat := if_pos (by assumption)
  have hS : (if i.op = 23 then (2 : Int) else 4) = 4 := if_neg (by assumption)
  (all_goals refine qgv ?_ <;> (repeat' first | exact trivial | intro hc | refine And.intro ?_ ?_) <;> refine Lf.mk ?_)
  ·have hL : wL m i at_ = (m, 3) := by unfold wL; rw [hF, hS, if_neg (by rw [hc]; decide)]
   refine yU [0] rfl rfl ?_
   (repeat' (first | (refine VS.mk ?_) | exact trivial | exact rfl | refine And.intro ?_ ?_))
   all_goals (dsimp only; rw [hL]; try rfl)
  have hin := zf9.1 (show inM m (m.r i.m.toNat) 4 = true from hc)
  refine zb zc6 (m.img.bytes, m.r i.m.toNat - m.img.base, 4) ⟨by omega, by omega, by decide⟩ (VS.mk (by (first | exact LeL.refl _ | (repeat' (first | exact LeL.nil | exact LeD.refl _ | exact LeD.nil _ | exact LeD.strip _ _ _ | refine LeL.cons ?_ ?_ | refine LeD.tup ?_ | refine LeD.agg ?_))))) ?_
  (all_goals refine qgv ?_ <;> (repeat' first | exact trivial | intro hc | refine And.intro ?_ ?_) <;> refine Lf.mk ?_)
  refine zb yp (y8 m.img.bytes (m.r i.m.toNat - m.img.base) 4) trivial (VS.mk (LeL.of_eq rfl)) ?_
  have hL : wL m i at_ = (xI m i.n (zg (y8 m.img.bytes (m.r i.m.toNat - m.img.base) 4) 32), 0) := by unfold wL; rw [hF, hS, if_pos (by assumption), if_neg (by assumption)]
  (all_goals refine qgv (Lf.mk ?_))
  refine yU [0] rfl rfl ?_
  (repeat' (first | (refine VS.mk ?_) | exact trivial | exact rfl | refine And.intro ?_ ?_))
  all_goals (dsimp only; rw [hL]; try rfl)
 ·refine zY zcD [0] [0] (m, toM i at_, 2) ⟨hm, by omega, by omega, by decide⟩ rfl rfl ?_
  refine And.intro (VS.mk (LeL.of_eq rfl)) (And.intro (VS.mk rfl) ?_)
  have hF : (if i.op = 26 then m.r i.m.toNat else toM i at_) = toM i at_ := if_neg (by assumption)
  have hS : (if i.op = 23 then (2 : Int) else 4) = 2 := if_pos (by assumption)
  (all_goals refine qgv ?_ <;> (repeat' first | exact trivial | intro hc | refine And.intro ?_ ?_) <;> refine Lf.mk ?_)
  ·have hL : wL m i at_ = (m, 3) := by unfold wL; rw [hF, hS, if_neg (by rw [hc]; decide)]
   refine yU [0] rfl rfl ?_
   (repeat' (first | (refine VS.mk ?_) | exact trivial | exact rfl | refine And.intro ?_ ?_))
   all_goals (dsimp only; rw [hL]; try rfl)
  have hin := zf9.1 (show inM m (toM i at_) 2 = true from hc)
  refine zb zc6 (m.img.bytes, toM i at_ - m.img.base, 2) ⟨by omega, by omega, by decide⟩ (VS.mk (by (first | exact LeL.refl _ | (repeat' (first | exact LeL.nil | exact LeD.refl _ | exact LeD.nil _ | exact LeD.strip _ _ _ | refine LeL.cons ?_ ?_ | refine LeD.tup ?_ | refine LeD.agg ?_))))) ?_
  have hg2 := zuD m.img.bytes (toM i at_ - m.img.base)
  have hL : wL m i at_ = (xI m i.n (zg (zg (y8 m.img.bytes (toM i at_ - m.img.base) 2) 16) 32), 0) := by unfold wL; rw [hF, hS, if_pos (by assumption), if_pos (by assumption)]
  have h16 := zyf hg2.1 hg2.2
  rw [h16] at hL
  (all_goals refine qgv ?_ <;> (repeat' first | exact trivial | intro hc | refine And.intro ?_ ?_) <;> refine Lf.mk ?_)
  any_goals (first | (exfalso; exact hc trivial) | skip)
  ·refine zb yp (y8 m.img.bytes (toM i at_ - m.img.base) 2 - 65536) trivial (VS.mk (LeL.of_eq rfl)) ?_
   rw [if_pos (by omega)] at hL
   (all_goals refine qgv (Lf.mk ?_))
   refine yU [0] rfl rfl ?_
   (repeat' (first | (refine VS.mk ?_) | exact trivial | exact rfl | refine And.intro ?_ ?_))
   all_goals (dsimp only; rw [hL]; try rfl)
  ·refine zb yp (y8 m.img.bytes (toM i at_ - m.img.base) 2) trivial (VS.mk (LeL.of_eq rfl)) ?_
   rw [if_neg (by omega)] at hL
   (all_goals refine qgv (Lf.mk ?_))
   refine yU [0] rfl rfl ?_
   (repeat' (first | (refine VS.mk ?_) | exact trivial | exact rfl | refine And.intro ?_ ?_))
   all_goals (dsimp only; rw [hL]; try rfl)
 ·refine zY zcD [0] [0] (m, toM i at_, 4) ⟨hm, by omega, by omega, by decide⟩ rfl rfl ?_
  refine And.intro (VS.mk (LeL.of_eq rfl)) (And.intro (VS.mk rfl) ?_)
  have hF : (if i.op = 26 then m.r i.m.toNat else toM i at_) = toM i at_ := if_neg (by assumption)
  have hS : (if i.op = 23 then (2 : Int) else 4) = 4 := if_neg (by assumption)
  (all_goals refine qgv ?_ <;> (repeat' first | exact trivial | intro hc | refine And.intro ?_ ?_) <;> refine Lf.mk ?_)
  ·have hL : wL m i at_ = (m, 3) := by unfold wL; rw [hF, hS, if_neg (by rw [hc]; decide)]
   refine yU [0] rfl rfl ?_
   (repeat' (first | (refine VS.mk ?_) | exact trivial | exact rfl | refine And.intro ?_ ?_))
   all_goals (dsimp only; rw [hL]; try rfl)
  have hin := zf9.1 (show inM m (toM i at_) 4 = true from hc)
  refine zb zc6 (m.img.bytes, toM i at_ - m.img.base, 4) ⟨by omega, by omega, by decide⟩ (VS.mk (by (first | exact LeL.refl _ | (repeat' (first | exact LeL.nil | exact LeD.refl _ | exact LeD.nil _ | exact LeD.strip _ _ _ | refine LeL.cons ?_ ?_ | refine LeD.tup ?_ | refine LeD.agg ?_))))) ?_
  (all_goals refine qgv ?_ <;> (repeat' first | exact trivial | intro hc | refine And.intro ?_ ?_) <;> refine Lf.mk ?_)
  refine zb yp (y8 m.img.bytes (toM i at_ - m.img.base) 4) trivial (VS.mk (LeL.of_eq rfl)) ?_
  have hL : wL m i at_ = (xI m i.n (zg (y8 m.img.bytes (toM i at_ - m.img.base) 4) 32), 0) := by unfold wL; rw [hF, hS, if_pos (by assumption), if_neg (by assumption)]
  (all_goals refine qgv (Lf.mk ?_))
  refine yU [0] rfl rfl ?_
  (repeat' (first | (refine VS.mk ?_) | exact trivial | exact rfl | refine And.intro ?_ ?_))
  all_goals (dsimp only; rw [hL]; try rfl)
end Go.Proofs.YthmdddenbfbefaaGreatDoor
