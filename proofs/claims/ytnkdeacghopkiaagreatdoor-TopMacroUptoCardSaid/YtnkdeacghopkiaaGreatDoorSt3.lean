/-
  A part of the proof: what the given program's functions answer, each once; conditions that are enough for it.
-/
import Derived.Test.YtnkdeacghopkiaaGreatDoorSt2
import Derived.Test.YtnkdeacghopkiaaGreatDoorFw3
import Derived.Test.YtnkdeacghopkiaaGreatDoorSt1
namespace Go.Proofs.YtnkdeacghopkiaaGreatDoor
open Go Go.Plat
set_option linter.unusedVariables false
set_option linter.unusedSimpArgs false
set_option maxRecDepth 100000
set_option maxHeartbeats 2000000
attribute [local irreducible] AWP zA yh zE zn yu z6 zF zX Lib.itoa zY zq za zL yv zo zZ zg.kids zg.kind zg.n zg.name yq yr yj ym zr zu xp wr zz xr xl xe w0 wo xm xN yH yD yY xQ xo wK xg w2 zP zV w1 yy
def eC (q : List zl) (b : Bld) (o : Out) : List D := [.sl 2 (q.map we) none, .osl 13 1 b.items.length 0 b.items.length, .osl 2 2 b.syms.length 0 b.syms.length, .sl 1 (b.marks.map (.int .i64)) (some 3),
 .osl 1 4 (zM b).length 0 (zM b).length, .int .i64 b.shut.length, .sl 1 (o.code.map zI) (some 6), .nilsl, .sl 4 (o.rels.map zbL) (some 5), .int .i64 o.fe, .int .i64 o.fa]
def eT (b : Bld) (o : Out) : List Ob := [.arr 13 (b.items.map xn), .arr 2 (b.syms.map yK), .spare b.marks.length, .arr 1 (b.shut.map y9), .spare o.rels.length, .spare o.code.length]
def eO (q : List zl) (b : Bld) (o : Out) : List Ob := .cells (eC q b o) :: eT b o
theorem zh7 {n : Nat} (l : List (List zw)) : ∀ d ∈ l.map y9, ClL n d.cells := by
 intro d hd
 obtain ⟨x, _, rfl⟩ := List.mem_map.1 hd
 exact .cons .sl .nil
theorem w3 (q : List zl) (b : Bld) (o : Out) : ∀ x ∈ eO q b o, ClO 7 x := by
 intro x hx
 simp only [eO, eT, List.mem_cons, List.not_mem_nil, or_false] at hx
 rcases hx with rfl | rfl | rfl | rfl | rfl | rfl | rfl
 ·exact .cells (.cons .sl (.cons (.osl (by decide)) (.cons (.osl (by decide)) (.cons (.tok (by decide)) (.cons (.osl (by decide)) (.cons .int (.cons (.tok (by decide)) (.cons .nilsl (.cons (.tok (by decide)) (.cons .int (.cons .int .nil)))))))))))
 ·exact .arr (kF _)
 ·exact .arr (jJ _)
 ·exact .spare
 ·exact .arr (zh7 _)
 ·exact .spare
 ·exact .spare
theorem xY {n0 : Nat} {q : List zl} {b : Bld} {o o' : Out} {r d : D} {L : List Ob} (X : List Ob) (hL : L = eO q b o' ++ X) (ho : o' = o) (hr : r = d) (hn : n0 ≤ 7) (hd : ClD 7 d) : zF n0 r d L (eO q b o) := by
 subst ho; subst hr
 exact vU (eO q b o') X hL hn hd (w3 _ _ _)
theorem zpS (q : List zl) (b : Bld) (o : Out) (e line : Int) : Ob.cells [.sl 2 (q.map we) none, .osl 13 1 b.items.length 0 b.items.length, .osl 2 2 b.syms.length 0 b.syms.length, .sl 1 (b.marks.map (.int .i64)) (some 3),
  .osl 1 4 (zM b).length 0 (zM b).length, .int .i64 b.shut.length, .sl 1 (o.code.map zI) (some 6), .nilsl, .sl 4 (o.rels.map zbL) (some 5), .int .i64 (if o.fe = 0 then e else o.fe), .int .i64 (if o.fe = 0 then line else o.fa)] :: eT b o = eO q b (vN o e line) := by
 unfold vN
 by_cases h : o.fe = 0
 ·rw [if_pos h, if_pos h, if_pos h]; rfl
 ·rw [if_neg h, if_neg h, if_neg h]; rfl
theorem zad {av : List D} {L : List Ob} {KP : D → Prop} {KW : D → List Ob → Prop} (q : List zl) (b : Bld) (o : Out) (e line : Int) (X : List Ob) (hL : L = eO q b o ++ X) (has : av = [.loc 0 0, .int .i64 e, .int .i64 line])
  (hK : KW .ff (eO q b (vN o e line) ++ X)) : zn Tryz.prog v8 av L KP KW := by
 subst has
 refine y7 zhn X ((.sl 2 (q.map we) none, .osl 13 1 b.items.length 0 b.items.length, .osl 2 2 b.syms.length 0 b.syms.length, .sl 1 (b.marks.map (.int .i64)) (some 3),
  .osl 1 4 (zM b).length 0 (zM b).length, .int .i64 b.shut.length, .sl 1 (o.code.map zI) (some 6), .nilsl, .sl 4 (o.rels.map zbL) (some 5)), o.fe, o.fa, e, line, eT b o) trivial hL (LeL.refl _) rfl ?_ .ff (w3 q b o) ?_ ?_
 ·exact .cons (.loc (Nat.lt_of_lt_of_le (by decide : 0 < 7) (Nat.le_of_eq rfl))) (.cons .int (.cons .int .nil))
 ·dsimp only
  rw [zpS]
  exact w3 q b _
 ·dsimp only
  rw [zpS]
  exact hK
theorem zrb : za Tryz.prog zbm (ya (fun ((_, o, _, _, _) : Bld × Out × Ins × Int × List zl) => o.code.length ≤ 1000000000) (fun (_, _, i, line, _) => [.loc 0 0, ju i, .int .i64 line])
  (fun (b, o, _, _, q) => eO q b o) (fun _ => .tup []) fun (b, o, i, line, q) => eO q b (xy o i line)) := by
 refine zf zj Tryz.func126 rfl (by decide) ?_
 rintro ⟨b, o, i, line, q⟩ hl
 have hl : o.code.length ≤ 1000000000 := hl
 refine ⟨Nat.le_refl _, by simp [Tryz.f126], fun E hE => ?_⟩
 show AWP _ _ _ _ (vQ _ _ _ _ (eO q b (xy o i line))) _ (eO q b o)
 have hH : xy o i line = if yy i = 0 then ⟨o.code ++ [yz (xr i / 256), yz (xr i)], o.rels, o.fe, o.fa⟩ else vN o (yy i) line := rfl
 generalize xy o i line = H at *
 refine ze _ ?_
 (all_goals refine qgp (Lf.mk ?_))
 refine zb zni i trivial (VS.mk (LeL.of_eq rfl)) ?_
 generalize yy i = W at *
 (all_goals refine qgp ?_ <;> (repeat' first | exact trivial | intro hc | refine And.intro ?_ ?_) <;> refine Lf.mk ?_)
 ·rw [if_neg hc] at hH
  refine zad q b o W line [_] rfl rfl ?_
  rw [← hH]
  (all_goals refine qgp (Lf.mk ?_))
  exact xY [_] rfl rfl rfl (Nat.le_of_eq rfl) .tup0
 ·rw [if_pos hc] at hH
  subst hH
  have he : (if W = 0 then xr i else 0) = xr i := if_pos hc
  simp only [he]
  exact xY (o' := ⟨o.code ++ [yz (xr i / 256), yz (xr i)], o.rels, o.fe, o.fa⟩) [_] rfl rfl rfl (Nat.le_of_eq rfl) .tup0
theorem zpT {n : Nat} (i : Ins) : ClD n (ju i) := .agg (.cons .int (.cons .int (.cons .int (.cons .int .nil))))
theorem zdn {av : List D} {L : List Ob} {KP : D → Prop} {KW : D → List Ob → Prop} (q : List zl) (b : Bld) (o : Out) (i : Ins) (line : Int) (X : List Ob) (hl : o.code.length ≤ 1000000000) (hL : L = eO q b o ++ X) (has : LeL av [.loc 0 0, ju i, .int .i64 line])
  (hK : KW (.tup []) (eO q b (xy o i line) ++ X)) : zn Tryz.prog zbm av L KP KW := by
 refine zb9 has ?_
 exact y7 zrb X (b, o, i, line, q) hl hL (LeL.refl _) rfl (.cons (.loc (Nat.lt_of_lt_of_le (by decide : 0 < 7) (Nat.le_of_eq rfl))) (.cons (zpT i) (.cons .int .nil))) .tup0 (w3 _ _ _) (w3 _ _ _) hK
theorem zcH (o : Out) (i : Ins) (line : Int) : (xy o i line).code.length ≤ o.code.length + 2 := by
 unfold xy vN
 repeat' split
 all_goals simp
theorem zcI (o : Out) (i : Ins) (a to line : Int) : (xS o i a to line).code.length ≤ o.code.length + 2 := by
 unfold xS
 split
 ·exact zcH _ _ _
 ·unfold vN; split <;> simp
attribute [local irreducible] xy
theorem zrc : za Tryz.prog zbn (ya (fun ((_, o, _, a, _, _, _) : Bld × Out × Ins × Int × Int × Int × List zl) => o.code.length ≤ 1000000000 ∧ 0 ≤ a ∧ a ≤ 1000000000000000) (fun (_, _, i, a, to, line, _) => [.loc 0 0, ju i, .int .i64 a, .int .i64 to, .int .i64 line])
  (fun (b, o, _, _, _, _, q) => eO q b o) (fun _ => .tup []) fun (b, o, i, a, to, line, q) => eO q b (xS o i a to line)) := by
 refine zf zj Tryz.func129 rfl (by decide) ?_
 rintro ⟨b, o, i, a, to, line, q⟩ ⟨hl, h0, h1⟩
 have hl : o.code.length ≤ 1000000000 := hl
 refine ⟨Nat.le_refl _, by simp [Tryz.f129], fun E hE => ?_⟩
 show AWP _ _ _ _ (vQ _ _ _ _ (eO q b (xS o i a to line))) _ (eO q b o)
 have hH : xS o i a to line = if (wr i.op a to).2 = 0 then xy o ⟨i.op, i.n, i.m, (wr i.op a to).1⟩ line else vN o (wr i.op a to).2 line := rfl
 generalize xS o i a to line = H at *
 refine ze _ ?_
 (all_goals refine qgp (Lf.mk ?_))
 refine zb zjk (i.op, a, to) ⟨h0, h1⟩ (VS.mk (LeL.of_eq rfl)) ?_
 dsimp only
 generalize wr i.op a to = W at *
 (all_goals refine qgp ?_ <;> (repeat' first | exact trivial | intro hc | refine And.intro ?_ ?_) <;> refine Lf.mk ?_)
 ·rw [if_neg hc] at hH
  refine zad q b o W.2 line [_] rfl rfl ?_
  rw [← hH]
  (all_goals refine qgp (Lf.mk ?_))
  exact xY [_] rfl rfl rfl (Nat.le_of_eq rfl) .tup0
 ·rw [if_pos hc] at hH
  refine zdn q b o ⟨i.op, i.n, i.m, W.1⟩ line [_] hl rfl (LeL.of_eq rfl) ?_
  rw [← hH]
  (all_goals refine qgp (Lf.mk ?_))
  exact xY [_] rfl rfl rfl (Nat.le_of_eq rfl) .tup0
theorem zdo {av : List D} {L : List Ob} {KP : D → Prop} {KW : D → List Ob → Prop} (q : List zl) (b : Bld) (o : Out) (i : Ins) (a to line : Int) (X : List Ob) (hl : o.code.length ≤ 1000000000) (h0 : 0 ≤ a) (h1 : a ≤ 1000000000000000) (hL : L = eO q b o ++ X)
  (has : LeL av [.loc 0 0, ju i, .int .i64 a, .int .i64 to, .int .i64 line]) (hK : KW (.tup []) (eO q b (xS o i a to line) ++ X)) : zn Tryz.prog zbn av L KP KW := by
 refine zb9 has ?_
 exact y7 zrc X (b, o, i, a, to, line, q) ⟨hl, h0, h1⟩ hL (LeL.refl _) rfl (.cons (.loc (Nat.lt_of_lt_of_le (by decide : 0 < 7) (Nat.le_of_eq rfl))) (.cons (zpT i) (.cons .int (.cons .int (.cons .int .nil))))) .tup0 (w3 _ _ _) (w3 _ _ _) hK
attribute [local irreducible] xS
theorem zrd : za Tryz.prog zbo (ya (fun ((b, o, k, x, _, _) : Bld × Out × Nat × zp × Int × List zl) => o.code.length ≤ 900000000 ∧ b.items[k]? = some x ∧ 0 ≤ x.at_ ∧ x.at_ ≤ 100000000000000) (fun (b, _, k, _, to, _) => [.loc 0 0, .aloc 1 b.items.length k 0, .int .i64 to])
  (fun (b, o, _, _, _, q) => eO q b o) (fun _ => .tup []) fun (b, o, _, x, to, q) => eO q b (qo o x to)) := by
 refine zf zj Tryz.func130 rfl (by decide) ?_
 rintro ⟨b, o, k, x, to, q⟩ ⟨hl, hx, h0, h1⟩
 have hl : o.code.length ≤ 900000000 := hl
 have hx : b.items[k]? = some x := hx
 have h0 : 0 ≤ x.at_ := h0
 have h1 : x.at_ ≤ 100000000000000 := h1
 have hxn : b.items[((k : Nat) : Int).toNat]? = some x := by rw [Int.toNat_natCast]; exact hx
 refine ⟨Nat.le_refl _, by simp [Tryz.f130], fun E hE => ?_⟩
 show AWP _ _ _ _ (vQ _ _ _ _ (eO q b (qo o x to))) _ (eO q b o)
 have hH : qo o x to = if x.long = false then xS o x.ins x.at_ to x.line else xy (xS (xy o ⟨w64 (35 - x.ins.op), 0, 0, 1⟩ x.line) ⟨19, 0, 0, 0⟩ (x.at_ + 2) to x.line) ⟨1, 0, 0, 0⟩ x.line := rfl
 generalize qo o x to = H at *
 have hl1 := zcH o ⟨w64 (35 - x.ins.op), 0, 0, 1⟩ x.line
 have hl2 := zcI (xy o ⟨w64 (35 - x.ins.op), 0, 0, 1⟩ x.line) ⟨19, 0, 0, 0⟩ (x.at_ + 2) to x.line
 refine ze _ ?_
 (all_goals refine qgp (Lf.mk ?_))
 refine zk x (Int.natCast_nonneg k) hxn ?_
 (all_goals refine qgp ?_ <;> (repeat' first | exact trivial | intro hc | refine And.intro ?_ ?_) <;> refine Lf.mk ?_)
 ·rw [if_pos hc] at hH
  refine zk x (Int.natCast_nonneg k) hxn ?_
  (all_goals refine qgp (Lf.mk ?_))
  refine zk x (Int.natCast_nonneg k) hxn ?_
  (all_goals refine qgp (Lf.mk ?_))
  refine zk x (Int.natCast_nonneg k) hxn ?_
  (all_goals refine qgp (Lf.mk ?_))
  refine zdo q b o x.ins x.at_ to x.line [] (by omega) h0 (by omega) rfl (LeL.of_eq rfl) ?_
  rw [← hH]
  (all_goals refine qgp (Lf.mk ?_))
  exact xY [] rfl rfl rfl (Nat.le_of_eq rfl) .tup0
 ·rw [if_neg (by rw [hc]; decide)] at hH
  refine zk x (Int.natCast_nonneg k) hxn ?_
  (all_goals refine qgp (Lf.mk ?_))
  refine znJ ?_
  (all_goals refine qgp (Lf.mk ?_))
  refine zk x (Int.natCast_nonneg k) hxn ?_
  (all_goals refine qgp (Lf.mk ?_))
  refine zdn q b o ⟨w64 (35 - x.ins.op), 0, 0, 1⟩ x.line [_] (by omega) rfl (LeL.of_eq rfl) ?_
  generalize xy o ⟨w64 (35 - x.ins.op), 0, 0, 1⟩ x.line = o1 at *
  (all_goals refine qgp (Lf.mk ?_))
  refine zk x (Int.natCast_nonneg k) hxn ?_
  (all_goals refine qgp (Lf.mk ?_))
  refine zk x (Int.natCast_nonneg k) hxn ?_
  (all_goals refine qgp (Lf.mk ?_))
  refine zdo q b o1 ⟨19, 0, 0, 0⟩ (x.at_ + 2) to x.line [_] (by omega) (by omega) (by omega) rfl (LeL.of_eq rfl) ?_
  generalize xS o1 ⟨19, 0, 0, 0⟩ (x.at_ + 2) to x.line = o2 at *
  (all_goals refine qgp (Lf.mk ?_))
  refine zk x (Int.natCast_nonneg k) hxn ?_
  (all_goals refine qgp (Lf.mk ?_))
  refine zdn q b o2 ⟨1, 0, 0, 0⟩ x.line [_] (by omega) rfl (LeL.of_eq rfl) ?_
  rw [← hH]
  (all_goals refine qgp (Lf.mk ?_))
  exact xY [_] rfl rfl rfl (Nat.le_of_eq rfl) .tup0
end Go.Proofs.YtnkdeacghopkiaaGreatDoor
namespace Go.Proofs.YtnkdeacghopkiaaGreatDoor
open Go Go.Plat
set_option linter.unusedVariables false
set_option linter.unusedSimpArgs false
set_option maxRecDepth 100000
set_option maxHeartbeats 2000000
attribute [local irreducible] AWP zA yh zE zn yu z6 zF zX Lib.itoa zY zq za zL yv zo zZ zg.kids zg.kind zg.n zg.name yq yr yj ym zr zu xp wr zz xr xl xe w0 wo xm xN yH yD yY xQ xo wK zh xg w2 zP w1 yy
theorem znL {av : List D} {L : List Ob} {KP : D → Prop} {KW : D → List Ob → Prop} (q : List zl) (b : Bld) (o : Out) (v : zw) (X : List Ob) (hl : b.syms.length ≤ 1000000) (hL : L = eO q b o ++ X) (has : av = [.loc 0 0, yI v])
  (hK : KW (.tup [.int .i64 (zV b.syms v).1, .int .i64 (zV b.syms v).2]) (eO q b o ++ X)) : zn Tryz.prog vh av L KP KW := by
 subst has
 have hm : za Tryz.prog vh (ya (fun ((b, _, _, _) : Bld × Out × zw × List zl) => b.syms.length ≤ 1000000) (fun (_, _, v, _) => [.loc 0 0, yI v])
   (fun (b, o, _, q) => eO q b o) (fun (b, _, v, _) => .tup [.int .i64 (zV b.syms v).1, .int .i64 (zV b.syms v).2]) fun (b, o, _, q) => eO q b o) := by
  clear hK hL hl
  refine zf zj Tryz.func121 rfl (by decide) ?_
  rintro ⟨b, o, v, q⟩ hl
  have hl : b.syms.length ≤ 1000000 := hl
  refine ⟨Nat.le_refl _, by simp [Tryz.f121], fun E hE => ?_⟩
  show AWP _ _ _ _ (vQ _ _ _ (.tup [.int .i64 (zV b.syms v).1, .int .i64 (zV b.syms v).2]) (eO q b o)) _ (eO q b o)
  have hT : zV b.syms v = if v.name = [] then (0, 8) else if zkf v.name b.syms 0 < 0 then (0, 6) else (w64 ((zcC b.syms (zkf v.name b.syms 0)).at_ + v.n), 0) := rfl
  generalize zV b.syms v = T at *
  refine ze _ ?_
  (all_goals refine qgp ?_ <;> (repeat' first | exact trivial | intro hc | refine And.intro ?_ ?_) <;> refine Lf.mk ?_)
  ·rw [if_pos hc] at hT
   subst hT
   exact xY [_] rfl rfl rfl (Nat.le_of_eq rfl) (.tup (.cons .int (.cons .int .nil)))
  rw [if_neg hc] at hT
  refine zh5 qk [.loc 7 0] (fun s => s.name == v.name) b.syms (.cells (eC q b o)) (.arr 13 (b.items.map xn)) [.spare b.marks.length, .arr 1 (b.shut.map y9), .spare o.rels.length, .spare o.code.length, .cells [.str v.name, .int .i64 v.n]] (by omega) rfl rfl
   (fun s hs KP KW hK => ?_) ?_
  ·exact yb zff [7] [7] (s, v) trivial rfl rfl ⟨VS.mk (LeL.refl _), VS.mk rfl, hK⟩
  have hp := zb1 (fun s : zC => s.name == v.name) b.syms 0
  have hT : T = if xC (fun s : zC => s.name == v.name) b.syms 0 < 0 then (0, 6) else (w64 ((zcC b.syms (xC (fun s : zC => s.name == v.name) b.syms 0)).at_ + v.n), 0) := hT
  generalize xC (fun s : zC => s.name == v.name) b.syms 0 = p at *
  (all_goals refine qgp ?_ <;> (repeat' first | exact trivial | intro hc | refine And.intro ?_ ?_) <;> refine Lf.mk ?_)
  ·rw [if_pos hc] at hT
   subst hT
   exact xY [_] rfl rfl rfl (Nat.le_of_eq rfl) (.tup (.cons .int (.cons .int .nil)))
  have hpl : p.toNat < b.syms.length := by
   rcases hp with h | ⟨j, h1, h2⟩
   ·omega
   ·rw [h2, Int.toNat_natCast, Nat.zero_add]; exact h1
  have hs : b.syms[p.toNat]? = some (zcC b.syms p) := by unfold zcC; rw [List.getElem?_eq_getElem hpl]; rfl
  rw [if_neg hc] at hT
  refine zk (zcC b.syms p) (Int.natCast_nonneg _) (by rw [Int.toNat_natCast, Nat.zero_add]; exact hs) ?_
  (all_goals refine qgp (Lf.mk ?_))
  refine znJ ?_
  (all_goals refine qgp (Lf.mk ?_))
  subst hT
  exact xY [_] rfl rfl rfl (Nat.le_of_eq rfl) (.tup (.cons .int (.cons .int .nil)))
 exact y7 hm X (b, o, v, q) hl hL (LeL.refl _) rfl (.cons (.loc (Nat.lt_of_lt_of_le (by decide : 0 < 7) (Nat.le_of_eq rfl))) (.cons (zaD v) .nil)) (.tup (.cons .int (.cons .int .nil))) (w3 _ _ _) (w3 _ _ _) hK
attribute [local irreducible] zV
theorem zdp (syms : List zC) (o : Out) (v : zw) (size : Nat) : (wb syms o v size).code.length = o.code.length + size := by
 unfold wb
 split
 ·dsimp only
  rw [zcz]
  simp
 ·simp
theorem zpd : za Tryz.prog zbk (ya (fun ((b, o, _, size, _) : Bld × Out × zw × Nat × List zl) => b.syms.length ≤ 1000000 ∧ o.code.length ≤ 500000000 ∧ o.rels.length ≤ 500000000 ∧ 0 < size ∧ size ≤ 4) (fun (_, _, v, size, _) => [.loc 0 0, yI v, .int .i64 size])
  (fun (b, o, _, _, q) => eO q b o) (fun _ => .tup []) fun (b, o, v, size, q) => eO q b (wb b.syms o v size)) := by
 refine zvz 6 zj Tryz.func123 rfl (by decide) ?_
 rintro ⟨b, o, v, size, q⟩ ⟨hs, hl, hr, h0, h4⟩
 have hs : b.syms.length ≤ 1000000 := hs
 have hl : o.code.length ≤ 500000000 := hl
 have hr : o.rels.length ≤ 500000000 := hr
 have h0 : 0 < size := h0
 have h4 : size ≤ 4 := h4
 have hlen := zdp b.syms o v size
 refine ⟨Nat.le_succ 6, ?_, Nat.le_refl _, by simp [Tryz.f123], fun E hE => ?_⟩
 ·intro k hk hk2
  obtain rfl : k = 6 := by
   have : k < 7 := hk2
   omega
  exact ⟨_, _, rfl, rfl, by rw [hlen]; omega⟩
 show AWP _ _ _ _ (vQ _ _ _ _ (eO q b (wb b.syms o v size))) _ (eO q b o)
 have hW : wb b.syms o v size = if v.name = [] then ⟨xo (o.code ++ List.replicate size 0) o.code.length size v.n, o.rels, o.fe, o.fa⟩
  else ⟨o.code ++ List.replicate size 0, o.rels ++ [zh4 b.syms o.code.length size v], o.fe, o.fa⟩ := rfl
 generalize wb b.syms o v size = W at *
 refine ze _ ?_
 (all_goals refine qgk (Lf.mk ?_))
 refine wZ ((o.code ++ List.replicate size 0).map zI) (by rw [List.map_append, List.map_replicate]; rfl) ?_
 have hcl : (o.code ++ List.replicate size 0).length = o.code.length + size := by simp
 rw [List.length_map]
 (all_goals refine qgk ?_ <;> (repeat' first | exact trivial | intro hc | refine And.intro ?_ ?_) <;> refine Lf.mk ?_)
 ·rw [if_pos hc] at hW
  refine yb zdi [] [8] (o.code ++ List.replicate size 0, o.code.length, size, v.n) ⟨by show -1000000000000 ≤ ((o.code.length : Nat) : Int); omega, by show ((o.code.length : Nat) : Int) ≤ _; omega, by show size ≤ _; omega, by show (o.code ++ List.replicate size 0).length ≤ _; omega⟩ rfl rfl ?_
  refine And.intro (VS.mk (LeL.of_eq rfl)) (And.intro (VS.mk rfl) ?_)
  (all_goals refine qgk (Lf.mk ?_))
  have key : ∀ k, k < 6 → zG [0, 1, 2, 3, 4, 5, 8] 0 k = some k := by decide
  subst hW
  have hpl := zcz o.code.length size (o.code ++ List.replicate size 0) v.n
  refine zdb [0, 1, 2, 3, 4, 5, 8] rfl rfl ?_ (ClD.tup0 (n := 6) _ key)
  refine .cons (o := .cells [.sl 2 (q.map we) none, .osl 13 1 b.items.length 0 b.items.length, .osl 2 2 b.syms.length 0 b.syms.length, .sl 1 (b.marks.map (.int .i64)) (some 3), .osl 1 4 (zM b).length 0 (zM b).length, .int .i64 b.shut.length,
   .sl 1 ((xo (o.code ++ List.replicate size 0) o.code.length size v.n).map zI) (some 8), .nilsl, .sl 4 (o.rels.map zbL) (some 5), .int .i64 o.fe, .int .i64 o.fa]) rfl
   ⟨_, rfl, .cons (ClD.sl (n := 6) _ key) (.cons (ClD.osl (n := 6) (by decide) _ key) (.cons (ClD.osl (n := 6) (by decide) _ key) (.cons (ClD.tok (n := 6) (by decide) _ key) (.cons (ClD.osl (n := 6) (by decide) _ key) (.cons (ClD.int (n := 6) _ key)
     (.cons (.tok rfl) (.cons (ClD.nilsl (n := 6) _ key) (.cons (ClD.tok (n := 6) (by decide) _ key) (.cons (ClD.int (n := 6) _ key) (.cons (ClD.int (n := 6) _ key) .nil))))))))))⟩
   (.cons (o := .arr 13 (b.items.map xn)) rfl (ClO.arr (n := 6) (kF _) _ key) (.cons (o := .arr 2 (b.syms.map yK)) rfl (ClO.arr (n := 6) (jJ _) _ key) (.cons (o := .spare b.marks.length) rfl rfl
   (.cons (o := .arr 1 (b.shut.map y9)) rfl (ClO.arr (n := 6) (zh7 _) _ key) (.cons (o := .spare o.rels.length) rfl rfl (.cons (o := .spare (o.code ++ List.replicate size 0).length) rfl (by rw [hpl]; rfl) .nil))))))
 ·rw [if_neg hc] at hW
  refine znL q b ⟨o.code ++ List.replicate size 0, o.rels, o.fe, o.fa⟩ v [_, _] hs rfl rfl ?_
  have hR : zh4 b.syms o.code.length size v = if (zV b.syms v).2 = 0 then ⟨o.code.length, size, [], zh (zV b.syms v).1 32⟩ else ⟨o.code.length, size, v.name, v.n⟩ := rfl
  generalize zV b.syms v = T at *
  (all_goals refine qgk ?_ <;> (repeat' first | exact trivial | intro hc | refine And.intro ?_ ?_) <;> refine Lf.mk ?_)
  ·rw [if_pos hc] at hR
   refine zb yx T.1 trivial (VS.mk (LeL.of_eq rfl)) ?_
   (all_goals refine qgk (Lf.mk ?_))
   refine wZ ((o.rels ++ [zh4 b.syms o.code.length size v]).map zbL) (by rw [hR, List.map_append]; rfl) ?_
   rw [List.length_map]
   (all_goals refine qgk (Lf.mk ?_))
   subst hW
   exact xY (o' := ⟨o.code ++ List.replicate size 0, o.rels ++ [zh4 b.syms o.code.length size v], o.fe, o.fa⟩) [_, _] rfl rfl rfl (by decide) .tup0
  ·rw [if_neg hc] at hR
   refine wZ ((o.rels ++ [zh4 b.syms o.code.length size v]).map zbL) (by rw [hR, List.map_append]; rfl) ?_
   rw [List.length_map]
   (all_goals refine qgk (Lf.mk ?_))
   subst hW
   exact xY (o' := ⟨o.code ++ List.replicate size 0, o.rels ++ [zh4 b.syms o.code.length size v], o.fe, o.fa⟩) [_, _] rfl rfl rfl (by decide) .tup0
attribute [local irreducible] xy xS qo
theorem zre {o : Out} {to : Int} (h : to ≤ o.code.length) : wv o to = o := by
 unfold wv
 rw [show (to - (o.code.length : Int)).toNat = 0 by omega]
 simp
theorem zrf {o : Out} {to : Int} (h : (o.code.length : Int) < to) : wv ⟨o.code ++ [0], o.rels, o.fe, o.fa⟩ to = wv o to := by
 unfold wv
 have : (to - (o.code.length : Int)).toNat = (to - ((o.code ++ [0]).length : Int)).toNat + 1 := by simp; omega
 rw [this, List.replicate_succ]
 simp
theorem zv9 {o : Out} {to : Int} {m : Nat} (h1 : o.code.length ≤ m) (h2 : to ≤ m) : (wv o to).code.length ≤ m := by
 unfold wv
 simp only [List.length_append, List.length_replicate]
 omega
theorem zgk (o : Out) (to : Int) : (wv o to).rels = o.rels := by unfold wv; rfl
theorem zgl (syms : List zC) (o : Out) (v : zw) (size : Nat) : (wb syms o v size).rels.length ≤ o.rels.length + 1 := by
 unfold wb
 split
 ·exact Nat.le_succ _
 ·simp
theorem zpe : za Tryz.prog zbl (ya (fun ((_, o, to, _) : Bld × Out × Int × List zl) => o.code.length ≤ 1000000000 ∧ to ≤ 1000000000) (fun (_, _, to, _) => [.loc 0 0, .int .i64 to])
  (fun (b, o, _, q) => eO q b o) (fun _ => .tup []) fun (b, o, to, q) => eO q b (wv o to)) := by
 refine zf zj Tryz.func124 rfl (by decide) ?_
 rintro ⟨b, o, to, q⟩ ⟨hl, ht⟩
 have hl : o.code.length ≤ 1000000000 := hl
 have ht : to ≤ 1000000000 := ht
 refine ⟨Nat.le_refl _, by simp [Tryz.f124], fun E hE => ?_⟩
 have hE7 : E.L.length = 7 := by rw [hE]; rfl
 show AWP _ _ _ _ (vQ _ _ _ _ (eO q b (wv o to))) _ (eO q b o)
 generalize hF : wv o to = F
 refine ze _ ?_
 (all_goals refine qgp (Lf.mk ?_))
 refine yN (α := Out) (fun p => wv p to = F ∧ p.code.length ≤ 1000000000) (fun _ => [(0, .loc 0 0), (1, .int .i64 to)]) (fun p => eO q b p) (fun p => (to - (p.code.length : Int)).toNat) (fun _ => by rw [hE7]; exact Nat.le_refl 7) o ⟨hF, hl⟩ ?_ ?_
 ·exact yn rfl ⟨rfl, rfl, trivial⟩
 rintro p ⟨i1, i2⟩
 refine ze _ ?_
 (all_goals refine qgk ?_ <;> (repeat' first | exact trivial | intro hc | refine And.intro ?_ ?_) <;> refine Lf.mk ?_)
 ·refine wZ ((p.code ++ [0]).map zI) (by rw [List.map_append]; rfl) ?_
  rw [List.length_map]
  (all_goals refine qgk (Lf.mk ?_))
  exact yJ (⟨p.code ++ [0], p.rels, p.fe, p.fa⟩ : Out) ⟨by rw [zrf hc]; exact i1, by show (p.code ++ [0]).length ≤ _; simp; omega⟩ (by show (to - ((p.code ++ [0]).length : Int)).toNat < _; simp; omega) rfl ⟨rfl, rfl, trivial⟩
 ·rw [zre (by omega)] at i1
  subst i1
  exact y6 rfl rfl
theorem zk1 {av : List D} {L : List Ob} {KP : D → Prop} {KW : D → List Ob → Prop} (q : List zl) (b : Bld) (o : Out) (to : Int) (X : List Ob) (hl : o.code.length ≤ 1000000000) (ht : to ≤ 1000000000) (hL : L = eO q b o ++ X) (has : av = [.loc 0 0, .int .i64 to])
  (hK : KW (.tup []) (eO q b (wv o to) ++ X)) : zn Tryz.prog zbl av L KP KW := by
 subst has
 exact y7 zpe X (b, o, to, q) ⟨hl, ht⟩ hL (LeL.refl _) rfl (.cons (.loc (Nat.lt_of_lt_of_le (by decide : 0 < 7) (Nat.le_of_eq rfl))) (.cons .int .nil)) .tup0 (w3 _ _ _) (w3 _ _ _) hK
theorem zk2 {av : List D} {L : List Ob} {KP : D → Prop} {KW : D → List Ob → Prop} (q : List zl) (b : Bld) (o : Out) (v : zw) (size : Nat) (X : List Ob) (hs : b.syms.length ≤ 1000000) (hl : o.code.length ≤ 500000000) (hr : o.rels.length ≤ 500000000) (h0 : 0 < size) (h4 : size ≤ 4) (hL : L = eO q b o ++ X)
  (has : LeL av [.loc 0 0, yI v, .int .i64 size]) (hK : KW (.tup []) (eO q b (wb b.syms o v size) ++ X)) : zn Tryz.prog zbk av L KP KW := by
 refine zb9 has ?_
 exact y7 zpd X (b, o, v, size, q) ⟨hs, hl, hr, h0, h4⟩ hL (LeL.refl _) rfl (.cons (.loc (Nat.lt_of_lt_of_le (by decide : 0 < 7) (Nat.le_of_eq rfl))) (.cons (zaD v) (.cons .int .nil))) .tup0 (w3 _ _ _) (w3 _ _ _) hK
theorem zsO {av : List D} {L : List Ob} {KP : D → Prop} {KW : D → List Ob → Prop} (q : List zl) (b : Bld) (o : Out) (k : Nat) (x : zp) (to : Int) (X : List Ob) (hl : o.code.length ≤ 900000000) (hx : b.items[k]? = some x) (h0 : 0 ≤ x.at_) (h1 : x.at_ ≤ 100000000000000) (hL : L = eO q b o ++ X)
  (has : av = [.loc 0 0, .aloc 1 b.items.length k 0, .int .i64 to]) (hK : KW (.tup []) (eO q b (qo o x to) ++ X)) : zn Tryz.prog zbo av L KP KW := by
 subst has
 exact y7 zrd X (b, o, k, x, to, q) ⟨hl, hx, h0, h1⟩ hL (LeL.refl _) rfl (.cons (.loc (Nat.lt_of_lt_of_le (by decide : 0 < 7) (Nat.le_of_eq rfl))) (.cons (.aloc (Nat.lt_of_lt_of_le (by decide : 1 < 7) (Nat.le_of_eq rfl))) (.cons .int .nil))) .tup0 (w3 _ _ _) (w3 _ _ _) hK
def zgm (b : Bld) (k : Nat) : Ob := .cells [.aloc 1 b.items.length k 0]
theorem zsP (q : List zl) (b : Bld) (o : Out) (k : Nat) : ∀ x ∈ eO q b o ++ [zgm b k], ClO (eO q b o ++ [zgm b k]).length x := by
 intro x hx
 have hl : (eO q b o ++ [zgm b k]).length = 8 := rfl
 rw [hl]
 rcases List.mem_append.1 hx with hx | hx
 ·exact ClO.up (w3 q b o x hx) (by decide)
 ·rw [List.mem_singleton] at hx
  subst hx
  exact .cells (.cons (.aloc (by decide)) .nil)
theorem zrg {av : List D} {L : List Ob} {KP : D → Prop} {KW : D → List Ob → Prop} (q : List zl) (b : Bld) (o : Out) (k : Nat) (x y : zp) (hx : b.items[k]? = some x) (hL : L = eO q b o ++ [zgm b k]) (has : av = [xn y, .loc 7 0])
  (hK : KW (.bool (y.kind == 9 && y.pool == x.pool)) L) : zn Tryz.prog j0 av L KP KW := by
 subst has
 refine wM zj Tryz.func128 rfl (by decide) (.bool (y.kind == 9 && y.pool == x.pool)) L (Nat.le_refl _) (by simp [Tryz.f128]) (fun E hE => ?_) hK
 subst hL
 have hxn : b.items[((k : Nat) : Int).toNat]? = some x := by rw [Int.toNat_natCast]; exact hx
 refine ze _ ?_
 (all_goals refine qgp ?_ <;> (repeat' first | exact trivial | intro hc | refine And.intro ?_ ?_) <;> refine Lf.mk ?_)
 ·refine zk x (Int.natCast_nonneg k) hxn ?_
  (all_goals refine qgp (Lf.mk ?_))
  have he : (y.kind == 9 && y.pool == x.pool) = (y.pool == x.pool) := by rw [hc]; simp
  rw [he]
  exact vU (eO q b o ++ [zgm b k]) [_] rfl (Nat.le_refl _) .bool (zsP q b o k)
 ·have he : (y.kind == 9 && y.pool == x.pool) = false := by simp [hc]
  rw [he]
  exact v6 (.ff rfl) (vU (eO q b o ++ [zgm b k]) [_] rfl (Nat.le_refl _) .bool (zsP q b o k)) (Nat.le_refl _)
structure znM (b : Bld) (x : zp) : Prop where
 size : wH b.shut x
 lo : 0 ≤ x.at_
 hi : x.at_ ≤ 100000000
 idx : 0 ≤ x.idx ∧ x.idx ≤ 100000000
 pool : x.kind = 6 → 0 ≤ znv x.pool b.items 0
def emB (b : Bld) (o : Out) (x : zp) : Out := vO b.shut b.items b.syms o x
attribute [local irreducible] wv wb
theorem zpf : za Tryz.prog zfZ (ya (fun ((b, o, k, x, _) : Bld × Out × Nat × zp × List zl) => b.has = false ∧ b.items[k]? = some x ∧ (∀ y ∈ b.items, znM b y) ∧ b.items.length ≤ 1000000 ∧ b.syms.length ≤ 1000000 ∧ o.code.length ≤ 400000000 ∧ o.rels.length ≤ 400000000) (fun (b, _, k, _, _) => [.loc 0 0, .aloc 1 b.items.length k 0])
  (fun (b, o, _, _, q) => eO q b o) (fun _ => .tup []) fun (b, o, _, x, q) => eO q b (emB b o x)) := by
 refine zf zj Tryz.func90 rfl (by decide) ?_
 rintro ⟨b, o, k, x, q⟩ ⟨hh, hx, hin, hil, hsl, hcl, hrl⟩
 have hh : b.has = false := hh
 have hx : b.items[k]? = some x := hx
 have hin : ∀ y ∈ b.items, znM b y := hin
 have hil : b.items.length ≤ 1000000 := hil
 have hsl : b.syms.length ≤ 1000000 := hsl
 have hcl : o.code.length ≤ 400000000 := hcl
 have hrl : o.rels.length ≤ 400000000 := hrl
 have hxe := hin x (List.mem_of_getElem? hx)
 obtain ⟨⟨hs8, hs7, hs9, hsp⟩, hlo, hhi, ⟨hi0, hi1⟩, hpool⟩ := hxe
 have hxn : b.items[((k : Nat) : Int).toNat]? = some x := by rw [Int.toNat_natCast]; exact hx
 refine ⟨Nat.le_refl _, by simp [Tryz.f90], fun E hE => ?_⟩
 have hE7 : E.L.length = 7 := by rw [hE]; rfl
 show AWP _ _ _ _ (vQ _ _ _ _ (eO q b (emB b o x))) _ (eO q b o)
 have hH : emB b o x = if x.kind = 7 then (if x.at_ % x.size ≠ 0 then vN o 11 x.line else wb b.syms o x.val x.size.toNat)
  else if x.kind = 8 then wv o (upA x.at_ x.size)
  else if x.kind = 9 then ((b.shut[x.pool.toNat]?).getD []).foldl (fun o v => wb b.syms o v 4) (wv o (upA x.at_ 4))
  else if x.at_ % 2 ≠ 0 then vN o 11 x.line
  else if x.kind = 1 then xy o x.ins x.line
  else if x.kind = 6 then xS o x.ins x.at_ (upA (itA b.items (znv x.pool b.items 0)).at_ 4 + 4 * x.idx) x.line
  else if (zV b.syms x.val).2 ≠ 0 then vN o (zV b.syms x.val).2 x.line
  else if x.kind = 2 then qo o x (zV b.syms x.val).1
  else xS o x.ins x.at_ (zV b.syms x.val).1 x.line := rfl
 generalize emB b o x = H at *
 refine ze _ ?_
 (all_goals refine qgp (Lf.mk ?_))
 refine zk x (Int.natCast_nonneg k) hxn ?_
 (all_goals refine qgp ?_ <;> (repeat' first | exact trivial | intro hc | refine And.intro ?_ ?_) <;> refine Lf.mk ?_)
 ·rw [if_pos hc] at hH
  have h7 := hs7 hc
  refine zk x (Int.natCast_nonneg k) hxn ?_
  (all_goals refine qgp (Lf.mk ?_))
  refine zk x (Int.natCast_nonneg k) hxn ?_
  (all_goals refine qgp ?_ <;> (repeat' first | exact trivial | intro hc | refine And.intro ?_ ?_) <;> refine Lf.mk ?_)
  ·rw [if_pos hc] at hH
   refine zk x (Int.natCast_nonneg k) hxn ?_
   (all_goals refine qgp (Lf.mk ?_))
   refine zad q b o 11 x.line [_] rfl rfl ?_
   rw [← hH]
   (all_goals refine qgp (Lf.mk ?_))
   exact xY [_] rfl rfl rfl (Nat.le_of_eq rfl) .tup0
  ·rw [if_neg (fun h => h hc)] at hH
   refine zk x (Int.natCast_nonneg k) hxn ?_
   (all_goals refine qgp (Lf.mk ?_))
   refine zk x (Int.natCast_nonneg k) hxn ?_
   (all_goals refine qgp (Lf.mk ?_))
   refine zk2 q b o x.val x.size.toNat [_] hsl (by omega) (by omega) (by omega) (by omega) rfl (LeL.of_eq (by rw [Int.toNat_of_nonneg (by omega)]; rfl)) ?_
   rw [← hH]
   (all_goals refine qgp (Lf.mk ?_))
   exact xY [_] rfl rfl rfl (Nat.le_of_eq rfl) .tup0
 ·rw [if_neg (by assumption), if_pos hc] at hH
  have h8 := hs8 hc
  have hu := jc (n := x.at_) h8.1
  refine zk x (Int.natCast_nonneg k) hxn ?_
  (all_goals refine qgp (Lf.mk ?_))
  refine zk x (Int.natCast_nonneg k) hxn ?_
  (all_goals refine qgp (Lf.mk ?_))
  refine zb zcF (x.at_, x.size) ⟨hlo, by show x.at_ ≤ _; omega, h8.1, by show x.size ≤ _; omega⟩ (VS.mk (LeL.of_eq rfl)) ?_
  (all_goals refine qgp (Lf.mk ?_))
  refine zk1 q b o (upA x.at_ x.size) [_] (by omega) (by omega) rfl rfl ?_
  rw [← hH]
  (all_goals refine qgp (Lf.mk ?_))
  exact xY [_] rfl rfl rfl (Nat.le_of_eq rfl) .tup0
 ·rw [if_neg (by assumption), if_neg (by assumption), if_pos hc] at hH
  have h9 := hs9 hc
  have hu := jc (n := x.at_) (k := 4) (by decide)
  have hpl : zM b = b.shut.map y9 := by unfold zM; rw [hh]
  have hlt : x.pool.toNat < b.shut.length := by omega
  have hgp : b.shut[x.pool.toNat]? = some ((b.shut[x.pool.toNat]?).getD []) := by rw [List.getElem?_eq_getElem hlt]; rfl
  have hpm := hsp _ (List.mem_of_getElem? hgp)
  generalize (b.shut[x.pool.toNat]?).getD [] = p at *
  refine zk x (Int.natCast_nonneg k) hxn ?_
  (all_goals refine qgp (Lf.mk ?_))
  refine zb zcF (x.at_, 4) ⟨hlo, by show x.at_ ≤ _; omega, by decide, by decide⟩ (VS.mk (LeL.of_eq rfl)) ?_
  (all_goals refine qgp (Lf.mk ?_))
  refine zk1 q b o (upA x.at_ 4) [_] (by omega) (by omega) rfl rfl ?_
  have hfl := zv9 (o := o) (to := upA x.at_ 4) (m := 400000000) hcl (by omega)
  have hfr := zgk o (upA x.at_ 4)
  generalize wv o (upA x.at_ 4) = o1 at *
  (all_goals refine qgp (Lf.mk ?_))
  refine zk x (Int.natCast_nonneg k) hxn ?_
  (all_goals refine qgp (Lf.mk ?_))
  refine xd ⟨h9.1, by rw [hpl, List.length_map]; exact h9.2⟩ ?_
  (all_goals refine qgp (Lf.mk ?_))
  refine xd (by rw [hpl]) ?_
  refine VS.mk ?_
  refine zk (enc := y9) (l := b.shut) (n := ((0 + x.pool.toNat : Nat) : Int)) p (Int.natCast_nonneg _) (by rw [Int.toNat_natCast, Nat.zero_add]; exact hgp) ?_
  (all_goals refine qgp (Lf.mk ?_))
  refine yN (α := Nat × Out) (fun r => r.1 ≤ p.length ∧ (p.drop r.1).foldl (fun o v => wb b.syms o v 4) r.2 = H ∧ r.2.code.length ≤ 400000000 + 4 * r.1 ∧ r.2.rels.length ≤ 400000000 + r.1)
   (fun r => [(0, .loc 0 0), (72, .sl 2 (p.map yI) none), (73, .int .i64 p.length), (74, .int .i64 r.1)]) (fun r => eO q b r.2) (fun r => p.length - r.1) (fun _ => by rw [hE7]; exact Nat.le_refl 7) (0, o1) ⟨Nat.zero_le _, hH.symm, by dsimp only; omega, by dsimp only; rw [hfr]; omega⟩ ?_ ?_
  ·exact zhW (eO q b o1) [zgm b k] rfl (by rw [hE7]; exact Nat.le_refl 7) (w3 _ _ _) ⟨rfl, rfl, rfl, rfl, trivial⟩ (.cons (.loc (Nat.lt_of_lt_of_le (by decide : 0 < 7) (Nat.le_of_eq rfl))) (.cons .sl (.cons .int (.cons .int .nil))))
  rintro ⟨j, o2⟩ ⟨j1, j2, j3, j4⟩
  dsimp only at j1 j2 j3 j4 ⊢
  refine ze _ ?_
  (all_goals refine qgp ?_ <;> (repeat' first | exact trivial | intro hc | refine And.intro ?_ ?_) <;> refine Lf.mk ?_)
  ·obtain ⟨v, hv⟩ := yf (l := p) (k := j) (by omega)
   have hjl : j < p.length := by omega
   have hgv : p[j] = v := by rw [List.getElem?_eq_getElem hjl] at hv; exact Option.some.inj hv
   rw [List.drop_eq_getElem_cons hjl, hgv, List.foldl_cons] at j2
   have hwl := zdp b.syms o2 v 4
   have hwr := zgl b.syms o2 v 4
   refine zk v (by omega) (by simpa using hv) ?_
   (all_goals refine qgp (Lf.mk ?_))
   refine zk2 q b o2 v 4 [_] hsl (by omega) (by omega) (by decide) (by decide) rfl (LeL.of_eq rfl) ?_
   generalize wb b.syms o2 v 4 = o3 at *
   (all_goals refine qgp (Lf.mk ?_))
   exact w8 (j + 1, o3) [_] ⟨by show j + 1 ≤ _; omega, j2, by dsimp only; omega, by dsimp only; omega⟩ (by dsimp only; omega) rfl (by rw [hE7]; exact Nat.le_refl 7) (w3 _ _ _) ⟨rfl, rfl, rfl, rfl, trivial⟩
    (.cons (.loc (Nat.lt_of_lt_of_le (by decide : 0 < 7) (Nat.le_of_eq rfl))) (.cons .sl (.cons .int (.cons .int .nil))))
  ·have hj : j = p.length := by omega
   rw [hj, List.drop_length] at j2
   exact xY [] rfl j2 rfl (Nat.le_of_eq rfl) .tup0
 ·rw [if_neg (by assumption), if_neg (by assumption), if_neg hc] at hH
  refine zk x (Int.natCast_nonneg k) hxn ?_
  (all_goals refine qgp ?_ <;> (repeat' first | exact trivial | intro hc | refine And.intro ?_ ?_) <;> refine Lf.mk ?_)
  ·rw [if_pos hc] at hH
   refine zk x (Int.natCast_nonneg k) hxn ?_
   (all_goals refine qgp (Lf.mk ?_))
   refine zad q b o 11 x.line [_] rfl rfl ?_
   rw [← hH]
   (all_goals refine qgp (Lf.mk ?_))
   exact xY [_] rfl rfl rfl (Nat.le_of_eq rfl) .tup0
  ·rw [if_neg (fun h => h hc)] at hH
   refine zk x (Int.natCast_nonneg k) hxn ?_
   (all_goals refine qgp ?_ <;> (repeat' first | exact trivial | intro hc | refine And.intro ?_ ?_) <;> refine Lf.mk ?_)
   ·rw [if_pos hc] at hH
    refine zk x (Int.natCast_nonneg k) hxn ?_
    (all_goals refine qgp (Lf.mk ?_))
    refine zk x (Int.natCast_nonneg k) hxn ?_
    (all_goals refine qgp (Lf.mk ?_))
    refine zdn q b o x.ins x.line [_] (by omega) rfl (LeL.of_eq rfl) ?_
    rw [← hH]
    (all_goals refine qgp (Lf.mk ?_))
    exact xY [_] rfl rfl rfl (Nat.le_of_eq rfl) .tup0
   ·rw [if_neg (by assumption), if_pos hc] at hH
    have hp6 := hpool hc
    have hpos := zb1 (fun y : zp => y.kind == 9 && y.pool == x.pool) b.items 0
    have hidx : znv x.pool b.items 0 = xC (fun y : zp => y.kind == 9 && y.pool == x.pool) b.items 0 := rfl
    rw [hidx] at hp6 hH
    refine zsA j0 [.loc 7 0] (fun y => y.kind == 9 && y.pool == x.pool) b.items (.cells (eC q b o)) [.arr 2 (b.syms.map yK), .spare b.marks.length, .arr 1 (b.shut.map y9), .spare o.rels.length, .spare o.code.length, zgm b k] (by omega) rfl rfl
     (fun y hy KP KW hK => zrg q b o k x y hx rfl rfl hK) ?_
    generalize xC (fun y : zp => y.kind == 9 && y.pool == x.pool) b.items 0 = z at *
    have hz : z.toNat < b.items.length := by
     rcases hpos with h | ⟨j, h1, h2⟩
     ·omega
     ·rw [h2, Int.toNat_natCast, Nat.zero_add]; exact h1
    have hit : b.items[z.toNat]? = some (itA b.items z) := by unfold itA; rw [List.getElem?_eq_getElem hz]; rfl
    have hie := hin _ (List.mem_of_getElem? hit)
    have hilo := hie.lo
    have hihi := hie.hi
    have hu := jc (n := (itA b.items z).at_) (k := 4) (by decide)
    (all_goals refine qgp (Lf.mk ?_))
    refine zk x (Int.natCast_nonneg k) hxn ?_
    (all_goals refine qgp (Lf.mk ?_))
    refine zk x (Int.natCast_nonneg k) hxn ?_
    (all_goals refine qgp (Lf.mk ?_))
    refine zk (itA b.items z) (Int.natCast_nonneg _) (by rw [Int.toNat_natCast, Nat.zero_add]; exact hit) ?_
    (all_goals refine qgp (Lf.mk ?_))
    refine zb zcF ((itA b.items z).at_, 4) ⟨hilo, by show (itA b.items z).at_ ≤ _; omega, by decide, by decide⟩ (VS.mk (LeL.of_eq rfl)) ?_
    (all_goals refine qgp (Lf.mk ?_))
    refine zk x (Int.natCast_nonneg k) hxn ?_
    (all_goals refine qgp (Lf.mk ?_))
    refine zk x (Int.natCast_nonneg k) hxn ?_
    (all_goals refine qgp (Lf.mk ?_))
    refine zdo q b o x.ins x.at_ (upA (itA b.items z).at_ 4 + 4 * x.idx) x.line [_] (by omega) hlo (by omega) rfl (LeL.of_eq rfl) ?_
    rw [← hH]
    (all_goals refine qgp (Lf.mk ?_))
    exact xY [_] rfl rfl rfl (Nat.le_of_eq rfl) .tup0
   ·rw [if_neg (by assumption), if_neg hc] at hH
    refine zk x (Int.natCast_nonneg k) hxn ?_
    (all_goals refine qgp (Lf.mk ?_))
    refine znL q b o x.val [_] hsl rfl rfl ?_
    generalize zV b.syms x.val = T at *
    (all_goals refine qgp ?_ <;> (repeat' first | exact trivial | intro hc | refine And.intro ?_ ?_) <;> refine Lf.mk ?_)
    ·rw [if_pos hc] at hH
     refine zk x (Int.natCast_nonneg k) hxn ?_
     (all_goals refine qgp (Lf.mk ?_))
     refine zad q b o T.2 x.line [_] rfl rfl ?_
     rw [← hH]
     (all_goals refine qgp (Lf.mk ?_))
     exact xY [_] rfl rfl rfl (Nat.le_of_eq rfl) .tup0
    ·rw [if_neg (fun h => h hc)] at hH
     refine zk x (Int.natCast_nonneg k) hxn ?_
     (all_goals refine qgp ?_ <;> (repeat' first | exact trivial | intro hc | refine And.intro ?_ ?_) <;> refine Lf.mk ?_)
     ·rw [if_pos hc] at hH
      refine zsO q b o k x T.1 [_] (by omega) hx hlo (by omega) rfl rfl ?_
      rw [← hH]
      (all_goals refine qgp (Lf.mk ?_))
      exact xY [_] rfl rfl rfl (Nat.le_of_eq rfl) .tup0
     ·rw [if_neg hc] at hH
      refine zk x (Int.natCast_nonneg k) hxn ?_
      (all_goals refine qgp (Lf.mk ?_))
      refine zk x (Int.natCast_nonneg k) hxn ?_
      (all_goals refine qgp (Lf.mk ?_))
      refine zk x (Int.natCast_nonneg k) hxn ?_
      (all_goals refine qgp (Lf.mk ?_))
      refine zdo q b o x.ins x.at_ T.1 x.line [_] (by omega) hlo (by omega) rfl (LeL.of_eq rfl) ?_
      rw [← hH]
      (all_goals refine qgp (Lf.mk ?_))
      exact xY [_] rfl rfl rfl (Nat.le_of_eq rfl) .tup0
end Go.Proofs.YtnkdeacghopkiaaGreatDoor
namespace Go.Proofs.YtnkdeacghopkiaaGreatDoor
open Go Go.Plat
set_option linter.unusedVariables false
set_option linter.unusedSimpArgs false
set_option maxRecDepth 100000
set_option maxHeartbeats 2000000
attribute [local irreducible] AWP zA yh zE zn yu z6 zF zX Lib.itoa zY zq za zL yv zo zZ yq yr yj ym zr zu xp zz xl w0 wo yH xQ wK yy
def zkk (h : Bool) : Int := match h with | true => 1 | false => 0
structure znN (n : Nat) (h : Bool) (x : zp) : Prop where
 al : x.kind = 8 → 0 < x.size ∧ x.size ≤ 16
 da : x.kind = 7 → 0 < x.size ∧ x.size ≤ 4
 po : x.kind = 9 → 0 ≤ x.pool ∧ x.pool < n
 li : x.kind = 6 → 0 ≤ x.pool ∧ x.pool < n + zkk h
 ix : 0 ≤ x.idx ∧ x.idx ≤ 1000000
structure OkB (T : Nat) (b : Bld) : Prop where
 its : ∀ x ∈ b.items, znN b.shut.length b.has x
 put : ∀ j : Nat, j < b.shut.length → ∃ x ∈ b.items, x.kind = 9 ∧ x.pool = j
 len : b.marks.length = b.syms.length
 pos : ∀ m ∈ b.marks, 0 ≤ m
 shl : ∀ p ∈ b.shut, p.length ≤ T
theorem OkB.fail {T : Nat} {b : Bld} (h : OkB T b) (e line : Int) : OkB T (yG b e line) := by
 unfold yG
 split
 ·exact ⟨h.its, h.put, h.len, h.pos, h.shl⟩
 ·exact h
theorem OkB.set {T : Nat} {b : Bld} (h : OkB T b) (s : RB) : OkB T (xJ b s) := ⟨h.its, h.put, h.len, h.pos, h.shl⟩
theorem OkB.puts {T : Nat} {b : Bld} (h : OkB T b) {x : zp} (hx : znN b.shut.length b.has x) : OkB T (xt b x) :=
 ⟨fun y hy => by
   rcases List.mem_append.1 hy with hy | hy
   ·exact h.its y hy
   ·rw [List.mem_singleton] at hy; subst hy; exact hx,
 fun j hj => by obtain ⟨y, h1, h2⟩ := h.put j hj; exact ⟨y, List.mem_append_left _ h1, h2⟩, h.len, h.pos, h.shl⟩
theorem OkB.label {T : Nat} {q : List zl} {b : Bld} (h : OkB T b) (t : zH) (line : Int) : OkB T (xN q b t line) := by
 unfold xN
 split
 ·exact h.fail _ _
 ·refine ⟨h.its, h.put, by simp [h.len], fun m hm => ?_, h.shl⟩
  rcases List.mem_append.1 hm with hm | hm
  ·exact h.pos m hm
  ·rw [List.mem_singleton] at hm; subst hm; omega
theorem zut {n : Nat} {h : Bool} {x : zp} (h8 : x.kind ≠ 8) (h7 : x.kind ≠ 7) (h9 : x.kind ≠ 9) (h6 : x.kind ≠ 6) (hi : x.idx = 0) : znN n h x :=
 ⟨fun e => absurd e h8, fun e => absurd e h7, fun e => absurd e h9, fun e => absurd e h6, by omega⟩
theorem zwa {n : Nat} {h : Bool} {size line : Int} {v : zw} (hs : size = 1 ∨ size = 2 ∨ size = 4) : znN n h ⟨7, 0, line, noI, false, size, v, 0, 0⟩ :=
 ⟨fun e => absurd e (by dsimp only; decide), fun _ => by dsimp only; omega, fun e => absurd e (by dsimp only; decide), fun e => absurd e (by dsimp only; decide), by dsimp only; decide⟩
theorem OkB.dat {T : Nat} {b : Bld} (h : OkB T b) {size : Int} (hs : size = 1 ∨ size = 2 ∨ size = 4) (line : Int) (o : AOp) : OkB T (va size line b o) := by
 unfold va
 refine OkB.puts ?_ (zwa hs)
 repeat' split
 all_goals first | exact h.fail _ _ | exact h
theorem OkB.datas {T : Nat} {size : Int} (hs : size = 1 ∨ size = 2 ∨ size = 4) {line : Int} : ∀ (l : List AOp) {b : Bld}, OkB T b → OkB T (l.foldl (va size line) b)
 | [], b, h => h
 | o :: l, b, h => OkB.datas hs l (h.dat hs line o)
theorem OkB.data {T : Nat} {b : Bld} (h : OkB T b) {size : Int} (hs : size = 1 ∨ size = 2 ∨ size = 4) (l : List AOp) (line : Int) : OkB T (jk b size l line) := by
 unfold jk
 refine OkB.datas hs l ?_
 split
 ·exact h.fail _ _
 ·exact h
theorem OkB.align {T : Nat} {b : Bld} (h : OkB T b) (l : List AOp) (line : Int) : OkB T (qZ b l line) := by
 unfold qZ
 split
 ·exact h.fail _ _
 split
 ·exact h.fail _ _
 ·rename_i hn
  exact h.puts ⟨fun _ => by dsimp only; omega, fun e => absurd e (by dsimp only; decide), fun e => absurd e (by dsimp only; decide), fun e => absurd e (by dsimp only; decide), by dsimp only; decide⟩
theorem OkB.pool {T : Nat} {b : Bld} (h : OkB T b) (hc : b.cur.length ≤ T) (line : Int) : OkB T (vM b line) := by
 unfold vM
 split
 ·rename_i hh
  have hl : (b.shut ++ [b.cur]).length = b.shut.length + 1 := by simp
  refine ⟨fun x hx => ?_, fun j hj => ?_, h.len, h.pos, fun p hp => ?_⟩
  ·dsimp only at hx ⊢
   rw [hl]
   rcases List.mem_append.1 hx with hx | hx
   ·have := h.its x hx
    refine ⟨this.al, this.da, fun e => ?_, fun e => ?_, this.ix⟩
    ·have := this.po e; omega
    ·have := this.li e
     rw [hh] at this
     have h1 : zkk true = 1 := rfl
     have h0 : zkk false = 0 := rfl
     rw [h1] at this
     rw [h0]
     omega
   ·rw [List.mem_singleton] at hx
    subst hx
    exact ⟨fun e => absurd e (by dsimp only; decide), fun e => absurd e (by dsimp only; decide), fun _ => by dsimp only; omega, fun e => absurd e (by dsimp only; decide), by dsimp only; decide⟩
  ·have hj : j < (b.shut ++ [b.cur]).length := hj
   rw [hl] at hj
   by_cases hjn : j < b.shut.length
   ·obtain ⟨y, h1, h2⟩ := h.put j hjn
    exact ⟨y, List.mem_append_left _ h1, h2⟩
   ·refine ⟨⟨9, 0, line, noI, false, 0, noV, b.shut.length, 0⟩, List.mem_append_right _ (List.mem_singleton.2 rfl), rfl, ?_⟩
    show ((b.shut.length : Nat) : Int) = j
    omega
  ·rcases List.mem_append.1 hp with hp | hp
   ·exact h.shl p hp
   ·rw [List.mem_singleton] at hp; subst hp; exact hc
 ·exact h
theorem zsQ (b : Bld) (line : Int) : (vM b line).has = false := by
 unfold vM
 split
 ·rfl
 ·rename_i h
  cases hb : b.has with
  | true => exact absurd hb h
  | false => rfl
theorem zpU (v : zw) : ∀ (l : List zw) (k : Nat), wo v l k ≤ k + l.length
 | [], k => by rw [wo]; simp
 | x :: l, k => by
  rw [wo]
  split
  ·simp; omega
  ·have := zpU v l (k + 1)
   simp only [List.length_cons]; omega
theorem OkB.lit {T : Nat} {b : Bld} (h : OkB T b) (hc : b.cur.length ≤ 1000000) (v : zw) (reg line : Int) : OkB T (kE b v reg line) := by
 have hs : 0 ≤ w2 v b.cur ∧ w2 v b.cur ≤ 1000000 := by
  have := zpU v b.cur 0
  unfold w2
  split
  ·omega
  ·omega
 have h1 : zkk true = 1 := rfl
 have hb : OkB T { b with has := true, cur := w1 v b.cur } := by
  refine ⟨fun x hx => ?_, h.put, h.len, h.pos, h.shl⟩
  have := h.its x hx
  refine ⟨this.al, this.da, this.po, fun e => ?_, this.ix⟩
  have := this.li e
  dsimp only
  rw [h1]
  cases hb : b.has with
  | true => rw [hb, h1] at this; exact this
  | false =>
   rw [hb] at this
   have h0 : zkk false = 0 := rfl
   rw [h0] at this
   omega
 exact hb.puts ⟨fun e => absurd e (by dsimp only; decide), fun e => absurd e (by dsimp only; decide), fun e => absurd e (by dsimp only; decide), fun _ => by dsimp only; rw [h1]; omega, hs⟩
theorem zuu {n : Nat} {h : Bool} (op sh : Int) (l : List AOp) (line : Int) : znN n h (wS op sh l line) := by
 unfold wS
 repeat' split
 all_goals exact zut (by dsimp only; decide) (by dsimp only; decide) (by dsimp only; decide) (by dsimp only; decide) rfl
theorem OkB.instr {T : Nat} {b : Bld} (h : OkB T b) (hc : b.cur.length ≤ 1000000) (name : List UInt8) (l : List AOp) (line : Int) : OkB T (xq b name l line) := by
 unfold xq
 split
 ·exact h.lit hc _ _ _
 split
 ·exact h.fail _ _
 split
 ·exact h.fail _ _
 split
 ·exact h.puts (zuu _ _ _ _)
 ·exact h.fail _ _
theorem OkB.word {T : Nat} {b : Bld} (h : OkB T b) (hT : b.cur.length ≤ T) (hc : b.cur.length ≤ 1000000) (w : List UInt8) (l : List AOp) (line : Int) : OkB T (zgY b w l line) := by
 unfold zgY
 split
 ·exact h.data (by decide) _ _
 split
 ·exact h.data (by decide) _ _
 split
 ·exact h.data (by decide) _ _
 split
 ·exact h.align _ _
 split
 ·split
  ·exact h.fail _ _
  ·exact h.pool hT _
 ·exact h.instr hc _ _ _
theorem OkB.rest {T : Nat} {q : List zl} {b : Bld} (h : OkB T b) (hT : b.cur.length ≤ T) (hc : b.cur.length ≤ 1000000) (line : Int) (l : List zH) : OkB T (zdm q b line l) := by
 cases l with
 | nil => exact h
 | cons t r =>
  rw [zdm]
  split
  ·exact h
  split
  ·exact h.fail _ _
  split
  ·exact h.set _
  ·exact (h.set _).word hT hc _ _ _
theorem zpV {T : Nat} {q : List zl} {line : Int} : ∀ (l : List zH) {b : Bld}, OkB T b → OkB T (xa q line l b).1 ∧ (xa q line l b).1.cur = b.cur
 | [], b, h => by rw [xa]; exact ⟨h, rfl⟩
 | [t], b, h => by rw [xa]; exact ⟨h, rfl⟩
 | t :: c :: r, b, h => by
  rw [xa]
  split
  ·obtain ⟨h1, h2⟩ := zpV r (h.label (q := q) t line)
   refine ⟨h1, h2.trans ?_⟩
   unfold xN
   split
   ·unfold yG; split <;> rfl
   ·rfl
  ·exact ⟨h, rfl⟩
theorem OkB.line {T : Nat} {q : List zl} {b : Bld} (h : OkB T b) (hT : b.cur.length ≤ T) (hc : b.cur.length ≤ 1000000) (x : zy) : OkB T (xT q b x) := by
 obtain ⟨h1, h2⟩ := zpV (q := q) (line := x.pos) x.toks h
 exact h1.rest (by rw [h2]; exact hT) (by rw [h2]; exact hc) _ _
def ww : List zy → Nat
 | [] => 0
 | x :: l => x.toks.length + ww l
def b0 : Bld := ⟨[], [], [], [], false, [], 0, 0⟩
def xu (q : List zl) (l : List zy) (b : Bld) : Bld := l.foldl (xT q) b
def zaN (l : List zy) : Int := l.foldl (fun _ x => x.pos) 0
def noO : y8 := ⟨[], [], []⟩
def zkl (b : Bld) : y8 × Int × Int :=
 if b.fe ≠ 0 then (noO, b.fe, b.fa) else if 8000 < (yL b.shut b.marks ⟨b.items, b.syms⟩).2 then (noO, 4, 0)
 else if (vv b.shut (yL b.shut b.marks ⟨b.items, b.syms⟩).1.items (yL b.shut b.marks ⟨b.items, b.syms⟩).1.syms ⟨[], [], b.fe, b.fa⟩).fe ≠ 0
  then (noO, (vv b.shut (yL b.shut b.marks ⟨b.items, b.syms⟩).1.items (yL b.shut b.marks ⟨b.items, b.syms⟩).1.syms ⟨[], [], b.fe, b.fa⟩).fe,
   (vv b.shut (yL b.shut b.marks ⟨b.items, b.syms⟩).1.items (yL b.shut b.marks ⟨b.items, b.syms⟩).1.syms ⟨[], [], b.fe, b.fa⟩).fa)
 else (⟨(vv b.shut (yL b.shut b.marks ⟨b.items, b.syms⟩).1.items (yL b.shut b.marks ⟨b.items, b.syms⟩).1.syms ⟨[], [], b.fe, b.fa⟩).code, (yL b.shut b.marks ⟨b.items, b.syms⟩).1.syms,
  (vv b.shut (yL b.shut b.marks ⟨b.items, b.syms⟩).1.items (yL b.shut b.marks ⟨b.items, b.syms⟩).1.syms ⟨[], [], b.fe, b.fa⟩).rels⟩, 0, 0)
def x9 (q : List zl) (l : List zy) : y8 × Int × Int := zkl (vM (xu q l b0) (zaN l))
attribute [local irreducible] zg.kids zg.kind zg.n zg.name wr xr xe xy xm xN xS qo yD yY xo zh xg w2 zP zV w1 wb
def T4 : Ob := .cells [.nilsl, .nilsl, .nilsl]
def T5 : Ob := .cells [.int .i64 0, .int .i64 0]
def zye (q : List zl) : List D := [.sl 2 (q.map we) none, .nilsl, .nilsl, .nilsl, .nilsl, .int .i64 0, .nilsl, .nilsl, .nilsl, .int .i64 0, .int .i64 0]
theorem zrh {σ σ' : List (Nat × D)} (q : List zl) (h : zgP (zG [2, 3, 4, 5, 6, 7, 0, 1] 0) σ σ') : wg 0 σ [T4, T5, .cells (zye q)] σ' (bO q b0 ++ [T4, T5]) := by
 have key : zG [2, 3, 4, 5, 6, 7, 0, 1] 0 3 = some 1 := rfl
 refine xZ (zcp 2 13 [.sl 2 (q.map we) none, .osl 13 3 0 0 0, .nilsl, .nilsl, .nilsl, .int .i64 0, .nilsl, .nilsl, .nilsl, .int .i64 0, .int .i64 0] rfl ⟨.same, .here, .same, .same, .same, .same, .same, .same, .same, .same, .same, trivial⟩) ?_
 refine xZ (zcp 2 2 [.sl 2 (q.map we) none, .osl 13 3 0 0 0, .osl 2 4 0 0 0, .nilsl, .nilsl, .int .i64 0, .nilsl, .nilsl, .nilsl, .int .i64 0, .int .i64 0] rfl ⟨.same, .same, .here, .same, .same, .same, .same, .same, .same, .same, .same, trivial⟩) ?_
 refine xZ (w7 2 1 [.sl 2 (q.map we) none, .osl 13 3 0 0 0, .osl 2 4 0 0 0, .sl 1 [] (some 5), .nilsl, .int .i64 0, .nilsl, .nilsl, .nilsl, .int .i64 0, .int .i64 0] rfl ⟨.same, .same, .same, .here, .same, .same, .same, .same, .same, .same, .same, trivial⟩) ?_
 refine xZ (zcp 2 1 [.sl 2 (q.map we) none, .osl 13 3 0 0 0, .osl 2 4 0 0 0, .sl 1 [] (some 5), .osl 1 6 0 0 0, .int .i64 0, .nilsl, .nilsl, .nilsl, .int .i64 0, .int .i64 0] rfl ⟨.same, .same, .same, .same, .here, .same, .same, .same, .same, .same, .same, trivial⟩) ?_
 refine xZ zls ?_
 refine jY [2, 3, 4, 5, 6, 7, 0, 1] rfl rfl ?_ h
 refine .cons (o := .cells [.sl 2 (q.map we) none, .osl 13 3 0 0 0, .osl 2 4 0 0 0, .sl 1 [] (some 5), .osl 1 6 0 0 0, .int .i64 0, .nilsl, .nilsl, .nilsl, .int .i64 0, .int .i64 0]) rfl
  ⟨_, rfl, .cons (.flat .sl) (.cons (.osl rfl) (.cons (.osl rfl) (.cons (.tok rfl) (.cons (.osl rfl) (.cons (.flat .int) (.cons (.flat .nilsl) (.cons (.flat .nilsl) (.cons (.flat .nilsl) (.cons (.flat .int) (.cons (.flat .int) .nil))))))))))⟩
  (.cons (o := .arr 13 []) rfl ⟨_, rfl, rfl, by simp⟩ (.cons (o := .arr 2 []) rfl ⟨_, rfl, rfl, by simp⟩ (.cons (o := .spare 0) rfl rfl (.cons (o := .arr 1 []) rfl ⟨_, rfl, rfl, by simp⟩ (.cons (o := .dead) rfl rfl
  (.cons (o := T4) rfl ⟨_, rfl, .cons (.flat .nilsl) (.cons (.flat .nilsl) (.cons (.flat .nilsl) .nil))⟩ (.cons (o := T5) rfl ⟨_, rfl, .cons (.flat .int) (.cons (.flat .int) .nil)⟩ .nil)))))))
theorem zsR {av : List D} {L : List Ob} {KP : D → Prop} {KW : D → List Ob → Prop} (q : List zl) (b : Bld) (x : zy) (X : List Ob) (hr : yc b (1 + x.toks.length)) (hw : wt (x.toks.map tk) ≤ 1048576) (hq : q.length ≤ 1000000)
  (hL : L = bO q b ++ X) (has : av = [.loc 0 0, zS x])
  (hK1 : ((xT q b x).has = true → b.has = true) → KW (.tup []) (bO q (xT q b x) ++ X))
  (hK2 : b.has = false → (xT q b x).has = true → KW (.tup []) (bOn L.length q (xT q b x) ++ X ++ [.spare (xT q b x).cur.length])) : zn Tryz.prog zbg av L KP KW := by
 subst has
 have hcl : ClL (bO q b).length [.loc 0 0, zS x] := .cons (.loc (Nat.lt_of_lt_of_le (by decide : 0 < 6) (Nat.le_of_eq rfl))) (.cons (.agg (.cons .int (.cons .sl .nil))) .nil)
 by_cases h : b.has = false ∧ (xT q b x).has = true
 ·refine zfY zjj (bO q b) X (bOn 6 q (xT q b x)) (bOn L.length q (xT q b x)) (.spare (xT q b x).cur.length) (d := .tup []) hL ⟨(b, x, q), ⟨hr, hw, hq⟩, LeL.refl _, rfl, rfl, (zeX h.1 h.2).symm⟩ rfl rfl hcl .tup0 (xf _ _)
   (fun m hm hk => zg0 q _ (fun j hj => hm j (Nat.lt_of_lt_of_le hj (by decide : 5 ≤ 6))) hk) .spare (hK2 h.1 h.2)
 ·have hn : (xT q b x).has = true → b.has = true := fun e => by
   cases hb : b.has with
   | true => rfl
   | false => exact absurd ⟨hb, e⟩ h
  refine zhV zjj (bO q b) X (bO q (xT q b x)) (d := .tup []) hL ⟨(b, x, q), ⟨hr, hw, hq⟩, LeL.refl _, rfl, rfl, (zgZ hn).symm⟩ rfl hcl .tup0 (xf _ _) (xf _ _) (hK1 hn)
theorem zxn (q : List zl) (b : Bld) : ∀ x ∈ bO q b ++ [T4, T5], ClO (bO q b ++ [T4, T5]).length x := by
 intro x hx
 have hl : (bO q b ++ [T4, T5]).length = 8 := rfl
 rw [hl]
 rcases List.mem_append.1 hx with hx | hx
 ·exact ClO.up (xf q b x hx) (by decide)
 ·simp only [List.mem_cons, List.not_mem_nil, or_false] at hx
  rcases hx with rfl | rfl
  ·exact .cells (.cons .nilsl (.cons .nilsl (.cons .nilsl .nil)))
  ·exact .cells (.cons .int (.cons .int .nil))
theorem zxo (q : List zl) (b : Bld) (h : b.has = true) : bO q b = [.cells (bCk q b), .arr 13 (b.items.map xn), .arr 2 (b.syms.map yK), .spare b.marks.length, .arr 1 (b.shut.map y9 ++ [.sl 2 (b.cur.map yI) (some 5)]), .spare b.cur.length] := by
 have hp : zM b = b.shut.map y9 ++ [.sl 2 (b.cur.map yI) (some 5)] := by unfold zM; rw [h]
 have hc : zdJ b = .spare b.cur.length := by unfold zdJ; rw [h]
 have hb : bC q b = bCk q b := by unfold bC bCk; rw [hp]; simp
 unfold bO bT
 rw [hb, hp, hc]
theorem zsS {σ σ' : List (Nat × D)} (q : List zl) (b : Bld) (Y : Ob) (h : b.has = true) (hs : zgP (zG [0, 1, 2, 3, 4, 9, 6, 7] 0) σ σ') : wg 0 σ (bOn 9 q b ++ [T4, T5, Y] ++ [.spare b.cur.length]) σ' (bO q b ++ [T4, T5]) := by
 have key : ∀ k, k < 5 → zG [0, 1, 2, 3, 4, 9, 6, 7] 0 k = some k := by decide
 have hr := zg0 (m := zG [0, 1, 2, 3, 4, 9, 6, 7] 0) (k := 9) (k' := 5) q b key rfl
 rw [zxo q b h]
 refine jY [0, 1, 2, 3, 4, 9, 6, 7] rfl rfl ?_ hs
 exact .cons (o := .cells (bCk q b)) rfl (hr 0 _ _ rfl rfl) (.cons (o := .arr 13 (b.items.map xn)) rfl (hr 1 _ _ rfl rfl) (.cons (o := .arr 2 (b.syms.map yK)) rfl (hr 2 _ _ rfl rfl) (.cons (o := .spare b.marks.length) rfl (hr 3 _ _ rfl rfl)
  (.cons (o := .arr 1 (b.shut.map y9 ++ [.sl 2 (b.cur.map yI) (some 9)])) rfl (hr 4 _ _ rfl rfl) (.cons (o := .spare b.cur.length) rfl rfl
  (.cons (o := T4) rfl ⟨_, rfl, .cons (.flat .nilsl) (.cons (.flat .nilsl) (.cons (.flat .nilsl) .nil))⟩ (.cons (o := T5) rfl ⟨_, rfl, .cons (.flat .int) (.cons (.flat .int) .nil)⟩ .nil)))))))
theorem zhq (q : List zl) (x : zy) (l : List zy) (b : Bld) : xu q (x :: l) b = xu q l (xT q b x) := rfl
theorem zjl {q : List zl} : ∀ (l : List zy) {b : Bld} {k : Nat}, yc b (k + ww l) → yc (xu q l b) k
 | [], b, k, h => h
 | x :: l, b, k, h => zjl l (yc.line x (by rw [ww] at h; exact h.less (by omega)))
theorem znO {T : Nat} {q : List zl} (hT : T ≤ 1000000) : ∀ (l : List zy) {b : Bld}, yc b (1000000 - T + ww l) → OkB T b → OkB T (xu q l b)
 | [], b, _, h => h
 | x :: l, b, hr, h => by
  rw [ww] at hr
  have hc := hr.curl
  exact znO hT l (yc.line x (hr.less (by omega))) (h.line (by omega) (by omega) x)
theorem zri : yc b0 1000000 := ⟨by decide, by decide, by decide, by decide, by decide, fun _ => rfl⟩
theorem ok0 (T : Nat) : OkB T b0 := ⟨(fun x hx => by cases hx), fun j hj => absurd hj (Nat.not_lt_zero j), rfl, (fun m hm => by cases hm), (fun p hp => by cases hp)⟩
end Go.Proofs.YtnkdeacghopkiaaGreatDoor
namespace Go.Proofs.YtnkdeacghopkiaaGreatDoor
open Go Go.Plat
set_option linter.unusedVariables false
set_option linter.unusedSimpArgs false
set_option maxRecDepth 100000
set_option maxHeartbeats 2000000
attribute [local irreducible] AWP zA yh zE zn yu z6 zF zX Lib.itoa zY zq za zL yv zo zZ yq yr yj ym zr zu xp wr zz xr xl w0 wo xm yH xQ xo wK xg zV yy
structure Sim (x y : zp) : Prop where
 kind : y.kind = x.kind
 size : y.size = x.size
 pool : y.pool = x.pool
 idx : y.idx = x.idx
structure zbM (l m : List zp) : Prop where
 len : m.length = l.length
 from_ : ∀ y ∈ m, ∃ x ∈ l, Sim x y
 to_ : ∀ x ∈ l, ∃ y ∈ m, Sim x y
theorem zbM.refl (l : List zp) : zbM l l := ⟨rfl, fun y h => ⟨y, h, rfl, rfl, rfl, rfl⟩, fun y h => ⟨y, h, rfl, rfl, rfl, rfl⟩⟩
theorem Sim.trans {x y z : zp} (h : Sim x y) (k : Sim y z) : Sim x z := ⟨k.kind.trans h.kind, k.size.trans h.size, k.pool.trans h.pool, k.idx.trans h.idx⟩
theorem zbM.trans {a b c : List zp} (h : zbM a b) (k : zbM b c) : zbM a c :=
 ⟨k.len.trans h.len, fun z hz => by obtain ⟨y, h1, h2⟩ := k.from_ z hz; obtain ⟨x, h3, h4⟩ := h.from_ y h1; exact ⟨x, h3, h4.trans h2⟩,
   fun x hx => by obtain ⟨y, h1, h2⟩ := h.to_ x hx; obtain ⟨z, h3, h4⟩ := k.to_ y h1; exact ⟨z, h3, h2.trans h4⟩⟩
theorem zbM.cons {x y : zp} {l m : List zp} (h : Sim x y) (k : zbM l m) : zbM (x :: l) (y :: m) :=
 ⟨by simp [k.len], fun z hz => by
   rcases List.mem_cons.1 hz with rfl | hz
   ·exact ⟨x, List.mem_cons_self, h⟩
   ·obtain ⟨w, h1, h2⟩ := k.from_ z hz; exact ⟨w, List.mem_cons_of_mem _ h1, h2⟩,
 fun z hz => by
  rcases List.mem_cons.1 hz with rfl | hz
  ·exact ⟨y, List.mem_cons_self, h⟩
  ·obtain ⟨w, h1, h2⟩ := k.to_ z hz; exact ⟨w, List.mem_cons_of_mem _ h1, h2⟩⟩
theorem zk3 (pools : List (List zw)) : ∀ (l : List zp) (a : Int), zbM l (yC pools l a).1
 | [], a => .refl _
 | x :: l, a => by rw [yC]; exact .cons ⟨rfl, rfl, rfl, rfl⟩ (zk3 pools l _)
theorem znP (syms : List zC) : ∀ l : List zp, zbM l (l.map (y0 syms))
 | [] => .refl _
 | x :: l => .cons (by unfold y0; split <;> exact ⟨rfl, rfl, rfl, rfl⟩) (znP syms l)
theorem zsT {pools : List (List zw)} {x y : zp} (h : Sim x y) (k : wH pools x) : wH pools y :=
 ⟨fun e => by rw [h.size]; exact k.1 (by rw [← h.kind]; exact e), fun e => by rw [h.size]; exact k.2.1 (by rw [← h.kind]; exact e), fun e => by rw [h.pool]; exact k.2.2.1 (by rw [← h.kind]; exact e), k.2.2.2⟩
theorem zk4 {pools : List (List zw)} : ∀ (l : List zp) (a : Int), 0 ≤ a → (∀ x ∈ l, wH pools x) → a ≤ (yC pools l a).2 ∧ ∀ x ∈ (yC pools l a).1, 0 ≤ x.at_ ∧ x.at_ ≤ (yC pools l a).2
 | [], a, h0, _ => ⟨Int.le_refl a, fun x hx => by cases hx⟩
 | y :: l, a, h0, hs => by
  have hz := zkj (a := a) (hs y List.mem_cons_self) h0
  obtain ⟨h1, h2⟩ := zk4 l (a + xg pools y a) (by omega) (fun z hz => hs z (List.mem_cons_of_mem _ hz))
  rw [yC]
  refine ⟨by dsimp only; omega, fun x hx => ?_⟩
  rcases List.mem_cons.1 hx with rfl | hx
  ·exact ⟨h0, by dsimp only; omega⟩
  ·exact h2 x hx
structure zxp (pools : List (List zw)) (s : Lay) (R : Lay × Int) : Prop where
 sim : zbM s.items R.1.items
 syms : R.1.syms.length = s.syms.length
 at_ : ∀ x ∈ R.1.items, 0 ≤ x.at_ ∧ x.at_ ≤ R.2
theorem zjm {pools : List (List zw)} {marks : List Int} : ∀ (f : Nat) (s : Lay), wu s.items < f → (∀ x ∈ s.items, wH pools x) → zxp pools s (zcE pools marks f s)
 | 0, s, h, _ => absurd h (Nat.not_lt_zero _)
 | f + 1, s, h, hs => by
  have h1 := zk3 pools s.items 0
  have h2 := zk4 s.items 0 (Int.le_refl 0) hs
  have h3 := zcG pools s.items 0
  have h4 : (yO pools marks s).1.syms.length = s.syms.length := zb2 _ _ _ _
  have hP : (yO pools marks s).1.items = (yC pools s.items 0).1 := rfl
  have hE : (yO pools marks s).2 = (yC pools s.items 0).2 := rfl
  rw [zdK]
  generalize yO pools marks s = P at *
  rw [← hP] at h1 h2 h3
  rw [← hE] at h2
  clear hP hE
  have h5 := znP P.1.syms P.1.items
  have hgr := zeZ P.1.syms P.1.items
  have hat : ∀ x ∈ P.1.items.map (y0 P.1.syms), 0 ≤ x.at_ ∧ x.at_ ≤ P.2 := by
   intro x hx
   obtain ⟨y, hy, rfl⟩ := List.mem_map.1 hx
   have := h2.2 y hy
   unfold y0
   split
   ·exact this
   ·exact this
  have hso : ∀ x ∈ P.1.items.map (y0 P.1.syms), wH pools x := by
   intro x hx
   obtain ⟨y, hy, h6⟩ := (h1.trans h5).from_ x hx
   exact zsT h6 (hs y hy)
  split
  ·exact ⟨h1.trans h5, h4, hat⟩
  ·rename_i hn
   have hany : P.1.items.any (xK P.1.syms) = true := by
    cases hb : P.1.items.any (xK P.1.syms) with
    | true => rfl
    | false => exact absurd (.inl hb) hn
   have := hgr.2 hany
   have ih := zjm (pools := pools) (marks := marks) f ⟨P.1.items.map (y0 P.1.syms), P.1.syms⟩ (by show wu (P.1.items.map (y0 P.1.syms)) < f; omega) hso
   exact ⟨(h1.trans h5).trans ih.sim, ih.syms.trans h4, ih.at_⟩
theorem zk5 (syms : List zC) : ∀ (p : List zw) (o : Out), (p.foldl (fun o v => wb syms o v 4) o).code.length = o.code.length + 4 * p.length ∧ (p.foldl (fun o v => wb syms o v 4) o).rels.length ≤ o.rels.length + p.length
 | [], o => by simp
 | v :: p, o => by
  have h1 := zdp syms o v 4
  have h2 := zgl syms o v 4
  obtain ⟨h3, h4⟩ := zk5 syms p (wb syms o v 4)
  rw [List.foldl_cons]
  simp only [List.length_cons]
  omega
theorem kH (o : Out) (e line : Int) : (vN o e line).code = o.code ∧ (vN o e line).rels = o.rels := by unfold vN; split <;> exact ⟨rfl, rfl⟩
theorem zdq (o : Out) (i : Ins) (line : Int) : (xy o i line).rels = o.rels := by
 unfold xy
 split
 ·rfl
 ·exact (kH _ _ _).2
theorem zdr (o : Out) (i : Ins) (a to line : Int) : (xS o i a to line).rels = o.rels := by
 unfold xS
 split
 ·exact zdq _ _ _
 ·exact (kH _ _ _).2
theorem zuv (o : Out) (x : zp) (to : Int) : (qo o x to).code.length ≤ o.code.length + 6 ∧ (qo o x to).rels = o.rels := by
 unfold qo
 split
 ·exact ⟨by have := zcI o x.ins x.at_ to x.line; omega, zdr _ _ _ _ _⟩
 ·have h1 := zcH o ⟨w64 (35 - x.ins.op), 0, 0, 1⟩ x.line
  have h2 := zcI (xy o ⟨w64 (35 - x.ins.op), 0, 0, 1⟩ x.line) ⟨19, 0, 0, 0⟩ (x.at_ + 2) to x.line
  have h3 := zcH (xS (xy o ⟨w64 (35 - x.ins.op), 0, 0, 1⟩ x.line) ⟨19, 0, 0, 0⟩ (x.at_ + 2) to x.line) ⟨1, 0, 0, 0⟩ x.line
  exact ⟨by omega, by rw [zdq, zdr, zdq]⟩
theorem zk6 (o : Out) (to : Int) : (wv o to).code.length ≤ o.code.length + to.toNat := by
 unfold wv
 simp only [List.length_append, List.length_replicate]
 omega
theorem zsU {pools : List (List zw)} {items : List zp} {syms : List zC} {o : Out} {x : zp} (hs : wH pools x) (h0 : 0 ≤ x.at_) (h1 : x.at_ ≤ 8000) (hp : ∀ p ∈ pools, p.length ≤ 9000) :
  (vO pools items syms o x).code.length ≤ o.code.length + 44100 ∧ (vO pools items syms o x).rels.length ≤ o.rels.length + 9000 := by
 have hu4 := jc (n := x.at_) (k := 4) (by decide)
 unfold vO
 split
 ·rename_i h7
  have := hs.2.1 h7
  split
  ·rw [(kH _ _ _).1, (kH _ _ _).2]; omega
  ·have h2 := zdp syms o x.val x.size.toNat
   have h3 := zgl syms o x.val x.size.toNat
   omega
 split
 ·rename_i h8
  have := hs.1 h8
  have hu := jc (n := x.at_) this.1
  have h2 := zk6 o (upA x.at_ x.size)
  rw [zgk]
  omega
 split
 ·have h2 := zk6 o (upA x.at_ 4)
  have h3 := zk5 syms ((pools[x.pool.toNat]?).getD []) (wv o (upA x.at_ 4))
  rw [zgk] at h3
  have h4 : ((pools[x.pool.toNat]?).getD []).length ≤ 9000 := by
   cases hg : pools[x.pool.toNat]? with
   | none => simp
   | some p => exact hp p (List.mem_of_getElem? hg)
  omega
 split
 ·rw [(kH _ _ _).1, (kH _ _ _).2]; omega
 split
 ·have := zcH o x.ins x.line; rw [zdq]; omega
 split
 ·have := zcI o x.ins x.at_ (upA (itA items (znv x.pool items 0)).at_ 4 + 4 * x.idx) x.line; rw [zdr]; omega
 split
 ·rw [(kH _ _ _).1, (kH _ _ _).2]; omega
 split
 ·have := zuv o x (zV syms x.val).1; rw [this.2]; omega
 ·have := zcI o x.ins x.at_ (zV syms x.val).1 x.line; rw [zdr]; omega
theorem znQ {α : Type} (p : α → Bool) : ∀ (l : List α) (k : Nat), (∃ x ∈ l, p x = true) → 0 ≤ xC p l k
 | [], k, h => by obtain ⟨x, h, _⟩ := h; cases h
 | y :: l, k, h => by
  rw [xC]
  split
  ·omega
  ·rename_i hn
   obtain ⟨x, h1, h2⟩ := h
   rcases List.mem_cons.1 h1 with rfl | h1
   ·exact absurd h2 hn
   ·exact znQ p l (k + 1) ⟨x, h1, h2⟩
attribute [local irreducible] zg.kids zg.kind zg.n zg.name xe xy xN xS qo yD yY zh w2 zP w1 wb
theorem zrj (l : List zC) : zat (l.map yK) (l.map yK) := by
 refine ⟨rfl, fun i d d' h1 h2 => ?_⟩
 rw [h1] at h2
 cases h2
 simp only [List.getElem?_map, Option.map_eq_some_iff] at h1
 obtain ⟨c, _, rfl⟩ := h1
 refine ⟨rfl, rfl, fun j x x' h3 h4 => ?_⟩
 rw [h3] at h4
 cases h4
 match j, h3 with
 | 0, h3 =>
  cases h3
  intro w F ρ L v h
  cases h with | pure _ _ h => exact h
 | 1, h3 =>
  cases h3
  intro w F ρ L v h
  cases h with | pure _ _ h => exact h
 | j + 2, h3 => simp [yK, D.cells] at h3
theorem zuw {σ σ' : List (Nat × D)} (q : List zl) (items : List zp) (syms : List zC) (marks : List Int) (shut : List (List zw)) (cur : List zw) (fe fa : Int) (h : zgP (zG [0, 1, 2, 3, 4, 8, 9, 6, 7] 0) σ σ') :
  wg 0 σ (bO q ⟨items, syms, marks, shut, false, cur, fe, fa⟩ ++ [T4, T5]) σ' (eO q ⟨items, syms, marks, shut, false, cur, fe, fa⟩ ⟨[], [], fe, fa⟩ ++ [T4, T5]) := by
 have key : ∀ k, k < 5 → zG [0, 1, 2, 3, 4, 8, 9, 6, 7] 0 k = some k := by decide
 refine xZ (w7 0 4 [.sl 2 (q.map we) none, .osl 13 1 items.length 0 items.length, .osl 2 2 syms.length 0 syms.length, .sl 1 (marks.map (.int .i64)) (some 3), .osl 1 4 (zM ⟨items, syms, marks, shut, false, cur, fe, fa⟩).length 0 (zM ⟨items, syms, marks, shut, false, cur, fe, fa⟩).length,
  .int .i64 shut.length, .nilsl, .nilsl, .sl 4 [] (some 8), .int .i64 fe, .int .i64 fa] rfl ⟨.same, .same, .same, .same, .same, .same, .same, .same, .here, .same, .same, trivial⟩) ?_
 refine xZ (w7 0 1 [.sl 2 (q.map we) none, .osl 13 1 items.length 0 items.length, .osl 2 2 syms.length 0 syms.length, .sl 1 (marks.map (.int .i64)) (some 3), .osl 1 4 (zM ⟨items, syms, marks, shut, false, cur, fe, fa⟩).length 0 (zM ⟨items, syms, marks, shut, false, cur, fe, fa⟩).length,
  .int .i64 shut.length, .sl 1 [] (some 9), .nilsl, .sl 4 [] (some 8), .int .i64 fe, .int .i64 fa] rfl ⟨.same, .same, .same, .same, .same, .same, .here, .same, .same, .same, .same, trivial⟩) ?_
 refine jY [0, 1, 2, 3, 4, 8, 9, 6, 7] rfl rfl ?_ h
 exact .cons (o := .cells [.sl 2 (q.map we) none, .osl 13 1 items.length 0 items.length, .osl 2 2 syms.length 0 syms.length, .sl 1 (marks.map (.int .i64)) (some 3), .osl 1 4 (zM ⟨items, syms, marks, shut, false, cur, fe, fa⟩).length 0 (zM ⟨items, syms, marks, shut, false, cur, fe, fa⟩).length,
   .int .i64 shut.length, .sl 1 [] (some 9), .nilsl, .sl 4 [] (some 8), .int .i64 fe, .int .i64 fa]) rfl
  ⟨_, rfl, .cons (.flat .sl) (.cons (.osl rfl) (.cons (.osl rfl) (.cons (.tok rfl) (.cons (.osl rfl) (.cons (.flat .int) (.cons (.tok rfl) (.cons (.flat .nilsl) (.cons (.tok rfl) (.cons (.flat .int) (.cons (.flat .int) .nil))))))))))⟩
  (.cons (o := .arr 13 (items.map xn)) rfl (ClO.arr (n := 5) (kF _) _ key) (.cons (o := .arr 2 (syms.map yK)) rfl (ClO.arr (n := 5) (jJ _) _ key) (.cons (o := .spare marks.length) rfl rfl (.cons (o := .arr 1 (shut.map y9)) rfl (ClO.arr (n := 5) (zh7 _) _ key)
  (.cons (o := .spare 0) rfl rfl (.cons (o := .spare 0) rfl rfl
  (.cons (o := T4) rfl ⟨_, rfl, .cons (.flat .nilsl) (.cons (.flat .nilsl) (.cons (.flat .nilsl) .nil))⟩ (.cons (o := T5) rfl ⟨_, rfl, .cons (.flat .int) (.cons (.flat .int) .nil)⟩ .nil))))))))
theorem zgn (pools : List (List zw)) (items : List zp) (syms : List zC) (x : zp) (l : List zp) (o : Out) : (x :: l).foldl (fun o x => if o.fe = 0 then vO pools items syms o x else o) o = l.foldl (fun o x => if o.fe = 0 then vO pools items syms o x else o) (if o.fe = 0 then vO pools items syms o x else o) := rfl
theorem zhr : za Tryz.prog zoT (zx (fun ((l, q) : List zy × List zl) => ww l ≤ 9000 ∧ (∀ x ∈ l, wt (x.toks.map tk) ≤ 1048576) ∧ q.length ≤ 1000000 ∧ l.length ≤ 1000000) (fun (l, q) => [.sl 2 (l.map zS) none, .sl 2 (q.map we) none])
  fun (l, q) => .tup [qS (x9 q l).1, .agg [.int .i64 (x9 q l).2.1, .int .i64 (x9 q l).2.2]]) := by
 refine zf zj Tryz.func67 rfl (by decide) ?_
 rintro ⟨l, q⟩ ⟨ht, hw, hq, hll⟩
 have ht : ww l ≤ 9000 := ht
 have hw : ∀ x ∈ l, wt (x.toks.map tk) ≤ 1048576 := hw
 have hq : q.length ≤ 1000000 := hq
 have hll : l.length ≤ 1000000 := hll
 refine ⟨Nat.le_refl _, by simp [Tryz.f67], fun E hE => ?_⟩
 have hE0 : E.L.length = 0 := by rw [hE]; rfl
 show AWP _ _ _ _ (vQ _ _ _ (.tup [qS (x9 q l).1, .agg [.int .i64 (x9 q l).2.1, .int .i64 (x9 q l).2.2]]) []) _ []
 refine wj (ze _ ?_)
 (all_goals refine qgp (Lf.mk ?_))
 refine wj (ze _ ?_)
 (all_goals refine qgp (Lf.mk ?_))
 refine wj (ze _ ?_)
 (all_goals refine qgp (Lf.mk ?_))
 refine zd4 (α := Unit) (fun _ => True) (fun _ => [(4, .loc 6 0), (5, .loc 7 0), (6, .loc 0 0), (7, .int .i64 (zaN l))]) (fun _ => bO q (xu q l b0) ++ [T4, T5]) ?_ ?_
 ·refine ze _ ?_
  (all_goals refine qgp (Lf.mk ?_))
  refine yN (α := Nat × Bld × Int) (fun p => p.1 ≤ l.length ∧ xu q (l.drop p.1) p.2.1 = xu q l b0 ∧ (l.drop p.1).foldl (fun _ x => x.pos) p.2.2 = zaN l ∧ yc p.2.1 (1 + ww (l.drop p.1)))
   (fun p => [(4, .loc 6 0), (5, .loc 7 0), (6, .loc 0 0), (7, .int .i64 p.2.2), (14, .sl 2 (l.map zS) none), (15, .int .i64 l.length), (16, .int .i64 p.1)]) (fun p => bO q p.2.1 ++ [T4, T5]) (fun p => l.length - p.1) (fun _ => by rw [hE0]; exact Nat.zero_le _) (0, b0, 0)
   ⟨Nat.zero_le _, rfl, rfl, zri.less (by show 1 + ww l ≤ _; omega)⟩ ?_ ?_
  ·rw [hE0]
   exact zrh q ⟨.loc rfl, .loc rfl, .loc rfl, .flat .int, .flat .sl, .flat .int, .flat .int, trivial⟩
  rintro ⟨k, b, la⟩ ⟨i1, i2, i3, i4⟩
  dsimp only at i1 i2 i3 i4 ⊢
  refine ze _ ?_
  (all_goals refine qgp ?_ <;> (repeat' first | exact trivial | intro hc | refine And.intro ?_ ?_) <;> refine Lf.mk ?_)
  ·obtain ⟨x, hx⟩ := yf (l := l) (k := k) (by omega)
   have hkl : k < l.length := by omega
   have hgx : l[k] = x := by rw [List.getElem?_eq_getElem hkl] at hx; exact Option.some.inj hx
   rw [List.drop_eq_getElem_cons hkl, hgx] at i2 i3 i4
   rw [zhq] at i2
   rw [List.foldl_cons] at i3
   rw [ww] at i4
   have hr' : yc (xT q b x) (1 + ww (l.drop (k + 1))) := yc.line x (i4.less (by omega))
   refine zk x (by omega) (by simpa using hx) ?_
   (all_goals refine qgp (Lf.mk ?_))
   refine zsR q b x [T4, T5, .cells [.int .i64 x.pos, .sl 3 (x.toks.map zJ) none]] (i4.less (by omega)) (hw x (List.mem_of_getElem? hx)) hq rfl rfl (fun hn => ?_) (fun hn hn' => ?_)
   ·(all_goals refine qgp (Lf.mk ?_))
    exact w8 (k + 1, xT q b x, x.pos) [.cells [.int .i64 x.pos, .sl 3 (x.toks.map zJ) none]] ⟨by show k + 1 ≤ _; omega, i2, i3, hr'⟩ (by dsimp only; omega) (by simp) (by rw [hE0]; exact Nat.zero_le _) (zxn _ _) ⟨rfl, rfl, rfl, rfl, rfl, rfl, rfl, trivial⟩
     (.cons (.loc (Nat.lt_of_lt_of_le (by decide : 6 < 8) (Nat.le_of_eq rfl))) (.cons (.loc (Nat.lt_of_lt_of_le (by decide : 7 < 8) (Nat.le_of_eq rfl))) (.cons (.loc (Nat.lt_of_lt_of_le (by decide : 0 < 8) (Nat.le_of_eq rfl))) (.cons .int (.cons .sl (.cons .int (.cons .int .nil)))))))
   ·(all_goals refine qgp (Lf.mk ?_))
    refine zkR (k + 1, xT q b x, x.pos) ⟨by show k + 1 ≤ _; omega, i2, i3, hr'⟩ (by dsimp only; omega) ?_
    rw [hE0]
    exact zsS q (xT q b x) _ hn' ⟨.loc rfl, .loc rfl, .loc rfl, .flat .int, .flat .sl, .flat .int, .flat .int, trivial⟩
  ·have hk : k = l.length := by omega
   rw [hk, List.drop_length] at i2 i3
   have e1 : b = xu q l b0 := i2
   have e2 : la = zaN l := i3
   subst e1
   exact ⟨(), trivial, yn rfl ⟨rfl, rfl, rfl, by rw [← e2]; rfl, trivial⟩⟩
 ·rintro _ _
  have hroom : yc (xu q l b0) (1000000 - 9000) := zjl l (zri.less (by omega))
  have hok : OkB 9000 (xu q l b0) := znO (by decide) l (zri.less (by omega)) (ok0 9000)
  have hroom2 : yc (vM (xu q l b0) (zaN l)) 990999 := (hroom.less (by decide : 990999 + 1 ≤ 1000000 - 9000)).pool _
  have hok2 : OkB 9000 (vM (xu q l b0) (zaN l)) := hok.pool (by have := hroom.curl; omega) _
  have hsh := zsQ (xu q l b0) (zaN l)
  have hbi := hroom.items
  have hbs := hroom.shut
  have hR : x9 q l = zkl (vM (xu q l b0) (zaN l)) := rfl
  rw [hR]
  generalize xu q l b0 = b1 at *
  refine wj (ze _ ?_)
  (all_goals refine qgp (Lf.mk ?_))
  refine zk0 q b1 (zaN l) [T4, T5] (by omega) (by omega) rfl rfl ?_
  generalize vM b1 (zaN l) = b2 at *
  (all_goals refine qgp (Lf.mk ?_))
  obtain ⟨items, syms, marks, shut, has, cur, fe, fa⟩ := b2
  have hsh : has = false := hsh
  subst hsh
  clear hR hroom hok hbi hbs
  have hL : zkl ⟨items, syms, marks, shut, false, cur, fe, fa⟩ = if fe ≠ 0 then (noO, fe, fa) else if 8000 < (yL shut marks ⟨items, syms⟩).2 then (noO, 4, 0)
   else if (vv shut (yL shut marks ⟨items, syms⟩).1.items (yL shut marks ⟨items, syms⟩).1.syms ⟨[], [], fe, fa⟩).fe ≠ 0
    then (noO, (vv shut (yL shut marks ⟨items, syms⟩).1.items (yL shut marks ⟨items, syms⟩).1.syms ⟨[], [], fe, fa⟩).fe, (vv shut (yL shut marks ⟨items, syms⟩).1.items (yL shut marks ⟨items, syms⟩).1.syms ⟨[], [], fe, fa⟩).fa)
   else (⟨(vv shut (yL shut marks ⟨items, syms⟩).1.items (yL shut marks ⟨items, syms⟩).1.syms ⟨[], [], fe, fa⟩).code, (yL shut marks ⟨items, syms⟩).1.syms,
    (vv shut (yL shut marks ⟨items, syms⟩).1.items (yL shut marks ⟨items, syms⟩).1.syms ⟨[], [], fe, fa⟩).rels⟩, 0, 0) := rfl
  generalize zkl ⟨items, syms, marks, shut, false, cur, fe, fa⟩ = R at *
  refine wj (ze _ ?_)
  (all_goals refine qgp ?_ <;> (repeat' first | exact trivial | intro hc | refine And.intro ?_ ?_) <;> refine Lf.mk ?_)
  ·rw [if_pos hc] at hL
   subst hL
   exact zd (VS.mk (LeD.tup (.cons (LeD.agg (.cons (.nil 1) (.cons (.nil 2) (.cons (.nil 4) .nil)))) (LeL.refl _))))
  have hfe : fe = 0 := hc
  rw [if_neg (fun h => h hc)] at hL
  have hTl : ∀ p ∈ shut, p.length ≤ 9000 := hok2.shl
  have hsz : ∀ x ∈ items, wH shut x := fun x hx => by
   have := hok2.its x hx
   exact ⟨this.al, this.da, this.po, fun p hp => by have := hTl p hp; omega⟩
  have hil : items.length ≤ 9001 := by have := hroom2.items; dsimp only at this; omega
  have hml : marks.length ≤ 9001 := by have := hroom2.marks; dsimp only at this; omega
  have hlay : zac shut marks ⟨items, syms⟩ := ⟨hsz, by show items.length ≤ _; omega, hok2.len, by omega, hok2.pos⟩
  have hW := zjm (pools := shut) (marks := marks) (wu items + 1) ⟨items, syms⟩ (Nat.lt_succ_self _) hsz
  have hW : zxp shut ⟨items, syms⟩ (yL shut marks ⟨items, syms⟩) := hW
  refine wj (ze _ ?_)
  (all_goals refine qgp (Lf.mk ?_))
  refine y7 zpc [T4, T5] (⟨items, syms⟩, marks, shut, cur, fe, fa, q) hlay rfl (LeL.refl _) rfl (.cons (.loc (Nat.lt_of_lt_of_le (by decide : 0 < 6) (Nat.le_of_eq rfl))) .nil) .int (xf _ _) (xf _ _) ?_
  dsimp only
  generalize yL shut marks ⟨items, syms⟩ = W at *
  obtain ⟨⟨its, sys⟩, n⟩ := W
  dsimp only at hL ⊢
  (all_goals refine qgp ?_ <;> (repeat' first | exact trivial | intro hc | refine And.intro ?_ ?_) <;> refine Lf.mk ?_)
  ·rw [if_pos hc] at hL
   subst hL
   exact zd (VS.mk (LeD.tup (.cons (LeD.agg (.cons (.nil 1) (.cons (.nil 2) (.cons (.nil 4) .nil)))) (LeL.refl _))))
  rw [if_neg hc] at hL
  have hlen : its.length = items.length := hW.sim.len
  have hsl : sys.length = syms.length := hW.syms
  have hsyl : syms.length ≤ 9001 := by have := hok2.len; dsimp only at this; omega
  have hin : ∀ y ∈ its, znM ⟨its, sys, marks, shut, false, cur, fe, fa⟩ y := fun y hy => by
   obtain ⟨x, hx, hs⟩ := hW.sim.from_ y hy
   have hi := hok2.its x hx
   have ha := hW.at_ y hy
   refine ⟨zsT hs (hsz x hx), ha.1, by omega, ?_, fun h6 => ?_⟩
   ·rw [hs.idx]; have := hi.ix; omega
   ·have hl := hi.li (by rw [← hs.kind]; exact h6)
    have h0 : zkk false = 0 := rfl
    rw [h0] at hl
    dsimp only at hl
    obtain ⟨z, hz, hz9, hzp⟩ := hok2.put x.pool.toNat (by dsimp only; omega)
    obtain ⟨u, hu, hzu⟩ := hW.sim.to_ z hz
    refine znQ _ _ _ ⟨u, hu, ?_⟩
    rw [hzu.kind, hz9, hzu.pool, hzp, hs.pool, Int.toNat_of_nonneg hl.1]
    simp
  have hgrow : ∀ (o : Out), ∀ y ∈ its, (vO shut its sys o y).code.length ≤ o.code.length + 44100 ∧ (vO shut its sys o y).rels.length ≤ o.rels.length + 9000 := fun o y hy => by
   have ha := hW.at_ y hy
   exact zsU (hin y hy).size ha.1 (by omega) hTl
  have hF : vv shut its sys ⟨[], [], fe, fa⟩ = its.foldl (fun o x => if o.fe = 0 then vO shut its sys o x else o) ⟨[], [], fe, fa⟩ := rfl
  generalize vv shut its sys ⟨[], [], fe, fa⟩ = F at *
  refine zd4 (α := Unit) (fun _ => True) (fun _ => [(4, .loc 7 0), (5, .loc 8 0), (6, .loc 0 0)]) (fun _ => eO q ⟨its, sys, marks, shut, false, cur, fe, fa⟩ F ++ [T4, T5]) ?_ ?_
  ·refine ze _ ?_
   (all_goals refine qgp (Lf.mk ?_))
   refine yN (α := Nat × Out) (fun p => p.1 ≤ its.length ∧ (its.drop p.1).foldl (fun o x => if o.fe = 0 then vO shut its sys o x else o) p.2 = F ∧ p.2.code.length ≤ 44100 * p.1 ∧ p.2.rels.length ≤ 9000 * p.1)
    (fun p => [(4, .loc 7 0), (5, .loc 8 0), (6, .loc 0 0), (49, .int .i64 its.length), (50, .int .i64 p.1)]) (fun p => eO q ⟨its, sys, marks, shut, false, cur, fe, fa⟩ p.2 ++ [T4, T5]) (fun p => its.length - p.1) (fun _ => by rw [hE0]; exact Nat.zero_le _) (0, ⟨[], [], fe, fa⟩)
    ⟨Nat.zero_le _, hF.symm, Nat.le_refl _, Nat.le_refl _⟩ ?_ ?_
   ·rw [hE0]
    exact zuw q its sys marks shut cur fe fa ⟨.loc rfl, .loc rfl, .loc rfl, .flat .int, .flat .int, trivial⟩
   rintro ⟨k, o⟩ ⟨j1, j2, j3, j4⟩
   dsimp only at j1 j2 j3 j4 ⊢
   refine ze _ ?_
   (all_goals refine qgp ?_ <;> (repeat' first | exact trivial | intro hc | refine And.intro ?_ ?_) <;> refine Lf.mk ?_)
   ·obtain ⟨x, hx⟩ := yf (l := its) (k := k) (by omega)
    have hkl : k < its.length := by omega
    have hgx : its[k] = x := by rw [List.getElem?_eq_getElem hkl] at hx; exact Option.some.inj hx
    rw [List.drop_eq_getElem_cons hkl, hgx, zgn, if_pos (by assumption)] at j2
    obtain ⟨g1, g2⟩ := hgrow o x (List.mem_of_getElem? hx)
    refine y7 zpf [T4, T5] (⟨its, sys, marks, shut, false, cur, fe, fa⟩, o, k, x, q) ⟨rfl, hx, hin, by show its.length ≤ _; omega, by show sys.length ≤ _; omega, by show o.code.length ≤ _; omega, by show o.rels.length ≤ _; omega⟩ rfl
     (LeL.of_eq (by show [D.loc 0 0, .aloc 1 its.length (0 + ((k : Nat) : Int).toNat) 0] = _; rw [Nat.zero_add, Int.toNat_natCast])) rfl
     (.cons (.loc (Nat.lt_of_lt_of_le (by decide : 0 < 7) (Nat.le_of_eq rfl))) (.cons (.aloc (Nat.lt_of_lt_of_le (by decide : 1 < 7) (Nat.le_of_eq rfl))) .nil)) .tup0 (w3 _ _ _) (w3 _ _ _) ?_
    have hem : emB ⟨its, sys, marks, shut, false, cur, fe, fa⟩ o x = vO shut its sys o x := rfl
    dsimp only
    rw [hem]
    generalize vO shut its sys o x = o2 at *
    (all_goals refine qgp (Lf.mk ?_))
    exact yJ (k + 1, o2) ⟨by show k + 1 ≤ _; omega, j2, by dsimp only; omega, by dsimp only; omega⟩ (by dsimp only; omega) rfl ⟨rfl, rfl, rfl, rfl, rfl, trivial⟩
   ·have hkl : k < its.length := by omega
    rw [List.drop_eq_getElem_cons hkl, zgn, if_neg hc] at j2
    exact yJ (k + 1, o) ⟨by show k + 1 ≤ _; omega, j2, by dsimp only; omega, by dsimp only; omega⟩ (by dsimp only; omega) rfl ⟨rfl, rfl, rfl, rfl, rfl, trivial⟩
   ·have hk : k = its.length := by omega
    rw [hk, List.drop_length] at j2
    have j2 : o = F := j2
    subst j2
    exact ⟨(), trivial, yn rfl ⟨rfl, rfl, rfl, trivial⟩⟩
  ·rintro _ _
   refine ze _ ?_
   (all_goals refine qgp ?_ <;> (repeat' first | exact trivial | intro hc | refine And.intro ?_ ?_) <;> refine Lf.mk ?_)
   ·rw [if_pos hc] at hL
    subst hL
    exact zd (VS.mk (LeD.tup (.cons (LeD.agg (.cons (.nil 1) (.cons (.nil 2) (.cons (.nil 4) .nil)))) (LeL.refl _))))
   ·rw [if_neg (fun h => h hc)] at hL
    subst hL
    refine jW (k := 2) (e := 2) (els := sys.map yK) (els' := sys.map yK) (r1 := .tup [.agg [.sl 1 (F.code.map zI) (some 6), .sl 2 (sys.map yK) (some 9), .sl 4 (F.rels.map zbL) (some 5)], .agg [.int .i64 0, .int .i64 0]]) rfl (Nat.zero_le 2) (zrj sys) ?_ ?_ (Nat.zero_le _)
    ·refine .tup _ _ rfl fun i d d' h1 h2 => ?_
     match i, h1, h2 with
     | 0, h1, h2 =>
      cases h1
      cases h2
      refine .agg _ _ rfl fun j c c' g1 g2 => ?_
      match j, g1, g2 with
      | 0, g1, g2 => cases g1; cases g2; exact .keep _
      | 1, g1, g2 => cases g1; cases g2; exact .here _ _ (by simp) (by simp)
      | 2, g1, g2 => cases g1; cases g2; exact .keep _
      | j + 3, g1, g2 => cases g1
     | 1, h1, h2 => cases h1; cases h2; exact .keep _
     | i + 2, h1, h2 => cases h1
    ·exact zd (VS.mk (LeD.tup (.cons (LeD.agg (.cons (.strip _ _ _) (.cons (.strip _ _ _) (.cons (.strip _ _ _) .nil)))) (LeL.refl _))))
end Go.Proofs.YtnkdeacghopkiaaGreatDoor
namespace Go.Proofs.YtnkdeacghopkiaaGreatDoor
open Go Go.Plat
set_option linter.unusedVariables false
set_option linter.unusedSimpArgs false
set_option maxRecDepth 100000
set_option maxHeartbeats 2000000
attribute [local irreducible] AWP zA yh zE zn yu z6 zF zX zY zq za zL yv zo zZ yq yr yj ym zr zu zz xG yS yt yA zK vj xW ql x4 xV wk okC puF puR xR zO x0
theorem zsV {α : Type} {l : List α} {k : Nat} {x : α} (h : l[k]? = some x) : l.take (k + 1) = l.take k ++ [x] := by
 have hk := (List.getElem?_eq_some_iff.1 h).1
 rw [List.take_succ_eq_append_getElem hk]
 congr 2
 rw [List.getElem?_eq_getElem hk] at h
 exact Option.some.inj h
theorem ze0 : za Tryz.prog zqJ (zx (fun l : List zy => l.length ≤ 1000000000 ∧ ∀ x ∈ l, x.toks.length ≤ 1000000000) (fun l => [.sl 2 (l.map zS) none]) fun l => .sl 2 (l.map zS) none) := by
 refine zf zj Tryz.func112 rfl (by decide) ?_
 rintro l ⟨hl, ht⟩
 refine ⟨Nat.le_refl _, by simp [Tryz.f112], fun E hE => ?_⟩
 refine ze _ ?_
 (all_goals refine qgp (Lf.mk ?_))
 refine xF (qK 3 2 rfl) ?_
 refine ye (α := Nat) (fun k => k ≤ l.length)
  (fun k => [(3, .sl 2 ((l.take k).map zS) (some 0)), (6, .sl 2 (l.map zS) none), (7, .int .i64 l.length), (8, .int .i64 k)])
  (fun k => [.spare (l.take k).length]) (fun k => l.length - k) (fun _ => by simp [hE]) 0 (Nat.zero_le _) ?_ ?_
 ·(repeat' (first | (refine VS.mk ?_) | exact trivial | exact rfl | refine And.intro ?_ ?_))
 intro k hk
 have hkl : (l.take k).length = k := by rw [List.length_take]; omega
 refine ze _ ?_
 (all_goals refine qgp ?_ <;> (repeat' first | exact trivial | intro hc | refine And.intro ?_ ?_) <;> refine Lf.mk ?_)
 ·obtain ⟨x, hx⟩ : ∃ x, l[k]? = some x := ⟨_, List.getElem?_eq_getElem (by omega)⟩
  have hS := zsV hx
  have hkl1 : (l.take (k + 1)).length = k + 1 := by rw [List.length_take]; omega
  have hxt := ht x (List.mem_of_getElem? hx)
  refine zk x (by omega) (by simpa using hx) ?_
  (all_goals refine qgp (Lf.mk ?_))
  refine zB (k + 1) (by omega) (by omega) ?_
  (repeat' (first | (refine VS.mk ?_) | exact trivial | exact rfl | refine And.intro ?_ ?_))
  ·rw [hkl1, List.length_append, List.length_map, hkl]; rfl
  ·rw [hS, List.map_append, List.map_cons, List.map_nil]; rfl
 ·have e : l.take k = l := List.take_of_length_le (by omega)
  rw [e]
  exact zd (VS.mk (LeD.of_eq rfl))
end Go.Proofs.YtnkdeacghopkiaaGreatDoor
namespace Go.Proofs.YtnkdeacghopkiaaGreatDoor
open Go Go.Plat
set_option linter.unusedVariables false
set_option linter.unusedSimpArgs false
set_option maxRecDepth 100000
set_option maxHeartbeats 2000000
attribute [local irreducible] AWP zA yh zE zn yu z6 zF zX Lib.itoa zY zq za zL yv zo zZ zg.kids zg.kind zg.n zg.name yq yr yj ym zr zu xp wr zz x9 xr xl xe w0 xy wo xm xN xS yB yH qo yD yY xQ xo wK zh xg w2 zP zV w1 wb yy
def x1 (x : zy) : List UInt8 := match x.toks with
 | t :: _ => if t.kind = 1 then t.text else []
 | [] => []
theorem wN : za Tryz.prog zmR (zx (fun x : zy => x.toks.length ≤ 1000000000) (fun x => [zS x]) fun x => .str (x1 x)) := by
 refine zf zj Tryz.func107 rfl (by decide) ?_
 rintro ⟨pos, toks⟩ hl
 have hl : toks.length ≤ 1000000000 := hl
 refine ⟨Nat.le_refl _, by simp [Tryz.f107], fun E hE => ?_⟩
 cases toks with
 | nil =>
  refine ze _ ?_
  (all_goals refine qgp ?_ <;> (repeat' first | exact trivial | intro hc | refine And.intro ?_ ?_) <;> refine Lf.mk ?_)
  exact zd (VS.mk (LeD.refl _))
 | cons t r =>
  have hl : r.length + 1 ≤ 1000000000 := hl
  refine ze _ ?_
  (all_goals refine qgp ?_ <;> (repeat' first | exact trivial | intro hc | refine And.intro ?_ ?_) <;> refine Lf.mk ?_)
  all_goals refine zd (VS.mk (LeD.of_eq (congrArg D.str ?_)))
  ·unfold x1; dsimp only; rw [if_neg hc]
  ·unfold x1; dsimp only; rw [if_pos hc]
def mC (out : List zy) (looked fe fa : Int) : List D := [.nilsl, .nilsl, .sl 2 (out.map zS) (some 1), .int .i64 looked, .int .i64 fe, .int .i64 fa]
def mO (out : List zy) (looked fe fa : Int) : List Ob := [.cells (mC out looked fe fa), .spare out.length]
theorem zb3 (out : List zy) (looked fe fa : Int) : ∀ x ∈ mO out looked fe fa, ClO 2 x := by
 intro x hx
 simp only [mO, List.mem_cons, List.not_mem_nil, or_false] at hx
 rcases hx with rfl | rfl
 ·exact .cells (.cons .nilsl (.cons .nilsl (.cons (.tok (by decide)) (.cons .int (.cons .int (.cons .int .nil))))))
 ·exact .spare
theorem zhs : za Tryz.prog zbi (ya (fun _ : List zy × Int × Int × Int × List UInt8 => True) (fun (_, _, _, _, name) => [.loc 0 0, .str name]) (fun (out, looked, fe, fa, _) => mO out looked fe fa) (fun _ => .int .i64 (-1)) fun (out, looked, fe, fa, _) => mO out looked fe fa) := by
 refine zf zj Tryz.func110 rfl (by decide) ?_
 rintro ⟨out, looked, fe, fa, name⟩ _
 refine ⟨Nat.le_refl _, by simp [Tryz.f110], fun E hE => ?_⟩
 refine ze _ ?_
 (all_goals refine qgp (Lf.mk ?_))
 refine wM zj Tryz.func145 rfl (by decide) (.int .i64 (-1)) (mO out looked fe fa ++ [.cells [.str name]]) (Nat.le_refl _) (by simp [Tryz.f145]) (fun E' hE' => ?_) ?_
 ·refine ze _ ?_
  (all_goals refine qgp (Lf.mk ?_))
  refine qO (ze _ ?_)
  (all_goals refine qgp ?_ <;> (repeat' first | exact trivial | intro hc | refine And.intro ?_ ?_) <;> refine Lf.mk ?_)
  exact y6 rfl rfl
 ·(all_goals refine qgp (Lf.mk ?_))
  exact vU (mO out looked fe fa) [_] rfl (Nat.le_refl _) .int (zb3 _ _ _ _)
def vf (h : List UInt8) : Prop := h ≠ [46, 109, 97, 99, 114, 111] ∧ h ≠ [46, 114, 101, 112, 116] ∧ h ≠ [46, 105, 102] ∧ h ≠ [46, 101, 110, 100, 109] ∧ h ≠ [46, 101, 110, 100, 114] ∧ h ≠ [46, 101, 110, 100, 105, 102] ∧ h ≠ [46, 101, 108, 115, 101] ∧ h ≠ [46, 101, 113, 117]
instance (h : List UInt8) : Decidable (vf h) := by unfold vf; infer_instance
theorem znR : za Tryz.prog q9 (ya (fun ((l, out, looked, deep) : List zy × List zy × Int × Int) => 0 ≤ deep ∧ deep ≤ 6 ∧ out.length + l.length ≤ 200 ∧ 0 ≤ looked ∧ looked + (l.length : Int) ≤ 4000 ∧ ∀ x ∈ l, vf (x1 x) ∧ x.toks.length ≤ 1000000000)
  (fun (l, _, _, deep) => [.loc 0 0, .sl 2 (l.map zS) none, .int .i64 deep]) (fun (_, out, looked, _) => mO out looked 0 0) (fun _ => .tup []) fun (l, out, looked, _) => mO (out ++ l) (looked + (l.length : Int)) 0 0) := by
 refine zf zj Tryz.func86 rfl (by decide) ?_
 rintro ⟨l, out, looked, deep⟩ ⟨hd0, hd1, hol, hk0, hk1, hl⟩
 have hd1 : deep ≤ 6 := hd1
 have hol : out.length + l.length ≤ 200 := hol
 have hk0 : 0 ≤ looked := hk0
 have hk1 : looked + (l.length : Int) ≤ 4000 := hk1
 have hl : ∀ x ∈ l, vf (x1 x) ∧ x.toks.length ≤ 1000000000 := hl
 refine ⟨Nat.le_refl _, by simp [Tryz.f86], fun E hE => ?_⟩
 have hE2 : E.L.length = 2 := by rw [hE]; rfl
 refine ze _ ?_
 (all_goals refine qgp ?_ <;> (repeat' first | exact trivial | intro hc | refine And.intro ?_ ?_) <;> refine Lf.mk ?_)
 refine yN (α := Nat) (fun k => k ≤ l.length) (fun k => [(0, .loc 0 0), (1, .sl 2 (l.map zS) none), (2, .int .i64 deep), (7, .int .i64 k)]) (fun k => mO (out ++ l.take k) (looked + (k : Int)) 0 0) (fun k => l.length - k) (fun _ => by rw [hE2]; exact Nat.le_refl 2) 0 (Nat.zero_le _) ?_ ?_
 ·exact yn (by simp) ⟨rfl, rfl, rfl, rfl, trivial⟩
 intro k hk
 have hk : k ≤ l.length := hk
 refine ze _ ?_
 (all_goals refine qgp ?_ <;> (repeat' first | exact trivial | intro hc | refine And.intro ?_ ?_) <;> refine Lf.mk ?_)
 ·obtain ⟨x, hx⟩ := yf (l := l) (k := k) (by omega)
  have hkl : k < l.length := by omega
  have hgx : l[k] = x := by rw [List.getElem?_eq_getElem hkl] at hx; exact Option.some.inj hx
  obtain ⟨hp, hxl⟩ := hl x (List.mem_of_getElem? hx)
  have hxk : l[((k : Nat) : Int).toNat]? = some x := by rw [Int.toNat_natCast]; exact hx
  refine zk x (Int.natCast_nonneg k) hxk ?_
  (all_goals refine qgp (Lf.mk ?_))
  refine zb wN x hxl (VS.mk (LeL.of_eq rfl)) ?_
  obtain ⟨p1, p2, p3, p4, p5, p6, p7, p8⟩ := hp
  (all_goals refine qgp ?_ <;> (repeat' first | exact trivial | intro hc | refine And.intro ?_ ?_) <;> refine Lf.mk ?_)
  all_goals first
   | (exfalso; exact p1 (by assumption))
   | (exfalso; exact p2 (by assumption))
   | (exfalso; exact p3 (by assumption))
   | (exfalso; exact p4 (by assumption))
   | (exfalso; exact p5 (by assumption))
   | (exfalso; exact p6 (by assumption))
   | (exfalso; exact p7 (by assumption))
   | (exfalso; exact p8 (by assumption))
   | skip
  have hok : (out ++ l.take k).length = out.length + k := by rw [List.length_append, List.length_take]; omega
  refine y7 zhs [] (out ++ l.take k, looked + (k : Int) + 1, 0, 0, x1 x) trivial rfl (LeL.refl _) rfl (.cons (.loc (Nat.lt_of_lt_of_le (by decide : 0 < 2) (Nat.le_of_eq rfl))) (.cons .str .nil)) .int (zb3 _ _ _ _) (zb3 _ _ _ _) ?_
  have htk : (l.take (k + 1)).drop k = [x] := by
   rw [List.take_succ_eq_append_getElem hkl, List.drop_left' (by rw [List.length_take]; omega), hgx]
  have htk2 : out ++ l.take (k + 1) = (out ++ l.take k) ++ [x] := by rw [List.take_succ_eq_append_getElem hkl, hgx, List.append_assoc]
  generalize out ++ l.take k = ok at *
  (all_goals refine qgk ?_ <;> (repeat' first | exact trivial | intro hc | refine And.intro ?_ ?_) <;> refine Lf.mk ?_)
  ·exact absurd hc (by decide)
  ·exfalso; omega
  refine zb ze0 [x] ⟨by simp, fun y hy => by rw [List.mem_singleton] at hy; subst hy; exact hxl⟩ (VS.mk (LeL.of_eq (by rw [Int.toNat_natCast, show (((k : Nat) : Int) + 1).toNat = k + 1 by omega, htk]))) ?_
  (all_goals refine qgk (Lf.mk ?_))
  exact yJ (k + 1) (by show k + 1 ≤ _; omega) (by omega) (by dsimp only; rw [htk2, show looked + (((k + 1 : Nat)) : Int) = looked + (k : Int) + 1 by omega]; rfl) ⟨rfl, rfl, rfl, rfl, trivial⟩
 ·exact absurd trivial hc
 ·have hk2 : k = l.length := by omega
  rw [hk2, List.take_length]
  exact y6 rfl rfl
def zsW (l : List zy) : Prop := l.length ≤ 200 ∧ ∀ x ∈ l, vf (x1 x) ∧ x.toks.length ≤ 1000000000
theorem znS : za Tryz.prog zd5 (zx (fun l : List zy => zsW l) (fun l => [.sl 2 (l.map zS) none]) fun l => .tup [.sl 2 (l.map zS) none, .sl 2 [] none, .agg [.int .i64 0, .int .i64 0]]) := by
 refine zf zj Tryz.func66 rfl (by decide) ?_
 rintro l ⟨hl, hp⟩
 refine ⟨Nat.le_refl _, by simp [Tryz.f66], fun E hE => ?_⟩
 have hE0 : E.L.length = 0 := by rw [hE]; rfl
 refine wj (ze _ ?_)
 (all_goals refine qgp (Lf.mk ?_))
 refine wj (ze _ ?_)
 (all_goals refine qgp (Lf.mk ?_))
 refine xF (σ' := [(0, .sl 2 (l.map zS) none), (4, .loc 2 0), (5, .loc 0 0)]) (L' := mO [] 0 0 0 ++ [T5]) ?_ ?_
 ·rw [hE0]
  refine xZ (w7 1 2 [.nilsl, .nilsl, .sl 2 [] (some 2), .int .i64 0, .int .i64 0, .int .i64 0] rfl ⟨.same, .same, .here, .same, .same, .same, trivial⟩) ?_
  refine jY [1, 2, 0] rfl rfl ?_ ⟨.flat .sl, .loc rfl, .loc rfl, trivial⟩
  exact .cons (o := .cells [.nilsl, .nilsl, .sl 2 [] (some 2), .int .i64 0, .int .i64 0, .int .i64 0]) rfl ⟨_, rfl, .cons (.flat .nilsl) (.cons (.flat .nilsl) (.cons (.tok rfl) (.cons (.flat .int) (.cons (.flat .int) (.cons (.flat .int) .nil)))))⟩
   (.cons (o := .spare 0) rfl rfl (.cons (o := T5) rfl ⟨_, rfl, .cons (.flat .int) (.cons (.flat .int) .nil)⟩ .nil))
 refine ze _ ?_
 (all_goals refine qgp (Lf.mk ?_))
 refine y7 znR [T5] (l, [], 0, 0) ⟨by decide, by decide, by simpa using hl, by decide, by show 0 + (l.length : Int) ≤ 4000; omega, hp⟩ rfl (LeL.refl _) rfl (.cons (.loc (Nat.lt_of_lt_of_le (by decide : 0 < 2) (Nat.le_of_eq rfl))) (.cons .sl (.cons .int .nil))) .tup0 (zb3 _ _ _ _) (zb3 _ _ _ _) ?_
 dsimp only
 rw [List.nil_append]
 (all_goals refine qgp ?_ <;> (repeat' first | exact trivial | intro hc | refine And.intro ?_ ?_) <;> refine Lf.mk ?_)
 ·exact absurd trivial hc
 ·exact zd (VS.mk (LeD.tup (.cons (.strip _ _ _) (.cons (.nil 2) (LeL.refl _)))))
end Go.Proofs.YtnkdeacghopkiaaGreatDoor
namespace Go.Proofs.YtnkdeacghopkiaaGreatDoor
open Go Go.Plat
set_option linter.unusedVariables false
set_option linter.unusedSimpArgs false
set_option maxRecDepth 100000
set_option maxHeartbeats 2000000
attribute [local irreducible] AWP zA yh zE zn yu z6 zF zX zY zq za zL yv zo zZ yq yr yj ym zr zu zz xG yS yt yA zK vj xW ql x4 xV wk okC puF puR xR zO x0
end Go.Proofs.YtnkdeacghopkiaaGreatDoor
namespace Go.Proofs.YtnkdeacghopkiaaGreatDoor
open Go Go.Plat
set_option linter.unusedVariables false
set_option linter.unusedSimpArgs false
set_option maxRecDepth 100000
set_option maxHeartbeats 2000000
attribute [local irreducible] AWP zA yh zE zn yu z6 zF zX Lib.itoa zY zq za zL yv zo zZ zg.kids zg.kind zg.n zg.name yq yr yj ym zr zu xp wr zz x9 xr xl xe w0 xy wo xm xN xS yB yH qo yD yY xQ xo wK zh xg w2 zP zV w1 wb yy
def jn (b : List UInt8) : y8 × Int × Int := if (yB b).2.1 ≠ 0 then (noO, (yB b).2.1, (yB b).2.2) else x9 [] (yB b).1
structure zjn (b : List UInt8) : Prop where
 len : b.length ≤ 1000000000
 plain : zsW (yB b).1
 tot : ww (yB b).1 ≤ 9000
 wts : ∀ x ∈ (yB b).1, wt (x.toks.map tk) ≤ 1048576
theorem zrk : za Tryz.prog zeD (zx zjn (fun b => [.sl 1 (b.map zI) none]) fun b => .tup [qS (jn b).1, .agg [.int .i64 (jn b).2.1, .int .i64 (jn b).2.2]]) := by
 refine zf zj Tryz.func39 rfl (by decide) ?_
 rintro b ⟨h1, h2, h3, h4⟩
 refine ⟨Nat.le_refl _, by simp [Tryz.f39], fun E hE => ?_⟩
 have hU : jn b = if (yB b).2.1 ≠ 0 then (noO, (yB b).2.1, (yB b).2.2) else x9 [] (yB b).1 := rfl
 generalize jn b = U at *
 refine ze _ ?_
 (all_goals refine qgp (Lf.mk ?_))
 refine zb zcv b h1 (VS.mk (LeL.of_eq rfl)) ?_
 have hD : zm7 (yB b) = .tup [.sl 2 ((yB b).1.map zS) none, .agg [.int .i64 (yB b).2.1, .int .i64 (yB b).2.2]] := rfl
 rw [hD]
 generalize yB b = W at *
 obtain ⟨l, e, a⟩ := W
 dsimp only at h2 h3 h4 hU ⊢
 (all_goals refine qgp ?_ <;> (repeat' first | exact trivial | intro hc | refine And.intro ?_ ?_) <;> refine Lf.mk ?_)
 ·rw [if_pos hc] at hU
  subst hU
  exact zd (VS.mk (LeD.tup (.cons (LeD.agg (.cons (.nil 1) (.cons (.nil 2) (.cons (.nil 4) .nil)))) (LeL.refl _))))
 rw [if_neg (fun h => h hc)] at hU
 refine zb znS l h2 (VS.mk (LeL.of_eq rfl)) ?_
 (all_goals refine qgp ?_ <;> (repeat' first | exact trivial | intro hc | refine And.intro ?_ ?_) <;> refine Lf.mk ?_)
 ·exact absurd trivial hc
 refine zb zhr (l, []) ⟨h3, h4, by decide, by have := h2.1; show l.length ≤ _; omega⟩ (VS.mk (LeL.of_eq rfl)) ?_
 dsimp only
 rw [← hU]
 (all_goals refine qgp (Lf.mk ?_))
 exact zd (VS.mk (LeD.refl _))
def qf (t : zH) : Bool := decide (t.kind = 3 ∧ t.text = [44])
theorem zae : za Tryz.prog zlA (zx (fun _ : zH => True) (fun t => [zJ t]) fun t => .bool (qf t)) := by
 refine zf zj Tryz.func142 rfl (by decide) ?_
 rintro ⟨k, n, s⟩ _
 refine ⟨Nat.le_refl _, by simp [Tryz.f142], fun E hE => ?_⟩
 refine ze _ ?_
 (all_goals refine qgp ?_ <;> (repeat' first | exact trivial | intro hc | refine And.intro ?_ ?_) <;> refine Lf.mk ?_)
 ·refine zd (VS.mk (LeD.of_eq (congrArg D.bool ?_)))
  unfold qf
  by_cases h : s = [44]
  ·rw [decide_eq_true ⟨hc, h⟩]; exact beq_iff_eq.2 h
  ·rw [decide_eq_false (fun e => h e.2)]; exact beq_eq_false_iff_ne.2 h
 ·refine zd (VS.mk (LeD.ff ?_))
  unfold qf
  exact decide_eq_false fun e => hc e.1
theorem zk7 (ds : List D) (k : Nat) : zat [.sl 3 ds (some k)] [.sl 3 ds none] := by
 refine ⟨?_, ?_⟩
 ·rfl
 ·intro i d d' h1 h2
  cases i with
  | zero =>
   cases h1
   cases h2
   refine ⟨rfl, rfl, fun j c c' h3 h4 => ?_⟩
   cases j with
   | zero =>
    cases h3
    cases h4
    intro w F ρ L v h
    cases h with
    | pure _ _ h => cases h
    | tok _ _ _ _ _ h _ => exact h
   | succ j => cases h3
  | succ i => cases h1
theorem zsX : za Tryz.prog zcs (zx (fun t : zH => qf t = false) (fun t => [.sl 3 [zJ t] none]) fun t => .sl 1 [.sl 3 [zJ t] none] none) := by
 refine zf zj Tryz.func147 rfl (by decide) ?_
 rintro t ht
 have ht : qf t = false := ht
 refine ⟨Nat.le_refl _, by simp [Tryz.f147], fun E hE => ?_⟩
 refine ze _ ?_
 (all_goals refine qgs ?_ <;> (repeat' first | exact trivial | intro hc | refine And.intro ?_ ?_) <;> refine Lf.mk ?_)
 ·exfalso; exact absurd hc (by decide)
 refine zdv (VS.mk (zhA ?_))
 (all_goals refine qgs ?_ <;> (repeat' first | exact trivial | intro hc | refine And.intro ?_ ?_) <;> refine Lf.mk ?_)
 refine qO (ze _ ?_)
 (all_goals refine qgp ?_ <;> (repeat' first | exact trivial | intro hc | refine And.intro ?_ ?_) <;> refine Lf.mk ?_)
 refine zb zae t trivial (VS.mk (LeL.of_eq rfl)) ?_
 rw [ht]
 (all_goals refine qgp ?_ <;> (repeat' first | exact trivial | intro hc | refine And.intro ?_ ?_) <;> refine Lf.mk ?_)
 ·exact absurd hc (by decide)
 have hA : ∀ {K : D → Prop}, K (.int .i64 0) → zA .i64 (([D.nilsl].length : Int) - 1) K := fun h => qu (by decide) (by decide) h
 refine hA ?_
 (all_goals refine qgp ?_ <;> (repeat' first | exact trivial | intro hc | refine And.intro ?_ ?_) <;> refine Lf.mk ?_)
 refine hA ?_
 (all_goals refine qgp ?_ <;> (repeat' first | exact trivial | intro hc | refine And.intro ?_ ?_) <;> refine Lf.mk ?_)
 refine vA (ze _ ?_)
 (all_goals refine qgp ?_ <;> (repeat' first | exact trivial | intro hc | refine And.intro ?_ ?_) <;> refine Lf.mk ?_)
 refine jW (k := 0) (e := 1) (els := [.sl 3 [zJ t] (some 2)]) (els' := [.sl 3 [zJ t] none]) rfl (Nat.le_refl _) (zk7 _ _) (.here _ _ rfl rfl) ?_ (Nat.le_refl _)
 exact zd (VS.mk (.strip _ _ _))
theorem zsY : za Tryz.prog zcs (zx (fun ((s, t) : zH × zH) => qf s = false ∧ qf t = false) (fun (s, t) => [.sl 3 [zJ s, zJ t] none]) fun (s, t) => .sl 1 [.sl 3 [zJ s, zJ t] none] none) := by
 refine zf zj Tryz.func147 rfl (by decide) ?_
 rintro ⟨s, t⟩ ⟨hs, ht⟩
 have hs : qf s = false := hs
 have ht : qf t = false := ht
 refine ⟨Nat.le_refl _, by simp [Tryz.f147], fun E hE => ?_⟩
 refine ze _ ?_
 (all_goals refine qgs ?_ <;> (repeat' first | exact trivial | intro hc | refine And.intro ?_ ?_) <;> refine Lf.mk ?_)
 ·exfalso; exact absurd hc (by decide)
 refine zdv (VS.mk (zhA ?_))
 (all_goals refine qgs ?_ <;> (repeat' first | exact trivial | intro hc | refine And.intro ?_ ?_) <;> refine Lf.mk ?_)
 refine qO (ze _ ?_)
 (all_goals refine qgp ?_ <;> (repeat' first | exact trivial | intro hc | refine And.intro ?_ ?_) <;> refine Lf.mk ?_)
 refine zb zae s trivial (VS.mk (LeL.of_eq rfl)) ?_
 rw [hs]
 (all_goals refine qgp ?_ <;> (repeat' first | exact trivial | intro hc | refine And.intro ?_ ?_) <;> refine Lf.mk ?_)
 ·exact absurd hc (by decide)
 have hA : ∀ {K : D → Prop}, K (.int .i64 0) → zA .i64 (([D.nilsl].length : Int) - 1) K := fun h => qu (by decide) (by decide) h
 refine hA ?_
 (all_goals refine qgp ?_ <;> (repeat' first | exact trivial | intro hc | refine And.intro ?_ ?_) <;> refine Lf.mk ?_)
 refine hA ?_
 (all_goals refine qgp ?_ <;> (repeat' first | exact trivial | intro hc | refine And.intro ?_ ?_) <;> refine Lf.mk ?_)
 refine vA (ze _ ?_)
 (all_goals refine qgp ?_ <;> (repeat' first | exact trivial | intro hc | refine And.intro ?_ ?_) <;> refine Lf.mk ?_)
 refine zb zae t trivial (VS.mk (LeL.of_eq rfl)) ?_
 rw [ht]
 (all_goals refine qgp ?_ <;> (repeat' first | exact trivial | intro hc | refine And.intro ?_ ?_) <;> refine Lf.mk ?_)
 ·exact absurd hc (by decide)
 refine hA ?_
 (all_goals refine qgp ?_ <;> (repeat' first | exact trivial | intro hc | refine And.intro ?_ ?_) <;> refine Lf.mk ?_)
 refine hA ?_
 (all_goals refine qgp ?_ <;> (repeat' first | exact trivial | intro hc | refine And.intro ?_ ?_) <;> refine Lf.mk ?_)
 refine vA (ze _ ?_)
 (all_goals refine qgp ?_ <;> (repeat' first | exact trivial | intro hc | refine And.intro ?_ ?_) <;> refine Lf.mk ?_)
 refine jW (k := 0) (e := 1) (els := [.sl 3 [zJ s, zJ t] (some 2)]) (els' := [.sl 3 [zJ s, zJ t] none]) rfl (Nat.le_refl _) (zk7 _ _) (.here _ _ rfl rfl) ?_ (Nat.le_refl _)
 exact zd (VS.mk (.strip _ _ _))
structure Mcr where
 name : List UInt8
 par : List UInt8
 body : List zy
def zrl (m : Mcr) : D := .agg [.str m.name, .sl 1 [.str m.par] none, .sl 2 (m.body.map zS) none]
def nC (m : Mcr) (out : List zy) (looked fe fa : Int) : List D := [.sl 3 [zrl m] (some 2), .nilsl, .sl 2 (out.map zS) (some 1), .int .i64 looked, .int .i64 fe, .int .i64 fa]
def nO (m : Mcr) (out : List zy) (looked fe fa : Int) : List Ob := [.cells (nC m out looked fe fa), .spare out.length, .spare 1]
theorem qp (m : Mcr) (out : List zy) (looked fe fa : Int) : ∀ x ∈ nO m out looked fe fa, ClO 3 x := by
 intro x hx
 simp only [nO, List.mem_cons, List.not_mem_nil, or_false] at hx
 rcases hx with rfl | rfl | rfl
 ·exact .cells (.cons (.tok (by decide)) (.cons .nilsl (.cons (.tok (by decide)) (.cons .int (.cons .int (.cons .int .nil))))))
 ·exact .spare
 ·exact .spare
theorem zxq (m : Mcr) (out : List zy) (looked fe fa : Int) (name : List UInt8) : ∀ x ∈ nO m out looked fe fa ++ [.cells [.str name]], ClO 4 x := by
 intro x hx
 rcases List.mem_append.1 hx with hx | hx
 ·exact ClO.up (qp m out looked fe fa x hx) (by decide)
 ·rw [List.mem_singleton] at hx
  subst hx
  exact .cells (.cons .str .nil)
def zaO (m : Mcr) (name : List UInt8) : Int := if m.name = name then 0 else -1
theorem zaP : za Tryz.prog zbi (ya (fun _ : Mcr × List zy × Int × Int × Int × List UInt8 => True) (fun (_, _, _, _, _, name) => [.loc 0 0, .str name]) (fun (m, out, looked, fe, fa, _) => nO m out looked fe fa) (fun (m, _, _, _, _, name) => .int .i64 (zaO m name)) fun (m, out, looked, fe, fa, _) => nO m out looked fe fa) := by
 refine zf zj Tryz.func110 rfl (by decide) ?_
 rintro ⟨m, out, looked, fe, fa, name⟩ _
 refine ⟨Nat.le_refl _, by simp [Tryz.f110], fun E hE => ?_⟩
 refine ze _ ?_
 (all_goals refine qgp ?_ <;> (repeat' first | exact trivial | intro hc | refine And.intro ?_ ?_) <;> refine Lf.mk ?_)
 refine wM zj Tryz.func145 rfl (by decide) (.int .i64 (zaO m name)) (nO m out looked fe fa ++ [.cells [.str name]]) (Nat.le_refl _) (by simp [Tryz.f145]) (fun E' hE' => ?_) ?_
 ·refine ze _ ?_
  (all_goals refine qgp ?_ <;> (repeat' first | exact trivial | intro hc | refine And.intro ?_ ?_) <;> refine Lf.mk ?_)
  refine qO (ze _ ?_)
  (all_goals refine qgp ?_ <;> (repeat' first | exact trivial | intro hc | refine And.intro ?_ ?_) <;> refine Lf.mk ?_)
  refine wM zj Tryz.func146 rfl (by decide) (.bool (m.name == name)) (nO m out looked fe fa ++ [.cells [.str name]]) (Nat.le_refl _) (by simp [Tryz.f146]) (fun E2 hE2 => ?_) ?_
  ·refine ze _ ?_
   (all_goals refine qgp ?_ <;> (repeat' first | exact trivial | intro hc | refine And.intro ?_ ?_) <;> refine Lf.mk ?_)
   exact vU (nO m out looked fe fa ++ [.cells [.str name]]) [_] rfl (Nat.le_refl _) .bool (zxq _ _ _ _ _ _)
  (all_goals refine qgp ?_ <;> (repeat' first | exact trivial | intro hc | refine And.intro ?_ ?_) <;> refine Lf.mk ?_)
  ·exact y6 (by unfold zaO; rw [if_pos hc]; rfl) rfl
  refine vA (ze _ ?_)
  (all_goals refine qgp ?_ <;> (repeat' first | exact trivial | intro hc | refine And.intro ?_ ?_) <;> refine Lf.mk ?_)
  exact y6 (by unfold zaO; rw [if_neg (show ¬ m.name = name by assumption)]; rfl) rfl
 ·(all_goals refine qgp ?_ <;> (repeat' first | exact trivial | intro hc | refine And.intro ?_ ?_) <;> refine Lf.mk ?_)
  exact vU (nO m out looked fe fa) [_] rfl (Nat.le_refl _) .int (qp _ _ _ _ _)
def zec (m : Mcr) (x : zy) : Prop := vf (x1 x) ∧ x.toks.length ≤ 1000000000 ∧ m.name ≠ x1 x
theorem znT : za Tryz.prog q9 (ya (fun ((m, l, out, looked, deep) : Mcr × List zy × List zy × Int × Int) => 0 ≤ deep ∧ deep ≤ 6 ∧ out.length + l.length ≤ 200 ∧ 0 ≤ looked ∧ looked + (l.length : Int) ≤ 4000 ∧ ∀ x ∈ l, zec m x)
  (fun (_, l, _, _, deep) => [.loc 0 0, .sl 2 (l.map zS) none, .int .i64 deep]) (fun (m, _, out, looked, _) => nO m out looked 0 0) (fun _ => .tup []) fun (m, l, out, looked, _) => nO m (out ++ l) (looked + (l.length : Int)) 0 0) := by
 refine zf zj Tryz.func86 rfl (by decide) ?_
 rintro ⟨m, l, out, looked, deep⟩ ⟨hd0, hd1, hol, hk0, hk1, hl⟩
 have hd1 : deep ≤ 6 := hd1
 have hol : out.length + l.length ≤ 200 := hol
 have hk0 : 0 ≤ looked := hk0
 have hk1 : looked + (l.length : Int) ≤ 4000 := hk1
 have hl : ∀ x ∈ l, zec m x := hl
 refine ⟨Nat.le_refl _, by simp [Tryz.f86], fun E hE => ?_⟩
 have hE2 : E.L.length = 3 := by rw [hE]; rfl
 refine ze _ ?_
 (all_goals refine qgp ?_ <;> (repeat' first | exact trivial | intro hc | refine And.intro ?_ ?_) <;> refine Lf.mk ?_)
 refine yN (α := Nat) (fun k => k ≤ l.length) (fun k => [(0, .loc 0 0), (1, .sl 2 (l.map zS) none), (2, .int .i64 deep), (7, .int .i64 k)]) (fun k => nO m (out ++ l.take k) (looked + (k : Int)) 0 0) (fun k => l.length - k) (fun _ => by rw [hE2]; exact Nat.le_refl 3) 0 (Nat.zero_le _) ?_ ?_
 ·exact yn (by simp) ⟨rfl, rfl, rfl, rfl, trivial⟩
 intro k hk
 have hk : k ≤ l.length := hk
 refine ze _ ?_
 (all_goals refine qgp ?_ <;> (repeat' first | exact trivial | intro hc | refine And.intro ?_ ?_) <;> refine Lf.mk ?_)
 ·obtain ⟨x, hx⟩ := yf (l := l) (k := k) (by omega)
  have hkl : k < l.length := by omega
  have hgx : l[k] = x := by rw [List.getElem?_eq_getElem hkl] at hx; exact Option.some.inj hx
  obtain ⟨hp, hxl, hno⟩ := hl x (List.mem_of_getElem? hx)
  have hxk : l[((k : Nat) : Int).toNat]? = some x := by rw [Int.toNat_natCast]; exact hx
  refine zk x (Int.natCast_nonneg k) hxk ?_
  (all_goals refine qgp ?_ <;> (repeat' first | exact trivial | intro hc | refine And.intro ?_ ?_) <;> refine Lf.mk ?_)
  refine zb wN x hxl (VS.mk (LeL.of_eq rfl)) ?_
  obtain ⟨p1, p2, p3, p4, p5, p6, p7, p8⟩ := hp
  (all_goals refine qgp ?_ <;> (repeat' first | exact trivial | intro hc | refine And.intro ?_ ?_) <;> refine Lf.mk ?_)
  all_goals first
   | (exfalso; exact p1 (by assumption))
   | (exfalso; exact p2 (by assumption))
   | (exfalso; exact p3 (by assumption))
   | (exfalso; exact p4 (by assumption))
   | (exfalso; exact p5 (by assumption))
   | (exfalso; exact p6 (by assumption))
   | (exfalso; exact p7 (by assumption))
   | (exfalso; exact p8 (by assumption))
   | skip
  have hok : (out ++ l.take k).length = out.length + k := by rw [List.length_append, List.length_take]; omega
  refine y7 zaP [] (m, out ++ l.take k, looked + (k : Int) + 1, 0, 0, x1 x) trivial rfl (LeL.refl _) rfl (.cons (.loc (Nat.lt_of_lt_of_le (by decide : 0 < 3) (Nat.le_of_eq rfl))) (.cons .str .nil)) .int (qp _ _ _ _ _) (qp _ _ _ _ _) ?_
  have htk : (l.take (k + 1)).drop k = [x] := by
   rw [List.take_succ_eq_append_getElem hkl, List.drop_left' (by rw [List.length_take]; omega), hgx]
  have htk2 : out ++ l.take (k + 1) = (out ++ l.take k) ++ [x] := by rw [List.take_succ_eq_append_getElem hkl, hgx, List.append_assoc]
  generalize out ++ l.take k = ok at *
  have hf : zaO m (x1 x) = -1 := by unfold zaO; rw [if_neg hno]
  dsimp only
  rw [hf]
  (all_goals refine qgk ?_ <;> (repeat' first | exact trivial | intro hc | refine And.intro ?_ ?_) <;> refine Lf.mk ?_)
  ·exact absurd hc (by decide)
  ·exfalso; omega
  refine zb ze0 [x] ⟨by simp, fun y hy => by rw [List.mem_singleton] at hy; subst hy; exact hxl⟩ (VS.mk (LeL.of_eq (by rw [Int.toNat_natCast, show (((k : Nat) : Int) + 1).toNat = k + 1 by omega, htk]))) ?_
  (all_goals refine qgk ?_ <;> (repeat' first | exact trivial | intro hc | refine And.intro ?_ ?_) <;> refine Lf.mk ?_)
  exact yJ (k + 1) (by show k + 1 ≤ _; omega) (by omega) (by dsimp only; rw [htk2, show looked + (((k + 1 : Nat)) : Int) = looked + (k : Int) + 1 by omega]; rfl) ⟨rfl, rfl, rfl, rfl, trivial⟩
 ·exact absurd trivial hc
 ·have hk2 : k = l.length := by omega
  rw [hk2, List.take_length]
  exact y6 rfl rfl
def kb (par : List UInt8) (av : List zH) : List zH → List zH
 | [] => []
 | t :: r => (if t.text = par ∧ t.kind = 1 then av else [t]) ++ kb par av r
theorem znU (par : List UInt8) (av : List zH) : ∀ a b : List zH, kb par av (a ++ b) = kb par av a ++ kb par av b
 | [], b => rfl
 | t :: a, b => by rw [List.cons_append, kb, znU par av a b, kb, List.append_assoc]
theorem znV (par : List UInt8) (av : List zH) (h : av.length ≤ 2) : ∀ l : List zH, (kb par av l).length ≤ 2 * l.length
 | [] => Nat.le_refl 0
 | t :: l => by
  have h1 := znV par av h l
  rw [kb, List.length_append, List.length_cons]
  split
  ·omega
  ·rw [List.length_cons, List.length_nil]; omega
theorem zux (par : List UInt8) (av : List zH) (h : 1 ≤ av.length) : ∀ l : List zH, l ≠ [] → 1 ≤ (kb par av l).length
 | [], h => absurd rfl h
 | t :: l, _ => by
  rw [kb, List.length_append]
  split
  ·omega
  ·rw [List.length_cons]; omega
def x2 (m : Mcr) (av : List zH) (pos : Int) : List zy := m.body.map fun y => ⟨pos, kb m.par av y.toks⟩
structure znW (m : Mcr) (x : zy) (t0 : zH) (av : List zH) : Prop where
 toks : x.toks = t0 :: av
 len : av.length = 1 ∨ av.length = 2
 no : ∀ t ∈ av, qf t = false
 body : m.body.length ≤ 100 ∧ ∀ y ∈ m.body, y.toks ≠ [] ∧ y.toks.length ≤ 100
 plain : ∀ y ∈ x2 m av x.pos, zec m y
theorem zsZ : za Tryz.prog zcs (zx (fun av : List zH => (av.length = 1 ∨ av.length = 2) ∧ ∀ t ∈ av, qf t = false) (fun av => [.sl 3 (av.map zJ) none]) fun av => .sl 1 [.sl 3 (av.map zJ) none] none) := by
 have h1 := zsX
 have h2 := zsY
 unfold za at h1 h2 ⊢
 refine ⟨h1.1, fun as1 L d L' h => ?_⟩
 obtain ⟨av, ⟨hl, hn⟩, hr⟩ := h
 match av, hl, hn, hr with
 | [t], _, hn, hr => exact h1.2 as1 L d L' ⟨t, hn t (by simp), hr⟩
 | [s, t], _, hn, hr => exact h2.2 as1 L d L' ⟨(s, t), ⟨hn s (by simp), hn t (by simp)⟩, hr⟩
 | [], hl, _, _ => exact absurd hl (by simp)
 | _ :: _ :: _ :: _, hl, _, _ => exact absurd hl (by simp)
def zvc (m : Mcr) (out : List zy) (looked pos : Int) (tl : List zH) (n : Nat) : List Ob := nO m out looked 0 0 ++ [.cells [.str m.name, .sl 1 [.str m.par] none, .sl 2 (m.body.map zS) none], .cells [.int .i64 pos, .sl 3 (tl.map zJ) none], .spare n]
def zxU (m : Mcr) (out : List zy) (looked pos : Int) (tl : List zH) (n : Nat) (y : zy) (Z : List zH) : List Ob := zvc m out looked pos tl n ++ [.cells [.int .i64 y.pos, .sl 3 (y.toks.map zJ) none], .cells [.int .i64 pos, .sl 3 (Z.map zJ) (some 8)], .spare Z.length]
theorem znX (m : Mcr) (out : List zy) (looked pos : Int) (tl : List zH) (n : Nat) : ∀ x ∈ zvc m out looked pos tl n, ClO 6 x := by
 intro x hx
 rcases List.mem_append.1 hx with hx | hx
 ·exact ClO.up (qp m out looked 0 0 x hx) (by decide)
 simp only [List.mem_cons, List.not_mem_nil, or_false] at hx
 rcases hx with rfl | rfl | rfl
 ·exact .cells (.cons .str (.cons .sl (.cons .sl .nil)))
 ·exact .cells (.cons .int (.cons .sl .nil))
 ·exact .spare
theorem zh8 (m : Mcr) (out : List zy) (looked pos : Int) (tl : List zH) (n : Nat) (y : zy) (Z : List zH) : ∀ x ∈ zxU m out looked pos tl n y Z, ClO 9 x := by
 intro x hx
 rcases List.mem_append.1 hx with hx | hx
 ·exact ClO.up (znX m out looked pos tl n x hx) (by decide)
 simp only [List.mem_cons, List.not_mem_nil, or_false] at hx
 rcases hx with rfl | rfl | rfl
 ·exact .cells (.cons .int (.cons .sl .nil))
 ·exact .cells (.cons .int (.cons (.tok (by decide)) .nil))
 ·exact .spare
theorem zpg : za Tryz.prog zf2 (ya (fun ((m, x, t0, av, out, looked, deep) : Mcr × zy × zH × List zH × List zy × Int × Int) => znW m x t0 av ∧ 0 ≤ deep ∧ deep ≤ 5 ∧ out.length + m.body.length ≤ 200 ∧ 0 ≤ looked ∧ looked + (m.body.length : Int) ≤ 4000)
  (fun (m, x, _, _, _, _, deep) => [.loc 0 0, zrl m, zS x, .int .i64 deep]) (fun (m, _, _, _, out, looked, _) => nO m out looked 0 0) (fun _ => .tup []) fun (m, x, _, av, out, looked, _) => nO m (out ++ x2 m av x.pos) (looked + (m.body.length : Int)) 0 0) := by
 refine zf zj Tryz.func111 rfl (by decide) ?_
 rintro ⟨m, ⟨pos, toks⟩, t0, av, out, looked, deep⟩ ⟨hin, hd0, hd1, hol, hk0, hk1⟩
 obtain ⟨htk, hal, hno, hbd, hpl⟩ := hin
 have htk : toks = t0 :: av := htk
 have hd0 : 0 ≤ deep := hd0
 have hd1 : deep ≤ 5 := hd1
 subst htk
 refine ⟨Nat.le_refl _, by simp [Tryz.f111], fun E hE => ?_⟩
 have hE3 : E.L.length = 3 := by rw [hE]; rfl
 refine ze _ ?_
 (all_goals refine qgp ?_ <;> (repeat' first | exact trivial | intro hc | refine And.intro ?_ ?_) <;> refine Lf.mk ?_)
 refine zb zsZ av ⟨hal, hno⟩ (VS.mk (LeL.of_eq (by simp))) ?_
 (all_goals refine qgp ?_ <;> (repeat' first | exact trivial | intro hc | refine And.intro ?_ ?_) <;> refine Lf.mk ?_)
 ·exact absurd trivial hc
 refine xF (qK 9 2 rfl) ?_
 refine yN (α := Nat) (fun k => k ≤ m.body.length) (fun k => [(0, .loc 0 0), (3, .int .i64 deep), (5, .loc 3 0), (6, .loc 4 0), (8, .sl 1 [.sl 3 (av.map zJ) none] none), (9, .sl 2 ((x2 ⟨m.name, m.par, m.body.take k⟩ av pos).map zS) (some 5)), (31, .sl 2 (m.body.map zS) none), (32, .int .i64 m.body.length), (33, .int .i64 k)])
  (fun k => nO m out looked 0 0 ++ [.cells [.str m.name, .sl 1 [.str m.par] none, .sl 2 (m.body.map zS) none], .cells [.int .i64 pos, .sl 3 ((t0 :: av).map zJ) none], .spare (x2 ⟨m.name, m.par, m.body.take k⟩ av pos).length]) (fun k => m.body.length - k) (fun _ => by rw [hE3]; show 3 ≤ 6; decide) 0 (Nat.zero_le _) ?_ ?_
 ·exact yn rfl ⟨rfl, rfl, rfl, rfl, rfl, rfl, rfl, rfl, rfl, trivial⟩
 intro k hk
 have hk : k ≤ m.body.length := hk
 have hcn : (x2 ⟨m.name, m.par, m.body.take k⟩ av pos).length ≤ 100 := by unfold x2; rw [List.length_map, List.length_take]; omega
 refine ze _ ?_
 (all_goals refine qgp ?_ <;> (repeat' first | exact trivial | intro hc | refine And.intro ?_ ?_) <;> refine Lf.mk ?_)
 ·obtain ⟨y, hy⟩ := yf (l := m.body) (k := k) (by omega)
  have hyk : m.body[((k : Nat) : Int).toNat]? = some y := by rw [Int.toNat_natCast]; exact hy
  obtain ⟨hy0, hyl⟩ := hbd.2 y (List.mem_of_getElem? hy)
  refine zk y (Int.natCast_nonneg k) hyk ?_
  (all_goals refine qgp ?_ <;> (repeat' first | exact trivial | intro hc | refine And.intro ?_ ?_) <;> refine Lf.mk ?_)
  refine xF (w7 7 3 [.int .i64 pos, .sl 3 [] (some 8)] rfl ⟨.same, .here, trivial⟩) ?_
  refine yN (α := Nat) (fun j => j ≤ y.toks.length) (fun j => [(0, .loc 0 0), (3, .int .i64 deep), (5, .loc 3 0), (6, .loc 4 0), (8, .sl 1 [.sl 3 (av.map zJ) none] none), (9, .sl 2 ((x2 ⟨m.name, m.par, m.body.take k⟩ av pos).map zS) (some 5)), (31, .sl 2 (m.body.map zS) none), (32, .int .i64 m.body.length), (33, .int .i64 k), (12, .loc 7 0), (41, .sl 3 (y.toks.map zJ) none), (42, .int .i64 y.toks.length), (43, .int .i64 j)])
   (fun j => nO m out looked 0 0 ++ [.cells [.str m.name, .sl 1 [.str m.par] none, .sl 2 (m.body.map zS) none], .cells [.int .i64 pos, .sl 3 ((t0 :: av).map zJ) none], .spare (x2 ⟨m.name, m.par, m.body.take k⟩ av pos).length, .cells [.int .i64 y.pos, .sl 3 (y.toks.map zJ) none], .cells [.int .i64 pos, .sl 3 ((kb m.par av (y.toks.take j)).map zJ) (some 8)], .spare (kb m.par av (y.toks.take j)).length]) (fun j => y.toks.length - j) (fun _ => by rw [hE3]; show 3 ≤ 9; decide) 0 (Nat.zero_le _) ?_ ?_
  ·exact yn rfl ⟨rfl, rfl, rfl, rfl, rfl, rfl, rfl, rfl, rfl, rfl, rfl, rfl, rfl, trivial⟩
  intro j hj
  have hj : j ≤ y.toks.length := hj
  have hz := znV m.par av (by omega) (y.toks.take j)
  have hz2 : (y.toks.take j).length ≤ 100 := by rw [List.length_take]; omega
  refine ze _ ?_
  (all_goals refine qgp ?_ <;> (repeat' first | exact trivial | intro hc | refine And.intro ?_ ?_) <;> refine Lf.mk ?_)
  ·obtain ⟨x, hx⟩ := yf (l := y.toks) (k := j) (by omega)
   have hxj : y.toks[((j : Nat) : Int).toNat]? = some x := by rw [Int.toNat_natCast]; exact hx
   have htk : y.toks.take (j + 1) = y.toks.take j ++ [x] := by rw [List.take_add_one, hx]; rfl
   have hs1 : kb m.par av (y.toks.take (j + 1)) = kb m.par av (y.toks.take j) ++ (if x.text = m.par ∧ x.kind = 1 then av else [x]) := by rw [htk, znU, kb, kb, List.append_nil]
   have hix : w9 x.text [m.par] 0 = if x.text = m.par then 0 else -1 := rfl
   refine zk x (Int.natCast_nonneg j) hxj ?_
   (all_goals refine qgp ?_ <;> (repeat' first | exact trivial | intro hc | refine And.intro ?_ ?_) <;> refine Lf.mk ?_)
   refine zb zdE ([m.par], x.text) (by show 1 ≤ _; decide) (VS.mk (LeL.of_eq rfl)) ?_
   dsimp only
   rw [hix]
   by_cases hp : x.text = m.par
   ·rw [if_pos hp]
    (all_goals refine qgp ?_ <;> (repeat' first | exact trivial | intro hc | refine And.intro ?_ ?_) <;> refine Lf.mk ?_)
    ·rw [if_pos ⟨hp, hc⟩] at hs1
     exact w8 (j + 1) [_] (by show j + 1 ≤ _; omega) (by omega) (by dsimp only; rw [hs1]; simp only [List.map_append, List.length_append, List.length_map]; rfl) (by rw [hE3]; show 3 ≤ 9; decide) (zh8 m out looked pos (t0 :: av) _ y _) ⟨rfl, rfl, rfl, rfl, rfl, rfl, rfl, rfl, rfl, rfl, rfl, rfl, rfl, trivial⟩ (.cons (.loc (by show 0 < 9; decide)) (.cons .int (.cons (.loc (by show 3 < 9; decide)) (.cons (.loc (by show 4 < 9; decide)) (.cons .sl (.cons (.tok (by show 5 < 9; decide)) (.cons .sl (.cons .int (.cons .int (.cons (.loc (by show 7 < 9; decide)) (.cons .sl (.cons .int (.cons .int .nil)))))))))))))
    ·rw [if_neg (fun e => hc e.2)] at hs1
     exact w8 (j + 1) [_] (by show j + 1 ≤ _; omega) (by omega) (by dsimp only; rw [hs1]; simp only [List.map_append, List.length_append, List.length_map]; rfl) (by rw [hE3]; show 3 ≤ 9; decide) (zh8 m out looked pos (t0 :: av) _ y _) ⟨rfl, rfl, rfl, rfl, rfl, rfl, rfl, rfl, rfl, rfl, rfl, rfl, rfl, trivial⟩ (.cons (.loc (by show 0 < 9; decide)) (.cons .int (.cons (.loc (by show 3 < 9; decide)) (.cons (.loc (by show 4 < 9; decide)) (.cons .sl (.cons (.tok (by show 5 < 9; decide)) (.cons .sl (.cons .int (.cons .int (.cons (.loc (by show 7 < 9; decide)) (.cons .sl (.cons .int (.cons .int .nil)))))))))))))
   ·rw [if_neg hp]
    rw [if_neg (fun e => hp e.1)] at hs1
    (all_goals refine qgp ?_ <;> (repeat' first | exact trivial | intro hc | refine And.intro ?_ ?_) <;> refine Lf.mk ?_)
    exact w8 (j + 1) [_] (by show j + 1 ≤ _; omega) (by omega) (by dsimp only; rw [hs1]; simp only [List.map_append, List.length_append, List.length_map]; rfl) (by rw [hE3]; show 3 ≤ 9; decide) (zh8 m out looked pos (t0 :: av) _ y _) ⟨rfl, rfl, rfl, rfl, rfl, rfl, rfl, rfl, rfl, rfl, rfl, rfl, rfl, trivial⟩ (.cons (.loc (by show 0 < 9; decide)) (.cons .int (.cons (.loc (by show 3 < 9; decide)) (.cons (.loc (by show 4 < 9; decide)) (.cons .sl (.cons (.tok (by show 5 < 9; decide)) (.cons .sl (.cons .int (.cons .int (.cons (.loc (by show 7 < 9; decide)) (.cons .sl (.cons .int (.cons .int .nil)))))))))))))
  ·have hjl : j = y.toks.length := by omega
   have hcs : x2 ⟨m.name, m.par, m.body.take (k + 1)⟩ av pos = x2 ⟨m.name, m.par, m.body.take k⟩ av pos ++ [⟨pos, kb m.par av y.toks⟩] := by unfold x2; rw [List.take_add_one, hy]; simp
   rw [hjl, List.take_length] at hc ⊢
   (all_goals refine qgp ?_ <;> (repeat' first | exact trivial | intro hc | refine And.intro ?_ ?_) <;> refine Lf.mk ?_)
   exact w8 (k + 1) [_, _, _] (by show k + 1 ≤ _; omega) (by omega) (by rw [hcs]; simp only [List.map_append, List.length_append, List.length_map]; rfl) (by rw [hE3]; show 3 ≤ 6; decide) (znX m out looked pos (t0 :: av) _) ⟨rfl, rfl, rfl, rfl, rfl, by dsimp only; rw [hcs, List.map_append]; rfl, rfl, rfl, rfl, trivial⟩ (.cons (.loc (by show 0 < 6; decide)) (.cons .int (.cons (.loc (by show 3 < 6; decide)) (.cons (.loc (by show 4 < 6; decide)) (.cons .sl (.cons (.tok (by show 5 < 6; decide)) (.cons .sl (.cons .int (.cons .int .nil)))))))))
  ·have hjl : j = y.toks.length := by omega
   rw [hjl, List.take_length] at hc
   have := zux m.par av (by omega) y.toks hy0
   exfalso
   omega
 ·have hk2 : k = m.body.length := by omega
  rw [hk2, List.take_length]
  have hcl : (x2 m av pos).length = m.body.length := by unfold x2; rw [List.length_map]
  refine zb9 (.cons (.refl _) (.cons (.strip _ _ _) (.cons (.refl _) .nil))) ?_
  refine y7 znT [_, _, _] (m, x2 m av pos, out, looked, deep + 1) ⟨by show 0 ≤ deep + 1; omega, by show deep + 1 ≤ 6; omega, by show out.length + (x2 m av pos).length ≤ 200; rw [hcl]; exact hol, hk0, by show looked + ((x2 m av pos).length : Int) ≤ 4000; rw [hcl]; exact hk1, hpl⟩ rfl (LeL.refl _) rfl (.cons (.loc (Nat.lt_of_lt_of_le (by decide : 0 < 3) (Nat.le_of_eq rfl))) (.cons .sl (.cons .int .nil))) .tup0 (qp _ _ _ _ _) (qp _ _ _ _ _) ?_
  dsimp only
  rw [hcl]
  (all_goals refine qgp ?_ <;> (repeat' first | exact trivial | intro hc | refine And.intro ?_ ?_) <;> refine Lf.mk ?_)
  exact vU (nO m (out ++ x2 m av pos) (looked + (m.body.length : Int)) 0 0) [_, _, _] rfl (Nat.le_refl _) .tup0 (qp _ _ _ _ _)
def qT : List UInt8 := [46, 109, 97, 99, 114, 111]
theorem zgo : za Tryz.prog jN (zx (fun _ : List UInt8 => True) (fun x => [.sl 1 [] none, .str x]) fun _ => .bool false) := by
 refine zf zj Tryz.func170 rfl (by decide) ?_
 rintro x _
 refine ⟨Nat.le_refl _, by simp [Tryz.f170], fun E hE => ?_⟩
 refine ze _ ?_
 (all_goals refine qgp ?_ <;> (repeat' first | exact trivial | intro hc | refine And.intro ?_ ?_) <;> refine Lf.mk ?_)
 refine zb zdE ([], x) (by show 0 ≤ _; decide) (VS.mk (LeL.of_eq rfl)) ?_
 (all_goals refine qgp ?_ <;> (repeat' first | exact trivial | intro hc | refine And.intro ?_ ?_) <;> refine Lf.mk ?_)
 exact zd (VS.mk (LeD.of_eq rfl))
theorem zwb (m : Mcr) (out : List zy) (looked : Int) : ∀ x ∈ mO out looked 0 0 ++ [.cells [.str m.name, .sl 1 [.str m.par] none, .sl 2 (m.body.map zS) none]], ClO 3 x := by
 intro x hx
 rcases List.mem_append.1 hx with hx | hx
 ·exact ClO.up (zb3 out looked 0 0 x hx) (by decide)
 simp only [List.mem_cons, List.not_mem_nil, or_false] at hx
 rcases hx with rfl
 exact .cells (.cons .str (.cons .sl (.cons .sl .nil)))
theorem zlK : za Tryz.prog zeF (ya (fun ((m, _, out, _) : Mcr × Int × List zy × Int) => yH m.name = true ∧ yH m.par = true ∧ m.name.length ≤ 1000 ∧ m.par.length ≤ 1000 ∧ m.name ≠ [] ∧ m.body.length ≤ 1000 ∧ out.length ≤ 200)
  (fun (m, pos, _, _) => [.loc 0 0, .sl 2 (.agg [.int .i64 pos, .sl 3 [zJ ⟨1, 0, qT⟩, zJ ⟨1, 0, m.name⟩, zJ ⟨1, 0, m.par⟩] none] :: m.body.map zS) none]) (fun (_, _, out, looked) => mO out looked 0 0) (fun _ => .tup []) fun (m, _, out, looked) => nO m out looked 0 0) := by
 refine zf zj Tryz.func140 rfl (by decide) ?_
 rintro ⟨m, pos, out, looked⟩ ⟨h1, h2, h3, h4, h5, h6, h7⟩
 refine ⟨?_, by simp [Tryz.f140], fun E hE => ?_⟩
 ·show 2 ≤ 3; decide
 have hE2 : E.L.length = 2 := by rw [hE]; rfl
 have hdrop : List.drop (Int.toNat 1) (List.take (((D.agg [D.int .i64 pos, D.sl 3 [zJ ⟨1, 0, qT⟩, zJ ⟨1, 0, m.name⟩, zJ ⟨1, 0, m.par⟩] none] :: m.body.map zS).length : Nat) : Int).toNat (D.agg [D.int .i64 pos, D.sl 3 [zJ ⟨1, 0, qT⟩, zJ ⟨1, 0, m.name⟩, zJ ⟨1, 0, m.par⟩] none] :: m.body.map zS)) = m.body.map zS := by
  rw [Int.toNat_natCast, List.take_length]; rfl
 have hlo : (mO out looked 0 0).length = 2 := rfl
 refine ze _ ?_
 (all_goals refine qgp ?_ <;> (repeat' first | exact trivial | intro hc | refine And.intro ?_ ?_) <;> refine Lf.mk ?_)
 refine xF (σ' := [(0, .loc 0 0), (1, .sl 2 (.agg [.int .i64 pos, .sl 3 [zJ ⟨1, 0, qT⟩, zJ ⟨1, 0, m.name⟩, zJ ⟨1, 0, m.par⟩] none] :: m.body.map zS) none), (4, .sl 3 [zJ ⟨1, 0, qT⟩, zJ ⟨1, 0, m.name⟩, zJ ⟨1, 0, m.par⟩] none), (5, .loc 2 0), (16, .sl 3 [zJ ⟨1, 0, m.name⟩, zJ ⟨1, 0, m.par⟩] none), (17, .int .i64 2), (18, .int .i64 0)]) (L' := mO out looked 0 0 ++ [.cells [.str [], .nilsl, .sl 2 (m.body.map zS) none]])
  (yn (by rw [hdrop]; rfl) ⟨rfl, rfl, rfl, rfl, rfl, rfl, rfl, trivial⟩) ?_
 refine qO (ze _ ?_)
 (all_goals refine qgp ?_ <;> (repeat' first | exact trivial | intro hc | refine And.intro ?_ ?_) <;> refine Lf.mk ?_)
 ·exact absurd trivial hc
 refine zb j5 m.name (by show m.name.length ≤ _; omega) (VS.mk (LeL.of_eq rfl)) ?_
 rw [h1]
 (all_goals refine qgp ?_ <;> (repeat' first | exact trivial | intro hc | refine And.intro ?_ ?_) <;> refine Lf.mk ?_)
 ·exact absurd hc (by decide)
 refine zb zgo m.name trivial (VS.mk (.cons (.nil 1) (LeL.refl _))) ?_
 (all_goals refine qgp ?_ <;> (repeat' first | exact trivial | intro hc | refine And.intro ?_ ?_) <;> refine Lf.mk ?_)
 ·exact absurd hc (by decide)
 rotate_left
 ·exact absurd trivial hc
 have hcm : qf ⟨1, 0, m.par⟩ = false := by unfold qf; exact decide_eq_false fun e => absurd (show (1 : Int) = 3 from e.1) (by decide)
 refine vA (ze _ ?_)
 (all_goals refine qgp ?_ <;> (repeat' first | exact trivial | intro hc | refine And.intro ?_ ?_) <;> refine Lf.mk ?_)
 refine zb zae ⟨1, 0, m.par⟩ trivial (VS.mk (LeL.of_eq rfl)) ?_
 rw [hcm]
 (all_goals refine qgp ?_ <;> (repeat' first | exact trivial | intro hc | refine And.intro ?_ ?_) <;> refine Lf.mk ?_)
 ·exact absurd hc (by decide)
 ·exact absurd trivial hc
 refine zb j5 m.par (by show m.par.length ≤ _; omega) (VS.mk (LeL.of_eq rfl)) ?_
 rw [h2]
 (all_goals refine qgp ?_ <;> (repeat' first | exact trivial | intro hc | refine And.intro ?_ ?_) <;> refine Lf.mk ?_)
 ·exact absurd hc (by decide)
 refine zb zgo m.par trivial (VS.mk (.cons (.nil 1) (LeL.refl _))) ?_
 (all_goals refine qgp ?_ <;> (repeat' first | exact trivial | intro hc | refine And.intro ?_ ?_) <;> refine Lf.mk ?_)
 ·exact absurd hc (by decide)
 ·exact absurd hc h5
 refine vA (xF (xZ (zda 2 [.str m.name, .sl 1 [.str m.par] none, .sl 2 (m.body.map zS) none] rfl (.cons (.refl _) (.cons (.strip _ _ _) (.cons (.refl _) .nil))))
  (zhW (σ' := [(0, .loc 0 0), (1, .sl 2 (.agg [.int .i64 pos, .sl 3 [zJ ⟨1, 0, qT⟩, zJ ⟨1, 0, m.name⟩, zJ ⟨1, 0, m.par⟩] none] :: m.body.map zS) none), (5, .loc 2 0), (16, .sl 3 [zJ ⟨1, 0, m.name⟩, zJ ⟨1, 0, m.par⟩] none), (17, .int .i64 2), (18, .int .i64 2)]) (mO out looked 0 0 ++ [.cells [.str m.name, .sl 1 [.str m.par] none, .sl 2 (m.body.map zS) none]]) [_, _, _] rfl (by rw [hE2]; show 2 ≤ 3; decide) (zwb m out looked) ⟨rfl, rfl, rfl, rfl, rfl, rfl, trivial⟩
    (.cons (.loc (by show 0 < 3; decide)) (.cons .sl (.cons (.loc (by show 2 < 3; decide)) (.cons .sl (.cons .int (.cons .int .nil)))))))) (ze _ ?_))
 (all_goals refine qgp ?_ <;> (repeat' first | exact trivial | intro hc | refine And.intro ?_ ?_) <;> refine Lf.mk ?_)
 ·exact absurd hc h5
 refine y7 zhs [_] (out, looked, 0, 0, m.name) trivial rfl (LeL.refl _) rfl (.cons (.loc (Nat.lt_of_lt_of_le (by decide : 0 < 2) (Nat.le_of_eq rfl))) (.cons .str .nil)) .int (zb3 _ _ _ _) (zb3 _ _ _ _) ?_
 dsimp only
 (all_goals refine qgp ?_ <;> (repeat' first | exact trivial | intro hc | refine And.intro ?_ ?_) <;> refine Lf.mk ?_)
 refine zdb [0, 1, 3] rfl rfl (.cons (o := .cells (.sl 3 [zrl m] (some 3) :: (nC m out looked 0 0).tail)) rfl ⟨_, rfl, .cons (.tok rfl) (.cons (.flat .nilsl) (.cons (.tok rfl) (.cons (.flat .int) (.cons (.flat .int) (.cons (.flat .int) .nil)))))⟩
  (.cons (o := .spare out.length) rfl rfl (.cons (o := .spare 1) rfl rfl .nil))) ?_
 exact ClD.tup0 (n := 2) _ fun k hk => by
  match k, hk with
  | 0, _ => rfl
  | 1, _ => rfl
end Go.Proofs.YtnkdeacghopkiaaGreatDoor
namespace Go.Proofs.YtnkdeacghopkiaaGreatDoor
open Go Go.Plat
set_option linter.unusedVariables false
set_option linter.unusedSimpArgs false
set_option maxRecDepth 100000
set_option maxHeartbeats 2000000
attribute [local irreducible] AWP zA yh zE zn yu z6 zF zX zY zq za zL yv zo zZ yq yr yj ym zr zu zz xG yS yt yA zK vj xW ql yB yH x4 xV wk okC puF puR xR zO x0
end Go.Proofs.YtnkdeacghopkiaaGreatDoor
namespace Go.Proofs.YtnkdeacghopkiaaGreatDoor
open Go Go.Plat
set_option linter.unusedVariables false
set_option linter.unusedSimpArgs false
set_option maxRecDepth 100000
set_option maxHeartbeats 2000000
attribute [local irreducible] AWP zA yh zE zn yu z6 zF zX zY zq za zL yv zo zZ yq yr yj ym zr zu zz xG yS yt yA zK vj xW ql yH x4 xV wk okC puF puR xR zO x0
theorem zs0 (a b : List UInt8) : yp 10 (a ++ 10 :: b) = yp 10 a ++ yp 10 b := by
 induction a with
 | nil =>
  show (if (10 : UInt8) = 10 then [] :: yp 10 b else _) = _
  rw [if_pos rfl]; rfl
 | cons c a ih =>
  rw [List.cons_append, yp, yp, ih]
  split
  ·rfl
  ·have h := jH 10 a
   cases hs : yp 10 a with
   | nil => rw [hs] at h; simp at h
   | cons x r => rfl
end Go.Proofs.YtnkdeacghopkiaaGreatDoor
namespace Go.Proofs.YtnkdeacghopkiaaGreatDoor
open Go Go.Plat
set_option linter.unusedVariables false
set_option linter.unusedSimpArgs false
set_option maxRecDepth 100000
set_option maxHeartbeats 2000000
attribute [local irreducible] AWP zA yh zE zn yu z6 zF zX zY zq za zL yv zo zZ yq yr yj ym zr zu zz
theorem zk8 : ∀ (a : List UInt8), (∀ c ∈ a, c ≠ 10) → yp 10 a = [a]
 | [], _ => rfl
 | c :: a, h => by
  have ih := zk8 a fun x hx => h x (List.mem_cons_of_mem _ hx)
  rw [yp, if_neg (h c List.mem_cons_self), ih]
theorem zs1 {t : List UInt8} {ts : List zH} (rest : List UInt8) (k : Int) (out : List zy) (hn : ∀ c ∈ t, c ≠ 10) (hx : ql t = (ts, 0)) (hs : ts.length ≠ 0) : wl (yp 10 (t ++ 10 :: rest)) k out = wl (yp 10 rest) (k + 1) (out ++ [⟨k, ts⟩]) := by
 rw [zs0, zk8 _ hn, List.singleton_append, zdD, hx, if_neg (fun h => h rfl), if_neg hs]
theorem zbt {t : List UInt8} {ts : List zH} (rest : List UInt8) (k : Int) (out : List zy) (hn : t.all (fun c => c != 10) = true) (hx : ql t = (ts, 0)) (hs : ts.length ≠ 0) : wl (yp 10 (t ++ 10 :: rest)) k out = wl (yp 10 rest) (k + 1) (out ++ [⟨k, ts⟩]) :=
 zs1 rest k out (fun c hc e => by have := List.all_eq_true.1 hn c hc; subst e; exact absurd this (by decide)) hx hs
theorem zs2 (k : Int) (out : List zy) : wl (yp 10 []) k out = (out, 0, 0) := by
 show wl [[]] k out = _
 rw [zdD, if_neg (by decide +kernel), if_pos (by decide +kernel)]
 rfl
attribute [local irreducible] Lib.itoa zg.kids zg.kind zg.n zg.name xp wr x9 xr xl xe w0 xy wo xm xN xS yB yH qo yD yY xQ xo wK zh xg w2 zP zV w1 wb yy
def zds : List UInt8 := [46, 101, 110, 100, 109]
structure Md where
 h : zy
 name : List UInt8
 par : List UInt8
 body : List zy
 e : zy
structure znY (r : Md) : Prop where
 head : r.h.toks = [⟨1, 0, qT⟩, ⟨1, 0, r.name⟩, ⟨1, 0, r.par⟩]
 nm : yH r.name = true ∧ yH r.par = true ∧ r.name.length ≤ 1000 ∧ r.par.length ≤ 1000 ∧ r.name ≠ [] ∧ r.body.length ≤ 1000
 fin : r.e.toks = [⟨1, 0, zds⟩]
 body : ∀ x ∈ r.body, vf (x1 x) ∧ x.toks.length ≤ 1000000000
def mdL (r : Md) : List zy := r.h :: (r.body ++ [r.e])
def mdM (r : Md) : Mcr := ⟨r.name, r.par, r.body⟩
theorem zkm {r : Md} (h : znY r) : x1 r.h = qT ∧ x1 r.e = zds := by unfold x1; rw [h.head, h.fin]; exact ⟨rfl, rfl⟩
theorem zlY {r : Md} (rest : List zy) : (mdL r ++ rest)[0]? = some r.h ∧ (mdL r ++ rest)[r.body.length + 1]? = some r.e ∧ (mdL r ++ rest).length = r.body.length + 2 + rest.length := by
 unfold mdL
 refine ⟨rfl, ?_, ?_⟩
 ·rw [List.cons_append, List.getElem?_cons_succ, List.append_assoc, List.getElem?_append_right (Nat.le_refl _), Nat.sub_self]; rfl
 ·simp only [List.cons_append, List.length_cons, List.length_append, List.length_nil]; omega
theorem zxV {r : Md} (rest : List zy) {k : Nat} (h0 : 0 < k) (h1 : k < r.body.length + 1) : ∃ x ∈ r.body, (mdL r ++ rest)[k]? = some x := by
 obtain ⟨j, rfl⟩ : ∃ j, k = j + 1 := ⟨k - 1, by omega⟩
 have hj : j < r.body.length := by omega
 refine ⟨r.body[j], List.getElem_mem hj, ?_⟩
 unfold mdL
 rw [List.cons_append, List.getElem?_cons_succ, List.append_assoc, List.getElem?_append_left hj, List.getElem?_eq_getElem hj]
theorem zph : za Tryz.prog zoU (zx (fun ((r, rest) : Md × List zy) => znY r ∧ r.body.length + rest.length ≤ 1000000)
  (fun (r, rest) => [.sl 2 ((mdL r ++ rest).map zS) none, .str qT, .str zds]) fun (r, _) => .tup [.int .i64 (r.body.length + 1 : Nat), .int .i64 (-1)]) := by
 refine zf zj Tryz.func139 rfl (by decide) ?_
 rintro ⟨r, rest⟩ ⟨hr, hl⟩
 have hl : r.body.length + rest.length ≤ 1000000 := hl
 obtain ⟨hh, he⟩ := zkm hr
 dsimp only
 obtain ⟨a1, a2, a3⟩ := zlY (r := r) rest
 have a4 := fun k => zxV (r := r) rest (k := k)
 generalize mdL r ++ rest = l at *
 refine ⟨Nat.le_refl _, by simp [Tryz.f139], fun E hE => ?_⟩
 refine ze _ ?_
 (all_goals refine qgp ?_ <;> (repeat' first | exact trivial | intro hc | refine And.intro ?_ ?_) <;> refine Lf.mk ?_)
 refine ye (α := Nat) (fun k => k ≤ r.body.length + 1) (fun k => [(0, .sl 2 (l.map zS) none), (1, .str qT), (2, .str zds), (8, .int .i64 (if k = 0 then 0 else 1)), (9, .int .i64 (-1)), (12, .sl 2 (l.map zS) none), (13, .int .i64 l.length), (14, .int .i64 k)]) (fun _ => []) (fun k => r.body.length + 2 - k) (fun _ => by simp [hE]) 0 (Nat.zero_le _) ?_ ?_
 ·(repeat' (first | (refine VS.mk ?_) | exact trivial | exact rfl | refine And.intro ?_ ?_))
 intro k hk
 have hk : k ≤ r.body.length + 1 := hk
 have key : ∃ x, l[k]? = some x ∧ x.toks.length ≤ 1000000000 ∧ ((k = 0 ∧ x1 x = qT) ∨ (0 < k ∧ k < r.body.length + 1 ∧ vf (x1 x)) ∨ (k = r.body.length + 1 ∧ x1 x = zds)) := by
  by_cases h0 : k = 0
  ·subst h0; exact ⟨_, a1, by rw [hr.head]; show 3 ≤ _; decide, .inl ⟨rfl, hh⟩⟩
  by_cases h1 : k = r.body.length + 1
  ·subst h1; exact ⟨_, a2, by rw [hr.fin]; decide, .inr (.inr ⟨rfl, he⟩)⟩
  ·obtain ⟨x, hx, hg⟩ := a4 k (by omega) (by omega)
   exact ⟨x, hg, (hr.body x hx).2, .inr (.inl ⟨by omega, by omega, (hr.body x hx).1⟩)⟩
 obtain ⟨x, hx, hxl, hcase⟩ := key
 have hkl : k < l.length := by omega
 have hxk : l[((k : Nat) : Int).toNat]? = some x := by rw [Int.toNat_natCast]; exact hx
 refine ze _ ?_
 (all_goals refine qgp ?_ <;> (repeat' first | exact trivial | intro hc | refine And.intro ?_ ?_) <;> refine Lf.mk ?_)
 ·refine zk x (Int.natCast_nonneg k) hxk ?_
  (all_goals refine qgp ?_ <;> (repeat' first | exact trivial | intro hc | refine And.intro ?_ ?_) <;> refine Lf.mk ?_)
  refine zb wN x hxl (VS.mk (LeL.of_eq rfl)) ?_
  rcases hcase with ⟨h0, hq⟩ | ⟨h0, h1, p1, p2, p3, p4, p5, p6, p7, p8⟩ | ⟨h0, hq⟩
  ·rw [hq]
   subst h0
   (all_goals refine qgp ?_ <;> (repeat' first | exact trivial | intro hc | refine And.intro ?_ ?_) <;> refine Lf.mk ?_)
   all_goals first
    | (exfalso; exact (by assumption : ¬ True) trivial)
    | (exfalso; exact absurd (by assumption : qT = zds) (by decide))
    | skip
   refine zB 1 (by show 1 ≤ _; omega) (by omega) ?_
   (repeat' (first | (refine VS.mk ?_) | exact trivial | exact rfl | refine And.intro ?_ ?_))
  ·have hd : (if k = 0 then (0 : Int) else 1) = 1 := if_neg (by omega)
   rw [hd]
   (all_goals refine qgp ?_ <;> (repeat' first | exact trivial | intro hc | refine And.intro ?_ ?_) <;> refine Lf.mk ?_)
   all_goals first
    | (exfalso; exact p1 (by assumption))
    | (exfalso; exact p4 (by assumption))
    | (exfalso; exact p7 (by assumption))
    | skip
   refine zB (k + 1) (by show k + 1 ≤ _; omega) (by omega) ?_
   (repeat' (first | (refine VS.mk ?_) | exact trivial | exact rfl | refine And.intro ?_ ?_))
  ·have hd : (if k = 0 then (0 : Int) else 1) = 1 := if_neg (by omega)
   rw [hq, hd]
   (all_goals refine qgp ?_ <;> (repeat' first | exact trivial | intro hc | refine And.intro ?_ ?_) <;> refine Lf.mk ?_)
   all_goals first
    | (exfalso; exact (by assumption : ¬ True) trivial)
    | (exfalso; exact absurd (by assumption : zds = qT) (by decide))
    | skip
   subst h0
   exact zd (VS.mk (LeD.refl _))
theorem zlL : za Tryz.prog zfj (ya (fun ((r, rest, out, _, deep) : Md × List zy × List zy × Int × Int) => znY r ∧ r.body.length + rest.length ≤ 1000000 ∧ out.length ≤ 200)
  (fun (r, rest, _, _, deep) => [.loc 0 0, .sl 2 ((mdL r ++ rest).map zS) none, .int .i64 deep]) (fun (_, _, out, looked, _) => mO out looked 0 0) (fun (r, _, _, _, _) => .int .i64 (r.body.length + 2 : Nat)) fun (r, _, out, looked, _) => nO (mdM r) out looked 0 0) := by
 refine zf zj Tryz.func108 rfl (by decide) ?_
 rintro ⟨r, rest, out, looked, deep⟩ ⟨hr, hl, ho⟩
 have hl : r.body.length + rest.length ≤ 1000000 := hl
 have ho : out.length ≤ 200 := ho
 obtain ⟨hh, he⟩ := zkm hr
 have hhl : r.h.toks.length = 3 := by rw [hr.head]; rfl
 have hel : r.e.toks.length = 1 := by rw [hr.fin]; rfl
 obtain ⟨a1, a2, a3⟩ := zlY (r := r) rest
 have hcut : ((mdL r ++ rest).take (r.body.length + 1)).drop 0 = r.h :: r.body := by
  unfold mdL
  rw [List.cons_append, List.take_succ_cons, List.drop_zero, List.append_assoc, List.take_left' rfl]
 have q0 : (mdL r ++ rest)[(0 : Int).toNat]? = some r.h := a1
 have q1 : (mdL r ++ rest)[((r.body.length + 1 : Nat) : Int).toNat]? = some r.e := by rw [Int.toNat_natCast]; exact a2
 have hhd : zS r.h = .agg [.int .i64 r.h.pos, .sl 3 [zJ ⟨1, 0, qT⟩, zJ ⟨1, 0, r.name⟩, zJ ⟨1, 0, r.par⟩] none] := by
  show D.agg [.int .i64 r.h.pos, .sl 3 (r.h.toks.map zJ) none] = _
  rw [hr.head]; rfl
 refine ⟨by show 2 ≤ 3; decide, by simp [Tryz.f108], fun E hE => ?_⟩
 have hE2 : E.L.length = 2 := by rw [hE]; rfl
 show AWP _ _ _ _ (vQ _ _ _ _ (nO (mdM r) out looked 0 0)) _ (mO out looked 0 0)
 dsimp only
 generalize hL : mdL r ++ rest = l at *
 refine ze _ ?_
 (all_goals refine qgp ?_ <;> (repeat' first | exact trivial | intro hc | refine And.intro ?_ ?_) <;> refine Lf.mk ?_)
 refine zk r.h (by decide) q0 ?_
 (all_goals refine qgp ?_ <;> (repeat' first | exact trivial | intro hc | refine And.intro ?_ ?_) <;> refine Lf.mk ?_)
 refine zb wN r.h (by show _ ≤ _; omega) (VS.mk (LeL.of_eq rfl)) ?_
 rw [hh]
 (all_goals refine qgp ?_ <;> (repeat' first | exact trivial | intro hc | refine And.intro ?_ ?_) <;> refine Lf.mk ?_)
 all_goals first
  | (exfalso; exact (by assumption : ¬ qT = [46, 109, 97, 99, 114, 111]) rfl)
  | skip
 refine zb zph (r, rest) ⟨hr, hl⟩ (VS.mk (LeL.of_eq (by rw [← hL]; rfl))) ?_
 dsimp only
 (all_goals refine qgp ?_ <;> (repeat' first | exact trivial | intro hc | refine And.intro ?_ ?_) <;> refine Lf.mk ?_)
 refine zk r.e (Int.natCast_nonneg _) q1 ?_
 (all_goals refine qgp ?_ <;> (repeat' first | exact trivial | intro hc | refine And.intro ?_ ?_) <;> refine Lf.mk ?_)
 refine zk r.h (by decide) q0 ?_
 (all_goals refine qgp ?_ <;> (repeat' first | exact trivial | intro hc | refine And.intro ?_ ?_) <;> refine Lf.mk ?_)
 refine zb wN r.h (by show _ ≤ _; omega) (VS.mk (LeL.of_eq rfl)) ?_
 rw [hh]
 (all_goals refine qgp ?_ <;> (repeat' first | exact trivial | intro hc | refine And.intro ?_ ?_) <;> refine Lf.mk ?_)
 all_goals first
  | (exfalso; exact (by assumption : ¬ True) trivial)
  | (exfalso; exact absurd (by assumption : qT = [46, 105, 102]) (by decide))
  | skip
 refine zk r.h (by decide) q0 ?_
 (all_goals refine qgp ?_ <;> (repeat' first | exact trivial | intro hc | refine And.intro ?_ ?_) <;> refine Lf.mk ?_)
 refine zb wN r.h (by show _ ≤ _; omega) (VS.mk (LeL.of_eq rfl)) ?_
 rw [hh]
 (all_goals refine qgp ?_ <;> (repeat' first | exact trivial | intro hc | refine And.intro ?_ ?_) <;> refine Lf.mk ?_)
 all_goals first
  | (exfalso; exact (by assumption : ¬ qT = [46, 109, 97, 99, 114, 111]) rfl)
  | skip
 refine zeC zlK (mdM r, r.h.pos, out, looked) ⟨hr.nm.1, hr.nm.2.1, hr.nm.2.2.1, hr.nm.2.2.2.1, hr.nm.2.2.2.2.1, hr.nm.2.2.2.2.2, ho⟩ rfl (LeL.of_eq (by rw [show (0 : Int).toNat = 0 from rfl, Int.toNat_natCast, hcut, List.map_cons, hhd]; rfl)) ?_
 (all_goals refine qgp ?_ <;> (repeat' first | exact trivial | intro hc | refine And.intro ?_ ?_) <;> refine Lf.mk ?_)
 exact y6 (by show D.int .i64 _ = D.int .i64 _; congr 1) rfl
theorem zk9 {S : List zy} {k : Nat} {x : zy} {r : List zy} (h : S.drop k = x :: r) : S[k]? = some x ∧ k < S.length ∧ S.drop (k + 1) = r := by
 have hk : k < S.length := by
  rcases Nat.lt_or_ge k S.length with h1 | h1
  ·exact h1
  ·rw [List.drop_eq_nil_of_le h1] at h; cases h
 have h2 := List.drop_eq_getElem_cons hk
 rw [h2] at h
 injection h with h3 h4
 exact ⟨by rw [List.getElem?_eq_getElem hk, h3], hk, h4⟩
inductive kI where
 | pl (x : zy)
 | ca (x : zy) (av : List zH)
def nsL : kI → zy
 | .pl x => x
 | .ca x _ => x
def nsO (m : Mcr) : kI → List zy
 | .pl x => [x]
 | .ca x av => x2 m av x.pos
def znZ (m : Mcr) : kI → Prop
 | .pl x => zec m x
 | .ca x av => znW m x ⟨1, 0, m.name⟩ av
def xD (m : Mcr) : List kI → List zy
 | [] => []
 | s :: l => nsO m s ++ xD m l
def nsK (m : Mcr) : kI → Nat
 | .pl _ => 1
 | .ca _ _ => 1 + m.body.length
def vE (m : Mcr) : List kI → Nat
 | [] => 0
 | s :: l => nsK m s + vE m l
inductive NSt where
 | ini
 | go (rest : List kI) (out : List zy) (looked : Int) (at_ : Nat)
def zyf (m : Mcr) (S O : List zy) (K : Int) : NSt → Prop
 | .ini => True
 | .go rest out lk k => (∀ x ∈ rest, znZ m x) ∧ rest.map nsL = S.drop k ∧ out ++ xD m rest = O ∧ lk + (vE m rest : Int) = K ∧ 0 ≤ lk ∧ k ≤ S.length
def zuy : NSt → Nat
 | .ini => 0
 | .go _ _ _ k => k
def zyg (m : Mcr) : NSt → List Ob
 | .ini => mO [] 0 0 0
 | .go _ out lk _ => nO m out lk 0 0
def zyh (l : List kI) : NSt → Nat
 | .ini => l.length + 1
 | .go rest _ _ _ => rest.length
theorem zpi : za Tryz.prog q9 (ya (fun ((r, l) : Md × List kI) => znY r ∧ vf r.name ∧ (∀ s ∈ l, znZ (mdM r) s) ∧ r.body.length + l.length ≤ 1000 ∧ (xD (mdM r) l).length ≤ 200 ∧ vE (mdM r) l ≤ 3000)
  (fun (r, l) => [.loc 0 0, .sl 2 ((mdL r ++ l.map nsL).map zS) none, .int .i64 0]) (fun _ => mO [] 0 0 0) (fun _ => .tup []) fun (r, l) => nO (mdM r) (xD (mdM r) l) (1 + (vE (mdM r) l : Int)) 0 0) := by
 refine zf zj Tryz.func86 rfl (by decide) ?_
 rintro ⟨r, l⟩ ⟨hr, hnm, hs, hl, ho, hk⟩
 have hl : r.body.length + l.length ≤ 1000 := hl
 have hs : ∀ s ∈ l, znZ (mdM r) s := hs
 have ho : (xD (mdM r) l).length ≤ 200 := ho
 have hk : vE (mdM r) l ≤ 3000 := hk
 have hhl : r.h.toks.length = 3 := by rw [hr.head]; rfl
 refine ⟨by show 2 ≤ 3; decide, by simp [Tryz.f86], fun E hE => ?_⟩
 have hE2 : E.L.length = 2 := by rw [hE]; rfl
 show AWP _ _ _ _ (vQ _ _ _ _ (nO (mdM r) (xD (mdM r) l) (1 + (vE (mdM r) l : Int)) 0 0)) _ (mO [] 0 0 0)
 dsimp only
 have q0 := (zlY (r := r) (l.map nsL)).1
 have q3 := (zlY (r := r) (l.map nsL)).2.2
 have qd : (mdL r ++ l.map nsL).drop (r.body.length + 2) = l.map nsL := List.drop_left' (by unfold mdL; simp)
 rw [List.length_map] at q3
 generalize hO : xD (mdM r) l = O at *
 generalize hK : 1 + (vE (mdM r) l : Int) = K at *
 generalize hS : mdL r ++ l.map nsL = S at *
 have hmn : (mdM r).name = r.name := rfl
 have hbl : (mdM r).body.length = r.body.length := rfl
 refine ze _ ?_
 (all_goals refine qgp ?_ <;> (repeat' first | exact trivial | intro hc | refine And.intro ?_ ?_) <;> refine Lf.mk ?_)
 refine yN (α := NSt) (zyf (mdM r) S O K) (fun s => [(0, .loc 0 0), (1, .sl 2 (S.map zS) none), (2, .int .i64 0), (7, .int .i64 (zuy s))])
  (zyg (mdM r)) (zyh l) (fun s => by rw [hE2]; cases s; exact Nat.le_refl 2; show 2 ≤ 3; decide) .ini trivial ?_ ?_
 ·exact yn rfl ⟨rfl, rfl, rfl, rfl, trivial⟩
 rintro (_ | ⟨rest, out1, lk, k⟩) hi
 ·show AWP _ _ _ _ _ _ (mO [] 0 0 0)
  dsimp only [zuy]
  refine ze _ ?_
  (all_goals refine qgp ?_ <;> (repeat' first | exact trivial | intro hc | refine And.intro ?_ ?_) <;> refine Lf.mk ?_)
  ·refine zk r.h (Int.natCast_nonneg 0) q0 ?_
   (all_goals refine qgp ?_ <;> (repeat' first | exact trivial | intro hc | refine And.intro ?_ ?_) <;> refine Lf.mk ?_)
   refine zb wN r.h (by show _ ≤ _; omega) (VS.mk (LeL.of_eq rfl)) ?_
   rw [(zkm hr).1]
   (all_goals refine qgp ?_ <;> (repeat' first | exact trivial | intro hc | refine And.intro ?_ ?_) <;> refine Lf.mk ?_)
   all_goals first
    | (exfalso; exact (by assumption : ¬ True) trivial)
    | (exfalso; exact absurd (by assumption : ¬ qT = [46, 109, 97, 99, 114, 111]) (by decide))
    | skip
   refine zeC zlL (r, l.map nsL, [], 1, 0) ⟨hr, by show r.body.length + (l.map nsL).length ≤ _; rw [List.length_map]; omega, by show 0 ≤ 200; decide⟩ rfl (LeL.of_eq (by dsimp only; rw [hS]; rfl)) ?_
   (all_goals refine qgp ?_ <;> (repeat' first | exact trivial | intro hc | refine And.intro ?_ ?_) <;> refine Lf.mk ?_)
   exact yJ (NSt.go l [] 1 (r.body.length + 2)) ⟨hs, qd.symm, by rw [List.nil_append, hO], hK, by decide, by rw [q3]; omega⟩ (by show l.length < l.length + 1; omega) rfl ⟨rfl, rfl, rfl, by show D.int .i64 (((0 : Nat) : Int) + ((r.body.length + 2 : Nat) : Int)) = D.int .i64 ((r.body.length + 2 : Nat) : Int); congr 1; omega, trivial⟩
  ·exact absurd trivial hc
 obtain ⟨i1, i2, i3, i4, i5, i6⟩ := hi
 show AWP _ _ _ _ _ _ (nO (mdM r) out1 lk 0 0)
 dsimp only [zuy] at i1 i2 i3 i4 i5 i6 ⊢
 match rest, i1, i2, i3, i4 with
 | [], _, i2, i3, i4 =>
  have hk : k = S.length := by
   have : (S.drop k).length = 0 := by rw [← i2]; rfl
   rw [List.length_drop] at this
   omega
  have e1 : out1 = O := by rw [← i3]; exact (List.append_nil _).symm
  have e2 : lk = K := by rw [← i4]; exact (Int.add_zero _).symm
  rw [e1, e2]
  refine ze _ ?_
  (all_goals refine qgp ?_ <;> (repeat' first | exact trivial | intro hc | refine And.intro ?_ ?_) <;> refine Lf.mk ?_)
  exact y6 rfl rfl
 | .pl x :: t, i1, i2, i3, i4 =>
  obtain ⟨hx, hkl, hdr⟩ := zk9 (x := x) (r := t.map nsL) (by rw [← i2]; rfl)
  obtain ⟨hp, hxl, hno⟩ : zec (mdM r) x := i1 _ List.mem_cons_self
  have hxk : S[((k : Nat) : Int).toNat]? = some x := by rw [Int.toNat_natCast]; exact hx
  have hlo : out1.length + 1 ≤ 200 := by
   have : (out1 ++ xD (mdM r) (.pl x :: t)).length ≤ 200 := by rw [i3]; exact ho
   rw [List.length_append] at this
   have h1 : (xD (mdM r) (.pl x :: t)).length = 1 + (xD (mdM r) t).length := by show ([x] ++ xD (mdM r) t).length = _; rw [List.length_append]; rfl
   omega
  have hlk : lk + 1 ≤ 4000 := by
   have h1 : vE (mdM r) (.pl x :: t) = 1 + vE (mdM r) t := rfl
   omega
  have hcut : (S.take (k + 1)).drop k = [x] := by
   have hgx : S[k] = x := by rw [List.getElem?_eq_getElem hkl] at hx; exact Option.some.inj hx
   rw [List.take_succ_eq_append_getElem hkl, List.drop_left' (by rw [List.length_take]; omega), hgx]
  refine ze _ ?_
  (all_goals refine qgp ?_ <;> (repeat' first | exact trivial | intro hc | refine And.intro ?_ ?_) <;> refine Lf.mk ?_)
  ·refine zk x (Int.natCast_nonneg k) hxk ?_
   (all_goals refine qgp ?_ <;> (repeat' first | exact trivial | intro hc | refine And.intro ?_ ?_) <;> refine Lf.mk ?_)
   refine zb wN x hxl (VS.mk (LeL.of_eq rfl)) ?_
   obtain ⟨p1, p2, p3, p4, p5, p6, p7, p8⟩ := hp
   (all_goals refine qgp ?_ <;> (repeat' first | exact trivial | intro hc | refine And.intro ?_ ?_) <;> refine Lf.mk ?_)
   all_goals first
    | (exfalso; exact p1 (by assumption))
    | (exfalso; exact p2 (by assumption))
    | (exfalso; exact p3 (by assumption))
    | (exfalso; exact p4 (by assumption))
    | (exfalso; exact p5 (by assumption))
    | (exfalso; exact p6 (by assumption))
    | (exfalso; exact p7 (by assumption))
    | (exfalso; exact p8 (by assumption))
    | skip
   refine y7 zaP [] (mdM r, out1, lk + 1, 0, 0, x1 x) trivial rfl (LeL.refl _) rfl (.cons (.loc (Nat.lt_of_lt_of_le (by decide : 0 < 3) (Nat.le_of_eq rfl))) (.cons .str .nil)) .int (qp _ _ _ _ _) (qp _ _ _ _ _) ?_
   have hf : zaO (mdM r) (x1 x) = -1 := by unfold zaO; rw [if_neg hno]
   dsimp only
   rw [hf]
   (all_goals refine qgk ?_ <;> (repeat' first | exact trivial | intro hc | refine And.intro ?_ ?_) <;> refine Lf.mk ?_)
   ·exact absurd hc (by decide)
   ·exfalso; omega
   refine zb ze0 [x] ⟨by simp, fun y hy => by rw [List.mem_singleton] at hy; subst hy; exact hxl⟩ (VS.mk (LeL.of_eq (by rw [Int.toNat_natCast, show (((k : Nat) : Int) + 1).toNat = k + 1 by omega, hcut]))) ?_
   (all_goals refine qgk ?_ <;> (repeat' first | exact trivial | intro hc | refine And.intro ?_ ?_) <;> refine Lf.mk ?_)
   exact yJ (NSt.go t (out1 ++ [x]) (lk + 1) (k + 1)) ⟨fun y hy => i1 y (List.mem_cons_of_mem _ hy), hdr.symm, by rw [List.append_assoc]; exact i3, by have h1 : vE (mdM r) (.pl x :: t) = 1 + vE (mdM r) t := rfl; omega, by omega, by omega⟩ (Nat.lt_succ_self _) rfl ⟨rfl, rfl, rfl, rfl, trivial⟩
  ·exact absurd trivial hc
 | .ca x av :: t, i1, i2, i3, i4 =>
  obtain ⟨hx, hkl, hdr⟩ := zk9 (x := x) (r := t.map nsL) (by rw [← i2]; rfl)
  have hp : znW (mdM r) x ⟨1, 0, (mdM r).name⟩ av := i1 _ List.mem_cons_self
  have hxl : x.toks.length ≤ 1000000000 := by rw [hp.toks, List.length_cons]; have := hp.len; omega
  have hhd : x1 x = r.name := by unfold x1; rw [hp.toks]; rfl
  have hxk : S[((k : Nat) : Int).toNat]? = some x := by rw [Int.toNat_natCast]; exact hx
  have hcl : (x2 (mdM r) av x.pos).length = r.body.length := by unfold x2; rw [List.length_map]; rfl
  have hlo : out1.length + r.body.length ≤ 200 := by
   have : (out1 ++ xD (mdM r) (.ca x av :: t)).length ≤ 200 := by rw [i3]; exact ho
   rw [List.length_append] at this
   have h1 : (xD (mdM r) (.ca x av :: t)).length = r.body.length + (xD (mdM r) t).length := by show (x2 (mdM r) av x.pos ++ xD (mdM r) t).length = _; rw [List.length_append, hcl]
   omega
  have hks : vE (mdM r) (.ca x av :: t) = 1 + r.body.length + vE (mdM r) t := rfl
  have hlk : lk + 1 + (r.body.length : Int) ≤ 4000 := by omega
  have hf : zaO (mdM r) r.name = 0 := by unfold zaO; exact if_pos rfl
  refine ze _ ?_
  (all_goals refine qgp ?_ <;> (repeat' first | exact trivial | intro hc | refine And.intro ?_ ?_) <;> refine Lf.mk ?_)
  ·refine zk x (Int.natCast_nonneg k) hxk ?_
   (all_goals refine qgp ?_ <;> (repeat' first | exact trivial | intro hc | refine And.intro ?_ ?_) <;> refine Lf.mk ?_)
   refine zb wN x hxl (VS.mk (LeL.of_eq rfl)) ?_
   rw [hhd]
   obtain ⟨p1, p2, p3, p4, p5, p6, p7, p8⟩ := hnm
   (all_goals refine qgp ?_ <;> (repeat' first | exact trivial | intro hc | refine And.intro ?_ ?_) <;> refine Lf.mk ?_)
   all_goals first
    | (exfalso; exact p1 (by assumption))
    | (exfalso; exact p2 (by assumption))
    | (exfalso; exact p3 (by assumption))
    | (exfalso; exact p4 (by assumption))
    | (exfalso; exact p5 (by assumption))
    | (exfalso; exact p6 (by assumption))
    | (exfalso; exact p7 (by assumption))
    | (exfalso; exact p8 (by assumption))
    | skip
   refine y7 zaP [] (mdM r, out1, lk + 1, 0, 0, r.name) trivial rfl (LeL.refl _) rfl (.cons (.loc (Nat.lt_of_lt_of_le (by decide : 0 < 3) (Nat.le_of_eq rfl))) (.cons .str .nil)) .int (qp _ _ _ _ _) (qp _ _ _ _ _) ?_
   dsimp only
   rw [hf]
   (all_goals refine qgp ?_ <;> (repeat' first | exact trivial | intro hc | refine And.intro ?_ ?_) <;> refine Lf.mk ?_)
   refine y7 zaP [] (mdM r, out1, lk + 1, 0, 0, r.name) trivial rfl (LeL.refl _) rfl (.cons (.loc (Nat.lt_of_lt_of_le (by decide : 0 < 3) (Nat.le_of_eq rfl))) (.cons .str .nil)) .int (qp _ _ _ _ _) (qp _ _ _ _ _) ?_
   dsimp only
   rw [hf]
   (all_goals refine qgp ?_ <;> (repeat' first | exact trivial | intro hc | refine And.intro ?_ ?_) <;> refine Lf.mk ?_)
   refine zk x (Int.natCast_nonneg k) hxk ?_
   (all_goals refine qgp ?_ <;> (repeat' first | exact trivial | intro hc | refine And.intro ?_ ?_) <;> refine Lf.mk ?_)
   refine y7 zpg [] (mdM r, x, ⟨1, 0, (mdM r).name⟩, av, out1, lk + 1, 0) ⟨hp, by decide, by decide, by show out1.length + r.body.length ≤ 200; omega, by show 0 ≤ lk + 1; omega, hlk⟩ rfl (LeL.refl _) rfl (.cons (.loc (Nat.lt_of_lt_of_le (by decide : 0 < 3) (Nat.le_of_eq rfl))) (.cons (.agg (.cons .str (.cons .sl (.cons .sl .nil)))) (.cons (.agg (.cons .int (.cons .sl .nil))) (.cons .int .nil)))) .tup0 (qp _ _ _ _ _) (qp _ _ _ _ _) ?_
   dsimp only
   (all_goals refine qgp ?_ <;> (repeat' first | exact trivial | intro hc | refine And.intro ?_ ?_) <;> refine Lf.mk ?_)
   exact yJ (NSt.go t (out1 ++ x2 (mdM r) av x.pos) (lk + 1 + (r.body.length : Int)) (k + 1)) ⟨fun y hy => i1 y (List.mem_cons_of_mem _ hy), hdr.symm, by rw [List.append_assoc]; exact i3, by omega, by omega, by omega⟩ (Nat.lt_succ_self _) rfl ⟨rfl, rfl, rfl, rfl, trivial⟩
  ·exact absurd trivial hc
structure NIn (r : Md) (l : List kI) : Prop where
 md : znY r
 nm : vf r.name
 ok : ∀ s ∈ l, znZ (mdM r) s
 len : r.body.length + l.length ≤ 1000
 out : (xD (mdM r) l).length ≤ 200
 looked : vE (mdM r) l ≤ 3000
theorem zwc : za Tryz.prog zd5 (zx (fun ((r, l) : Md × List kI) => NIn r l) (fun (r, l) => [.sl 2 ((mdL r ++ l.map nsL).map zS) none]) fun (r, l) => .tup [.sl 2 ((xD (mdM r) l).map zS) none, .sl 2 [] none, .agg [.int .i64 0, .int .i64 0]]) := by
 refine zf zj Tryz.func66 rfl (by decide) ?_
 rintro ⟨r, l⟩ ⟨h1, h2, h3, h4, h5, h6⟩
 refine ⟨Nat.le_refl _, by simp [Tryz.f66], fun E hE => ?_⟩
 have hE0 : E.L.length = 0 := by rw [hE]; rfl
 dsimp only
 generalize hS : mdL r ++ l.map nsL = S at *
 refine wj (ze _ ?_)
 (all_goals refine qgp ?_ <;> (repeat' first | exact trivial | intro hc | refine And.intro ?_ ?_) <;> refine Lf.mk ?_)
 refine wj (ze _ ?_)
 (all_goals refine qgp ?_ <;> (repeat' first | exact trivial | intro hc | refine And.intro ?_ ?_) <;> refine Lf.mk ?_)
 refine xF (σ' := [(0, .sl 2 (S.map zS) none), (4, .loc 2 0), (5, .loc 0 0)]) (L' := mO [] 0 0 0 ++ [T5]) ?_ ?_
 ·rw [hE0]
  refine xZ (w7 1 2 [.nilsl, .nilsl, .sl 2 [] (some 2), .int .i64 0, .int .i64 0, .int .i64 0] rfl ⟨.same, .same, .here, .same, .same, .same, trivial⟩) ?_
  refine jY [1, 2, 0] rfl rfl ?_ ⟨.flat .sl, .loc rfl, .loc rfl, trivial⟩
  exact .cons (o := .cells [.nilsl, .nilsl, .sl 2 [] (some 2), .int .i64 0, .int .i64 0, .int .i64 0]) rfl ⟨_, rfl, .cons (.flat .nilsl) (.cons (.flat .nilsl) (.cons (.tok rfl) (.cons (.flat .int) (.cons (.flat .int) (.cons (.flat .int) .nil)))))⟩
   (.cons (o := .spare 0) rfl rfl (.cons (o := T5) rfl ⟨_, rfl, .cons (.flat .int) (.cons (.flat .int) .nil)⟩ .nil))
 refine ze _ ?_
 (all_goals refine qgp ?_ <;> (repeat' first | exact trivial | intro hc | refine And.intro ?_ ?_) <;> refine Lf.mk ?_)
 generalize hm : mdM r = m at *
 generalize hO : xD m l = O at *
 generalize hK : 1 + (vE m l : Int) = K at *
 refine zfY zpi (mO [] 0 0 0) [T5] [.cells (nC m O K 0 0), .spare O.length] [.cells [.sl 3 [zrl m] (some 3), .nilsl, .sl 2 (O.map zS) (some 1), .int .i64 K, .int .i64 0, .int .i64 0], .spare O.length] (.spare 1) rfl
  ⟨(r, l), ⟨h1, h2, by rw [hm]; exact h3, h4, by rw [hm, hO]; exact h5, by rw [hm]; exact h6⟩, LeL.of_eq (by dsimp only; rw [hS]; rfl), rfl, rfl, by show _ = nO _ _ _ _ _; rw [hm, hO, hK]; rfl⟩ rfl rfl
  (.cons (.loc (by show 0 < 2; decide)) (.cons .sl (.cons .int .nil))) .tup0 (zb3 _ _ _ _) ?_ .spare ?_
 ·intro φ hφ hφ2 i x y hx hy
  match i with
  | 0 =>
   cases hx; cases hy
   have e0 : φ 2 = some 3 := hφ2
   have e1 : φ 1 = some 1 := hφ 1 (by show 1 < 2; decide)
   exact ⟨_, rfl, .cons (.tok e0) (.cons (.flat .nilsl) (.cons (.tok e1) (.cons (.flat .int) (.cons (.flat .int) (.cons (.flat .int) .nil)))))⟩
  | 1 => cases hx; cases hy; exact rfl
  | k + 2 => cases hx
 ·(all_goals refine qgp ?_ <;> (repeat' first | exact trivial | intro hc | refine And.intro ?_ ?_) <;> refine Lf.mk ?_)
  ·exact absurd trivial hc
  ·exact zd (VS.mk (LeD.tup (.cons (.strip _ _ _) (.cons (.nil 2) (LeL.refl _)))))
structure NB (b : List UInt8) (r : Md) (l : List kI) : Prop where
 len : b.length ≤ 1000000000
 lines : yB b = (mdL r ++ l.map nsL, 0, 0)
 ok : NIn r l
 tot : ww (xD (mdM r) l) ≤ 9000
 wts : ∀ x ∈ xD (mdM r) l, wt (x.toks.map tk) ≤ 1048576
theorem zrm : za Tryz.prog zeD (zx (fun ((b, r, l) : List UInt8 × Md × List kI) => NB b r l) (fun (b, _) => [.sl 1 (b.map zI) none]) fun (_, r, l) => .tup [qS (x9 [] (xD (mdM r) l)).1, .agg [.int .i64 (x9 [] (xD (mdM r) l)).2.1, .int .i64 (x9 [] (xD (mdM r) l)).2.2]]) := by
 refine zf zj Tryz.func39 rfl (by decide) ?_
 rintro ⟨b, r, l⟩ ⟨h1, h2, h3, h4, h5⟩
 refine ⟨Nat.le_refl _, by simp [Tryz.f39], fun E hE => ?_⟩
 refine ze _ ?_
 (all_goals refine qgp ?_ <;> (repeat' first | exact trivial | intro hc | refine And.intro ?_ ?_) <;> refine Lf.mk ?_)
 refine zb zcv b h1 (VS.mk (LeL.of_eq rfl)) ?_
 have hD : zm7 (yB b) = .tup [.sl 2 ((yB b).1.map zS) none, .agg [.int .i64 (yB b).2.1, .int .i64 (yB b).2.2]] := rfl
 rw [hD, h2]
 dsimp only
 (all_goals refine qgp ?_ <;> (repeat' first | exact trivial | intro hc | refine And.intro ?_ ?_) <;> refine Lf.mk ?_)
 ·exact absurd trivial hc
 refine zb zwc (r, l) h3 (VS.mk (LeL.of_eq rfl)) ?_
 (all_goals refine qgp ?_ <;> (repeat' first | exact trivial | intro hc | refine And.intro ?_ ?_) <;> refine Lf.mk ?_)
 ·exact absurd trivial hc
 refine zb zhr (xD (mdM r) l, []) ⟨h4, h5, by decide, by have := h3.out; show (xD (mdM r) l).length ≤ _; omega⟩ (VS.mk (LeL.of_eq rfl)) ?_
 dsimp only
 generalize x9 [] (xD (mdM r) l) = R
 (all_goals refine qgp ?_ <;> (repeat' first | exact trivial | intro hc | refine And.intro ?_ ?_) <;> refine Lf.mk ?_)
 exact zd (VS.mk (LeD.refl _))
end Go.Proofs.YtnkdeacghopkiaaGreatDoor
namespace Go.Proofs.YtnkdeacghopkiaaGreatDoor
open Go Go.Plat
set_option linter.unusedVariables false
set_option linter.unusedSimpArgs false
set_option maxRecDepth 100000
set_option maxHeartbeats 2000000
attribute [local irreducible] AWP zA yh zE zn yu z6 zF zX zY zq za zL yv zo zZ yq yr yj ym zr zu zz
def bI (its : List zp) (sy : List zC) (mk : List Int) : Bld := ⟨its, sy, mk, [], false, [], 0, 0⟩
attribute [local irreducible] xT
theorem zjo (q : List zl) (l m : List zy) (b : Bld) : xu q (l ++ m) b = xu q m (xu q l b) := by unfold xu; rw [List.foldl_append]
end Go.Proofs.YtnkdeacghopkiaaGreatDoor
namespace Go.Proofs.YtnkdeacghopkiaaGreatDoor
open Go Go.Plat
set_option linter.unusedVariables false
set_option linter.unusedSimpArgs false
set_option maxRecDepth 100000
set_option maxHeartbeats 2000000
attribute [local irreducible] AWP zA yh zE zn yu z6 zF zX zY zq za zL yv zo zZ yq yr yj ym zr zu zz
def x7 (f : Nat → Bool) : Nat → Bool
 | 0 => true
 | n + 1 => match f n with
  | true => x7 f n
  | false => false
theorem xL {f : Nat → Bool} : ∀ {n : Nat}, x7 f n = true → ∀ i, i < n → f i = true
 | 0, _, i, h => by omega
 | n + 1, h, i, hi => by
  simp only [x7] at h
  split at h
  ·rename_i h1
   rcases Nat.lt_or_ge i n with h2 | h2
   ·exact xL h i h2
   ·obtain rfl : i = n := by omega
    exact h1
  ·cases h
def toB (r : ka) : Nat × Nat × Nat := (r.shape.toNat, (zaL r.shape).toNat, r.bits.toNat)
def zaQ : List (Nat × Nat × Nat) := [(0, 65535, 9), (0, 65535, 11), (1, 61440, 57344), (1, 61440, 28672), (2, 61455, 24579), (2, 61455, 12300), (2, 61455, 12296), (2, 61455, 8201), (2, 61455, 8203), (2, 61455, 8202), (2, 61455, 8200), (2, 61455, 12288), (2, 61455, 12295), (3, 61695, 16384), (3, 61695, 16385), (3, 61695, 16400), (4, 65280, 35072), (4, 65280, 35584), (5, 61440, 40960), (5, 61440, 45056), (6, 61695, 16427), (6, 61695, 16395), (7, 61440, 36864), (8, 61440, 53248), (9, 61455, 8194), (10, 61455, 24578), (11, 65280, 49920)]
theorem zn0 : yF.map toB = zaQ := by unfold yF toB zaL; rfl
def zgp (w : Nat) : List (Nat × Nat × Nat) → Nat → Nat
 | [], k => k
 | p :: l, k => match Nat.beq (w &&& p.2.1) p.2.2 with
  | true => k
  | false => zgp w l (k + 1)
theorem zpW (w : Nat) : ∀ l k, k ≤ zgp w l k
 | [], k => Nat.le_refl _
 | p :: l, k => by
  simp only [zgp]
  split
  ·exact Nat.le_refl _
  ·have := zpW w l (k + 1); omega
theorem zn1 (w : Nat) : ∀ (l : List ka) (k j : Nat), (∀ r ∈ l, 0 ≤ r.bits) → zgp w (l.map toB) k = k + j → l.find? (zeR w) = l[j]?
 | [], k, j, _, _ => by simp
 | r :: l, k, j, hb, h => by
  have h0 := hb r (by simp)
  simp only [List.map_cons, zgp, toB] at h
  have hf : zeR w r = Nat.beq (w &&& (zaL r.shape).toNat) r.bits.toNat := by
   unfold zeR
   rw [Bool.eq_iff_iff]
   constructor
   ·intro h
    have h := LawfulBEq.eq_of_beq h
    rw [← h]
    exact Nat.beq_refl _
   ·intro h
    have h := Nat.eq_of_beq_eq_true h
    rw [h, Int.toNat_of_nonneg h0]
    exact beq_self_eq_true _
  rw [List.find?_cons, hf]
  split at h
  ·rename_i hb
   obtain rfl : j = 0 := by omega
   rw [hb]
   rfl
  ·rename_i hn
   have := zpW w (l.map toB) (k + 1)
   cases j with
   | zero => omega
   | succ j =>
    rw [hn]
    exact zn1 w l (k + 1) j (fun r hr => hb r (by simp [hr])) (by omega)
def fB (j b n m v : Nat) : Bool := match Nat.beq (b ||| n * 256 ||| m * 16 ||| v) (b + n * 256 + m * 16 + v) with
 | true => Nat.beq (zgp (b + n * 256 + m * 16 + v) zaQ 0) j
 | false => false
theorem zxW {j b n m v : Nat} (h : fB j b n m v = true) : zng b n m v = b + n * 256 + m * 16 + v ∧ zgp (b + n * 256 + m * 16 + v) zaQ 0 = j := by
 unfold fB at h
 split at h
 ·rename_i h1
  exact ⟨Nat.eq_of_beq_eq_true h1, Nat.eq_of_beq_eq_true h⟩
 ·cases h
def zvd (s : Nat) (f : Nat → Nat → Nat → Bool) : Bool :=
 match s with
 | 0 => f 0 0 0
 | 1 => x7 (fun n => x7 (fun v => f n 0 v) 256) 16
 | 7 => x7 (fun n => x7 (fun v => f n 0 v) 256) 16
 | 8 => x7 (fun n => x7 (fun v => f n 0 v) 256) 16
 | 2 => x7 (fun n => x7 (fun m => f n m 0) 16) 16
 | 9 => x7 (fun n => x7 (fun m => f n m 0) 16) 16
 | 10 => x7 (fun n => x7 (fun m => f n m 0) 16) 16
 | 3 => x7 (fun n => f n 0 0) 16
 | 6 => x7 (fun n => f n 0 0) 16
 | 4 => x7 (fun v => f 0 0 v) 256
 | 11 => x7 (fun v => f 0 0 v) 256
 | _ => x7 (fun v => f 0 0 v) 4096
theorem zxX : ∀ j, j < 27 → (match zaQ[j]? with | some p => zvd p.1 (fB j p.2.2) | none => true) = true :=
 xL (n := 27) (by kernel_rfl)
theorem zrn : ∀ r ∈ yF, (r.shape = 0 ∨ ((r.shape = 1 ∨ r.shape = 7 ∨ r.shape = 8) ∧ r.bits % 4096 = 0) ∨ ((r.shape = 2 ∨ r.shape = 9 ∨ r.shape = 10) ∧ r.bits % 4096 < 16) ∨ ((r.shape = 3 ∨ r.shape = 6) ∧ r.bits % 4096 < 256) ∨
  ((r.shape = 4 ∨ r.shape = 11) ∧ r.bits % 256 = 0) ∨ (r.shape = 5 ∧ r.bits % 4096 = 0)) := by unfold yF; decide
attribute [local irreducible] x7 zbJ xm yF zaQ
theorem zuz {r : ka} {j : Nat} (hj : yF[j]? = some r) : zvd r.shape.toNat (fB j r.bits.toNat) = true := by
 have hjl : j < 27 := by have := (List.getElem?_eq_some_iff.1 hj).1; rwa [wR] at this
 have h := zxX j hjl
 rw [← zn0, List.getElem?_map, hj] at h
 exact h
theorem zxr {r : ka} {j w : Nat} (hj : yF[j]? = some r) (h : zgp w zaQ 0 = j) : zbJ w = some r := by
 unfold zbJ
 rw [zn1 w yF 0 j (fun r hr => (zgd r hr).2.1) (by rw [zn0, h]; omega), hj]
theorem zuA {r : ka} (hr : r ∈ yF) {n m v : Nat} (h : (r.shape = 0 ∧ n = 0 ∧ m = 0 ∧ v = 0) ∨ ((r.shape = 1 ∨ r.shape = 7 ∨ r.shape = 8) ∧ n < 16 ∧ m = 0 ∧ v < 256) ∨ ((r.shape = 2 ∨ r.shape = 9 ∨ r.shape = 10) ∧ n < 16 ∧ m < 16 ∧ v = 0) ∨
  ((r.shape = 3 ∨ r.shape = 6) ∧ n < 16 ∧ m = 0 ∧ v = 0) ∨ ((r.shape = 4 ∨ r.shape = 11) ∧ n = 0 ∧ m = 0 ∧ v < 256) ∨ (r.shape = 5 ∧ n = 0 ∧ m = 0 ∧ v < 4096)) :
  zng r.bits.toNat n m v = r.bits.toNat + n * 256 + m * 16 + v ∧ zbJ (r.bits.toNat + n * 256 + m * 16 + v) = some r := by
 obtain ⟨j, hj⟩ := List.getElem?_of_mem hr
 have hf := zuz hj
 have key : fB j r.bits.toNat n m v = true := by
  rcases h with ⟨h, rfl, rfl, rfl⟩ | ⟨h | h | h, hn, rfl, hv⟩ | ⟨h | h | h, hn, hm, rfl⟩ | ⟨h | h, hn, rfl, rfl⟩ | ⟨h | h, rfl, rfl, hv⟩ | ⟨h, rfl, rfl, hv⟩ <;> rw [h] at hf
  ·exact hf
  ·exact xL (xL (f := fun n => x7 (fun v => fB j r.bits.toNat n 0 v) 256) hf n hn) v hv
  ·exact xL (xL (f := fun n => x7 (fun v => fB j r.bits.toNat n 0 v) 256) hf n hn) v hv
  ·exact xL (xL (f := fun n => x7 (fun v => fB j r.bits.toNat n 0 v) 256) hf n hn) v hv
  ·exact xL (f := fun m => fB j r.bits.toNat n m 0) (xL (f := fun n => x7 (fun m => fB j r.bits.toNat n m 0) 16) hf n hn) m hm
  ·exact xL (f := fun m => fB j r.bits.toNat n m 0) (xL (f := fun n => x7 (fun m => fB j r.bits.toNat n m 0) 16) hf n hn) m hm
  ·exact xL (f := fun m => fB j r.bits.toNat n m 0) (xL (f := fun n => x7 (fun m => fB j r.bits.toNat n m 0) 16) hf n hn) m hm
  ·exact xL (f := fun n => fB j r.bits.toNat n 0 0) hf n hn
  ·exact xL (f := fun n => fB j r.bits.toNat n 0 0) hf n hn
  ·exact xL (f := fun v => fB j r.bits.toNat 0 0 v) hf v hv
  ·exact xL (f := fun v => fB j r.bits.toNat 0 0 v) hf v hv
  ·exact xL (f := fun v => fB j r.bits.toNat 0 0 v) hf v hv
 obtain ⟨h1, h2⟩ := zxW key
 exact ⟨h1, zxr hj h2⟩
theorem zpX (n : Int) : zh n 8 = if n % 256 / 128 = 1 then n % 256 - 256 else n % 256 := rfl
theorem zuB (n : Int) : zh n 12 = if n % 4096 / 2048 = 1 then n % 4096 - 4096 else n % 4096 := rfl
theorem zxY {i : Ins} (h : yy i = 0) : 0 ≤ xr i ∧ xr i ≤ 65535 ∧ wm (xr i) = (i, 0) := by
 obtain ⟨r, hi, h1, h2, h3, h4, h5, h6, h7, h8⟩ := znh h
 obtain ⟨hm, ho⟩ := zgc hi
 obtain ⟨_, b2, b3⟩ := zgd r hm
 obtain ⟨N, hN⟩ := Int.eq_ofNat_of_zero_le h1
 obtain ⟨M, hM⟩ := Int.eq_ofNat_of_zero_le h3
 obtain ⟨B, hB⟩ := Int.eq_ofNat_of_zero_le b2
 have he : xr i = qR r i := by unfold xr; rw [hi]
 have fin : ∀ V : Nat, qR r i = (zng B N M V : Nat) → zng B N M V = B + N * 256 + M * 16 + V → zbJ (B + N * 256 + M * 16 + V) = some r → B + N * 256 + M * 16 + V < 65536 →
   zgV ((B + N * 256 + M * 16 + V : Nat) : Int) r = i → 0 ≤ xr i ∧ xr i ≤ 65535 ∧ wm (xr i) = (i, 0) := by
  intro V e1 e2 e3 e4 e5
  rw [he, e1, e2]
  refine ⟨by omega, by omega, ?_⟩
  unfold wm
  rw [if_neg (by omega)]
  simp only [Int.toNat_natCast, e3, e5]
 have hins : ∀ W : Int, zgV W r = i ↔ (if wB r.shape = true then W / 256 % 16 else 0) = i.n ∧ (if wC r.shape = true then W / 16 % 16 else 0) = i.m ∧ vK W r.shape = i.imm := by
  intro W
  unfold zgV
  obtain ⟨op, n, m, imm⟩ := i
  simp only [Ins.mk.injEq] at *
  simp [ho]
 have hcode := fun V => zuA hm (n := N) (m := M) (v := V)
 rw [hB, Int.toNat_natCast] at hcode
 have hsh := zrn r hm
 rw [hB] at hsh b3
 rcases hsh with hs | ⟨hs, hb⟩ | ⟨hs, hb⟩ | ⟨hs, hb⟩ | ⟨hs, hb⟩ | ⟨hs, hb⟩
 ·have u1 : wB r.shape = false := by rw [hs]; rfl
  have u2 : wC r.shape = false := by rw [hs]; rfl
  have hlo : vR r.shape = 0 := by rw [hs]; rfl
  have hhi : wD r.shape = 0 := by rw [hs]; rfl
  have hn0 := h5 u1
  have hm0 := h6 u2
  obtain ⟨V, hV⟩ := Int.eq_ofNat_of_zero_le (Int.emod_nonneg i.imm (show (256 : Int) ≠ 0 by decide))
  have hV2 := Int.emod_lt_of_pos i.imm (show (0 : Int) < 256 by decide)
  have hc := hcode V (by omega)
  refine fin V ?_ hc.1 hc.2 (by omega) ((hins _).2 ⟨?_, ?_, ?_⟩)
  ·unfold qR; rw [if_neg (by omega), hV, hB, hN, hM]; rfl
  ·rw [if_neg (by rw [u1]; decide)]; omega
  ·rw [if_neg (by rw [u2]; decide)]; omega
  ·unfold vK; rw [if_neg (by omega), if_neg (by omega), if_neg (by omega)]; omega
 ·rcases hs with hs | hs | hs
  ·have u1 : wB r.shape = true := by rw [hs]; rfl
   have u2 : wC r.shape = false := by rw [hs]; rfl
   have hlo : vR r.shape = -128 := by rw [hs]; rfl
   have hhi : wD r.shape = 127 := by rw [hs]; rfl
   have hm0 := h6 u2
   obtain ⟨V, hV⟩ := Int.eq_ofNat_of_zero_le (Int.emod_nonneg i.imm (show (256 : Int) ≠ 0 by decide))
   have hV2 := Int.emod_lt_of_pos i.imm (show (0 : Int) < 256 by decide)
   have hc := hcode V (by omega)
   refine fin V ?_ hc.1 hc.2 (by omega) ((hins _).2 ⟨?_, ?_, ?_⟩)
   ·unfold qR; rw [if_neg (by omega), hV, hB, hN, hM]; rfl
   ·rw [if_pos u1]; omega
   ·rw [if_neg (by rw [u2]; decide)]; omega
   ·unfold vK; rw [if_pos (by omega), zpX]; split <;> omega
  ·have u1 : wB r.shape = true := by rw [hs]; rfl
   have u2 : wC r.shape = false := by rw [hs]; rfl
   have hlo : vR r.shape = 0 := by rw [hs]; rfl
   have hhi : wD r.shape = 255 := by rw [hs]; rfl
   have hm0 := h6 u2
   obtain ⟨V, hV⟩ := Int.eq_ofNat_of_zero_le (Int.emod_nonneg i.imm (show (256 : Int) ≠ 0 by decide))
   have hV2 := Int.emod_lt_of_pos i.imm (show (0 : Int) < 256 by decide)
   have hc := hcode V (by omega)
   refine fin V ?_ hc.1 hc.2 (by omega) ((hins _).2 ⟨?_, ?_, ?_⟩)
   ·unfold qR; rw [if_neg (by omega), hV, hB, hN, hM]; rfl
   ·rw [if_pos u1]; omega
   ·rw [if_neg (by rw [u2]; decide)]; omega
   ·unfold vK; rw [if_neg (by omega), if_neg (by omega), if_pos (by omega)]; omega
  ·have u1 : wB r.shape = true := by rw [hs]; rfl
   have u2 : wC r.shape = false := by rw [hs]; rfl
   have hlo : vR r.shape = 0 := by rw [hs]; rfl
   have hhi : wD r.shape = 255 := by rw [hs]; rfl
   have hm0 := h6 u2
   obtain ⟨V, hV⟩ := Int.eq_ofNat_of_zero_le (Int.emod_nonneg i.imm (show (256 : Int) ≠ 0 by decide))
   have hV2 := Int.emod_lt_of_pos i.imm (show (0 : Int) < 256 by decide)
   have hc := hcode V (by omega)
   refine fin V ?_ hc.1 hc.2 (by omega) ((hins _).2 ⟨?_, ?_, ?_⟩)
   ·unfold qR; rw [if_neg (by omega), hV, hB, hN, hM]; rfl
   ·rw [if_pos u1]; omega
   ·rw [if_neg (by rw [u2]; decide)]; omega
   ·unfold vK; rw [if_neg (by omega), if_neg (by omega), if_pos (by omega)]; omega
 ·rcases hs with hs | hs | hs
  ·have u1 : wB r.shape = true := by rw [hs]; rfl
   have u2 : wC r.shape = true := by rw [hs]; rfl
   have hlo : vR r.shape = 0 := by rw [hs]; rfl
   have hhi : wD r.shape = 0 := by rw [hs]; rfl
   obtain ⟨V, hV⟩ := Int.eq_ofNat_of_zero_le (Int.emod_nonneg i.imm (show (256 : Int) ≠ 0 by decide))
   have hV2 := Int.emod_lt_of_pos i.imm (show (0 : Int) < 256 by decide)
   have hc := hcode V (by omega)
   refine fin V ?_ hc.1 hc.2 (by omega) ((hins _).2 ⟨?_, ?_, ?_⟩)
   ·unfold qR; rw [if_neg (by omega), hV, hB, hN, hM]; rfl
   ·rw [if_pos u1]; omega
   ·rw [if_pos u2]; omega
   ·unfold vK; rw [if_neg (by omega), if_neg (by omega), if_neg (by omega)]; omega
  ·have u1 : wB r.shape = true := by rw [hs]; rfl
   have u2 : wC r.shape = true := by rw [hs]; rfl
   have hlo : vR r.shape = 0 := by rw [hs]; rfl
   have hhi : wD r.shape = 0 := by rw [hs]; rfl
   obtain ⟨V, hV⟩ := Int.eq_ofNat_of_zero_le (Int.emod_nonneg i.imm (show (256 : Int) ≠ 0 by decide))
   have hV2 := Int.emod_lt_of_pos i.imm (show (0 : Int) < 256 by decide)
   have hc := hcode V (by omega)
   refine fin V ?_ hc.1 hc.2 (by omega) ((hins _).2 ⟨?_, ?_, ?_⟩)
   ·unfold qR; rw [if_neg (by omega), hV, hB, hN, hM]; rfl
   ·rw [if_pos u1]; omega
   ·rw [if_pos u2]; omega
   ·unfold vK; rw [if_neg (by omega), if_neg (by omega), if_neg (by omega)]; omega
  ·have u1 : wB r.shape = true := by rw [hs]; rfl
   have u2 : wC r.shape = true := by rw [hs]; rfl
   have hlo : vR r.shape = 0 := by rw [hs]; rfl
   have hhi : wD r.shape = 0 := by rw [hs]; rfl
   obtain ⟨V, hV⟩ := Int.eq_ofNat_of_zero_le (Int.emod_nonneg i.imm (show (256 : Int) ≠ 0 by decide))
   have hV2 := Int.emod_lt_of_pos i.imm (show (0 : Int) < 256 by decide)
   have hc := hcode V (by omega)
   refine fin V ?_ hc.1 hc.2 (by omega) ((hins _).2 ⟨?_, ?_, ?_⟩)
   ·unfold qR; rw [if_neg (by omega), hV, hB, hN, hM]; rfl
   ·rw [if_pos u1]; omega
   ·rw [if_pos u2]; omega
   ·unfold vK; rw [if_neg (by omega), if_neg (by omega), if_neg (by omega)]; omega
 ·rcases hs with hs | hs
  ·have u1 : wB r.shape = true := by rw [hs]; rfl
   have u2 : wC r.shape = false := by rw [hs]; rfl
   have hlo : vR r.shape = 0 := by rw [hs]; rfl
   have hhi : wD r.shape = 0 := by rw [hs]; rfl
   have hm0 := h6 u2
   obtain ⟨V, hV⟩ := Int.eq_ofNat_of_zero_le (Int.emod_nonneg i.imm (show (256 : Int) ≠ 0 by decide))
   have hV2 := Int.emod_lt_of_pos i.imm (show (0 : Int) < 256 by decide)
   have hc := hcode V (by omega)
   refine fin V ?_ hc.1 hc.2 (by omega) ((hins _).2 ⟨?_, ?_, ?_⟩)
   ·unfold qR; rw [if_neg (by omega), hV, hB, hN, hM]; rfl
   ·rw [if_pos u1]; omega
   ·rw [if_neg (by rw [u2]; decide)]; omega
   ·unfold vK; rw [if_neg (by omega), if_neg (by omega), if_neg (by omega)]; omega
  ·have u1 : wB r.shape = true := by rw [hs]; rfl
   have u2 : wC r.shape = false := by rw [hs]; rfl
   have hlo : vR r.shape = 0 := by rw [hs]; rfl
   have hhi : wD r.shape = 0 := by rw [hs]; rfl
   have hm0 := h6 u2
   obtain ⟨V, hV⟩ := Int.eq_ofNat_of_zero_le (Int.emod_nonneg i.imm (show (256 : Int) ≠ 0 by decide))
   have hV2 := Int.emod_lt_of_pos i.imm (show (0 : Int) < 256 by decide)
   have hc := hcode V (by omega)
   refine fin V ?_ hc.1 hc.2 (by omega) ((hins _).2 ⟨?_, ?_, ?_⟩)
   ·unfold qR; rw [if_neg (by omega), hV, hB, hN, hM]; rfl
   ·rw [if_pos u1]; omega
   ·rw [if_neg (by rw [u2]; decide)]; omega
   ·unfold vK; rw [if_neg (by omega), if_neg (by omega), if_neg (by omega)]; omega
 ·rcases hs with hs | hs
  ·have u1 : wB r.shape = false := by rw [hs]; rfl
   have u2 : wC r.shape = false := by rw [hs]; rfl
   have hlo : vR r.shape = -128 := by rw [hs]; rfl
   have hhi : wD r.shape = 127 := by rw [hs]; rfl
   have hn0 := h5 u1
   have hm0 := h6 u2
   obtain ⟨V, hV⟩ := Int.eq_ofNat_of_zero_le (Int.emod_nonneg i.imm (show (256 : Int) ≠ 0 by decide))
   have hV2 := Int.emod_lt_of_pos i.imm (show (0 : Int) < 256 by decide)
   have hc := hcode V (by omega)
   refine fin V ?_ hc.1 hc.2 (by omega) ((hins _).2 ⟨?_, ?_, ?_⟩)
   ·unfold qR; rw [if_neg (by omega), hV, hB, hN, hM]; rfl
   ·rw [if_neg (by rw [u1]; decide)]; omega
   ·rw [if_neg (by rw [u2]; decide)]; omega
   ·unfold vK; rw [if_pos (by omega), zpX]; split <;> omega
  ·have u1 : wB r.shape = false := by rw [hs]; rfl
   have u2 : wC r.shape = false := by rw [hs]; rfl
   have hlo : vR r.shape = 0 := by rw [hs]; rfl
   have hhi : wD r.shape = 255 := by rw [hs]; rfl
   have hn0 := h5 u1
   have hm0 := h6 u2
   obtain ⟨V, hV⟩ := Int.eq_ofNat_of_zero_le (Int.emod_nonneg i.imm (show (256 : Int) ≠ 0 by decide))
   have hV2 := Int.emod_lt_of_pos i.imm (show (0 : Int) < 256 by decide)
   have hc := hcode V (by omega)
   refine fin V ?_ hc.1 hc.2 (by omega) ((hins _).2 ⟨?_, ?_, ?_⟩)
   ·unfold qR; rw [if_neg (by omega), hV, hB, hN, hM]; rfl
   ·rw [if_neg (by rw [u1]; decide)]; omega
   ·rw [if_neg (by rw [u2]; decide)]; omega
   ·unfold vK; rw [if_neg (by omega), if_neg (by omega), if_pos (by omega)]; omega
 ·have u1 : wB r.shape = false := by rw [hs]; rfl
  have u2 : wC r.shape = false := by rw [hs]; rfl
  have hlo : vR r.shape = -2048 := by rw [hs]; rfl
  have hhi : wD r.shape = 2047 := by rw [hs]; rfl
  have hn0 := h5 u1
  have hm0 := h6 u2
  obtain ⟨V, hV⟩ := Int.eq_ofNat_of_zero_le (Int.emod_nonneg i.imm (show (4096 : Int) ≠ 0 by decide))
  have hV2 := Int.emod_lt_of_pos i.imm (show (0 : Int) < 4096 by decide)
  have hc := hcode V (by omega)
  refine fin V ?_ hc.1 hc.2 (by omega) ((hins _).2 ⟨?_, ?_, ?_⟩)
  ·unfold qR; rw [if_pos hs, hV, hB, hN, hM]; rfl
  ·rw [if_neg (by rw [u1]; decide)]; omega
  ·rw [if_neg (by rw [u2]; decide)]; omega
  ·unfold vK; rw [if_neg (by omega), if_pos hs, zuB]; split <;> omega
end Go.Proofs.YtnkdeacghopkiaaGreatDoor
namespace Go.Proofs.YtnkdeacghopkiaaGreatDoor
open Go Go.Plat
set_option linter.unusedVariables false
set_option linter.unusedSimpArgs false
set_option maxRecDepth 100000
set_option maxHeartbeats 2000000
attribute [local irreducible] AWP zA yh zE zn yu z6 zF zX zY zq za zL yv zo zZ yq yr yj ym zr zu zz
def atI (x : zp) (a : Int) : zp := { x with at_ := a }
def qA : List zp → Int → List zp
 | [], _ => []
 | x :: l, a => atI x a :: qA l (a + 2)
theorem zxZ {syms : List zC} {x : zp} (h : x.kind ≠ 2 ∨ x.long = true) : xK syms x = false ∧ y0 syms x = x := by
 have hm : xK syms x = false := by
  unfold xK
  refine decide_eq_false fun e => ?_
  rcases h with h | h
  ·exact h e.1
  ·rw [h] at e; exact absurd e.2.1 (by decide)
 exact ⟨hm, by unfold y0; rw [if_neg (by rw [hm]; decide)]⟩
def zdL (w : Int) : List UInt8 := [yz (w / 256), yz w]
theorem zwd {c : List UInt8} {i : Ins} {line : Int} (h : yy i = 0) : xy ⟨c, [], 0, 0⟩ i line = ⟨c ++ zdL (xr i), [], 0, 0⟩ := by unfold xy; rw [if_pos h]; rfl
theorem zwe {c d : List UInt8} {w : Int} (h0 : 0 ≤ w) (h1 : w < 65536) : yZ (c ++ (zdL w ++ d)) c.length 2 = w := by
 have b : ∀ (j : Nat) (x : UInt8), (c ++ (zdL w ++ d))[c.length + j]? = some x → qY (c ++ (zdL w ++ d)) ((c.length : Int) + (j : Int)) = x.toNat := fun j x hx => by
  have hl := (List.getElem?_eq_some_iff.1 hx).1
  unfold qY
  rw [if_pos ⟨by omega, by omega⟩, show ((c.length : Int) + (j : Int)).toNat = c.length + j by omega, List.getD_eq_getElem?_getD, hx]
  rfl
 have b0 := b 0 (yz (w / 256)) (by rw [List.getElem?_append_right (by omega), Nat.add_zero, Nat.sub_self]; rfl)
 have b1 := b 1 (yz w) (by rw [List.getElem?_append_right (by omega), show c.length + 1 - c.length = 1 by omega]; rfl)
 rw [yZ, yZ, yZ, b0, b1, xH, xH]
 omega
attribute [local irreducible] yt yA zK yH okC zh
def upI (n : Int) : Int := n + 3 - (n + 3) % 4
def wx : List y8 → Int → List Int
 | [], _ => []
 | o :: l, n => upI n :: wx l (upI n + o.code.length)
def qU : List y8 → Int → Int
 | [], n => n
 | o :: l, n => qU l (upI n + o.code.length)
def zro (n : Int) : D := .int .i64 n
def zgq (l : List Int) : D := .sl 1 (l.map zro) none
theorem zx0 : ∀ i : Fin 64, (~~~ (3#64)).getLsbD i = decide (2 ≤ i.1) := by decide
theorem zs3 (x : BitVec 64) : x &&& ~~~ (3#64) = (x >>> 2) <<< 2 := by
 apply BitVec.eq_of_getLsbD_eq
 intro i hi
 rw [BitVec.getLsbD_and, zx0 ⟨i, hi⟩, BitVec.getLsbD_shiftLeft, BitVec.getLsbD_ushiftRight]
 by_cases h : 2 ≤ i
 ·simp [h, hi, show ¬ i < 2 by omega, show 2 + (i - 2) = i by omega]
 ·simp [h, show i < 2 by omega]
theorem zuC {n : Int} (h0 : 0 ≤ n) (h1 : n ≤ 9223372036854775807) : zz .andNot .i64 n 3 = n - n % 4 := by
 obtain ⟨a, rfl⟩ := Int.eq_ofNat_of_zero_le h0
 have ha : a ≤ 9223372036854775807 := by omega
 unfold zz
 have hx := zbf ha
 have e : (BitVec.ofInt IntKind.i64.bits (a : Int) &&& ~~~ BitVec.ofInt IntKind.i64.bits 3).toNat = a / 4 * 4 := by
  generalize BitVec.ofInt IntKind.i64.bits (a : Int) = x at *
  change BitVec 64 at x
  show (x &&& ~~~ (3#64)).toNat = _
  rw [zs3, BitVec.toNat_shiftLeft, BitVec.toNat_ushiftRight]
  have hx : x.toNat = a := hx
  rw [hx, Nat.shiftRight_eq_div_pow, Nat.shiftLeft_eq]
  omega
 show IntKind.i64.wrap ((_ : Nat) : Int) = _
 rw [e]
 refine (Go.Plat.wrap_small (by omega)).trans ?_
 omega
theorem zgr (n : Int) : n ≤ upI n ∧ upI n ≤ n + 3 ∧ upI n % 4 = 0 := by unfold upI; omega
theorem zn2 : za Tryz.prog zmM (zx (fun ((l, n) : List y8 × Int) => l.length ≤ 1048576 ∧ 0 ≤ n ∧ n ≤ 1000000000 ∧ ∀ o ∈ l, o.code.length ≤ 1048576) (fun (l, n) => [.sl 3 (l.map qS) none, .int .i64 n])
  fun (l, n) => .tup [zgq (wx l n), .int .i64 (qU l n)]) := by
 refine zf zj Tryz.func46 rfl (by decide) ?_
 rintro ⟨l, n⟩ ⟨hl, hn0, hn1, ho⟩
 refine ⟨Nat.le_refl _, by simp [Tryz.f46], fun E hE => ?_⟩
 refine ze _ ?_
 (all_goals refine qgo (Lf.mk ?_))
 refine xF (qK 6 1 rfl) ?_
 refine ye (α := Nat × List Int × Int) (fun p => p.1 ≤ l.length ∧ p.2.1.length = p.1 ∧ p.2.1 ++ wx (l.drop p.1) p.2.2 = wx l n ∧ qU (l.drop p.1) p.2.2 = qU l n ∧ 0 ≤ p.2.2 ∧ p.2.2 ≤ 1000000000 + p.1 * 1048580)
  (fun p => [(11, .sl 3 (l.map qS) none), (12, .int .i64 l.length), (13, .int .i64 p.1), (6, .sl 1 (p.2.1.map zro) (some 0)), (7, .int .i64 p.2.2)])
  (fun p => [.spare p.2.1.length]) (fun p => l.length - p.1) (fun _ => by simp [hE]) (0, [], n) ⟨Nat.zero_le _, rfl, by simp, by simp, hn0, by dsimp only; omega⟩ ?_ ?_
 ·(repeat' (first | (refine VS.mk ?_) | exact trivial | exact rfl | refine And.intro ?_ ?_))
 rintro ⟨k, bs, a⟩ ⟨hk, hbl, hb, he, ha0, ha1⟩
 dsimp only at hk hbl hb he ha0 ha1 ⊢
 refine ze _ ?_
 have hkb : (k : Int) * 1048580 ≤ 1048576 * 1048580 := by omega
 (all_goals refine qgo ?_ <;> (repeat' first | exact trivial | intro hc | refine And.intro ?_ ?_) <;> refine Lf.mk ?_)
 ·obtain ⟨o, hok⟩ := yf (l := l) (k := k) (by omega)
  have hkl : k < l.length := by omega
  have hget : l[k] = o := by rw [List.getElem?_eq_getElem hkl] at hok; exact Option.some.inj hok
  have hoc := ho o (List.mem_of_getElem? hok)
  rw [List.drop_eq_getElem_cons hkl, hget, wx] at hb
  rw [List.drop_eq_getElem_cons hkl, hget, qU] at he
  have hup := zgr a
  refine zk o (by omega) (by simpa using hok) ?_
  (all_goals refine qgo (Lf.mk ?_))
  refine wh (zuC (by omega) (by omega)) ?_
  (all_goals refine qgo (Lf.mk ?_))
  refine zB (k + 1, bs ++ [upI a], upI a + o.code.length) ⟨by (dsimp only; omega), by (dsimp only; rw [List.length_append, hbl]; rfl), by (dsimp only; rw [List.append_assoc]; exact hb), he, by (dsimp only; omega), by (dsimp only; omega)⟩ (by dsimp only; omega) ?_
  (repeat' (first | (refine VS.mk ?_) | exact trivial | exact rfl | refine And.intro ?_ ?_))
  ·simp
  ·simp [zro, upI]
 ·obtain rfl : k = l.length := by omega
  rw [List.drop_length, wx, List.append_nil] at hb
  rw [List.drop_length, qU] at he
  refine zd (VS.mk ?_)
  rw [hb, he]
  (first | exact LeL.refl _ | (repeat' (first | exact LeL.nil | exact LeD.refl _ | exact LeD.nil _ | exact LeD.strip _ _ _ | refine LeL.cons ?_ ?_ | refine LeD.tup ?_ | refine LeD.agg ?_)))
def kg (n : List UInt8) : List zC → Option Int
 | [] => none
 | s :: l => if s.name = n then some s.at_ else kg n l
def ze1 (n : List UInt8) : List zC → Nat → Int
 | [], _ => -1
 | s :: l, k => if s.name = n then k else ze1 n l (k + 1)
theorem zrp : za Tryz.prog zbE (ya (fun _ : zC × List UInt8 => True) (fun (s, n) => [yK s, .loc 0 0]) (fun (s, n) => [.cells [.str n]]) (fun (s, n) => .bool (s.name == n)) fun (s, n) => [.cells [.str n]]) := by
 refine zf zj Tryz.func71 rfl (by decide) ?_
 rintro ⟨s, n⟩ -
 refine ⟨Nat.le_refl _, by simp [Tryz.f71], fun E hE => ?_⟩
 refine ze _ ?_
 (all_goals refine qgo (Lf.mk ?_))
 refine yo ?_
 (repeat' (first | (refine VS.mk ?_) | exact trivial | exact rfl | refine And.intro ?_ ?_))
theorem zn3 : za Tryz.prog vc (ya (fun ((l, n) : List zC × List UInt8) => l.length ≤ 1000000000) (fun (l, n) => [.sl 2 (l.map yK) none, .fn zbE [.loc 0 0]])
  (fun (l, n) => [.cells [.str n]]) (fun (l, n) => .int .i64 (ze1 n l 0)) fun (l, n) => [.cells [.str n]]) := by
 refine zf zj Tryz.func70 rfl (by decide) ?_
 rintro ⟨l, n⟩ hl
 have hl : l.length ≤ 1000000000 := hl
 refine ⟨Nat.le_refl _, by simp [Tryz.f70], fun E hE => ?_⟩
 refine ze _ ?_
 (all_goals refine qgo (Lf.mk ?_))
 refine ye (α := Nat) (fun k => k ≤ l.length ∧ ze1 n l 0 = ze1 n (l.drop k) k)
  (fun k => [(7, .int .i64 l.length), (8, .int .i64 k), (0, .sl 2 (l.map yK) none), (1, .fn zbE [.loc 0 0])])
  (fun _ => [.cells [.str n]]) (fun k => l.length - k) (fun _ => by simp [hE]) 0 ⟨Nat.zero_le _, by simp⟩ ?_ ?_
 ·(repeat' (first | (refine VS.mk ?_) | exact trivial | exact rfl | refine And.intro ?_ ?_))
 rintro k ⟨hk, hf⟩
 refine ze _ ?_
 (all_goals refine qgo ?_ <;> (repeat' first | exact trivial | intro hc | refine And.intro ?_ ?_) <;> refine Lf.mk ?_)
 ·obtain ⟨s, hsk⟩ := yf (l := l) (k := k) (by omega)
  have hkl : k < l.length := by omega
  have hget : l[k] = s := by rw [List.getElem?_eq_getElem hkl] at hsk; exact Option.some.inj hsk
  rw [List.drop_eq_getElem_cons hkl, hget, ze1] at hf
  refine zk s (by omega) (by simpa using hsk) ?_
  (all_goals refine qgo (Lf.mk ?_))
  refine yb zrp [0] [0] (s, n) trivial rfl rfl ?_
  refine And.intro (VS.mk (LeL.of_eq rfl)) (And.intro (VS.mk rfl) ?_)
  (all_goals refine qgo ?_ <;> (repeat' first | exact trivial | intro hc | refine And.intro ?_ ?_) <;> refine Lf.mk ?_)
  ·rw [if_pos hc] at hf
   refine yo ?_
   (repeat' (first | (refine VS.mk ?_) | exact trivial | exact rfl | refine And.intro ?_ ?_))
   exact congrArg (D.int .i64) hf.symm
  ·rw [if_neg hc] at hf
   refine zB (k + 1) ⟨by omega, hf⟩ (by omega) ?_
   (repeat' (first | (refine VS.mk ?_) | exact trivial | exact rfl | refine And.intro ?_ ?_))
 ·rw [List.drop_of_length_le (by omega), ze1] at hf
  refine yo ?_
  (repeat' (first | (refine VS.mk ?_) | exact trivial | exact rfl | refine And.intro ?_ ?_))
  exact congrArg (D.int .i64) hf.symm
theorem zn4 (n : List UInt8) : ∀ (l : List zC) (k : Nat), (kg n l = none ∧ ze1 n l k = -1) ∨ ∃ (i : Nat) (s : zC), l[i]? = some s ∧ ze1 n l k = ((k + i : Nat) : Int) ∧ kg n l = some s.at_
 | [], k => .inl ⟨rfl, rfl⟩
 | s :: l, k => by
  rw [kg, ze1]
  by_cases h : s.name = n
  ·rw [if_pos h, if_pos h]
   exact .inr ⟨0, s, rfl, rfl, rfl⟩
  ·rw [if_neg h, if_neg h]
   rcases zn4 n l (k + 1) with h1 | ⟨i, t, h1, h2, h3⟩
   ·exact .inl h1
   ·exact .inr ⟨i + 1, t, h1, by rw [h2]; congr 1; omega, h3⟩
theorem zht : za Tryz.prog zoP (zx (fun ((l, n) : List zC × List UInt8) => l.length ≤ 1000000000) (fun (l, n) => [.sl 2 (l.map yK) none, .str n])
  fun (l, n) => .tup [.int .i64 ((kg n l).getD 0), .bool (kg n l).isSome]) := by
 refine zf zj Tryz.func47 rfl (by decide) ?_
 rintro ⟨l, n⟩ hl
 have hl : l.length ≤ 1000000000 := hl
 refine ⟨Nat.le_refl _, by simp [Tryz.f47], fun E hE => ?_⟩
 refine ze _ ?_
 (all_goals refine qgo (Lf.mk ?_))
 refine yb zn3 [0] [0] (l, n) hl rfl rfl ?_
 refine And.intro (VS.mk (LeL.of_eq rfl)) (And.intro (VS.mk rfl) ?_)
 rcases zn4 n l 0 with ⟨h1, h2⟩ | ⟨i, s, h1, h2, h3⟩
 ·dsimp only
  rw [h2]
  (all_goals refine qgo ?_ <;> (repeat' first | exact trivial | intro hc | refine And.intro ?_ ?_) <;> refine Lf.mk ?_)
  all_goals first
   | (exfalso; omega)
   | (refine zd (VS.mk ?_); rw [h1]; exact .tup (.cons (.refl _) (.cons (.ff rfl) .nil)))
 ·have hil : i < l.length := (List.getElem?_eq_some_iff.1 h1).1
  rw [Nat.zero_add] at h2
  dsimp only
  rw [h2]
  (all_goals refine qgo ?_ <;> (repeat' first | exact trivial | intro hc | refine And.intro ?_ ?_) <;> refine Lf.mk ?_)
  ·exfalso; omega
  ·refine zk s (by omega) (by simpa using h1) ?_
   (all_goals refine qgo (Lf.mk ?_))
   refine zd (VS.mk ?_)
   rw [h3]
   exact .tup (.cons (.refl _) (.cons (.tt rfl) .nil))
end Go.Proofs.YtnkdeacghopkiaaGreatDoor
namespace Go.Proofs.YtnkdeacghopkiaaGreatDoor
open Go Go.Plat
set_option linter.unusedVariables false
set_option linter.unusedSimpArgs false
set_option maxRecDepth 100000
set_option maxHeartbeats 2000000
attribute [local irreducible] AWP zA yh zE zn yu z6 zF zX zY zq za zL yv zo zZ yq yr yj ym zr zu zz
attribute [local irreducible] yt zK zh
theorem zs4 {s : List UInt8} (h : yH s = true) : 1 ≤ s.length ∧ s.length ≤ 10 := by
 unfold yH at h
 rw [Bool.and_eq_true, Bool.and_eq_true] at h
 exact of_decide_eq_true h.1.1
attribute [local irreducible] yH
theorem zn5 {n : Int} : ∀ {l : List zC} {had : List (List UInt8)}, vL n l had = none → ∀ s ∈ l, yH s.name = true ∧ 0 ≤ s.at_ ∧ s.at_ ≤ n
 | [], _, _, s, hs => by simp at hs
 | t :: l, had, h, s, hs => by
  rw [vL] at h
  split at h
  ·cases h
  rename_i h1
  split at h
  ·cases h
  rename_i h2
  rcases List.mem_cons.1 hs with rfl | hs
  ·refine ⟨?_, by omega, by omega⟩
   cases hn : yH s.name with
   | true => rfl
   | false => exact (h1 (.inl hn)).elim
  ·exact zn5 h s hs
theorem zn6 {n : Int} : ∀ {l : List zC} {had : List (List UInt8)} {e : Int}, vL n l had = some e → e ≠ 0
 | [], _, _, h => by cases h
 | t :: l, had, e, h => by
  rw [vL] at h
  split at h
  ·cases h; decide
  split at h
  ·cases h; decide
  exact zn6 h
structure zlZ (n : Int) (r : zbK) : Prop where
 size : r.size = 2 ∨ r.size = 4
 at0 : 0 ≤ r.at_
 at1 : r.at_ + r.size ≤ n
 name : r.name = [] ∨ yH r.name = true
 add : zh r.add 32 = r.add
theorem zn7 {n : Int} : ∀ {l : List zbK} {last : Int}, 0 ≤ last → kP n l last = 0 → ∀ r ∈ l, zlZ n r
 | [], _, _, _, s, hs => by simp at hs
 | t :: l, last, h0, h, r, hs => by
  rw [kP] at h
  split at h
  ·cases h
  rename_i h1
  split at h
  ·cases h
  rename_i h2
  split at h
  ·cases h
  rename_i h3
  split at h
  ·cases h
  rename_i h4
  split at h
  ·cases h
  rename_i h5
  rcases List.mem_cons.1 hs with rfl | hs
  ·refine ⟨by omega, by omega, by omega, ?_, Classical.not_not.1 h5⟩
   cases hn : yH r.name with
   | true => exact .inr rfl
   | false => exact .inl (Classical.not_not.1 fun hne => h4 ⟨hne, hn⟩)
  ·exact zn7 (by omega) h r hs
structure zx1 (o : y8) : Prop where
 code : o.code.length ≤ 8000
 syms : o.syms.length ≤ 255
 rels : o.rels.length ≤ 16000
 sym : ∀ s ∈ o.syms, yH s.name = true ∧ 0 ≤ s.at_ ∧ s.at_ ≤ o.code.length
 rel : ∀ r ∈ o.rels, zlZ o.code.length r
theorem zh9 {o : y8} (h : wn o = 0) : zx1 o := by
 unfold wn at h
 split at h
 ·cases h
 rename_i h1
 split at h
 ·rename_i e he
  exact (zn6 he h).elim
 rename_i he
 exact ⟨by omega, by omega, by omega, zn5 he, zn7 (Int.le_refl _) h⟩
theorem zlZ.len {n : Int} {r : zbK} (h : zlZ n r) : r.name.length ≤ 10 := by
 rcases h.name with h | h
 ·rw [h]; decide
 ·exact (zs4 h).2
end Go.Proofs.YtnkdeacghopkiaaGreatDoor
namespace Go.Proofs.YtnkdeacghopkiaaGreatDoor
open Go Go.Plat
set_option linter.unusedVariables false
set_option maxRecDepth 100000
attribute [local irreducible] yt yA zK yH okC zh
def zuD (e a : Int) : D := .agg [.int .i64 e, .int .i64 a]
def zbN (b : Int) : List zC → List zC → Option (List zC)
 | [], acc => some acc
 | s :: l, acc => if (kg s.name acc).isSome = true then none else zbN b l (acc ++ [⟨s.name, b + s.at_⟩])
def zaf (bs : List UInt8) (off : Nat) (code : List UInt8) : List UInt8 := bs ++ List.replicate (off - bs.length) 0 ++ code
def lay (base : Int) : List y8 → Int → Nat → List UInt8 → List zC → Nat ⊕ (List UInt8 × List zC)
 | [], _, _, bs, ss => .inr (bs, ss)
 | o :: l, n, i, bs, ss => match zbN (upI n) o.syms ss with
  | none => .inl i
  | some ss' => lay base l (upI n + o.code.length) (i + 1) (zaf bs (upI n - base).toNat o.code) ss'
def zcJ (b : Int) (ss : List zC) (r : zbK) : Option Int := if r.name = [] then some b else kg r.name ss
def zbO (base b : Int) (ss : List zC) : List zbK → List UInt8 → Int ⊕ List UInt8
 | [], bs => .inr bs
 | r :: l, bs => match zcJ b ss r with
  | none => .inl 6
  | some a => if r.size = 2 ∧ (zh (a + r.add) 32 < -32768 ∨ 65535 < zh (a + r.add) 32) then .inl 3
   else zbO base b ss l (xo bs (b - base + r.at_) r.size.toNat (zh (a + r.add) 32))
def fix (base : Int) (ss : List zC) : List y8 → Int → Nat → List UInt8 → (Int × Nat) ⊕ List UInt8
 | [], _, _, bs => .inr bs
 | o :: l, n, i, bs => match zbO base (upI n) ss o.rels bs with
  | .inl e => .inl (e, i)
  | .inr bs' => fix base ss l (upI n + o.code.length) (i + 1) bs'
def jd : List y8 → Nat → Option (Int × Nat)
 | [], _ => none
 | o :: l, i => if wn o = 0 then jd l (i + 1) else some (wn o, i)
def ze2 (l : List y8) (base : Int) : zab × Int × Int :=
 match jd l 0 with
 | some (e, i) => (zaM, e, i)
 | none => match lay base l base 0 [] [] with
  | .inl i => (zaM, 7, i)
  | .inr (bs, ss) => match fix base ss l base 0 bs with
   | .inl (e, i) => (zaM, e, i)
   | .inr bs' => (⟨base, bs', ss⟩, 0, 0)
def xU (l : List y8) (base : Int) : zab × Int × Int :=
 if base < 0 ∨ 1048576 < base ∨ base % 4 ≠ 0 then (zaM, 3, 0) else if l.length < 1 ∨ 4 < l.length then (zaM, 5, 0) else ze2 l base
def zkn (x : zab × Int × Int) : D := .tup [zj8 x.1, zuD x.2.1 x.2.2]
theorem zla : ∀ {l : List y8} {k : Nat}, jd l k = none → ∀ o ∈ l, wn o = 0
 | [], _, _, o, h => by simp at h
 | x :: l, k, h, o, ho => by
  rw [jd] at h
  split at h
  ·rename_i hx
   rcases List.mem_cons.1 ho with rfl | ho
   ·exact hx
   ·exact zla h o ho
  ·cases h
theorem zlb {n : List UInt8} : ∀ {l : List zC} {a : Int}, kg n l = some a → ∃ s ∈ l, s.at_ = a
 | [], a, h => by cases h
 | s :: l, a, h => by
  rw [kg] at h
  split at h
  ·cases h; exact ⟨s, by simp, rfl⟩
  ·obtain ⟨t, h1, h2⟩ := zlb h
   exact ⟨t, by simp [h1], h2⟩
theorem zhu (bs : List UInt8) (a : Int) (k : Nat) (n : Int) : (xo bs a k n).length = bs.length := zcz a k bs n
theorem zko : ∀ (l : List y8) (n : Int), n ≤ qU l n
 | [], n => Int.le_refl _
 | o :: l, n => by
  have h1 := zko l (upI n + o.code.length)
  have h2 := zgr n
  rw [qU]; omega
theorem zpY : ∀ (l : List y8) (n : Int), (∀ o ∈ l, o.code.length ≤ 8000) → qU l n ≤ n + l.length * 8003
 | [], n, _ => by rw [qU]; simp
 | o :: l, n, h => by
  have h1 := zpY l (upI n + o.code.length) fun x hx => h x (by simp [hx])
  have h2 := zgr n
  have h3 := h o (by simp)
  rw [qU, List.length_cons]; omega
theorem zhv {α : Type} {l r : List α} {k : Nat} {x : α} (h : l.drop k = x :: r) : l[k]? = some x := by
 have := List.getElem?_drop (xs := l) (i := k) (j := 0)
 rw [h] at this
 simpa using this.symm
theorem zlc {α : Type} {l r : List α} {k : Nat} {x : α} (h : l.drop k = x :: r) : l.drop (k + 1) = r := by
 rw [← List.drop_drop, h]; rfl
theorem qg {α : Type} {l : List α} {k : Nat} {o : α} (h : l[k]? = some o) : l.drop k = o :: l.drop (k + 1) := by
 obtain ⟨hk, h2⟩ := List.getElem?_eq_some_iff.1 h
 rw [List.drop_eq_getElem_cons hk, h2]
theorem zgs (n : Int) : -2147483648 ≤ zh n 32 ∧ zh n 32 ≤ 2147483647 := by
 have : zh n 32 = if n % 4294967296 / 2147483648 = 1 then n % 4294967296 - 4294967296 else n % 4294967296 := by unfold zh; rfl
 rw [this]
 split <;> omega
theorem zuE {base : Int} {o : y8} {l : List y8} {n : Int} {i : Nat} {bs : List UInt8} {ss : List zC} : lay base (o :: l) n i bs ss = match zbN (upI n) o.syms ss with
  | none => .inl i
  | some ss' => lay base l (upI n + o.code.length) (i + 1) (zaf bs (upI n - base).toNat o.code) ss' := by rw [lay]
theorem zwf {base n : Int} {i : Nat} {bs : List UInt8} {ss : List zC} : lay base [] n i bs ss = .inr (bs, ss) := rfl
theorem zuF {base : Int} {o : y8} {l : List y8} {n : Int} {i : Nat} {bs : List UInt8} {ss : List zC} : fix base ss (o :: l) n i bs = match zbO base (upI n) ss o.rels bs with
  | .inl e => .inl (e, i)
  | .inr bs' => fix base ss l (upI n + o.code.length) (i + 1) bs' := by rw [fix]
theorem zwg {base n : Int} {i : Nat} {bs : List UInt8} {ss : List zC} : fix base ss [] n i bs = .inr bs := rfl
theorem zs5 {base b : Int} {ss : List zC} {r : zbK} {l : List zbK} {bs : List UInt8} : zbO base b ss (r :: l) bs = match zcJ b ss r with
  | none => .inl 6
  | some a => if r.size = 2 ∧ (zh (a + r.add) 32 < -32768 ∨ 65535 < zh (a + r.add) 32) then .inl 3
   else zbO base b ss l (xo bs (b - base + r.at_) r.size.toNat (zh (a + r.add) 32)) := by rw [zbO]
theorem zuG {base b : Int} {ss : List zC} {bs : List UInt8} : zbO base b ss [] bs = .inr bs := rfl
theorem zs6 {b : Int} {s : zC} {l acc : List zC} : zbN b (s :: l) acc = if (kg s.name acc).isSome = true then none else zbN b l (acc ++ [⟨s.name, b + s.at_⟩]) := by rw [zbN]
theorem zuH {b : Int} {acc : List zC} : zbN b [] acc = some acc := rfl
theorem zjp {o : y8} {l : List y8} {n : Int} : wx (o :: l) n = upI n :: wx l (upI n + o.code.length) := rfl
theorem zs7 {o : y8} {l : List y8} {n : Int} : qU (o :: l) n = qU l (upI n + o.code.length) := rfl
theorem zuI {n : Int} : qU [] n = n := rfl
theorem zs8 {bs code : List UInt8} {off N : Nat} (h1 : bs.length ≤ off) (h2 : off + code.length ≤ N) :
  vT ((bs ++ List.replicate (N - bs.length) 0).map zI) off (code.map zI) = ((zaf bs off code) ++ List.replicate (N - (zaf bs off code).length) 0).map zI := by
 have hlen : (zaf bs off code).length = off + code.length := by unfold zaf; simp; omega
 rw [hlen]
 unfold vT zaf
 rw [List.length_map, ← List.map_take, ← List.map_drop, ← List.map_append, ← List.map_append]
 congr 1
 have e1 : (bs ++ List.replicate (N - bs.length) 0).take off = bs ++ List.replicate (off - bs.length) 0 := by
  rw [List.take_append, List.take_of_length_le h1, List.take_replicate]
  congr 2; omega
 have e2 : (bs ++ List.replicate (N - bs.length) (0 : UInt8)).drop (off + code.length) = List.replicate (N - (off + code.length)) 0 := by
  rw [List.drop_append, List.drop_of_length_le (by omega), List.drop_replicate, List.nil_append]
  congr 1; omega
 rw [e1, e2]
theorem zuJ {bs code : List UInt8} {off : Nat} (h1 : bs.length ≤ off) : (zaf bs off code).length = off + code.length := by unfold zaf; simp; omega
end Go.Proofs.YtnkdeacghopkiaaGreatDoor
namespace Go.Proofs.YtnkdeacghopkiaaGreatDoor
open Go Go.Plat
set_option linter.unusedVariables false
set_option linter.unusedSimpArgs false
set_option maxRecDepth 100000
set_option maxHeartbeats 2000000
attribute [local irreducible] AWP zA yh zE zn yu z6 zF zX zY zq za zL yv zo zZ yq yr yj ym zr zu zbN wx zz yt qU kg fix zbO yA lay zK yH okC xo zh upI wn
structure InL (l : List y8) (base : Int) : Prop where
 base0 : -9223372036854775808 ≤ base
 base1 : base ≤ 9223372036854775807
 len : l.length ≤ 1048576
 rel : ∀ o ∈ l, ∀ r ∈ o.rels, -9223372036854775808 ≤ r.at_ ∧ r.at_ ≤ 9223372036854775807 ∧ r.name.length ≤ 1000000000
 sym : ∀ o ∈ l, ∀ s ∈ o.syms, s.name.length ≤ 1000000000
theorem je {e a : Int} {x : zab × Int × Int} (h : x = (zaM, e, a)) : LeD (.tup [.agg [.int .i64 0, .nilsl, .nilsl], .agg [.int .i64 e, .int .i64 a]]) (zkn x) := by
 subst h
 exact .tup (.cons (.agg (.cons (.refl _) (.cons (.nil 1) (.cons (.nil 2) .nil)))) (.cons (.refl _) .nil))
theorem zrq : za Tryz.prog zoM (zx (fun ((l, base) : List y8 × Int) => InL l base) (fun (l, base) => [.sl 3 (l.map qS) none, .int .i64 base]) fun (l, base) => zkn (xU l base)) := by
 refine zf zj Tryz.func29 rfl (by decide) ?_
 rintro ⟨l, base⟩ hin
 have hb0 := hin.base0
 have hb1 := hin.base1
 have hll := hin.len
 refine ⟨Nat.le_refl _, by simp [Tryz.f29], fun E hE => ?_⟩
 refine ze _ ?_
 (all_goals refine qgo ?_ <;> (repeat' first | exact trivial | intro hc | refine And.intro ?_ ?_) <;> refine Lf.mk ?_)
 ·exact zd (VS.mk (je (by show xU l base = _; unfold xU; rw [if_pos (by omega)])))
 ·exact zd (VS.mk (je (by show xU l base = _; unfold xU; rw [if_pos (by omega)])))
 ·exact zd (VS.mk (je (by show xU l base = _; unfold xU; rw [if_pos (by omega)])))
 ·exact zd (VS.mk (je (by show xU l base = _; unfold xU; rw [if_neg (by omega), if_pos (by omega)])))
 ·exact zd (VS.mk (je (by show xU l base = _; unfold xU; rw [if_neg (by omega), if_pos (by omega)])))
 have hlo : xU l base = ze2 l base := by unfold xU; rw [if_neg (by omega), if_neg (by omega)]
 have hl4 : l.length ≤ 4 := by omega
 refine ye (α := Nat) (fun k => k ≤ l.length ∧ jd l 0 = jd (l.drop k) k)
  (fun k => [(48, .sl 3 (l.map qS) none), (49, .int .i64 l.length), (50, .int .i64 k), (0, .sl 3 (l.map qS) none), (1, .int .i64 base), (4, .loc 0 0), (5, .loc 1 0)])
  (fun _ => [.cells [.int .i64 0, .nilsl, .nilsl], .cells [.int .i64 0, .int .i64 0]]) (fun k => l.length - k) (fun _ => by simp [hE]) 0 ⟨Nat.zero_le _, by simp⟩ ?_ ?_
 ·(repeat' (first | (refine VS.mk ?_) | exact trivial | exact rfl | refine And.intro ?_ ?_))
 rintro k ⟨hk, hf⟩
 refine ze _ ?_
 (all_goals refine qgo ?_ <;> (repeat' first | exact trivial | intro hc | refine And.intro ?_ ?_) <;> refine Lf.mk ?_)
 ·obtain ⟨o, hok⟩ := yf (l := l) (k := k) (by omega)
  rw [qg hok, jd] at hf
  have hom := List.mem_of_getElem? hok
  refine zk o (by omega) (by simpa using hok) ?_
  (all_goals refine qgo (Lf.mk ?_))
  refine zb zge o ⟨hin.rel o hom, hin.sym o hom⟩ (VS.mk (by (first | exact LeL.refl _ | (repeat' (first | exact LeL.nil | exact LeD.refl _ | exact LeD.nil _ | exact LeD.strip _ _ _ | refine LeL.cons ?_ ?_ | refine LeD.tup ?_ | refine LeD.agg ?_))))) ?_
  (all_goals refine qgo ?_ <;> (repeat' first | exact trivial | intro hc | refine And.intro ?_ ?_) <;> refine Lf.mk ?_)
  ·rw [if_neg hc] at hf
   exact zd (VS.mk (je (by show xU l base = _; rw [hlo]; unfold ze2; rw [hf])))
  ·rw [if_pos hc] at hf
   refine zB (k + 1) ⟨by omega, hf⟩ (by omega) ?_
   (repeat' (first | (refine VS.mk ?_) | exact trivial | exact rfl | refine And.intro ?_ ?_))
 rw [List.drop_of_length_le (by omega), jd] at hf
 have hlr : ze2 l base = match lay base l base 0 [] [] with
  | .inl i => (zaM, 7, i)
  | .inr (bs, ss) => match fix base ss l base 0 bs with
   | .inl (e, i) => (zaM, e, i)
   | .inr bs' => (⟨base, bs', ss⟩, 0, 0) := by unfold ze2; rw [hf]; try rfl
 have hok := zla hf
 have hcode : ∀ o ∈ l, o.code.length ≤ 8000 := fun o ho => (zh9 (hok o ho)).code
 clear hf
 refine zb zn2 (l, base) ⟨by omega, by omega, by omega, fun o ho => by have := hcode o ho; omega⟩ (VS.mk (LeL.of_eq rfl)) ?_
 have he0 := zko l base
 have he1 := zpY l base hcode
 (all_goals refine qgs (Lf.mk ?_))
 refine zhA ?_
 (all_goals refine qgo (Lf.mk ?_))
 generalize hN : (qU l base - base).toNat = N at *
 have hNe : qU l base - base = (N : Nat) := by omega
 have hN1 : N ≤ 32012 := by omega
 have hR : (List.replicate N (D.int .u8 0)).length = N := List.length_replicate
 refine xF (w7 3 2 [.int .i64 base, .osl 1 2 (List.replicate N (D.int .u8 0)).length 0 (List.replicate N (D.int .u8 0)).length, .sl 2 [] (some 4)] rfl ⟨.same, .same, .here, trivial⟩) ?_
 generalize hLAY : lay base l base 0 [] [] = LAY at *
 refine ye (α := Nat × Int × List UInt8 × List zC) (fun p => p.1 ≤ l.length ∧ lay base (l.drop p.1) p.2.1 p.1 p.2.2.1 p.2.2.2 = LAY ∧ (wx l base).drop p.1 = wx (l.drop p.1) p.2.1 ∧ qU (l.drop p.1) p.2.1 = qU l base ∧
   (p.2.2.1.length : Int) = p.2.1 - base ∧ p.2.1 ≤ base + p.1 * 8003 ∧ p.2.2.2.length ≤ p.1 * 255 ∧ ∀ s ∈ p.2.2.2, 0 ≤ s.at_ ∧ s.at_ ≤ 100000000)
  (fun p => [(76, .sl 3 (l.map qS) none), (77, .int .i64 l.length), (78, .int .i64 p.1), (0, .sl 3 (l.map qS) none), (1, .int .i64 base), (4, .loc 0 0), (5, .loc 1 0), (9, zgq (wx l base)), (11, .loc 3 0)])
  (fun p => [.cells [.int .i64 0, .nilsl, .nilsl], .cells [.int .i64 0, .int .i64 0], .arr 1 ((p.2.2.1 ++ List.replicate (N - p.2.2.1.length) 0).map zI), .cells [.int .i64 base, .osl 1 2 N 0 N, .sl 2 (p.2.2.2.map yK) (some 4)], .spare p.2.2.2.length])
  (fun p => l.length - p.1) (fun _ => by simp [hE]) (0, base, [], []) ⟨Nat.zero_le _, by simpa using hLAY, by simp, by simp, by simp, by dsimp only; omega, by simp, by simp⟩ ?_ ?_
 ·(repeat' (first | (refine VS.mk ?_) | exact trivial | exact rfl | refine And.intro ?_ ?_))
  refine vZ (List.replicate N 0) (by rw [List.map_replicate]; rfl) ?_
  (repeat' (first | (refine VS.mk ?_) | exact trivial | exact rfl | refine And.intro ?_ ?_))
  simp [vy]
 rintro ⟨k, n, bs, ss⟩ ⟨hk, hlay, hbas, hend, hbl, hn, hsl, hss⟩
 dsimp only at hk hlay hbas hend hbl hn hsl hss ⊢
 refine ze _ ?_
 (all_goals refine qgo ?_ <;> (repeat' first | exact trivial | intro hc | refine And.intro ?_ ?_) <;> refine Lf.mk ?_)
 ·obtain ⟨o, hok1⟩ := yf (l := l) (k := k) (by omega)
  have hom := List.mem_of_getElem? hok1
  have hob := zh9 (hok o hom)
  have hoc := hob.code
  have hup := zgr n
  rw [qg hok1, zuE] at hlay
  rw [qg hok1, zjp] at hbas
  rw [qg hok1, zs7] at hend
  have hge := zko (l.drop (k + 1)) (upI n + o.code.length)
  have hbk : (wx l base)[k]? = some (upI n) := zhv hbas
  refine zk o (by omega) (by simpa using hok1) ?_
  (all_goals refine qgk (Lf.mk ?_))
  refine zk (upI n) (by omega) (by simpa using hbk) ?_
  (all_goals refine qgk (Lf.mk ?_))
  have ho1 : bs.length ≤ (upI n - base).toNat := by omega
  have ho2 : (upI n - base).toNat + o.code.length ≤ N := by omega
  have hll2 := zuJ (code := o.code) ho1
  refine wZ (((zaf bs (upI n - base).toNat o.code) ++ List.replicate (N - (zaf bs (upI n - base).toNat o.code).length) 0).map zI) (by rw [Nat.zero_add]; exact zs8 ho1 ho2) ?_
  generalize hB : zaf bs (upI n - base).toNat o.code = B at *
  (all_goals refine qgo (Lf.mk ?_))
  generalize hADD : zbN (upI n) o.syms ss = ADD at *
  have hos := hob.syms
  refine ye (α := Nat × List zC) (fun p => p.1 ≤ o.syms.length ∧ zbN (upI n) (o.syms.drop p.1) p.2 = ADD ∧ p.2.length ≤ k * 255 + p.1 ∧ ∀ s ∈ p.2, 0 ≤ s.at_ ∧ s.at_ ≤ 100000000)
   (fun p => [(96, .sl 2 (o.syms.map yK) none), (97, .int .i64 o.syms.length), (98, .int .i64 p.1), (76, .sl 3 (l.map qS) none), (77, .int .i64 l.length), (78, .int .i64 k), (0, .sl 3 (l.map qS) none), (1, .int .i64 base), (4, .loc 0 0), (5, .loc 1 0), (9, zgq (wx l base)), (11, .loc 3 0), (12, .int .i64 k)])
   (fun p => [.cells [.int .i64 0, .nilsl, .nilsl], .cells [.int .i64 0, .int .i64 0], .arr 1 ((B ++ List.replicate (N - B.length) 0).map zI), .cells [.int .i64 base, .osl 1 2 N 0 N, .sl 2 (p.2.map yK) (some 4)], .spare p.2.length])
   (fun p => o.syms.length - p.1) (fun _ => by simp [hE]) (0, ss) ⟨Nat.zero_le _, by simpa using hADD, hsl, hss⟩ ?_ ?_
  ·(repeat' (first | (refine VS.mk ?_) | exact trivial | exact rfl | refine And.intro ?_ ?_))
   refine vZ (B ++ List.replicate (N - B.length) 0) rfl ?_
   (repeat' (first | (refine VS.mk ?_) | exact trivial | exact rfl | refine And.intro ?_ ?_))
  rintro ⟨j, acc⟩ ⟨hj, hadd, hal, has⟩
  dsimp only at hj hadd hal has ⊢
  refine ze _ ?_
  (all_goals refine qgo ?_ <;> (repeat' first | exact trivial | intro hc | refine And.intro ?_ ?_) <;> refine Lf.mk ?_)
  ·obtain ⟨s, hsj⟩ := yf (l := o.syms) (k := j) (by omega)
   have hsm := List.mem_of_getElem? hsj
   obtain ⟨_, hs0, hs1⟩ := hob.sym s hsm
   rw [qg hsj, zs6] at hadd
   refine zk s (by omega) (by simpa using hsj) ?_
   (all_goals refine qgo (Lf.mk ?_))
   refine zb zht (acc, s.name) (by dsimp only; omega) (VS.mk (by (first | exact LeL.refl _ | (repeat' (first | exact LeL.nil | exact LeD.refl _ | exact LeD.nil _ | exact LeD.strip _ _ _ | refine LeL.cons ?_ ?_ | refine LeD.tup ?_ | refine LeD.agg ?_))))) ?_
   (all_goals refine qgo ?_ <;> (repeat' first | exact trivial | intro hc | refine And.intro ?_ ?_) <;> refine Lf.mk ?_)
   ·rw [if_pos hc] at hadd
    subst hadd
    exact zd (VS.mk (je (by show xU l base = _; rw [hlo, hlr, ← hlay])))
   ·rw [if_neg (by rw [hc]; decide)] at hadd
    refine zk (upI n) (by omega) (by simpa using hbk) ?_
    (all_goals refine qgo (Lf.mk ?_))
    have has2 : ∀ t ∈ acc ++ [(⟨s.name, upI n + s.at_⟩ : zC)], 0 ≤ t.at_ ∧ t.at_ ≤ 100000000 := fun t ht => by
     rcases List.mem_append.1 ht with h1 | h1
     ·exact has t h1
     ·rw [List.mem_singleton.1 h1]
      exact ⟨by show 0 ≤ upI n + s.at_; omega, by show upI n + s.at_ ≤ _; omega⟩
    refine zB (j + 1, acc ++ [⟨s.name, upI n + s.at_⟩]) ⟨by (dsimp only; omega), hadd, by (dsimp only; rw [List.length_append]; show _ + 1 ≤ _; omega), has2⟩ (by dsimp only; omega) ?_
    (repeat' (first | (refine VS.mk ?_) | exact trivial | exact rfl | refine And.intro ?_ ?_))
    ·refine vZ (B ++ List.replicate (N - B.length) 0) rfl ?_
     (repeat' (first | (refine VS.mk ?_) | exact trivial | exact rfl | refine And.intro ?_ ?_))
     simp [yK, vy]
  ·have hje : j = o.syms.length := by omega
   rw [List.drop_of_length_le (by omega), zuH] at hadd
   subst hadd
   refine zB (k + 1, upI n + o.code.length, B, acc) ⟨by (dsimp only; omega), hlay, zlc hbas, hend, by (dsimp only; omega), by (dsimp only; omega), by (dsimp only; omega), has⟩ (by dsimp only; omega) ?_
   (repeat' (first | (refine VS.mk ?_) | exact trivial | exact rfl | refine And.intro ?_ ?_))
   refine vZ (B ++ List.replicate (N - B.length) 0) rfl ?_
   (repeat' (first | (refine VS.mk ?_) | exact trivial | exact rfl | refine And.intro ?_ ?_))
 have hke : k = l.length := by omega
 rw [List.drop_of_length_le (by omega), zwf] at hlay
 rw [List.drop_of_length_le (by omega), zuI] at hend
 subst hlay
 have hbN : bs.length = N := by omega
 have hlr2 : ze2 l base = match fix base ss l base 0 bs with
   | .inl (e, i) => (zaM, e, i)
   | .inr bs' => (⟨base, bs', ss⟩, 0, 0) := hlr
 refine xF (ziW (k := 2) 3 bs [.int .i64 base, .sl 1 (bs.map zI) (some 5), .sl 2 (ss.map yK) (some 4)] rfl (by rw [show N - bs.length = 0 by omega]; simp) rfl
  ⟨.keep _, .here N N (by simp [hbN]) (by simp [hbN]), .keep _, trivial⟩) ?_
 refine xF (zda 3 [.int .i64 base, .sl 1 (bs.map zI) none, .sl 2 (ss.map yK) (some 4)] rfl (.cons (.refl _) (.cons (.strip _ _ _) (.cons (.refl _) .nil)))) ?_
 have hss4 : ss.length ≤ 1020 := by omega
 clear hlr hend hn hsl hbas hbl
 generalize hFIX : fix base ss l base 0 bs = FIX at *
 refine ye (α := Nat × Int × List UInt8) (fun p => p.1 ≤ l.length ∧ fix base ss (l.drop p.1) p.2.1 p.1 p.2.2 = FIX ∧ (wx l base).drop p.1 = wx (l.drop p.1) p.2.1 ∧ base ≤ p.2.1 ∧ p.2.1 ≤ base + p.1 * 8003 ∧ p.2.2.length = N)
  (fun p => [(131, .sl 3 (l.map qS) none), (132, .int .i64 l.length), (133, .int .i64 p.1), (1, .int .i64 base), (4, .loc 0 0), (5, .loc 1 0), (9, zgq (wx l base)), (11, .loc 3 0)])
  (fun p => [.cells [.int .i64 0, .nilsl, .nilsl], .cells [.int .i64 0, .int .i64 0], .dead, .cells [.int .i64 base, .sl 1 (p.2.2.map zI) none, .sl 2 (ss.map yK) (some 4)], .spare ss.length])
  (fun p => l.length - p.1) (fun _ => by simp [hE]) (0, base, bs) ⟨Nat.zero_le _, by simpa using hFIX, by simp, by simp, by dsimp only; omega, hbN⟩ ?_ ?_
 ·(repeat' (first | (refine VS.mk ?_) | exact trivial | exact rfl | refine And.intro ?_ ?_))
 rintro ⟨k, n, bs⟩ ⟨hk, hfix, hbas, hn0, hn, hbl⟩
 dsimp only at hk hfix hbas hn0 hn hbl ⊢
 refine ze _ ?_
 (all_goals refine qgo ?_ <;> (repeat' first | exact trivial | intro hc | refine And.intro ?_ ?_) <;> refine Lf.mk ?_)
 ·obtain ⟨o, hok1⟩ := yf (l := l) (k := k) (by omega)
  have hom := List.mem_of_getElem? hok1
  have hob := zh9 (hok o hom)
  have hoc := hob.code
  have hup := zgr n
  rw [qg hok1, zuF] at hfix
  rw [qg hok1, zjp] at hbas
  have hbk : (wx l base)[k]? = some (upI n) := zhv hbas
  have hor := hob.rels
  refine zk o (by omega) (by simpa using hok1) ?_
  (all_goals refine qgo (Lf.mk ?_))
  generalize hFX : zbO base (upI n) ss o.rels bs = FX at *
  refine ye (α := Nat × List UInt8) (fun p => p.1 ≤ o.rels.length ∧ zbO base (upI n) ss (o.rels.drop p.1) p.2 = FX ∧ p.2.length = N)
   (fun p => [(139, .sl 4 (o.rels.map zbL) none), (140, .int .i64 o.rels.length), (141, .int .i64 p.1), (131, .sl 3 (l.map qS) none), (132, .int .i64 l.length), (133, .int .i64 k), (1, .int .i64 base), (4, .loc 0 0), (5, .loc 1 0), (9, zgq (wx l base)), (11, .loc 3 0), (18, .int .i64 k)])
   (fun p => [.cells [.int .i64 0, .nilsl, .nilsl], .cells [.int .i64 0, .int .i64 0], .dead, .cells [.int .i64 base, .sl 1 (p.2.map zI) none, .sl 2 (ss.map yK) (some 4)], .spare ss.length])
   (fun p => o.rels.length - p.1) (fun _ => by simp [hE]) (0, bs) ⟨Nat.zero_le _, by simpa using hFX, hbl⟩ ?_ ?_
  ·(repeat' (first | (refine VS.mk ?_) | exact trivial | exact rfl | refine And.intro ?_ ?_))
  rintro ⟨j, cs⟩ ⟨hj, hfx, hcl⟩
  dsimp only at hj hfx hcl ⊢
  refine ze _ ?_
  (all_goals refine qgo ?_ <;> (repeat' first | exact trivial | intro hc | refine And.intro ?_ ?_) <;> refine Lf.mk ?_)
  ·obtain ⟨r, hrj⟩ := yf (l := o.rels) (k := j) (by omega)
   have hro := hob.rel r (List.mem_of_getElem? hrj)
   have hrn := hro.len
   have hrs := hro.size
   have hr0 := hro.at0
   have hr1 := hro.at1
   have hra := zgs r.add
   rw [hro.add] at hra
   rw [qg hrj, zs5] at hfx
   refine zk r (by omega) (by simpa using hrj) ?_
   (all_goals refine qgo (Lf.mk ?_))
   refine zk (upI n) (by omega) (by simpa using hbk) ?_
   (all_goals refine qgo ?_ <;> (repeat' first | exact trivial | intro hc | refine And.intro ?_ ?_) <;> refine Lf.mk ?_)
   ·refine zb zht (ss, r.name) (by dsimp only; omega) (VS.mk (by (first | exact LeL.refl _ | (repeat' (first | exact LeL.nil | exact LeD.refl _ | exact LeD.nil _ | exact LeD.strip _ _ _ | refine LeL.cons ?_ ?_ | refine LeD.tup ?_ | refine LeD.agg ?_))))) ?_
    dsimp only
    have hp0 : zcJ (upI n) ss r = kg r.name ss := by unfold zcJ; rw [if_neg hc]
    rcases hfs : kg r.name ss with _ | a
    ·rw [hfs] at hp0
     rw [hp0] at hfx
     subst hfx
     (all_goals refine qgo ?_ <;> (repeat' first | exact trivial | intro hc | refine And.intro ?_ ?_) <;> refine Lf.mk ?_)
     ·exact zd (VS.mk (je (by show xU l base = _; rw [hlo, hlr2, ← hfix])))
     ·exact Bool.noConfusion hc
    ·obtain ⟨t, ht1, ht2⟩ := zlb hfs
     obtain ⟨hA0, hA1⟩ := hss t ht1
     rw [ht2] at hA0 hA1
     have hpl : zcJ (upI n) ss r = some a := by rw [hp0, hfs]
     simp only [Option.getD_some, Option.isSome_some]
     (all_goals refine qgo ?_ <;> (repeat' first | exact trivial | intro hc | refine And.intro ?_ ?_) <;> refine Lf.mk ?_)
     (any_goals (first | (exfalso; refine hc ?_; simp; done) | (exfalso; exact Bool.noConfusion hc) | (exfalso; exact hc (by with_reducible rfl)) | (exfalso; exact hc rfl) | skip))
     refine zb yx (a + r.add) trivial (VS.mk (LeL.of_eq rfl)) ?_
     have hsb := zgs (a + r.add)
     generalize hv : zh (a + r.add) 32 = v at *
     rw [hpl] at hfx
     dsimp only at hfx
     rw [hv] at hfx
     (all_goals refine qgo ?_ <;> (repeat' first | exact trivial | intro hc | refine And.intro ?_ ?_) <;> refine Lf.mk ?_)
     any_goals (first | (rw [if_pos ⟨by assumption, by omega⟩] at hfx; subst hfx; exact zd (VS.mk (je (by show xU l base = _; rw [hlo, hlr2, ← hfix])))) | skip)
     all_goals
      rw [if_neg (by omega)] at hfx
      have hsz : ((r.size.toNat : Nat) : Int) = r.size := Int.toNat_of_nonneg (by omega)
      refine zk (upI n) (by omega) (by simpa using hbk) ?_
      (all_goals refine qgo (Lf.mk ?_))
      refine yb zdi [] [6] (cs, upI n - base + r.at_, r.size.toNat, v) ⟨by omega, by omega, by omega, by omega⟩ rfl rfl ?_
      refine And.intro (VS.mk (LeL.of_eq (by dsimp only; rw [hsz]; rfl))) (And.intro (VS.mk rfl) ?_)
      (all_goals refine qgo (Lf.mk ?_))
      refine zfd (j + 1, xo cs (upI n - base + r.at_) r.size.toNat v) ⟨by (dsimp only; omega), hfx, by (dsimp only; rw [zhu]; exact hcl)⟩ (by dsimp only; omega)
       (zda 3 [.int .i64 base, .sl 1 ((xo cs (upI n - base + r.at_) r.size.toNat v).map zI) none, .sl 2 (ss.map yK) (some 4)] rfl (.cons (.refl _) (.cons (.strip _ _ _) (.cons (.refl _) .nil)))) (by rw [hE]; exact Nat.zero_le _) ?_
      (repeat' (first | (refine VS.mk ?_) | exact trivial | exact rfl | refine And.intro ?_ ?_))
   ·have hpl : zcJ (upI n) ss r = some (upI n) := by unfold zcJ; rw [if_pos hc]
    have hA0 : 0 ≤ upI n := by omega
    have hA1 : upI n ≤ 100000000 := by omega
    refine zb yx (upI n + r.add) trivial (VS.mk (LeL.of_eq rfl)) ?_
    have hsb := zgs (upI n + r.add)
    generalize hv : zh (upI n + r.add) 32 = v at *
    rw [hpl] at hfx
    dsimp only at hfx
    rw [hv] at hfx
    (all_goals refine qgo ?_ <;> (repeat' first | exact trivial | intro hc | refine And.intro ?_ ?_) <;> refine Lf.mk ?_)
    any_goals (first | (rw [if_pos ⟨by assumption, by omega⟩] at hfx; subst hfx; exact zd (VS.mk (je (by show xU l base = _; rw [hlo, hlr2, ← hfix])))) | skip)
    all_goals
     rw [if_neg (by omega)] at hfx
     have hsz : ((r.size.toNat : Nat) : Int) = r.size := Int.toNat_of_nonneg (by omega)
     refine zk (upI n) (by omega) (by simpa using hbk) ?_
     (all_goals refine qgo (Lf.mk ?_))
     refine yb zdi [] [6] (cs, upI n - base + r.at_, r.size.toNat, v) ⟨by omega, by omega, by omega, by omega⟩ rfl rfl ?_
     refine And.intro (VS.mk (LeL.of_eq (by dsimp only; rw [hsz]; rfl))) (And.intro (VS.mk rfl) ?_)
     (all_goals refine qgo (Lf.mk ?_))
     refine zfd (j + 1, xo cs (upI n - base + r.at_) r.size.toNat v) ⟨by (dsimp only; omega), hfx, by (dsimp only; rw [zhu]; exact hcl)⟩ (by dsimp only; omega)
      (zda 3 [.int .i64 base, .sl 1 ((xo cs (upI n - base + r.at_) r.size.toNat v).map zI) none, .sl 2 (ss.map yK) (some 4)] rfl (.cons (.refl _) (.cons (.strip _ _ _) (.cons (.refl _) .nil)))) (by rw [hE]; exact Nat.zero_le _) ?_
     (repeat' (first | (refine VS.mk ?_) | exact trivial | exact rfl | refine And.intro ?_ ?_))
  ·rw [List.drop_of_length_le (by omega), zuG] at hfx
   subst hfx
   refine zB (k + 1, upI n + o.code.length, cs) ⟨by (dsimp only; omega), hfix, zlc hbas, by (dsimp only; omega), by (dsimp only; omega), hcl⟩ (by dsimp only; omega) ?_
   (repeat' (first | (refine VS.mk ?_) | exact trivial | exact rfl | refine And.intro ?_ ?_))
 ·rw [List.drop_of_length_le (by omega), zwg] at hfix
  subst hfix
  have hout : xU l base = (⟨base, bs, ss⟩, 0, 0) := by rw [hlo, hlr2]
  refine zd (VS.mk ?_)
  show LeD _ (zkn (xU l base))
  rw [hout]
  exact .tup (.cons (.agg (.cons (.refl _) (.cons (.refl _) (.cons (.strip _ _ _) .nil)))) (.cons (.refl _) .nil))
end Go.Proofs.YtnkdeacghopkiaaGreatDoor
