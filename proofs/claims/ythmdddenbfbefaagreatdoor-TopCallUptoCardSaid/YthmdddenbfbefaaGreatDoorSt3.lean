/-
  A part of the proof: what the given program's functions answer, each once; conditions that are enough for it.
-/
import Derived.Test.YthmdddenbfbefaaGreatDoorSt2
import Derived.Test.YthmdddenbfbefaaGreatDoorFw3
import Derived.Test.YthmdddenbfbefaaGreatDoorSt1
namespace Go.Proofs.YthmdddenbfbefaaGreatDoor
open Go Go.Plat
set_option linter.unusedVariables false
set_option linter.unusedSimpArgs false
set_option maxRecDepth 100000
set_option maxHeartbeats 2000000
attribute [local irreducible] AWP Arith BitS BytesS CallS CatS DrawS EndS IdxS Lib.itoa LookS LoopEnd Meets ModeS NilS NormL NormM OExpr.kids OExpr.kind OExpr.n OExpr.name QuoS RemS ShlS ShrS SideS SplitS allA awayA bitI encV evalE exprD findI idxV infoR labelB nameB nodes oneA pRes putN regI sizeA slotV takeA targetA withV wrongI
def eC (q : List OEqu) (b : Bld) (o : Out) : List D := [.sl 2 (q.map equD) none, .osl 13 1 b.items.length 0 b.items.length, .osl 2 2 b.syms.length 0 b.syms.length, .sl 1 (b.marks.map (.int .i64)) (some 3),
 .osl 1 4 (poolsD b).length 0 (poolsD b).length, .int .i64 b.shut.length, .sl 1 (o.code.map byteD) (some 6), .nilsl, .sl 4 (o.rels.map relD) (some 5), .int .i64 o.fe, .int .i64 o.fa]
def eT (b : Bld) (o : Out) : List Ob := [.arr 13 (b.items.map itemD), .arr 2 (b.syms.map symD), .spare b.marks.length, .arr 1 (b.shut.map shutD), .spare o.rels.length, .spare o.code.length]
def eO (q : List OEqu) (b : Bld) (o : Out) : List Ob := .cells (eC q b o) :: eT b o
theorem shuts_cl {n : Nat} (l : List (List OVal)) : ∀ d ∈ l.map shutD, ClL n d.cells := by
 intro d hd
 obtain ⟨x, _, rfl⟩ := List.mem_map.1 hd
 exact .cons .sl .nil
theorem eO_cl (q : List OEqu) (b : Bld) (o : Out) : ∀ x ∈ eO q b o, ClO 7 x := by
 intro x hx
 simp only [eO, eT, List.mem_cons, List.not_mem_nil, or_false] at hx
 rcases hx with rfl | rfl | rfl | rfl | rfl | rfl | rfl
 ·exact .cells (.cons .sl (.cons (.osl (by decide)) (.cons (.osl (by decide)) (.cons (.tok (by decide)) (.cons (.osl (by decide)) (.cons .int (.cons (.tok (by decide)) (.cons .nilsl (.cons (.tok (by decide)) (.cons .int (.cons .int .nil)))))))))))
 ·exact .arr (items_cl _)
 ·exact .arr (syms_cl _)
 ·exact .spare
 ·exact .arr (shuts_cl _)
 ·exact .spare
 ·exact .spare
theorem end_eO {n0 : Nat} {q : List OEqu} {b : Bld} {o o' : Out} {r d : D} {L : List Ob} (X : List Ob) (hL : L = eO q b o' ++ X) (ho : o' = o) (hr : r = d) (hn : n0 ≤ 7) (hd : ClD 7 d) : EndS n0 r d L (eO q b o) := by
 subst ho; subst hr
 exact end_pre (eO q b o') X hL hn hd (eO_cl _ _ _)
theorem fail_eO (q : List OEqu) (b : Bld) (o : Out) (e line : Int) : Ob.cells [.sl 2 (q.map equD) none, .osl 13 1 b.items.length 0 b.items.length, .osl 2 2 b.syms.length 0 b.syms.length, .sl 1 (b.marks.map (.int .i64)) (some 3),
  .osl 1 4 (poolsD b).length 0 (poolsD b).length, .int .i64 b.shut.length, .sl 1 (o.code.map byteD) (some 6), .nilsl, .sl 4 (o.rels.map relD) (some 5), .int .i64 (if o.fe = 0 then e else o.fe), .int .i64 (if o.fe = 0 then line else o.fa)] :: eT b o = eO q b (failE o e line) := by
 unfold failE
 by_cases h : o.fe = 0
 ·rw [if_pos h, if_pos h, if_pos h]; rfl
 ·rw [if_neg h, if_neg h, if_neg h]; rfl
theorem call_efail {av : List D} {L : List Ob} {KP : D → Prop} {KW : D → List Ob → Prop} (q : List OEqu) (b : Bld) (o : Out) (e line : Int) (X : List Ob) (hL : L = eO q b o ++ X) (has : av = [.loc 0 0, .int .i64 e, .int .i64 line])
  (hK : KW .ff (eO q b (failE o e line) ++ X)) : CallS Tryz.prog n_asm_builder_fail av L KP KW := by
 subst has
 refine call_b afail_meets X ((.sl 2 (q.map equD) none, .osl 13 1 b.items.length 0 b.items.length, .osl 2 2 b.syms.length 0 b.syms.length, .sl 1 (b.marks.map (.int .i64)) (some 3),
  .osl 1 4 (poolsD b).length 0 (poolsD b).length, .int .i64 b.shut.length, .sl 1 (o.code.map byteD) (some 6), .nilsl, .sl 4 (o.rels.map relD) (some 5)), o.fe, o.fa, e, line, eT b o) trivial hL (LeL.refl _) rfl ?_ .ff (eO_cl q b o) ?_ ?_
 ·exact .cons (.loc (Nat.lt_of_lt_of_le (by decide : 0 < 7) (Nat.le_of_eq rfl))) (.cons .int (.cons .int .nil))
 ·dsimp only
  rw [fail_eO]
  exact eO_cl q b _
 ·dsimp only
  rw [fail_eO]
  exact hK
theorem half_meets : Meets Tryz.prog n_asm_builder_half (SpecF (fun ((_, o, _, _, _) : Bld × Out × Ins × Int × List OEqu) => o.code.length ≤ 1000000000) (fun (_, _, i, line, _) => [.loc 0 0, insD i, .int .i64 line])
  (fun (b, o, _, _, q) => eO q b o) (fun _ => .tup []) fun (b, o, i, line, q) => eO q b (halfE o i line)) := by
 refine meets_f tabOk Tryz.func75 rfl (by decide) ?_
 rintro ⟨b, o, i, line, q⟩ hl
 have hl : o.code.length ≤ 1000000000 := hl
 refine ⟨Nat.le_refl _, by simp [Tryz.f75], fun E hE => ?_⟩
 show AWP _ _ _ _ (FinQ _ _ _ _ (eO q b (halfE o i line))) _ (eO q b o)
 have hH : halfE o i line = if wrongI i = 0 then ⟨o.code ++ [lowByte (encV i / 256), lowByte (encV i)], o.rels, o.fe, o.fa⟩ else failE o (wrongI i) line := rfl
 generalize halfE o i line = H at *
 refine vcOk _ ?_
 (all_goals refine qgp (Lf.mk ?_))
 refine call_p encode_meets i trivial (VS.mk (LeL.of_eq rfl)) ?_
 generalize wrongI i = W at *
 (all_goals refine qgp ?_ <;> (repeat' first | exact trivial | intro hc | refine And.intro ?_ ?_) <;> refine Lf.mk ?_)
 ·rw [if_neg hc] at hH
  refine call_efail q b o W line [_] rfl rfl ?_
  rw [← hH]
  (all_goals refine qgp (Lf.mk ?_))
  exact end_eO [_] rfl rfl rfl (Nat.le_of_eq rfl) .tup0
 ·rw [if_pos hc] at hH
  subst hH
  have he : (if W = 0 then encV i else 0) = encV i := if_pos hc
  simp only [he]
  exact end_eO (o' := ⟨o.code ++ [lowByte (encV i / 256), lowByte (encV i)], o.rels, o.fe, o.fa⟩) [_] rfl rfl rfl (Nat.le_of_eq rfl) .tup0
theorem insD_cl {n : Nat} (i : Ins) : ClD n (insD i) := .agg (.cons .int (.cons .int (.cons .int (.cons .int .nil))))
theorem call_half {av : List D} {L : List Ob} {KP : D → Prop} {KW : D → List Ob → Prop} (q : List OEqu) (b : Bld) (o : Out) (i : Ins) (line : Int) (X : List Ob) (hl : o.code.length ≤ 1000000000) (hL : L = eO q b o ++ X) (has : LeL av [.loc 0 0, insD i, .int .i64 line])
  (hK : KW (.tup []) (eO q b (halfE o i line) ++ X)) : CallS Tryz.prog n_asm_builder_half av L KP KW := by
 refine call_le has ?_
 exact call_b half_meets X (b, o, i, line, q) hl hL (LeL.refl _) rfl (.cons (.loc (Nat.lt_of_lt_of_le (by decide : 0 < 7) (Nat.le_of_eq rfl))) (.cons (insD_cl i) (.cons .int .nil))) .tup0 (eO_cl _ _ _) (eO_cl _ _ _) hK
theorem half_len (o : Out) (i : Ins) (line : Int) : (halfE o i line).code.length ≤ o.code.length + 2 := by
 unfold halfE failE
 repeat' split
 all_goals simp
theorem lead_len (o : Out) (i : Ins) (a to line : Int) : (leadE o i a to line).code.length ≤ o.code.length + 2 := by
 unfold leadE
 split
 ·exact half_len _ _ _
 ·unfold failE; split <;> simp
attribute [local irreducible] halfE
theorem lead_meets : Meets Tryz.prog n_asm_builder_lead (SpecF (fun ((_, o, _, a, _, _, _) : Bld × Out × Ins × Int × Int × Int × List OEqu) => o.code.length ≤ 1000000000 ∧ 0 ≤ a ∧ a ≤ 1000000000000000) (fun (_, _, i, a, to, line, _) => [.loc 0 0, insD i, .int .i64 a, .int .i64 to, .int .i64 line])
  (fun (b, o, _, _, _, _, q) => eO q b o) (fun _ => .tup []) fun (b, o, i, a, to, line, q) => eO q b (leadE o i a to line)) := by
 refine meets_f tabOk Tryz.func78 rfl (by decide) ?_
 rintro ⟨b, o, i, a, to, line, q⟩ ⟨hl, h0, h1⟩
 have hl : o.code.length ≤ 1000000000 := hl
 refine ⟨Nat.le_refl _, by simp [Tryz.f78], fun E hE => ?_⟩
 show AWP _ _ _ _ (FinQ _ _ _ _ (eO q b (leadE o i a to line))) _ (eO q b o)
 have hH : leadE o i a to line = if (awayA i.op a to).2 = 0 then halfE o ⟨i.op, i.n, i.m, (awayA i.op a to).1⟩ line else failE o (awayA i.op a to).2 line := rfl
 generalize leadE o i a to line = H at *
 refine vcOk _ ?_
 (all_goals refine qgp (Lf.mk ?_))
 refine call_p away_meets (i.op, a, to) ⟨h0, h1⟩ (VS.mk (LeL.of_eq rfl)) ?_
 dsimp only
 generalize awayA i.op a to = W at *
 (all_goals refine qgp ?_ <;> (repeat' first | exact trivial | intro hc | refine And.intro ?_ ?_) <;> refine Lf.mk ?_)
 ·rw [if_neg hc] at hH
  refine call_efail q b o W.2 line [_] rfl rfl ?_
  rw [← hH]
  (all_goals refine qgp (Lf.mk ?_))
  exact end_eO [_] rfl rfl rfl (Nat.le_of_eq rfl) .tup0
 ·rw [if_pos hc] at hH
  refine call_half q b o ⟨i.op, i.n, i.m, W.1⟩ line [_] hl rfl (LeL.of_eq rfl) ?_
  rw [← hH]
  (all_goals refine qgp (Lf.mk ?_))
  exact end_eO [_] rfl rfl rfl (Nat.le_of_eq rfl) .tup0
theorem call_lead {av : List D} {L : List Ob} {KP : D → Prop} {KW : D → List Ob → Prop} (q : List OEqu) (b : Bld) (o : Out) (i : Ins) (a to line : Int) (X : List Ob) (hl : o.code.length ≤ 1000000000) (h0 : 0 ≤ a) (h1 : a ≤ 1000000000000000) (hL : L = eO q b o ++ X)
  (has : LeL av [.loc 0 0, insD i, .int .i64 a, .int .i64 to, .int .i64 line]) (hK : KW (.tup []) (eO q b (leadE o i a to line) ++ X)) : CallS Tryz.prog n_asm_builder_lead av L KP KW := by
 refine call_le has ?_
 exact call_b lead_meets X (b, o, i, a, to, line, q) ⟨hl, h0, h1⟩ hL (LeL.refl _) rfl (.cons (.loc (Nat.lt_of_lt_of_le (by decide : 0 < 7) (Nat.le_of_eq rfl))) (.cons (insD_cl i) (.cons .int (.cons .int (.cons .int .nil))))) .tup0 (eO_cl _ _ _) (eO_cl _ _ _) hK
attribute [local irreducible] leadE
theorem near_meets : Meets Tryz.prog n_asm_builder_near (SpecF (fun ((b, o, k, x, _, _) : Bld × Out × Nat × AItem × Int × List OEqu) => o.code.length ≤ 900000000 ∧ b.items[k]? = some x ∧ 0 ≤ x.at_ ∧ x.at_ ≤ 100000000000000) (fun (b, _, k, _, to, _) => [.loc 0 0, .aloc 1 b.items.length k 0, .int .i64 to])
  (fun (b, o, _, _, _, q) => eO q b o) (fun _ => .tup []) fun (b, o, _, x, to, q) => eO q b (nearE o x to)) := by
 refine meets_f tabOk Tryz.func79 rfl (by decide) ?_
 rintro ⟨b, o, k, x, to, q⟩ ⟨hl, hx, h0, h1⟩
 have hl : o.code.length ≤ 900000000 := hl
 have hx : b.items[k]? = some x := hx
 have h0 : 0 ≤ x.at_ := h0
 have h1 : x.at_ ≤ 100000000000000 := h1
 have hxn : b.items[((k : Nat) : Int).toNat]? = some x := by rw [Int.toNat_natCast]; exact hx
 refine ⟨Nat.le_refl _, by simp [Tryz.f79], fun E hE => ?_⟩
 show AWP _ _ _ _ (FinQ _ _ _ _ (eO q b (nearE o x to))) _ (eO q b o)
 have hH : nearE o x to = if x.long = false then leadE o x.ins x.at_ to x.line else halfE (leadE (halfE o ⟨w64 (35 - x.ins.op), 0, 0, 1⟩ x.line) ⟨19, 0, 0, 0⟩ (x.at_ + 2) to x.line) ⟨1, 0, 0, 0⟩ x.line := rfl
 generalize nearE o x to = H at *
 have hl1 := half_len o ⟨w64 (35 - x.ins.op), 0, 0, 1⟩ x.line
 have hl2 := lead_len (halfE o ⟨w64 (35 - x.ins.op), 0, 0, 1⟩ x.line) ⟨19, 0, 0, 0⟩ (x.at_ + 2) to x.line
 refine vcOk _ ?_
 (all_goals refine qgp (Lf.mk ?_))
 refine ix_map x (Int.natCast_nonneg k) hxn ?_
 (all_goals refine qgp ?_ <;> (repeat' first | exact trivial | intro hc | refine And.intro ?_ ?_) <;> refine Lf.mk ?_)
 ·rw [if_pos hc] at hH
  refine ix_map x (Int.natCast_nonneg k) hxn ?_
  (all_goals refine qgp (Lf.mk ?_))
  refine ix_map x (Int.natCast_nonneg k) hxn ?_
  (all_goals refine qgp (Lf.mk ?_))
  refine ix_map x (Int.natCast_nonneg k) hxn ?_
  (all_goals refine qgp (Lf.mk ?_))
  refine call_lead q b o x.ins x.at_ to x.line [] (by omega) h0 (by omega) rfl (LeL.of_eq rfl) ?_
  rw [← hH]
  (all_goals refine qgp (Lf.mk ?_))
  exact end_eO [] rfl rfl rfl (Nat.le_of_eq rfl) .tup0
 ·rw [if_neg (by rw [hc]; decide)] at hH
  refine ix_map x (Int.natCast_nonneg k) hxn ?_
  (all_goals refine qgp (Lf.mk ?_))
  refine ar_w ?_
  (all_goals refine qgp (Lf.mk ?_))
  refine ix_map x (Int.natCast_nonneg k) hxn ?_
  (all_goals refine qgp (Lf.mk ?_))
  refine call_half q b o ⟨w64 (35 - x.ins.op), 0, 0, 1⟩ x.line [_] (by omega) rfl (LeL.of_eq rfl) ?_
  generalize halfE o ⟨w64 (35 - x.ins.op), 0, 0, 1⟩ x.line = o1 at *
  (all_goals refine qgp (Lf.mk ?_))
  refine ix_map x (Int.natCast_nonneg k) hxn ?_
  (all_goals refine qgp (Lf.mk ?_))
  refine ix_map x (Int.natCast_nonneg k) hxn ?_
  (all_goals refine qgp (Lf.mk ?_))
  refine call_lead q b o1 ⟨19, 0, 0, 0⟩ (x.at_ + 2) to x.line [_] (by omega) (by omega) (by omega) rfl (LeL.of_eq rfl) ?_
  generalize leadE o1 ⟨19, 0, 0, 0⟩ (x.at_ + 2) to x.line = o2 at *
  (all_goals refine qgp (Lf.mk ?_))
  refine ix_map x (Int.natCast_nonneg k) hxn ?_
  (all_goals refine qgp (Lf.mk ?_))
  refine call_half q b o2 ⟨1, 0, 0, 0⟩ x.line [_] (by omega) rfl (LeL.of_eq rfl) ?_
  rw [← hH]
  (all_goals refine qgp (Lf.mk ?_))
  exact end_eO [_] rfl rfl rfl (Nat.le_of_eq rfl) .tup0
end Go.Proofs.YthmdddenbfbefaaGreatDoor
namespace Go.Proofs.YthmdddenbfbefaaGreatDoor
open Go Go.Plat
set_option linter.unusedVariables false
set_option linter.unusedSimpArgs false
set_option maxRecDepth 100000
set_option maxHeartbeats 2000000
attribute [local irreducible] AWP Arith BitS BytesS CallS CatS DrawS EndS IdxS Lib.itoa LookS LoopEnd Meets ModeS NilS NormL NormM OExpr.kids OExpr.kind OExpr.n OExpr.name QuoS RemS ShlS ShrS SideS SplitS allA awayA bitI encV evalE exprD findI idxV infoR labelB nameB nodes oneA pRes putN regI signedI sizeA slotV takeA withV wrongI
theorem target_e {av : List D} {L : List Ob} {KP : D → Prop} {KW : D → List Ob → Prop} (q : List OEqu) (b : Bld) (o : Out) (v : OVal) (X : List Ob) (hl : b.syms.length ≤ 1000000) (hL : L = eO q b o ++ X) (has : av = [.loc 0 0, valD v])
  (hK : KW (.tup [.int .i64 (targetA b.syms v).1, .int .i64 (targetA b.syms v).2]) (eO q b o ++ X)) : CallS Tryz.prog n_asm_builder_target av L KP KW := by
 subst has
 have hm : Meets Tryz.prog n_asm_builder_target (SpecF (fun ((b, _, _, _) : Bld × Out × OVal × List OEqu) => b.syms.length ≤ 1000000) (fun (_, _, v, _) => [.loc 0 0, valD v])
   (fun (b, o, _, q) => eO q b o) (fun (b, _, v, _) => .tup [.int .i64 (targetA b.syms v).1, .int .i64 (targetA b.syms v).2]) fun (b, o, _, q) => eO q b o) := by
  clear hK hL hl
  refine meets_f tabOk Tryz.func70 rfl (by decide) ?_
  rintro ⟨b, o, v, q⟩ hl
  have hl : b.syms.length ≤ 1000000 := hl
  refine ⟨Nat.le_refl _, by simp [Tryz.f70], fun E hE => ?_⟩
  show AWP _ _ _ _ (FinQ _ _ _ (.tup [.int .i64 (targetA b.syms v).1, .int .i64 (targetA b.syms v).2]) (eO q b o)) _ (eO q b o)
  have hT : targetA b.syms v = if v.name = [] then (0, 8) else if idxN v.name b.syms 0 < 0 then (0, 6) else (w64 ((symA b.syms (idxN v.name b.syms 0)).at_ + v.n), 0) := rfl
  generalize targetA b.syms v = T at *
  refine vcOk _ ?_
  (all_goals refine qgp ?_ <;> (repeat' first | exact trivial | intro hc | refine And.intro ?_ ?_) <;> refine Lf.mk ?_)
  ·rw [if_pos hc] at hT
   subst hT
   exact end_eO [_] rfl rfl rfl (Nat.le_of_eq rfl) (.tup (.cons .int (.cons .int .nil)))
  rw [if_neg hc] at hT
  refine idx_syms n_asm_builder_target_1 [.loc 7 0] (fun s => s.name == v.name) b.syms (.cells (eC q b o)) (.arr 13 (b.items.map itemD)) [.spare b.marks.length, .arr 1 (b.shut.map shutD), .spare o.rels.length, .spare o.code.length, .cells [.str v.name, .int .i64 v.n]] (by omega) rfl rfl
   (fun s hs KP KW hK => ?_) ?_
  ·exact call_f target1_meets [7] [7] (s, v) trivial rfl rfl ⟨VS.mk (LeL.refl _), VS.mk rfl, hK⟩
  have hp := posF_bound (fun s : OSym => s.name == v.name) b.syms 0
  have hT : T = if posF (fun s : OSym => s.name == v.name) b.syms 0 < 0 then (0, 6) else (w64 ((symA b.syms (posF (fun s : OSym => s.name == v.name) b.syms 0)).at_ + v.n), 0) := hT
  generalize posF (fun s : OSym => s.name == v.name) b.syms 0 = p at *
  (all_goals refine qgp ?_ <;> (repeat' first | exact trivial | intro hc | refine And.intro ?_ ?_) <;> refine Lf.mk ?_)
  ·rw [if_pos hc] at hT
   subst hT
   exact end_eO [_] rfl rfl rfl (Nat.le_of_eq rfl) (.tup (.cons .int (.cons .int .nil)))
  have hpl : p.toNat < b.syms.length := by
   rcases hp with h | ⟨j, h1, h2⟩
   ·omega
   ·rw [h2, Int.toNat_natCast, Nat.zero_add]; exact h1
  have hs : b.syms[p.toNat]? = some (symA b.syms p) := by unfold symA; rw [List.getElem?_eq_getElem hpl]; rfl
  rw [if_neg hc] at hT
  refine ix_map (symA b.syms p) (Int.natCast_nonneg _) (by rw [Int.toNat_natCast, Nat.zero_add]; exact hs) ?_
  (all_goals refine qgp (Lf.mk ?_))
  refine ar_w ?_
  (all_goals refine qgp (Lf.mk ?_))
  subst hT
  exact end_eO [_] rfl rfl rfl (Nat.le_of_eq rfl) (.tup (.cons .int (.cons .int .nil)))
 exact call_b hm X (b, o, v, q) hl hL (LeL.refl _) rfl (.cons (.loc (Nat.lt_of_lt_of_le (by decide : 0 < 7) (Nat.le_of_eq rfl))) (.cons (valD_cl v) .nil)) (.tup (.cons .int (.cons .int .nil))) (eO_cl _ _ _) (eO_cl _ _ _) hK
attribute [local irreducible] targetA
theorem wordE_len (syms : List OSym) (o : Out) (v : OVal) (size : Nat) : (wordE syms o v size).code.length = o.code.length + size := by
 unfold wordE
 split
 ·dsimp only
  rw [putN_len]
  simp
 ·simp
theorem aword_meets : Meets Tryz.prog n_asm_builder_word (SpecF (fun ((b, o, _, size, _) : Bld × Out × OVal × Nat × List OEqu) => b.syms.length ≤ 1000000 ∧ o.code.length ≤ 500000000 ∧ o.rels.length ≤ 500000000 ∧ 0 < size ∧ size ≤ 4) (fun (_, _, v, size, _) => [.loc 0 0, valD v, .int .i64 size])
  (fun (b, o, _, _, q) => eO q b o) (fun _ => .tup []) fun (b, o, v, size, q) => eO q b (wordE b.syms o v size)) := by
 refine meets_g 6 tabOk Tryz.func72 rfl (by decide) ?_
 rintro ⟨b, o, v, size, q⟩ ⟨hs, hl, hr, h0, h4⟩
 have hs : b.syms.length ≤ 1000000 := hs
 have hl : o.code.length ≤ 500000000 := hl
 have hr : o.rels.length ≤ 500000000 := hr
 have h0 : 0 < size := h0
 have h4 : size ≤ 4 := h4
 have hlen := wordE_len b.syms o v size
 refine ⟨Nat.le_succ 6, ?_, Nat.le_refl _, by simp [Tryz.f72], fun E hE => ?_⟩
 ·intro k hk hk2
  obtain rfl : k = 6 := by
   have : k < 7 := hk2
   omega
  exact ⟨_, _, rfl, rfl, by rw [hlen]; omega⟩
 show AWP _ _ _ _ (FinQ _ _ _ _ (eO q b (wordE b.syms o v size))) _ (eO q b o)
 have hW : wordE b.syms o v size = if v.name = [] then ⟨putN (o.code ++ List.replicate size 0) o.code.length size v.n, o.rels, o.fe, o.fa⟩
  else ⟨o.code ++ List.replicate size 0, o.rels ++ [relE b.syms o.code.length size v], o.fe, o.fa⟩ := rfl
 generalize wordE b.syms o v size = W at *
 refine vcOk _ ?_
 (all_goals refine qgk (Lf.mk ?_))
 refine norm_eq ((o.code ++ List.replicate size 0).map byteD) (by rw [List.map_append, List.map_replicate]; rfl) ?_
 have hcl : (o.code ++ List.replicate size 0).length = o.code.length + size := by simp
 rw [List.length_map]
 (all_goals refine qgk ?_ <;> (repeat' first | exact trivial | intro hc | refine And.intro ?_ ?_) <;> refine Lf.mk ?_)
 ·rw [if_pos hc] at hW
  refine call_f put_meets [] [8] (o.code ++ List.replicate size 0, o.code.length, size, v.n) ⟨by show -1000000000000 ≤ ((o.code.length : Nat) : Int); omega, by show ((o.code.length : Nat) : Int) ≤ _; omega, by show size ≤ _; omega, by show (o.code ++ List.replicate size 0).length ≤ _; omega⟩ rfl rfl ?_
  refine And.intro (VS.mk (LeL.of_eq rfl)) (And.intro (VS.mk rfl) ?_)
  (all_goals refine qgk (Lf.mk ?_))
  have key : ∀ k, k < 6 → keepAt [0, 1, 2, 3, 4, 5, 8] 0 k = some k := by decide
  subst hW
  have hpl := putN_len o.code.length size (o.code ++ List.replicate size 0) v.n
  refine end_keepO [0, 1, 2, 3, 4, 5, 8] rfl rfl ?_ (ClD.tup0 (n := 6) _ key)
  refine .cons (o := .cells [.sl 2 (q.map equD) none, .osl 13 1 b.items.length 0 b.items.length, .osl 2 2 b.syms.length 0 b.syms.length, .sl 1 (b.marks.map (.int .i64)) (some 3), .osl 1 4 (poolsD b).length 0 (poolsD b).length, .int .i64 b.shut.length,
   .sl 1 ((putN (o.code ++ List.replicate size 0) o.code.length size v.n).map byteD) (some 8), .nilsl, .sl 4 (o.rels.map relD) (some 5), .int .i64 o.fe, .int .i64 o.fa]) rfl
   ⟨_, rfl, .cons (ClD.sl (n := 6) _ key) (.cons (ClD.osl (n := 6) (by decide) _ key) (.cons (ClD.osl (n := 6) (by decide) _ key) (.cons (ClD.tok (n := 6) (by decide) _ key) (.cons (ClD.osl (n := 6) (by decide) _ key) (.cons (ClD.int (n := 6) _ key)
     (.cons (.tok rfl) (.cons (ClD.nilsl (n := 6) _ key) (.cons (ClD.tok (n := 6) (by decide) _ key) (.cons (ClD.int (n := 6) _ key) (.cons (ClD.int (n := 6) _ key) .nil))))))))))⟩
   (.cons (o := .arr 13 (b.items.map itemD)) rfl (ClO.arr (n := 6) (items_cl _) _ key) (.cons (o := .arr 2 (b.syms.map symD)) rfl (ClO.arr (n := 6) (syms_cl _) _ key) (.cons (o := .spare b.marks.length) rfl rfl
   (.cons (o := .arr 1 (b.shut.map shutD)) rfl (ClO.arr (n := 6) (shuts_cl _) _ key) (.cons (o := .spare o.rels.length) rfl rfl (.cons (o := .spare (o.code ++ List.replicate size 0).length) rfl (by rw [hpl]; rfl) .nil))))))
 ·rw [if_neg hc] at hW
  refine target_e q b ⟨o.code ++ List.replicate size 0, o.rels, o.fe, o.fa⟩ v [_, _] hs rfl rfl ?_
  have hR : relE b.syms o.code.length size v = if (targetA b.syms v).2 = 0 then ⟨o.code.length, size, [], signedI (targetA b.syms v).1 32⟩ else ⟨o.code.length, size, v.name, v.n⟩ := rfl
  generalize targetA b.syms v = T at *
  (all_goals refine qgk ?_ <;> (repeat' first | exact trivial | intro hc | refine And.intro ?_ ?_) <;> refine Lf.mk ?_)
  ·rw [if_pos hc] at hR
   refine call_p signed_meets2 T.1 trivial (VS.mk (LeL.of_eq rfl)) ?_
   (all_goals refine qgk (Lf.mk ?_))
   refine norm_eq ((o.rels ++ [relE b.syms o.code.length size v]).map relD) (by rw [hR, List.map_append]; rfl) ?_
   rw [List.length_map]
   (all_goals refine qgk (Lf.mk ?_))
   subst hW
   exact end_eO (o' := ⟨o.code ++ List.replicate size 0, o.rels ++ [relE b.syms o.code.length size v], o.fe, o.fa⟩) [_, _] rfl rfl rfl (by decide) .tup0
  ·rw [if_neg hc] at hR
   refine norm_eq ((o.rels ++ [relE b.syms o.code.length size v]).map relD) (by rw [hR, List.map_append]; rfl) ?_
   rw [List.length_map]
   (all_goals refine qgk (Lf.mk ?_))
   subst hW
   exact end_eO (o' := ⟨o.code ++ List.replicate size 0, o.rels ++ [relE b.syms o.code.length size v], o.fe, o.fa⟩) [_, _] rfl rfl rfl (by decide) .tup0
attribute [local irreducible] halfE leadE nearE
theorem fillE_zero {o : Out} {to : Int} (h : to ≤ o.code.length) : fillE o to = o := by
 unfold fillE
 rw [show (to - (o.code.length : Int)).toNat = 0 by omega]
 simp
theorem fillE_more {o : Out} {to : Int} (h : (o.code.length : Int) < to) : fillE ⟨o.code ++ [0], o.rels, o.fe, o.fa⟩ to = fillE o to := by
 unfold fillE
 have : (to - (o.code.length : Int)).toNat = (to - ((o.code ++ [0]).length : Int)).toNat + 1 := by simp; omega
 rw [this, List.replicate_succ]
 simp
theorem fill_le {o : Out} {to : Int} {m : Nat} (h1 : o.code.length ≤ m) (h2 : to ≤ m) : (fillE o to).code.length ≤ m := by
 unfold fillE
 simp only [List.length_append, List.length_replicate]
 omega
theorem fill_rels (o : Out) (to : Int) : (fillE o to).rels = o.rels := by unfold fillE; rfl
theorem word_rels (syms : List OSym) (o : Out) (v : OVal) (size : Nat) : (wordE syms o v size).rels.length ≤ o.rels.length + 1 := by
 unfold wordE
 split
 ·exact Nat.le_succ _
 ·simp
theorem afill_meets : Meets Tryz.prog n_asm_builder_fill (SpecF (fun ((_, o, to, _) : Bld × Out × Int × List OEqu) => o.code.length ≤ 1000000000 ∧ to ≤ 1000000000) (fun (_, _, to, _) => [.loc 0 0, .int .i64 to])
  (fun (b, o, _, q) => eO q b o) (fun _ => .tup []) fun (b, o, to, q) => eO q b (fillE o to)) := by
 refine meets_f tabOk Tryz.func73 rfl (by decide) ?_
 rintro ⟨b, o, to, q⟩ ⟨hl, ht⟩
 have hl : o.code.length ≤ 1000000000 := hl
 have ht : to ≤ 1000000000 := ht
 refine ⟨Nat.le_refl _, by simp [Tryz.f73], fun E hE => ?_⟩
 have hE7 : E.L.length = 7 := by rw [hE]; rfl
 show AWP _ _ _ _ (FinQ _ _ _ _ (eO q b (fillE o to))) _ (eO q b o)
 generalize hF : fillE o to = F
 refine vcOk _ ?_
 (all_goals refine qgp (Lf.mk ?_))
 refine awp_loopW (α := Out) (fun p => fillE p to = F ∧ p.code.length ≤ 1000000000) (fun _ => [(0, .loc 0 0), (1, .int .i64 to)]) (fun p => eO q b p) (fun p => (to - (p.code.length : Int)).toNat) (fun _ => by rw [hE7]; exact Nat.le_refl 7) o ⟨hF, hl⟩ ?_ ?_
 ·exact weak_same rfl ⟨rfl, rfl, trivial⟩
 rintro p ⟨i1, i2⟩
 refine vcOk _ ?_
 (all_goals refine qgk ?_ <;> (repeat' first | exact trivial | intro hc | refine And.intro ?_ ?_) <;> refine Lf.mk ?_)
 ·refine norm_eq ((p.code ++ [0]).map byteD) (by rw [List.map_append]; rfl) ?_
  rw [List.length_map]
  (all_goals refine qgk (Lf.mk ?_))
  exact loop_same (⟨p.code ++ [0], p.rels, p.fe, p.fa⟩ : Out) ⟨by rw [fillE_more hc]; exact i1, by show (p.code ++ [0]).length ≤ _; simp; omega⟩ (by show (to - ((p.code ++ [0]).length : Int)).toNat < _; simp; omega) rfl ⟨rfl, rfl, trivial⟩
 ·rw [fillE_zero (by omega)] at i1
  subst i1
  exact end_eq rfl rfl
theorem call_fill {av : List D} {L : List Ob} {KP : D → Prop} {KW : D → List Ob → Prop} (q : List OEqu) (b : Bld) (o : Out) (to : Int) (X : List Ob) (hl : o.code.length ≤ 1000000000) (ht : to ≤ 1000000000) (hL : L = eO q b o ++ X) (has : av = [.loc 0 0, .int .i64 to])
  (hK : KW (.tup []) (eO q b (fillE o to) ++ X)) : CallS Tryz.prog n_asm_builder_fill av L KP KW := by
 subst has
 exact call_b afill_meets X (b, o, to, q) ⟨hl, ht⟩ hL (LeL.refl _) rfl (.cons (.loc (Nat.lt_of_lt_of_le (by decide : 0 < 7) (Nat.le_of_eq rfl))) (.cons .int .nil)) .tup0 (eO_cl _ _ _) (eO_cl _ _ _) hK
theorem call_word {av : List D} {L : List Ob} {KP : D → Prop} {KW : D → List Ob → Prop} (q : List OEqu) (b : Bld) (o : Out) (v : OVal) (size : Nat) (X : List Ob) (hs : b.syms.length ≤ 1000000) (hl : o.code.length ≤ 500000000) (hr : o.rels.length ≤ 500000000) (h0 : 0 < size) (h4 : size ≤ 4) (hL : L = eO q b o ++ X)
  (has : LeL av [.loc 0 0, valD v, .int .i64 size]) (hK : KW (.tup []) (eO q b (wordE b.syms o v size) ++ X)) : CallS Tryz.prog n_asm_builder_word av L KP KW := by
 refine call_le has ?_
 exact call_b aword_meets X (b, o, v, size, q) ⟨hs, hl, hr, h0, h4⟩ hL (LeL.refl _) rfl (.cons (.loc (Nat.lt_of_lt_of_le (by decide : 0 < 7) (Nat.le_of_eq rfl))) (.cons (valD_cl v) (.cons .int .nil))) .tup0 (eO_cl _ _ _) (eO_cl _ _ _) hK
theorem call_near {av : List D} {L : List Ob} {KP : D → Prop} {KW : D → List Ob → Prop} (q : List OEqu) (b : Bld) (o : Out) (k : Nat) (x : AItem) (to : Int) (X : List Ob) (hl : o.code.length ≤ 900000000) (hx : b.items[k]? = some x) (h0 : 0 ≤ x.at_) (h1 : x.at_ ≤ 100000000000000) (hL : L = eO q b o ++ X)
  (has : av = [.loc 0 0, .aloc 1 b.items.length k 0, .int .i64 to]) (hK : KW (.tup []) (eO q b (nearE o x to) ++ X)) : CallS Tryz.prog n_asm_builder_near av L KP KW := by
 subst has
 exact call_b near_meets X (b, o, k, x, to, q) ⟨hl, hx, h0, h1⟩ hL (LeL.refl _) rfl (.cons (.loc (Nat.lt_of_lt_of_le (by decide : 0 < 7) (Nat.le_of_eq rfl))) (.cons (.aloc (Nat.lt_of_lt_of_le (by decide : 1 < 7) (Nat.le_of_eq rfl))) (.cons .int .nil))) .tup0 (eO_cl _ _ _) (eO_cl _ _ _) hK
def boxO (b : Bld) (k : Nat) : Ob := .cells [.aloc 1 b.items.length k 0]
theorem eOb_cl (q : List OEqu) (b : Bld) (o : Out) (k : Nat) : ∀ x ∈ eO q b o ++ [boxO b k], ClO (eO q b o ++ [boxO b k]).length x := by
 intro x hx
 have hl : (eO q b o ++ [boxO b k]).length = 8 := rfl
 rw [hl]
 rcases List.mem_append.1 hx with hx | hx
 ·exact ClO.up (eO_cl q b o x hx) (by decide)
 ·rw [List.mem_singleton] at hx
  subst hx
  exact .cells (.cons (.aloc (by decide)) .nil)
theorem call_emit1 {av : List D} {L : List Ob} {KP : D → Prop} {KW : D → List Ob → Prop} (q : List OEqu) (b : Bld) (o : Out) (k : Nat) (x y : AItem) (hx : b.items[k]? = some x) (hL : L = eO q b o ++ [boxO b k]) (has : av = [itemD y, .loc 7 0])
  (hK : KW (.bool (y.kind == 9 && y.pool == x.pool)) L) : CallS Tryz.prog n_asm_builder_emit_1 av L KP KW := by
 subst has
 refine call_inline tabOk Tryz.func77 rfl (by decide) (.bool (y.kind == 9 && y.pool == x.pool)) L (Nat.le_refl _) (by simp [Tryz.f77]) (fun E hE => ?_) hK
 subst hL
 have hxn : b.items[((k : Nat) : Int).toNat]? = some x := by rw [Int.toNat_natCast]; exact hx
 refine vcOk _ ?_
 (all_goals refine qgp ?_ <;> (repeat' first | exact trivial | intro hc | refine And.intro ?_ ?_) <;> refine Lf.mk ?_)
 ·refine ix_map x (Int.natCast_nonneg k) hxn ?_
  (all_goals refine qgp (Lf.mk ?_))
  have he : (y.kind == 9 && y.pool == x.pool) = (y.pool == x.pool) := by rw [hc]; simp
  rw [he]
  exact end_pre (eO q b o ++ [boxO b k]) [_] rfl (Nat.le_refl _) .bool (eOb_cl q b o k)
 ·have he : (y.kind == 9 && y.pool == x.pool) = false := by simp [hc]
  rw [he]
  exact end_le (.ff rfl) (end_pre (eO q b o ++ [boxO b k]) [_] rfl (Nat.le_refl _) .bool (eOb_cl q b o k)) (Nat.le_refl _)
structure EmitIn (b : Bld) (x : AItem) : Prop where
 size : SizeOk b.shut x
 lo : 0 ≤ x.at_
 hi : x.at_ ≤ 100000000
 idx : 0 ≤ x.idx ∧ x.idx ≤ 100000000
 pool : x.kind = 6 → 0 ≤ idxP x.pool b.items 0
def emB (b : Bld) (o : Out) (x : AItem) : Out := emitE b.shut b.items b.syms o x
attribute [local irreducible] fillE wordE
theorem aemit_meets : Meets Tryz.prog n_asm_builder_emit (SpecF (fun ((b, o, k, x, _) : Bld × Out × Nat × AItem × List OEqu) => b.has = false ∧ b.items[k]? = some x ∧ (∀ y ∈ b.items, EmitIn b y) ∧ b.items.length ≤ 1000000 ∧ b.syms.length ≤ 1000000 ∧ o.code.length ≤ 400000000 ∧ o.rels.length ≤ 400000000) (fun (b, _, k, _, _) => [.loc 0 0, .aloc 1 b.items.length k 0])
  (fun (b, o, _, _, q) => eO q b o) (fun _ => .tup []) fun (b, o, _, x, q) => eO q b (emB b o x)) := by
 refine meets_f tabOk Tryz.func40 rfl (by decide) ?_
 rintro ⟨b, o, k, x, q⟩ ⟨hh, hx, hin, hil, hsl, hcl, hrl⟩
 have hh : b.has = false := hh
 have hx : b.items[k]? = some x := hx
 have hin : ∀ y ∈ b.items, EmitIn b y := hin
 have hil : b.items.length ≤ 1000000 := hil
 have hsl : b.syms.length ≤ 1000000 := hsl
 have hcl : o.code.length ≤ 400000000 := hcl
 have hrl : o.rels.length ≤ 400000000 := hrl
 have hxe := hin x (List.mem_of_getElem? hx)
 obtain ⟨⟨hs8, hs7, hs9, hsp⟩, hlo, hhi, ⟨hi0, hi1⟩, hpool⟩ := hxe
 have hxn : b.items[((k : Nat) : Int).toNat]? = some x := by rw [Int.toNat_natCast]; exact hx
 refine ⟨Nat.le_refl _, by simp [Tryz.f40], fun E hE => ?_⟩
 have hE7 : E.L.length = 7 := by rw [hE]; rfl
 show AWP _ _ _ _ (FinQ _ _ _ _ (eO q b (emB b o x))) _ (eO q b o)
 have hH : emB b o x = if x.kind = 7 then (if x.at_ % x.size ≠ 0 then failE o 11 x.line else wordE b.syms o x.val x.size.toNat)
  else if x.kind = 8 then fillE o (upA x.at_ x.size)
  else if x.kind = 9 then ((b.shut[x.pool.toNat]?).getD []).foldl (fun o v => wordE b.syms o v 4) (fillE o (upA x.at_ 4))
  else if x.at_ % 2 ≠ 0 then failE o 11 x.line
  else if x.kind = 1 then halfE o x.ins x.line
  else if x.kind = 6 then leadE o x.ins x.at_ (upA (itA b.items (idxP x.pool b.items 0)).at_ 4 + 4 * x.idx) x.line
  else if (targetA b.syms x.val).2 ≠ 0 then failE o (targetA b.syms x.val).2 x.line
  else if x.kind = 2 then nearE o x (targetA b.syms x.val).1
  else leadE o x.ins x.at_ (targetA b.syms x.val).1 x.line := rfl
 generalize emB b o x = H at *
 refine vcOk _ ?_
 (all_goals refine qgp (Lf.mk ?_))
 refine ix_map x (Int.natCast_nonneg k) hxn ?_
 (all_goals refine qgp ?_ <;> (repeat' first | exact trivial | intro hc | refine And.intro ?_ ?_) <;> refine Lf.mk ?_)
 ·rw [if_pos hc] at hH
  have h7 := hs7 hc
  refine ix_map x (Int.natCast_nonneg k) hxn ?_
  (all_goals refine qgp (Lf.mk ?_))
  refine ix_map x (Int.natCast_nonneg k) hxn ?_
  (all_goals refine qgp ?_ <;> (repeat' first | exact trivial | intro hc | refine And.intro ?_ ?_) <;> refine Lf.mk ?_)
  ·rw [if_pos hc] at hH
   refine ix_map x (Int.natCast_nonneg k) hxn ?_
   (all_goals refine qgp (Lf.mk ?_))
   refine call_efail q b o 11 x.line [_] rfl rfl ?_
   rw [← hH]
   (all_goals refine qgp (Lf.mk ?_))
   exact end_eO [_] rfl rfl rfl (Nat.le_of_eq rfl) .tup0
  ·rw [if_neg (fun h => h hc)] at hH
   refine ix_map x (Int.natCast_nonneg k) hxn ?_
   (all_goals refine qgp (Lf.mk ?_))
   refine ix_map x (Int.natCast_nonneg k) hxn ?_
   (all_goals refine qgp (Lf.mk ?_))
   refine call_word q b o x.val x.size.toNat [_] hsl (by omega) (by omega) (by omega) (by omega) rfl (LeL.of_eq (by rw [Int.toNat_of_nonneg (by omega)]; rfl)) ?_
   rw [← hH]
   (all_goals refine qgp (Lf.mk ?_))
   exact end_eO [_] rfl rfl rfl (Nat.le_of_eq rfl) .tup0
 ·rw [if_neg (by assumption), if_pos hc] at hH
  have h8 := hs8 hc
  have hu := upA_le (n := x.at_) h8.1
  refine ix_map x (Int.natCast_nonneg k) hxn ?_
  (all_goals refine qgp (Lf.mk ?_))
  refine ix_map x (Int.natCast_nonneg k) hxn ?_
  (all_goals refine qgp (Lf.mk ?_))
  refine call_p up_meets (x.at_, x.size) ⟨hlo, by show x.at_ ≤ _; omega, h8.1, by show x.size ≤ _; omega⟩ (VS.mk (LeL.of_eq rfl)) ?_
  (all_goals refine qgp (Lf.mk ?_))
  refine call_fill q b o (upA x.at_ x.size) [_] (by omega) (by omega) rfl rfl ?_
  rw [← hH]
  (all_goals refine qgp (Lf.mk ?_))
  exact end_eO [_] rfl rfl rfl (Nat.le_of_eq rfl) .tup0
 ·rw [if_neg (by assumption), if_neg (by assumption), if_pos hc] at hH
  have h9 := hs9 hc
  have hu := upA_le (n := x.at_) (k := 4) (by decide)
  have hpl : poolsD b = b.shut.map shutD := by unfold poolsD; rw [hh]
  have hlt : x.pool.toNat < b.shut.length := by omega
  have hgp : b.shut[x.pool.toNat]? = some ((b.shut[x.pool.toNat]?).getD []) := by rw [List.getElem?_eq_getElem hlt]; rfl
  have hpm := hsp _ (List.mem_of_getElem? hgp)
  generalize (b.shut[x.pool.toNat]?).getD [] = p at *
  refine ix_map x (Int.natCast_nonneg k) hxn ?_
  (all_goals refine qgp (Lf.mk ?_))
  refine call_p up_meets (x.at_, 4) ⟨hlo, by show x.at_ ≤ _; omega, by decide, by decide⟩ (VS.mk (LeL.of_eq rfl)) ?_
  (all_goals refine qgp (Lf.mk ?_))
  refine call_fill q b o (upA x.at_ 4) [_] (by omega) (by omega) rfl rfl ?_
  have hfl := fill_le (o := o) (to := upA x.at_ 4) (m := 400000000) hcl (by omega)
  have hfr := fill_rels o (upA x.at_ 4)
  generalize fillE o (upA x.at_ 4) = o1 at *
  (all_goals refine qgp (Lf.mk ?_))
  refine ix_map x (Int.natCast_nonneg k) hxn ?_
  (all_goals refine qgp (Lf.mk ?_))
  refine sd_mk ⟨h9.1, by rw [hpl, List.length_map]; exact h9.2⟩ ?_
  (all_goals refine qgp (Lf.mk ?_))
  refine sd_mk (by rw [hpl]) ?_
  refine VS.mk ?_
  refine ix_map (enc := shutD) (l := b.shut) (n := ((0 + x.pool.toNat : Nat) : Int)) p (Int.natCast_nonneg _) (by rw [Int.toNat_natCast, Nat.zero_add]; exact hgp) ?_
  (all_goals refine qgp (Lf.mk ?_))
  refine awp_loopW (α := Nat × Out) (fun r => r.1 ≤ p.length ∧ (p.drop r.1).foldl (fun o v => wordE b.syms o v 4) r.2 = H ∧ r.2.code.length ≤ 400000000 + 4 * r.1 ∧ r.2.rels.length ≤ 400000000 + r.1)
   (fun r => [(0, .loc 0 0), (72, .sl 2 (p.map valD) none), (73, .int .i64 p.length), (74, .int .i64 r.1)]) (fun r => eO q b r.2) (fun r => p.length - r.1) (fun _ => by rw [hE7]; exact Nat.le_refl 7) (0, o1) ⟨Nat.zero_le _, hH.symm, by dsimp only; omega, by dsimp only; rw [hfr]; omega⟩ ?_ ?_
  ·exact weak_pre (eO q b o1) [boxO b k] rfl (by rw [hE7]; exact Nat.le_refl 7) (eO_cl _ _ _) ⟨rfl, rfl, rfl, rfl, trivial⟩ (.cons (.loc (Nat.lt_of_lt_of_le (by decide : 0 < 7) (Nat.le_of_eq rfl))) (.cons .sl (.cons .int (.cons .int .nil))))
  rintro ⟨j, o2⟩ ⟨j1, j2, j3, j4⟩
  dsimp only at j1 j2 j3 j4 ⊢
  refine vcOk _ ?_
  (all_goals refine qgp ?_ <;> (repeat' first | exact trivial | intro hc | refine And.intro ?_ ?_) <;> refine Lf.mk ?_)
  ·obtain ⟨v, hv⟩ := at_of_lt (l := p) (k := j) (by omega)
   have hjl : j < p.length := by omega
   have hgv : p[j] = v := by rw [List.getElem?_eq_getElem hjl] at hv; exact Option.some.inj hv
   rw [List.drop_eq_getElem_cons hjl, hgv, List.foldl_cons] at j2
   have hwl := wordE_len b.syms o2 v 4
   have hwr := word_rels b.syms o2 v 4
   refine ix_map v (by omega) (by simpa using hv) ?_
   (all_goals refine qgp (Lf.mk ?_))
   refine call_word q b o2 v 4 [_] hsl (by omega) (by omega) (by decide) (by decide) rfl (LeL.of_eq rfl) ?_
   generalize wordE b.syms o2 v 4 = o3 at *
   (all_goals refine qgp (Lf.mk ?_))
   exact loop_pre (j + 1, o3) [_] ⟨by show j + 1 ≤ _; omega, j2, by dsimp only; omega, by dsimp only; omega⟩ (by dsimp only; omega) rfl (by rw [hE7]; exact Nat.le_refl 7) (eO_cl _ _ _) ⟨rfl, rfl, rfl, rfl, trivial⟩
    (.cons (.loc (Nat.lt_of_lt_of_le (by decide : 0 < 7) (Nat.le_of_eq rfl))) (.cons .sl (.cons .int (.cons .int .nil))))
  ·have hj : j = p.length := by omega
   rw [hj, List.drop_length] at j2
   exact end_eO [] rfl j2 rfl (Nat.le_of_eq rfl) .tup0
 ·rw [if_neg (by assumption), if_neg (by assumption), if_neg hc] at hH
  refine ix_map x (Int.natCast_nonneg k) hxn ?_
  (all_goals refine qgp ?_ <;> (repeat' first | exact trivial | intro hc | refine And.intro ?_ ?_) <;> refine Lf.mk ?_)
  ·rw [if_pos hc] at hH
   refine ix_map x (Int.natCast_nonneg k) hxn ?_
   (all_goals refine qgp (Lf.mk ?_))
   refine call_efail q b o 11 x.line [_] rfl rfl ?_
   rw [← hH]
   (all_goals refine qgp (Lf.mk ?_))
   exact end_eO [_] rfl rfl rfl (Nat.le_of_eq rfl) .tup0
  ·rw [if_neg (fun h => h hc)] at hH
   refine ix_map x (Int.natCast_nonneg k) hxn ?_
   (all_goals refine qgp ?_ <;> (repeat' first | exact trivial | intro hc | refine And.intro ?_ ?_) <;> refine Lf.mk ?_)
   ·rw [if_pos hc] at hH
    refine ix_map x (Int.natCast_nonneg k) hxn ?_
    (all_goals refine qgp (Lf.mk ?_))
    refine ix_map x (Int.natCast_nonneg k) hxn ?_
    (all_goals refine qgp (Lf.mk ?_))
    refine call_half q b o x.ins x.line [_] (by omega) rfl (LeL.of_eq rfl) ?_
    rw [← hH]
    (all_goals refine qgp (Lf.mk ?_))
    exact end_eO [_] rfl rfl rfl (Nat.le_of_eq rfl) .tup0
   ·rw [if_neg (by assumption), if_pos hc] at hH
    have hp6 := hpool hc
    have hpos := posF_bound (fun y : AItem => y.kind == 9 && y.pool == x.pool) b.items 0
    have hidx : idxP x.pool b.items 0 = posF (fun y : AItem => y.kind == 9 && y.pool == x.pool) b.items 0 := rfl
    rw [hidx] at hp6 hH
    refine idx_items n_asm_builder_emit_1 [.loc 7 0] (fun y => y.kind == 9 && y.pool == x.pool) b.items (.cells (eC q b o)) [.arr 2 (b.syms.map symD), .spare b.marks.length, .arr 1 (b.shut.map shutD), .spare o.rels.length, .spare o.code.length, boxO b k] (by omega) rfl rfl
     (fun y hy KP KW hK => call_emit1 q b o k x y hx rfl rfl hK) ?_
    generalize posF (fun y : AItem => y.kind == 9 && y.pool == x.pool) b.items 0 = z at *
    have hz : z.toNat < b.items.length := by
     rcases hpos with h | ⟨j, h1, h2⟩
     ·omega
     ·rw [h2, Int.toNat_natCast, Nat.zero_add]; exact h1
    have hit : b.items[z.toNat]? = some (itA b.items z) := by unfold itA; rw [List.getElem?_eq_getElem hz]; rfl
    have hie := hin _ (List.mem_of_getElem? hit)
    have hilo := hie.lo
    have hihi := hie.hi
    have hu := upA_le (n := (itA b.items z).at_) (k := 4) (by decide)
    (all_goals refine qgp (Lf.mk ?_))
    refine ix_map x (Int.natCast_nonneg k) hxn ?_
    (all_goals refine qgp (Lf.mk ?_))
    refine ix_map x (Int.natCast_nonneg k) hxn ?_
    (all_goals refine qgp (Lf.mk ?_))
    refine ix_map (itA b.items z) (Int.natCast_nonneg _) (by rw [Int.toNat_natCast, Nat.zero_add]; exact hit) ?_
    (all_goals refine qgp (Lf.mk ?_))
    refine call_p up_meets ((itA b.items z).at_, 4) ⟨hilo, by show (itA b.items z).at_ ≤ _; omega, by decide, by decide⟩ (VS.mk (LeL.of_eq rfl)) ?_
    (all_goals refine qgp (Lf.mk ?_))
    refine ix_map x (Int.natCast_nonneg k) hxn ?_
    (all_goals refine qgp (Lf.mk ?_))
    refine ix_map x (Int.natCast_nonneg k) hxn ?_
    (all_goals refine qgp (Lf.mk ?_))
    refine call_lead q b o x.ins x.at_ (upA (itA b.items z).at_ 4 + 4 * x.idx) x.line [_] (by omega) hlo (by omega) rfl (LeL.of_eq rfl) ?_
    rw [← hH]
    (all_goals refine qgp (Lf.mk ?_))
    exact end_eO [_] rfl rfl rfl (Nat.le_of_eq rfl) .tup0
   ·rw [if_neg (by assumption), if_neg hc] at hH
    refine ix_map x (Int.natCast_nonneg k) hxn ?_
    (all_goals refine qgp (Lf.mk ?_))
    refine target_e q b o x.val [_] hsl rfl rfl ?_
    generalize targetA b.syms x.val = T at *
    (all_goals refine qgp ?_ <;> (repeat' first | exact trivial | intro hc | refine And.intro ?_ ?_) <;> refine Lf.mk ?_)
    ·rw [if_pos hc] at hH
     refine ix_map x (Int.natCast_nonneg k) hxn ?_
     (all_goals refine qgp (Lf.mk ?_))
     refine call_efail q b o T.2 x.line [_] rfl rfl ?_
     rw [← hH]
     (all_goals refine qgp (Lf.mk ?_))
     exact end_eO [_] rfl rfl rfl (Nat.le_of_eq rfl) .tup0
    ·rw [if_neg (fun h => h hc)] at hH
     refine ix_map x (Int.natCast_nonneg k) hxn ?_
     (all_goals refine qgp ?_ <;> (repeat' first | exact trivial | intro hc | refine And.intro ?_ ?_) <;> refine Lf.mk ?_)
     ·rw [if_pos hc] at hH
      refine call_near q b o k x T.1 [_] (by omega) hx hlo (by omega) rfl rfl ?_
      rw [← hH]
      (all_goals refine qgp (Lf.mk ?_))
      exact end_eO [_] rfl rfl rfl (Nat.le_of_eq rfl) .tup0
     ·rw [if_neg hc] at hH
      refine ix_map x (Int.natCast_nonneg k) hxn ?_
      (all_goals refine qgp (Lf.mk ?_))
      refine ix_map x (Int.natCast_nonneg k) hxn ?_
      (all_goals refine qgp (Lf.mk ?_))
      refine ix_map x (Int.natCast_nonneg k) hxn ?_
      (all_goals refine qgp (Lf.mk ?_))
      refine call_lead q b o x.ins x.at_ T.1 x.line [_] (by omega) hlo (by omega) rfl (LeL.of_eq rfl) ?_
      rw [← hH]
      (all_goals refine qgp (Lf.mk ?_))
      exact end_eO [_] rfl rfl rfl (Nat.le_of_eq rfl) .tup0
end Go.Proofs.YthmdddenbfbefaaGreatDoor
namespace Go.Proofs.YthmdddenbfbefaaGreatDoor
open Go Go.Plat
set_option linter.unusedVariables false
set_option linter.unusedSimpArgs false
set_option maxRecDepth 100000
set_option maxHeartbeats 2000000
attribute [local irreducible] AWP Arith BitS BytesS CallS CatS DrawS EndS IdxS Lib.itoa LookS LoopEnd Meets ModeS NilS NormL NormM QuoS RemS ShlS ShrS SideS SplitS allA bitI evalE findI idxV nameB pRes regI wrongI
def one? (h : Bool) : Int := match h with | true => 1 | false => 0
structure ItOk (n : Nat) (h : Bool) (x : AItem) : Prop where
 al : x.kind = 8 → 0 < x.size ∧ x.size ≤ 16
 da : x.kind = 7 → 0 < x.size ∧ x.size ≤ 4
 po : x.kind = 9 → 0 ≤ x.pool ∧ x.pool < n
 li : x.kind = 6 → 0 ≤ x.pool ∧ x.pool < n + one? h
 ix : 0 ≤ x.idx ∧ x.idx ≤ 1000000
structure OkB (T : Nat) (b : Bld) : Prop where
 its : ∀ x ∈ b.items, ItOk b.shut.length b.has x
 put : ∀ j : Nat, j < b.shut.length → ∃ x ∈ b.items, x.kind = 9 ∧ x.pool = j
 len : b.marks.length = b.syms.length
 pos : ∀ m ∈ b.marks, 0 ≤ m
 shl : ∀ p ∈ b.shut, p.length ≤ T
theorem OkB.fail {T : Nat} {b : Bld} (h : OkB T b) (e line : Int) : OkB T (failB b e line) := by
 unfold failB
 split
 ·exact ⟨h.its, h.put, h.len, h.pos, h.shl⟩
 ·exact h
theorem OkB.set {T : Nat} {b : Bld} (h : OkB T b) (s : RB) : OkB T (setF b s) := ⟨h.its, h.put, h.len, h.pos, h.shl⟩
theorem OkB.puts {T : Nat} {b : Bld} (h : OkB T b) {x : AItem} (hx : ItOk b.shut.length b.has x) : OkB T (putB b x) :=
 ⟨fun y hy => by
   rcases List.mem_append.1 hy with hy | hy
   ·exact h.its y hy
   ·rw [List.mem_singleton] at hy; subst hy; exact hx,
 fun j hj => by obtain ⟨y, h1, h2⟩ := h.put j hj; exact ⟨y, List.mem_append_left _ h1, h2⟩, h.len, h.pos, h.shl⟩
theorem OkB.label {T : Nat} {q : List OEqu} {b : Bld} (h : OkB T b) (t : LTok) (line : Int) : OkB T (labelB q b t line) := by
 unfold labelB
 split
 ·exact h.fail _ _
 ·refine ⟨h.its, h.put, by simp [h.len], fun m hm => ?_, h.shl⟩
  rcases List.mem_append.1 hm with hm | hm
  ·exact h.pos m hm
  ·rw [List.mem_singleton] at hm; subst hm; omega
theorem it_plain {n : Nat} {h : Bool} {x : AItem} (h8 : x.kind ≠ 8) (h7 : x.kind ≠ 7) (h9 : x.kind ≠ 9) (h6 : x.kind ≠ 6) (hi : x.idx = 0) : ItOk n h x :=
 ⟨fun e => absurd e h8, fun e => absurd e h7, fun e => absurd e h9, fun e => absurd e h6, by omega⟩
theorem it_data {n : Nat} {h : Bool} {size line : Int} {v : OVal} (hs : size = 1 ∨ size = 2 ∨ size = 4) : ItOk n h ⟨7, 0, line, noI, false, size, v, 0, 0⟩ :=
 ⟨fun e => absurd e (by dsimp only; decide), fun _ => by dsimp only; omega, fun e => absurd e (by dsimp only; decide), fun e => absurd e (by dsimp only; decide), by dsimp only; decide⟩
theorem OkB.dat {T : Nat} {b : Bld} (h : OkB T b) {size : Int} (hs : size = 1 ∨ size = 2 ∨ size = 4) (line : Int) (o : AOp) : OkB T (datB size line b o) := by
 unfold datB
 refine OkB.puts ?_ (it_data hs)
 repeat' split
 all_goals first | exact h.fail _ _ | exact h
theorem OkB.datas {T : Nat} {size : Int} (hs : size = 1 ∨ size = 2 ∨ size = 4) {line : Int} : ∀ (l : List AOp) {b : Bld}, OkB T b → OkB T (l.foldl (datB size line) b)
 | [], b, h => h
 | o :: l, b, h => OkB.datas hs l (h.dat hs line o)
theorem OkB.data {T : Nat} {b : Bld} (h : OkB T b) {size : Int} (hs : size = 1 ∨ size = 2 ∨ size = 4) (l : List AOp) (line : Int) : OkB T (dataB b size l line) := by
 unfold dataB
 refine OkB.datas hs l ?_
 split
 ·exact h.fail _ _
 ·exact h
theorem OkB.align {T : Nat} {b : Bld} (h : OkB T b) (l : List AOp) (line : Int) : OkB T (alignB b l line) := by
 unfold alignB
 split
 ·exact h.fail _ _
 split
 ·exact h.fail _ _
 ·rename_i hn
  exact h.puts ⟨fun _ => by dsimp only; omega, fun e => absurd e (by dsimp only; decide), fun e => absurd e (by dsimp only; decide), fun e => absurd e (by dsimp only; decide), by dsimp only; decide⟩
theorem OkB.pool {T : Nat} {b : Bld} (h : OkB T b) (hc : b.cur.length ≤ T) (line : Int) : OkB T (poolB b line) := by
 unfold poolB
 split
 ·rename_i hh
  have hl : (b.shut ++ [b.cur]).length = b.shut.length + 1 := by simp
  refine ⟨fun x hx => ?_, fun j hj => ?_, h.len, h.pos, fun p hp => ?_⟩
  ·dsimp only at hx ⊢
   rw [hl]
   rcases List.mem_append.1 hx with hx | hx
   ·have := h.its x hx
    refine ⟨this.al, this.da, fun e => ?_, fun e => ?_, this.ix⟩
    ·have := this.po e; omega
    ·have := this.li e
     rw [hh] at this
     have h1 : one? true = 1 := rfl
     have h0 : one? false = 0 := rfl
     rw [h1] at this
     rw [h0]
     omega
   ·rw [List.mem_singleton] at hx
    subst hx
    exact ⟨fun e => absurd e (by dsimp only; decide), fun e => absurd e (by dsimp only; decide), fun _ => by dsimp only; omega, fun e => absurd e (by dsimp only; decide), by dsimp only; decide⟩
  ·have hj : j < (b.shut ++ [b.cur]).length := hj
   rw [hl] at hj
   by_cases hjn : j < b.shut.length
   ·obtain ⟨y, h1, h2⟩ := h.put j hjn
    exact ⟨y, List.mem_append_left _ h1, h2⟩
   ·refine ⟨⟨9, 0, line, noI, false, 0, noV, b.shut.length, 0⟩, List.mem_append_right _ (List.mem_singleton.2 rfl), rfl, ?_⟩
    show ((b.shut.length : Nat) : Int) = j
    omega
  ·rcases List.mem_append.1 hp with hp | hp
   ·exact h.shl p hp
   ·rw [List.mem_singleton] at hp; subst hp; exact hc
 ·exact h
theorem pool_shut (b : Bld) (line : Int) : (poolB b line).has = false := by
 unfold poolB
 split
 ·rfl
 ·rename_i h
  cases hb : b.has with
  | true => exact absurd hb h
  | false => rfl
theorem idxV_le (v : OVal) : ∀ (l : List OVal) (k : Nat), idxV v l k ≤ k + l.length
 | [], k => by rw [idxV]; simp
 | x :: l, k => by
  rw [idxV]
  split
  ·simp; omega
  ·have := idxV_le v l (k + 1)
   simp only [List.length_cons]; omega
theorem OkB.lit {T : Nat} {b : Bld} (h : OkB T b) (hc : b.cur.length ≤ 1000000) (v : OVal) (reg line : Int) : OkB T (litB b v reg line) := by
 have hs : 0 ≤ slotV v b.cur ∧ slotV v b.cur ≤ 1000000 := by
  have := idxV_le v b.cur 0
  unfold slotV
  split
  ·omega
  ·omega
 have h1 : one? true = 1 := rfl
 have hb : OkB T { b with has := true, cur := withV v b.cur } := by
  refine ⟨fun x hx => ?_, h.put, h.len, h.pos, h.shl⟩
  have := h.its x hx
  refine ⟨this.al, this.da, this.po, fun e => ?_, this.ix⟩
  have := this.li e
  dsimp only
  rw [h1]
  cases hb : b.has with
  | true => rw [hb, h1] at this; exact this
  | false =>
   rw [hb] at this
   have h0 : one? false = 0 := rfl
   rw [h0] at this
   omega
 exact hb.puts ⟨fun e => absurd e (by dsimp only; decide), fun e => absurd e (by dsimp only; decide), fun e => absurd e (by dsimp only; decide), fun _ => by dsimp only; rw [h1]; omega, hs⟩
theorem draft_ok {n : Nat} {h : Bool} (op sh : Int) (l : List AOp) (line : Int) : ItOk n h (draftI op sh l line) := by
 unfold draftI
 repeat' split
 all_goals exact it_plain (by dsimp only; decide) (by dsimp only; decide) (by dsimp only; decide) (by dsimp only; decide) rfl
theorem OkB.instr {T : Nat} {b : Bld} (h : OkB T b) (hc : b.cur.length ≤ 1000000) (name : List UInt8) (l : List AOp) (line : Int) : OkB T (instrB b name l line) := by
 unfold instrB
 split
 ·exact h.lit hc _ _ _
 split
 ·exact h.fail _ _
 split
 ·exact h.fail _ _
 split
 ·exact h.puts (draft_ok _ _ _ _)
 ·exact h.fail _ _
theorem OkB.word {T : Nat} {b : Bld} (h : OkB T b) (hT : b.cur.length ≤ T) (hc : b.cur.length ≤ 1000000) (w : List UInt8) (l : List AOp) (line : Int) : OkB T (wordB b w l line) := by
 unfold wordB
 split
 ·exact h.data (by decide) _ _
 split
 ·exact h.data (by decide) _ _
 split
 ·exact h.data (by decide) _ _
 split
 ·exact h.align _ _
 split
 ·split
  ·exact h.fail _ _
  ·exact h.pool hT _
 ·exact h.instr hc _ _ _
theorem OkB.rest {T : Nat} {q : List OEqu} {b : Bld} (h : OkB T b) (hT : b.cur.length ≤ T) (hc : b.cur.length ≤ 1000000) (line : Int) (l : List LTok) : OkB T (restB q b line l) := by
 cases l with
 | nil => exact h
 | cons t r =>
  rw [restB]
  split
  ·exact h
  split
  ·exact h.fail _ _
  split
  ·exact h.set _
  ·exact (h.set _).word hT hc _ _ _
theorem labs_ok {T : Nat} {q : List OEqu} {line : Int} : ∀ (l : List LTok) {b : Bld}, OkB T b → OkB T (labsF q line l b).1 ∧ (labsF q line l b).1.cur = b.cur
 | [], b, h => by rw [labsF]; exact ⟨h, rfl⟩
 | [t], b, h => by rw [labsF]; exact ⟨h, rfl⟩
 | t :: c :: r, b, h => by
  rw [labsF]
  split
  ·obtain ⟨h1, h2⟩ := labs_ok r (h.label (q := q) t line)
   refine ⟨h1, h2.trans ?_⟩
   unfold labelB
   split
   ·unfold failB; split <;> rfl
   ·rfl
  ·exact ⟨h, rfl⟩
theorem OkB.line {T : Nat} {q : List OEqu} {b : Bld} (h : OkB T b) (hT : b.cur.length ≤ T) (hc : b.cur.length ≤ 1000000) (x : LLine) : OkB T (lineB q b x) := by
 obtain ⟨h1, h2⟩ := labs_ok (q := q) (line := x.pos) x.toks h
 exact h1.rest (by rw [h2]; exact hT) (by rw [h2]; exact hc) _ _
def totL : List LLine → Nat
 | [] => 0
 | x :: l => x.toks.length + totL l
def b0 : Bld := ⟨[], [], [], [], false, [], 0, 0⟩
def linesB (q : List OEqu) (l : List LLine) (b : Bld) : Bld := l.foldl (lineB q) b
def lastL (l : List LLine) : Int := l.foldl (fun _ x => x.pos) 0
def noO : OObj := ⟨[], [], []⟩
def layR (b : Bld) : OObj × Int × Int :=
 if b.fe ≠ 0 then (noO, b.fe, b.fa) else if 8000 < (relaxL b.shut b.marks ⟨b.items, b.syms⟩).2 then (noO, 4, 0)
 else if (emitAll b.shut (relaxL b.shut b.marks ⟨b.items, b.syms⟩).1.items (relaxL b.shut b.marks ⟨b.items, b.syms⟩).1.syms ⟨[], [], b.fe, b.fa⟩).fe ≠ 0
  then (noO, (emitAll b.shut (relaxL b.shut b.marks ⟨b.items, b.syms⟩).1.items (relaxL b.shut b.marks ⟨b.items, b.syms⟩).1.syms ⟨[], [], b.fe, b.fa⟩).fe,
   (emitAll b.shut (relaxL b.shut b.marks ⟨b.items, b.syms⟩).1.items (relaxL b.shut b.marks ⟨b.items, b.syms⟩).1.syms ⟨[], [], b.fe, b.fa⟩).fa)
 else (⟨(emitAll b.shut (relaxL b.shut b.marks ⟨b.items, b.syms⟩).1.items (relaxL b.shut b.marks ⟨b.items, b.syms⟩).1.syms ⟨[], [], b.fe, b.fa⟩).code, (relaxL b.shut b.marks ⟨b.items, b.syms⟩).1.syms,
  (emitAll b.shut (relaxL b.shut b.marks ⟨b.items, b.syms⟩).1.items (relaxL b.shut b.marks ⟨b.items, b.syms⟩).1.syms ⟨[], [], b.fe, b.fa⟩).rels⟩, 0, 0)
def buildR (q : List OEqu) (l : List LLine) : OObj × Int × Int := layR (poolB (linesB q l b0) (lastL l))
attribute [local irreducible] OExpr.kids OExpr.kind OExpr.n OExpr.name awayA encV exprD halfE infoR labelB leadE nearE nodes oneA putN signedI sizeA slotV takeA targetA withV wordE
def T4 : Ob := .cells [.nilsl, .nilsl, .nilsl]
def T5 : Ob := .cells [.int .i64 0, .int .i64 0]
def newB (q : List OEqu) : List D := [.sl 2 (q.map equD) none, .nilsl, .nilsl, .nilsl, .nilsl, .int .i64 0, .nilsl, .nilsl, .nilsl, .int .i64 0, .int .i64 0]
theorem start_weak {σ σ' : List (Nat × D)} (q : List OEqu) (h : keptS (keepAt [2, 3, 4, 5, 6, 7, 0, 1] 0) σ σ') : Weak 0 σ [T4, T5, .cells (newB q)] σ' (bO q b0 ++ [T4, T5]) := by
 have key : keepAt [2, 3, 4, 5, 6, 7, 0, 1] 0 3 = some 1 := rfl
 refine weak_trans (weak_cellarr 2 13 [.sl 2 (q.map equD) none, .osl 13 3 0 0 0, .nilsl, .nilsl, .nilsl, .int .i64 0, .nilsl, .nilsl, .nilsl, .int .i64 0, .int .i64 0] rfl ⟨.same, .here, .same, .same, .same, .same, .same, .same, .same, .same, .same, trivial⟩) ?_
 refine weak_trans (weak_cellarr 2 2 [.sl 2 (q.map equD) none, .osl 13 3 0 0 0, .osl 2 4 0 0 0, .nilsl, .nilsl, .int .i64 0, .nilsl, .nilsl, .nilsl, .int .i64 0, .int .i64 0] rfl ⟨.same, .same, .here, .same, .same, .same, .same, .same, .same, .same, .same, trivial⟩) ?_
 refine weak_trans (weak_cellnil' 2 1 [.sl 2 (q.map equD) none, .osl 13 3 0 0 0, .osl 2 4 0 0 0, .sl 1 [] (some 5), .nilsl, .int .i64 0, .nilsl, .nilsl, .nilsl, .int .i64 0, .int .i64 0] rfl ⟨.same, .same, .same, .here, .same, .same, .same, .same, .same, .same, .same, trivial⟩) ?_
 refine weak_trans (weak_cellarr 2 1 [.sl 2 (q.map equD) none, .osl 13 3 0 0 0, .osl 2 4 0 0 0, .sl 1 [] (some 5), .osl 1 6 0 0 0, .int .i64 0, .nilsl, .nilsl, .nilsl, .int .i64 0, .int .i64 0] rfl ⟨.same, .same, .same, .same, .here, .same, .same, .same, .same, .same, .same, trivial⟩) ?_
 refine weak_trans weak_snocdead ?_
 refine weak_keepO [2, 3, 4, 5, 6, 7, 0, 1] rfl rfl ?_ h
 refine .cons (o := .cells [.sl 2 (q.map equD) none, .osl 13 3 0 0 0, .osl 2 4 0 0 0, .sl 1 [] (some 5), .osl 1 6 0 0 0, .int .i64 0, .nilsl, .nilsl, .nilsl, .int .i64 0, .int .i64 0]) rfl
  ⟨_, rfl, .cons (.flat .sl) (.cons (.osl rfl) (.cons (.osl rfl) (.cons (.tok rfl) (.cons (.osl rfl) (.cons (.flat .int) (.cons (.flat .nilsl) (.cons (.flat .nilsl) (.cons (.flat .nilsl) (.cons (.flat .int) (.cons (.flat .int) .nil))))))))))⟩
  (.cons (o := .arr 13 []) rfl ⟨_, rfl, rfl, by simp⟩ (.cons (o := .arr 2 []) rfl ⟨_, rfl, rfl, by simp⟩ (.cons (o := .spare 0) rfl rfl (.cons (o := .arr 1 []) rfl ⟨_, rfl, rfl, by simp⟩ (.cons (o := .dead) rfl rfl
  (.cons (o := T4) rfl ⟨_, rfl, .cons (.flat .nilsl) (.cons (.flat .nilsl) (.cons (.flat .nilsl) .nil))⟩ (.cons (o := T5) rfl ⟨_, rfl, .cons (.flat .int) (.cons (.flat .int) .nil)⟩ .nil)))))))
theorem call_line {av : List D} {L : List Ob} {KP : D → Prop} {KW : D → List Ob → Prop} (q : List OEqu) (b : Bld) (x : LLine) (X : List Ob) (hr : Room b (1 + x.toks.length)) (hw : wt (x.toks.map tk) ≤ 1048576) (hq : q.length ≤ 1000000)
  (hL : L = bO q b ++ X) (has : av = [.loc 0 0, llineD x])
  (hK1 : ((lineB q b x).has = true → b.has = true) → KW (.tup []) (bO q (lineB q b x) ++ X))
  (hK2 : b.has = false → (lineB q b x).has = true → KW (.tup []) (bOn L.length q (lineB q b x) ++ X ++ [.spare (lineB q b x).cur.length])) : CallS Tryz.prog n_asm_builder_line av L KP KW := by
 subst has
 have hcl : ClL (bO q b).length [.loc 0 0, llineD x] := .cons (.loc (Nat.lt_of_lt_of_le (by decide : 0 < 6) (Nat.le_of_eq rfl))) (.cons (.agg (.cons .int (.cons .sl .nil))) .nil)
 by_cases h : b.has = false ∧ (lineB q b x).has = true
 ·refine call_pre1 line_meets (bO q b) X (bOn 6 q (lineB q b x)) (bOn L.length q (lineB q b x)) (.spare (lineB q b x).cur.length) (d := .tup []) hL ⟨(b, x, q), ⟨hr, hw, hq⟩, LeL.refl _, rfl, rfl, (outO_new h.1 h.2).symm⟩ rfl rfl hcl .tup0 (bO_cl _ _)
   (fun m hm hk => bOn_ren q _ (fun j hj => hm j (Nat.lt_of_lt_of_le hj (by decide : 5 ≤ 6))) hk) .spare (hK2 h.1 h.2)
 ·have hn : (lineB q b x).has = true → b.has = true := fun e => by
   cases hb : b.has with
   | true => rfl
   | false => exact absurd ⟨hb, e⟩ h
  refine call_pre line_meets (bO q b) X (bO q (lineB q b x)) (d := .tup []) hL ⟨(b, x, q), ⟨hr, hw, hq⟩, LeL.refl _, rfl, rfl, (outO_no hn).symm⟩ rfl hcl .tup0 (bO_cl _ _) (bO_cl _ _) (hK1 hn)
theorem bO2_cl (q : List OEqu) (b : Bld) : ∀ x ∈ bO q b ++ [T4, T5], ClO (bO q b ++ [T4, T5]).length x := by
 intro x hx
 have hl : (bO q b ++ [T4, T5]).length = 8 := rfl
 rw [hl]
 rcases List.mem_append.1 hx with hx | hx
 ·exact ClO.up (bO_cl q b x hx) (by decide)
 ·simp only [List.mem_cons, List.not_mem_nil, or_false] at hx
  rcases hx with rfl | rfl
  ·exact .cells (.cons .nilsl (.cons .nilsl (.cons .nilsl .nil)))
  ·exact .cells (.cons .int (.cons .int .nil))
theorem bO_has (q : List OEqu) (b : Bld) (h : b.has = true) : bO q b = [.cells (bCk q b), .arr 13 (b.items.map itemD), .arr 2 (b.syms.map symD), .spare b.marks.length, .arr 1 (b.shut.map shutD ++ [.sl 2 (b.cur.map valD) (some 5)]), .spare b.cur.length] := by
 have hp : poolsD b = b.shut.map shutD ++ [.sl 2 (b.cur.map valD) (some 5)] := by unfold poolsD; rw [h]
 have hc : curO b = .spare b.cur.length := by unfold curO; rw [h]
 have hb : bC q b = bCk q b := by unfold bC bCk; rw [hp]; simp
 unfold bO bT
 rw [hb, hp, hc]
theorem round_new {σ σ' : List (Nat × D)} (q : List OEqu) (b : Bld) (Y : Ob) (h : b.has = true) (hs : keptS (keepAt [0, 1, 2, 3, 4, 9, 6, 7] 0) σ σ') : Weak 0 σ (bOn 9 q b ++ [T4, T5, Y] ++ [.spare b.cur.length]) σ' (bO q b ++ [T4, T5]) := by
 have key : ∀ k, k < 5 → keepAt [0, 1, 2, 3, 4, 9, 6, 7] 0 k = some k := by decide
 have hr := bOn_ren (m := keepAt [0, 1, 2, 3, 4, 9, 6, 7] 0) (k := 9) (k' := 5) q b key rfl
 rw [bO_has q b h]
 refine weak_keepO [0, 1, 2, 3, 4, 9, 6, 7] rfl rfl ?_ hs
 exact .cons (o := .cells (bCk q b)) rfl (hr 0 _ _ rfl rfl) (.cons (o := .arr 13 (b.items.map itemD)) rfl (hr 1 _ _ rfl rfl) (.cons (o := .arr 2 (b.syms.map symD)) rfl (hr 2 _ _ rfl rfl) (.cons (o := .spare b.marks.length) rfl (hr 3 _ _ rfl rfl)
  (.cons (o := .arr 1 (b.shut.map shutD ++ [.sl 2 (b.cur.map valD) (some 9)])) rfl (hr 4 _ _ rfl rfl) (.cons (o := .spare b.cur.length) rfl rfl
  (.cons (o := T4) rfl ⟨_, rfl, .cons (.flat .nilsl) (.cons (.flat .nilsl) (.cons (.flat .nilsl) .nil))⟩ (.cons (o := T5) rfl ⟨_, rfl, .cons (.flat .int) (.cons (.flat .int) .nil)⟩ .nil)))))))
theorem linesB_step (q : List OEqu) (x : LLine) (l : List LLine) (b : Bld) : linesB q (x :: l) b = linesB q l (lineB q b x) := rfl
theorem lines_room {q : List OEqu} : ∀ (l : List LLine) {b : Bld} {k : Nat}, Room b (k + totL l) → Room (linesB q l b) k
 | [], b, k, h => h
 | x :: l, b, k, h => lines_room l (Room.line x (by rw [totL] at h; exact h.less (by omega)))
theorem lines_ok {T : Nat} {q : List OEqu} (hT : T ≤ 1000000) : ∀ (l : List LLine) {b : Bld}, Room b (1000000 - T + totL l) → OkB T b → OkB T (linesB q l b)
 | [], b, _, h => h
 | x :: l, b, hr, h => by
  rw [totL] at hr
  have hc := hr.curl
  exact lines_ok hT l (Room.line x (hr.less (by omega))) (h.line (by omega) (by omega) x)
theorem room0 : Room b0 1000000 := ⟨by decide, by decide, by decide, by decide, by decide, fun _ => rfl⟩
theorem ok0 (T : Nat) : OkB T b0 := ⟨(fun x hx => by cases hx), fun j hj => absurd hj (Nat.not_lt_zero j), rfl, (fun m hm => by cases hm), (fun p hp => by cases hp)⟩
end Go.Proofs.YthmdddenbfbefaaGreatDoor
namespace Go.Proofs.YthmdddenbfbefaaGreatDoor
open Go Go.Plat
set_option linter.unusedVariables false
set_option linter.unusedSimpArgs false
set_option maxRecDepth 100000
set_option maxHeartbeats 2000000
attribute [local irreducible] AWP Arith BitS BytesS CallS CatS DrawS EndS IdxS Lib.itoa LookS LoopEnd Meets ModeS NilS NormL NormM QuoS RemS ShlS ShrS SideS SplitS allA awayA bitI encV evalE findI idxV infoR nameB pRes putN regI sizeA targetA wrongI
structure Sim (x y : AItem) : Prop where
 kind : y.kind = x.kind
 size : y.size = x.size
 pool : y.pool = x.pool
 idx : y.idx = x.idx
structure SimL (l m : List AItem) : Prop where
 len : m.length = l.length
 from_ : ∀ y ∈ m, ∃ x ∈ l, Sim x y
 to_ : ∀ x ∈ l, ∃ y ∈ m, Sim x y
theorem SimL.refl (l : List AItem) : SimL l l := ⟨rfl, fun y h => ⟨y, h, rfl, rfl, rfl, rfl⟩, fun y h => ⟨y, h, rfl, rfl, rfl, rfl⟩⟩
theorem Sim.trans {x y z : AItem} (h : Sim x y) (k : Sim y z) : Sim x z := ⟨k.kind.trans h.kind, k.size.trans h.size, k.pool.trans h.pool, k.idx.trans h.idx⟩
theorem SimL.trans {a b c : List AItem} (h : SimL a b) (k : SimL b c) : SimL a c :=
 ⟨k.len.trans h.len, fun z hz => by obtain ⟨y, h1, h2⟩ := k.from_ z hz; obtain ⟨x, h3, h4⟩ := h.from_ y h1; exact ⟨x, h3, h4.trans h2⟩,
   fun x hx => by obtain ⟨y, h1, h2⟩ := h.to_ x hx; obtain ⟨z, h3, h4⟩ := k.to_ y h1; exact ⟨z, h3, h2.trans h4⟩⟩
theorem SimL.cons {x y : AItem} {l m : List AItem} (h : Sim x y) (k : SimL l m) : SimL (x :: l) (y :: m) :=
 ⟨by simp [k.len], fun z hz => by
   rcases List.mem_cons.1 hz with rfl | hz
   ·exact ⟨x, List.mem_cons_self, h⟩
   ·obtain ⟨w, h1, h2⟩ := k.from_ z hz; exact ⟨w, List.mem_cons_of_mem _ h1, h2⟩,
 fun z hz => by
  rcases List.mem_cons.1 hz with rfl | hz
  ·exact ⟨y, List.mem_cons_self, h⟩
  ·obtain ⟨w, h1, h2⟩ := k.to_ z hz; exact ⟨w, List.mem_cons_of_mem _ h1, h2⟩⟩
theorem sim_place (pools : List (List OVal)) : ∀ (l : List AItem) (a : Int), SimL l (placeI pools l a).1
 | [], a => .refl _
 | x :: l, a => by rw [placeI]; exact .cons ⟨rfl, rfl, rfl, rfl⟩ (sim_place pools l _)
theorem sim_grow (syms : List OSym) : ∀ l : List AItem, SimL l (l.map (growI syms))
 | [] => .refl _
 | x :: l => .cons (by unfold growI; split <;> exact ⟨rfl, rfl, rfl, rfl⟩) (sim_grow syms l)
theorem sim_ok {pools : List (List OVal)} {x y : AItem} (h : Sim x y) (k : SizeOk pools x) : SizeOk pools y :=
 ⟨fun e => by rw [h.size]; exact k.1 (by rw [← h.kind]; exact e), fun e => by rw [h.size]; exact k.2.1 (by rw [← h.kind]; exact e), fun e => by rw [h.pool]; exact k.2.2.1 (by rw [← h.kind]; exact e), k.2.2.2⟩
theorem place_end {pools : List (List OVal)} : ∀ (l : List AItem) (a : Int), 0 ≤ a → (∀ x ∈ l, SizeOk pools x) → a ≤ (placeI pools l a).2 ∧ ∀ x ∈ (placeI pools l a).1, 0 ≤ x.at_ ∧ x.at_ ≤ (placeI pools l a).2
 | [], a, h0, _ => ⟨Int.le_refl a, fun x hx => by cases hx⟩
 | y :: l, a, h0, hs => by
  have hz := size_le (a := a) (hs y List.mem_cons_self) h0
  obtain ⟨h1, h2⟩ := place_end l (a + sizeA pools y a) (by omega) (fun z hz => hs z (List.mem_cons_of_mem _ hz))
  rw [placeI]
  refine ⟨by dsimp only; omega, fun x hx => ?_⟩
  rcases List.mem_cons.1 hx with rfl | hx
  ·exact ⟨h0, by dsimp only; omega⟩
  ·exact h2 x hx
structure Laid (pools : List (List OVal)) (s : Lay) (R : Lay × Int) : Prop where
 sim : SimL s.items R.1.items
 syms : R.1.syms.length = s.syms.length
 at_ : ∀ x ∈ R.1.items, 0 ≤ x.at_ ∧ x.at_ ≤ R.2
theorem relax_laid {pools : List (List OVal)} {marks : List Int} : ∀ (f : Nat) (s : Lay), shortN s.items < f → (∀ x ∈ s.items, SizeOk pools x) → Laid pools s (relaxF pools marks f s)
 | 0, s, h, _ => absurd h (Nat.not_lt_zero _)
 | f + 1, s, h, hs => by
  have h1 := sim_place pools s.items 0
  have h2 := place_end s.items 0 (Int.le_refl 0) hs
  have h3 := placeI_short pools s.items 0
  have h4 : (placeL pools marks s).1.syms.length = s.syms.length := placeS_len _ _ _ _
  have hP : (placeL pools marks s).1.items = (placeI pools s.items 0).1 := rfl
  have hE : (placeL pools marks s).2 = (placeI pools s.items 0).2 := rfl
  rw [relaxF_step]
  generalize placeL pools marks s = P at *
  rw [← hP] at h1 h2 h3
  rw [← hE] at h2
  clear hP hE
  have h5 := sim_grow P.1.syms P.1.items
  have hgr := grow_short P.1.syms P.1.items
  have hat : ∀ x ∈ P.1.items.map (growI P.1.syms), 0 ≤ x.at_ ∧ x.at_ ≤ P.2 := by
   intro x hx
   obtain ⟨y, hy, rfl⟩ := List.mem_map.1 hx
   have := h2.2 y hy
   unfold growI
   split
   ·exact this
   ·exact this
  have hso : ∀ x ∈ P.1.items.map (growI P.1.syms), SizeOk pools x := by
   intro x hx
   obtain ⟨y, hy, h6⟩ := (h1.trans h5).from_ x hx
   exact sim_ok h6 (hs y hy)
  split
  ·exact ⟨h1.trans h5, h4, hat⟩
  ·rename_i hn
   have hany : P.1.items.any (mustL P.1.syms) = true := by
    cases hb : P.1.items.any (mustL P.1.syms) with
    | true => rfl
    | false => exact absurd (.inl hb) hn
   have := hgr.2 hany
   have ih := relax_laid (pools := pools) (marks := marks) f ⟨P.1.items.map (growI P.1.syms), P.1.syms⟩ (by show shortN (P.1.items.map (growI P.1.syms)) < f; omega) hso
   exact ⟨(h1.trans h5).trans ih.sim, ih.syms.trans h4, ih.at_⟩
theorem words_len (syms : List OSym) : ∀ (p : List OVal) (o : Out), (p.foldl (fun o v => wordE syms o v 4) o).code.length = o.code.length + 4 * p.length ∧ (p.foldl (fun o v => wordE syms o v 4) o).rels.length ≤ o.rels.length + p.length
 | [], o => by simp
 | v :: p, o => by
  have h1 := wordE_len syms o v 4
  have h2 := word_rels syms o v 4
  obtain ⟨h3, h4⟩ := words_len syms p (wordE syms o v 4)
  rw [List.foldl_cons]
  simp only [List.length_cons]
  omega
theorem fail_len (o : Out) (e line : Int) : (failE o e line).code = o.code ∧ (failE o e line).rels = o.rels := by unfold failE; split <;> exact ⟨rfl, rfl⟩
theorem half_rels (o : Out) (i : Ins) (line : Int) : (halfE o i line).rels = o.rels := by
 unfold halfE
 split
 ·rfl
 ·exact (fail_len _ _ _).2
theorem lead_rels (o : Out) (i : Ins) (a to line : Int) : (leadE o i a to line).rels = o.rels := by
 unfold leadE
 split
 ·exact half_rels _ _ _
 ·exact (fail_len _ _ _).2
theorem near_len (o : Out) (x : AItem) (to : Int) : (nearE o x to).code.length ≤ o.code.length + 6 ∧ (nearE o x to).rels = o.rels := by
 unfold nearE
 split
 ·exact ⟨by have := lead_len o x.ins x.at_ to x.line; omega, lead_rels _ _ _ _ _⟩
 ·have h1 := half_len o ⟨w64 (35 - x.ins.op), 0, 0, 1⟩ x.line
  have h2 := lead_len (halfE o ⟨w64 (35 - x.ins.op), 0, 0, 1⟩ x.line) ⟨19, 0, 0, 0⟩ (x.at_ + 2) to x.line
  have h3 := half_len (leadE (halfE o ⟨w64 (35 - x.ins.op), 0, 0, 1⟩ x.line) ⟨19, 0, 0, 0⟩ (x.at_ + 2) to x.line) ⟨1, 0, 0, 0⟩ x.line
  exact ⟨by omega, by rw [half_rels, lead_rels, half_rels]⟩
theorem fill_grow (o : Out) (to : Int) : (fillE o to).code.length ≤ o.code.length + to.toNat := by
 unfold fillE
 simp only [List.length_append, List.length_replicate]
 omega
theorem emit_grow {pools : List (List OVal)} {items : List AItem} {syms : List OSym} {o : Out} {x : AItem} (hs : SizeOk pools x) (h0 : 0 ≤ x.at_) (h1 : x.at_ ≤ 8000) (hp : ∀ p ∈ pools, p.length ≤ 9000) :
  (emitE pools items syms o x).code.length ≤ o.code.length + 44100 ∧ (emitE pools items syms o x).rels.length ≤ o.rels.length + 9000 := by
 have hu4 := upA_le (n := x.at_) (k := 4) (by decide)
 unfold emitE
 split
 ·rename_i h7
  have := hs.2.1 h7
  split
  ·rw [(fail_len _ _ _).1, (fail_len _ _ _).2]; omega
  ·have h2 := wordE_len syms o x.val x.size.toNat
   have h3 := word_rels syms o x.val x.size.toNat
   omega
 split
 ·rename_i h8
  have := hs.1 h8
  have hu := upA_le (n := x.at_) this.1
  have h2 := fill_grow o (upA x.at_ x.size)
  rw [fill_rels]
  omega
 split
 ·have h2 := fill_grow o (upA x.at_ 4)
  have h3 := words_len syms ((pools[x.pool.toNat]?).getD []) (fillE o (upA x.at_ 4))
  rw [fill_rels] at h3
  have h4 : ((pools[x.pool.toNat]?).getD []).length ≤ 9000 := by
   cases hg : pools[x.pool.toNat]? with
   | none => simp
   | some p => exact hp p (List.mem_of_getElem? hg)
  omega
 split
 ·rw [(fail_len _ _ _).1, (fail_len _ _ _).2]; omega
 split
 ·have := half_len o x.ins x.line; rw [half_rels]; omega
 split
 ·have := lead_len o x.ins x.at_ (upA (itA items (idxP x.pool items 0)).at_ 4 + 4 * x.idx) x.line; rw [lead_rels]; omega
 split
 ·rw [(fail_len _ _ _).1, (fail_len _ _ _).2]; omega
 split
 ·have := near_len o x (targetA syms x.val).1; rw [this.2]; omega
 ·have := lead_len o x.ins x.at_ (targetA syms x.val).1 x.line; rw [lead_rels]; omega
theorem posF_has {α : Type} (p : α → Bool) : ∀ (l : List α) (k : Nat), (∃ x ∈ l, p x = true) → 0 ≤ posF p l k
 | [], k, h => by obtain ⟨x, h, _⟩ := h; cases h
 | y :: l, k, h => by
  rw [posF]
  split
  ·omega
  ·rename_i hn
   obtain ⟨x, h1, h2⟩ := h
   rcases List.mem_cons.1 h1 with rfl | h1
   ·exact absurd h2 hn
   ·exact posF_has p l (k + 1) ⟨x, h1, h2⟩
attribute [local irreducible] OExpr.kids OExpr.kind OExpr.n OExpr.name exprD halfE labelB leadE nearE nodes oneA signedI slotV takeA withV wordE
theorem strip_syms (l : List OSym) : StripEls (l.map symD) (l.map symD) := by
 refine ⟨rfl, fun i d d' h1 h2 => ?_⟩
 rw [h1] at h2
 cases h2
 simp only [List.getElem?_map, Option.map_eq_some_iff] at h1
 obtain ⟨c, _, rfl⟩ := h1
 refine ⟨rfl, rfl, fun j x x' h3 h4 => ?_⟩
 rw [h3] at h4
 cases h4
 match j, h3 with
 | 0, h3 =>
  cases h3
  intro w F ρ L v h
  cases h with | pure _ _ h => exact h
 | 1, h3 =>
  cases h3
  intro w F ρ L v h
  cases h with | pure _ _ h => exact h
 | j + 2, h3 => simp [symD, D.cells] at h3
theorem put_weak {σ σ' : List (Nat × D)} (q : List OEqu) (items : List AItem) (syms : List OSym) (marks : List Int) (shut : List (List OVal)) (cur : List OVal) (fe fa : Int) (h : keptS (keepAt [0, 1, 2, 3, 4, 8, 9, 6, 7] 0) σ σ') :
  Weak 0 σ (bO q ⟨items, syms, marks, shut, false, cur, fe, fa⟩ ++ [T4, T5]) σ' (eO q ⟨items, syms, marks, shut, false, cur, fe, fa⟩ ⟨[], [], fe, fa⟩ ++ [T4, T5]) := by
 have key : ∀ k, k < 5 → keepAt [0, 1, 2, 3, 4, 8, 9, 6, 7] 0 k = some k := by decide
 refine weak_trans (weak_cellnil' 0 4 [.sl 2 (q.map equD) none, .osl 13 1 items.length 0 items.length, .osl 2 2 syms.length 0 syms.length, .sl 1 (marks.map (.int .i64)) (some 3), .osl 1 4 (poolsD ⟨items, syms, marks, shut, false, cur, fe, fa⟩).length 0 (poolsD ⟨items, syms, marks, shut, false, cur, fe, fa⟩).length,
  .int .i64 shut.length, .nilsl, .nilsl, .sl 4 [] (some 8), .int .i64 fe, .int .i64 fa] rfl ⟨.same, .same, .same, .same, .same, .same, .same, .same, .here, .same, .same, trivial⟩) ?_
 refine weak_trans (weak_cellnil' 0 1 [.sl 2 (q.map equD) none, .osl 13 1 items.length 0 items.length, .osl 2 2 syms.length 0 syms.length, .sl 1 (marks.map (.int .i64)) (some 3), .osl 1 4 (poolsD ⟨items, syms, marks, shut, false, cur, fe, fa⟩).length 0 (poolsD ⟨items, syms, marks, shut, false, cur, fe, fa⟩).length,
  .int .i64 shut.length, .sl 1 [] (some 9), .nilsl, .sl 4 [] (some 8), .int .i64 fe, .int .i64 fa] rfl ⟨.same, .same, .same, .same, .same, .same, .here, .same, .same, .same, .same, trivial⟩) ?_
 refine weak_keepO [0, 1, 2, 3, 4, 8, 9, 6, 7] rfl rfl ?_ h
 exact .cons (o := .cells [.sl 2 (q.map equD) none, .osl 13 1 items.length 0 items.length, .osl 2 2 syms.length 0 syms.length, .sl 1 (marks.map (.int .i64)) (some 3), .osl 1 4 (poolsD ⟨items, syms, marks, shut, false, cur, fe, fa⟩).length 0 (poolsD ⟨items, syms, marks, shut, false, cur, fe, fa⟩).length,
   .int .i64 shut.length, .sl 1 [] (some 9), .nilsl, .sl 4 [] (some 8), .int .i64 fe, .int .i64 fa]) rfl
  ⟨_, rfl, .cons (.flat .sl) (.cons (.osl rfl) (.cons (.osl rfl) (.cons (.tok rfl) (.cons (.osl rfl) (.cons (.flat .int) (.cons (.tok rfl) (.cons (.flat .nilsl) (.cons (.tok rfl) (.cons (.flat .int) (.cons (.flat .int) .nil))))))))))⟩
  (.cons (o := .arr 13 (items.map itemD)) rfl (ClO.arr (n := 5) (items_cl _) _ key) (.cons (o := .arr 2 (syms.map symD)) rfl (ClO.arr (n := 5) (syms_cl _) _ key) (.cons (o := .spare marks.length) rfl rfl (.cons (o := .arr 1 (shut.map shutD)) rfl (ClO.arr (n := 5) (shuts_cl _) _ key)
  (.cons (o := .spare 0) rfl rfl (.cons (o := .spare 0) rfl rfl
  (.cons (o := T4) rfl ⟨_, rfl, .cons (.flat .nilsl) (.cons (.flat .nilsl) (.cons (.flat .nilsl) .nil))⟩ (.cons (o := T5) rfl ⟨_, rfl, .cons (.flat .int) (.cons (.flat .int) .nil)⟩ .nil))))))))
theorem emitAll_step (pools : List (List OVal)) (items : List AItem) (syms : List OSym) (x : AItem) (l : List AItem) (o : Out) : (x :: l).foldl (fun o x => if o.fe = 0 then emitE pools items syms o x else o) o = l.foldl (fun o x => if o.fe = 0 then emitE pools items syms o x else o) (if o.fe = 0 then emitE pools items syms o x else o) := rfl
theorem build_meets : Meets Tryz.prog n_asm_Build (SpecP (fun ((l, q) : List LLine × List OEqu) => totL l ≤ 9000 ∧ (∀ x ∈ l, wt (x.toks.map tk) ≤ 1048576) ∧ q.length ≤ 1000000 ∧ l.length ≤ 1000000) (fun (l, q) => [.sl 2 (l.map llineD) none, .sl 2 (q.map equD) none])
  fun (l, q) => .tup [objD (buildR q l).1, .agg [.int .i64 (buildR q l).2.1, .int .i64 (buildR q l).2.2]]) := by
 refine meets_f tabOk Tryz.func19 rfl (by decide) ?_
 rintro ⟨l, q⟩ ⟨ht, hw, hq, hll⟩
 have ht : totL l ≤ 9000 := ht
 have hw : ∀ x ∈ l, wt (x.toks.map tk) ≤ 1048576 := hw
 have hq : q.length ≤ 1000000 := hq
 have hll : l.length ≤ 1000000 := hll
 refine ⟨Nat.le_refl _, by simp [Tryz.f19], fun E hE => ?_⟩
 have hE0 : E.L.length = 0 := by rw [hE]; rfl
 show AWP _ _ _ _ (FinQ _ _ _ (.tup [objD (buildR q l).1, .agg [.int .i64 (buildR q l).2.1, .int .i64 (buildR q l).2.2]]) []) _ []
 refine awp_seqK (vcOk _ ?_)
 (all_goals refine qgp (Lf.mk ?_))
 refine awp_seqK (vcOk _ ?_)
 (all_goals refine qgp (Lf.mk ?_))
 refine awp_seqK (vcOk _ ?_)
 (all_goals refine qgp (Lf.mk ?_))
 refine awp_cut (α := Unit) (fun _ => True) (fun _ => [(4, .loc 6 0), (5, .loc 7 0), (6, .loc 0 0), (7, .int .i64 (lastL l))]) (fun _ => bO q (linesB q l b0) ++ [T4, T5]) ?_ ?_
 ·refine vcOk _ ?_
  (all_goals refine qgp (Lf.mk ?_))
  refine awp_loopW (α := Nat × Bld × Int) (fun p => p.1 ≤ l.length ∧ linesB q (l.drop p.1) p.2.1 = linesB q l b0 ∧ (l.drop p.1).foldl (fun _ x => x.pos) p.2.2 = lastL l ∧ Room p.2.1 (1 + totL (l.drop p.1)))
   (fun p => [(4, .loc 6 0), (5, .loc 7 0), (6, .loc 0 0), (7, .int .i64 p.2.2), (14, .sl 2 (l.map llineD) none), (15, .int .i64 l.length), (16, .int .i64 p.1)]) (fun p => bO q p.2.1 ++ [T4, T5]) (fun p => l.length - p.1) (fun _ => by rw [hE0]; exact Nat.zero_le _) (0, b0, 0)
   ⟨Nat.zero_le _, rfl, rfl, room0.less (by show 1 + totL l ≤ _; omega)⟩ ?_ ?_
  ·rw [hE0]
   exact start_weak q ⟨.loc rfl, .loc rfl, .loc rfl, .flat .int, .flat .sl, .flat .int, .flat .int, trivial⟩
  rintro ⟨k, b, la⟩ ⟨i1, i2, i3, i4⟩
  dsimp only at i1 i2 i3 i4 ⊢
  refine vcOk _ ?_
  (all_goals refine qgp ?_ <;> (repeat' first | exact trivial | intro hc | refine And.intro ?_ ?_) <;> refine Lf.mk ?_)
  ·obtain ⟨x, hx⟩ := at_of_lt (l := l) (k := k) (by omega)
   have hkl : k < l.length := by omega
   have hgx : l[k] = x := by rw [List.getElem?_eq_getElem hkl] at hx; exact Option.some.inj hx
   rw [List.drop_eq_getElem_cons hkl, hgx] at i2 i3 i4
   rw [linesB_step] at i2
   rw [List.foldl_cons] at i3
   rw [totL] at i4
   have hr' : Room (lineB q b x) (1 + totL (l.drop (k + 1))) := Room.line x (i4.less (by omega))
   refine ix_map x (by omega) (by simpa using hx) ?_
   (all_goals refine qgp (Lf.mk ?_))
   refine call_line q b x [T4, T5, .cells [.int .i64 x.pos, .sl 3 (x.toks.map ltokD) none]] (i4.less (by omega)) (hw x (List.mem_of_getElem? hx)) hq rfl rfl (fun hn => ?_) (fun hn hn' => ?_)
   ·(all_goals refine qgp (Lf.mk ?_))
    exact loop_pre (k + 1, lineB q b x, x.pos) [.cells [.int .i64 x.pos, .sl 3 (x.toks.map ltokD) none]] ⟨by show k + 1 ≤ _; omega, i2, i3, hr'⟩ (by dsimp only; omega) (by simp) (by rw [hE0]; exact Nat.zero_le _) (bO2_cl _ _) ⟨rfl, rfl, rfl, rfl, rfl, rfl, rfl, trivial⟩
     (.cons (.loc (Nat.lt_of_lt_of_le (by decide : 6 < 8) (Nat.le_of_eq rfl))) (.cons (.loc (Nat.lt_of_lt_of_le (by decide : 7 < 8) (Nat.le_of_eq rfl))) (.cons (.loc (Nat.lt_of_lt_of_le (by decide : 0 < 8) (Nat.le_of_eq rfl))) (.cons .int (.cons .sl (.cons .int (.cons .int .nil)))))))
   ·(all_goals refine qgp (Lf.mk ?_))
    refine loop_weak (k + 1, lineB q b x, x.pos) ⟨by show k + 1 ≤ _; omega, i2, i3, hr'⟩ (by dsimp only; omega) ?_
    rw [hE0]
    exact round_new q (lineB q b x) _ hn' ⟨.loc rfl, .loc rfl, .loc rfl, .flat .int, .flat .sl, .flat .int, .flat .int, trivial⟩
  ·have hk : k = l.length := by omega
   rw [hk, List.drop_length] at i2 i3
   have e1 : b = linesB q l b0 := i2
   have e2 : la = lastL l := i3
   subst e1
   exact ⟨(), trivial, weak_same rfl ⟨rfl, rfl, rfl, by rw [← e2]; rfl, trivial⟩⟩
 ·rintro _ _
  have hroom : Room (linesB q l b0) (1000000 - 9000) := lines_room l (room0.less (by omega))
  have hok : OkB 9000 (linesB q l b0) := lines_ok (by decide) l (room0.less (by omega)) (ok0 9000)
  have hroom2 : Room (poolB (linesB q l b0) (lastL l)) 990999 := (hroom.less (by decide : 990999 + 1 ≤ 1000000 - 9000)).pool _
  have hok2 : OkB 9000 (poolB (linesB q l b0) (lastL l)) := hok.pool (by have := hroom.curl; omega) _
  have hsh := pool_shut (linesB q l b0) (lastL l)
  have hbi := hroom.items
  have hbs := hroom.shut
  have hR : buildR q l = layR (poolB (linesB q l b0) (lastL l)) := rfl
  rw [hR]
  generalize linesB q l b0 = b1 at *
  refine awp_seqK (vcOk _ ?_)
  (all_goals refine qgp (Lf.mk ?_))
  refine call_pool q b1 (lastL l) [T4, T5] (by omega) (by omega) rfl rfl ?_
  generalize poolB b1 (lastL l) = b2 at *
  (all_goals refine qgp (Lf.mk ?_))
  obtain ⟨items, syms, marks, shut, has, cur, fe, fa⟩ := b2
  have hsh : has = false := hsh
  subst hsh
  clear hR hroom hok hbi hbs
  have hL : layR ⟨items, syms, marks, shut, false, cur, fe, fa⟩ = if fe ≠ 0 then (noO, fe, fa) else if 8000 < (relaxL shut marks ⟨items, syms⟩).2 then (noO, 4, 0)
   else if (emitAll shut (relaxL shut marks ⟨items, syms⟩).1.items (relaxL shut marks ⟨items, syms⟩).1.syms ⟨[], [], fe, fa⟩).fe ≠ 0
    then (noO, (emitAll shut (relaxL shut marks ⟨items, syms⟩).1.items (relaxL shut marks ⟨items, syms⟩).1.syms ⟨[], [], fe, fa⟩).fe, (emitAll shut (relaxL shut marks ⟨items, syms⟩).1.items (relaxL shut marks ⟨items, syms⟩).1.syms ⟨[], [], fe, fa⟩).fa)
   else (⟨(emitAll shut (relaxL shut marks ⟨items, syms⟩).1.items (relaxL shut marks ⟨items, syms⟩).1.syms ⟨[], [], fe, fa⟩).code, (relaxL shut marks ⟨items, syms⟩).1.syms,
    (emitAll shut (relaxL shut marks ⟨items, syms⟩).1.items (relaxL shut marks ⟨items, syms⟩).1.syms ⟨[], [], fe, fa⟩).rels⟩, 0, 0) := rfl
  generalize layR ⟨items, syms, marks, shut, false, cur, fe, fa⟩ = R at *
  refine awp_seqK (vcOk _ ?_)
  (all_goals refine qgp ?_ <;> (repeat' first | exact trivial | intro hc | refine And.intro ?_ ?_) <;> refine Lf.mk ?_)
  ·rw [if_pos hc] at hL
   subst hL
   exact end_p (VS.mk (LeD.tup (.cons (LeD.agg (.cons (.nil 1) (.cons (.nil 2) (.cons (.nil 4) .nil)))) (LeL.refl _))))
  have hfe : fe = 0 := hc
  rw [if_neg (fun h => h hc)] at hL
  have hTl : ∀ p ∈ shut, p.length ≤ 9000 := hok2.shl
  have hsz : ∀ x ∈ items, SizeOk shut x := fun x hx => by
   have := hok2.its x hx
   exact ⟨this.al, this.da, this.po, fun p hp => by have := hTl p hp; omega⟩
  have hil : items.length ≤ 9001 := by have := hroom2.items; dsimp only at this; omega
  have hml : marks.length ≤ 9001 := by have := hroom2.marks; dsimp only at this; omega
  have hlay : LayIn shut marks ⟨items, syms⟩ := ⟨hsz, by show items.length ≤ _; omega, hok2.len, by omega, hok2.pos⟩
  have hW := relax_laid (pools := shut) (marks := marks) (shortN items + 1) ⟨items, syms⟩ (Nat.lt_succ_self _) hsz
  have hW : Laid shut ⟨items, syms⟩ (relaxL shut marks ⟨items, syms⟩) := hW
  refine awp_seqK (vcOk _ ?_)
  (all_goals refine qgp (Lf.mk ?_))
  refine call_b relax_meets [T4, T5] (⟨items, syms⟩, marks, shut, cur, fe, fa, q) hlay rfl (LeL.refl _) rfl (.cons (.loc (Nat.lt_of_lt_of_le (by decide : 0 < 6) (Nat.le_of_eq rfl))) .nil) .int (bO_cl _ _) (bO_cl _ _) ?_
  dsimp only
  generalize relaxL shut marks ⟨items, syms⟩ = W at *
  obtain ⟨⟨its, sys⟩, n⟩ := W
  dsimp only at hL ⊢
  (all_goals refine qgp ?_ <;> (repeat' first | exact trivial | intro hc | refine And.intro ?_ ?_) <;> refine Lf.mk ?_)
  ·rw [if_pos hc] at hL
   subst hL
   exact end_p (VS.mk (LeD.tup (.cons (LeD.agg (.cons (.nil 1) (.cons (.nil 2) (.cons (.nil 4) .nil)))) (LeL.refl _))))
  rw [if_neg hc] at hL
  have hlen : its.length = items.length := hW.sim.len
  have hsl : sys.length = syms.length := hW.syms
  have hsyl : syms.length ≤ 9001 := by have := hok2.len; dsimp only at this; omega
  have hin : ∀ y ∈ its, EmitIn ⟨its, sys, marks, shut, false, cur, fe, fa⟩ y := fun y hy => by
   obtain ⟨x, hx, hs⟩ := hW.sim.from_ y hy
   have hi := hok2.its x hx
   have ha := hW.at_ y hy
   refine ⟨sim_ok hs (hsz x hx), ha.1, by omega, ?_, fun h6 => ?_⟩
   ·rw [hs.idx]; have := hi.ix; omega
   ·have hl := hi.li (by rw [← hs.kind]; exact h6)
    have h0 : one? false = 0 := rfl
    rw [h0] at hl
    dsimp only at hl
    obtain ⟨z, hz, hz9, hzp⟩ := hok2.put x.pool.toNat (by dsimp only; omega)
    obtain ⟨u, hu, hzu⟩ := hW.sim.to_ z hz
    refine posF_has _ _ _ ⟨u, hu, ?_⟩
    rw [hzu.kind, hz9, hzu.pool, hzp, hs.pool, Int.toNat_of_nonneg hl.1]
    simp
  have hgrow : ∀ (o : Out), ∀ y ∈ its, (emitE shut its sys o y).code.length ≤ o.code.length + 44100 ∧ (emitE shut its sys o y).rels.length ≤ o.rels.length + 9000 := fun o y hy => by
   have ha := hW.at_ y hy
   exact emit_grow (hin y hy).size ha.1 (by omega) hTl
  have hF : emitAll shut its sys ⟨[], [], fe, fa⟩ = its.foldl (fun o x => if o.fe = 0 then emitE shut its sys o x else o) ⟨[], [], fe, fa⟩ := rfl
  generalize emitAll shut its sys ⟨[], [], fe, fa⟩ = F at *
  refine awp_cut (α := Unit) (fun _ => True) (fun _ => [(4, .loc 7 0), (5, .loc 8 0), (6, .loc 0 0)]) (fun _ => eO q ⟨its, sys, marks, shut, false, cur, fe, fa⟩ F ++ [T4, T5]) ?_ ?_
  ·refine vcOk _ ?_
   (all_goals refine qgp (Lf.mk ?_))
   refine awp_loopW (α := Nat × Out) (fun p => p.1 ≤ its.length ∧ (its.drop p.1).foldl (fun o x => if o.fe = 0 then emitE shut its sys o x else o) p.2 = F ∧ p.2.code.length ≤ 44100 * p.1 ∧ p.2.rels.length ≤ 9000 * p.1)
    (fun p => [(4, .loc 7 0), (5, .loc 8 0), (6, .loc 0 0), (49, .int .i64 its.length), (50, .int .i64 p.1)]) (fun p => eO q ⟨its, sys, marks, shut, false, cur, fe, fa⟩ p.2 ++ [T4, T5]) (fun p => its.length - p.1) (fun _ => by rw [hE0]; exact Nat.zero_le _) (0, ⟨[], [], fe, fa⟩)
    ⟨Nat.zero_le _, hF.symm, Nat.le_refl _, Nat.le_refl _⟩ ?_ ?_
   ·rw [hE0]
    exact put_weak q its sys marks shut cur fe fa ⟨.loc rfl, .loc rfl, .loc rfl, .flat .int, .flat .int, trivial⟩
   rintro ⟨k, o⟩ ⟨j1, j2, j3, j4⟩
   dsimp only at j1 j2 j3 j4 ⊢
   refine vcOk _ ?_
   (all_goals refine qgp ?_ <;> (repeat' first | exact trivial | intro hc | refine And.intro ?_ ?_) <;> refine Lf.mk ?_)
   ·obtain ⟨x, hx⟩ := at_of_lt (l := its) (k := k) (by omega)
    have hkl : k < its.length := by omega
    have hgx : its[k] = x := by rw [List.getElem?_eq_getElem hkl] at hx; exact Option.some.inj hx
    rw [List.drop_eq_getElem_cons hkl, hgx, emitAll_step, if_pos (by assumption)] at j2
    obtain ⟨g1, g2⟩ := hgrow o x (List.mem_of_getElem? hx)
    refine call_b aemit_meets [T4, T5] (⟨its, sys, marks, shut, false, cur, fe, fa⟩, o, k, x, q) ⟨rfl, hx, hin, by show its.length ≤ _; omega, by show sys.length ≤ _; omega, by show o.code.length ≤ _; omega, by show o.rels.length ≤ _; omega⟩ rfl
     (LeL.of_eq (by show [D.loc 0 0, .aloc 1 its.length (0 + ((k : Nat) : Int).toNat) 0] = _; rw [Nat.zero_add, Int.toNat_natCast])) rfl
     (.cons (.loc (Nat.lt_of_lt_of_le (by decide : 0 < 7) (Nat.le_of_eq rfl))) (.cons (.aloc (Nat.lt_of_lt_of_le (by decide : 1 < 7) (Nat.le_of_eq rfl))) .nil)) .tup0 (eO_cl _ _ _) (eO_cl _ _ _) ?_
    have hem : emB ⟨its, sys, marks, shut, false, cur, fe, fa⟩ o x = emitE shut its sys o x := rfl
    dsimp only
    rw [hem]
    generalize emitE shut its sys o x = o2 at *
    (all_goals refine qgp (Lf.mk ?_))
    exact loop_same (k + 1, o2) ⟨by show k + 1 ≤ _; omega, j2, by dsimp only; omega, by dsimp only; omega⟩ (by dsimp only; omega) rfl ⟨rfl, rfl, rfl, rfl, rfl, trivial⟩
   ·have hkl : k < its.length := by omega
    rw [List.drop_eq_getElem_cons hkl, emitAll_step, if_neg hc] at j2
    exact loop_same (k + 1, o) ⟨by show k + 1 ≤ _; omega, j2, by dsimp only; omega, by dsimp only; omega⟩ (by dsimp only; omega) rfl ⟨rfl, rfl, rfl, rfl, rfl, trivial⟩
   ·have hk : k = its.length := by omega
    rw [hk, List.drop_length] at j2
    have j2 : o = F := j2
    subst j2
    exact ⟨(), trivial, weak_same rfl ⟨rfl, rfl, rfl, trivial⟩⟩
  ·rintro _ _
   refine vcOk _ ?_
   (all_goals refine qgp ?_ <;> (repeat' first | exact trivial | intro hc | refine And.intro ?_ ?_) <;> refine Lf.mk ?_)
   ·rw [if_pos hc] at hL
    subst hL
    exact end_p (VS.mk (LeD.tup (.cons (LeD.agg (.cons (.nil 1) (.cons (.nil 2) (.cons (.nil 4) .nil)))) (LeL.refl _))))
   ·rw [if_neg (fun h => h hc)] at hL
    subst hL
    refine end_freeze (k := 2) (e := 2) (els := sys.map symD) (els' := sys.map symD) (r1 := .tup [.agg [.sl 1 (F.code.map byteD) (some 6), .sl 2 (sys.map symD) (some 9), .sl 4 (F.rels.map relD) (some 5)], .agg [.int .i64 0, .int .i64 0]]) rfl (Nat.zero_le 2) (strip_syms sys) ?_ ?_ (Nat.zero_le _)
    ·refine .tup _ _ rfl fun i d d' h1 h2 => ?_
     match i, h1, h2 with
     | 0, h1, h2 =>
      cases h1
      cases h2
      refine .agg _ _ rfl fun j c c' g1 g2 => ?_
      match j, g1, g2 with
      | 0, g1, g2 => cases g1; cases g2; exact .keep _
      | 1, g1, g2 => cases g1; cases g2; exact .here _ _ (by simp) (by simp)
      | 2, g1, g2 => cases g1; cases g2; exact .keep _
      | j + 3, g1, g2 => cases g1
     | 1, h1, h2 => cases h1; cases h2; exact .keep _
     | i + 2, h1, h2 => cases h1
    ·exact end_p (VS.mk (LeD.tup (.cons (LeD.agg (.cons (.strip _ _ _) (.cons (.strip _ _ _) (.cons (.strip _ _ _) .nil)))) (LeL.refl _))))
end Go.Proofs.YthmdddenbfbefaaGreatDoor
namespace Go.Proofs.YthmdddenbfbefaaGreatDoor
open Go Go.Plat
set_option linter.unusedVariables false
set_option linter.unusedSimpArgs false
set_option maxRecDepth 100000
set_option maxHeartbeats 2000000
attribute [local irreducible] AWP Arith BitS BytesS CallS CatS DrawS EndS IdxS LookS LoopEnd Meets ModeS NilS NormL NormM QuoS RemS ShlS ShrS SideS SplitS bitI blankC digV digitB kindB letterB lexF lexL lexR numC numR numTok okC puF puR signT spanF wordC
theorem take_snoc {α : Type} {l : List α} {k : Nat} {x : α} (h : l[k]? = some x) : l.take (k + 1) = l.take k ++ [x] := by
 have hk := (List.getElem?_eq_some_iff.1 h).1
 rw [List.take_succ_eq_append_getElem hk]
 congr 2
 rw [List.getElem?_eq_getElem hk] at h
 exact Option.some.inj h
theorem sown_meets : Meets Tryz.prog n_scan_Own (SpecP (fun l : List LLine => l.length ≤ 1000000000 ∧ ∀ x ∈ l, x.toks.length ≤ 1000000000) (fun l => [.sl 2 (l.map llineD) none]) fun l => .sl 2 (l.map llineD) none) := by
 refine meets_f tabOk Tryz.func119 rfl (by decide) ?_
 rintro l ⟨hl, ht⟩
 refine ⟨Nat.le_refl _, by simp [Tryz.f119], fun E hE => ?_⟩
 refine vcOk _ ?_
 (all_goals refine qgp (Lf.mk ?_))
 refine awp_weak (weak_nil 3 2 rfl) ?_
 refine awp_loop (α := Nat) (fun k => k ≤ l.length)
  (fun k => [(3, .sl 2 ((l.take k).map llineD) (some 0)), (6, .sl 2 (l.map llineD) none), (7, .int .i64 l.length), (8, .int .i64 k)])
  (fun k => [.spare (l.take k).length]) (fun k => l.length - k) (fun _ => by simp [hE]) 0 (Nat.zero_le _) ?_ ?_
 ·(repeat' (first | (refine VS.mk ?_) | exact trivial | exact rfl | refine And.intro ?_ ?_))
 intro k hk
 have hkl : (l.take k).length = k := by rw [List.length_take]; omega
 refine vcOk _ ?_
 (all_goals refine qgp ?_ <;> (repeat' first | exact trivial | intro hc | refine And.intro ?_ ?_) <;> refine Lf.mk ?_)
 ·obtain ⟨x, hx⟩ : ∃ x, l[k]? = some x := ⟨_, List.getElem?_eq_getElem (by omega)⟩
  have hS := take_snoc hx
  have hkl1 : (l.take (k + 1)).length = k + 1 := by rw [List.length_take]; omega
  have hxt := ht x (List.mem_of_getElem? hx)
  refine ix_map x (by omega) (by simpa using hx) ?_
  (all_goals refine qgp (Lf.mk ?_))
  refine loop_end (k + 1) (by omega) (by omega) ?_
  (repeat' (first | (refine VS.mk ?_) | exact trivial | exact rfl | refine And.intro ?_ ?_))
  ·rw [hkl1, List.length_append, List.length_map, hkl]; rfl
  ·rw [hS, List.map_append, List.map_cons, List.map_nil]; rfl
 ·have e : l.take k = l := List.take_of_length_le (by omega)
  rw [e]
  exact end_p (VS.mk (LeD.of_eq rfl))
end Go.Proofs.YthmdddenbfbefaaGreatDoor
namespace Go.Proofs.YthmdddenbfbefaaGreatDoor
open Go Go.Plat
set_option linter.unusedVariables false
set_option linter.unusedSimpArgs false
set_option maxRecDepth 100000
set_option maxHeartbeats 2000000
attribute [local irreducible] AWP Arith BitS BytesS CallS CatS DrawS EndS IdxS Lib.itoa LookS LoopEnd Meets ModeS NilS NormL NormM OExpr.kids OExpr.kind OExpr.n OExpr.name QuoS RemS ShlS ShrS SideS SplitS allA awayA bitI buildR encV evalE exprD findI halfE idxV infoR labelB leadE linesR nameB nearE nodes oneA pRes putN regI signedI sizeA slotV takeA targetA withV wordE wrongI
def headM (x : LLine) : List UInt8 := match x.toks with
 | t :: _ => if t.kind = 1 then t.text else []
 | [] => []
theorem mhead_meets : Meets Tryz.prog n_macro_head (SpecP (fun x : LLine => x.toks.length ≤ 1000000000) (fun x => [llineD x]) fun x => .str (headM x)) := by
 refine meets_f tabOk Tryz.func114 rfl (by decide) ?_
 rintro ⟨pos, toks⟩ hl
 have hl : toks.length ≤ 1000000000 := hl
 refine ⟨Nat.le_refl _, by simp [Tryz.f114], fun E hE => ?_⟩
 cases toks with
 | nil =>
  refine vcOk _ ?_
  (all_goals refine qgp ?_ <;> (repeat' first | exact trivial | intro hc | refine And.intro ?_ ?_) <;> refine Lf.mk ?_)
  exact end_p (VS.mk (LeD.refl _))
 | cons t r =>
  have hl : r.length + 1 ≤ 1000000000 := hl
  refine vcOk _ ?_
  (all_goals refine qgp ?_ <;> (repeat' first | exact trivial | intro hc | refine And.intro ?_ ?_) <;> refine Lf.mk ?_)
  all_goals refine end_p (VS.mk (LeD.of_eq (congrArg D.str ?_)))
  ·unfold headM; dsimp only; rw [if_neg hc]
  ·unfold headM; dsimp only; rw [if_pos hc]
def mC (out : List LLine) (looked fe fa : Int) : List D := [.nilsl, .nilsl, .sl 2 (out.map llineD) (some 1), .int .i64 looked, .int .i64 fe, .int .i64 fa]
def mO (out : List LLine) (looked fe fa : Int) : List Ob := [.cells (mC out looked fe fa), .spare out.length]
theorem mO_cl (out : List LLine) (looked fe fa : Int) : ∀ x ∈ mO out looked fe fa, ClO 2 x := by
 intro x hx
 simp only [mO, List.mem_cons, List.not_mem_nil, or_false] at hx
 rcases hx with rfl | rfl
 ·exact .cells (.cons .nilsl (.cons .nilsl (.cons (.tok (by decide)) (.cons .int (.cons .int (.cons .int .nil))))))
 ·exact .spare
theorem mfind_meets : Meets Tryz.prog n_macro_maker_find (SpecF (fun _ : List LLine × Int × Int × Int × List UInt8 => True) (fun (_, _, _, _, name) => [.loc 0 0, .str name]) (fun (out, looked, fe, fa, _) => mO out looked fe fa) (fun _ => .int .i64 (-1)) fun (out, looked, fe, fa, _) => mO out looked fe fa) := by
 refine meets_f tabOk Tryz.func117 rfl (by decide) ?_
 rintro ⟨out, looked, fe, fa, name⟩ _
 refine ⟨Nat.le_refl _, by simp [Tryz.f117], fun E hE => ?_⟩
 refine vcOk _ ?_
 (all_goals refine qgp (Lf.mk ?_))
 refine call_inline tabOk Tryz.func169 rfl (by decide) (.int .i64 (-1)) (mO out looked fe fa ++ [.cells [.str name]]) (Nat.le_refl _) (by simp [Tryz.f169]) (fun E' hE' => ?_) ?_
 ·refine vcOk _ ?_
  (all_goals refine qgp (Lf.mk ?_))
  refine awp_unroll (vcOk _ ?_)
  (all_goals refine qgp ?_ <;> (repeat' first | exact trivial | intro hc | refine And.intro ?_ ?_) <;> refine Lf.mk ?_)
  exact end_eq rfl rfl
 ·(all_goals refine qgp (Lf.mk ?_))
  exact end_pre (mO out looked fe fa) [_] rfl (Nat.le_refl _) .int (mO_cl _ _ _ _)
def plainH (h : List UInt8) : Prop := h ≠ [46, 109, 97, 99, 114, 111] ∧ h ≠ [46, 114, 101, 112, 116] ∧ h ≠ [46, 105, 102] ∧ h ≠ [46, 101, 110, 100, 109] ∧ h ≠ [46, 101, 110, 100, 114] ∧ h ≠ [46, 101, 110, 100, 105, 102] ∧ h ≠ [46, 101, 108, 115, 101] ∧ h ≠ [46, 101, 113, 117]
instance (h : List UInt8) : Decidable (plainH h) := by unfold plainH; infer_instance
theorem mlines_plain : Meets Tryz.prog n_macro_maker_lines (SpecF (fun ((l, out, looked, deep) : List LLine × List LLine × Int × Int) => 0 ≤ deep ∧ deep ≤ 6 ∧ out.length + l.length ≤ 200 ∧ 0 ≤ looked ∧ looked + (l.length : Int) ≤ 4000 ∧ ∀ x ∈ l, plainH (headM x) ∧ x.toks.length ≤ 1000000000)
  (fun (l, _, _, deep) => [.loc 0 0, .sl 2 (l.map llineD) none, .int .i64 deep]) (fun (_, out, looked, _) => mO out looked 0 0) (fun _ => .tup []) fun (l, out, looked, _) => mO (out ++ l) (looked + (l.length : Int)) 0 0) := by
 refine meets_f tabOk Tryz.func59 rfl (by decide) ?_
 rintro ⟨l, out, looked, deep⟩ ⟨hd0, hd1, hol, hk0, hk1, hl⟩
 have hd1 : deep ≤ 6 := hd1
 have hol : out.length + l.length ≤ 200 := hol
 have hk0 : 0 ≤ looked := hk0
 have hk1 : looked + (l.length : Int) ≤ 4000 := hk1
 have hl : ∀ x ∈ l, plainH (headM x) ∧ x.toks.length ≤ 1000000000 := hl
 refine ⟨Nat.le_refl _, by simp [Tryz.f59], fun E hE => ?_⟩
 have hE2 : E.L.length = 2 := by rw [hE]; rfl
 refine vcOk _ ?_
 (all_goals refine qgp ?_ <;> (repeat' first | exact trivial | intro hc | refine And.intro ?_ ?_) <;> refine Lf.mk ?_)
 refine awp_loopW (α := Nat) (fun k => k ≤ l.length) (fun k => [(0, .loc 0 0), (1, .sl 2 (l.map llineD) none), (2, .int .i64 deep), (7, .int .i64 k)]) (fun k => mO (out ++ l.take k) (looked + (k : Int)) 0 0) (fun k => l.length - k) (fun _ => by rw [hE2]; exact Nat.le_refl 2) 0 (Nat.zero_le _) ?_ ?_
 ·exact weak_same (by simp) ⟨rfl, rfl, rfl, rfl, trivial⟩
 intro k hk
 have hk : k ≤ l.length := hk
 refine vcOk _ ?_
 (all_goals refine qgp ?_ <;> (repeat' first | exact trivial | intro hc | refine And.intro ?_ ?_) <;> refine Lf.mk ?_)
 ·obtain ⟨x, hx⟩ := at_of_lt (l := l) (k := k) (by omega)
  have hkl : k < l.length := by omega
  have hgx : l[k] = x := by rw [List.getElem?_eq_getElem hkl] at hx; exact Option.some.inj hx
  obtain ⟨hp, hxl⟩ := hl x (List.mem_of_getElem? hx)
  have hxk : l[((k : Nat) : Int).toNat]? = some x := by rw [Int.toNat_natCast]; exact hx
  refine ix_map x (Int.natCast_nonneg k) hxk ?_
  (all_goals refine qgp (Lf.mk ?_))
  refine call_p mhead_meets x hxl (VS.mk (LeL.of_eq rfl)) ?_
  obtain ⟨p1, p2, p3, p4, p5, p6, p7, p8⟩ := hp
  (all_goals refine qgp ?_ <;> (repeat' first | exact trivial | intro hc | refine And.intro ?_ ?_) <;> refine Lf.mk ?_)
  all_goals first
   | (exfalso; exact p1 (by assumption))
   | (exfalso; exact p2 (by assumption))
   | (exfalso; exact p3 (by assumption))
   | (exfalso; exact p4 (by assumption))
   | (exfalso; exact p5 (by assumption))
   | (exfalso; exact p6 (by assumption))
   | (exfalso; exact p7 (by assumption))
   | (exfalso; exact p8 (by assumption))
   | skip
  have hok : (out ++ l.take k).length = out.length + k := by rw [List.length_append, List.length_take]; omega
  refine call_b mfind_meets [] (out ++ l.take k, looked + (k : Int) + 1, 0, 0, headM x) trivial rfl (LeL.refl _) rfl (.cons (.loc (Nat.lt_of_lt_of_le (by decide : 0 < 2) (Nat.le_of_eq rfl))) (.cons .str .nil)) .int (mO_cl _ _ _ _) (mO_cl _ _ _ _) ?_
  have htk : (l.take (k + 1)).drop k = [x] := by
   rw [List.take_succ_eq_append_getElem hkl, List.drop_left' (by rw [List.length_take]; omega), hgx]
  have htk2 : out ++ l.take (k + 1) = (out ++ l.take k) ++ [x] := by rw [List.take_succ_eq_append_getElem hkl, hgx, List.append_assoc]
  generalize out ++ l.take k = ok at *
  (all_goals refine qgk ?_ <;> (repeat' first | exact trivial | intro hc | refine And.intro ?_ ?_) <;> refine Lf.mk ?_)
  ·exact absurd hc (by decide)
  ·exfalso; omega
  refine call_p sown_meets [x] ⟨by simp, fun y hy => by rw [List.mem_singleton] at hy; subst hy; exact hxl⟩ (VS.mk (LeL.of_eq (by rw [Int.toNat_natCast, show (((k : Nat) : Int) + 1).toNat = k + 1 by omega, htk]))) ?_
  (all_goals refine qgk (Lf.mk ?_))
  exact loop_same (k + 1) (by show k + 1 ≤ _; omega) (by omega) (by dsimp only; rw [htk2, show looked + (((k + 1 : Nat)) : Int) = looked + (k : Int) + 1 by omega]; rfl) ⟨rfl, rfl, rfl, rfl, trivial⟩
 ·exact absurd trivial hc
 ·have hk2 : k = l.length := by omega
  rw [hk2, List.take_length]
  exact end_eq rfl rfl
def plainL (l : List LLine) : Prop := l.length ≤ 200 ∧ ∀ x ∈ l, plainH (headM x) ∧ x.toks.length ≤ 1000000000
theorem expand_plain : Meets Tryz.prog n_macro_Expand (SpecP (fun l : List LLine => plainL l) (fun l => [.sl 2 (l.map llineD) none]) fun l => .tup [.sl 2 (l.map llineD) none, .sl 2 [] none, .agg [.int .i64 0, .int .i64 0]]) := by
 refine meets_f tabOk Tryz.func32 rfl (by decide) ?_
 rintro l ⟨hl, hp⟩
 refine ⟨Nat.le_refl _, by simp [Tryz.f32], fun E hE => ?_⟩
 have hE0 : E.L.length = 0 := by rw [hE]; rfl
 refine awp_seqK (vcOk _ ?_)
 (all_goals refine qgp (Lf.mk ?_))
 refine awp_seqK (vcOk _ ?_)
 (all_goals refine qgp (Lf.mk ?_))
 refine awp_weak (σ' := [(0, .sl 2 (l.map llineD) none), (4, .loc 2 0), (5, .loc 0 0)]) (L' := mO [] 0 0 0 ++ [T5]) ?_ ?_
 ·rw [hE0]
  refine weak_trans (weak_cellnil' 1 2 [.nilsl, .nilsl, .sl 2 [] (some 2), .int .i64 0, .int .i64 0, .int .i64 0] rfl ⟨.same, .same, .here, .same, .same, .same, trivial⟩) ?_
  refine weak_keepO [1, 2, 0] rfl rfl ?_ ⟨.flat .sl, .loc rfl, .loc rfl, trivial⟩
  exact .cons (o := .cells [.nilsl, .nilsl, .sl 2 [] (some 2), .int .i64 0, .int .i64 0, .int .i64 0]) rfl ⟨_, rfl, .cons (.flat .nilsl) (.cons (.flat .nilsl) (.cons (.tok rfl) (.cons (.flat .int) (.cons (.flat .int) (.cons (.flat .int) .nil)))))⟩
   (.cons (o := .spare 0) rfl rfl (.cons (o := T5) rfl ⟨_, rfl, .cons (.flat .int) (.cons (.flat .int) .nil)⟩ .nil))
 refine vcOk _ ?_
 (all_goals refine qgp (Lf.mk ?_))
 refine call_b mlines_plain [T5] (l, [], 0, 0) ⟨by decide, by decide, by simpa using hl, by decide, by show 0 + (l.length : Int) ≤ 4000; omega, hp⟩ rfl (LeL.refl _) rfl (.cons (.loc (Nat.lt_of_lt_of_le (by decide : 0 < 2) (Nat.le_of_eq rfl))) (.cons .sl (.cons .int .nil))) .tup0 (mO_cl _ _ _ _) (mO_cl _ _ _ _) ?_
 dsimp only
 rw [List.nil_append]
 (all_goals refine qgp ?_ <;> (repeat' first | exact trivial | intro hc | refine And.intro ?_ ?_) <;> refine Lf.mk ?_)
 ·exact absurd trivial hc
 ·exact end_p (VS.mk (LeD.tup (.cons (.strip _ _ _) (.cons (.nil 2) (LeL.refl _)))))
end Go.Proofs.YthmdddenbfbefaaGreatDoor
namespace Go.Proofs.YthmdddenbfbefaaGreatDoor
open Go Go.Plat
set_option linter.unusedVariables false
set_option linter.unusedSimpArgs false
set_option maxRecDepth 100000
set_option maxHeartbeats 2000000
attribute [local irreducible] AWP Arith BitS BytesS CallS CatS DrawS EndS IdxS LookS LoopEnd Meets ModeS NilS NormL NormM QuoS RemS ShlS ShrS SideS SplitS bitI blankC digV digitB kindB letterB lexF lexL lexR numC numR numTok okC puF puR signT spanF wordC
end Go.Proofs.YthmdddenbfbefaaGreatDoor
namespace Go.Proofs.YthmdddenbfbefaaGreatDoor
open Go Go.Plat
set_option linter.unusedVariables false
set_option linter.unusedSimpArgs false
set_option maxRecDepth 100000
set_option maxHeartbeats 2000000
attribute [local irreducible] AWP Arith BitS BytesS CallS CatS DrawS EndS IdxS Lib.itoa LookS LoopEnd Meets ModeS NilS NormL NormM OExpr.kids OExpr.kind OExpr.n OExpr.name QuoS RemS ShlS ShrS SideS SplitS allA awayA bitI buildR encV evalE exprD findI halfE idxV infoR labelB leadE linesR nameB nearE nodes oneA pRes putN regI signedI sizeA slotV takeA targetA withV wordE wrongI
def unitP (b : List UInt8) : OObj × Int × Int := if (linesR b).2.1 ≠ 0 then (noO, (linesR b).2.1, (linesR b).2.2) else buildR [] (linesR b).1
structure PlainB (b : List UInt8) : Prop where
 len : b.length ≤ 1000000000
 plain : plainL (linesR b).1
 tot : totL (linesR b).1 ≤ 9000
 wts : ∀ x ∈ (linesR b).1, wt (x.toks.map tk) ≤ 1048576
theorem unit_plain : Meets Tryz.prog n_asm_Unit (SpecP PlainB (fun b => [.sl 1 (b.map byteD) none]) fun b => .tup [objD (unitP b).1, .agg [.int .i64 (unitP b).2.1, .int .i64 (unitP b).2.2]]) := by
 refine meets_f tabOk Tryz.func13 rfl (by decide) ?_
 rintro b ⟨h1, h2, h3, h4⟩
 refine ⟨Nat.le_refl _, by simp [Tryz.f13], fun E hE => ?_⟩
 have hU : unitP b = if (linesR b).2.1 ≠ 0 then (noO, (linesR b).2.1, (linesR b).2.2) else buildR [] (linesR b).1 := rfl
 generalize unitP b = U at *
 refine vcOk _ ?_
 (all_goals refine qgp (Lf.mk ?_))
 refine call_p scan_lines_meets b h1 (VS.mk (LeL.of_eq rfl)) ?_
 have hD : linesD (linesR b) = .tup [.sl 2 ((linesR b).1.map llineD) none, .agg [.int .i64 (linesR b).2.1, .int .i64 (linesR b).2.2]] := rfl
 rw [hD]
 generalize linesR b = W at *
 obtain ⟨l, e, a⟩ := W
 dsimp only at h2 h3 h4 hU ⊢
 (all_goals refine qgp ?_ <;> (repeat' first | exact trivial | intro hc | refine And.intro ?_ ?_) <;> refine Lf.mk ?_)
 ·rw [if_pos hc] at hU
  subst hU
  exact end_p (VS.mk (LeD.tup (.cons (LeD.agg (.cons (.nil 1) (.cons (.nil 2) (.cons (.nil 4) .nil)))) (LeL.refl _))))
 rw [if_neg (fun h => h hc)] at hU
 refine call_p expand_plain l h2 (VS.mk (LeL.of_eq rfl)) ?_
 (all_goals refine qgp ?_ <;> (repeat' first | exact trivial | intro hc | refine And.intro ?_ ?_) <;> refine Lf.mk ?_)
 ·exact absurd trivial hc
 refine call_p build_meets (l, []) ⟨h3, h4, by decide, by have := h2.1; show l.length ≤ _; omega⟩ (VS.mk (LeL.of_eq rfl)) ?_
 dsimp only
 rw [← hU]
 (all_goals refine qgp (Lf.mk ?_))
 exact end_p (VS.mk (LeD.refl _))
end Go.Proofs.YthmdddenbfbefaaGreatDoor
namespace Go.Proofs.YthmdddenbfbefaaGreatDoor
open Go Go.Plat
set_option linter.unusedVariables false
set_option linter.unusedSimpArgs false
set_option maxRecDepth 100000
set_option maxHeartbeats 2000000
attribute [local irreducible] AWP Arith BitS BytesS CallS CatS DrawS EndS IdxS LookS LoopEnd Meets ModeS NilS NormL NormM QuoS RemS ShlS ShrS SideS SplitS bitI digitB kindB letterB nameB okC signedI
def upI (n : Int) : Int := n + 3 - (n + 3) % 4
def basesE : List OObj → Int → List Int
 | [], _ => []
 | o :: l, n => upI n :: basesE l (upI n + o.code.length)
def endE : List OObj → Int → Int
 | [], n => n
 | o :: l, n => endE l (upI n + o.code.length)
def lintD (n : Int) : D := .int .i64 n
def lintsD (l : List Int) : D := .sl 1 (l.map lintD) none
theorem bits3 : ∀ i : Fin 64, (~~~ (3#64)).getLsbD i = decide (2 ≤ i.1) := by decide
theorem andnot_bv (x : BitVec 64) : x &&& ~~~ (3#64) = (x >>> 2) <<< 2 := by
 apply BitVec.eq_of_getLsbD_eq
 intro i hi
 rw [BitVec.getLsbD_and, bits3 ⟨i, hi⟩, BitVec.getLsbD_shiftLeft, BitVec.getLsbD_ushiftRight]
 by_cases h : 2 ≤ i
 ·simp [h, hi, show ¬ i < 2 by omega, show 2 + (i - 2) = i by omega]
 ·simp [h, show i < 2 by omega]
theorem andnot_3 {n : Int} (h0 : 0 ≤ n) (h1 : n ≤ 9223372036854775807) : bitI .andNot .i64 n 3 = n - n % 4 := by
 obtain ⟨a, rfl⟩ := Int.eq_ofNat_of_zero_le h0
 have ha : a ≤ 9223372036854775807 := by omega
 unfold bitI
 have hx := ofInt_nat ha
 have e : (BitVec.ofInt IntKind.i64.bits (a : Int) &&& ~~~ BitVec.ofInt IntKind.i64.bits 3).toNat = a / 4 * 4 := by
  generalize BitVec.ofInt IntKind.i64.bits (a : Int) = x at *
  change BitVec 64 at x
  show (x &&& ~~~ (3#64)).toNat = _
  rw [andnot_bv, BitVec.toNat_shiftLeft, BitVec.toNat_ushiftRight]
  have hx : x.toNat = a := hx
  rw [hx, Nat.shiftRight_eq_div_pow, Nat.shiftLeft_eq]
  omega
 show IntKind.i64.wrap ((_ : Nat) : Int) = _
 rw [e]
 refine (Go.Plat.wrap_small (by omega)).trans ?_
 omega
theorem upI_bd (n : Int) : n ≤ upI n ∧ upI n ≤ n + 3 ∧ upI n % 4 = 0 := by unfold upI; omega
theorem lbases_meets : Meets Tryz.prog n_link_Bases (SpecP (fun ((l, n) : List OObj × Int) => l.length ≤ 1048576 ∧ 0 ≤ n ∧ n ≤ 1000000000 ∧ ∀ o ∈ l, o.code.length ≤ 1048576) (fun (l, n) => [.sl 3 (l.map objD) none, .int .i64 n])
  fun (l, n) => .tup [lintsD (basesE l n), .int .i64 (endE l n)]) := by
 refine meets_f tabOk Tryz.func91 rfl (by decide) ?_
 rintro ⟨l, n⟩ ⟨hl, hn0, hn1, ho⟩
 refine ⟨Nat.le_refl _, by simp [Tryz.f91], fun E hE => ?_⟩
 refine vcOk _ ?_
 (all_goals refine qgo (Lf.mk ?_))
 refine awp_weak (weak_nil 6 1 rfl) ?_
 refine awp_loop (α := Nat × List Int × Int) (fun p => p.1 ≤ l.length ∧ p.2.1.length = p.1 ∧ p.2.1 ++ basesE (l.drop p.1) p.2.2 = basesE l n ∧ endE (l.drop p.1) p.2.2 = endE l n ∧ 0 ≤ p.2.2 ∧ p.2.2 ≤ 1000000000 + p.1 * 1048580)
  (fun p => [(11, .sl 3 (l.map objD) none), (12, .int .i64 l.length), (13, .int .i64 p.1), (6, .sl 1 (p.2.1.map lintD) (some 0)), (7, .int .i64 p.2.2)])
  (fun p => [.spare p.2.1.length]) (fun p => l.length - p.1) (fun _ => by simp [hE]) (0, [], n) ⟨Nat.zero_le _, rfl, by simp, by simp, hn0, by dsimp only; omega⟩ ?_ ?_
 ·(repeat' (first | (refine VS.mk ?_) | exact trivial | exact rfl | refine And.intro ?_ ?_))
 rintro ⟨k, bs, a⟩ ⟨hk, hbl, hb, he, ha0, ha1⟩
 dsimp only at hk hbl hb he ha0 ha1 ⊢
 refine vcOk _ ?_
 have hkb : (k : Int) * 1048580 ≤ 1048576 * 1048580 := by omega
 (all_goals refine qgo ?_ <;> (repeat' first | exact trivial | intro hc | refine And.intro ?_ ?_) <;> refine Lf.mk ?_)
 ·obtain ⟨o, hok⟩ := at_of_lt (l := l) (k := k) (by omega)
  have hkl : k < l.length := by omega
  have hget : l[k] = o := by rw [List.getElem?_eq_getElem hkl] at hok; exact Option.some.inj hok
  have hoc := ho o (List.mem_of_getElem? hok)
  rw [List.drop_eq_getElem_cons hkl, hget, basesE] at hb
  rw [List.drop_eq_getElem_cons hkl, hget, endE] at he
  have hup := upI_bd a
  refine ix_map o (by omega) (by simpa using hok) ?_
  (all_goals refine qgo (Lf.mk ?_))
  refine bit_mk (andnot_3 (by omega) (by omega)) ?_
  (all_goals refine qgo (Lf.mk ?_))
  refine loop_end (k + 1, bs ++ [upI a], upI a + o.code.length) ⟨by (dsimp only; omega), by (dsimp only; rw [List.length_append, hbl]; rfl), by (dsimp only; rw [List.append_assoc]; exact hb), he, by (dsimp only; omega), by (dsimp only; omega)⟩ (by dsimp only; omega) ?_
  (repeat' (first | (refine VS.mk ?_) | exact trivial | exact rfl | refine And.intro ?_ ?_))
  ·simp
  ·simp [lintD, upI]
 ·obtain rfl : k = l.length := by omega
  rw [List.drop_length, basesE, List.append_nil] at hb
  rw [List.drop_length, endE] at he
  refine end_p (VS.mk ?_)
  rw [hb, he]
  (first | exact LeL.refl _ | (repeat' (first | exact LeL.nil | exact LeD.refl _ | exact LeD.nil _ | exact LeD.strip _ _ _ | refine LeL.cons ?_ ?_ | refine LeD.tup ?_ | refine LeD.agg ?_)))
def findS (n : List UInt8) : List OSym → Option Int
 | [] => none
 | s :: l => if s.name = n then some s.at_ else findS n l
def idxS (n : List UInt8) : List OSym → Nat → Int
 | [], _ => -1
 | s :: l, k => if s.name = n then k else idxS n l (k + 1)
theorem clos_meets : Meets Tryz.prog n_link_find_1 (SpecF (fun _ : OSym × List UInt8 => True) (fun (s, n) => [symD s, .loc 0 0]) (fun (s, n) => [.cells [.str n]]) (fun (s, n) => .bool (s.name == n)) fun (s, n) => [.cells [.str n]]) := by
 refine meets_f tabOk Tryz.func145 rfl (by decide) ?_
 rintro ⟨s, n⟩ -
 refine ⟨Nat.le_refl _, by simp [Tryz.f145], fun E hE => ?_⟩
 refine vcOk _ ?_
 (all_goals refine qgo (Lf.mk ?_))
 refine end_mk ?_
 (repeat' (first | (refine VS.mk ?_) | exact trivial | exact rfl | refine And.intro ?_ ?_))
theorem lindex_meets : Meets Tryz.prog n_slices_IndexFunc_api_Sym_api_Sym (SpecF (fun ((l, n) : List OSym × List UInt8) => l.length ≤ 1000000000) (fun (l, n) => [.sl 2 (l.map symD) none, .fn n_link_find_1 [.loc 0 0]])
  (fun (l, n) => [.cells [.str n]]) (fun (l, n) => .int .i64 (idxS n l 0)) fun (l, n) => [.cells [.str n]]) := by
 refine meets_f tabOk Tryz.func133 rfl (by decide) ?_
 rintro ⟨l, n⟩ hl
 have hl : l.length ≤ 1000000000 := hl
 refine ⟨Nat.le_refl _, by simp [Tryz.f133], fun E hE => ?_⟩
 refine vcOk _ ?_
 (all_goals refine qgo (Lf.mk ?_))
 refine awp_loop (α := Nat) (fun k => k ≤ l.length ∧ idxS n l 0 = idxS n (l.drop k) k)
  (fun k => [(7, .int .i64 l.length), (8, .int .i64 k), (0, .sl 2 (l.map symD) none), (1, .fn n_link_find_1 [.loc 0 0])])
  (fun _ => [.cells [.str n]]) (fun k => l.length - k) (fun _ => by simp [hE]) 0 ⟨Nat.zero_le _, by simp⟩ ?_ ?_
 ·(repeat' (first | (refine VS.mk ?_) | exact trivial | exact rfl | refine And.intro ?_ ?_))
 rintro k ⟨hk, hf⟩
 refine vcOk _ ?_
 (all_goals refine qgo ?_ <;> (repeat' first | exact trivial | intro hc | refine And.intro ?_ ?_) <;> refine Lf.mk ?_)
 ·obtain ⟨s, hsk⟩ := at_of_lt (l := l) (k := k) (by omega)
  have hkl : k < l.length := by omega
  have hget : l[k] = s := by rw [List.getElem?_eq_getElem hkl] at hsk; exact Option.some.inj hsk
  rw [List.drop_eq_getElem_cons hkl, hget, idxS] at hf
  refine ix_map s (by omega) (by simpa using hsk) ?_
  (all_goals refine qgo (Lf.mk ?_))
  refine call_f clos_meets [0] [0] (s, n) trivial rfl rfl ?_
  refine And.intro (VS.mk (LeL.of_eq rfl)) (And.intro (VS.mk rfl) ?_)
  (all_goals refine qgo ?_ <;> (repeat' first | exact trivial | intro hc | refine And.intro ?_ ?_) <;> refine Lf.mk ?_)
  ·rw [if_pos hc] at hf
   refine end_mk ?_
   (repeat' (first | (refine VS.mk ?_) | exact trivial | exact rfl | refine And.intro ?_ ?_))
   exact congrArg (D.int .i64) hf.symm
  ·rw [if_neg hc] at hf
   refine loop_end (k + 1) ⟨by omega, hf⟩ (by omega) ?_
   (repeat' (first | (refine VS.mk ?_) | exact trivial | exact rfl | refine And.intro ?_ ?_))
 ·rw [List.drop_of_length_le (by omega), idxS] at hf
  refine end_mk ?_
  (repeat' (first | (refine VS.mk ?_) | exact trivial | exact rfl | refine And.intro ?_ ?_))
  exact congrArg (D.int .i64) hf.symm
theorem idx_spec (n : List UInt8) : ∀ (l : List OSym) (k : Nat), (findS n l = none ∧ idxS n l k = -1) ∨ ∃ (i : Nat) (s : OSym), l[i]? = some s ∧ idxS n l k = ((k + i : Nat) : Int) ∧ findS n l = some s.at_
 | [], k => .inl ⟨rfl, rfl⟩
 | s :: l, k => by
  rw [findS, idxS]
  by_cases h : s.name = n
  ·rw [if_pos h, if_pos h]
   exact .inr ⟨0, s, rfl, rfl, rfl⟩
  ·rw [if_neg h, if_neg h]
   rcases idx_spec n l (k + 1) with h1 | ⟨i, t, h1, h2, h3⟩
   ·exact .inl h1
   ·exact .inr ⟨i + 1, t, h1, by rw [h2]; congr 1; omega, h3⟩
theorem lfind_meets : Meets Tryz.prog n_link_find (SpecP (fun ((l, n) : List OSym × List UInt8) => l.length ≤ 1000000000) (fun (l, n) => [.sl 2 (l.map symD) none, .str n])
  fun (l, n) => .tup [.int .i64 ((findS n l).getD 0), .bool (findS n l).isSome]) := by
 refine meets_f tabOk Tryz.func92 rfl (by decide) ?_
 rintro ⟨l, n⟩ hl
 have hl : l.length ≤ 1000000000 := hl
 refine ⟨Nat.le_refl _, by simp [Tryz.f92], fun E hE => ?_⟩
 refine vcOk _ ?_
 (all_goals refine qgo (Lf.mk ?_))
 refine call_f lindex_meets [0] [0] (l, n) hl rfl rfl ?_
 refine And.intro (VS.mk (LeL.of_eq rfl)) (And.intro (VS.mk rfl) ?_)
 rcases idx_spec n l 0 with ⟨h1, h2⟩ | ⟨i, s, h1, h2, h3⟩
 ·dsimp only
  rw [h2]
  (all_goals refine qgo ?_ <;> (repeat' first | exact trivial | intro hc | refine And.intro ?_ ?_) <;> refine Lf.mk ?_)
  all_goals first
   | (exfalso; omega)
   | (refine end_p (VS.mk ?_); rw [h1]; exact .tup (.cons (.refl _) (.cons (.ff rfl) .nil)))
 ·have hil : i < l.length := (List.getElem?_eq_some_iff.1 h1).1
  rw [Nat.zero_add] at h2
  dsimp only
  rw [h2]
  (all_goals refine qgo ?_ <;> (repeat' first | exact trivial | intro hc | refine And.intro ?_ ?_) <;> refine Lf.mk ?_)
  ·exfalso; omega
  ·refine ix_map s (by omega) (by simpa using h1) ?_
   (all_goals refine qgo (Lf.mk ?_))
   refine end_p (VS.mk ?_)
   rw [h3]
   exact .tup (.cons (.refl _) (.cons (.tt rfl) .nil))
end Go.Proofs.YthmdddenbfbefaaGreatDoor
namespace Go.Proofs.YthmdddenbfbefaaGreatDoor
open Go Go.Plat
set_option linter.unusedVariables false
set_option linter.unusedSimpArgs false
set_option maxRecDepth 100000
set_option maxHeartbeats 2000000
attribute [local irreducible] AWP Arith BitS BytesS CallS CatS DrawS EndS IdxS LookS LoopEnd Meets ModeS NilS NormL NormM QuoS RemS ShlS ShrS SideS SplitS bitI
attribute [local irreducible] digitB letterB signedI
theorem nameB_len {s : List UInt8} (h : nameB s = true) : 1 ≤ s.length ∧ s.length ≤ 10 := by
 unfold nameB at h
 rw [Bool.and_eq_true, Bool.and_eq_true] at h
 exact of_decide_eq_true h.1.1
attribute [local irreducible] nameB
theorem symsW_ok {n : Int} : ∀ {l : List OSym} {had : List (List UInt8)}, symsW n l had = none → ∀ s ∈ l, nameB s.name = true ∧ 0 ≤ s.at_ ∧ s.at_ ≤ n
 | [], _, _, s, hs => by simp at hs
 | t :: l, had, h, s, hs => by
  rw [symsW] at h
  split at h
  ·cases h
  rename_i h1
  split at h
  ·cases h
  rename_i h2
  rcases List.mem_cons.1 hs with rfl | hs
  ·refine ⟨?_, by omega, by omega⟩
   cases hn : nameB s.name with
   | true => rfl
   | false => exact (h1 (.inl hn)).elim
  ·exact symsW_ok h s hs
theorem symsW_ne {n : Int} : ∀ {l : List OSym} {had : List (List UInt8)} {e : Int}, symsW n l had = some e → e ≠ 0
 | [], _, _, h => by cases h
 | t :: l, had, e, h => by
  rw [symsW] at h
  split at h
  ·cases h; decide
  split at h
  ·cases h; decide
  exact symsW_ne h
structure RelOk (n : Int) (r : ORel) : Prop where
 size : r.size = 2 ∨ r.size = 4
 at0 : 0 ≤ r.at_
 at1 : r.at_ + r.size ≤ n
 name : r.name = [] ∨ nameB r.name = true
 add : signedI r.add 32 = r.add
theorem relsW_ok {n : Int} : ∀ {l : List ORel} {last : Int}, 0 ≤ last → relsW n l last = 0 → ∀ r ∈ l, RelOk n r
 | [], _, _, _, s, hs => by simp at hs
 | t :: l, last, h0, h, r, hs => by
  rw [relsW] at h
  split at h
  ·cases h
  rename_i h1
  split at h
  ·cases h
  rename_i h2
  split at h
  ·cases h
  rename_i h3
  split at h
  ·cases h
  rename_i h4
  split at h
  ·cases h
  rename_i h5
  rcases List.mem_cons.1 hs with rfl | hs
  ·refine ⟨by omega, by omega, by omega, ?_, Classical.not_not.1 h5⟩
   cases hn : nameB r.name with
   | true => exact .inr rfl
   | false => exact .inl (Classical.not_not.1 fun hne => h4 ⟨hne, hn⟩)
  ·exact relsW_ok (by omega) h r hs
structure ObjOk (o : OObj) : Prop where
 code : o.code.length ≤ 8000
 syms : o.syms.length ≤ 255
 rels : o.rels.length ≤ 16000
 sym : ∀ s ∈ o.syms, nameB s.name = true ∧ 0 ≤ s.at_ ∧ s.at_ ≤ o.code.length
 rel : ∀ r ∈ o.rels, RelOk o.code.length r
theorem wrong_ok {o : OObj} (h : wrongO o = 0) : ObjOk o := by
 unfold wrongO at h
 split at h
 ·cases h
 rename_i h1
 split at h
 ·rename_i e he
  exact (symsW_ne he h).elim
 rename_i he
 exact ⟨by omega, by omega, by omega, symsW_ok he, relsW_ok (Int.le_refl _) h⟩
theorem RelOk.len {n : Int} {r : ORel} (h : RelOk n r) : r.name.length ≤ 10 := by
 rcases h.name with h | h
 ·rw [h]; decide
 ·exact (nameB_len h).2
end Go.Proofs.YthmdddenbfbefaaGreatDoor
namespace Go.Proofs.YthmdddenbfbefaaGreatDoor
open Go Go.Plat
set_option linter.unusedVariables false
set_option maxRecDepth 100000
attribute [local irreducible] digitB kindB letterB nameB okC signedI
def fltD (e a : Int) : D := .agg [.int .i64 e, .int .i64 a]
def addS (b : Int) : List OSym → List OSym → Option (List OSym)
 | [], acc => some acc
 | s :: l, acc => if (findS s.name acc).isSome = true then none else addS b l (acc ++ [⟨s.name, b + s.at_⟩])
def layB (bs : List UInt8) (off : Nat) (code : List UInt8) : List UInt8 := bs ++ List.replicate (off - bs.length) 0 ++ code
def lay (base : Int) : List OObj → Int → Nat → List UInt8 → List OSym → Nat ⊕ (List UInt8 × List OSym)
 | [], _, _, bs, ss => .inr (bs, ss)
 | o :: l, n, i, bs, ss => match addS (upI n) o.syms ss with
  | none => .inl i
  | some ss' => lay base l (upI n + o.code.length) (i + 1) (layB bs (upI n - base).toNat o.code) ss'
def placeR (b : Int) (ss : List OSym) (r : ORel) : Option Int := if r.name = [] then some b else findS r.name ss
def fixR (base b : Int) (ss : List OSym) : List ORel → List UInt8 → Int ⊕ List UInt8
 | [], bs => .inr bs
 | r :: l, bs => match placeR b ss r with
  | none => .inl 6
  | some a => if r.size = 2 ∧ (signedI (a + r.add) 32 < -32768 ∨ 65535 < signedI (a + r.add) 32) then .inl 3
   else fixR base b ss l (putN bs (b - base + r.at_) r.size.toNat (signedI (a + r.add) 32))
def fix (base : Int) (ss : List OSym) : List OObj → Int → Nat → List UInt8 → (Int × Nat) ⊕ List UInt8
 | [], _, _, bs => .inr bs
 | o :: l, n, i, bs => match fixR base (upI n) ss o.rels bs with
  | .inl e => .inl (e, i)
  | .inr bs' => fix base ss l (upI n + o.code.length) (i + 1) bs'
def firstW : List OObj → Nat → Option (Int × Nat)
 | [], _ => none
 | o :: l, i => if wrongO o = 0 then firstW l (i + 1) else some (wrongO o, i)
def linkR (l : List OObj) (base : Int) : OImg × Int × Int :=
 match firstW l 0 with
 | some (e, i) => (noImg, e, i)
 | none => match lay base l base 0 [] [] with
  | .inl i => (noImg, 7, i)
  | .inr (bs, ss) => match fix base ss l base 0 bs with
   | .inl (e, i) => (noImg, e, i)
   | .inr bs' => (⟨base, bs', ss⟩, 0, 0)
def linkO (l : List OObj) (base : Int) : OImg × Int × Int :=
 if base < 0 ∨ 1048576 < base ∨ base % 4 ≠ 0 then (noImg, 3, 0) else if l.length < 1 ∨ 4 < l.length then (noImg, 5, 0) else linkR l base
def outD (x : OImg × Int × Int) : D := .tup [imgD x.1, fltD x.2.1 x.2.2]
theorem firstW_ok : ∀ {l : List OObj} {k : Nat}, firstW l k = none → ∀ o ∈ l, wrongO o = 0
 | [], _, _, o, h => by simp at h
 | x :: l, k, h, o, ho => by
  rw [firstW] at h
  split at h
  ·rename_i hx
   rcases List.mem_cons.1 ho with rfl | ho
   ·exact hx
   ·exact firstW_ok h o ho
  ·cases h
theorem findS_mem {n : List UInt8} : ∀ {l : List OSym} {a : Int}, findS n l = some a → ∃ s ∈ l, s.at_ = a
 | [], a, h => by cases h
 | s :: l, a, h => by
  rw [findS] at h
  split at h
  ·cases h; exact ⟨s, by simp, rfl⟩
  ·obtain ⟨t, h1, h2⟩ := findS_mem h
   exact ⟨t, by simp [h1], h2⟩
theorem putN_length (bs : List UInt8) (a : Int) (k : Nat) (n : Int) : (putN bs a k n).length = bs.length := putN_len a k bs n
theorem endE_ge : ∀ (l : List OObj) (n : Int), n ≤ endE l n
 | [], n => Int.le_refl _
 | o :: l, n => by
  have h1 := endE_ge l (upI n + o.code.length)
  have h2 := upI_bd n
  rw [endE]; omega
theorem endE_le : ∀ (l : List OObj) (n : Int), (∀ o ∈ l, o.code.length ≤ 8000) → endE l n ≤ n + l.length * 8003
 | [], n, _ => by rw [endE]; simp
 | o :: l, n, h => by
  have h1 := endE_le l (upI n + o.code.length) fun x hx => h x (by simp [hx])
  have h2 := upI_bd n
  have h3 := h o (by simp)
  rw [endE, List.length_cons]; omega
theorem get_of_drop {α : Type} {l r : List α} {k : Nat} {x : α} (h : l.drop k = x :: r) : l[k]? = some x := by
 have := List.getElem?_drop (xs := l) (i := k) (j := 0)
 rw [h] at this
 simpa using this.symm
theorem drop_succ {α : Type} {l r : List α} {k : Nat} {x : α} (h : l.drop k = x :: r) : l.drop (k + 1) = r := by
 rw [← List.drop_drop, h]; rfl
theorem ldrop_cons {α : Type} {l : List α} {k : Nat} {o : α} (h : l[k]? = some o) : l.drop k = o :: l.drop (k + 1) := by
 obtain ⟨hk, h2⟩ := List.getElem?_eq_some_iff.1 h
 rw [List.drop_eq_getElem_cons hk, h2]
theorem signed_bd (n : Int) : -2147483648 ≤ signedI n 32 ∧ signedI n 32 ≤ 2147483647 := by
 have : signedI n 32 = if n % 4294967296 / 2147483648 = 1 then n % 4294967296 - 4294967296 else n % 4294967296 := by unfold signedI; rfl
 rw [this]
 split <;> omega
theorem lay_cons {base : Int} {o : OObj} {l : List OObj} {n : Int} {i : Nat} {bs : List UInt8} {ss : List OSym} : lay base (o :: l) n i bs ss = match addS (upI n) o.syms ss with
  | none => .inl i
  | some ss' => lay base l (upI n + o.code.length) (i + 1) (layB bs (upI n - base).toNat o.code) ss' := by rw [lay]
theorem lay_nil {base n : Int} {i : Nat} {bs : List UInt8} {ss : List OSym} : lay base [] n i bs ss = .inr (bs, ss) := rfl
theorem fix_cons {base : Int} {o : OObj} {l : List OObj} {n : Int} {i : Nat} {bs : List UInt8} {ss : List OSym} : fix base ss (o :: l) n i bs = match fixR base (upI n) ss o.rels bs with
  | .inl e => .inl (e, i)
  | .inr bs' => fix base ss l (upI n + o.code.length) (i + 1) bs' := by rw [fix]
theorem fix_nil {base n : Int} {i : Nat} {bs : List UInt8} {ss : List OSym} : fix base ss [] n i bs = .inr bs := rfl
theorem fixR_cons {base b : Int} {ss : List OSym} {r : ORel} {l : List ORel} {bs : List UInt8} : fixR base b ss (r :: l) bs = match placeR b ss r with
  | none => .inl 6
  | some a => if r.size = 2 ∧ (signedI (a + r.add) 32 < -32768 ∨ 65535 < signedI (a + r.add) 32) then .inl 3
   else fixR base b ss l (putN bs (b - base + r.at_) r.size.toNat (signedI (a + r.add) 32)) := by rw [fixR]
theorem fixR_nil {base b : Int} {ss : List OSym} {bs : List UInt8} : fixR base b ss [] bs = .inr bs := rfl
theorem addS_cons {b : Int} {s : OSym} {l acc : List OSym} : addS b (s :: l) acc = if (findS s.name acc).isSome = true then none else addS b l (acc ++ [⟨s.name, b + s.at_⟩]) := by rw [addS]
theorem addS_nil {b : Int} {acc : List OSym} : addS b [] acc = some acc := rfl
theorem bases_cons {o : OObj} {l : List OObj} {n : Int} : basesE (o :: l) n = upI n :: basesE l (upI n + o.code.length) := rfl
theorem ends_cons {o : OObj} {l : List OObj} {n : Int} : endE (o :: l) n = endE l (upI n + o.code.length) := rfl
theorem ends_nil {n : Int} : endE [] n = n := rfl
theorem lay_zeros {bs code : List UInt8} {off N : Nat} (h1 : bs.length ≤ off) (h2 : off + code.length ≤ N) :
  spliceD ((bs ++ List.replicate (N - bs.length) 0).map byteD) off (code.map byteD) = ((layB bs off code) ++ List.replicate (N - (layB bs off code).length) 0).map byteD := by
 have hlen : (layB bs off code).length = off + code.length := by unfold layB; simp; omega
 rw [hlen]
 unfold spliceD layB
 rw [List.length_map, ← List.map_take, ← List.map_drop, ← List.map_append, ← List.map_append]
 congr 1
 have e1 : (bs ++ List.replicate (N - bs.length) 0).take off = bs ++ List.replicate (off - bs.length) 0 := by
  rw [List.take_append, List.take_of_length_le h1, List.take_replicate]
  congr 2; omega
 have e2 : (bs ++ List.replicate (N - bs.length) (0 : UInt8)).drop (off + code.length) = List.replicate (N - (off + code.length)) 0 := by
  rw [List.drop_append, List.drop_of_length_le (by omega), List.drop_replicate, List.nil_append]
  congr 1; omega
 rw [e1, e2]
theorem layB_len {bs code : List UInt8} {off : Nat} (h1 : bs.length ≤ off) : (layB bs off code).length = off + code.length := by unfold layB; simp; omega
end Go.Proofs.YthmdddenbfbefaaGreatDoor
namespace Go.Proofs.YthmdddenbfbefaaGreatDoor
open Go Go.Plat
set_option linter.unusedVariables false
set_option linter.unusedSimpArgs false
set_option maxRecDepth 100000
set_option maxHeartbeats 2000000
attribute [local irreducible] AWP Arith BitS BytesS CallS CatS DrawS EndS IdxS LookS LoopEnd Meets ModeS NilS NormL NormM QuoS RemS ShlS ShrS SideS SplitS addS basesE bitI digitB endE findS fix fixR kindB lay letterB nameB okC putN signedI upI wrongO
structure InL (l : List OObj) (base : Int) : Prop where
 base0 : -9223372036854775808 ≤ base
 base1 : base ≤ 9223372036854775807
 len : l.length ≤ 1048576
 rel : ∀ o ∈ l, ∀ r ∈ o.rels, -9223372036854775808 ≤ r.at_ ∧ r.at_ ≤ 9223372036854775807 ∧ r.name.length ≤ 1000000000
 sym : ∀ o ∈ l, ∀ s ∈ o.syms, s.name.length ≤ 1000000000
theorem no_out {e a : Int} {x : OImg × Int × Int} (h : x = (noImg, e, a)) : LeD (.tup [.agg [.int .i64 0, .nilsl, .nilsl], .agg [.int .i64 e, .int .i64 a]]) (outD x) := by
 subst h
 exact .tup (.cons (.agg (.cons (.refl _) (.cons (.nil 1) (.cons (.nil 2) .nil)))) (.cons (.refl _) .nil))
theorem link_meets : Meets Tryz.prog n_link_Link (SpecP (fun ((l, base) : List OObj × Int) => InL l base) (fun (l, base) => [.sl 3 (l.map objD) none, .int .i64 base]) fun (l, base) => outD (linkO l base)) := by
 refine meets_f tabOk Tryz.func52 rfl (by decide) ?_
 rintro ⟨l, base⟩ hin
 have hb0 := hin.base0
 have hb1 := hin.base1
 have hll := hin.len
 refine ⟨Nat.le_refl _, by simp [Tryz.f52], fun E hE => ?_⟩
 refine vcOk _ ?_
 (all_goals refine qgo ?_ <;> (repeat' first | exact trivial | intro hc | refine And.intro ?_ ?_) <;> refine Lf.mk ?_)
 ·exact end_p (VS.mk (no_out (by show linkO l base = _; unfold linkO; rw [if_pos (by omega)])))
 ·exact end_p (VS.mk (no_out (by show linkO l base = _; unfold linkO; rw [if_pos (by omega)])))
 ·exact end_p (VS.mk (no_out (by show linkO l base = _; unfold linkO; rw [if_pos (by omega)])))
 ·exact end_p (VS.mk (no_out (by show linkO l base = _; unfold linkO; rw [if_neg (by omega), if_pos (by omega)])))
 ·exact end_p (VS.mk (no_out (by show linkO l base = _; unfold linkO; rw [if_neg (by omega), if_pos (by omega)])))
 have hlo : linkO l base = linkR l base := by unfold linkO; rw [if_neg (by omega), if_neg (by omega)]
 have hl4 : l.length ≤ 4 := by omega
 refine awp_loop (α := Nat) (fun k => k ≤ l.length ∧ firstW l 0 = firstW (l.drop k) k)
  (fun k => [(48, .sl 3 (l.map objD) none), (49, .int .i64 l.length), (50, .int .i64 k), (0, .sl 3 (l.map objD) none), (1, .int .i64 base), (4, .loc 0 0), (5, .loc 1 0)])
  (fun _ => [.cells [.int .i64 0, .nilsl, .nilsl], .cells [.int .i64 0, .int .i64 0]]) (fun k => l.length - k) (fun _ => by simp [hE]) 0 ⟨Nat.zero_le _, by simp⟩ ?_ ?_
 ·(repeat' (first | (refine VS.mk ?_) | exact trivial | exact rfl | refine And.intro ?_ ?_))
 rintro k ⟨hk, hf⟩
 refine vcOk _ ?_
 (all_goals refine qgo ?_ <;> (repeat' first | exact trivial | intro hc | refine And.intro ?_ ?_) <;> refine Lf.mk ?_)
 ·obtain ⟨o, hok⟩ := at_of_lt (l := l) (k := k) (by omega)
  rw [ldrop_cons hok, firstW] at hf
  have hom := List.mem_of_getElem? hok
  refine ix_map o (by omega) (by simpa using hok) ?_
  (all_goals refine qgo (Lf.mk ?_))
  refine call_p owrong_meets o ⟨hin.rel o hom, hin.sym o hom⟩ (VS.mk (by (first | exact LeL.refl _ | (repeat' (first | exact LeL.nil | exact LeD.refl _ | exact LeD.nil _ | exact LeD.strip _ _ _ | refine LeL.cons ?_ ?_ | refine LeD.tup ?_ | refine LeD.agg ?_))))) ?_
  (all_goals refine qgo ?_ <;> (repeat' first | exact trivial | intro hc | refine And.intro ?_ ?_) <;> refine Lf.mk ?_)
  ·rw [if_neg hc] at hf
   exact end_p (VS.mk (no_out (by show linkO l base = _; rw [hlo]; unfold linkR; rw [hf])))
  ·rw [if_pos hc] at hf
   refine loop_end (k + 1) ⟨by omega, hf⟩ (by omega) ?_
   (repeat' (first | (refine VS.mk ?_) | exact trivial | exact rfl | refine And.intro ?_ ?_))
 rw [List.drop_of_length_le (by omega), firstW] at hf
 have hlr : linkR l base = match lay base l base 0 [] [] with
  | .inl i => (noImg, 7, i)
  | .inr (bs, ss) => match fix base ss l base 0 bs with
   | .inl (e, i) => (noImg, e, i)
   | .inr bs' => (⟨base, bs', ss⟩, 0, 0) := by unfold linkR; rw [hf]; try rfl
 have hok := firstW_ok hf
 have hcode : ∀ o ∈ l, o.code.length ≤ 8000 := fun o ho => (wrong_ok (hok o ho)).code
 clear hf
 refine call_p lbases_meets (l, base) ⟨by omega, by omega, by omega, fun o ho => by have := hcode o ho; omega⟩ (VS.mk (LeL.of_eq rfl)) ?_
 have he0 := endE_ge l base
 have he1 := endE_le l base hcode
 (all_goals refine qgs (Lf.mk ?_))
 refine md_r ?_
 (all_goals refine qgo (Lf.mk ?_))
 generalize hN : (endE l base - base).toNat = N at *
 have hNe : endE l base - base = (N : Nat) := by omega
 have hN1 : N ≤ 32012 := by omega
 have hR : (List.replicate N (D.int .u8 0)).length = N := List.length_replicate
 refine awp_weak (weak_cellnil' 3 2 [.int .i64 base, .osl 1 2 (List.replicate N (D.int .u8 0)).length 0 (List.replicate N (D.int .u8 0)).length, .sl 2 [] (some 4)] rfl ⟨.same, .same, .here, trivial⟩) ?_
 generalize hLAY : lay base l base 0 [] [] = LAY at *
 refine awp_loop (α := Nat × Int × List UInt8 × List OSym) (fun p => p.1 ≤ l.length ∧ lay base (l.drop p.1) p.2.1 p.1 p.2.2.1 p.2.2.2 = LAY ∧ (basesE l base).drop p.1 = basesE (l.drop p.1) p.2.1 ∧ endE (l.drop p.1) p.2.1 = endE l base ∧
   (p.2.2.1.length : Int) = p.2.1 - base ∧ p.2.1 ≤ base + p.1 * 8003 ∧ p.2.2.2.length ≤ p.1 * 255 ∧ ∀ s ∈ p.2.2.2, 0 ≤ s.at_ ∧ s.at_ ≤ 100000000)
  (fun p => [(76, .sl 3 (l.map objD) none), (77, .int .i64 l.length), (78, .int .i64 p.1), (0, .sl 3 (l.map objD) none), (1, .int .i64 base), (4, .loc 0 0), (5, .loc 1 0), (9, lintsD (basesE l base)), (11, .loc 3 0)])
  (fun p => [.cells [.int .i64 0, .nilsl, .nilsl], .cells [.int .i64 0, .int .i64 0], .arr 1 ((p.2.2.1 ++ List.replicate (N - p.2.2.1.length) 0).map byteD), .cells [.int .i64 base, .osl 1 2 N 0 N, .sl 2 (p.2.2.2.map symD) (some 4)], .spare p.2.2.2.length])
  (fun p => l.length - p.1) (fun _ => by simp [hE]) (0, base, [], []) ⟨Nat.zero_le _, by simpa using hLAY, by simp, by simp, by simp, by dsimp only; omega, by simp, by simp⟩ ?_ ?_
 ·(repeat' (first | (refine VS.mk ?_) | exact trivial | exact rfl | refine And.intro ?_ ?_))
  refine rens_bytes (List.replicate N 0) (by rw [List.map_replicate]; rfl) ?_
  (repeat' (first | (refine VS.mk ?_) | exact trivial | exact rfl | refine And.intro ?_ ?_))
  simp [bytesD]
 rintro ⟨k, n, bs, ss⟩ ⟨hk, hlay, hbas, hend, hbl, hn, hsl, hss⟩
 dsimp only at hk hlay hbas hend hbl hn hsl hss ⊢
 refine vcOk _ ?_
 (all_goals refine qgo ?_ <;> (repeat' first | exact trivial | intro hc | refine And.intro ?_ ?_) <;> refine Lf.mk ?_)
 ·obtain ⟨o, hok1⟩ := at_of_lt (l := l) (k := k) (by omega)
  have hom := List.mem_of_getElem? hok1
  have hob := wrong_ok (hok o hom)
  have hoc := hob.code
  have hup := upI_bd n
  rw [ldrop_cons hok1, lay_cons] at hlay
  rw [ldrop_cons hok1, bases_cons] at hbas
  rw [ldrop_cons hok1, ends_cons] at hend
  have hge := endE_ge (l.drop (k + 1)) (upI n + o.code.length)
  have hbk : (basesE l base)[k]? = some (upI n) := get_of_drop hbas
  refine ix_map o (by omega) (by simpa using hok1) ?_
  (all_goals refine qgk (Lf.mk ?_))
  refine ix_map (upI n) (by omega) (by simpa using hbk) ?_
  (all_goals refine qgk (Lf.mk ?_))
  have ho1 : bs.length ≤ (upI n - base).toNat := by omega
  have ho2 : (upI n - base).toNat + o.code.length ≤ N := by omega
  have hll2 := layB_len (code := o.code) ho1
  refine norm_eq (((layB bs (upI n - base).toNat o.code) ++ List.replicate (N - (layB bs (upI n - base).toNat o.code).length) 0).map byteD) (by rw [Nat.zero_add]; exact lay_zeros ho1 ho2) ?_
  generalize hB : layB bs (upI n - base).toNat o.code = B at *
  (all_goals refine qgo (Lf.mk ?_))
  generalize hADD : addS (upI n) o.syms ss = ADD at *
  have hos := hob.syms
  refine awp_loop (α := Nat × List OSym) (fun p => p.1 ≤ o.syms.length ∧ addS (upI n) (o.syms.drop p.1) p.2 = ADD ∧ p.2.length ≤ k * 255 + p.1 ∧ ∀ s ∈ p.2, 0 ≤ s.at_ ∧ s.at_ ≤ 100000000)
   (fun p => [(96, .sl 2 (o.syms.map symD) none), (97, .int .i64 o.syms.length), (98, .int .i64 p.1), (76, .sl 3 (l.map objD) none), (77, .int .i64 l.length), (78, .int .i64 k), (0, .sl 3 (l.map objD) none), (1, .int .i64 base), (4, .loc 0 0), (5, .loc 1 0), (9, lintsD (basesE l base)), (11, .loc 3 0), (12, .int .i64 k)])
   (fun p => [.cells [.int .i64 0, .nilsl, .nilsl], .cells [.int .i64 0, .int .i64 0], .arr 1 ((B ++ List.replicate (N - B.length) 0).map byteD), .cells [.int .i64 base, .osl 1 2 N 0 N, .sl 2 (p.2.map symD) (some 4)], .spare p.2.length])
   (fun p => o.syms.length - p.1) (fun _ => by simp [hE]) (0, ss) ⟨Nat.zero_le _, by simpa using hADD, hsl, hss⟩ ?_ ?_
  ·(repeat' (first | (refine VS.mk ?_) | exact trivial | exact rfl | refine And.intro ?_ ?_))
   refine rens_bytes (B ++ List.replicate (N - B.length) 0) rfl ?_
   (repeat' (first | (refine VS.mk ?_) | exact trivial | exact rfl | refine And.intro ?_ ?_))
  rintro ⟨j, acc⟩ ⟨hj, hadd, hal, has⟩
  dsimp only at hj hadd hal has ⊢
  refine vcOk _ ?_
  (all_goals refine qgo ?_ <;> (repeat' first | exact trivial | intro hc | refine And.intro ?_ ?_) <;> refine Lf.mk ?_)
  ·obtain ⟨s, hsj⟩ := at_of_lt (l := o.syms) (k := j) (by omega)
   have hsm := List.mem_of_getElem? hsj
   obtain ⟨_, hs0, hs1⟩ := hob.sym s hsm
   rw [ldrop_cons hsj, addS_cons] at hadd
   refine ix_map s (by omega) (by simpa using hsj) ?_
   (all_goals refine qgo (Lf.mk ?_))
   refine call_p lfind_meets (acc, s.name) (by dsimp only; omega) (VS.mk (by (first | exact LeL.refl _ | (repeat' (first | exact LeL.nil | exact LeD.refl _ | exact LeD.nil _ | exact LeD.strip _ _ _ | refine LeL.cons ?_ ?_ | refine LeD.tup ?_ | refine LeD.agg ?_))))) ?_
   (all_goals refine qgo ?_ <;> (repeat' first | exact trivial | intro hc | refine And.intro ?_ ?_) <;> refine Lf.mk ?_)
   ·rw [if_pos hc] at hadd
    subst hadd
    exact end_p (VS.mk (no_out (by show linkO l base = _; rw [hlo, hlr, ← hlay])))
   ·rw [if_neg (by rw [hc]; decide)] at hadd
    refine ix_map (upI n) (by omega) (by simpa using hbk) ?_
    (all_goals refine qgo (Lf.mk ?_))
    have has2 : ∀ t ∈ acc ++ [(⟨s.name, upI n + s.at_⟩ : OSym)], 0 ≤ t.at_ ∧ t.at_ ≤ 100000000 := fun t ht => by
     rcases List.mem_append.1 ht with h1 | h1
     ·exact has t h1
     ·rw [List.mem_singleton.1 h1]
      exact ⟨by show 0 ≤ upI n + s.at_; omega, by show upI n + s.at_ ≤ _; omega⟩
    refine loop_end (j + 1, acc ++ [⟨s.name, upI n + s.at_⟩]) ⟨by (dsimp only; omega), hadd, by (dsimp only; rw [List.length_append]; show _ + 1 ≤ _; omega), has2⟩ (by dsimp only; omega) ?_
    (repeat' (first | (refine VS.mk ?_) | exact trivial | exact rfl | refine And.intro ?_ ?_))
    ·refine rens_bytes (B ++ List.replicate (N - B.length) 0) rfl ?_
     (repeat' (first | (refine VS.mk ?_) | exact trivial | exact rfl | refine And.intro ?_ ?_))
     simp [symD, bytesD]
  ·have hje : j = o.syms.length := by omega
   rw [List.drop_of_length_le (by omega), addS_nil] at hadd
   subst hadd
   refine loop_end (k + 1, upI n + o.code.length, B, acc) ⟨by (dsimp only; omega), hlay, drop_succ hbas, hend, by (dsimp only; omega), by (dsimp only; omega), by (dsimp only; omega), has⟩ (by dsimp only; omega) ?_
   (repeat' (first | (refine VS.mk ?_) | exact trivial | exact rfl | refine And.intro ?_ ?_))
   refine rens_bytes (B ++ List.replicate (N - B.length) 0) rfl ?_
   (repeat' (first | (refine VS.mk ?_) | exact trivial | exact rfl | refine And.intro ?_ ?_))
 have hke : k = l.length := by omega
 rw [List.drop_of_length_le (by omega), lay_nil] at hlay
 rw [List.drop_of_length_le (by omega), ends_nil] at hend
 subst hlay
 have hbN : bs.length = N := by omega
 have hlr2 : linkR l base = match fix base ss l base 0 bs with
   | .inl (e, i) => (noImg, e, i)
   | .inr bs' => (⟨base, bs', ss⟩, 0, 0) := hlr
 refine awp_weak (weak_freezecell (k := 2) 3 bs [.int .i64 base, .sl 1 (bs.map byteD) (some 5), .sl 2 (ss.map symD) (some 4)] rfl (by rw [show N - bs.length = 0 by omega]; simp) rfl
  ⟨.keep _, .here N N (by simp [hbN]) (by simp [hbN]), .keep _, trivial⟩) ?_
 refine awp_weak (weak_cell 3 [.int .i64 base, .sl 1 (bs.map byteD) none, .sl 2 (ss.map symD) (some 4)] rfl (.cons (.refl _) (.cons (.strip _ _ _) (.cons (.refl _) .nil)))) ?_
 have hss4 : ss.length ≤ 1020 := by omega
 clear hlr hend hn hsl hbas hbl
 generalize hFIX : fix base ss l base 0 bs = FIX at *
 refine awp_loop (α := Nat × Int × List UInt8) (fun p => p.1 ≤ l.length ∧ fix base ss (l.drop p.1) p.2.1 p.1 p.2.2 = FIX ∧ (basesE l base).drop p.1 = basesE (l.drop p.1) p.2.1 ∧ base ≤ p.2.1 ∧ p.2.1 ≤ base + p.1 * 8003 ∧ p.2.2.length = N)
  (fun p => [(131, .sl 3 (l.map objD) none), (132, .int .i64 l.length), (133, .int .i64 p.1), (1, .int .i64 base), (4, .loc 0 0), (5, .loc 1 0), (9, lintsD (basesE l base)), (11, .loc 3 0)])
  (fun p => [.cells [.int .i64 0, .nilsl, .nilsl], .cells [.int .i64 0, .int .i64 0], .dead, .cells [.int .i64 base, .sl 1 (p.2.2.map byteD) none, .sl 2 (ss.map symD) (some 4)], .spare ss.length])
  (fun p => l.length - p.1) (fun _ => by simp [hE]) (0, base, bs) ⟨Nat.zero_le _, by simpa using hFIX, by simp, by simp, by dsimp only; omega, hbN⟩ ?_ ?_
 ·(repeat' (first | (refine VS.mk ?_) | exact trivial | exact rfl | refine And.intro ?_ ?_))
 rintro ⟨k, n, bs⟩ ⟨hk, hfix, hbas, hn0, hn, hbl⟩
 dsimp only at hk hfix hbas hn0 hn hbl ⊢
 refine vcOk _ ?_
 (all_goals refine qgo ?_ <;> (repeat' first | exact trivial | intro hc | refine And.intro ?_ ?_) <;> refine Lf.mk ?_)
 ·obtain ⟨o, hok1⟩ := at_of_lt (l := l) (k := k) (by omega)
  have hom := List.mem_of_getElem? hok1
  have hob := wrong_ok (hok o hom)
  have hoc := hob.code
  have hup := upI_bd n
  rw [ldrop_cons hok1, fix_cons] at hfix
  rw [ldrop_cons hok1, bases_cons] at hbas
  have hbk : (basesE l base)[k]? = some (upI n) := get_of_drop hbas
  have hor := hob.rels
  refine ix_map o (by omega) (by simpa using hok1) ?_
  (all_goals refine qgo (Lf.mk ?_))
  generalize hFX : fixR base (upI n) ss o.rels bs = FX at *
  refine awp_loop (α := Nat × List UInt8) (fun p => p.1 ≤ o.rels.length ∧ fixR base (upI n) ss (o.rels.drop p.1) p.2 = FX ∧ p.2.length = N)
   (fun p => [(139, .sl 4 (o.rels.map relD) none), (140, .int .i64 o.rels.length), (141, .int .i64 p.1), (131, .sl 3 (l.map objD) none), (132, .int .i64 l.length), (133, .int .i64 k), (1, .int .i64 base), (4, .loc 0 0), (5, .loc 1 0), (9, lintsD (basesE l base)), (11, .loc 3 0), (18, .int .i64 k)])
   (fun p => [.cells [.int .i64 0, .nilsl, .nilsl], .cells [.int .i64 0, .int .i64 0], .dead, .cells [.int .i64 base, .sl 1 (p.2.map byteD) none, .sl 2 (ss.map symD) (some 4)], .spare ss.length])
   (fun p => o.rels.length - p.1) (fun _ => by simp [hE]) (0, bs) ⟨Nat.zero_le _, by simpa using hFX, hbl⟩ ?_ ?_
  ·(repeat' (first | (refine VS.mk ?_) | exact trivial | exact rfl | refine And.intro ?_ ?_))
  rintro ⟨j, cs⟩ ⟨hj, hfx, hcl⟩
  dsimp only at hj hfx hcl ⊢
  refine vcOk _ ?_
  (all_goals refine qgo ?_ <;> (repeat' first | exact trivial | intro hc | refine And.intro ?_ ?_) <;> refine Lf.mk ?_)
  ·obtain ⟨r, hrj⟩ := at_of_lt (l := o.rels) (k := j) (by omega)
   have hro := hob.rel r (List.mem_of_getElem? hrj)
   have hrn := hro.len
   have hrs := hro.size
   have hr0 := hro.at0
   have hr1 := hro.at1
   have hra := signed_bd r.add
   rw [hro.add] at hra
   rw [ldrop_cons hrj, fixR_cons] at hfx
   refine ix_map r (by omega) (by simpa using hrj) ?_
   (all_goals refine qgo (Lf.mk ?_))
   refine ix_map (upI n) (by omega) (by simpa using hbk) ?_
   (all_goals refine qgo ?_ <;> (repeat' first | exact trivial | intro hc | refine And.intro ?_ ?_) <;> refine Lf.mk ?_)
   ·refine call_p lfind_meets (ss, r.name) (by dsimp only; omega) (VS.mk (by (first | exact LeL.refl _ | (repeat' (first | exact LeL.nil | exact LeD.refl _ | exact LeD.nil _ | exact LeD.strip _ _ _ | refine LeL.cons ?_ ?_ | refine LeD.tup ?_ | refine LeD.agg ?_))))) ?_
    dsimp only
    have hp0 : placeR (upI n) ss r = findS r.name ss := by unfold placeR; rw [if_neg hc]
    rcases hfs : findS r.name ss with _ | a
    ·rw [hfs] at hp0
     rw [hp0] at hfx
     subst hfx
     (all_goals refine qgo ?_ <;> (repeat' first | exact trivial | intro hc | refine And.intro ?_ ?_) <;> refine Lf.mk ?_)
     ·exact end_p (VS.mk (no_out (by show linkO l base = _; rw [hlo, hlr2, ← hfix])))
     ·exact Bool.noConfusion hc
    ·obtain ⟨t, ht1, ht2⟩ := findS_mem hfs
     obtain ⟨hA0, hA1⟩ := hss t ht1
     rw [ht2] at hA0 hA1
     have hpl : placeR (upI n) ss r = some a := by rw [hp0, hfs]
     simp only [Option.getD_some, Option.isSome_some]
     (all_goals refine qgo ?_ <;> (repeat' first | exact trivial | intro hc | refine And.intro ?_ ?_) <;> refine Lf.mk ?_)
     (any_goals (first | (exfalso; refine hc ?_; simp; done) | (exfalso; exact Bool.noConfusion hc) | (exfalso; exact hc (by with_reducible rfl)) | (exfalso; exact hc rfl) | skip))
     refine call_p signed_meets2 (a + r.add) trivial (VS.mk (LeL.of_eq rfl)) ?_
     have hsb := signed_bd (a + r.add)
     generalize hv : signedI (a + r.add) 32 = v at *
     rw [hpl] at hfx
     dsimp only at hfx
     rw [hv] at hfx
     (all_goals refine qgo ?_ <;> (repeat' first | exact trivial | intro hc | refine And.intro ?_ ?_) <;> refine Lf.mk ?_)
     any_goals (first | (rw [if_pos ⟨by assumption, by omega⟩] at hfx; subst hfx; exact end_p (VS.mk (no_out (by show linkO l base = _; rw [hlo, hlr2, ← hfix])))) | skip)
     all_goals
      rw [if_neg (by omega)] at hfx
      have hsz : ((r.size.toNat : Nat) : Int) = r.size := Int.toNat_of_nonneg (by omega)
      refine ix_map (upI n) (by omega) (by simpa using hbk) ?_
      (all_goals refine qgo (Lf.mk ?_))
      refine call_f put_meets [] [6] (cs, upI n - base + r.at_, r.size.toNat, v) ⟨by omega, by omega, by omega, by omega⟩ rfl rfl ?_
      refine And.intro (VS.mk (LeL.of_eq (by dsimp only; rw [hsz]; rfl))) (And.intro (VS.mk rfl) ?_)
      (all_goals refine qgo (Lf.mk ?_))
      refine loop_end_weak (j + 1, putN cs (upI n - base + r.at_) r.size.toNat v) ⟨by (dsimp only; omega), hfx, by (dsimp only; rw [putN_length]; exact hcl)⟩ (by dsimp only; omega)
       (weak_cell 3 [.int .i64 base, .sl 1 ((putN cs (upI n - base + r.at_) r.size.toNat v).map byteD) none, .sl 2 (ss.map symD) (some 4)] rfl (.cons (.refl _) (.cons (.strip _ _ _) (.cons (.refl _) .nil)))) (by rw [hE]; exact Nat.zero_le _) ?_
      (repeat' (first | (refine VS.mk ?_) | exact trivial | exact rfl | refine And.intro ?_ ?_))
   ·have hpl : placeR (upI n) ss r = some (upI n) := by unfold placeR; rw [if_pos hc]
    have hA0 : 0 ≤ upI n := by omega
    have hA1 : upI n ≤ 100000000 := by omega
    refine call_p signed_meets2 (upI n + r.add) trivial (VS.mk (LeL.of_eq rfl)) ?_
    have hsb := signed_bd (upI n + r.add)
    generalize hv : signedI (upI n + r.add) 32 = v at *
    rw [hpl] at hfx
    dsimp only at hfx
    rw [hv] at hfx
    (all_goals refine qgo ?_ <;> (repeat' first | exact trivial | intro hc | refine And.intro ?_ ?_) <;> refine Lf.mk ?_)
    any_goals (first | (rw [if_pos ⟨by assumption, by omega⟩] at hfx; subst hfx; exact end_p (VS.mk (no_out (by show linkO l base = _; rw [hlo, hlr2, ← hfix])))) | skip)
    all_goals
     rw [if_neg (by omega)] at hfx
     have hsz : ((r.size.toNat : Nat) : Int) = r.size := Int.toNat_of_nonneg (by omega)
     refine ix_map (upI n) (by omega) (by simpa using hbk) ?_
     (all_goals refine qgo (Lf.mk ?_))
     refine call_f put_meets [] [6] (cs, upI n - base + r.at_, r.size.toNat, v) ⟨by omega, by omega, by omega, by omega⟩ rfl rfl ?_
     refine And.intro (VS.mk (LeL.of_eq (by dsimp only; rw [hsz]; rfl))) (And.intro (VS.mk rfl) ?_)
     (all_goals refine qgo (Lf.mk ?_))
     refine loop_end_weak (j + 1, putN cs (upI n - base + r.at_) r.size.toNat v) ⟨by (dsimp only; omega), hfx, by (dsimp only; rw [putN_length]; exact hcl)⟩ (by dsimp only; omega)
      (weak_cell 3 [.int .i64 base, .sl 1 ((putN cs (upI n - base + r.at_) r.size.toNat v).map byteD) none, .sl 2 (ss.map symD) (some 4)] rfl (.cons (.refl _) (.cons (.strip _ _ _) (.cons (.refl _) .nil)))) (by rw [hE]; exact Nat.zero_le _) ?_
     (repeat' (first | (refine VS.mk ?_) | exact trivial | exact rfl | refine And.intro ?_ ?_))
  ·rw [List.drop_of_length_le (by omega), fixR_nil] at hfx
   subst hfx
   refine loop_end (k + 1, upI n + o.code.length, cs) ⟨by (dsimp only; omega), hfix, drop_succ hbas, by (dsimp only; omega), by (dsimp only; omega), hcl⟩ (by dsimp only; omega) ?_
   (repeat' (first | (refine VS.mk ?_) | exact trivial | exact rfl | refine And.intro ?_ ?_))
 ·rw [List.drop_of_length_le (by omega), fix_nil] at hfix
  subst hfix
  have hout : linkO l base = (⟨base, bs, ss⟩, 0, 0) := by rw [hlo, hlr2]
  refine end_p (VS.mk ?_)
  show LeD _ (outD (linkO l base))
  rw [hout]
  exact .tup (.cons (.agg (.cons (.refl _) (.cons (.refl _) (.cons (.strip _ _ _) .nil)))) (.cons (.refl _) .nil))
end Go.Proofs.YthmdddenbfbefaaGreatDoor
namespace Go.Proofs.YthmdddenbfbefaaGreatDoor
open Go Go.Plat
set_option linter.unusedVariables false
set_option linter.unusedSimpArgs false
set_option maxRecDepth 100000
set_option maxHeartbeats 2000000
attribute [local irreducible] AWP Arith BitS BytesS CallS CatS DrawS EndS IdxS LookS LoopEnd Meets ModeS NilS NormL NormM QuoS RemS ShlS ShrS SideS SplitS bitI
attribute [local irreducible] decR infoR irows
end Go.Proofs.YthmdddenbfbefaaGreatDoor
namespace Go.Proofs.YthmdddenbfbefaaGreatDoor
open Go Go.Plat
set_option linter.unusedVariables false
set_option linter.unusedSimpArgs false
set_option maxRecDepth 100000
attribute [local irreducible] bitI decI getN infoR irows putN signedI
structure Mach where
 r : Nat → Int
 t : Bool
 pc : Int
 pr : Int
 img : OImg
 told : List Int
 steps : Int
def machC (m : Mach) : List D :=
 [.int .i64 (m.r 0), .int .i64 (m.r 1), .int .i64 (m.r 2), .int .i64 (m.r 3), .int .i64 (m.r 4), .int .i64 (m.r 5), .int .i64 (m.r 6), .int .i64 (m.r 7),
  .int .i64 (m.r 8), .int .i64 (m.r 9), .int .i64 (m.r 10), .int .i64 (m.r 11), .int .i64 (m.r 12), .int .i64 (m.r 13), .int .i64 (m.r 14), .int .i64 (m.r 15),
  .bool m.t, .int .i64 m.pc, .int .i64 m.pr, .int .i64 m.img.base, bytesD m.img.bytes, .sl 2 (m.img.syms.map symD) none, .sl 1 (m.told.map intD) none, .int .i64 m.steps]
def machD (m : Mach) : D := .agg (machC m)
def mach0 : Mach := ⟨fun _ => 0, false, 0, 0, noImg, [], 0⟩
def up (r : Nat → Int) (n v : Int) : Nat → Int := fun k => if (k : Int) = n then v else r k
theorem up_at (r : Nat → Int) (n v : Int) (h : 0 ≤ n) : up r n v n.toNat = v := by unfold up; rw [if_pos (by omega)]
theorem reg_ix {r : Nat → Int} {n : Int} {rest : List D} {K : D → Prop} (h0 : 0 ≤ n) (h1 : n < 16) (h : K (.int .i64 (r n.toNat))) :
  IdxS (.int .i64 (r 0) :: .int .i64 (r 1) :: .int .i64 (r 2) :: .int .i64 (r 3) :: .int .i64 (r 4) :: .int .i64 (r 5) :: .int .i64 (r 6) :: .int .i64 (r 7) :: .int .i64 (r 8) :: .int .i64 (r 9) :: .int .i64 (r 10) :: .int .i64 (r 11) :: .int .i64 (r 12) :: .int .i64 (r 13) :: .int .i64 (r 14) :: .int .i64 (r 15) :: rest) ((0 + n.toNat * 1 : Nat) : Int) K := by
 refine ⟨by omega, .int .i64 (r n.toNat), ?_, h⟩
 obtain ⟨k, rfl⟩ := Int.eq_ofNat_of_zero_le h0
 have hk : k < 16 := by omega
 simp only [Int.toNat_natCast, Nat.mul_one, Nat.zero_add]
 match k, hk with
 | 0, _ | 1, _ | 2, _ | 3, _ | 4, _ | 5, _ | 6, _ | 7, _ | 8, _ | 9, _ | 10, _ | 11, _ | 12, _ | 13, _ | 14, _ | 15, _ => rfl
theorem reg_set {r : Nat → Int} {n v : Int} {rest : List D} {K : List D → Nat → Prop} (h0 : 0 ≤ n) (h1 : n < 16) (h : K (.int .i64 ((up r n v) 0) :: .int .i64 ((up r n v) 1) :: .int .i64 ((up r n v) 2) :: .int .i64 ((up r n v) 3) :: .int .i64 ((up r n v) 4) :: .int .i64 ((up r n v) 5) :: .int .i64 ((up r n v) 6) :: .int .i64 ((up r n v) 7) :: .int .i64 ((up r n v) 8) :: .int .i64 ((up r n v) 9) :: .int .i64 ((up r n v) 10) :: .int .i64 ((up r n v) 11) :: .int .i64 ((up r n v) 12) :: .int .i64 ((up r n v) 13) :: .int .i64 ((up r n v) 14) :: .int .i64 ((up r n v) 15) :: rest) (16 + rest.length)) :
  NormL (List.set (.int .i64 (r 0) :: .int .i64 (r 1) :: .int .i64 (r 2) :: .int .i64 (r 3) :: .int .i64 (r 4) :: .int .i64 (r 5) :: .int .i64 (r 6) :: .int .i64 (r 7) :: .int .i64 (r 8) :: .int .i64 (r 9) :: .int .i64 (r 10) :: .int .i64 (r 11) :: .int .i64 (r 12) :: .int .i64 (r 13) :: .int .i64 (r 14) :: .int .i64 (r 15) :: rest) (0 + n.toNat * 1) (.int .i64 v)) K := by
 unfold NormL
 have e : List.set (.int .i64 (r 0) :: .int .i64 (r 1) :: .int .i64 (r 2) :: .int .i64 (r 3) :: .int .i64 (r 4) :: .int .i64 (r 5) :: .int .i64 (r 6) :: .int .i64 (r 7) :: .int .i64 (r 8) :: .int .i64 (r 9) :: .int .i64 (r 10) :: .int .i64 (r 11) :: .int .i64 (r 12) :: .int .i64 (r 13) :: .int .i64 (r 14) :: .int .i64 (r 15) :: rest) (0 + n.toNat * 1) (.int .i64 v) = (.int .i64 ((up r n v) 0) :: .int .i64 ((up r n v) 1) :: .int .i64 ((up r n v) 2) :: .int .i64 ((up r n v) 3) :: .int .i64 ((up r n v) 4) :: .int .i64 ((up r n v) 5) :: .int .i64 ((up r n v) 6) :: .int .i64 ((up r n v) 7) :: .int .i64 ((up r n v) 8) :: .int .i64 ((up r n v) 9) :: .int .i64 ((up r n v) 10) :: .int .i64 ((up r n v) 11) :: .int .i64 ((up r n v) 12) :: .int .i64 ((up r n v) 13) :: .int .i64 ((up r n v) 14) :: .int .i64 ((up r n v) 15) :: rest) := by
  obtain ⟨k, rfl⟩ := Int.eq_ofNat_of_zero_le h0
  have hk : k < 16 := by omega
  simp only [Int.toNat_natCast, Nat.mul_one, Nat.zero_add]
  match k, hk with
  | 0, _ | 1, _ | 2, _ | 3, _ | 4, _ | 5, _ | 6, _ | 7, _ | 8, _ | 9, _ | 10, _ | 11, _ | 12, _ | 13, _ | 14, _ | 15, _ => rfl
 rw [e]
 refine cast ?_ h
 congr 1
 simp only [List.length_cons]
 omega
theorem sd_reg {n : Int} {l : List D} {K : Prop} (h0 : 0 ≤ n) (h1 : n < 16) (hl : Nat.ble 16 l.length = true) (h : K) : SideS (0 + n.toNat * 1 < l.length) K :=
 ⟨by have := Nat.le_of_ble_eq_true hl; omega, h⟩
def inM (m : Mach) (at_ size : Int) : Bool := decide (m.img.base ≤ at_ ∧ at_ % size = 0 ∧ at_ - m.img.base ≤ m.img.bytes.length - size)
def fetchM (m : Mach) (at_ : Int) : Ins × Int := if inM m at_ 2 = true then decI (getN m.img.bytes (at_ - m.img.base) 2) else (ins0, 6)
def leadsM (op : Int) : Bool := decide (op = 2 ∨ (17 ≤ op ∧ op ≤ 22))
def shapeM (op : Int) : Int := match infoR op with | some r => r.shape | none => 0
def toM (i : Ins) (at_ : Int) : Int := if shapeM i.op = 4 ∨ shapeM i.op = 5 ∨ shapeM i.op = 7 then at_ + 4 + 2 * i.imm else if shapeM i.op = 8 then (at_ + 4) - (at_ + 4) % 4 + 4 * i.imm else 0
def and32M (a b : Int) : Int := bitI .and .i32 a b
def or32M (a b : Int) : Int := bitI .or .i32 a b
def xor32M (a b : Int) : Int := bitI .xor .i32 a b
def setM (m : Mach) (n v : Int) : Mach := { m with r := up m.r n v }
def setT (m : Mach) (t : Bool) : Mach := { m with t := t }
def loadM (m : Mach) (i : Ins) (at_ : Int) : Mach × Int :=
 if inM m (if i.op = 26 then m.r i.m.toNat else toM i at_) (if i.op = 23 then 2 else 4) = true then
  (setM m i.n (if i.op = 23 then signedI (signedI (getN m.img.bytes (toM i at_ - m.img.base) 2) 16) 32 else signedI (getN m.img.bytes ((if i.op = 26 then m.r i.m.toNat else toM i at_) - m.img.base) 4) 32), 0)
 else (m, 3)
def putM (m : Mach) (i : Ins) : Mach × Int :=
 if inM m (m.r i.n.toNat) 4 = true then ({ m with img := { m.img with bytes := putN m.img.bytes (m.r i.n.toNat - m.img.base) 4 (m.r i.m.toNat) } }, 0) else (m, 3)
def sumM (m : Mach) (i : Ins) : Mach :=
 let n := m.r i.n.toNat
 let v := m.r i.m.toNat
 if i.op = 5 then setM m i.n v
 else if i.op = 6 then setM m i.n (signedI (n + v) 32)
 else if i.op = 7 then setM m i.n (signedI (n - v) 32)
 else if i.op = 8 then setM m i.n (and32M n v)
 else if i.op = 9 then setM m i.n (or32M n v)
 else if i.op = 10 then setM m i.n (xor32M n v)
 else if i.op = 11 then setT m (decide (and32M n v = 0))
 else if i.op = 12 then setT m (decide (n = v))
 else if i.op = 13 then setT m (decide (n > v))
 else m
def plainM (m : Mach) (i : Ins) (at_ : Int) : Mach × Int :=
 let n := m.r i.n.toNat
 if i.op = 3 then (setM m i.n i.imm, 0)
 else if i.op = 4 then (setM m i.n (signedI (n + i.imm) 32), 0)
 else if i.op = 14 then (setT (setM m i.n (signedI (n * 2) 32)) (decide (n < 0)), 0)
 else if i.op = 15 then (setT (setM m i.n (n % 4294967296 / 2)) (decide (n % 2 = 1)), 0)
 else if i.op = 16 then (setT (setM m i.n (signedI (n - 1) 32)) (decide (signedI (n - 1) 32 = 0)), 0)
 else if i.op = 23 ∨ i.op = 24 ∨ i.op = 26 then loadM m i at_
 else if i.op = 25 then putM m i
 else if i.op = 27 then ({ m with told := m.told ++ [m.r 0] }, 0)
 else (sumM m i, 0)
def leapM (m : Mach) (i : Ins) : Mach × Int × Bool :=
 if i.op = 17 then (m, if m.t = true then toM i m.pc else m.pc + 2, false)
 else if i.op = 18 then (m, if m.t = true then m.pc + 2 else toM i m.pc, false)
 else if i.op = 2 then (m, m.pr, true)
 else if i.op = 21 then (m, m.r i.n.toNat, true)
 else if i.op = 22 then ({ m with pr := m.pc + 4 }, m.r i.n.toNat, true)
 else if i.op = 20 then ({ m with pr := m.pc + 4 }, toM i m.pc, true)
 else (m, toM i m.pc, true)
def lateM (m : Mach) (to : Int) : Mach × Bool × Int :=
 let j := fetchM m (m.pc + 2)
 if j.2 ≠ 0 then (mach0, false, j.2)
 else if leadsM j.1.op = true ∨ j.1.op = 27 then (mach0, false, 8)
 else let x := plainM m j.1 (m.pc + 2)
  if x.2 ≠ 0 then (mach0, false, x.2) else ({ x.1 with pc := to }, false, 0)
def stepM (m : Mach) : Mach × Bool × Int :=
 let i := fetchM m m.pc
 if i.2 ≠ 0 then (mach0, false, i.2)
 else
  let m1 : Mach := { m with steps := m.steps + 1 }
  if i.1.op = 27 ∧ i.1.imm = 0 then (m1, true, 0)
  else if leadsM i.1.op = false then
   let x := plainM m1 i.1 m.pc
   if x.2 ≠ 0 then (mach0, false, x.2) else ({ x.1 with pc := x.1.pc + 2 }, false, 0)
  else
   let l := leapM m1 i.1
   if l.2.2 = true then lateM l.1 l.2.1 else ({ l.1 with pc := l.2.1 }, false, 0)
def runM : Nat → Mach → Mach × Int
 | 0, _ => (mach0, 13)
 | n + 1, m => let s := stepM m
  if s.2.2 ≠ 0 then (mach0, s.2.2) else if s.2.1 = true then (s.1, 0) else runM n s.1
structure InM (k : Nat) (m : Mach) : Prop where
 regs : ∀ j, j < 16 → -2147483648 ≤ m.r j ∧ m.r j ≤ 2147483647
 pc : -5000000000 - 100000 * (k : Int) ≤ m.pc ∧ m.pc ≤ 5000000000 + 100000 * (k : Int)
 pr : -5000000000 - 100000 * (k : Int) ≤ m.pr ∧ m.pr ≤ 5000000000 + 100000 * (k : Int)
 base : 0 ≤ m.img.base ∧ m.img.base ≤ 1048576
 len : m.img.bytes.length ≤ 1048576
 syms : m.img.syms.length ≤ 1048576
 told : m.told.length ≤ 1048576 + k
 steps : 0 ≤ m.steps ∧ m.steps ≤ 1000000 + k
theorem InM.mono {k j : Nat} {m : Mach} (h : InM k m) (hk : k ≤ j) : InM j m :=
 ⟨h.regs, by have := h.pc; omega, by have := h.pr; omega, h.base, h.len, h.syms, by have := h.told; omega, by have := h.steps; omega⟩
structure InI (i : Ins) : Prop where
 n : 0 ≤ i.n ∧ i.n < 16
 m : 0 ≤ i.m ∧ i.m < 16
 imm : -4096 ≤ i.imm ∧ i.imm ≤ 4096
end Go.Proofs.YthmdddenbfbefaaGreatDoor
namespace Go.Proofs.YthmdddenbfbefaaGreatDoor
open Go Go.Plat
set_option linter.unusedVariables false
set_option linter.unusedSimpArgs false
set_option maxRecDepth 100000
theorem wrap32 (n : Int) : IntKind.i32.wrap n = signedI n 32 := by
 have : signedI n 32 = if n % 4294967296 / 2147483648 = 1 then n % 4294967296 - 4294967296 else n % 4294967296 := rfl
 rw [this]
 have e : IntKind.i32.wrap n = if n % 4294967296 ≥ 2147483648 then n % 4294967296 - 4294967296 else n % 4294967296 := by
  simp only [IntKind.wrap, IntKind.signed, IntKind.bits, show (2 : Int) ^ 32 = 4294967296 from rfl, show (2 : Int) ^ (32 - 1) = 2147483648 from rfl, Bool.true_and, decide_eq_true_eq]
 rw [e]
 split <;> split <;> omega
theorem wrapu32 (n : Int) : IntKind.u32.wrap n = n % 4294967296 := by simp [IntKind.wrap, IntKind.signed, IntKind.bits]
theorem wrapu16 (n : Int) : IntKind.u16.wrap n = n % 65536 := by simp [IntKind.wrap, IntKind.signed, IntKind.bits]
theorem wrap16 (n : Int) : IntKind.i16.wrap n = signedI n 16 := by
 have : signedI n 16 = if n % 65536 / 32768 = 1 then n % 65536 - 65536 else n % 65536 := rfl
 rw [this]
 have e : IntKind.i16.wrap n = if n % 65536 ≥ 32768 then n % 65536 - 65536 else n % 65536 := by
  simp only [IntKind.wrap, IntKind.signed, IntKind.bits, show (2 : Int) ^ 16 = 65536 from rfl, show (2 : Int) ^ (16 - 1) = 32768 from rfl, Bool.true_and, decide_eq_true_eq]
 rw [e]
 split <;> split <;> omega
theorem av_i32 {n : Int} {K : D → Prop} (h : K (.int .i32 (signedI n 32))) : Arith .i32 n K := by unfold Arith; rw [wrap32]; exact h
theorem av_u32 {n : Int} {K : D → Prop} (h : K (.int .u32 (n % 4294967296))) : Arith .u32 n K := by unfold Arith; rw [wrapu32]; exact h
theorem av_u16 {n : Int} {K : D → Prop} (h : K (.int .u16 (n % 65536))) : Arith .u16 n K := by unfold Arith; rw [wrapu16]; exact h
theorem av_i16 {n : Int} {K : D → Prop} (h : K (.int .i16 (signedI n 16))) : Arith .i16 n K := by unfold Arith; rw [wrap16]; exact h
theorem sg_bd (n : Int) : -2147483648 ≤ signedI n 32 ∧ signedI n 32 ≤ 2147483647 := by
 have : signedI n 32 = if n % 4294967296 / 2147483648 = 1 then n % 4294967296 - 4294967296 else n % 4294967296 := rfl
 rw [this]
 split <;> omega
theorem sg16 {n : Int} (h1 : 0 ≤ n) (h2 : n ≤ 65535) : signedI n 16 = if n > 32767 then n - 65536 else n := by
 have : signedI n 16 = if n % 65536 / 32768 = 1 then n % 65536 - 65536 else n % 65536 := rfl
 rw [this]
 split <;> split <;> omega
theorem toInt64 (v : BitVec 64) : IntKind.i64.wrap (v.toNat : Int) = v.toInt := by
 have h := v.isLt
 rw [BitVec.toInt_eq_toNat_cond]
 simp only [IntKind.wrap, IntKind.signed, IntKind.bits, show (2 : Int) ^ 64 = 18446744073709551616 from rfl, show (2 : Int) ^ (64 - 1) = 9223372036854775808 from rfl, Bool.true_and, decide_eq_true_eq]
 have e : (2 : Nat) ^ 64 = 18446744073709551616 := rfl
 rw [e] at h ⊢
 split <;> split <;> omega
theorem toInt32 (v : BitVec 32) : IntKind.i32.wrap (v.toNat : Int) = v.toInt := by
 have h := v.isLt
 rw [BitVec.toInt_eq_toNat_cond]
 simp only [IntKind.wrap, IntKind.signed, IntKind.bits, show (2 : Int) ^ 32 = 4294967296 from rfl, show (2 : Int) ^ (32 - 1) = 2147483648 from rfl, Bool.true_and, decide_eq_true_eq]
 have e : (2 : Nat) ^ 32 = 4294967296 := rfl
 rw [e] at h ⊢
 split <;> split <;> omega
theorem ofInt_se {a : Int} (h1 : -2147483648 ≤ a) (h2 : a ≤ 2147483647) : BitVec.ofInt 64 a = (BitVec.ofInt 32 a).signExtend 64 := by
 unfold BitVec.signExtend
 rw [BitVec.toInt_ofInt, Int.bmod_eq_of_le (by have : (2 : Nat) ^ 32 = 4294967296 := rfl; omega) (by have : (2 : Nat) ^ 32 = 4294967296 := rfl; omega)]
theorem se_toInt (v : BitVec 32) : (v.signExtend 64).toInt = v.toInt := by
 rw [BitVec.toInt_signExtend_of_le (by decide)]
section
variable {a b : Int} (ha1 : -2147483648 ≤ a) (ha2 : a ≤ 2147483647) (hb1 : -2147483648 ≤ b) (hb2 : b ≤ 2147483647)
include ha1 ha2 hb1 hb2
theorem and64 : bitI .and .i64 a b = and32M a b := by
 unfold and32M bitI
 show IntKind.i64.wrap ((BitVec.ofInt 64 a &&& BitVec.ofInt 64 b).toNat : Int) = IntKind.i32.wrap ((BitVec.ofInt 32 a &&& BitVec.ofInt 32 b).toNat : Int)
 rw [toInt64, toInt32, ofInt_se ha1 ha2, ofInt_se hb1 hb2, ← BitVec.signExtend_and, se_toInt]
theorem or64 : bitI .or .i64 a b = or32M a b := by
 unfold or32M bitI
 show IntKind.i64.wrap ((BitVec.ofInt 64 a ||| BitVec.ofInt 64 b).toNat : Int) = IntKind.i32.wrap ((BitVec.ofInt 32 a ||| BitVec.ofInt 32 b).toNat : Int)
 rw [toInt64, toInt32, ofInt_se ha1 ha2, ofInt_se hb1 hb2, ← BitVec.signExtend_or, se_toInt]
theorem xor64 : bitI .xor .i64 a b = xor32M a b := by
 unfold xor32M bitI
 show IntKind.i64.wrap ((BitVec.ofInt 64 a ^^^ BitVec.ofInt 64 b).toNat : Int) = IntKind.i32.wrap ((BitVec.ofInt 32 a ^^^ BitVec.ofInt 32 b).toNat : Int)
 rw [toInt64, toInt32, ofInt_se ha1 ha2, ofInt_se hb1 hb2, ← BitVec.signExtend_xor, se_toInt]
end
theorem bit32_bd (op : BinOp) (a b : Int) : -2147483648 ≤ bitI op .i32 a b ∧ bitI op .i32 a b ≤ 2147483647 := by
 unfold bitI
 rw [wrap32]
 exact sg_bd _
theorem bit_and {a b : Int} (h1 : -2147483648 ≤ a ∧ a ≤ 2147483647) (h2 : -2147483648 ≤ b ∧ b ≤ 2147483647) {K : D → Prop} (h : K (.int .i64 (and32M a b))) : BitS .and .i64 a b K := by
 unfold BitS; rw [and64 h1.1 h1.2 h2.1 h2.2]; exact h
theorem bit_or {a b : Int} (h1 : -2147483648 ≤ a ∧ a ≤ 2147483647) (h2 : -2147483648 ≤ b ∧ b ≤ 2147483647) {K : D → Prop} (h : K (.int .i64 (or32M a b))) : BitS .or .i64 a b K := by
 unfold BitS; rw [or64 h1.1 h1.2 h2.1 h2.2]; exact h
theorem bit_xor {a b : Int} (h1 : -2147483648 ≤ a ∧ a ≤ 2147483647) (h2 : -2147483648 ≤ b ∧ b ≤ 2147483647) {K : D → Prop} (h : K (.int .i64 (xor32M a b))) : BitS .xor .i64 a b K := by
 unfold BitS; rw [xor64 h1.1 h1.2 h2.1 h2.2]; exact h
theorem not3 : (~~~ (3#64)).toNat = 18446744073709551612 := by decide
theorem nat_clear (x : Nat) (hx : x < 18446744073709551616) : x &&& 18446744073709551612 = x / 4 * 4 := by
 have e1 : x / 4 * 4 = (x >>> 2) <<< 2 := by rw [Nat.shiftRight_eq_div_pow, Nat.shiftLeft_eq]
 have e2 : (18446744073709551612 : Nat) = (2 ^ 62 - 1) <<< 2 := by decide
 rw [e1, e2]
 refine Nat.eq_of_testBit_eq fun i => ?_
 rw [Nat.testBit_and, Nat.testBit_shiftLeft, Nat.testBit_shiftLeft, Nat.testBit_shiftRight, Nat.testBit_two_pow_sub_one]
 by_cases hi : 2 ≤ i
 ·rw [show 2 + (i - 2) = i by omega]
  by_cases h64 : i - 2 < 62
  ·simp [hi, h64]
  ·have : x.testBit i = false := Nat.testBit_lt_two_pow (Nat.lt_of_lt_of_le hx (show 2 ^ 64 ≤ 2 ^ i from Nat.pow_le_pow_right (by decide) (by omega)))
   simp [this]
 ·simp [hi]
theorem clear3 {n : Int} (h1 : -4611686018427387904 ≤ n) (h2 : n ≤ 4611686018427387904) : bitI .andNot .i64 n 3 = n - n % 4 := by
 unfold bitI
 show IntKind.i64.wrap ((BitVec.ofInt 64 n &&& ~~~ (BitVec.ofInt 64 3)).toNat : Int) = _
 rw [show BitVec.ofInt 64 3 = 3#64 from rfl, BitVec.toNat_and, not3, nat_clear _ (BitVec.ofInt 64 n).isLt]
 have h3 := toNat_ofInt n
 simp only [IntKind.wrap, IntKind.signed, IntKind.bits, show (2 : Int) ^ 64 = 18446744073709551616 from rfl, show (2 : Int) ^ (64 - 1) = 9223372036854775808 from rfl, Bool.true_and, decide_eq_true_eq]
 split <;> omega
end Go.Proofs.YthmdddenbfbefaaGreatDoor
namespace Go.Proofs.YthmdddenbfbefaaGreatDoor
open Go Go.Plat
set_option linter.unusedVariables false
set_option linter.unusedSimpArgs false
set_option maxRecDepth 100000
set_option maxHeartbeats 2000000
attribute [local irreducible] AWP Arith BitS BytesS CallS CatS DrawS EndS IdxS LookS LoopEnd Meets ModeS NilS NormL NormM QuoS RemS ShlS ShrS SideS SplitS bitI decI getN infoR irows putN signedI
theorem in_meets : Meets Tryz.prog n_sim_in (SpecF (fun ((m, at_, size) : Mach × Int × Int) => InM 10000 m ∧ -4000000000000 ≤ at_ ∧ at_ ≤ 4000000000000 ∧ (size = 2 ∨ size = 4))
  (fun (m, at_, size) => [.loc 0 0, .int .i64 at_, .int .i64 size]) (fun (m, _, _) => [.cells (machC m)]) (fun (m, at_, size) => .bool (inM m at_ size)) fun (m, _, _) => [.cells (machC m)]) := by
 refine meets_f tabOk Tryz.func146 rfl (by decide) ?_
 rintro ⟨m, at_, size⟩ ⟨hm, h1, h2, hs⟩
 have hb := hm.base
 have hl := hm.len
 refine ⟨Nat.le_refl _, by simp [Tryz.f146], fun E hE => ?_⟩
 refine vcOk _ ?_
 (all_goals refine qgv ?_ <;> (repeat' first | exact trivial | intro hc | refine And.intro ?_ ?_) <;> refine Lf.mk ?_)
 ·refine end_le (r1 := .bool (inM m at_ size)) (LeD.of_eq (congrArg D.bool ?_)) (end_mk ?_) (Nat.le_refl _)
  ·exact decide_eq_decide.2 ⟨fun h => ⟨by assumption, by assumption, h⟩, fun h => h.2.2⟩
  ·(repeat' (first | (refine VS.mk ?_) | exact trivial | exact rfl | refine And.intro ?_ ?_))
 ·refine end_le (r1 := .bool (inM m at_ size)) (LeD.ff (decide_eq_false fun h => hc h.2.1)) (end_mk ?_) (Nat.le_refl _)
  (repeat' (first | (refine VS.mk ?_) | exact trivial | exact rfl | refine And.intro ?_ ?_))
 ·refine end_le (r1 := .bool (inM m at_ size)) (LeD.ff (decide_eq_false fun h => hc h.1)) (end_mk ?_) (Nat.le_refl _)
  (repeat' (first | (refine VS.mk ?_) | exact trivial | exact rfl | refine And.intro ?_ ?_))
theorem inM_eq {m : Mach} {a s : Int} : inM m a s = true ↔ (m.img.base ≤ a ∧ a % s = 0 ∧ a - m.img.base ≤ m.img.bytes.length - s) := by unfold inM; exact decide_eq_true_iff
attribute [local irreducible] inM
theorem fetch_meets : Meets Tryz.prog n_sim_fetch (SpecF (fun ((m, at_) : Mach × Int) => InM 10000 m ∧ -4000000000000 ≤ at_ ∧ at_ ≤ 4000000000000)
  (fun (m, at_) => [.loc 0 0, .int .i64 at_]) (fun (m, _) => [.cells (machC m)]) (fun (m, at_) => .tup [insD (fetchM m at_).1, .int .i64 (fetchM m at_).2]) fun (m, _) => [.cells (machC m)]) := by
 refine meets_f tabOk Tryz.func95 rfl (by decide) ?_
 rintro ⟨m, at_⟩ ⟨hm, h1, h2⟩
 have hb := hm.base
 have hl := hm.len
 refine ⟨Nat.le_refl _, by simp [Tryz.f95], fun E hE => ?_⟩
 refine vcOk _ ?_
 (all_goals refine qgv (Lf.mk ?_))
 refine call_f in_meets [0] [0] (m, at_, 2) ⟨hm, h1, h2, .inl rfl⟩ rfl rfl ?_
 refine And.intro (VS.mk (LeL.of_eq rfl)) (And.intro (VS.mk rfl) ?_)
 (all_goals refine qgv ?_ <;> (repeat' first | exact trivial | intro hc | refine And.intro ?_ ?_) <;> refine Lf.mk ?_)
 ·have hf : fetchM m at_ = (ins0, 6) := by unfold fetchM; rw [if_neg (by rw [hc]; decide)]
  refine end_keep [0] rfl rfl ?_
  (repeat' (first | (refine VS.mk ?_) | exact trivial | exact rfl | refine And.intro ?_ ?_))
  all_goals (dsimp only; rw [hf]; rfl)
 ·have hf : fetchM m at_ = decI (getN m.img.bytes (at_ - m.img.base) 2) := by unfold fetchM; rw [if_pos hc]
  have hin : m.img.base ≤ at_ ∧ at_ % 2 = 0 ∧ at_ - m.img.base ≤ m.img.bytes.length - 2 := inM_eq.1 hc
  refine call_p get_meets (m.img.bytes, at_ - m.img.base, 2) ⟨by omega, by omega, by decide⟩ (VS.mk (by (first | exact LeL.refl _ | (repeat' (first | exact LeL.nil | exact LeD.refl _ | exact LeD.nil _ | exact LeD.strip _ _ _ | refine LeL.cons ?_ ?_ | refine LeD.tup ?_ | refine LeD.agg ?_))))) ?_
  (all_goals refine qgv (Lf.mk ?_))
  refine call_p decode_meets (getN m.img.bytes (at_ - m.img.base) 2) trivial (VS.mk (by (first | exact LeL.refl _ | (repeat' (first | exact LeL.nil | exact LeD.refl _ | exact LeD.nil _ | exact LeD.strip _ _ _ | refine LeL.cons ?_ ?_ | refine LeD.tup ?_ | refine LeD.agg ?_))))) ?_
  (all_goals refine qgv (Lf.mk ?_))
  refine end_keep [0] rfl rfl ?_
  (repeat' (first | (refine VS.mk ?_) | exact trivial | exact rfl | refine And.intro ?_ ?_))
  all_goals (dsimp only; rw [hf]; try rfl)
theorem leads_meets : Meets Tryz.prog n_sim_leads (SpecP (fun _ : Int => True) (fun op => [.int .i64 op]) fun op => .bool (leadsM op)) := by
 refine meets_f tabOk Tryz.func96 rfl (by decide) fun op _ => ?_
 refine ⟨Nat.le_refl _, by simp [Tryz.f96], fun E hE => ?_⟩
 refine vcOk _ ?_
 (all_goals refine qgv ?_ <;> (repeat' first | exact trivial | intro hc | refine And.intro ?_ ?_) <;> refine Lf.mk ?_)
 all_goals (refine end_p (VS.mk ?_))
 all_goals first
  | exact LeD.tt (decide_eq_true (by omega))
  | exact LeD.ff (decide_eq_false (by omega))
  | exact LeD.of_eq (congrArg D.bool (decide_eq_decide.2 (by omega)))
theorem image_meets : Meets Tryz.prog n_sim_Image (SpecP (fun i : OImg => i.bytes.length ≤ 1048576 ∧ i.syms.length ≤ 1048576) (fun i => [imgD i]) imgD) := by
 refine meets_f tabOk Tryz.func55 rfl (by decide) ?_
 rintro i ⟨h1, h2⟩
 refine ⟨Nat.le_refl _, by simp [Tryz.f55], fun E hE => ?_⟩
 refine vcOk _ ?_
 (all_goals refine qgv (Lf.mk ?_))
 refine call_p cloneB_meets (i.bytes.map byteD) ⟨by simp; omega, fun i d hd => ?_⟩ (VS.mk (LeL.of_eq rfl)) ?_
 ·obtain ⟨c, _, rfl⟩ := List.mem_map.1 (List.mem_of_getElem? hd); rfl
 (all_goals refine qgv (Lf.mk ?_))
 refine call_p cloneS_meets (i.syms.map symD) ⟨by simp; omega, fun i d hd => ?_⟩ (VS.mk (LeL.of_eq rfl)) ?_
 ·obtain ⟨c, _, rfl⟩ := List.mem_map.1 (List.mem_of_getElem? hd); rfl
 (all_goals refine qgv (Lf.mk ?_))
 exact end_p (VS.mk (LeD.of_eq rfl))
def newM (i : OImg) : Mach := ⟨fun _ => 0, false, i.base, -1, i, [], 0⟩
theorem new_meets : Meets Tryz.prog n_sim_New (SpecP (fun i : OImg => i.bytes.length ≤ 1048576 ∧ i.syms.length ≤ 1048576) (fun i => [imgD i]) fun i => machD (newM i)) := by
 refine meets_f tabOk Tryz.func29 rfl (by decide) ?_
 rintro i ⟨h1, h2⟩
 refine ⟨Nat.le_refl _, by simp [Tryz.f29], fun E hE => ?_⟩
 refine vcOk _ ?_
 (all_goals refine qgv (Lf.mk ?_))
 refine call_p image_meets i ⟨h1, h2⟩ (VS.mk (LeL.of_eq rfl)) ?_
 (all_goals refine qgv (Lf.mk ?_))
 refine end_p (VS.mk ?_)
 (first | exact LeL.refl _ | (repeat' (first | exact LeL.nil | exact LeD.refl _ | exact LeD.nil _ | exact LeD.strip _ _ _ | refine LeL.cons ?_ ?_ | refine LeD.tup ?_ | refine LeD.agg ?_)))
 all_goals first | exact LeD.ff rfl | skip
theorem mown_meets : Meets Tryz.prog n_sim_Own (SpecP (fun m : Mach => m.img.bytes.length ≤ 1048576 ∧ m.img.syms.length ≤ 1048576 ∧ m.told.length ≤ 2000000) (fun m => [machD m]) machD) := by
 refine meets_f tabOk Tryz.func53 rfl (by decide) ?_
 rintro m ⟨h1, h2, h3⟩
 refine ⟨Nat.le_refl _, by simp [Tryz.f53], fun E hE => ?_⟩
 refine vcOk _ ?_
 (all_goals refine qgv (Lf.mk ?_))
 refine call_p image_meets m.img ⟨h1, h2⟩ (VS.mk (LeL.of_eq rfl)) ?_
 (all_goals refine qgv (Lf.mk ?_))
 refine call_p cloneI_meets (m.told.map intD) ⟨by simp; omega, fun i d hd => ?_⟩ (VS.mk (LeL.of_eq rfl)) ?_
 ·obtain ⟨c, _, rfl⟩ := List.mem_map.1 (List.mem_of_getElem? hd); rfl
 (all_goals refine qgv (Lf.mk ?_))
 exact end_p (VS.mk (LeD.of_eq rfl))
end Go.Proofs.YthmdddenbfbefaaGreatDoor
namespace Go.Proofs.YthmdddenbfbefaaGreatDoor
open Go Go.Plat
set_option linter.unusedVariables false
set_option linter.unusedSimpArgs false
set_option maxRecDepth 100000
set_option maxHeartbeats 2000000
attribute [local irreducible] AWP Arith BitS BytesS CallS CatS DrawS EndS IdxS LookS LoopEnd Meets ModeS NilS NormL NormM QuoS RemS ShlS ShrS SideS SplitS bitI
attribute [local irreducible] decI decR encV findI highI infoR irows lowI signedI wrongI
attribute [local irreducible] RenM
end Go.Proofs.YthmdddenbfbefaaGreatDoor
namespace Go.Proofs.YthmdddenbfbefaaGreatDoor
open Go Go.Plat
set_option linter.unusedVariables false
set_option linter.unusedSimpArgs false
set_option maxRecDepth 100000
set_option maxHeartbeats 2000000
attribute [local irreducible] AWP Arith BitS BytesS CallS CatS DrawS EndS IdxS LookS LoopEnd Meets ModeS NilS NormL NormM QuoS RemS ShlS ShrS SideS SplitS bitI decR infoR irows
attribute [local irreducible] RenM decI encV findI highI lowI signedI wrongI
end Go.Proofs.YthmdddenbfbefaaGreatDoor
namespace Go.Proofs.YthmdddenbfbefaaGreatDoor
open Go Go.Plat
set_option linter.unusedVariables false
set_option linter.unusedSimpArgs false
set_option maxRecDepth 100000
set_option maxHeartbeats 2000000
attribute [local irreducible] AWP Arith BitS BytesS CallS CatS DrawS EndS IdxS LookS LoopEnd Meets ModeS NilS NormL NormM QuoS RemS ShlS ShrS SideS SplitS bitI
attribute [local irreducible] decR highI infoR irows lowI signedI
end Go.Proofs.YthmdddenbfbefaaGreatDoor
namespace Go.Proofs.YthmdddenbfbefaaGreatDoor
open Go Go.Plat
set_option linter.unusedVariables false
set_option linter.unusedSimpArgs false
set_option maxRecDepth 100000
set_option maxHeartbeats 2000000
attribute [local irreducible] AWP Arith BitS BytesS CallS CatS DrawS EndS IdxS LookS LoopEnd Meets ModeS NilS NormL NormM QuoS RemS ShlS ShrS SideS SplitS bitI decR infoR irows
end Go.Proofs.YthmdddenbfbefaaGreatDoor
namespace Go.Proofs.YthmdddenbfbefaaGreatDoor
open Go Go.Plat
set_option linter.unusedVariables false
set_option linter.unusedSimpArgs false
set_option maxRecDepth 100000
set_option maxHeartbeats 2000000
attribute [local irreducible] AWP Arith BitS BytesS CallS CatS DrawS EndS IdxS LookS LoopEnd Meets ModeS NilS NormL NormM QuoS RemS ShlS ShrS SideS SplitS bitI decI getN inM infoR irows putN shapeM signedI
def ldM (i : Ins) : Bool := decide (shapeM i.op = 4 ∨ shapeM i.op = 5 ∨ shapeM i.op = 7 ∨ shapeM i.op = 8)
theorem shape_some {op : Int} {r : IRow} (h : infoR op = some r) : shapeM op = r.shape := by unfold shapeM; rw [h]
theorem shape_none {op : Int} (h : infoR op = none) : shapeM op = 0 := by unfold shapeM; rw [h]
theorem info_shape (op : Int) : ∃ s, infoD op = .tup [.str s, .int .i64 (shapeM op)] := by
 unfold infoD
 cases h : infoR op with
 | none => exact ⟨[], by rw [shape_none h]⟩
 | some r => exact ⟨r.name, by rw [shape_some h]⟩
theorem bit_clear {n : Int} (h1 : -4611686018427387904 ≤ n) (h2 : n ≤ 4611686018427387904) {K : D → Prop} (h : K (.int .i64 (n - n % 4))) : BitS .andNot .i64 n 3 K := by
 unfold BitS; rw [clear3 h1 h2]; exact h
theorem to_meets : Meets Tryz.prog n_dis_To (SpecP (fun ((i, at_) : Ins × Int) => -4096 ≤ i.imm ∧ i.imm ≤ 4096 ∧ -4000000000000 ≤ at_ ∧ at_ ≤ 4000000000000) (fun (i, at_) => [insD i, .int .i64 at_]) fun (i, at_) => .tup [.int .i64 (toM i at_), .bool (ldM i)]) := by
 refine meets_f tabOk Tryz.func150 rfl (by decide) ?_
 rintro ⟨i, at_⟩ ⟨h1, h2, h3, h4⟩
 refine ⟨Nat.le_refl _, by simp [Tryz.f150], fun E hE => ?_⟩
 refine vcOk _ ?_
 (all_goals refine qgv (Lf.mk ?_))
 refine call_p info_meets i.op trivial (VS.mk (LeL.of_eq rfl)) ?_
 obtain ⟨s, hs⟩ := info_shape i.op
 rw [hs]
 (all_goals refine qgv ?_ <;> (repeat' first | exact trivial | intro hc | refine And.intro ?_ ?_) <;> refine Lf.mk ?_)
 any_goals (refine bit_clear (by omega) (by omega) ?_)
 (all_goals refine qgv (Lf.mk ?_))
 all_goals (refine end_p (VS.mk (LeD.tup (.cons (LeD.of_eq (congrArg (D.int .i64) ?_)) (.cons ?_ .nil)))))
 all_goals first
  | exact LeD.tt (decide_eq_true (by omega))
  | exact LeD.ff (decide_eq_false (by omega))
  | (unfold toM; rw [if_pos (by omega)]; done)
  | (unfold toM; rw [if_neg (by omega), if_pos (by omega)]; done)
  | (unfold toM; rw [if_neg (by omega), if_neg (by omega)]; done)
end Go.Proofs.YthmdddenbfbefaaGreatDoor
namespace Go.Proofs.YthmdddenbfbefaaGreatDoor
open Go Go.Plat
set_option linter.unusedVariables false
set_option linter.unusedSimpArgs false
set_option maxRecDepth 100000
set_option maxHeartbeats 2000000
attribute [local irreducible] AWP Arith BitS BytesS CallS CatS DrawS EndS IdxS LookS LoopEnd Meets ModeS NilS NormL NormM QuoS RemS ShlS ShrS SideS SplitS bitI decI inM infoR irows putN shapeM signedI up
theorem toM_bd {i : Ins} {a : Int} (h1 : -4096 ≤ i.imm) (h2 : i.imm ≤ 4096) : a - 20000 ≤ toM i a ∧ toM i a ≤ a + 20000 ∨ toM i a = 0 := by
 unfold toM
 split
 ·exact .inl ⟨by omega, by omega⟩
 split
 ·exact .inl ⟨by omega, by omega⟩
 ·exact .inr rfl
theorem getN2_bd (b : List UInt8) (a : Int) : 0 ≤ getN b a 2 ∧ getN b a 2 ≤ 65535 := by
 have h0 := byteAt_bd b (a + (0 : Nat)); have h1 := byteAt_bd b (a + (1 : Nat))
 simp only [getN]; omega
theorem ixr {i : Ins} (h : 0 ≤ i.n ∧ i.n < 16) {m : Mach} {k : Nat} (hm : InM k m) : -2147483648 ≤ m.r i.n.toNat ∧ m.r i.n.toNat ≤ 2147483647 := hm.regs _ (by omega)
theorem ixm {i : Ins} (h : 0 ≤ i.m ∧ i.m < 16) {m : Mach} {k : Nat} (hm : InM k m) : -2147483648 ≤ m.r i.m.toNat ∧ m.r i.m.toNat ≤ 2147483647 := hm.regs _ (by omega)
attribute [local irreducible] getN toM ldM
theorem load_meets : Meets Tryz.prog n_sim_load (SpecF (fun ((m, i, at_) : Mach × Ins × Int) => InM 10000 m ∧ InI i ∧ -2000000000000 ≤ at_ ∧ at_ ≤ 2000000000000)
  (fun (m, i, at_) => [.loc 0 0, insD i, .int .i64 at_]) (fun (m, _, _) => [.cells (machC m)]) (fun (m, i, at_) => .int .i64 (loadM m i at_).2) fun (m, i, at_) => [.cells (machC (loadM m i at_).1)]) := by
 refine meets_f tabOk Tryz.func148 rfl (by decide) ?_
 rintro ⟨m, i, at_⟩ ⟨hm, hi, h1, h2⟩
 obtain ⟨n0, n1⟩ := hi.n
 obtain ⟨m0, m1⟩ := hi.m
 obtain ⟨q0, q1⟩ := hi.imm
 have hb := hm.base
 have hl := hm.len
 have hrm := ixm hi.m hm
 have hto := toM_bd (a := at_) q0 q1
 refine ⟨Nat.le_refl _, by simp [Tryz.f148], fun E hE => ?_⟩
 refine vcOk _ ?_
 (all_goals refine qgv (Lf.mk ?_))
 refine call_p to_meets (i, at_) ⟨q0, q1, by omega, by omega⟩ (VS.mk (LeL.of_eq rfl)) ?_
 (all_goals refine qgv ?_ <;> (repeat' first | exact trivial | intro hc | refine And.intro ?_ ?_) <;> refine Lf.mk ?_)
 ·refine call_f in_meets [0] [0] (m, m.r i.m.toNat, 4) ⟨hm, by omega, by omega, by decide⟩ rfl rfl ?_
  refine And.intro (VS.mk (LeL.of_eq rfl)) (And.intro (VS.mk rfl) ?_)
  have hF : (if i.op = 26 then m.r i.m.toNat else toM i at_) = m.r i.m.toNat := if_pos (by assumption)
  have hS : (if i.op = 23 then (2 : Int) else 4) = 4 := if_neg (by assumption)
  (all_goals refine qgv ?_ <;> (repeat' first | exact trivial | intro hc | refine And.intro ?_ ?_) <;> refine Lf.mk ?_)
  ·have hL : loadM m i at_ = (m, 3) := by unfold loadM; rw [hF, hS, if_neg (by rw [hc]; decide)]
   refine end_keep [0] rfl rfl ?_
   (repeat' (first | (refine VS.mk ?_) | exact trivial | exact rfl | refine And.intro ?_ ?_))
   all_goals (dsimp only; rw [hL]; try rfl)
  have hin := inM_eq.1 (show inM m (m.r i.m.toNat) 4 = true from hc)
  refine call_p get_meets (m.img.bytes, m.r i.m.toNat - m.img.base, 4) ⟨by omega, by omega, by decide⟩ (VS.mk (by (first | exact LeL.refl _ | (repeat' (first | exact LeL.nil | exact LeD.refl _ | exact LeD.nil _ | exact LeD.strip _ _ _ | refine LeL.cons ?_ ?_ | refine LeD.tup ?_ | refine LeD.agg ?_))))) ?_
  (all_goals refine qgv ?_ <;> (repeat' first | exact trivial | intro hc | refine And.intro ?_ ?_) <;> refine Lf.mk ?_)
  refine call_p signed_meets2 (getN m.img.bytes (m.r i.m.toNat - m.img.base) 4) trivial (VS.mk (LeL.of_eq rfl)) ?_
  have hL : loadM m i at_ = (setM m i.n (signedI (getN m.img.bytes (m.r i.m.toNat - m.img.base) 4) 32), 0) := by unfold loadM; rw [hF, hS, if_pos (by assumption), if_neg (by assumption)]
  (all_goals refine qgv (Lf.mk ?_))
  refine end_keep [0] rfl rfl ?_
  (repeat' (first | (refine VS.mk ?_) | exact trivial | exact rfl | refine And.intro ?_ ?_))
  all_goals (dsimp only; rw [hL]; try rfl)
 ·refine call_f in_meets [0] [0] (m, toM i at_, 2) ⟨hm, by omega, by omega, by decide⟩ rfl rfl ?_
  refine And.intro (VS.mk (LeL.of_eq rfl)) (And.intro (VS.mk rfl) ?_)
  have hF : (if i.op = 26 then m.r i.m.toNat else toM i at_) = toM i at_ := if_neg (by assumption)
  have hS : (if i.op = 23 then (2 : Int) else 4) = 2 := if_pos (by assumption)
  (all_goals refine qgv ?_ <;> (repeat' first | exact trivial | intro hc | refine And.intro ?_ ?_) <;> refine Lf.mk ?_)
  ·have hL : loadM m i at_ = (m, 3) := by unfold loadM; rw [hF, hS, if_neg (by rw [hc]; decide)]
   refine end_keep [0] rfl rfl ?_
   (repeat' (first | (refine VS.mk ?_) | exact trivial | exact rfl | refine And.intro ?_ ?_))
   all_goals (dsimp only; rw [hL]; try rfl)
  have hin := inM_eq.1 (show inM m (toM i at_) 2 = true from hc)
  refine call_p get_meets (m.img.bytes, toM i at_ - m.img.base, 2) ⟨by omega, by omega, by decide⟩ (VS.mk (by (first | exact LeL.refl _ | (repeat' (first | exact LeL.nil | exact LeD.refl _ | exact LeD.nil _ | exact LeD.strip _ _ _ | refine LeL.cons ?_ ?_ | refine LeD.tup ?_ | refine LeD.agg ?_))))) ?_
  have hg2 := getN2_bd m.img.bytes (toM i at_ - m.img.base)
  have hL : loadM m i at_ = (setM m i.n (signedI (signedI (getN m.img.bytes (toM i at_ - m.img.base) 2) 16) 32), 0) := by unfold loadM; rw [hF, hS, if_pos (by assumption), if_pos (by assumption)]
  have h16 := sg16 hg2.1 hg2.2
  rw [h16] at hL
  (all_goals refine qgv ?_ <;> (repeat' first | exact trivial | intro hc | refine And.intro ?_ ?_) <;> refine Lf.mk ?_)
  any_goals (first | (exfalso; exact hc trivial) | skip)
  ·refine call_p signed_meets2 (getN m.img.bytes (toM i at_ - m.img.base) 2 - 65536) trivial (VS.mk (LeL.of_eq rfl)) ?_
   rw [if_pos (by omega)] at hL
   (all_goals refine qgv (Lf.mk ?_))
   refine end_keep [0] rfl rfl ?_
   (repeat' (first | (refine VS.mk ?_) | exact trivial | exact rfl | refine And.intro ?_ ?_))
   all_goals (dsimp only; rw [hL]; try rfl)
  ·refine call_p signed_meets2 (getN m.img.bytes (toM i at_ - m.img.base) 2) trivial (VS.mk (LeL.of_eq rfl)) ?_
   rw [if_neg (by omega)] at hL
   (all_goals refine qgv (Lf.mk ?_))
   refine end_keep [0] rfl rfl ?_
   (repeat' (first | (refine VS.mk ?_) | exact trivial | exact rfl | refine And.intro ?_ ?_))
   all_goals (dsimp only; rw [hL]; try rfl)
 ·refine call_f in_meets [0] [0] (m, toM i at_, 4) ⟨hm, by omega, by omega, by decide⟩ rfl rfl ?_
  refine And.intro (VS.mk (LeL.of_eq rfl)) (And.intro (VS.mk rfl) ?_)
  have hF : (if i.op = 26 then m.r i.m.toNat else toM i at_) = toM i at_ := if_neg (by assumption)
  have hS : (if i.op = 23 then (2 : Int) else 4) = 4 := if_neg (by assumption)
  (all_goals refine qgv ?_ <;> (repeat' first | exact trivial | intro hc | refine And.intro ?_ ?_) <;> refine Lf.mk ?_)
  ·have hL : loadM m i at_ = (m, 3) := by unfold loadM; rw [hF, hS, if_neg (by rw [hc]; decide)]
   refine end_keep [0] rfl rfl ?_
   (repeat' (first | (refine VS.mk ?_) | exact trivial | exact rfl | refine And.intro ?_ ?_))
   all_goals (dsimp only; rw [hL]; try rfl)
  have hin := inM_eq.1 (show inM m (toM i at_) 4 = true from hc)
  refine call_p get_meets (m.img.bytes, toM i at_ - m.img.base, 4) ⟨by omega, by omega, by decide⟩ (VS.mk (by (first | exact LeL.refl _ | (repeat' (first | exact LeL.nil | exact LeD.refl _ | exact LeD.nil _ | exact LeD.strip _ _ _ | refine LeL.cons ?_ ?_ | refine LeD.tup ?_ | refine LeD.agg ?_))))) ?_
  (all_goals refine qgv ?_ <;> (repeat' first | exact trivial | intro hc | refine And.intro ?_ ?_) <;> refine Lf.mk ?_)
  refine call_p signed_meets2 (getN m.img.bytes (toM i at_ - m.img.base) 4) trivial (VS.mk (LeL.of_eq rfl)) ?_
  have hL : loadM m i at_ = (setM m i.n (signedI (getN m.img.bytes (toM i at_ - m.img.base) 4) 32), 0) := by unfold loadM; rw [hF, hS, if_pos (by assumption), if_neg (by assumption)]
  (all_goals refine qgv (Lf.mk ?_))
  refine end_keep [0] rfl rfl ?_
  (repeat' (first | (refine VS.mk ?_) | exact trivial | exact rfl | refine And.intro ?_ ?_))
  all_goals (dsimp only; rw [hL]; try rfl)
attribute [local irreducible] and32M or32M xor32M
theorem and_u32 {n : Int} : bitI .and .i64 n 4294967295 = n % 4294967296 := and_mask (k := 32) (by decide) (by decide)
theorem msum_meets : Meets Tryz.prog n_sim_sum (SpecF (fun ((m, i) : Mach × Ins) => InM 10000 m ∧ InI i)
  (fun (m, i) => [.loc 0 0, insD i]) (fun (m, _) => [.cells (machC m)]) (fun _ => .tup []) fun (m, i) => [.cells (machC (sumM m i))]) := by
 refine meets_f tabOk Tryz.func149 rfl (by decide) ?_
 rintro ⟨m, i⟩ ⟨hm, hi⟩
 obtain ⟨n0, n1⟩ := hi.n
 obtain ⟨m0, m1⟩ := hi.m
 have hrm := ixm hi.m hm
 have hrn := ixr hi.n hm
 refine ⟨Nat.le_refl _, by simp [Tryz.f149], fun E hE => ?_⟩
 refine vcOk _ ?_
 (all_goals refine qgvb ?_ <;> (repeat' first | exact trivial | intro hc | refine And.intro ?_ ?_) <;> refine Lf.mk ?_)
 all_goals try (refine call_p signed_meets2 _ trivial (VS.mk (LeL.of_eq rfl)) ?_)
 (all_goals refine qgvb (Lf.mk ?_))
 all_goals first
  | (dsimp only; refine end_keep [0] rfl rfl ?_; (repeat' (first | (refine VS.mk ?_) | exact trivial | exact rfl | refine And.intro ?_ ?_)); all_goals (unfold sumM; dsimp only; (repeat (first | (rw [if_pos (by assumption)]) | (rw [if_neg (by assumption)]))); try rfl); done)
  | skip
theorem cloneIT_meets : Meets Tryz.prog n_slices_Clone_int_int (SpecF (fun ds : List D => ds.length ≤ 100000000 ∧ ∀ (i : Nat) d, ds[i]? = some d → d.cells.length = 1) (fun ds => [.sl 1 ds none]) (fun _ => []) (fun ds => .sl 1 ds (some 0)) fun ds => [.spare ds.length]) := by
 refine meets_f tabOk Tryz.func94 rfl (by decide) ?_
 rintro ds ⟨hds, hlen⟩
 refine ⟨by simp, by simp [Tryz.f94], fun E hE => ?_⟩
 refine vcOk _ ?_
 (all_goals refine qgo (Lf.mk ?_))
 refine nil_mk (fun h => ?_) ?_
 ·subst h
  (all_goals refine qgo (Lf.mk ?_))
  refine end_nil (e := 1) (end_mk (r := .sl 1 [] (some 0)) ?_) (by decide)
  (repeat' (first | (refine VS.mk ?_) | exact trivial | exact rfl | refine And.intro ?_ ?_))
 (all_goals refine qgo (Lf.mk ?_))
 refine end_mk ?_
 (repeat' (first | (refine VS.mk ?_) | exact trivial | exact rfl | refine And.intro ?_ ?_))
theorem plain_meets : Meets Tryz.prog n_sim_plain (SpecF (fun ((m, i, at_) : Mach × Ins × Int) => InM 10000 m ∧ InI i ∧ -2000000000000 ≤ at_ ∧ at_ ≤ 2000000000000)
  (fun (m, i, at_) => [.loc 0 0, insD i, .int .i64 at_]) (fun (m, _, _) => [.cells (machC m)]) (fun (m, i, at_) => .int .i64 (plainM m i at_).2) fun (m, i, at_) => [.cells (machC (plainM m i at_).1)]) := by
 refine meets_f tabOk Tryz.func97 rfl (by decide) ?_
 rintro ⟨m, i, at_⟩ ⟨hm, hi, h1, h2⟩
 obtain ⟨n0, n1⟩ := hi.n
 obtain ⟨m0, m1⟩ := hi.m
 obtain ⟨q0, q1⟩ := hi.imm
 have hrm := ixm hi.m hm
 have hrn := ixr hi.n hm
 have hr0 := hm.regs 0 (by decide)
 have htold := hm.told
 have hb := hm.base
 have hl := hm.len
 refine ⟨Nat.le_refl _, by simp [Tryz.f97], fun E hE => ?_⟩
 refine vcOk _ ?_
 (all_goals refine qgvb ?_ <;> (repeat' first | exact trivial | intro hc | refine And.intro ?_ ?_) <;> refine Lf.mk ?_)
 ·have hP : plainM m i at_ = (setM m i.n i.imm, 0) := by unfold plainM; (repeat (first | (rw [if_pos (by assumption)]) | (rw [if_neg (by assumption)])))
  dsimp only; rw [hP]
  refine end_keep [0] rfl rfl ?_
  (repeat' (first | (refine VS.mk ?_) | exact trivial | exact rfl | refine And.intro ?_ ?_))
 ·have hP : plainM m i at_ = (setM m i.n (signedI (m.r i.n.toNat + i.imm) 32), 0) := by unfold plainM; dsimp only; (repeat (first | (rw [if_pos (by assumption)]) | (rw [if_neg (by assumption)])))
  refine call_p signed_meets2 (m.r i.n.toNat + i.imm) trivial (VS.mk (LeL.of_eq rfl)) ?_
  (all_goals refine qgvb (Lf.mk ?_))
  dsimp only; rw [hP]
  refine end_keep [0] rfl rfl ?_
  (repeat' (first | (refine VS.mk ?_) | exact trivial | exact rfl | refine And.intro ?_ ?_))
 ·have hP : plainM m i at_ = (setT (setM m i.n (signedI (m.r i.n.toNat * 2) 32)) (decide (m.r i.n.toNat < 0)), 0) := by unfold plainM; dsimp only; (repeat (first | (rw [if_pos (by assumption)]) | (rw [if_neg (by assumption)])))
  refine call_p signed_meets2 (m.r i.n.toNat * 2) trivial (VS.mk (LeL.of_eq rfl)) ?_
  (all_goals refine qgvb (Lf.mk ?_))
  dsimp only; rw [hP]
  refine end_keep [0] rfl rfl ?_
  (repeat' (first | (refine VS.mk ?_) | exact trivial | exact rfl | refine And.intro ?_ ?_))
 ·have hP : plainM m i at_ = (setT (setM m i.n (m.r i.n.toNat % 4294967296 / 2)) (decide (m.r i.n.toNat % 2 = 1)), 0) := by unfold plainM; dsimp only; (repeat (first | (rw [if_pos (by assumption)]) | (rw [if_neg (by assumption)])))
  dsimp only; rw [hP]
  refine end_keep [0] rfl rfl ?_
  (repeat' (first | (refine VS.mk ?_) | exact trivial | exact rfl | refine And.intro ?_ ?_))
 ·have hP : plainM m i at_ = (setT (setM m i.n (signedI (m.r i.n.toNat - 1) 32)) (decide (signedI (m.r i.n.toNat - 1) 32 = 0)), 0) := by unfold plainM; dsimp only; (repeat (first | (rw [if_pos (by assumption)]) | (rw [if_neg (by assumption)])))
  refine call_p signed_meets2 (m.r i.n.toNat - 1) trivial (VS.mk (LeL.of_eq rfl)) ?_
  (all_goals refine qgvb (Lf.mk ?_))
  rw [up_at _ _ _ n0]
  dsimp only; rw [hP]
  refine end_keep [0] rfl rfl ?_
  (repeat' (first | (refine VS.mk ?_) | exact trivial | exact rfl | refine And.intro ?_ ?_))
 ·have hP : plainM m i at_ = loadM m i at_ := by unfold plainM; dsimp only; rw [if_neg (by omega), if_neg (by omega), if_neg (by omega), if_neg (by omega), if_neg (by omega), if_pos (by omega)]
  refine call_f load_meets [0] [0] (m, i, at_) ⟨hm, hi, h1, h2⟩ rfl rfl ?_
  refine And.intro (VS.mk (LeL.of_eq rfl)) (And.intro (VS.mk rfl) ?_)
  (all_goals refine qgvb (Lf.mk ?_))
  dsimp only; rw [hP]
  refine end_keep [0] rfl rfl ?_
  (repeat' (first | (refine VS.mk ?_) | exact trivial | exact rfl | refine And.intro ?_ ?_))
 ·have hP : plainM m i at_ = loadM m i at_ := by unfold plainM; dsimp only; rw [if_neg (by omega), if_neg (by omega), if_neg (by omega), if_neg (by omega), if_neg (by omega), if_pos (by omega)]
  refine call_f load_meets [0] [0] (m, i, at_) ⟨hm, hi, h1, h2⟩ rfl rfl ?_
  refine And.intro (VS.mk (LeL.of_eq rfl)) (And.intro (VS.mk rfl) ?_)
  (all_goals refine qgvb (Lf.mk ?_))
  dsimp only; rw [hP]
  refine end_keep [0] rfl rfl ?_
  (repeat' (first | (refine VS.mk ?_) | exact trivial | exact rfl | refine And.intro ?_ ?_))
 ·have hP : plainM m i at_ = loadM m i at_ := by unfold plainM; dsimp only; rw [if_neg (by omega), if_neg (by omega), if_neg (by omega), if_neg (by omega), if_neg (by omega), if_pos (by omega)]
  refine call_f load_meets [0] [0] (m, i, at_) ⟨hm, hi, h1, h2⟩ rfl rfl ?_
  refine And.intro (VS.mk (LeL.of_eq rfl)) (And.intro (VS.mk rfl) ?_)
  (all_goals refine qgvb (Lf.mk ?_))
  dsimp only; rw [hP]
  refine end_keep [0] rfl rfl ?_
  (repeat' (first | (refine VS.mk ?_) | exact trivial | exact rfl | refine And.intro ?_ ?_))
 ·have hP : plainM m i at_ = putM m i := by unfold plainM; dsimp only; rw [if_neg (by omega), if_neg (by omega), if_neg (by omega), if_neg (by omega), if_neg (by omega), if_neg (by omega), if_pos (by omega)]
  refine call_f in_meets [0] [0] (m, m.r i.n.toNat, 4) ⟨hm, by omega, by omega, by decide⟩ rfl rfl ?_
  refine And.intro (VS.mk (LeL.of_eq rfl)) (And.intro (VS.mk rfl) ?_)
  (all_goals refine qgvb ?_ <;> (repeat' first | exact trivial | intro hc | refine And.intro ?_ ?_) <;> refine Lf.mk ?_)
  ·have hQ : putM m i = (m, 3) := by unfold putM; rw [if_neg (by rw [hc]; decide)]
   dsimp only; rw [hP, hQ]
   refine end_keep [0] rfl rfl ?_
   (repeat' (first | (refine VS.mk ?_) | exact trivial | exact rfl | refine And.intro ?_ ?_))
  have hin := inM_eq.1 hc
  have hQ : putM m i = ({ m with img := { m.img with bytes := putN m.img.bytes (m.r i.n.toNat - m.img.base) 4 (m.r i.m.toNat) } }, 0) := by unfold putM; rw [if_pos hc]
  refine call_f put_meets [] [2] (m.img.bytes, m.r i.n.toNat - m.img.base, 4, m.r i.m.toNat) ⟨by omega, by omega, by decide, by omega⟩ rfl rfl ?_
  refine And.intro (VS.mk (by (first | exact LeL.refl _ | (repeat' (first | exact LeL.nil | exact LeD.refl _ | exact LeD.nil _ | exact LeD.strip _ _ _ | refine LeL.cons ?_ ?_ | refine LeD.tup ?_ | refine LeD.agg ?_))))) (And.intro (VS.mk rfl) ?_)
  (all_goals refine qgvb (Lf.mk ?_))
  dsimp only; rw [hP, hQ]
  refine end_cell 0 (machC { m with img := { m.img with bytes := putN m.img.bytes (m.r i.n.toNat - m.img.base) 4 (m.r i.m.toNat) } }) rfl (by (first | exact LeL.refl _ | (repeat' (first | exact LeL.nil | exact LeD.refl _ | exact LeD.nil _ | exact LeD.strip _ _ _ | refine LeL.cons ?_ ?_ | refine LeD.tup ?_ | refine LeD.agg ?_)))) ?_ (Nat.le_refl _)
  refine end_keep [0] rfl rfl ?_
  (repeat' (first | (refine VS.mk ?_) | exact trivial | exact rfl | refine And.intro ?_ ?_))
 ·have hP : plainM m i at_ = ({ m with told := m.told ++ [m.r 0] }, 0) := by unfold plainM; dsimp only; rw [if_neg (by omega), if_neg (by omega), if_neg (by omega), if_neg (by omega), if_neg (by omega), if_neg (by omega), if_neg (by omega), if_pos (by omega)]
  refine call_f cloneIT_meets [] [2] (m.told.map intD) ⟨by simp; omega, fun i d hd => ?_⟩ rfl rfl ?_
  ·obtain ⟨c, _, rfl⟩ := List.mem_map.1 (List.mem_of_getElem? hd); rfl
  refine And.intro (VS.mk (LeL.of_eq rfl)) (And.intro (VS.mk rfl) ?_)
  (all_goals refine qgvb (Lf.mk ?_))
  dsimp only; rw [hP]
  refine end_cell 0 (machC { m with told := m.told ++ [m.r 0] }) rfl (by (first | exact LeL.refl _ | (repeat' (first | exact LeL.nil | exact LeD.refl _ | exact LeD.nil _ | exact LeD.strip _ _ _ | refine LeL.cons ?_ ?_ | refine LeD.tup ?_ | refine LeD.agg ?_)))) ?_ (Nat.le_refl _)
  refine end_keep [0] rfl rfl ?_
  (repeat' (first | (refine VS.mk ?_) | exact trivial | exact rfl | refine And.intro ?_ ?_))
 ·have hP : plainM m i at_ = (sumM m i, 0) := by unfold plainM; dsimp only; rw [if_neg (by omega), if_neg (by omega), if_neg (by omega), if_neg (by omega), if_neg (by omega), if_neg (by omega), if_neg (by omega), if_neg (by omega)]
  refine call_f msum_meets [0] [0] (m, i) ⟨hm, hi⟩ rfl rfl ?_
  refine And.intro (VS.mk (LeL.of_eq rfl)) (And.intro (VS.mk rfl) ?_)
  (all_goals refine qgvb (Lf.mk ?_))
  dsimp only; rw [hP]
  refine end_keep [0] rfl rfl ?_
  (repeat' (first | (refine VS.mk ?_) | exact trivial | exact rfl | refine And.intro ?_ ?_))
attribute [local irreducible] fetchM leadsM plainM
theorem leap_meets : Meets Tryz.prog n_sim_leap (SpecF (fun ((m, i) : Mach × Ins) => InM 10000 m ∧ InI i)
  (fun (m, i) => [.loc 0 0, insD i]) (fun (m, _) => [.cells (machC m)]) (fun (m, i) => .tup [.int .i64 (leapM m i).2.1, .bool (leapM m i).2.2]) fun (m, i) => [.cells (machC (leapM m i).1)]) := by
 refine meets_f tabOk Tryz.func98 rfl (by decide) ?_
 rintro ⟨m, i⟩ ⟨hm, hi⟩
 obtain ⟨n0, n1⟩ := hi.n
 obtain ⟨m0, m1⟩ := hi.m
 obtain ⟨q0, q1⟩ := hi.imm
 have hrm := ixm hi.m hm
 have hrn := ixr hi.n hm
 have hpc := hm.pc
 have hpr := hm.pr
 refine ⟨Nat.le_refl _, by simp [Tryz.f98], fun E hE => ?_⟩
 refine vcOk _ ?_
 (all_goals refine qgv (Lf.mk ?_))
 refine call_p to_meets (i, m.pc) ⟨q0, q1, by omega, by omega⟩ (VS.mk (LeL.of_eq rfl)) ?_
 (all_goals refine qgv ?_ <;> (repeat' first | exact trivial | intro hc | refine And.intro ?_ ?_) <;> refine Lf.mk ?_)
 all_goals
  have hn : ¬ (m.t = true) ∨ m.t = true := by cases m.t <;> simp
  refine end_le (r1 := .tup [.int .i64 (leapM m i).2.1, .bool (leapM m i).2.2]) (LeD.tup (.cons (LeD.of_eq (congrArg _ ?_)) (.cons ?_ .nil))) (end_keep [0] rfl rfl ?_) (Nat.le_refl _)
  ·unfold leapM; (repeat (first | (rw [if_pos (by assumption)]) | (rw [if_neg (by assumption)]))); try (simp [*])
  ·first | exact LeD.tt (by unfold leapM; (repeat (first | (rw [if_pos (by assumption)]) | (rw [if_neg (by assumption)])))) | exact LeD.ff (by unfold leapM; (repeat (first | (rw [if_pos (by assumption)]) | (rw [if_neg (by assumption)]))))
  ·(repeat' (first | (refine VS.mk ?_) | exact trivial | exact rfl | refine And.intro ?_ ?_))
   all_goals (dsimp only; unfold leapM; (repeat (first | (rw [if_pos (by assumption)]) | (rw [if_neg (by assumption)]))); try rfl)
theorem sgnI_bd (n : Int) : (-128 ≤ signedI n 8 ∧ signedI n 8 ≤ 127) ∧ (-2048 ≤ signedI n 12 ∧ signedI n 12 ≤ 2047) := by
 have e8 : signedI n 8 = if n % 256 / 128 = 1 then n % 256 - 256 else n % 256 := by unfold signedI; rfl
 have e12 : signedI n 12 = if n % 4096 / 2048 = 1 then n % 4096 - 4096 else n % 4096 := by unfold signedI; rfl
 rw [e8, e12]
 constructor <;> split <;> omega
theorem decI_in (w : Int) : InI (decI w).1 := by
 unfold decI
 split
 ·exact ⟨by decide, by decide, by decide⟩
 split
 ·rename_i r _
  have h := sgnI_bd w
  refine ⟨?_, ?_, ?_⟩
  ·show 0 ≤ (if uses1 r.shape = true then w / 256 % 16 else 0) ∧ (if uses1 r.shape = true then w / 256 % 16 else 0) < 16
   split <;> omega
  ·show 0 ≤ (if uses2 r.shape = true then w / 16 % 16 else 0) ∧ (if uses2 r.shape = true then w / 16 % 16 else 0) < 16
   split <;> omega
  ·show -4096 ≤ immOf w r.shape ∧ immOf w r.shape ≤ 4096
   unfold immOf
   (repeat' split) <;> omega
 ·exact ⟨by decide, by decide, by decide⟩
theorem fetchM_in (m : Mach) (a : Int) : InI (fetchM m a).1 := by
 unfold fetchM
 split
 ·exact decI_in _
 ·exact ⟨by decide, by decide, by decide⟩
theorem and_bd (a b : Int) : -2147483648 ≤ and32M a b ∧ and32M a b ≤ 2147483647 := by unfold and32M; exact bit32_bd _ a b
theorem or_bd (a b : Int) : -2147483648 ≤ or32M a b ∧ or32M a b ≤ 2147483647 := by unfold or32M; exact bit32_bd _ a b
theorem xor_bd (a b : Int) : -2147483648 ≤ xor32M a b ∧ xor32M a b ≤ 2147483647 := by unfold xor32M; exact bit32_bd _ a b
theorem up_in {r : Nat → Int} {n v : Int} (h : ∀ j, j < 16 → -2147483648 ≤ r j ∧ r j ≤ 2147483647) (h1 : -2147483648 ≤ v) (h2 : v ≤ 2147483647) : ∀ j, j < 16 → -2147483648 ≤ up r n v j ∧ up r n v j ≤ 2147483647 := by
 intro j hj
 unfold up
 split
 ·exact ⟨h1, h2⟩
 ·exact h j hj
theorem setM_in {k : Nat} {m : Mach} {n v : Int} (h : InM k m) (h1 : -2147483648 ≤ v ∧ v ≤ 2147483647) : InM k (setM m n v) := ⟨up_in h.regs h1.1 h1.2, h.pc, h.pr, h.base, h.len, h.syms, h.told, h.steps⟩
theorem setT_in {k : Nat} {m : Mach} {t : Bool} (h : InM k m) : InM k (setT m t) := ⟨h.regs, h.pc, h.pr, h.base, h.len, h.syms, h.told, h.steps⟩
theorem loadM_in {k : Nat} {m : Mach} {i : Ins} {a : Int} (h : InM k m) : InM k (loadM m i a).1 := by
 unfold loadM
 refine iteInduction (motive := fun x : Mach × Int => InM k x.1) (fun _ => ?_) (fun _ => h)
 refine setM_in h ?_
 split <;> exact sg_bd _
theorem putM_in {k : Nat} {m : Mach} {i : Ins} (h : InM k m) : InM k (putM m i).1 := by
 unfold putM
 split
 ·exact ⟨h.regs, h.pc, h.pr, h.base, by show (putN _ _ _ _).length ≤ _; rw [putN_len]; exact h.len, h.syms, h.told, h.steps⟩
 ·exact h
theorem sumM_in {k : Nat} {m : Mach} {i : Ins} (h : InM k m) (hi : InI i) : InM k (sumM m i) := by
 have hrm := ixm hi.m h
 have hrn := ixr hi.n h
 unfold sumM
 dsimp only
 split
 ·exact setM_in h hrm
 split
 ·exact setM_in h (sg_bd _)
 split
 ·exact setM_in h (sg_bd _)
 split
 ·exact setM_in h (and_bd _ _)
 split
 ·exact setM_in h (or_bd _ _)
 split
 ·exact setM_in h (xor_bd _ _)
 split
 ·exact setT_in h
 split
 ·exact setT_in h
 split
 ·exact setT_in h
 ·exact h
theorem plainM_in {k : Nat} {m : Mach} {i : Ins} {a : Int} (h : InM k m) (hi : InI i) : InM (k + 1) (plainM m i a).1 := by
 have hrm := ixm hi.m h
 have hrn := ixr hi.n h
 have hq := hi.imm
 have hm := h.mono (Nat.le_add_right k 1)
 unfold plainM
 dsimp only
 split
 ·exact setM_in hm (by omega)
 split
 ·exact setM_in hm (sg_bd _)
 split
 ·exact setT_in (setM_in hm (sg_bd _))
 split
 ·exact setT_in (setM_in hm (by omega))
 split
 ·exact setT_in (setM_in hm (sg_bd _))
 split
 ·exact loadM_in hm
 split
 ·exact putM_in hm
 split
 ·exact ⟨h.regs, hm.pc, hm.pr, h.base, h.len, h.syms, by show (m.told ++ _).length ≤ _; rw [List.length_append, List.length_singleton]; have := h.told; omega, hm.steps⟩
 ·exact sumM_in hm hi
theorem plainM_pc (m : Mach) (i : Ins) (a : Int) : (plainM m i a).1.pc = m.pc := by
 have hl : (loadM m i a).1.pc = m.pc := by
  unfold loadM
  exact iteInduction (motive := fun x : Mach × Int => x.1.pc = m.pc) (fun _ => rfl) (fun _ => rfl)
 have hp : (putM m i).1.pc = m.pc := by
  unfold putM
  exact iteInduction (motive := fun x : Mach × Int => x.1.pc = m.pc) (fun _ => rfl) (fun _ => rfl)
 have hs : (sumM m i).pc = m.pc := by
  unfold sumM
  dsimp only
  repeat' (first | rfl | refine iteInduction (motive := fun x : Mach => x.pc = m.pc) (fun _ => ?_) (fun _ => ?_))
 unfold plainM
 dsimp only
 repeat' (first | rfl | exact hl | exact hp | exact hs | refine iteInduction (motive := fun x : Mach × Int => x.1.pc = m.pc) (fun _ => ?_) (fun _ => ?_))
theorem leapM_in {k : Nat} {m : Mach} {i : Ins} (h : InM k m) (hi : InI i) : InM (k + 1) (leapM m i).1 ∧ (leapM m i).1.pc = m.pc ∧ -5000000000 - 100000 * (k + 1 : Int) ≤ (leapM m i).2.1 ∧ (leapM m i).2.1 ≤ 5000000000 + 100000 * (k + 1 : Int) := by
 have hm := h.mono (Nat.le_add_right k 1)
 have hpr := h.pr
 have hpc := h.pc
 have hrn := ixr hi.n h
 have hto := toM_bd (a := m.pc) hi.imm.1 hi.imm.2
 have hpr' : InM (k + 1) { m with pr := m.pc + 4 } := ⟨h.regs, hm.pc, by show _ ≤ m.pc + 4 ∧ m.pc + 4 ≤ _; omega, h.base, h.len, h.syms, hm.told, hm.steps⟩
 unfold leapM
 split
 ·refine ⟨hm, rfl, ?_, ?_⟩ <;> (dsimp only; split <;> omega)
 split
 ·refine ⟨hm, rfl, ?_, ?_⟩ <;> (dsimp only; split <;> omega)
 split
 ·exact ⟨hm, rfl, by dsimp only; omega, by dsimp only; omega⟩
 split
 ·exact ⟨hm, rfl, by dsimp only; omega, by dsimp only; omega⟩
 split
 ·exact ⟨hpr', rfl, by dsimp only; omega, by dsimp only; omega⟩
 split
 ·exact ⟨hpr', rfl, by dsimp only; omega, by dsimp only; omega⟩
 ·exact ⟨hm, rfl, by dsimp only; omega, by dsimp only; omega⟩
def stepR (m : Mach) : D := .tup [machD (stepM m).1, .bool (stepM m).2.1, .int .i64 (stepM m).2.2]
theorem step_meets : Meets Tryz.prog n_sim_Step (SpecP (fun m : Mach => InM 9990 m) (fun m => [machD m]) stepR) := by
 refine meets_f tabOk Tryz.func54 rfl (by decide) ?_
 rintro m hm
 have hm' := hm.mono (show 9990 ≤ 10000 by decide)
 have hpc := hm.pc
 have hpr := hm.pr
 have htold := hm.told
 have hst := hm.steps
 have hm1 : InM 9991 { m with steps := m.steps + 1 } := ⟨hm.regs, by show _ ≤ m.pc ∧ m.pc ≤ _; omega, by show _ ≤ m.pr ∧ m.pr ≤ _; omega, hm.base, hm.len, hm.syms, by show m.told.length ≤ _; omega, by show _ ≤ m.steps + 1 ∧ m.steps + 1 ≤ _; omega⟩
 refine ⟨Nat.le_refl _, by simp [Tryz.f54], fun E hE => ?_⟩
 refine vcOk _ ?_
 (all_goals refine qgv (Lf.mk ?_))
 refine call_p mown_meets m ⟨hm.len, hm.syms, by omega⟩ (VS.mk (LeL.of_eq rfl)) ?_
 (all_goals refine qgv (Lf.mk ?_))
 have hI := fetchM_in m m.pc
 obtain ⟨i, e, hie⟩ : ∃ i e, fetchM m m.pc = (i, e) := ⟨_, _, rfl⟩
 refine call_f fetch_meets [2] [2] (m, m.pc) ⟨hm', by omega, by omega⟩ rfl rfl ?_
 dsimp only
 rw [hie] at hI ⊢
 refine And.intro (VS.mk (LeL.of_eq rfl)) (And.intro (VS.mk rfl) ?_)
 (all_goals refine qgv ?_ <;> (repeat' first | exact trivial | intro hc | refine And.intro ?_ ?_) <;> refine Lf.mk ?_)
 ·have hS : stepM m = (mach0, false, e) := by unfold stepM; rw [hie]; dsimp only; (repeat (first | (rw [if_pos (by assumption)]) | (rw [if_neg (by assumption)])))
  refine end_p (VS.mk ?_)
  unfold stepR; rw [hS]
  (first | exact LeL.refl _ | (repeat' (first | exact LeL.nil | exact LeD.refl _ | exact LeD.nil _ | exact LeD.strip _ _ _ | refine LeL.cons ?_ ?_ | refine LeD.tup ?_ | refine LeD.agg ?_)))
  all_goals first | exact LeD.ff rfl | skip
 ·have hS : stepM m = ({ m with steps := m.steps + 1 }, true, 0) := by unfold stepM; rw [hie]; dsimp only; rw [if_neg (by omega), if_pos (by omega)]
  refine end_p (VS.mk ?_)
  unfold stepR; rw [hS]
  (first | exact LeL.refl _ | (repeat' (first | exact LeL.nil | exact LeD.refl _ | exact LeD.nil _ | exact LeD.strip _ _ _ | refine LeL.cons ?_ ?_ | refine LeD.tup ?_ | refine LeD.agg ?_)))
  all_goals first | exact LeD.tt rfl | skip
 all_goals
  refine call_p leads_meets i.op trivial (VS.mk (LeL.of_eq rfl)) ?_
  (all_goals refine qgv ?_ <;> (repeat' first | exact trivial | intro hc | refine And.intro ?_ ?_) <;> refine Lf.mk ?_)
 ·have hP := plainM_in (k := 9991) (a := m.pc) hm1 hI
  have hpp := plainM_pc { m with steps := m.steps + 1 } i m.pc
  obtain ⟨x, f, hx⟩ : ∃ x f, plainM { m with steps := m.steps + 1 } i m.pc = (x, f) := ⟨_, _, rfl⟩
  rw [hx] at hP hpp
  have hS : stepM m = if f ≠ 0 then (mach0, false, f) else ({ x with pc := x.pc + 2 }, false, 0) := by unfold stepM; rw [hie]; dsimp only; rw [if_neg (by omega), if_neg (by omega), if_pos hc, hx]
  refine call_f plain_meets [2] [2] ({ m with steps := m.steps + 1 }, i, m.pc) ⟨hm1.mono (by decide), hI, by omega, by omega⟩ rfl rfl ?_
  dsimp only
  rw [hx]
  refine And.intro (VS.mk (LeL.of_eq rfl)) (And.intro (VS.mk rfl) ?_)
  have hxp := hP.pc
  (all_goals refine qgv ?_ <;> (repeat' first | exact trivial | intro hc | refine And.intro ?_ ?_) <;> refine Lf.mk ?_)
  ·rw [if_pos hc] at hS
   refine end_p (VS.mk ?_)
   unfold stepR; rw [hS]
   (first | exact LeL.refl _ | (repeat' (first | exact LeL.nil | exact LeD.refl _ | exact LeD.nil _ | exact LeD.strip _ _ _ | refine LeL.cons ?_ ?_ | refine LeD.tup ?_ | refine LeD.agg ?_)))
   all_goals first | exact LeD.ff rfl | skip
  ·rw [if_neg (by omega)] at hS
   refine end_p (VS.mk ?_)
   unfold stepR; rw [hS]
   (first | exact LeL.refl _ | (repeat' (first | exact LeL.nil | exact LeD.refl _ | exact LeD.nil _ | exact LeD.strip _ _ _ | refine LeL.cons ?_ ?_ | refine LeD.tup ?_ | refine LeD.agg ?_)))
   all_goals first | exact LeD.ff rfl | skip
 ·have hL := leapM_in (k := 9991) hm1 hI
  obtain ⟨x, to, late, hx⟩ : ∃ x to late, leapM { m with steps := m.steps + 1 } i = (x, to, late) := ⟨_, _, _, rfl⟩
  rw [hx] at hL
  obtain ⟨hL1, hL2, hL3, hL4⟩ := hL
  dsimp only at hL1 hL2 hL3 hL4
  have hxp := hL1.pc
  have hS : stepM m = if late = true then lateM x to else ({ x with pc := to }, false, 0) := by unfold stepM; rw [hie]; dsimp only; rw [if_neg (by omega), if_neg (by omega), if_neg (by rw [hc]; decide), hx]
  refine call_f leap_meets [2] [2] ({ m with steps := m.steps + 1 }, i) ⟨hm1.mono (by decide), hI⟩ rfl rfl ?_
  dsimp only
  rw [hx]
  dsimp only
  refine And.intro (VS.mk (LeL.of_eq rfl)) (And.intro (VS.mk rfl) ?_)
  (all_goals refine qgv ?_ <;> (repeat' first | exact trivial | intro hc | refine And.intro ?_ ?_) <;> refine Lf.mk ?_)
  ·rw [if_pos hc] at hS
   have hJ := fetchM_in x (x.pc + 2)
   obtain ⟨j, e', hj⟩ : ∃ j e', fetchM x (x.pc + 2) = (j, e') := ⟨_, _, rfl⟩
   refine call_f fetch_meets [2] [2] (x, x.pc + 2) ⟨hL1.mono (by decide), by omega, by omega⟩ rfl rfl ?_
   dsimp only
   rw [hj] at hJ ⊢
   dsimp only at hJ ⊢
   refine And.intro (VS.mk (LeL.of_eq rfl)) (And.intro (VS.mk rfl) ?_)
   (all_goals refine qgv ?_ <;> (repeat' first | exact trivial | intro hc | refine And.intro ?_ ?_) <;> refine Lf.mk ?_)
   ·refine call_p leads_meets j.op trivial (VS.mk (LeL.of_eq rfl)) ?_
    (all_goals refine qgv ?_ <;> (repeat' first | exact trivial | intro hc | refine And.intro ?_ ?_) <;> refine Lf.mk ?_)
    ·have hT : lateM x to = (mach0, false, 8) := by unfold lateM; rw [hj]; dsimp only; rw [if_neg (by omega), if_pos (.inl (by assumption))]
     refine end_p (VS.mk ?_)
     unfold stepR; rw [hS, hT]
     (first | exact LeL.refl _ | (repeat' (first | exact LeL.nil | exact LeD.refl _ | exact LeD.nil _ | exact LeD.strip _ _ _ | refine LeL.cons ?_ ?_ | refine LeD.tup ?_ | refine LeD.agg ?_)))
     all_goals first | exact LeD.ff rfl | skip
    ·have hT : lateM x to = (mach0, false, 8) := by unfold lateM; rw [hj]; dsimp only; rw [if_neg (by omega), if_pos (.inr (by assumption))]
     refine end_p (VS.mk ?_)
     unfold stepR; rw [hS, hT]
     (first | exact LeL.refl _ | (repeat' (first | exact LeL.nil | exact LeD.refl _ | exact LeD.nil _ | exact LeD.strip _ _ _ | refine LeL.cons ?_ ?_ | refine LeD.tup ?_ | refine LeD.agg ?_)))
     all_goals first | exact LeD.ff rfl | skip
    have hnl : ¬ (leadsM j.op = true ∨ j.op = 27) := by
     rintro (h | h)
     ·have h9 : leadsM j.op = false := by assumption
      rw [h] at h9; cases h9
     ·omega
    have hP := plainM_in (k := 9992) (a := x.pc + 2) hL1 hJ
    have hpp := plainM_pc x j (x.pc + 2)
    obtain ⟨y, f, hy⟩ : ∃ y f, plainM x j (x.pc + 2) = (y, f) := ⟨_, _, rfl⟩
    rw [hy] at hP hpp
    have hT : lateM x to = if f ≠ 0 then (mach0, false, f) else ({ y with pc := to }, false, 0) := by unfold lateM; rw [hj]; dsimp only; rw [if_neg (by omega), if_neg hnl, hy]
    refine call_f plain_meets [2] [2] (x, j, x.pc + 2) ⟨hL1.mono (by decide), hJ, by omega, by omega⟩ rfl rfl ?_
    dsimp only
    rw [hy]
    refine And.intro (VS.mk (LeL.of_eq rfl)) (And.intro (VS.mk rfl) ?_)
    (all_goals refine qgv ?_ <;> (repeat' first | exact trivial | intro hc | refine And.intro ?_ ?_) <;> refine Lf.mk ?_)
    ·rw [if_pos hc] at hT
     refine end_p (VS.mk ?_)
     unfold stepR; rw [hS, hT]
     (first | exact LeL.refl _ | (repeat' (first | exact LeL.nil | exact LeD.refl _ | exact LeD.nil _ | exact LeD.strip _ _ _ | refine LeL.cons ?_ ?_ | refine LeD.tup ?_ | refine LeD.agg ?_)))
     all_goals first | exact LeD.ff rfl | skip
    ·rw [if_neg (by omega)] at hT
     refine end_p (VS.mk ?_)
     unfold stepR; rw [hS, hT]
     (first | exact LeL.refl _ | (repeat' (first | exact LeL.nil | exact LeD.refl _ | exact LeD.nil _ | exact LeD.strip _ _ _ | refine LeL.cons ?_ ?_ | refine LeD.tup ?_ | refine LeD.agg ?_)))
     all_goals first | exact LeD.ff rfl | skip
   ·have hT : lateM x to = (mach0, false, e') := by unfold lateM; rw [hj]; dsimp only; rw [if_pos (by assumption)]
    refine end_p (VS.mk ?_)
    unfold stepR; rw [hS, hT]
    (first | exact LeL.refl _ | (repeat' (first | exact LeL.nil | exact LeD.refl _ | exact LeD.nil _ | exact LeD.strip _ _ _ | refine LeL.cons ?_ ?_ | refine LeD.tup ?_ | refine LeD.agg ?_)))
    all_goals first | exact LeD.ff rfl | skip
  ·rw [if_neg (by rw [hc]; decide)] at hS
   refine end_p (VS.mk ?_)
   unfold stepR; rw [hS]
   (first | exact LeL.refl _ | (repeat' (first | exact LeL.nil | exact LeD.refl _ | exact LeD.nil _ | exact LeD.strip _ _ _ | refine LeL.cons ?_ ?_ | refine LeD.tup ?_ | refine LeD.agg ?_)))
   all_goals first | exact LeD.ff rfl | skip
 ·have hP := plainM_in (k := 9991) (a := m.pc) hm1 hI
  have hpp := plainM_pc { m with steps := m.steps + 1 } i m.pc
  obtain ⟨x, f, hx⟩ : ∃ x f, plainM { m with steps := m.steps + 1 } i m.pc = (x, f) := ⟨_, _, rfl⟩
  rw [hx] at hP hpp
  have hS : stepM m = if f ≠ 0 then (mach0, false, f) else ({ x with pc := x.pc + 2 }, false, 0) := by unfold stepM; rw [hie]; dsimp only; rw [if_neg (by omega), if_neg (by omega), if_pos hc, hx]
  refine call_f plain_meets [2] [2] ({ m with steps := m.steps + 1 }, i, m.pc) ⟨hm1.mono (by decide), hI, by omega, by omega⟩ rfl rfl ?_
  dsimp only
  rw [hx]
  refine And.intro (VS.mk (LeL.of_eq rfl)) (And.intro (VS.mk rfl) ?_)
  have hxp := hP.pc
  (all_goals refine qgv ?_ <;> (repeat' first | exact trivial | intro hc | refine And.intro ?_ ?_) <;> refine Lf.mk ?_)
  ·rw [if_pos hc] at hS
   refine end_p (VS.mk ?_)
   unfold stepR; rw [hS]
   (first | exact LeL.refl _ | (repeat' (first | exact LeL.nil | exact LeD.refl _ | exact LeD.nil _ | exact LeD.strip _ _ _ | refine LeL.cons ?_ ?_ | refine LeD.tup ?_ | refine LeD.agg ?_)))
   all_goals first | exact LeD.ff rfl | skip
  ·rw [if_neg (by omega)] at hS
   refine end_p (VS.mk ?_)
   unfold stepR; rw [hS]
   (first | exact LeL.refl _ | (repeat' (first | exact LeL.nil | exact LeD.refl _ | exact LeD.nil _ | exact LeD.strip _ _ _ | refine LeL.cons ?_ ?_ | refine LeD.tup ?_ | refine LeD.agg ?_)))
   all_goals first | exact LeD.ff rfl | skip
 ·have hL := leapM_in (k := 9991) hm1 hI
  obtain ⟨x, to, late, hx⟩ : ∃ x to late, leapM { m with steps := m.steps + 1 } i = (x, to, late) := ⟨_, _, _, rfl⟩
  rw [hx] at hL
  obtain ⟨hL1, hL2, hL3, hL4⟩ := hL
  dsimp only at hL1 hL2 hL3 hL4
  have hxp := hL1.pc
  have hS : stepM m = if late = true then lateM x to else ({ x with pc := to }, false, 0) := by unfold stepM; rw [hie]; dsimp only; rw [if_neg (by omega), if_neg (by omega), if_neg (by rw [hc]; decide), hx]
  refine call_f leap_meets [2] [2] ({ m with steps := m.steps + 1 }, i) ⟨hm1.mono (by decide), hI⟩ rfl rfl ?_
  dsimp only
  rw [hx]
  dsimp only
  refine And.intro (VS.mk (LeL.of_eq rfl)) (And.intro (VS.mk rfl) ?_)
  (all_goals refine qgv ?_ <;> (repeat' first | exact trivial | intro hc | refine And.intro ?_ ?_) <;> refine Lf.mk ?_)
  ·rw [if_pos hc] at hS
   have hJ := fetchM_in x (x.pc + 2)
   obtain ⟨j, e', hj⟩ : ∃ j e', fetchM x (x.pc + 2) = (j, e') := ⟨_, _, rfl⟩
   refine call_f fetch_meets [2] [2] (x, x.pc + 2) ⟨hL1.mono (by decide), by omega, by omega⟩ rfl rfl ?_
   dsimp only
   rw [hj] at hJ ⊢
   dsimp only at hJ ⊢
   refine And.intro (VS.mk (LeL.of_eq rfl)) (And.intro (VS.mk rfl) ?_)
   (all_goals refine qgv ?_ <;> (repeat' first | exact trivial | intro hc | refine And.intro ?_ ?_) <;> refine Lf.mk ?_)
   ·refine call_p leads_meets j.op trivial (VS.mk (LeL.of_eq rfl)) ?_
    (all_goals refine qgv ?_ <;> (repeat' first | exact trivial | intro hc | refine And.intro ?_ ?_) <;> refine Lf.mk ?_)
    ·have hT : lateM x to = (mach0, false, 8) := by unfold lateM; rw [hj]; dsimp only; rw [if_neg (by omega), if_pos (.inl (by assumption))]
     refine end_p (VS.mk ?_)
     unfold stepR; rw [hS, hT]
     (first | exact LeL.refl _ | (repeat' (first | exact LeL.nil | exact LeD.refl _ | exact LeD.nil _ | exact LeD.strip _ _ _ | refine LeL.cons ?_ ?_ | refine LeD.tup ?_ | refine LeD.agg ?_)))
     all_goals first | exact LeD.ff rfl | skip
    ·have hT : lateM x to = (mach0, false, 8) := by unfold lateM; rw [hj]; dsimp only; rw [if_neg (by omega), if_pos (.inr (by assumption))]
     refine end_p (VS.mk ?_)
     unfold stepR; rw [hS, hT]
     (first | exact LeL.refl _ | (repeat' (first | exact LeL.nil | exact LeD.refl _ | exact LeD.nil _ | exact LeD.strip _ _ _ | refine LeL.cons ?_ ?_ | refine LeD.tup ?_ | refine LeD.agg ?_)))
     all_goals first | exact LeD.ff rfl | skip
    have hnl : ¬ (leadsM j.op = true ∨ j.op = 27) := by
     rintro (h | h)
     ·have h9 : leadsM j.op = false := by assumption
      rw [h] at h9; cases h9
     ·omega
    have hP := plainM_in (k := 9992) (a := x.pc + 2) hL1 hJ
    have hpp := plainM_pc x j (x.pc + 2)
    obtain ⟨y, f, hy⟩ : ∃ y f, plainM x j (x.pc + 2) = (y, f) := ⟨_, _, rfl⟩
    rw [hy] at hP hpp
    have hT : lateM x to = if f ≠ 0 then (mach0, false, f) else ({ y with pc := to }, false, 0) := by unfold lateM; rw [hj]; dsimp only; rw [if_neg (by omega), if_neg hnl, hy]
    refine call_f plain_meets [2] [2] (x, j, x.pc + 2) ⟨hL1.mono (by decide), hJ, by omega, by omega⟩ rfl rfl ?_
    dsimp only
    rw [hy]
    refine And.intro (VS.mk (LeL.of_eq rfl)) (And.intro (VS.mk rfl) ?_)
    (all_goals refine qgv ?_ <;> (repeat' first | exact trivial | intro hc | refine And.intro ?_ ?_) <;> refine Lf.mk ?_)
    ·rw [if_pos hc] at hT
     refine end_p (VS.mk ?_)
     unfold stepR; rw [hS, hT]
     (first | exact LeL.refl _ | (repeat' (first | exact LeL.nil | exact LeD.refl _ | exact LeD.nil _ | exact LeD.strip _ _ _ | refine LeL.cons ?_ ?_ | refine LeD.tup ?_ | refine LeD.agg ?_)))
     all_goals first | exact LeD.ff rfl | skip
    ·rw [if_neg (by omega)] at hT
     refine end_p (VS.mk ?_)
     unfold stepR; rw [hS, hT]
     (first | exact LeL.refl _ | (repeat' (first | exact LeL.nil | exact LeD.refl _ | exact LeD.nil _ | exact LeD.strip _ _ _ | refine LeL.cons ?_ ?_ | refine LeD.tup ?_ | refine LeD.agg ?_)))
     all_goals first | exact LeD.ff rfl | skip
   ·have hT : lateM x to = (mach0, false, e') := by unfold lateM; rw [hj]; dsimp only; rw [if_pos (by assumption)]
    refine end_p (VS.mk ?_)
    unfold stepR; rw [hS, hT]
    (first | exact LeL.refl _ | (repeat' (first | exact LeL.nil | exact LeD.refl _ | exact LeD.nil _ | exact LeD.strip _ _ _ | refine LeL.cons ?_ ?_ | refine LeD.tup ?_ | refine LeD.agg ?_)))
    all_goals first | exact LeD.ff rfl | skip
  ·rw [if_neg (by rw [hc]; decide)] at hS
   refine end_p (VS.mk ?_)
   unfold stepR; rw [hS]
   (first | exact LeL.refl _ | (repeat' (first | exact LeL.nil | exact LeD.refl _ | exact LeD.nil _ | exact LeD.strip _ _ _ | refine LeL.cons ?_ ?_ | refine LeD.tup ?_ | refine LeD.agg ?_)))
   all_goals first | exact LeD.ff rfl | skip
attribute [local irreducible] leapM
theorem lateM_in {k : Nat} {m : Mach} {to : Int} (h : InM k m) (h1 : -5000000000 - 100000 * (k + 1 : Int) ≤ to) (h2 : to ≤ 5000000000 + 100000 * (k + 1 : Int)) : (lateM m to).2.2 = 0 → InM (k + 1) (lateM m to).1 := by
 unfold lateM
 dsimp only
 refine iteInduction (motive := fun x : Mach × Bool × Int => x.2.2 = 0 → InM (k + 1) x.1) (fun h h' => absurd h' h) (fun _ => ?_)
 refine iteInduction (motive := fun x : Mach × Bool × Int => x.2.2 = 0 → InM (k + 1) x.1) (fun _ h' => absurd h' (by decide)) (fun _ => ?_)
 refine iteInduction (motive := fun x : Mach × Bool × Int => x.2.2 = 0 → InM (k + 1) x.1) (fun h h' => absurd h' h) (fun _ _ => ?_)
 have hp := plainM_in (k := k) (a := m.pc + 2) h (fetchM_in m (m.pc + 2))
 exact ⟨hp.regs, ⟨by show _ ≤ to; omega, by show to ≤ _; omega⟩, hp.pr, hp.base, hp.len, hp.syms, hp.told, hp.steps⟩
theorem stepM_in {k : Nat} {m : Mach} (h : InM k m) : (stepM m).2.2 = 0 → InM (k + 3) (stepM m).1 := by
 have hI := fetchM_in m m.pc
 have hpc := h.pc
 have hpr := h.pr
 have htold := h.told
 have hst := h.steps
 have hm1 : InM (k + 1) { m with steps := m.steps + 1 } := ⟨h.regs, by show _ ≤ m.pc ∧ m.pc ≤ _; omega, by show _ ≤ m.pr ∧ m.pr ≤ _; omega, h.base, h.len, h.syms, by show m.told.length ≤ _; omega, by show _ ≤ m.steps + 1 ∧ m.steps + 1 ≤ _; omega⟩
 unfold stepM
 dsimp only
 refine iteInduction (motive := fun x : Mach × Bool × Int => x.2.2 = 0 → InM (k + 3) x.1) (fun h h' => absurd h' h) (fun _ => ?_)
 refine iteInduction (motive := fun x : Mach × Bool × Int => x.2.2 = 0 → InM (k + 3) x.1) (fun _ _ => hm1.mono (by omega)) (fun _ => ?_)
 refine iteInduction (motive := fun x : Mach × Bool × Int => x.2.2 = 0 → InM (k + 3) x.1) (fun _ => ?_) (fun _ => ?_)
 ·refine iteInduction (motive := fun x : Mach × Bool × Int => x.2.2 = 0 → InM (k + 3) x.1) (fun h h' => absurd h' h) (fun _ _ => ?_)
  have hp := (plainM_in (k := k + 1) (a := m.pc) hm1 hI).mono (show k + 1 + 1 ≤ k + 3 by omega)
  have hpp := plainM_pc { m with steps := m.steps + 1 } (fetchM m m.pc).1 m.pc
  dsimp only at hpp
  exact ⟨hp.regs, ⟨by show _ ≤ (plainM _ _ _).1.pc + 2; omega, by show (plainM _ _ _).1.pc + 2 ≤ _; omega⟩, hp.pr, hp.base, hp.len, hp.syms, hp.told, hp.steps⟩
 ·obtain ⟨h1, h2, h3, h4⟩ := leapM_in (k := k + 1) hm1 hI
  refine iteInduction (motive := fun x : Mach × Bool × Int => x.2.2 = 0 → InM (k + 3) x.1) (fun _ => ?_) (fun _ _ => ?_)
  ·exact lateM_in (k := k + 2) h1 (by omega) (by omega)
  ·have hp := h1.mono (show k + 1 + 1 ≤ k + 3 by omega)
   exact ⟨hp.regs, ⟨by show _ ≤ (leapM _ _).2.1; omega, by show (leapM _ _).2.1 ≤ _; omega⟩, hp.pr, hp.base, hp.len, hp.syms, hp.told, hp.steps⟩
def zeroC : List D := [.int .i64 0, .int .i64 0, .int .i64 0, .int .i64 0, .int .i64 0, .int .i64 0, .int .i64 0, .int .i64 0, .int .i64 0, .int .i64 0, .int .i64 0, .int .i64 0, .int .i64 0, .int .i64 0, .int .i64 0, .int .i64 0, .ff, .int .i64 0, .int .i64 0, .int .i64 0, .nilsl, .nilsl, .nilsl, .int .i64 0]
def runV (m : Mach) (most : Int) : Mach × Int := if most < 0 ∨ most > 2000 then (mach0, 3) else runM most.toNat m
attribute [local irreducible] stepM
theorem run_meets : Meets Tryz.prog n_sim_Run (SpecP (fun ((m, most) : Mach × Int) => InM 0 m) (fun (m, most) => [machD m, .int .i64 most]) fun (m, most) => .tup [machD (runV m most).1, .int .i64 (runV m most).2]) := by
 refine meets_f tabOk Tryz.func28 rfl (by decide) ?_
 rintro ⟨m, most⟩ hm
 have hm : InM 0 m := hm
 have htold := hm.told
 refine ⟨Nat.le_refl _, by simp [Tryz.f28], fun E hE => ?_⟩
 refine vcOk _ ?_
 (all_goals refine qgv ?_ <;> (repeat' first | exact trivial | intro hc | refine And.intro ?_ ?_) <;> refine Lf.mk ?_)
 ·have hR : runV m most = (mach0, 3) := by unfold runV; rw [if_pos (by omega)]
  refine end_p (VS.mk ?_)
  (try dsimp only); rw [hR]
  (first | exact LeL.refl _ | (repeat' (first | exact LeL.nil | exact LeD.refl _ | exact LeD.nil _ | exact LeD.strip _ _ _ | refine LeL.cons ?_ ?_ | refine LeD.tup ?_ | refine LeD.agg ?_)))
  all_goals first | exact LeD.ff rfl | skip
 ·have hR : runV m most = (mach0, 3) := by unfold runV; rw [if_pos (by omega)]
  refine end_p (VS.mk ?_)
  (try dsimp only); rw [hR]
  (first | exact LeL.refl _ | (repeat' (first | exact LeL.nil | exact LeD.refl _ | exact LeD.nil _ | exact LeD.strip _ _ _ | refine LeL.cons ?_ ?_ | refine LeD.tup ?_ | refine LeD.agg ?_)))
  all_goals first | exact LeD.ff rfl | skip
 have hR : runV m most = runM most.toNat m := by unfold runV; rw [if_neg (by omega)]
 refine call_p mown_meets m ⟨hm.len, hm.syms, by omega⟩ (VS.mk (LeL.of_eq rfl)) ?_
 (all_goals refine qgv (Lf.mk ?_))
 refine awp_loop (α := Nat × Mach) (fun p => (p.1 : Int) ≤ most ∧ InM (3 * p.1) p.2 ∧ runM (most.toNat - p.1) p.2 = runM most.toNat m)
  (fun p => [(19, .int .i64 most), (20, .int .i64 p.1), (6, .loc 2 0), (4, .loc 1 0)])
  (fun p => [.cells (machC m), .cells zeroC, .cells (machC p.2)]) (fun p => most.toNat - p.1) (fun _ => by simp [hE]) (0, m) ⟨by omega, hm, by rw [Nat.sub_zero]⟩ ?_ ?_
 ·(repeat' (first | (refine VS.mk ?_) | exact trivial | exact rfl | refine And.intro ?_ ?_))
 rintro ⟨k, x⟩ ⟨hk, hx, hrun⟩
 dsimp only at hk hx hrun
 refine vcOk _ ?_
 (all_goals refine qgv ?_ <;> (repeat' first | exact trivial | intro hc | refine And.intro ?_ ?_) <;> refine Lf.mk ?_)
 ·refine call_p step_meets x (hx.mono (by omega)) (VS.mk (LeL.of_eq rfl)) ?_
  have hin := stepM_in hx
  obtain ⟨y, en, e, hy⟩ : ∃ y en e, stepM x = (y, en, e) := ⟨_, _, _, rfl⟩
  have hst : runM (most.toNat - k) x = if e ≠ 0 then (mach0, e) else if en = true then (y, 0) else runM (most.toNat - (k + 1)) y := by
   rw [show most.toNat - k = (most.toNat - (k + 1)) + 1 by omega, runM, hy]
  rw [hy] at hin
  unfold stepR
  rw [hy]
  dsimp only at hin ⊢
  (all_goals refine qgv ?_ <;> (repeat' first | exact trivial | intro hc | refine And.intro ?_ ?_) <;> refine Lf.mk ?_)
  ·rw [if_pos hc] at hst
   refine end_p (VS.mk ?_)
   (try dsimp only); rw [hR, ← hrun, hst]
   (first | exact LeL.refl _ | (repeat' (first | exact LeL.nil | exact LeD.refl _ | exact LeD.nil _ | exact LeD.strip _ _ _ | refine LeL.cons ?_ ?_ | refine LeD.tup ?_ | refine LeD.agg ?_)))
   all_goals first | exact LeD.ff rfl | skip
  ·rw [if_neg (by omega), if_pos hc] at hst
   refine end_p (VS.mk ?_)
   (try dsimp only); rw [hR, ← hrun, hst]
   (first | exact LeL.refl _ | (repeat' (first | exact LeL.nil | exact LeD.refl _ | exact LeD.nil _ | exact LeD.strip _ _ _ | refine LeL.cons ?_ ?_ | refine LeD.tup ?_ | refine LeD.agg ?_)))
  ·rw [if_neg (by omega), if_neg (by rw [hc]; decide)] at hst
   refine loop_end (k + 1, y) ⟨by dsimp only; omega, by dsimp only; exact (hin (by assumption)).mono (by omega), by dsimp only; rw [← hst, hrun]⟩ (by dsimp only; omega) ?_
   (repeat' (first | (refine VS.mk ?_) | exact trivial | exact rfl | refine And.intro ?_ ?_))
 ·have hst : runM (most.toNat - k) x = (mach0, 13) := by rw [show most.toNat - k = 0 by omega]; rfl
  refine end_p (VS.mk ?_)
  (try dsimp only); rw [hR, ← hrun, hst]
  (first | exact LeL.refl _ | (repeat' (first | exact LeL.nil | exact LeD.refl _ | exact LeD.nil _ | exact LeD.strip _ _ _ | refine LeL.cons ?_ ?_ | refine LeD.tup ?_ | refine LeD.agg ?_)))
  all_goals first | exact LeD.ff rfl | skip
end Go.Proofs.YthmdddenbfbefaaGreatDoor
namespace Go.Proofs.YthmdddenbfbefaaGreatDoor
open Go Go.Plat
set_option linter.unusedVariables false
set_option linter.unusedSimpArgs false
set_option maxRecDepth 100000
set_option maxHeartbeats 2000000
attribute [local irreducible] AWP Arith BitS BytesS CallS CatS DrawS EndS IdxS LookS LoopEnd Meets ModeS NilS NormL NormM QuoS RemS ShlS ShrS SideS SplitS bitI
structure ObOk (o : OObj) : Prop where
 right : wrongO o = 0
 rels : ∀ r ∈ o.rels, -9223372036854775808 ≤ r.at_ ∧ r.at_ ≤ 9223372036854775807 ∧ r.name.length ≤ 1000000000
 syms : ∀ s ∈ o.syms, s.name.length ≤ 1000000000
abbrev Src := List UInt8 × OObj
def okD (o : OObj) : D := .tup [objD o, .agg [.int .i64 0, .int .i64 0]]
def UnitS (U : Src → Prop) : Prop := Meets Tryz.prog n_asm_Unit (SpecP (fun x : Src => U x) (fun x => [bytesD x.1]) fun x => okD x.2)
theorem unit_of_plain : UnitS (fun x => PlainB x.1 ∧ unitP x.1 = (x.2, 0, 0)) := by
 refine meets_mono unit_plain ?_
 rintro av L d L' ⟨x, ⟨h1, h2⟩, h3, h4, h5⟩
 refine ⟨x.1, h1, h3, h4, h5.1.trans ?_, h5.2⟩
 dsimp only
 rw [h2]
 rfl
attribute [local irreducible] wrongO linkO
theorem fbuild_meets {U : Src → Prop} (hU : UnitS U) : Meets Tryz.prog n_farm_Build (SpecP (fun ((l, base) : List Src × Int) => l.length ≤ 1000 ∧ (∀ x ∈ l, U x ∧ ObOk x.2) ∧ -9223372036854775808 ≤ base ∧ base ≤ 9223372036854775807)
  (fun (l, base) => [.sl 1 (l.map fun x => bytesD x.1) none, .int .i64 base]) fun (l, base) => outD (linkO (l.map (·.2)) base)) := by
 refine meets_f tabOk Tryz.func48 rfl (by decide) ?_
 rintro ⟨l, base⟩ ⟨hl, hx, hb0, hb1⟩
 have hl : l.length ≤ 1000 := hl
 refine ⟨Nat.le_refl _, by simp [Tryz.f48], fun E hE => ?_⟩
 refine vcOk _ ?_
 (all_goals refine qgp (Lf.mk ?_))
 refine awp_weak (weak_nil 6 3 rfl) ?_
 refine awp_loop (α := Nat) (fun k => k ≤ l.length) (fun k => [(1, .int .i64 base), (4, .loc 0 0), (5, .loc 1 0), (11, .sl 1 (l.map fun x => bytesD x.1) none), (12, .int .i64 l.length), (13, .int .i64 k), (6, .sl 3 (((l.take k).map (·.2)).map objD) (some 2))])
  (fun k => [.cells [.int .i64 0, .nilsl, .nilsl], .cells [.int .i64 0, .int .i64 0], .spare ((l.take k).map (·.2)).length]) (fun k => l.length - k) (fun _ => by simp [hE]) 0 (Nat.zero_le _) ?_ ?_
 ·(repeat' (first | (refine VS.mk ?_) | exact trivial | exact rfl | refine And.intro ?_ ?_))
 intro k hk
 have hk : k ≤ l.length := hk
 refine vcOk _ ?_
 (all_goals refine qgp ?_ <;> (repeat' first | exact trivial | intro hc | refine And.intro ?_ ?_) <;> refine Lf.mk ?_)
 ·obtain ⟨x, hxk⟩ := at_of_lt (l := l) (k := k) (by omega)
  have hkl : k < l.length := by omega
  obtain ⟨hu, ho⟩ := hx x (List.mem_of_getElem? hxk)
  have htk : (l.take (k + 1)).map (·.2) = (l.take k).map (·.2) ++ [x.2] := by rw [List.take_add_one, hxk]; simp
  refine ix_map (enc := fun x : Src => bytesD x.1) x (by omega) (by simpa using hxk) ?_
  (all_goals refine qgp ?_ <;> (repeat' first | exact trivial | intro hc | refine And.intro ?_ ?_) <;> refine Lf.mk ?_)
  refine call_p hU x hu (VS.mk (LeL.of_eq rfl)) ?_
  (all_goals refine qgp ?_ <;> (repeat' first | exact trivial | intro hc | refine And.intro ?_ ?_) <;> refine Lf.mk ?_)
  unfold okD objD
  (all_goals refine qgp ?_ <;> (repeat' first | exact trivial | intro hc | refine And.intro ?_ ?_) <;> refine Lf.mk ?_)
  all_goals first
   | (exfalso; exact (by assumption : ¬ True) trivial)
   | skip
  refine call_p owrong_meets x.2 ⟨ho.rels, ho.syms⟩ (VS.mk (LeL.of_eq rfl)) ?_
  dsimp only
  rw [ho.right]
  (all_goals refine qgp ?_ <;> (repeat' first | exact trivial | intro hc | refine And.intro ?_ ?_) <;> refine Lf.mk ?_)
  all_goals first
   | (exfalso; exact (by assumption : ¬ True) trivial)
   | skip
  refine loop_end (k + 1) (by show k + 1 ≤ _; omega) (by omega) ?_
  rw [htk, List.map_append]
  (repeat' (first | (refine VS.mk ?_) | exact trivial | exact rfl | refine And.intro ?_ ?_))
  simp
 ·have hk2 : k = l.length := by omega
  rw [hk2, List.take_length]
  refine call_p link_meets (l.map (·.2), base) ⟨hb0, hb1, by show (l.map (·.2)).length ≤ _; rw [List.length_map]; omega, fun o ho => ?_, fun o ho => ?_⟩ (VS.mk (LeL.of_eq rfl)) ?_
  ·obtain ⟨x, hx1, rfl⟩ := List.mem_map.1 ho
   exact (hx x hx1).2.rels
  ·obtain ⟨x, hx1, rfl⟩ := List.mem_map.1 ho
   exact (hx x hx1).2.syms
  dsimp only
  generalize linkO (l.map (·.2)) base = X
  obtain ⟨⟨ib, ibs, iss⟩, e, a⟩ := X
  unfold outD imgD fltD
  dsimp only
  (all_goals refine qgp ?_ <;> (repeat' first | exact trivial | intro hc | refine And.intro ?_ ?_) <;> refine Lf.mk ?_)
  exact end_p (VS.mk (LeD.refl _))
structure RunIn (U : Src → Prop) (l : List (List UInt8 × OObj)) (base : Int) (img : OImg) (m : Mach) (e : Int) : Prop where
 len : l.length ≤ 4
 ok : ∀ x ∈ l, U x ∧ ObOk x.2
 bas : 0 ≤ base ∧ base ≤ 1048576
 link : linkO (l.map (·.2)) base = (img, 0, 0)
 ibase : img.base = base
 ilen : img.bytes.length ≤ 1000000
 isym : img.syms.length ≤ 1000000
 run : runV (newM img) 2000 = (m, e)
theorem new_in {i : OImg} (h : 0 ≤ i.base ∧ i.base ≤ 1048576) (h1 : i.bytes.length ≤ 1000000) (h2 : i.syms.length ≤ 1000000) : InM 0 (newM i) :=
 ⟨fun _ _ => ⟨by show (-2147483648 : Int) ≤ 0; decide, by show (0 : Int) ≤ 2147483647; decide⟩, ⟨by show _ ≤ i.base; omega, by show i.base ≤ _; omega⟩, ⟨by show _ ≤ (-1 : Int); decide, by show (-1 : Int) ≤ _; decide⟩, h, by show i.bytes.length ≤ _; omega, by show i.syms.length ≤ _; omega, by show 0 ≤ _; decide, ⟨by show (0 : Int) ≤ 0; decide, by show (0 : Int) ≤ _; decide⟩⟩
attribute [local irreducible] runV newM
theorem told_meets {U : Src → Prop} (hU : UnitS U) : Meets Tryz.prog n_pltop_told (SpecP (fun ((l, base, img, m, e) : List Src × Int × OImg × Mach × Int) => RunIn U l base img m e) (fun (l, base, _) => [.int .i64 base, .sl 1 (l.map fun x => .str x.1) none]) fun (_, _, _, m, e) => .tup [.sl 1 (m.told.map intD) none, .int .i64 e]) := by
 refine meets_f tabOk Tryz.func25 rfl (by decide) ?_
 rintro ⟨l, base, img, m, e⟩ h
 have h : RunIn U l base img m e := h
 have hl := h.len
 have hb := h.bas
 refine ⟨Nat.le_refl _, by simp [Tryz.f25], fun E hE => ?_⟩
 refine vcOk _ ?_
 (all_goals refine qgp ?_ <;> (repeat' first | exact trivial | intro hc | refine And.intro ?_ ?_) <;> refine Lf.mk ?_)
 refine awp_weak (weak_nil 6 1 rfl) ?_
 refine awp_loop (α := Nat) (fun k => k ≤ l.length) (fun k => [(0, .int .i64 base), (13, .sl 1 (l.map fun x => .str x.1) none), (14, .int .i64 l.length), (15, .int .i64 k), (6, .sl 1 ((l.take k).map fun x => bytesD x.1) (some 0))])
  (fun k => [.spare (l.take k).length]) (fun k => l.length - k) (fun _ => by simp [hE]) 0 (Nat.zero_le _) ?_ ?_
 ·(repeat' (first | (refine VS.mk ?_) | exact trivial | exact rfl | refine And.intro ?_ ?_))
 intro k hk
 have hk : k ≤ l.length := hk
 refine vcOk _ ?_
 (all_goals refine qgp ?_ <;> (repeat' first | exact trivial | intro hc | refine And.intro ?_ ?_) <;> refine Lf.mk ?_)
 ·obtain ⟨x, hxk⟩ := at_of_lt (l := l) (k := k) (by omega)
  have hkl : k < l.length := by omega
  have htk : l.take (k + 1) = l.take k ++ [x] := by rw [List.take_add_one, hxk]; rfl
  refine ix_map (enc := fun x : Src => D.str x.1) x (by omega) (by simpa using hxk) ?_
  (all_goals refine qgp ?_ <;> (repeat' first | exact trivial | intro hc | refine And.intro ?_ ?_) <;> refine Lf.mk ?_)
  refine loop_end (k + 1) (by show k + 1 ≤ _; omega) (by omega) ?_
  rw [htk, List.map_append]
  (repeat' (first | (refine VS.mk ?_) | exact trivial | exact rfl | refine And.intro ?_ ?_))
  simp
 ·have hk2 : k = l.length := by omega
  rw [hk2, List.take_length]
  refine call_p (fbuild_meets hU) (l, base) ⟨by show l.length ≤ 1000; omega, h.ok, by show _ ≤ base; omega, by show base ≤ _; omega⟩ (VS.mk (LeL.of_eq rfl)) ?_
  dsimp only
  rw [h.link]
  unfold outD imgD fltD
  dsimp only
  (all_goals refine qgp ?_ <;> (repeat' first | exact trivial | intro hc | refine And.intro ?_ ?_) <;> refine Lf.mk ?_)
  all_goals first
   | (exfalso; exact (by assumption : ¬ True) trivial)
   | skip
  refine call_p new_meets img ⟨by have := h.ilen; omega, by have := h.isym; omega⟩ (VS.mk (LeL.of_eq rfl)) ?_
  unfold machD machC
  (all_goals refine qgp ?_ <;> (repeat' first | exact trivial | intro hc | refine And.intro ?_ ?_) <;> refine Lf.mk ?_)
  refine call_p run_meets (newM img, 2000) (new_in (by rw [h.ibase]; exact hb) h.ilen h.isym) (VS.mk (LeL.of_eq rfl)) ?_
  dsimp only
  rw [h.run]
  unfold machD machC
  dsimp only
  (all_goals refine qgp ?_ <;> (repeat' first | exact trivial | intro hc | refine And.intro ?_ ?_) <;> refine Lf.mk ?_)
  exact end_p (VS.mk (LeD.refl _))
end Go.Proofs.YthmdddenbfbefaaGreatDoor
namespace Go.Proofs.YthmdddenbfbefaaGreatDoor
open Go Go.Plat
set_option linter.unusedVariables false
set_option linter.unusedSimpArgs false
set_option maxRecDepth 100000
set_option maxHeartbeats 2000000
attribute [local irreducible] AWP Arith BitS BytesS CallS CatS DrawS EndS IdxS LookS LoopEnd Meets ModeS NilS NormL NormM QuoS RemS ShlS ShrS SideS SplitS bitI
def digT (u : Nat) : List UInt8 := if u < 10 then [UInt8.ofNat (48 + u)] else if u < 100 then [UInt8.ofNat (48 + u / 10), UInt8.ofNat (48 + u % 10)] else [UInt8.ofNat (48 + u / 10 / 10), UInt8.ofNat (48 + u / 10 % 10), UInt8.ofNat (48 + u % 10)]
def strT (n : Int) : List UInt8 := if n < 0 then 45 :: digT n.natAbs else digT n.toNat
theorem dig_eq {u : Nat} (h : u < 1000) : Lib.decDigits u = digT u := by
 unfold digT
 split
 ·exact Lib.decDigits_one (by assumption)
 split
 ·exact Lib.decDigits_two (by assumption) (by assumption)
 ·rw [Lib.decDigits, dif_neg (by assumption), Lib.decDigits_two (by omega) (by omega)]
  rfl
theorem itoa_str {n : Int} (h0 : -1000 < n) (h1 : n < 1000) : Lib.itoa n = strT n := by
 unfold Lib.itoa strT
 rw [dig_eq (by omega), dig_eq (by omega)]
def movT : List UInt8 := [109, 111, 118, 32, 35]
def tailT : List UInt8 := [44, 114, 48, 10, 109, 111, 118, 46, 108, 32, 61, 109, 111, 114, 101, 44, 114, 49, 10, 106, 115, 114, 32, 64, 114, 49, 10, 110, 111, 112, 10, 116, 114, 97, 112, 97, 32, 35, 49, 10, 116, 114, 97, 112, 97, 32, 35, 48, 10]
def moreT : List UInt8 := [109, 111, 114, 101, 58, 32, 114, 116, 115, 10, 97, 100, 100, 32, 35]
def endT : List UInt8 := [44, 114, 48, 10]
def startT : List UInt8 := [115, 116, 97, 114, 116, 58, 32]
def leadT : List UInt8 := [109, 111, 118, 46, 108, 32, 61, 115, 116, 97, 114, 116, 44, 114, 49, 10, 106, 109, 112, 32, 64, 114, 49, 10, 110, 111, 112, 10]
def moreW : List UInt8 := [109, 111, 114, 101]
def startW : List UInt8 := [115, 116, 97, 114, 116]
def mainS (s : List UInt8) : List UInt8 := (movT ++ s) ++ tailT
def moreS (s : List UInt8) : List UInt8 := (moreT ++ s) ++ endT
def mainO (a : Int) : OObj := ⟨[224, lowByte a, 209, 2, 65, 11, 0, 9, 195, 1, 195, 0, 0, 0, 0, 0], [], [⟨12, 4, moreW, 0⟩]⟩
def startO (a : Int) : OObj := ⟨[224, lowByte a, 209, 2, 65, 11, 0, 9, 195, 1, 195, 0, 0, 0, 0, 0], [⟨startW, 0⟩], [⟨12, 4, moreW, 0⟩]⟩
def moreO (b : Int) : OObj := ⟨[0, 11, 112, lowByte b], [⟨moreW, 0⟩], []⟩
def leadO : OObj := ⟨[209, 1, 65, 43, 0, 9, 0, 0, 0, 0, 0, 0], [], [⟨8, 4, startW, 0⟩]⟩
def lineC (x : LLine) : Bool := decide (plainH (headM x)) && decide (x.toks.length ≤ 1000000000) && decide (wt (x.toks.map tk) ≤ 1048576)
def plainC (b : List UInt8) : Bool := decide (b.length ≤ 1000000000) && decide ((linesR b).1.length ≤ 200) && decide (totL (linesR b).1 ≤ 9000) && (linesR b).1.all lineC
theorem plainC_ok {b : List UInt8} (h : plainC b = true) : PlainB b := by
 unfold plainC at h
 simp only [Bool.and_eq_true, decide_eq_true_eq, List.all_eq_true] at h
 obtain ⟨⟨⟨h1, h2⟩, h3⟩, h4⟩ := h
 have h5 : ∀ x ∈ (linesR b).1, plainH (headM x) ∧ x.toks.length ≤ 1000000000 ∧ wt (x.toks.map tk) ≤ 1048576 := fun x hx => by
  have := h4 x hx
  unfold lineC at this
  simp only [Bool.and_eq_true, decide_eq_true_eq] at this
  exact ⟨this.1.1, this.1.2, this.2⟩
 exact ⟨h1, ⟨h2, fun x hx => ⟨(h5 x hx).1, (h5 x hx).2.1⟩⟩, h3, fun x hx => (h5 x hx).2.2⟩
def obC (o : OObj) : Bool := decide (wrongO o = 0) && o.rels.all (fun r => decide (-9223372036854775808 ≤ r.at_ ∧ r.at_ ≤ 9223372036854775807 ∧ r.name.length ≤ 1000000000)) && o.syms.all fun s => decide (s.name.length ≤ 1000000000)
theorem obC_ok {o : OObj} (h : obC o = true) : ObOk o := by
 unfold obC at h
 simp only [Bool.and_eq_true, decide_eq_true_eq, List.all_eq_true] at h
 exact ⟨h.1.1, h.1.2, h.2⟩
theorem at_map {α β : Type} {f g : α → β} {l : List α} (h : l.map f = l.map g) {x : α} (hx : x ∈ l) : f x = g x := by
 induction l with
 | nil => cases hx
 | cons y l ih =>
  rw [List.map_cons, List.map_cons] at h
  injection h with h1 h2
  rcases List.mem_cons.1 hx with rfl | hx
  ·exact h1
  ·exact ih h2 hx
def askT (b : List UInt8) (o : OObj) : (OObj × Int × Int) × Bool × Bool := (unitP b, plainC b, obC o)
theorem main_all : (List.range 201).map (fun k : Nat => askT (mainS (strT ((k : Int) - 100))) (mainO ((k : Int) - 100))) = (List.range 201).map fun k : Nat => ((mainO ((k : Int) - 100), 0, 0), true, true) := by kernel_rfl
theorem start_all : (List.range 201).map (fun k : Nat => askT (startT ++ mainS (strT ((k : Int) - 100))) (startO ((k : Int) - 100))) = (List.range 201).map fun k : Nat => ((startO ((k : Int) - 100), 0, 0), true, true) := by kernel_rfl
theorem more_all : (List.range 201).map (fun k : Nat => askT (moreS (strT ((k : Int) - 100))) (moreO ((k : Int) - 100))) = (List.range 201).map fun k : Nat => ((moreO ((k : Int) - 100), 0, 0), true, true) := by kernel_rfl
theorem lead_all : askT leadT leadO = ((leadO, 0, 0), true, true) := by kernel_rfl
theorem d_byteAt_setAt {l : List UInt8} {j : Int} {c : UInt8} {i : Int} (h : i ≠ j) : byteAt (setAt l j c) i = byteAt l i := by
 unfold setAt
 split
 ·unfold byteAt
  simp only [List.length_set]
  split
  ·rw [List.getD_eq_getElem?_getD, List.getD_eq_getElem?_getD, List.getElem?_set_ne (by omega)]
  ·rfl
 ·rfl
theorem d_byteAt_setAt_same {l : List UInt8} {j : Int} {c : UInt8} (h0 : 0 ≤ j) (h1 : j < l.length) : byteAt (setAt l j c) j = c.toNat := by
 unfold setAt
 rw [if_pos ⟨h0, h1⟩]
 unfold byteAt
 rw [if_pos (by simp; omega)]
 rw [List.getD_eq_getElem?_getD, List.getElem?_set_self (by omega)]
 rfl
theorem d_put_other (at_ : Int) : ∀ (k : Nat) (l : List UInt8) (n i : Int), (i < at_ ∨ at_ + k ≤ i) → byteAt (putN l at_ k n) i = byteAt l i
 | 0, l, n, i, _ => rfl
 | k + 1, l, n, i, h => by
  rw [putN, d_put_other at_ k _ _ i (by omega), d_byteAt_setAt (by omega)]
theorem d_getN_congr {b c : List UInt8} {at_ : Int} : ∀ k : Nat, (∀ i, at_ ≤ i → i < at_ + k → byteAt b i = byteAt c i) → getN b at_ k = getN c at_ k
 | 0, _ => rfl
 | k + 1, h => by rw [getN, getN, d_getN_congr k (fun i h1 h2 => h i h1 (by omega)), h (at_ + k) (by omega) (by omega)]
theorem d_get_put (at_ : Int) (h0 : 0 ≤ at_) : ∀ (k : Nat) (l : List UInt8) (n : Int), at_ + k ≤ l.length → 0 ≤ n → n < 256 ^ k → getN (putN l at_ k n) at_ k = n
 | 0, l, n, _, h1, h2 => by simp at h2; simp [getN]; omega
 | k + 1, l, n, hl, h1, h2 => by
  rw [Int.pow_succ] at h2
  rw [getN, putN, d_get_put at_ h0 k _ _ (by rw [setAt_len]; omega) (by omega) (by omega), d_put_other at_ k _ _ _ (by omega), d_byteAt_setAt_same (by omega) (by omega), lowByte_toNat]
  omega
attribute [local irreducible] blankC digV digitB kindB letterB lexF lexL lexR linesR nameB numC numR numTok okC puF puR signT spanF wordC
end Go.Proofs.YthmdddenbfbefaaGreatDoor
namespace Go.Proofs.YthmdddenbfbefaaGreatDoor
open Go Go.Plat
set_option linter.unusedVariables false
set_option linter.unusedSimpArgs false
set_option maxRecDepth 100000
set_option maxHeartbeats 2000000
attribute [local irreducible] AWP Arith BitS BytesS CallS CatS DrawS EndS IdxS LookS LoopEnd Meets ModeS NilS NormL NormM QuoS RemS ShlS ShrS SideS SplitS bitI blankC digV digitB kindB letterB lexF lexL lexR nameB numC numR numTok okC puF puR signT spanF wordC
end Go.Proofs.YthmdddenbfbefaaGreatDoor
namespace Go.Proofs.YthmdddenbfbefaaGreatDoor
open Go Go.Plat
set_option linter.unusedVariables false
set_option linter.unusedSimpArgs false
set_option maxRecDepth 100000
set_option maxHeartbeats 2000000
attribute [local irreducible] AWP Arith BitS BytesS CallS CatS DrawS EndS IdxS LookS LoopEnd Meets ModeS NilS NormL NormM QuoS RemS ShlS ShrS SideS SplitS bitI
theorem signed32 {n : Int} (h0 : 0 ≤ n) (h1 : n < 4294967296) : signedI n 32 = if n < 2147483648 then n else n - 4294967296 := by
 have : signedI n 32 = if n % 4294967296 / 2147483648 = 1 then n % 4294967296 - 4294967296 else n % 4294967296 := rfl
 rw [this]
 split
 ·rw [if_neg (by omega)]; omega
 ·rw [if_pos (by omega)]; omega
end Go.Proofs.YthmdddenbfbefaaGreatDoor
