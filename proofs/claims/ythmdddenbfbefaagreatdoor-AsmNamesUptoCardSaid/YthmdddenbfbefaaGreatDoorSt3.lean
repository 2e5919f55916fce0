/-
  A part of the proof: what the given program's functions answer, each once; conditions that are enough for it.
-/
import Derived.Test.YthmdddenbfbefaaGreatDoorSt2
import Derived.Test.YthmdddenbfbefaaGreatDoorFw3
import Derived.Test.YthmdddenbfbefaaGreatDoorSt1
namespace Go.Proofs.YthmdddenbfbefaaGreatDoor
open Go Go.Plat
set_option linter.unusedVariables false
set_option linter.unusedSimpArgs false
set_option maxRecDepth 100000
set_option maxHeartbeats 2000000
attribute [local irreducible] AWP Arith BitS BytesS CallS CatS DrawS EndS IdxS Lib.itoa LookS LoopEnd Meets ModeS NilS NormL NormM OExpr.kids OExpr.kind OExpr.n OExpr.name QuoS RemS ShlS ShrS SideS SplitS allA bitI evalE exprD findI idxV labelB nameB nodes oneA pRes regI slotV takeA withV wrongI
def lineO (x : LLine) : Ob := .cells [.int .i64 x.pos, .sl 3 (x.toks.map ltokD) none]
theorem call_label {av : List D} {L : List Ob} {KP : D → Prop} {KW : D → List Ob → Prop} (q : List OEqu) (b : Bld) (t : LTok) (line : Int) (X : List Ob) {k : Nat} (hr : Room b k) (hq : q.length ≤ 1000000) (ht : t.text.length ≤ 1000000000) (hL : L = bO q b ++ X) (has : av = [.loc 0 0, ltokD t, .int .i64 line])
  (hK : KW (.tup []) (bO q (labelB q b t line) ++ X)) : CallS Tryz.prog n_asm_builder_label av L KP KW := by
 subst has
 have hr := hr.less (Nat.zero_le k)
 exact call_b label_meets X (b, t, line, q) ⟨hr.items, hr.syms, hr.marks, hq, ht⟩ hL (LeL.refl _) rfl (.cons (.loc (Nat.lt_of_lt_of_le (by decide : 0 < 6) (Nat.le_of_eq rfl))) (.cons (.agg (.cons .int (.cons .int (.cons .str .nil)))) (.cons .int .nil))) .tup0 (bO_cl _ _) (bO_cl _ _) hK
theorem bO_at (q : List OEqu) (b : Bld) (i : Nat) (o : Ob) (h : (bO q b)[i]? = some o) : ClO 6 o := bO_cl _ _ _ (List.mem_of_getElem? h)
theorem arC_cl (s : RB) (line : Int) : ClO 6 (arC s line) := .cells (.cons (.loc (by decide)) (.cons .sl (.cons .int .nil)))
theorem call_ops {av : List D} {L : List Ob} {KP : D → Prop} {KW : D → List Ob → Prop} (q : List OEqu) (b : Bld) (s : RB) (line : Int) (Y : Ob) (hl : inVal s q) (ht : ∀ t ∈ s.rest, t.text.length ≤ 1000000000) (hL : L = bO q (setF b s) ++ [Y, arC s line]) (has : av = [.loc 7 0])
  (hK : KW (.sl 4 ((allA q line s).1.map aopD) none) (bO q (setF b (allA q line s).2) ++ [Y, arC (allA q line s).2 line])) : CallS Tryz.prog n_asm_reader_all av L KP KW := by
 subst has
 subst hL
 have key : ∀ k, k < 6 → keepAt [0, 1, 2, 3, 4, 5, 7] 0 k = some k := by decide
 have key' : ∀ k, k < 6 → nthO [0, 1, 2, 3, 4, 5, 7] k = some k := by decide
 refine call_sel (L' := bO q (setF b (allA q line s).2) ++ [Y, arC (allA q line s).2 line]) (d := .sl 4 ((allA q line s).1.map aopD) none) (as1 := [.loc 6 0]) (L1 := ardO q b s line) (L1' := ardO q b (allA q line s).2 line) (d1 := .sl 4 ((allA q line s).1.map aopD) none) all_meets [0, 1, 2, 3, 4, 5, 7] rfl ⟨rfl, fun i d d' h1 h2 => ?_⟩ ?_ ⟨(b, s, q, line), ⟨hl, ht⟩, LeL.refl _, rfl, rfl, rfl⟩ (ClD.sl (n := 0) _ fun k hk => absurd hk (Nat.not_lt_zero k)) rfl rfl (fun k hk hn => ?_) (fun i k hi => ?_) hK
 ·cases i with
  | zero =>
   cases h1
   cases h2
   obtain ⟨d', h3, rfl⟩ := renK_eq (show renK (keepAt [0, 1, 2, 3, 4, 5, 7] 0) (.loc 7 0) (fun d' => d' = .loc 6 0) from rfl)
   exact h3
  | succ i => simp at h1
 ·exact .cons (o := .cells (bC q (setF b s))) rfl (bO_at q (setF b s) 0 _ rfl _ key) (.cons (o := .arr 13 (b.items.map itemD)) rfl (bO_at q (setF b s) 1 _ rfl _ key) (.cons (o := .arr 2 (b.syms.map symD)) rfl (bO_at q (setF b s) 2 _ rfl _ key)
   (.cons (o := .spare b.marks.length) rfl (bO_at q (setF b s) 3 _ rfl _ key) (.cons (o := .arr 1 (poolsD (setF b s))) rfl (bO_at q (setF b s) 4 _ rfl _ key) (.cons (o := curO (setF b s)) rfl (bO_at q (setF b s) 5 _ rfl _ key) (.cons (o := arC s line) rfl (arC_cl s line _ key) .nil))))))
 ·match k, hk, hn with
  | 0, _, hn => exact absurd (by decide) hn
  | 1, _, hn => exact absurd (by decide) hn
  | 2, _, hn => exact absurd (by decide) hn
  | 3, _, hn => exact absurd (by decide) hn
  | 4, _, hn => exact absurd (by decide) hn
  | 5, _, hn => exact absurd (by decide) hn
  | 6, _, _ => rfl
  | 7, _, hn => exact absurd (by decide) hn
  | k + 8, hk, _ => exact absurd hk (by simp [bO, bT])
 ·match i, hi with
  | 0, hi => cases hi; exact ⟨.cells (bC q (setF b (allA q line s).2)), _, rfl, rfl, bO_at q (setF b (allA q line s).2) 0 _ rfl _ key'⟩
  | 1, hi => cases hi; exact ⟨.arr 13 (b.items.map itemD), _, rfl, rfl, bO_at q (setF b (allA q line s).2) 1 _ rfl _ key'⟩
  | 2, hi => cases hi; exact ⟨.arr 2 (b.syms.map symD), _, rfl, rfl, bO_at q (setF b (allA q line s).2) 2 _ rfl _ key'⟩
  | 3, hi => cases hi; exact ⟨.spare b.marks.length, _, rfl, rfl, bO_at q (setF b (allA q line s).2) 3 _ rfl _ key'⟩
  | 4, hi => cases hi; exact ⟨.arr 1 (poolsD (setF b (allA q line s).2)), _, rfl, rfl, bO_at q (setF b (allA q line s).2) 4 _ rfl _ key'⟩
  | 5, hi => cases hi; exact ⟨curO (setF b (allA q line s).2), _, rfl, rfl, bO_at q (setF b (allA q line s).2) 5 _ rfl _ key'⟩
  | 6, hi => cases hi; exact ⟨arC (allA q line s).2 line, _, rfl, rfl, arC_cl _ _ _ key'⟩
  | i + 7, hi => simp at hi
theorem outO_no {q : List OEqu} {b b' : Bld} (h : b'.has = true → b.has = true) : outO q b b' = bO q b' := by
 unfold outO
 rw [if_neg fun e => by have := h e.2; rw [e.1] at this; cases this]
def bOn (k : Nat) (q : List OEqu) (b : Bld) : List Ob :=
 [.cells (bCk q b), .arr 13 (b.items.map itemD), .arr 2 (b.syms.map symD), .spare b.marks.length, .arr 1 (b.shut.map shutD ++ [.sl 2 (b.cur.map valD) (some k)]), .dead]
theorem bCk_cl (q : List OEqu) (b : Bld) : ClL 5 (bCk q b) :=
 .cons .sl (.cons (.osl (by decide)) (.cons (.osl (by decide)) (.cons (.tok (by decide)) (.cons (.osl (by decide)) (.cons .int (.cons .nilsl (.cons .nilsl (.cons .nilsl (.cons .int (.cons .int .nil))))))))))
theorem bOn_ren {m : Nat → Option Nat} {k k' : Nat} (q : List OEqu) (b : Bld) (hm : ∀ j, j < 5 → m j = some j) (hk : m k = some k') : ∀ (i : Nat) x y, (bOn k q b)[i]? = some x → (bOn k' q b)[i]? = some y → ObRen m x y := by
 intro i x y h1 h2
 match i, h1, h2 with
 | 0, h1, h2 => cases h1; cases h2; exact ClO.cells (bCk_cl q b) _ hm
 | 1, h1, h2 => cases h1; cases h2; exact ClO.arr (n := 5) (items_cl _) _ hm
 | 2, h1, h2 => cases h1; cases h2; exact ClO.arr (n := 5) (syms_cl _) _ hm
 | 3, h1, h2 => cases h1; cases h2; rfl
 | 4, h1, h2 => cases h1; cases h2; exact pools_ren hk _ _
 | 5, h1, h2 => cases h1; cases h2; rfl
 | i + 6, h1, h2 => simp [bOn] at h1
theorem call_instr {av : List D} {L : List Ob} {KP : D → Prop} {KW : D → List Ob → Prop} (q : List OEqu) (b : Bld) (name : List UInt8) (l : List AOp) (line : Int) (X : List Ob) (hb : InB b) (hl : l.length ≤ 1000000) (hs : ∀ o ∈ l, o.sign.length ≤ 1)
  (hL : L = bO q b ++ X) (has : av = [.loc 0 0, .str name, .sl 4 (l.map aopD) none, .int .i64 line])
  (hK1 : ((instrB b name l line).has = true → b.has = true) → KW (.tup []) (bO q (instrB b name l line) ++ X))
  (hK2 : b.has = false → (instrB b name l line).has = true → KW (.tup []) (bOn L.length q (instrB b name l line) ++ X ++ [.spare (instrB b name l line).cur.length])) : CallS Tryz.prog n_asm_builder_instr av L KP KW := by
 subst has
 have hcl : ClL (bO q b).length [.loc 0 0, .str name, .sl 4 (l.map aopD) none, .int .i64 line] := .cons (.loc (Nat.lt_of_lt_of_le (by decide : 0 < 6) (Nat.le_of_eq rfl))) (.cons .str (.cons .sl (.cons .int .nil)))
 by_cases h : b.has = false ∧ (instrB b name l line).has = true
 ·refine call_pre1 instr_meets (bO q b) X (bOn 6 q (instrB b name l line)) (bOn L.length q (instrB b name l line)) (.spare (instrB b name l line).cur.length) (d := .tup []) hL ⟨(b, name, l, line, q), ⟨hb, hl, hs⟩, LeL.refl _, rfl, rfl, (outO_new h.1 h.2).symm⟩ rfl rfl hcl .tup0 (bO_cl _ _)
   (fun m hm hk => bOn_ren q _ (fun j hj => hm j (Nat.lt_of_lt_of_le hj (by decide : 5 ≤ 6))) hk) .spare (hK2 h.1 h.2)
 ·have hn : (instrB b name l line).has = true → b.has = true := fun e => by
   cases hb : b.has with
   | true => rfl
   | false => exact absurd ⟨hb, e⟩ h
  refine call_pre instr_meets (bO q b) X (bO q (instrB b name l line)) (d := .tup []) hL ⟨(b, name, l, line, q), ⟨hb, hl, hs⟩, LeL.refl _, rfl, rfl, (outO_no hn).symm⟩ rfl hcl .tup0 (bO_cl _ _) (bO_cl _ _) (hK1 hn)
theorem call_data {av : List D} {L : List Ob} {KP : D → Prop} {KW : D → List Ob → Prop} (q : List OEqu) (b : Bld) (size : Int) (l : List AOp) (line : Int) (X : List Ob) (hl : b.items.length + l.length ≤ 1000000) (hs : size = 1 ∨ size = 2 ∨ size = 4)
  (hL : L = bO q b ++ X) (has : av = [.loc 0 0, .int .i64 size, .sl 4 (l.map aopD) none, .int .i64 line]) (hK : KW (.tup []) (bO q (dataB b size l line) ++ X)) : CallS Tryz.prog n_asm_builder_data av L KP KW := by
 subst has
 exact call_b adata_meets X (b, size, l, line, q) ⟨hl, hs⟩ hL (LeL.refl _) rfl (.cons (.loc (Nat.lt_of_lt_of_le (by decide : 0 < 6) (Nat.le_of_eq rfl))) (.cons .int (.cons .sl (.cons .int .nil)))) .tup0 (bO_cl _ _) (bO_cl _ _) hK
theorem call_align {av : List D} {L : List Ob} {KP : D → Prop} {KW : D → List Ob → Prop} (q : List OEqu) (b : Bld) (l : List AOp) (line : Int) (X : List Ob) (hl : b.items.length ≤ 1000000) (hs : l.length ≤ 1000000000)
  (hL : L = bO q b ++ X) (has : av = [.loc 0 0, .sl 4 (l.map aopD) none, .int .i64 line]) (hK : KW (.tup []) (bO q (alignB b l line) ++ X)) : CallS Tryz.prog n_asm_builder_align av L KP KW := by
 subst has
 exact call_b aalign_meets X (b, l, line, q) ⟨hl, hs⟩ hL (LeL.refl _) rfl (.cons (.loc (Nat.lt_of_lt_of_le (by decide : 0 < 6) (Nat.le_of_eq rfl))) (.cons .sl (.cons .int .nil))) .tup0 (bO_cl _ _) (bO_cl _ _) hK
theorem call_pool {av : List D} {L : List Ob} {KP : D → Prop} {KW : D → List Ob → Prop} (q : List OEqu) (b : Bld) (line : Int) (X : List Ob) (hl : b.items.length ≤ 1000000) (hs : b.shut.length ≤ 1000000)
  (hL : L = bO q b ++ X) (has : av = [.loc 0 0, .int .i64 line]) (hK : KW (.tup []) (bO q (poolB b line) ++ X)) : CallS Tryz.prog n_asm_builder_pool av L KP KW := by
 subst has
 exact call_b apool_meets X (b, line, q) ⟨hl, hs⟩ hL (LeL.refl _) rfl (.cons (.loc (Nat.lt_of_lt_of_le (by decide : 0 < 6) (Nat.le_of_eq rfl))) (.cons .int .nil)) .tup0 (bO_cl _ _) (bO_cl _ _) hK
theorem data_has {size line : Int} : ∀ (l : List AOp) (b : Bld), (l.foldl (datB size line) b).has = b.has
 | [], b => rfl
 | o :: l, b => by
  rw [List.foldl_cons, data_has l]
  unfold datB
  repeat' split
  all_goals first | exact failB_has _ _ _ | rfl
theorem dataB_has (b : Bld) (size : Int) (l : List AOp) (line : Int) : (dataB b size l line).has = b.has := by
 unfold dataB
 rw [data_has]
 split
 ·exact failB_has _ _ _
 ·rfl
theorem alignB_has (b : Bld) (l : List AOp) (line : Int) : (alignB b l line).has = b.has := by
 unfold alignB
 repeat' split
 all_goals first | exact failB_has _ _ _ | rfl
theorem poolB_has (b : Bld) (line : Int) : (poolB b line).has = true → b.has = true := by
 unfold poolB
 split
 ·intro _; assumption
 ·exact id
theorem line_meets : Meets Tryz.prog n_asm_builder_line (SpecF (fun ((b, x, q) : Bld × LLine × List OEqu) => Room b (1 + x.toks.length) ∧ wt (x.toks.map tk) ≤ 1048576 ∧ q.length ≤ 1000000) (fun (_, x, _) => [.loc 0 0, llineD x])
  (fun (b, _, q) => bO q b) (fun _ => .tup []) fun (b, x, q) => outO q b (lineB q b x)) := by
 refine meets_f tabOk Tryz.func37 rfl (by decide) ?_
 rintro ⟨b, x, q⟩ ⟨hr, hw, hq⟩
 have hr : Room b (1 + x.toks.length) := hr
 have hw : wt (x.toks.map tk) ≤ 1048576 := hw
 have hq : q.length ≤ 1000000 := hq
 have htx : ∀ t ∈ x.toks, t.text.length ≤ 1000000000 := fun t ht => by
  have : ∀ l : List LTok, t ∈ l → t.text.length ≤ wt (l.map tk) := by
   intro l
   induction l with
   | nil => intro h; cases h
   | cons a l ih =>
    intro h
    rw [List.map_cons, wt]
    rcases List.mem_cons.1 h with rfl | h
    ·show t.text.length ≤ 1 + t.text.length + _; omega
    ·have := ih h; omega
  have := this _ ht
  omega
 refine ⟨outO_len _ _ _, by simp [Tryz.f37], fun E hE => ?_⟩
 have hE6 : E.L.length = 6 := by rw [hE]; rfl
 have hlen : x.toks.length ≤ 1048576 := by have := wt_len (x.toks.map tk); rw [List.length_map] at this; omega
 refine awp_seqK (vcOk _ ?_)
 (all_goals refine qgp ?_ <;> (repeat' first | exact trivial | intro hc | refine And.intro ?_ ?_) <;> refine Lf.mk ?_)
 refine awp_seqK (vcOk _ ?_)
 (all_goals refine qgp ?_ <;> (repeat' first | exact trivial | intro hc | refine And.intro ?_ ?_) <;> refine Lf.mk ?_)
 refine awp_cut (α := Unit) (fun _ => True) (fun _ => [(0, .loc 0 0), (3, .loc 6 0), (4, .sl 3 ((labsF q x.pos x.toks b).2.map ltokD) none)]) (fun _ => bO q (labsF q x.pos x.toks b).1 ++ [lineO x]) ?_ ?_
 ·refine vcOk _ ?_
  (all_goals refine qgp ?_ <;> (repeat' first | exact trivial | intro hc | refine And.intro ?_ ?_) <;> refine Lf.mk ?_)
  have hout : ∀ (l : List LTok) (b1 : Bld), labsF q x.pos l b1 = labsF q x.pos x.toks b → labsF q x.pos l b1 = (b1, l) → (labsF q x.pos x.toks b).1 = b1 ∧ (labsF q x.pos x.toks b).2 = l := fun l b1 h h' => by rw [← h, h']; exact ⟨rfl, rfl⟩
  refine awp_loopW (α := List LTok × Bld) (fun p => labsF q x.pos p.1 p.2 = labsF q x.pos x.toks b ∧ Room p.2 (1 + p.1.length) ∧ (∀ t ∈ p.1, t ∈ x.toks) ∧ p.1.length ≤ 1048576) (fun p => [(0, .loc 0 0), (3, .loc 6 0), (4, .sl 3 (p.1.map ltokD) none)])
   (fun p => bO q p.2 ++ [lineO x]) (fun p => p.1.length) (fun _ => by rw [hE6]; exact Nat.le_succ 6) (x.toks, b) ⟨rfl, hr, fun _ h => h, hlen⟩ ?_ ?_
  ·exact weak_same rfl ⟨rfl, rfl, rfl, trivial⟩
  rintro ⟨l, b1⟩ ⟨i1, i2, i3, i4⟩
  dsimp only at i1 i2 i3 i4 ⊢
  match l, i1, i2, i3, i4 with
  | [], i1, i2, i3, i4 =>
   refine vcOk _ ?_
   (all_goals refine qgp ?_ <;> (repeat' first | exact trivial | intro hc | refine And.intro ?_ ?_) <;> refine Lf.mk ?_)
   obtain ⟨h1, h2⟩ := hout [] b1 i1 (by rw [labsF])
   exact ⟨(), trivial, weak_same (by rw [h1]) ⟨rfl, rfl, by rw [h2]; rfl, trivial⟩⟩
  | [t], i1, i2, i3, i4 =>
   refine vcOk _ ?_
   (all_goals refine qgp ?_ <;> (repeat' first | exact trivial | intro hc | refine And.intro ?_ ?_) <;> refine Lf.mk ?_)
   obtain ⟨h1, h2⟩ := hout [t] b1 i1 (by rw [labsF])
   exact ⟨(), trivial, weak_same (by rw [h1]) ⟨rfl, rfl, by rw [h2]; rfl, trivial⟩⟩
  | t :: c :: r, i1, i2, i3, i4 =>
   have i4 : r.length + 1 + 1 ≤ 1048576 := i4
   refine vcOk _ ?_
   (all_goals refine qgp ?_ <;> (repeat' first | exact trivial | intro hc | refine And.intro ?_ ?_) <;> refine Lf.mk ?_)
   ·rw [labsF, if_pos ⟨by assumption, by assumption, by assumption⟩] at i1
    refine call_label q b1 t x.pos [lineO x] i2 hq (htx t (i3 t List.mem_cons_self)) rfl rfl ?_
    (all_goals refine qgp ?_ <;> (repeat' first | exact trivial | intro hc | refine And.intro ?_ ?_) <;> refine Lf.mk ?_)
    exact loop_same (r, labelB q b1 t x.pos) ⟨i1, Room.label (i2.less (by simp only [List.length_cons]; omega)) t x.pos, fun y hy => i3 y (List.mem_cons_of_mem _ (List.mem_cons_of_mem _ hy)), show r.length ≤ 1048576 by omega⟩ (by simp only [List.length_cons]; omega) rfl ⟨rfl, rfl, rfl, trivial⟩
   all_goals
    obtain ⟨h1, h2⟩ := hout (t :: c :: r) b1 i1 (by rw [labsF, if_neg]; rintro ⟨e1, e2, e3⟩; first | exact absurd e1 hc | exact absurd e2 hc | exact absurd e3 hc)
    exact ⟨(), trivial, weak_same (by rw [h1]) ⟨rfl, rfl, by rw [h2]; rfl, trivial⟩⟩
 ·rintro _ _
  obtain ⟨g1, g2, g3, g4, g5⟩ := labs_room x.toks hr
  have hB : lineB q b x = restB q (labsF q x.pos x.toks b).1 x.pos (labsF q x.pos x.toks b).2 := rfl
  show AWP _ _ _ _ (FinQ _ _ _ _ (outO q b (lineB q b x))) _ _
  have hO : outO q b (lineB q b x) = outO q (labsF q x.pos x.toks b).1 (lineB q b x) := by unfold outO; rw [g5]
  rw [hO, hB]
  generalize (labsF q x.pos x.toks b).1 = b1 at *
  generalize (labsF q x.pos x.toks b).2 = l at *
  clear hO hB
  cases l with
  | nil =>
   refine vcOk _ ?_
   (all_goals refine qgp ?_ <;> (repeat' first | exact trivial | intro hc | refine And.intro ?_ ?_) <;> refine Lf.mk ?_)
   rw [restB, outO_same rfl]
   exact end_bO [_] rfl rfl rfl (Nat.le_of_eq rfl) .tup0
  | cons t r =>
   have g2 : r.length + 1 ≤ x.toks.length := g2
   rw [restB]
   refine vcOk _ ?_
   (all_goals refine qgp ?_ <;> (repeat' first | exact trivial | intro hc | refine And.intro ?_ ?_) <;> refine Lf.mk ?_)
   ·rw [if_pos hc, outO_same rfl]
    exact end_bO [_] rfl rfl rfl (Nat.le_of_eq rfl) .tup0
   ·rw [if_neg (fun h => h (by assumption)), if_pos hc, outO_same (failB_has _ _ _)]
    refine call_fail q b1 2 x.pos [_] rfl rfl ?_
    (all_goals refine qgp ?_ <;> (repeat' first | exact trivial | intro hc | refine And.intro ?_ ?_) <;> refine Lf.mk ?_)
    exact end_bO [_] rfl rfl rfl (Nat.le_of_eq rfl) .tup0
   ·have hfe : b1.fe = 0 := by assumption
    rw [if_neg (fun h => h hfe), if_neg (fun h => h hc)]
    have hAl := allA_len q x.pos ⟨r, b1.fe, b1.fa⟩ hfe
    have hAs := allA_sign q x.pos ⟨r, b1.fe, b1.fa⟩
    rw [List.map_cons, wt] at g3
    refine call_ops q b1 ⟨r, b1.fe, b1.fa⟩ x.pos (lineO x) ⟨by show wt (r.map tk) ≤ _; omega, by omega⟩ (fun y hy => htx y (g4 y (List.mem_cons_of_mem _ hy))) rfl rfl ?_
    generalize allA q x.pos ⟨r, b1.fe, b1.fa⟩ = A at *
    obtain ⟨ops, s2⟩ := A
    dsimp only at hAl hAs ⊢
    have hroom : Room (setF b1 s2) (1 + ops.length) := (g1.less (by simp only [List.length_cons]; omega)).set s2
    have hops : ops.length ≤ 1000000 := by have := hroom.items; omega
    have hb2 : (setF b1 s2).has = b1.has := rfl
    rw [show s2.fe = (setF b1 s2).fe from rfl, show ∀ b', outO q b1 b' = outO q (setF b1 s2) b' from fun b' => rfl]
    generalize setF b1 s2 = b2 at *
    have hin := hroom.inB
    have hri := hroom.items
    have hrs := hroom.shut
    (all_goals refine qgp ?_ <;> (repeat' first | exact trivial | intro hc | refine And.intro ?_ ?_) <;> refine Lf.mk ?_)
    ·rw [if_pos hc, outO_same rfl]
     exact end_bO [_, _] rfl rfl rfl (Nat.le_of_eq rfl) .tup0
    all_goals rw [if_neg (fun h => h (by assumption))]
    all_goals unfold wordB
    all_goals (repeat (first | (rw [if_pos (by assumption)]) | (rw [if_neg (by assumption)])))
    ·rw [outO_same (dataB_has _ _ _ _)]
     refine call_data q b2 1 ops x.pos [_, _] (by omega) (by decide) rfl rfl ?_
     (all_goals refine qgp ?_ <;> (repeat' first | exact trivial | intro hc | refine And.intro ?_ ?_) <;> refine Lf.mk ?_)
     exact end_bO [_, _] rfl rfl rfl (Nat.le_of_eq rfl) .tup0
    ·rw [outO_same (dataB_has _ _ _ _)]
     refine call_data q b2 2 ops x.pos [_, _] (by omega) (by decide) rfl rfl ?_
     (all_goals refine qgp ?_ <;> (repeat' first | exact trivial | intro hc | refine And.intro ?_ ?_) <;> refine Lf.mk ?_)
     exact end_bO [_, _] rfl rfl rfl (Nat.le_of_eq rfl) .tup0
    ·rw [outO_same (dataB_has _ _ _ _)]
     refine call_data q b2 4 ops x.pos [_, _] (by omega) (by decide) rfl rfl ?_
     (all_goals refine qgp ?_ <;> (repeat' first | exact trivial | intro hc | refine And.intro ?_ ?_) <;> refine Lf.mk ?_)
     exact end_bO [_, _] rfl rfl rfl (Nat.le_of_eq rfl) .tup0
    ·rw [outO_same (alignB_has _ _ _)]
     refine call_align q b2 ops x.pos [_, _] (by omega) (by omega) rfl rfl ?_
     (all_goals refine qgp ?_ <;> (repeat' first | exact trivial | intro hc | refine And.intro ?_ ?_) <;> refine Lf.mk ?_)
     exact end_bO [_, _] rfl rfl rfl (Nat.le_of_eq rfl) .tup0
    ·rw [if_pos (show 0 < ops.length by omega), outO_same (failB_has _ _ _)]
     refine call_fail q b2 2 x.pos [_, _] rfl rfl ?_
     (all_goals refine qgp ?_ <;> (repeat' first | exact trivial | intro hc | refine And.intro ?_ ?_) <;> refine Lf.mk ?_)
     exact end_bO [_, _] rfl rfl rfl (Nat.le_of_eq rfl) .tup0
    ·rw [if_neg (show ¬ 0 < ops.length by omega), outO_no (poolB_has _ _)]
     refine call_pool q b2 x.pos [_, _] (by omega) (by omega) rfl rfl ?_
     (all_goals refine qgp ?_ <;> (repeat' first | exact trivial | intro hc | refine And.intro ?_ ?_) <;> refine Lf.mk ?_)
     exact end_bO [_, _] rfl rfl rfl (Nat.le_of_eq rfl) .tup0
    ·refine call_instr q b2 t.text ops x.pos [_, _] hin hops hAs rfl rfl (fun hn => ?_) (fun hn hn' => ?_)
     ·rw [outO_no hn]
      (all_goals refine qgp ?_ <;> (repeat' first | exact trivial | intro hc | refine And.intro ?_ ?_) <;> refine Lf.mk ?_)
      exact end_bO [_, _] rfl rfl rfl (Nat.le_of_eq rfl) .tup0
     ·rw [outO_new hn hn']
      (all_goals refine qgp ?_ <;> (repeat' first | exact trivial | intro hc | refine And.intro ?_ ?_) <;> refine Lf.mk ?_)
      have key : ∀ k, k < 5 → keepAt [0, 1, 2, 3, 4, 5, 8] 0 k = some k := by decide
      generalize instrB b2 t.text ops x.pos = b3 at *
      refine end_keepO [0, 1, 2, 3, 4, 5, 8] rfl rfl ?_ (ClD.tup0 (n := 5) _ key)
      have hr := bOn_ren (m := keepAt [0, 1, 2, 3, 4, 5, 8] 0) (k := 8) (k' := 6) q b3 key rfl
      exact .cons (o := .cells (bCk q b3)) rfl (hr 0 _ _ rfl rfl) (.cons (o := .arr 13 (b3.items.map itemD)) rfl (hr 1 _ _ rfl rfl) (.cons (o := .arr 2 (b3.syms.map symD)) rfl (hr 2 _ _ rfl rfl) (.cons (o := .spare b3.marks.length) rfl (hr 3 _ _ rfl rfl)
       (.cons (o := .arr 1 (b3.shut.map shutD ++ [.sl 2 (b3.cur.map valD) (some 8)])) rfl (hr 4 _ _ rfl rfl) (.cons (o := .dead) rfl rfl (.cons (o := .spare b3.cur.length) rfl rfl .nil))))))
theorem upA_le {n k : Int} (h : 0 < k) : upA n k ≤ n + k - 1 ∧ n ≤ upA n k := by
 unfold upA
 have h1 := Int.ediv_mul_le (n + k - 1) (b := k) (by omega)
 have h2 := Int.lt_ediv_add_one_mul_self (n + k - 1) h
 rw [Int.add_mul, Int.one_mul] at h2
 omega
theorem up_meets : Meets Tryz.prog n_asm_up (SpecP (fun ((n, k) : Int × Int) => 0 ≤ n ∧ n ≤ 1000000000000000 ∧ 0 < k ∧ k ≤ 1000000) (fun (n, k) => [.int .i64 n, .int .i64 k]) fun (n, k) => .int .i64 (upA n k)) := by
 refine meets_f tabOk Tryz.func74 rfl (by decide) ?_
 rintro ⟨n, k⟩ ⟨h1, h2, h3, h4⟩
 have h1 : 0 ≤ n := h1
 have h2 : n ≤ 1000000000000000 := h2
 have h3 : 0 < k := h3
 have h4 : k ≤ 1000000 := h4
 have hu := upA_le (n := n) h3
 refine ⟨Nat.le_refl _, by simp [Tryz.f74], fun E hE => ?_⟩
 refine vcOk _ ?_
 (all_goals refine qgp ?_ <;> (repeat' first | exact trivial | intro hc | refine And.intro ?_ ?_) <;> refine Lf.mk ?_)
 refine ar_i64 (show -9223372036854775808 ≤ upA n k by omega) (show upA n k ≤ 9223372036854775807 by omega) ?_
 (all_goals refine qgp ?_ <;> (repeat' first | exact trivial | intro hc | refine And.intro ?_ ?_) <;> refine Lf.mk ?_)
 exact end_p (VS.mk (LeD.refl _))
def SizeOk (pools : List (List OVal)) (x : AItem) : Prop := (x.kind = 8 → 0 < x.size ∧ x.size ≤ 16) ∧ (x.kind = 7 → 0 < x.size ∧ x.size ≤ 4) ∧ (x.kind = 9 → 0 ≤ x.pool ∧ x.pool < pools.length) ∧ ∀ p ∈ pools, p.length ≤ 1000000
theorem size_meets : Meets Tryz.prog n_asm_builder_size (SpecF (fun ((b, k, x, a, _) : Bld × Nat × AItem × Int × List OEqu) => b.has = false ∧ b.items[k]? = some x ∧ SizeOk b.shut x ∧ 0 ≤ a ∧ a ≤ 100000000000000) (fun (b, k, _, a, _) => [.loc 0 0, .aloc 1 b.items.length k 0, .int .i64 a])
  (fun (b, _, _, _, q) => bO q b) (fun (b, _, x, a, _) => .int .i64 (sizeA b.shut x a)) fun (b, _, _, _, q) => bO q b) := by
 refine meets_f tabOk Tryz.func132 rfl (by decide) ?_
 rintro ⟨⟨items, syms, marks, shut, has, cur, fe, fa⟩, k, x, a, q⟩ ⟨hh, hx, ⟨hs1, hs2, hs3, hs4⟩, ha0, ha1⟩
 have hh : has = false := hh
 subst hh
 have hx : items[k]? = some x := hx
 have hs3 : x.kind = 9 → 0 ≤ x.pool ∧ x.pool < shut.length := hs3
 have hs4 : ∀ p ∈ shut, p.length ≤ 1000000 := hs4
 have ha0 : 0 ≤ a := ha0
 have ha1 : a ≤ 100000000000000 := ha1
 refine ⟨Nat.le_refl _, by simp [Tryz.f132], fun E hE => ?_⟩
 refine vcOk _ ?_
 (all_goals refine qgp ?_ <;> (repeat' first | exact trivial | intro hc | refine And.intro ?_ ?_) <;> refine Lf.mk ?_)
 have hxn : items[((k : Nat) : Int).toNat]? = some x := by rw [Int.toNat_natCast]; exact hx
 have hz : sizeA shut x a = if x.kind = 2 ∧ x.long = true then 6 else if x.kind = 7 then x.size else if x.kind = 8 then upA a x.size - a else if x.kind = 9 then upA a 4 - a + 4 * poolLen shut x.pool else 2 := rfl
 have hu4 := upA_le (n := a) (k := 4) (by decide)
 show IdxS (items.map itemD) _ _
 refine ix_map x (Int.natCast_nonneg k) hxn ?_
 (all_goals refine qgp ?_ <;> (repeat' first | exact trivial | intro hc | refine And.intro ?_ ?_) <;> refine Lf.mk ?_)
 ·refine ix_map x (Int.natCast_nonneg k) hxn ?_
  (all_goals refine qgp ?_ <;> (repeat' first | exact trivial | intro hc | refine And.intro ?_ ?_) <;> refine Lf.mk ?_)
  ·refine end_eq ?_ rfl
   show D.int .i64 6 = D.int .i64 (sizeA shut x a)
   rw [hz, if_pos ⟨by assumption, by assumption⟩]
  ·refine end_eq ?_ rfl
   show D.int .i64 2 = D.int .i64 (sizeA shut x a)
   rw [hz, if_neg (fun h => by simp_all), if_neg (by omega), if_neg (by omega), if_neg (by omega)]
 ·refine ix_map x (Int.natCast_nonneg k) hxn ?_
  (all_goals refine qgp ?_ <;> (repeat' first | exact trivial | intro hc | refine And.intro ?_ ?_) <;> refine Lf.mk ?_)
  refine end_eq ?_ rfl
  show D.int .i64 x.size = D.int .i64 (sizeA shut x a)
  rw [hz, if_neg (by omega), if_pos hc]
 ·have h8 := hs1 hc
  have hu := upA_le (n := a) h8.1
  refine ix_map x (Int.natCast_nonneg k) hxn ?_
  (all_goals refine qgp ?_ <;> (repeat' first | exact trivial | intro hc | refine And.intro ?_ ?_) <;> refine Lf.mk ?_)
  refine call_p up_meets (a, x.size) ⟨ha0, by show a ≤ _; omega, h8.1, by show x.size ≤ _; omega⟩ (VS.mk (LeL.of_eq rfl)) ?_
  (all_goals refine qgp ?_ <;> (repeat' first | exact trivial | intro hc | refine And.intro ?_ ?_) <;> refine Lf.mk ?_)
  refine end_eq ?_ rfl
  show D.int .i64 (upA a x.size - a) = D.int .i64 (sizeA shut x a)
  rw [hz, if_neg (by omega), if_neg (by omega), if_pos hc]
 ·have h9 := hs3 hc
  refine call_p up_meets (a, 4) ⟨ha0, by show a ≤ _; omega, by decide, by decide⟩ (VS.mk (LeL.of_eq rfl)) ?_
  (all_goals refine qgp ?_ <;> (repeat' first | exact trivial | intro hc | refine And.intro ?_ ?_) <;> refine Lf.mk ?_)
  refine ix_map x (Int.natCast_nonneg k) hxn ?_
  (all_goals refine qgp ?_ <;> (repeat' first | exact trivial | intro hc | refine And.intro ?_ ?_) <;> refine Lf.mk ?_)
  have hpl : (poolsD ⟨items, syms, marks, shut, false, cur, fe, fa⟩).length = shut.length := by unfold poolsD; simp
  refine sd_mk ⟨h9.1, by rw [hpl]; exact h9.2⟩ ?_
  (all_goals refine qgp ?_ <;> (repeat' first | exact trivial | intro hc | refine And.intro ?_ ?_) <;> refine Lf.mk ?_)
  have hp : ((shut[x.pool.toNat]?).getD []).length ≤ 1000000 := by
   cases hg : shut[x.pool.toNat]? with
   | none => simp
   | some p => exact hs4 p (List.mem_of_getElem? hg)
  (all_goals refine qgp ?_ <;> (repeat' first | exact trivial | intro hc | refine And.intro ?_ ?_) <;> refine Lf.mk ?_)
  have hgp : (poolsD ⟨items, syms, marks, shut, false, cur, fe, fa⟩)[((0 + x.pool.toNat : Nat) : Int).toNat]? = some (shutD ((shut[x.pool.toNat]?).getD [])) := by
   have hlt : x.pool.toNat < shut.length := by omega
   rw [Int.toNat_natCast, Nat.zero_add]
   unfold poolsD
   simp [List.getElem?_eq_getElem hlt]
  refine ix_rfl (Int.natCast_nonneg _) hgp ?_
  (all_goals refine qgp ?_ <;> (repeat' first | exact trivial | intro hc | refine And.intro ?_ ?_) <;> refine Lf.mk ?_)
  refine end_eq ?_ rfl
  show _ = D.int .i64 (sizeA shut x a)
  rw [hz, if_neg (by omega), if_neg (by omega), if_neg (by omega), if_pos hc]
  rfl
 ·refine end_eq ?_ rfl
  show D.int .i64 2 = D.int .i64 (sizeA shut x a)
  rw [hz, if_neg (by omega), if_neg (by omega), if_neg (by omega), if_neg (by omega)]
attribute [local irreducible] sizeA
theorem placeI_len (pools : List (List OVal)) : ∀ (l : List AItem) (a : Int), (placeI pools l a).1.length = l.length
 | [], a => rfl
 | x :: l, a => by rw [placeI]; simp [placeI_len pools l]
theorem size_le {pools : List (List OVal)} {x : AItem} {a : Int} (h : SizeOk pools x) (h0 : 0 ≤ a) : 0 ≤ sizeA pools x a ∧ sizeA pools x a ≤ 5000000 := by
 obtain ⟨h8, h7, h9, hp⟩ := h
 have hu4 := upA_le (n := a) (k := 4) (by decide)
 have hl : poolLen pools x.pool ≤ 1000000 ∧ 0 ≤ poolLen pools x.pool := by
  unfold poolLen
  cases hg : pools[x.pool.toNat]? with
  | none => simp
  | some p => have := hp p (List.mem_of_getElem? hg); simp; omega
 unfold sizeA
 split
 ·omega
 split
 ·rename_i h; have := h7 h; omega
 split
 ·rename_i h
  have := h8 h
  have hu := upA_le (n := a) this.1
  omega
 split
 ·omega
 ·omega
theorem set_mid {α : Type} {f : α → D} {a b : List α} {x : α} (y : α) {k : Nat} (hk : a.length = k) {d : D} (hd : d = f y) : ((a ++ x :: b).map f).set (0 + ((k : Nat) : Int).toNat) d = ((a ++ [y]) ++ b).map f := by
 subst hd; subst hk
 rw [Nat.zero_add, Int.toNat_natCast, List.map_append, List.set_append_right _ _ (by simp)]
 simp
theorem get_mid {α : Type} {a b : List α} {x : α} {k : Nat} (hk : a.length = k) : (a ++ x :: b)[k]? = some x := by
 subst hk
 rw [List.getElem?_append_right (Nat.le_refl _)]
 simp
theorem bC_same {q : List OEqu} {b b' : Bld} (h1 : b.items.length = b'.items.length) (h2 : b.syms.length = b'.syms.length) (h3 : b.marks = b'.marks) (h4 : poolsD b = poolsD b') (h5 : b.shut = b'.shut) (h6 : b.fe = b'.fe) (h7 : b.fa = b'.fa) : bC q b = bC q b' := by
 unfold bC
 rw [h1, h2, h3, h4, h5, h6, h7]
theorem call_size {av : List D} {L : List Ob} {KP : D → Prop} {KW : D → List Ob → Prop} (q : List OEqu) (b : Bld) (k : Nat) (x : AItem) (a : Int) (hh : b.has = false) (hx : b.items[k]? = some x) (hs : SizeOk b.shut x) (h0 : 0 ≤ a) (h1 : a ≤ 100000000000000) (hL : L = bO q b)
  (has : av = [.loc 0 0, .aloc 1 b.items.length k 0, .int .i64 a]) (hK : KW (.int .i64 (sizeA b.shut x a)) (bO q b)) : CallS Tryz.prog n_asm_builder_size av L KP KW := by
 subst has
 exact call_all size_meets (b, k, x, a, q) ⟨hh, hx, hs, h0, h1⟩ hL (LeL.refl _) hK
theorem set_mid2 {α : Type} {f : α → D} {a b : List α} {x : α} (y : α) {k : Nat} (hk : a.length = k) {d : D} (hd : d = f y) : ((a ++ x :: b).map f).set (0 + ((k : Nat) : Int).toNat) d = (a ++ y :: b).map f := by
 rw [set_mid y hk hd, List.append_assoc]; rfl
theorem placeS_snoc (items : List AItem) (e : Int) : ∀ (ss : List OSym) (ms : List Int) (s : OSym) (m : Int), ss.length = ms.length → placeS items e (ss ++ [s]) (ms ++ [m]) = placeS items e ss ms ++ [⟨s.name, markAt items e m⟩]
 | [], [], s, m, _ => rfl
 | a :: ss, b :: ms, s, m, h => by
  show _ :: placeS items e (ss ++ [s]) (ms ++ [m]) = _ :: (placeS items e ss ms ++ _)
  rw [placeS_snoc items e ss ms s m (by simpa using h)]
 | [], _ :: _, _, _, h => by simp at h
 | _ :: _, [], _, _, h => by simp at h
theorem placeS_len (items : List AItem) (e : Int) : ∀ (ss : List OSym) (ms : List Int), (placeS items e ss ms).length = ss.length
 | [], _ => by rw [placeS]; intro _ _ _ _ h; cases h
 | s :: ss, [] => rfl
 | s :: ss, m :: ms => by rw [placeS, List.length_cons, placeS_len items e ss ms, List.length_cons]
theorem place_meets : Meets Tryz.prog n_asm_builder_place (SpecF (fun ((b, _) : Bld × List OEqu) => b.has = false ∧ (∀ x ∈ b.items, SizeOk b.shut x) ∧ b.items.length ≤ 1000000 ∧ b.marks.length = b.syms.length ∧ b.marks.length ≤ 1000000 ∧ ∀ m ∈ b.marks, 0 ≤ m) (fun _ => [.loc 0 0])
  (fun (b, q) => bO q b) (fun (b, _) => .int .i64 (placeI b.shut b.items 0).2) fun (b, q) => bO q { b with items := (placeI b.shut b.items 0).1, syms := placeS (placeI b.shut b.items 0).1 (placeI b.shut b.items 0).2 b.syms b.marks }) := by
 refine meets_f tabOk Tryz.func69 rfl (by decide) ?_
 rintro ⟨⟨items, syms, marks, shut, has, cur, fe, fa⟩, q⟩ ⟨hh, hsz, hil, hms, hml, hm0⟩
 have hh : has = false := hh
 subst hh
 have hsz : ∀ x ∈ items, SizeOk shut x := hsz
 have hil : items.length ≤ 1000000 := hil
 have hms : marks.length = syms.length := hms
 have hml : marks.length ≤ 1000000 := hml
 have hm0 : ∀ m ∈ marks, 0 ≤ m := hm0
 refine ⟨Nat.le_refl _, by simp [Tryz.f69], fun E hE => ?_⟩
 have hE6 : E.L.length = 6 := by rw [hE]; rfl
 show AWP _ _ _ _ (FinQ _ _ _ (.int .i64 (placeI shut items 0).2) (bO q ⟨(placeI shut items 0).1, placeS (placeI shut items 0).1 (placeI shut items 0).2 syms marks, marks, shut, false, cur, fe, fa⟩)) _ (bO q ⟨items, syms, marks, shut, false, cur, fe, fa⟩)
 have hPl := placeI_len shut items 0
 generalize hP : placeI shut items 0 = P at *
 obtain ⟨PI, PE⟩ := P
 dsimp only at hPl ⊢
 refine vcOk _ ?_
 (all_goals refine qgp ?_ <;> (repeat' first | exact trivial | intro hc | refine And.intro ?_ ?_) <;> refine Lf.mk ?_)
 refine awp_loopW (α := Nat × Int) (fun p => p.1 ≤ items.length ∧ placeI shut (items.drop p.1) p.2 = (PI.drop p.1, PE) ∧ 0 ≤ p.2 ∧ p.2 ≤ 5000000 * (p.1 : Int)) (fun p => [(0, .loc 0 0), (3, .int .i64 p.2), (11, .int .i64 items.length), (12, .int .i64 p.1)])
  (fun p => bO q ⟨PI.take p.1 ++ items.drop p.1, syms, marks, shut, false, cur, fe, fa⟩) (fun p => items.length - p.1) (fun _ => by rw [hE6]; exact Nat.le_refl 6) (0, 0) ⟨Nat.zero_le _, hP, Int.le_refl 0, by simp⟩ ?_ ?_
 ·exact weak_same rfl ⟨rfl, rfl, rfl, rfl, trivial⟩
 rintro ⟨k, a⟩ ⟨i1, i2, i3, i4⟩
 dsimp only at i1 i2 i3 i4 ⊢
 have hlen : (PI.take k ++ items.drop k).length = items.length := by rw [List.length_append, List.length_take, List.length_drop]; omega
 refine vcOk _ ?_
 (all_goals refine qgp ?_ <;> (repeat' first | exact trivial | intro hc | refine And.intro ?_ ?_) <;> refine Lf.mk ?_)
 ·have hkl : k < items.length := by omega
  obtain ⟨x, hx⟩ := at_of_lt (l := items) (k := k) (by omega)
  have hgx : items[k] = x := by rw [List.getElem?_eq_getElem hkl] at hx; exact Option.some.inj hx
  have hxs := hsz x (List.mem_of_getElem? hx)
  have hsl := size_le (a := a) hxs i3
  rw [List.drop_eq_getElem_cons hkl, hgx, placeI] at i2
  obtain ⟨e1, e2⟩ := Prod.mk.inj i2
  have hkP : k < PI.length := by omega
  rw [List.drop_eq_getElem_cons hkP] at e1
  obtain ⟨e3, e4⟩ := List.cons.inj e1
  have hnext : placeI shut (items.drop (k + 1)) (a + sizeA shut x a) = (PI.drop (k + 1), PE) := by rw [← e4, ← e2]
  have htake : PI.take (k + 1) = PI.take k ++ [{ x with at_ := a }] := by rw [List.take_succ_eq_append_getElem hkP, ← e3]
  have hlk : (PI.take k).length = k := by rw [List.length_take]; omega
  have hdrop : items.drop k = x :: items.drop (k + 1) := by rw [List.drop_eq_getElem_cons hkl, hgx]
  have hmid := get_mid (a := PI.take k) (b := items.drop (k + 1)) (x := x) hlk
  have hlen2 : (PI.take (k + 1) ++ items.drop (k + 1)).length = items.length := by rw [List.length_append, List.length_take, List.length_drop]; omega
  rw [hdrop] at hlen ⊢
  refine ix_map x (Int.natCast_nonneg _) (by rw [Int.toNat_natCast, Nat.zero_add, Int.toNat_natCast]; exact hmid) ?_
  (all_goals refine qgk ?_ <;> (repeat' first | exact trivial | intro hc | refine And.intro ?_ ?_) <;> refine Lf.mk ?_)
  refine norm_eq ((PI.take (k + 1) ++ items.drop (k + 1)).map itemD) (by rw [htake]; exact set_mid { x with at_ := a } hlk rfl) ?_
  (all_goals refine qgk ?_ <;> (repeat' first | exact trivial | intro hc | refine And.intro ?_ ?_) <;> refine Lf.mk ?_)
  have hb : (PI.take k ++ x :: items.drop (k + 1)).length = (PI.take (k + 1) ++ items.drop (k + 1)).length := by rw [hlen, hlen2]
  have hx2 : (PI.take (k + 1) ++ items.drop (k + 1))[k]? = some { x with at_ := a } := by rw [htake, List.append_assoc]; exact get_mid hlk
  have hs2 : sizeA shut { x with at_ := a } a = sizeA shut x a := by unfold sizeA; rfl
  refine call_size q ⟨PI.take (k + 1) ++ items.drop (k + 1), syms, marks, shut, false, cur, fe, fa⟩ k { x with at_ := a } a rfl hx2 hxs i3 (by omega) ?_ ?_ ?_
  ·exact congrArg (fun c => Ob.cells c :: bT ⟨PI.take (k + 1) ++ items.drop (k + 1), syms, marks, shut, false, cur, fe, fa⟩) (bC_same hb rfl rfl rfl rfl rfl rfl)
  ·show [D.loc 0 0, .aloc 1 (PI.take k ++ x :: items.drop (k + 1)).length (0 + ((k : Nat) : Int).toNat) 0, .int .i64 a] = _
   rw [hb, Nat.zero_add, Int.toNat_natCast]
  rw [show sizeA (Bld.shut ⟨PI.take (k + 1) ++ items.drop (k + 1), syms, marks, shut, false, cur, fe, fa⟩) { x with at_ := a } a = sizeA shut x a from hs2]
  (all_goals refine qgp ?_ <;> (repeat' first | exact trivial | intro hc | refine And.intro ?_ ?_) <;> refine Lf.mk ?_)
  exact loop_same (k + 1, a + sizeA shut x a) ⟨by show k + 1 ≤ _; omega, hnext, by dsimp only; omega, by dsimp only; omega⟩ (by dsimp only; omega) rfl ⟨rfl, rfl, rfl, rfl, trivial⟩
 ·have hk : k = items.length := by omega
  rw [hk, List.drop_length, placeI] at i2
  obtain ⟨e1, e2⟩ := Prod.mk.inj i2
  have hI : PI.take k ++ items.drop k = PI := by rw [hk, List.drop_length, List.append_nil, ← hPl, List.take_length]
  rw [hI] at hlen ⊢
  subst e2
  clear e1 i2
  refine awp_loopW (α := Nat) (fun j => j ≤ marks.length) (fun j => [(0, .loc 0 0), (3, .int .i64 a), (38, .sl 1 (marks.map (.int .i64)) none), (39, .int .i64 marks.length), (40, .int .i64 j)])
   (fun j => bO q ⟨PI, placeS PI a (syms.take j) (marks.take j) ++ syms.drop j, marks, shut, false, cur, fe, fa⟩) (fun j => marks.length - j) (fun _ => by rw [hE6]; exact Nat.le_refl 6) 0 (Nat.zero_le _) ?_ ?_
  ·refine weak_leS rfl ⟨.refl _, .refl _, .strip _ _ _, .refl _, .refl _, trivial⟩
  intro j hj
  have hj : j ≤ marks.length := hj
  refine vcOk _ ?_
  have hSl : (placeS PI a (syms.take j) (marks.take j)).length = j := by rw [placeS_len, List.length_take]; omega
  (all_goals refine qgp ?_ <;> (repeat' first | exact trivial | intro hc | refine And.intro ?_ ?_) <;> refine Lf.mk ?_)
  ·have hjm : j < marks.length := by omega
   have hjs : j < syms.length := by omega
   obtain ⟨m, hm⟩ := at_of_lt (l := marks) (k := j) (by omega)
   obtain ⟨s, hs⟩ := at_of_lt (l := syms) (k := j) (by omega)
   have hgm : marks[j] = m := by rw [List.getElem?_eq_getElem hjm] at hm; exact Option.some.inj hm
   have hgs : syms[j] = s := by rw [List.getElem?_eq_getElem hjs] at hs; exact Option.some.inj hs
   have hm0 := hm0 m (List.mem_of_getElem? hm)
   have hdrop : syms.drop j = s :: syms.drop (j + 1) := by rw [List.drop_eq_getElem_cons hjs, hgs]
   have hsn : placeS PI a (syms.take (j + 1)) (marks.take (j + 1)) = placeS PI a (syms.take j) (marks.take j) ++ [⟨s.name, markAt PI a m⟩] := by
    rw [List.take_succ_eq_append_getElem hjs, List.take_succ_eq_append_getElem hjm, hgs, hgm]
    exact placeS_snoc _ _ _ _ _ _ (by rw [List.length_take, List.length_take]; omega)
   generalize placeS PI a (syms.take j) (marks.take j) = SJ at *
   rw [hdrop]
   refine ix_map m (by omega) (by simpa using hm) ?_
   have hlen3 : (SJ ++ s :: syms.drop (j + 1)).length = syms.length := by rw [List.length_append, List.length_cons, List.length_drop]; omega
   have hmid := get_mid (a := SJ) (b := syms.drop (j + 1)) (x := s) hSl
   (all_goals refine qgk ?_ <;> (repeat' first | exact trivial | intro hc | refine And.intro ?_ ?_) <;> refine Lf.mk ?_)
   refine ix_map s (Int.natCast_nonneg _) (by rw [Int.toNat_natCast, Nat.zero_add, Int.toNat_natCast]; exact hmid) ?_
   (all_goals refine qgk ?_ <;> (repeat' first | exact trivial | intro hc | refine And.intro ?_ ?_) <;> refine Lf.mk ?_)
   refine norm_eq ((SJ ++ (⟨s.name, a⟩ : OSym) :: syms.drop (j + 1)).map symD) (set_mid2 ⟨s.name, a⟩ hSl rfl) ?_
   (all_goals refine qgk ?_ <;> (repeat' first | exact trivial | intro hc | refine And.intro ?_ ?_) <;> refine Lf.mk ?_)
   ·have hmn : m.toNat < PI.length := by omega
    have hmk : markAt PI a m = (itA PI m).at_ := by unfold markAt; rw [if_pos hc]
    have hit : PI[m.toNat]? = some (itA PI m) := by unfold itA; rw [List.getElem?_eq_getElem hmn]; rfl
    have hmid2 := get_mid (a := SJ) (b := syms.drop (j + 1)) (x := (⟨s.name, a⟩ : OSym)) hSl
    refine ix_map (itA PI m) (Int.natCast_nonneg _) (by rw [Int.toNat_natCast, Nat.zero_add]; exact hit) ?_
    (all_goals refine qgk ?_ <;> (repeat' first | exact trivial | intro hc | refine And.intro ?_ ?_) <;> refine Lf.mk ?_)
    refine ix_map (⟨s.name, a⟩ : OSym) (Int.natCast_nonneg _) (by rw [Int.toNat_natCast, Nat.zero_add, Int.toNat_natCast]; exact hmid2) ?_
    (all_goals refine qgk ?_ <;> (repeat' first | exact trivial | intro hc | refine And.intro ?_ ?_) <;> refine Lf.mk ?_)
    refine norm_eq ((SJ ++ (⟨s.name, (itA PI m).at_⟩ : OSym) :: syms.drop (j + 1)).map symD) (set_mid2 ⟨s.name, (itA PI m).at_⟩ hSl rfl) ?_
    (all_goals refine qgk ?_ <;> (repeat' first | exact trivial | intro hc | refine And.intro ?_ ?_) <;> refine Lf.mk ?_)
    refine loop_same (j + 1) (by show j + 1 ≤ _; omega) (by omega) ?_ ⟨rfl, rfl, rfl, rfl, rfl, trivial⟩
    dsimp only
    rw [hsn, hmk, List.append_assoc]
    exact congrArg (fun c => Ob.cells c :: bT ⟨PI, SJ ++ (⟨s.name, (itA PI m).at_⟩ : OSym) :: syms.drop (j + 1), marks, shut, false, cur, fe, fa⟩) (bC_same rfl (by simp) rfl rfl rfl rfl rfl)
   ·have hmk : markAt PI a m = a := by unfold markAt; rw [if_neg hc]
    refine loop_same (j + 1) (by show j + 1 ≤ _; omega) (by omega) ?_ ⟨rfl, rfl, rfl, rfl, rfl, trivial⟩
    dsimp only
    rw [hsn, hmk, List.append_assoc]
    exact congrArg (fun c => Ob.cells c :: bT ⟨PI, SJ ++ (⟨s.name, a⟩ : OSym) :: syms.drop (j + 1), marks, shut, false, cur, fe, fa⟩) (bC_same rfl (by simp) rfl rfl rfl rfl rfl)
  ·have hj2 : j = marks.length := by omega
   rw [hj2, List.take_length, hms, List.take_length, List.drop_length, List.append_nil]
   exact end_eq rfl rfl
attribute [local irreducible] infoR
theorem ar_w {n : Int} {K : D → Prop} (h : K (.int .i64 (w64 n))) : Arith .i64 n K := by unfold Arith; exact h
theorem rem_w {x y : Int} {K : D → Prop} (hy : y ≠ 0) (h : K (.int .i64 (x.tmod y))) : RemS .i64 x y K := by unfold RemS; exact ⟨hy, h⟩
theorem quo_w {x y : Int} {K : D → Prop} (hy : y ≠ 0) (h : K (.int .i64 (w64 (x.tdiv y)))) : QuoS .i64 x y K := by unfold QuoS; exact ⟨hy, h⟩
theorem target1_meets : Meets Tryz.prog n_asm_builder_target_1 (SpecF (fun _ : OSym × OVal => True) (fun (s, _) => [symD s, .loc 0 0]) (fun (_, v) => [.cells [.str v.name, .int .i64 v.n]]) (fun (s, v) => .bool (s.name == v.name))
  fun (_, v) => [.cells [.str v.name, .int .i64 v.n]]) := by
 refine meets_f tabOk Tryz.func134 rfl (by decide) ?_
 rintro ⟨s, v⟩ _
 refine ⟨Nat.le_refl _, by simp [Tryz.f134], fun E hE => ?_⟩
 refine vcOk _ ?_
 (all_goals refine qgo ?_ <;> (repeat' first | exact trivial | intro hc | refine And.intro ?_ ?_) <;> refine Lf.mk ?_)
 exact end_pre [.cells [.str v.name, .int .i64 v.n]] [_] rfl (Nat.le_refl 1) .bool (by intro o ho; rw [List.mem_singleton] at ho; subst ho; exact .cells (.cons .str (.cons .int .nil)))
theorem target_meets : Meets Tryz.prog n_asm_builder_target (SpecF (fun ((b, _, _) : Bld × OVal × List OEqu) => b.syms.length ≤ 1000000) (fun (_, v, _) => [.loc 0 0, valD v])
  (fun (b, _, q) => bO q b) (fun (b, v, _) => .tup [.int .i64 (targetA b.syms v).1, .int .i64 (targetA b.syms v).2]) fun (b, _, q) => bO q b) := by
 refine meets_f tabOk Tryz.func70 rfl (by decide) ?_
 rintro ⟨b, v, q⟩ hl
 have hl : b.syms.length ≤ 1000000 := hl
 refine ⟨Nat.le_refl _, by simp [Tryz.f70], fun E hE => ?_⟩
 show AWP _ _ _ _ (FinQ _ _ _ (.tup [.int .i64 (targetA b.syms v).1, .int .i64 (targetA b.syms v).2]) (bO q b)) _ (bO q b)
 have hT : targetA b.syms v = if v.name = [] then (0, 8) else if idxN v.name b.syms 0 < 0 then (0, 6) else (w64 ((symA b.syms (idxN v.name b.syms 0)).at_ + v.n), 0) := rfl
 generalize targetA b.syms v = T at *
 refine vcOk _ ?_
 (all_goals refine qgp ?_ <;> (repeat' first | exact trivial | intro hc | refine And.intro ?_ ?_) <;> refine Lf.mk ?_)
 ·rw [if_pos hc] at hT
  subst hT
  exact end_bO [_] rfl rfl rfl (Nat.le_of_eq rfl) (.tup (.cons .int (.cons .int .nil)))
 rw [if_neg hc] at hT
 refine idx_syms n_asm_builder_target_1 [.loc 6 0] (fun s => s.name == v.name) b.syms (.cells (bC q b)) (.arr 13 (b.items.map itemD)) [.spare b.marks.length, .arr 1 (poolsD b), curO b, .cells [.str v.name, .int .i64 v.n]] (by omega) rfl rfl
  (fun s hs KP KW hK => ?_) ?_
 ·exact call_f target1_meets [6] [6] (s, v) trivial rfl rfl ⟨VS.mk (LeL.refl _), VS.mk rfl, hK⟩
 have hp := posF_bound (fun s : OSym => s.name == v.name) b.syms 0
 have hT : T = if posF (fun s : OSym => s.name == v.name) b.syms 0 < 0 then (0, 6) else (w64 ((symA b.syms (posF (fun s : OSym => s.name == v.name) b.syms 0)).at_ + v.n), 0) := hT
 generalize posF (fun s : OSym => s.name == v.name) b.syms 0 = p at *
 (all_goals refine qgp ?_ <;> (repeat' first | exact trivial | intro hc | refine And.intro ?_ ?_) <;> refine Lf.mk ?_)
 ·rw [if_pos hc] at hT
  subst hT
  exact end_bO [_] rfl rfl rfl (Nat.le_of_eq rfl) (.tup (.cons .int (.cons .int .nil)))
 have hpl : p.toNat < b.syms.length := by
  rcases hp with h | ⟨j, h1, h2⟩
  ·omega
  ·rw [h2, Int.toNat_natCast, Nat.zero_add]; exact h1
 have hs : b.syms[p.toNat]? = some (symA b.syms p) := by unfold symA; rw [List.getElem?_eq_getElem hpl]; rfl
 rw [if_neg hc] at hT
 refine ix_map (symA b.syms p) (Int.natCast_nonneg _) (by rw [Int.toNat_natCast, Nat.zero_add]; exact hs) ?_
 (all_goals refine qgp ?_ <;> (repeat' first | exact trivial | intro hc | refine And.intro ?_ ?_) <;> refine Lf.mk ?_)
 refine ar_w ?_
 (all_goals refine qgp ?_ <;> (repeat' first | exact trivial | intro hc | refine And.intro ?_ ?_) <;> refine Lf.mk ?_)
 subst hT
 exact end_bO [_] rfl rfl rfl (Nat.le_of_eq rfl) (.tup (.cons .int (.cons .int .nil)))
theorem anot_bits : ∀ i : Fin 64, (~~~ (3#64)).getLsbD i = decide (2 ≤ i.1) := by decide
theorem anot_bv (x : BitVec 64) : x &&& ~~~ (3#64) = (x >>> 2) <<< 2 := by
 apply BitVec.eq_of_getLsbD_eq
 intro i hi
 rw [BitVec.getLsbD_and, anot_bits ⟨i, hi⟩, BitVec.getLsbD_shiftLeft, BitVec.getLsbD_ushiftRight]
 by_cases h : 2 ≤ i
 ·simp [h, hi, show ¬ i < 2 by omega, show 2 + (i - 2) = i by omega]
 ·simp [h, show i < 2 by omega]
theorem anot_3 {n : Int} (h0 : 0 ≤ n) (h1 : n ≤ 9223372036854775807) : bitI .andNot .i64 n 3 = n - n % 4 := by
 obtain ⟨a, rfl⟩ := Int.eq_ofNat_of_zero_le h0
 have ha : a ≤ 9223372036854775807 := by omega
 unfold bitI
 have e : (BitVec.ofInt IntKind.i64.bits (a : Int) &&& ~~~ BitVec.ofInt IntKind.i64.bits 3).toNat = a / 4 * 4 := by
  have e2 : BitVec.ofInt IntKind.i64.bits (a : Int) = BitVec.ofNat 64 a := rfl
  rw [e2]
  show (BitVec.ofNat 64 a &&& ~~~ (3#64)).toNat = _
  rw [anot_bv, BitVec.toNat_shiftLeft, BitVec.toNat_ushiftRight, BitVec.toNat_ofNat, Nat.mod_eq_of_lt (by omega : a < 2 ^ 64), Nat.shiftRight_eq_div_pow, Nat.shiftLeft_eq]
  omega
 show IntKind.i64.wrap ((_ : Nat) : Int) = _
 rw [e, wrap_i64 (by omega) (by omega)]
 omega
theorem info_tup (op : Int) : ∃ s : List UInt8, infoD op = .tup [.str s, .int .i64 (shapeI op)] := by
 unfold infoD shapeI
 cases infoR op with
 | none => exact ⟨[], rfl⟩
 | some r => exact ⟨r.name, rfl⟩
theorem away_meets : Meets Tryz.prog n_asm_away (SpecP (fun ((_, a, _) : Int × Int × Int) => 0 ≤ a ∧ a ≤ 1000000000000000) (fun (op, a, to) => [.int .i64 op, .int .i64 a, .int .i64 to])
  fun (op, a, to) => .tup [.int .i64 (awayA op a to).1, .int .i64 (awayA op a to).2]) := by
 refine meets_f tabOk Tryz.func71 rfl (by decide) ?_
 rintro ⟨op, a, to⟩ ⟨h0, h1⟩
 have h0 : 0 ≤ a := h0
 have h1 : a ≤ 1000000000000000 := h1
 refine ⟨Nat.le_refl _, by simp [Tryz.f71], fun E hE => ?_⟩
 show AWP _ _ _ _ (FinQ _ _ _ (.tup [.int .i64 (awayA op a to).1, .int .i64 (awayA op a to).2]) []) _ []
 have hA : awayA op a to = if (w64 (to - fromA op a)).tmod (ofA op) ≠ 0 then (0, 11)
  else if farA op a to < lowI (shapeI op) ∨ highI (shapeI op) < farA op a to then (farA op a to, 3) else (farA op a to, 0) := rfl
 have hF : farA op a to = w64 ((w64 (to - fromA op a)).tdiv (ofA op)) := rfl
 obtain ⟨s, hI⟩ := info_tup op
 have hof : ofA op ≠ 0 := by unfold ofA; split <;> decide
 generalize awayA op a to = A at *
 generalize shapeI op = sh at *
 refine awp_seqK (vcOk _ ?_)
 (all_goals refine qgp ?_ <;> (repeat' first | exact trivial | intro hc | refine And.intro ?_ ?_) <;> refine Lf.mk ?_)
 refine awp_seqK (vcOk _ ?_)
 (all_goals refine qgp ?_ <;> (repeat' first | exact trivial | intro hc | refine And.intro ?_ ?_) <;> refine Lf.mk ?_)
 refine awp_cut (α := Unit) (fun _ => True) (fun _ => [(0, .int .i64 op), (1, .int .i64 a), (2, .int .i64 to), (8, .int .i64 (fromA op a)), (9, .int .i64 (ofA op))]) (fun _ => []) ?_ ?_
 ·refine vcOk _ ?_
  (all_goals refine qgp ?_ <;> (repeat' first | exact trivial | intro hc | refine And.intro ?_ ?_) <;> refine Lf.mk ?_)
  ·refine bit_mk (anot_3 (by omega) (by omega)) ?_
   (all_goals refine qgp ?_ <;> (repeat' first | exact trivial | intro hc | refine And.intro ?_ ?_) <;> refine Lf.mk ?_)
   refine ⟨(), trivial, weak_same rfl ⟨rfl, rfl, rfl, ?_, ?_, trivial⟩⟩
   ·show D.int .i64 (a + 4 - (a + 4) % 4) = _
    unfold fromA; rw [if_pos hc]
   ·show D.int .i64 4 = _
    unfold ofA; rw [if_pos hc]
  ·refine ⟨(), trivial, weak_same rfl ⟨rfl, rfl, rfl, ?_, ?_, trivial⟩⟩
   ·show D.int .i64 (a + 4) = _
    unfold fromA; rw [if_neg hc]
   ·show D.int .i64 2 = _
    unfold ofA; rw [if_neg hc]
 ·rintro _ _
  refine vcOk _ ?_
  generalize fromA op a = fr at *
  generalize ofA op = o at *
  (all_goals refine qgp ?_ <;> (repeat' first | exact trivial | intro hc | refine And.intro ?_ ?_) <;> refine Lf.mk ?_)
  refine ar_w ?_
  (all_goals refine qgp ?_ <;> (repeat' first | exact trivial | intro hc | refine And.intro ?_ ?_) <;> refine Lf.mk ?_)
  refine rem_w hof ?_
  (all_goals refine qgp ?_ <;> (repeat' first | exact trivial | intro hc | refine And.intro ?_ ?_) <;> refine Lf.mk ?_)
  ·rw [if_pos hc] at hA
   subst hA
   exact end_p (VS.mk (LeD.refl _))
  ·rw [if_neg (fun h => h hc)] at hA
   refine ar_w ?_
   (all_goals refine qgp ?_ <;> (repeat' first | exact trivial | intro hc | refine And.intro ?_ ?_) <;> refine Lf.mk ?_)
   refine quo_w hof ?_
   (all_goals refine qgp ?_ <;> (repeat' first | exact trivial | intro hc | refine And.intro ?_ ?_) <;> refine Lf.mk ?_)
   refine call_p info_meets op trivial (VS.mk (LeL.of_eq rfl)) ?_
   rw [hI]
   rw [← hF]
   (all_goals refine qgp ?_ <;> (repeat' first | exact trivial | intro hc | refine And.intro ?_ ?_) <;> refine Lf.mk ?_)
   refine call_p range_meets sh trivial (VS.mk (LeL.of_eq rfl)) ?_
   (all_goals refine qgp ?_ <;> (repeat' first | exact trivial | intro hc | refine And.intro ?_ ?_) <;> refine Lf.mk ?_)
   ·rw [if_pos (.inl hc)] at hA
    subst hA
    exact end_p (VS.mk (LeD.refl _))
   ·rw [if_pos (.inr hc)] at hA
    subst hA
    exact end_p (VS.mk (LeD.refl _))
   ·rw [if_neg (by omega)] at hA
    subst hA
    exact end_p (VS.mk (LeD.refl _))
attribute [local irreducible] awayA targetA
structure LayIn (shut : List (List OVal)) (marks : List Int) (s : Lay) : Prop where
 size : ∀ x ∈ s.items, SizeOk shut x
 items : s.items.length ≤ 1000000
 len : marks.length = s.syms.length
 marksl : marks.length ≤ 1000000
 pos : ∀ m ∈ marks, 0 ≤ m
theorem placeI_at {pools : List (List OVal)} : ∀ (l : List AItem) (a : Int), 0 ≤ a → (∀ x ∈ l, SizeOk pools x) → ∀ x ∈ (placeI pools l a).1, SizeOk pools x ∧ 0 ≤ x.at_ ∧ x.at_ ≤ a + 5000000 * (l.length : Int)
 | [], a, h0, _, x, hx => by cases hx
 | y :: l, a, h0, hs, x, hx => by
  have hy := hs y List.mem_cons_self
  have hz := size_le (a := a) hy h0
  rw [placeI] at hx
  rcases List.mem_cons.1 hx with rfl | hx
  ·exact ⟨hy, h0, by dsimp only; simp only [List.length_cons]; omega⟩
  ·obtain ⟨h1, h2, h3⟩ := placeI_at l (a + sizeA pools y a) (by omega) (fun z hz => hs z (List.mem_cons_of_mem _ hz)) x hx
   exact ⟨h1, h2, by simp only [List.length_cons]; omega⟩
theorem placeI_short (pools : List (List OVal)) : ∀ (l : List AItem) (a : Int), shortN (placeI pools l a).1 = shortN l
 | [], a => rfl
 | x :: l, a => by
  have ih := placeI_short pools l (a + sizeA pools x a)
  unfold shortN at ih ⊢
  rw [placeI, List.filter_cons, List.filter_cons]
  split
  ·rw [List.length_cons, List.length_cons, ih]
  ·exact ih
theorem grow_size {pools : List (List OVal)} {syms : List OSym} {x : AItem} (h : SizeOk pools x) : SizeOk pools (growI syms x) := by
 unfold growI
 split
 ·exact h
 ·exact h
theorem grow_short (syms : List OSym) : ∀ l : List AItem, shortN (l.map (growI syms)) ≤ shortN l ∧ (l.any (mustL syms) = true → shortN (l.map (growI syms)) < shortN l)
 | [] => ⟨Nat.le_refl _, fun h => by cases h⟩
 | x :: l => by
  obtain ⟨h1, h2⟩ := grow_short syms l
  unfold shortN at h1 h2 ⊢
  rw [List.map_cons, List.filter_cons, List.filter_cons, List.any_cons]
  cases hm : mustL syms x with
  | true =>
   have hs : x.kind = 2 ∧ x.long = false := by unfold mustL at hm; simp at hm; exact ⟨hm.1, hm.2.1⟩
   have hg : growI syms x = { x with long := true } := by unfold growI; rw [if_pos hm]
   rw [hg]
   rw [if_neg (show ¬ decide (x.kind = 2 ∧ true = false) = true by simp), if_pos (show decide (x.kind = 2 ∧ x.long = false) = true by simpa using hs), List.length_cons]
   exact ⟨by omega, fun _ => by omega⟩
  | false =>
   have hg : growI syms x = x := by unfold growI; rw [if_neg (by rw [hm]; decide)]
   rw [hg, Bool.false_or]
   split
   ·rw [List.length_cons, List.length_cons]
    exact ⟨by omega, fun h => by have := h2 h; omega⟩
   ·exact ⟨h1, h2⟩
theorem LayIn.place {shut : List (List OVal)} {marks : List Int} {s : Lay} (h : LayIn shut marks s) : LayIn shut marks (placeL shut marks s).1 :=
 ⟨fun x hx => (placeI_at s.items 0 (Int.le_refl 0) h.size x hx).1, by show (placeI shut s.items 0).1.length ≤ _; rw [placeI_len]; exact h.items, by show _ = (placeS _ _ _ _).length; rw [placeS_len]; exact h.len, h.marksl, h.pos⟩
theorem LayIn.grow {shut : List (List OVal)} {marks : List Int} {s : Lay} {syms : List OSym} (h : LayIn shut marks s) : LayIn shut marks ⟨s.items.map (growI syms), s.syms⟩ :=
 ⟨fun x hx => by obtain ⟨y, hy, rfl⟩ := List.mem_map.1 hx; exact grow_size (h.size y hy), by rw [List.length_map]; exact h.items, h.len, h.marksl, h.pos⟩
theorem call_target {av : List D} {L : List Ob} {KP : D → Prop} {KW : D → List Ob → Prop} (q : List OEqu) (b : Bld) (v : OVal) (X : List Ob) (hl : b.syms.length ≤ 1000000) (hL : L = bO q b ++ X) (has : av = [.loc 0 0, valD v])
  (hK : KW (.tup [.int .i64 (targetA b.syms v).1, .int .i64 (targetA b.syms v).2]) (bO q b ++ X)) : CallS Tryz.prog n_asm_builder_target av L KP KW := by
 subst has
 exact call_b target_meets X (b, v, q) hl hL (LeL.refl _) rfl (.cons (.loc (Nat.lt_of_lt_of_le (by decide : 0 < 6) (Nat.le_of_eq rfl))) (.cons (valD_cl v) .nil)) (.tup (.cons .int (.cons .int .nil))) (bO_cl _ _) (bO_cl _ _) hK
theorem call_place {av : List D} {L : List Ob} {KP : D → Prop} {KW : D → List Ob → Prop} (q : List OEqu) (s : Lay) (marks : List Int) (shut : List (List OVal)) (cur : List OVal) (fe fa : Int) (X : List Ob) (h : LayIn shut marks s) (hL : L = bO q ⟨s.items, s.syms, marks, shut, false, cur, fe, fa⟩ ++ X) (has : av = [.loc 0 0])
  (hK : KW (.int .i64 (placeL shut marks s).2) (bO q ⟨(placeL shut marks s).1.items, (placeL shut marks s).1.syms, marks, shut, false, cur, fe, fa⟩ ++ X)) : CallS Tryz.prog n_asm_builder_place av L KP KW := by
 subst has
 exact call_b place_meets X (⟨s.items, s.syms, marks, shut, false, cur, fe, fa⟩, q) ⟨rfl, h.size, h.items, h.len, h.marksl, h.pos⟩ hL (LeL.refl _) rfl (.cons (.loc (Nat.lt_of_lt_of_le (by decide : 0 < 6) (Nat.le_of_eq rfl))) .nil) .int (bO_cl _ _) (bO_cl _ _) hK
theorem relaxF_step (shut : List (List OVal)) (marks : List Int) (f : Nat) (s : Lay) : relaxF shut marks (f + 1) s = if ((placeL shut marks s).1.items.any (mustL (placeL shut marks s).1.syms)) = false ∨ 8000 < (placeL shut marks s).2
      then (⟨(placeL shut marks s).1.items.map (growI (placeL shut marks s).1.syms), (placeL shut marks s).1.syms⟩, (placeL shut marks s).2)
      else relaxF shut marks f ⟨(placeL shut marks s).1.items.map (growI (placeL shut marks s).1.syms), (placeL shut marks s).1.syms⟩ := rfl
theorem relax_meets : Meets Tryz.prog n_asm_builder_relax (SpecF (fun ((s, marks, shut, _, _, _, _) : Lay × List Int × List (List OVal) × List OVal × Int × Int × List OEqu) => LayIn shut marks s) (fun _ => [.loc 0 0])
  (fun (s, marks, shut, cur, fe, fa, q) => bO q ⟨s.items, s.syms, marks, shut, false, cur, fe, fa⟩) (fun (s, marks, shut, _, _, _, _) => .int .i64 (relaxL shut marks s).2)
  fun (s, marks, shut, cur, fe, fa, q) => bO q ⟨(relaxL shut marks s).1.items, (relaxL shut marks s).1.syms, marks, shut, false, cur, fe, fa⟩) := by
 refine meets_f tabOk Tryz.func39 rfl (by decide) ?_
 rintro ⟨s, marks, shut, cur, fe, fa, q⟩ h
 have h : LayIn shut marks s := h
 refine ⟨Nat.le_refl _, by simp [Tryz.f39], fun E hE => ?_⟩
 have hE6 : E.L.length = 6 := by rw [hE]; rfl
 show AWP _ _ _ _ (FinQ _ _ _ (.int .i64 (relaxL shut marks s).2) (bO q ⟨(relaxL shut marks s).1.items, (relaxL shut marks s).1.syms, marks, shut, false, cur, fe, fa⟩)) _ (bO q ⟨s.items, s.syms, marks, shut, false, cur, fe, fa⟩)
 generalize hT : relaxL shut marks s = T
 have hT : relaxF shut marks (shortN s.items + 1) s = T := hT
 refine vcOk _ ?_
 (all_goals refine qgp ?_ <;> (repeat' first | exact trivial | intro hc | refine And.intro ?_ ?_) <;> refine Lf.mk ?_)
 refine awp_loopW (α := Nat × Lay) (fun p => relaxF shut marks p.1 p.2 = T ∧ shortN p.2.items < p.1 ∧ LayIn shut marks p.2) (fun _ => [(0, .loc 0 0)]) (fun p => bO q ⟨p.2.items, p.2.syms, marks, shut, false, cur, fe, fa⟩) (fun p => p.1)
  (fun _ => by rw [hE6]; exact Nat.le_refl 6) (shortN s.items + 1, s) ⟨hT, Nat.lt_succ_self _, h⟩ ?_ ?_
 ·exact weak_same rfl ⟨rfl, trivial⟩
 rintro ⟨f, s1⟩ ⟨i1, i2, i3⟩
 dsimp only at i1 i2 i3 ⊢
 obtain ⟨f, rfl⟩ : ∃ g, f = g + 1 := ⟨f - 1, by omega⟩
 rw [relaxF_step] at i1
 have hpl := i3.place
 have hat : ∀ x ∈ (placeL shut marks s1).1.items, 0 ≤ x.at_ ∧ x.at_ ≤ 1000000000000000 := fun x hx => by
  obtain ⟨_, h1, h2⟩ := placeI_at s1.items 0 (Int.le_refl 0) i3.size x hx
  have := i3.items
  exact ⟨h1, by omega⟩
 have hsh : shortN (placeL shut marks s1).1.items = shortN s1.items := placeI_short shut s1.items 0
 refine vcOk _ ?_
 (all_goals refine qgp ?_ <;> (repeat' first | exact trivial | intro hc | refine And.intro ?_ ?_) <;> refine Lf.mk ?_)
 refine call_place q s1 marks shut cur fe fa [] i3 rfl rfl ?_
 generalize placeL shut marks s1 = P at *
 obtain ⟨⟨PI, PS⟩, n⟩ := P
 dsimp only at i1 hpl hat hsh ⊢
 have hPIl : PI.length ≤ 1000000 := hpl.items
 have hgs := grow_short PS PI
 have hgl := hpl.grow (syms := PS)
 dsimp only at hgl
 (all_goals refine qgp ?_ <;> (repeat' first | exact trivial | intro hc | refine And.intro ?_ ?_) <;> refine Lf.mk ?_)
 refine awp_loopW (α := Nat) (fun k => k ≤ PI.length) (fun k => [(0, .loc 0 0), (3, .int .i64 n), (4, .bool ((PI.take k).any (mustL PS))), (17, .int .i64 PI.length), (18, .int .i64 k)])
  (fun k => bO q ⟨(PI.take k).map (growI PS) ++ PI.drop k, PS, marks, shut, false, cur, fe, fa⟩) (fun k => PI.length - k) (fun _ => by rw [hE6]; exact Nat.le_refl 6) 0 (Nat.zero_le _) ?_ ?_
 ·exact weak_leS rfl ⟨.refl _, .refl _, .ff rfl, .refl _, .refl _, trivial⟩
 intro k hk
 have hk : k ≤ PI.length := hk
 refine vcOk _ ?_
 (all_goals refine qgp ?_ <;> (repeat' first | exact trivial | intro hc | refine And.intro ?_ ?_) <;> refine Lf.mk ?_)
 ·have hkl : k < PI.length := by omega
  obtain ⟨x, hx⟩ := at_of_lt (l := PI) (k := k) (by omega)
  have hgx : PI[k] = x := by rw [List.getElem?_eq_getElem hkl] at hx; exact Option.some.inj hx
  have hxa := hat x (List.mem_of_getElem? hx)
  have hdrop : PI.drop k = x :: PI.drop (k + 1) := by rw [List.drop_eq_getElem_cons hkl, hgx]
  have htake : (PI.take (k + 1)).map (growI PS) = (PI.take k).map (growI PS) ++ [growI PS x] := by rw [List.take_succ_eq_append_getElem hkl, hgx, List.map_append]; rfl
  have hany : (PI.take (k + 1)).any (mustL PS) = ((PI.take k).any (mustL PS) || mustL PS x) := by rw [List.take_succ_eq_append_getElem hkl, hgx, List.any_append, List.any_cons, List.any_nil, Bool.or_false]
  have hGl : ((PI.take k).map (growI PS)).length = k := by rw [List.length_map, List.length_take]; omega
  rw [hdrop]
  generalize (PI.take k).map (growI PS) = G at *
  generalize (PI.take k).any (mustL PS) = c at *
  have hmid := get_mid (a := G) (b := PI.drop (k + 1)) (x := x) hGl
  have hget : (G ++ x :: PI.drop (k + 1))[(((0 + ((k : Nat) : Int).toNat : Nat)) : Int).toNat]? = some x := by rw [Int.toNat_natCast, Nat.zero_add, Int.toNat_natCast]; exact hmid
  have hno : mustL PS x = false → growI PS x = x := fun h => by unfold growI; rw [if_neg (by rw [h]; decide)]
  have hyes : mustL PS x = true → growI PS x = { x with long := true } := fun h => by unfold growI; rw [if_pos h]
  have hms : mustL PS x = decide (x.kind = 2 ∧ x.long = false ∧ (targetA PS x.val).2 = 0 ∧ (awayA x.ins.op x.at_ (targetA PS x.val).1).2 = 3) := rfl
  have hLn : mustL PS x = false → bO q ⟨G ++ x :: PI.drop (k + 1), PS, marks, shut, false, cur, fe, fa⟩ = bO q ⟨(PI.take (k + 1)).map (growI PS) ++ PI.drop (k + 1), PS, marks, shut, false, cur, fe, fa⟩ := fun h => by rw [htake, hno h, List.append_assoc]; rfl
  have hAn : mustL PS x = false → (PI.take (k + 1)).any (mustL PS) = c := fun h => by rw [hany, h, Bool.or_false]
  have stop : ∀ {σ : List (Nat × D)}, mustL PS x = false → sameS σ [(0, .loc 0 0), (3, .int .i64 n), (4, .bool c), (17, .int .i64 PI.length), (18, .int .i64 ((k : Int) + 1))] →
    LoopEnd E.L.length (fun k => k ≤ PI.length) (fun k => [(0, .loc 0 0), (3, .int .i64 n), (4, .bool ((PI.take k).any (mustL PS))), (17, .int .i64 PI.length), (18, .int .i64 k)])
     (fun k => bO q ⟨(PI.take k).map (growI PS) ++ PI.drop k, PS, marks, shut, false, cur, fe, fa⟩) (fun k => PI.length - k) k σ (bO q ⟨G ++ x :: PI.drop (k + 1), PS, marks, shut, false, cur, fe, fa⟩) := fun {σ} hm hs =>
   loop_same (k + 1) (by show k + 1 ≤ _; omega) (by omega) (hLn hm) (by rw [hAn hm]; exact hs)
  refine ix_map x (Int.natCast_nonneg _) hget ?_
  (all_goals refine qgp ?_ <;> (repeat' first | exact trivial | intro hc | refine And.intro ?_ ?_) <;> refine Lf.mk ?_)
  ·refine stop (by rw [hms]; simp [hc]) ?_
   exact ⟨rfl, rfl, rfl, rfl, rfl, trivial⟩
  refine ix_map x (Int.natCast_nonneg _) hget ?_
  (all_goals refine qgp ?_ <;> (repeat' first | exact trivial | intro hc | refine And.intro ?_ ?_) <;> refine Lf.mk ?_)
  ·refine stop (by rw [hms]; simp [hc]) ?_
   exact ⟨rfl, rfl, rfl, rfl, rfl, trivial⟩
  refine ix_map x (Int.natCast_nonneg _) hget ?_
  (all_goals refine qgp ?_ <;> (repeat' first | exact trivial | intro hc | refine And.intro ?_ ?_) <;> refine Lf.mk ?_)
  refine call_target q ⟨G ++ x :: PI.drop (k + 1), PS, marks, shut, false, cur, fe, fa⟩ x.val [] (by show PS.length ≤ _; have := hpl.len; have := hpl.marksl; dsimp only at *; omega) rfl rfl ?_
  rw [show Bld.syms ⟨G ++ x :: PI.drop (k + 1), PS, marks, shut, false, cur, fe, fa⟩ = PS from rfl]
  generalize targetA PS x.val = W at *
  obtain ⟨to, e⟩ := W
  dsimp only at hms ⊢
  (all_goals refine qgp ?_ <;> (repeat' first | exact trivial | intro hc | refine And.intro ?_ ?_) <;> refine Lf.mk ?_)
  ·refine ix_map x (Int.natCast_nonneg _) hget ?_
   (all_goals refine qgp ?_ <;> (repeat' first | exact trivial | intro hc | refine And.intro ?_ ?_) <;> refine Lf.mk ?_)
   refine ix_map x (Int.natCast_nonneg _) hget ?_
   (all_goals refine qgp ?_ <;> (repeat' first | exact trivial | intro hc | refine And.intro ?_ ?_) <;> refine Lf.mk ?_)
   refine call_p away_meets (x.ins.op, x.at_, to) hxa (VS.mk (LeL.of_eq rfl)) ?_
   (all_goals refine qgk ?_ <;> (repeat' first | exact trivial | intro hc | refine And.intro ?_ ?_) <;> refine Lf.mk ?_)
   ·have hm : mustL PS x = true := by rw [hms]; simp [*]
    refine ix_map x (Int.natCast_nonneg _) hget ?_
    (all_goals refine qgk ?_ <;> (repeat' first | exact trivial | intro hc | refine And.intro ?_ ?_) <;> refine Lf.mk ?_)
    refine norm_mk ?_
    (all_goals refine qgk ?_ <;> (repeat' first | exact trivial | intro hc | refine And.intro ?_ ?_) <;> refine Lf.mk ?_)
    refine loop_weak (k + 1) (by show k + 1 ≤ _; omega) (by omega) (weak_trans (weak_els (k := 1) (e := 13) ((G ++ { x with long := true } :: PI.drop (k + 1)).map itemD) rfl (by simp) ?_) (weak_leS ?_ ⟨.refl _, .refl _, ?_, .refl _, .refl _, trivial⟩))
    ·rw [← set_mid2 (f := itemD) (x := x) { x with long := true } hGl rfl]
     exact set_leL (.cons (.refl _) (.cons (.refl _) (.cons (.refl _) (.cons (.refl _) (.cons (.refl _) (.cons (.refl _) (.cons (.refl _) (.cons (.tt rfl) (LeL.refl _)))))))))
    ·dsimp only
     rw [htake, hyes hm, List.append_assoc]
     exact congrArg (fun c => Ob.cells c :: bT ⟨G ++ { x with long := true } :: PI.drop (k + 1), PS, marks, shut, false, cur, fe, fa⟩) (bC_same (by simp) rfl rfl rfl rfl rfl rfl)
    ·rw [hany, hm, Bool.or_true]
     exact .tt rfl
   ·refine stop (by rw [hms]; simp [hc]) ?_
    exact ⟨rfl, rfl, rfl, rfl, rfl, trivial⟩
  ·refine stop (by rw [hms]; simp [hc]) ?_
   exact ⟨rfl, rfl, rfl, rfl, rfl, trivial⟩
 all_goals
  have hk2 : k = PI.length := by omega
  have hT : PI.take k = PI := by rw [hk2, List.take_length]
  have hD : PI.drop k = [] := by rw [hk2, List.drop_length]
  rw [hT, hD, List.append_nil]
 ·rw [hT] at hc
  rw [if_pos (.inl hc)] at i1
  subst i1
  exact end_eq rfl rfl
 ·rw [if_pos (.inr hc)] at i1
  subst i1
  exact end_eq rfl rfl
 ·have hany : (PI.take k).any (mustL PS) = true := by assumption
  rw [hT] at hany
  rw [if_neg (fun h => h.elim (fun h => by rw [hany] at h; cases h) (fun h => by omega))] at i1
  have := hgs.2 hany
  exact loop_same (f, ⟨PI.map (growI PS), PS⟩) ⟨i1, by dsimp only; omega, hgl⟩ (by dsimp only; omega) rfl ⟨rfl, trivial⟩
attribute [local irreducible] encV putN
def eC (q : List OEqu) (b : Bld) (o : Out) : List D := [.sl 2 (q.map equD) none, .osl 13 1 b.items.length 0 b.items.length, .osl 2 2 b.syms.length 0 b.syms.length, .sl 1 (b.marks.map (.int .i64)) (some 3),
 .osl 1 4 (poolsD b).length 0 (poolsD b).length, .int .i64 b.shut.length, .sl 1 (o.code.map byteD) (some 6), .nilsl, .sl 4 (o.rels.map relD) (some 5), .int .i64 o.fe, .int .i64 o.fa]
def eT (b : Bld) (o : Out) : List Ob := [.arr 13 (b.items.map itemD), .arr 2 (b.syms.map symD), .spare b.marks.length, .arr 1 (b.shut.map shutD), .spare o.rels.length, .spare o.code.length]
def eO (q : List OEqu) (b : Bld) (o : Out) : List Ob := .cells (eC q b o) :: eT b o
theorem shuts_cl {n : Nat} (l : List (List OVal)) : ∀ d ∈ l.map shutD, ClL n d.cells := by
 intro d hd
 obtain ⟨x, _, rfl⟩ := List.mem_map.1 hd
 exact .cons .sl .nil
theorem eO_cl (q : List OEqu) (b : Bld) (o : Out) : ∀ x ∈ eO q b o, ClO 7 x := by
 intro x hx
 simp only [eO, eT, List.mem_cons, List.not_mem_nil, or_false] at hx
 rcases hx with rfl | rfl | rfl | rfl | rfl | rfl | rfl
 ·exact .cells (.cons .sl (.cons (.osl (by decide)) (.cons (.osl (by decide)) (.cons (.tok (by decide)) (.cons (.osl (by decide)) (.cons .int (.cons (.tok (by decide)) (.cons .nilsl (.cons (.tok (by decide)) (.cons .int (.cons .int .nil)))))))))))
 ·exact .arr (items_cl _)
 ·exact .arr (syms_cl _)
 ·exact .spare
 ·exact .arr (shuts_cl _)
 ·exact .spare
 ·exact .spare
theorem end_eO {n0 : Nat} {q : List OEqu} {b : Bld} {o o' : Out} {r d : D} {L : List Ob} (X : List Ob) (hL : L = eO q b o' ++ X) (ho : o' = o) (hr : r = d) (hn : n0 ≤ 7) (hd : ClD 7 d) : EndS n0 r d L (eO q b o) := by
 subst ho; subst hr
 exact end_pre (eO q b o') X hL hn hd (eO_cl _ _ _)
theorem fail_eO (q : List OEqu) (b : Bld) (o : Out) (e line : Int) : Ob.cells [.sl 2 (q.map equD) none, .osl 13 1 b.items.length 0 b.items.length, .osl 2 2 b.syms.length 0 b.syms.length, .sl 1 (b.marks.map (.int .i64)) (some 3),
  .osl 1 4 (poolsD b).length 0 (poolsD b).length, .int .i64 b.shut.length, .sl 1 (o.code.map byteD) (some 6), .nilsl, .sl 4 (o.rels.map relD) (some 5), .int .i64 (if o.fe = 0 then e else o.fe), .int .i64 (if o.fe = 0 then line else o.fa)] :: eT b o = eO q b (failE o e line) := by
 unfold failE
 by_cases h : o.fe = 0
 ·rw [if_pos h, if_pos h, if_pos h]; rfl
 ·rw [if_neg h, if_neg h, if_neg h]; rfl
theorem call_efail {av : List D} {L : List Ob} {KP : D → Prop} {KW : D → List Ob → Prop} (q : List OEqu) (b : Bld) (o : Out) (e line : Int) (X : List Ob) (hL : L = eO q b o ++ X) (has : av = [.loc 0 0, .int .i64 e, .int .i64 line])
  (hK : KW .ff (eO q b (failE o e line) ++ X)) : CallS Tryz.prog n_asm_builder_fail av L KP KW := by
 subst has
 refine call_b afail_meets X ((.sl 2 (q.map equD) none, .osl 13 1 b.items.length 0 b.items.length, .osl 2 2 b.syms.length 0 b.syms.length, .sl 1 (b.marks.map (.int .i64)) (some 3),
  .osl 1 4 (poolsD b).length 0 (poolsD b).length, .int .i64 b.shut.length, .sl 1 (o.code.map byteD) (some 6), .nilsl, .sl 4 (o.rels.map relD) (some 5)), o.fe, o.fa, e, line, eT b o) trivial hL (LeL.refl _) rfl ?_ .ff (eO_cl q b o) ?_ ?_
 ·exact .cons (.loc (Nat.lt_of_lt_of_le (by decide : 0 < 7) (Nat.le_of_eq rfl))) (.cons .int (.cons .int .nil))
 ·dsimp only
  rw [fail_eO]
  exact eO_cl q b _
 ·dsimp only
  rw [fail_eO]
  exact hK
theorem half_meets : Meets Tryz.prog n_asm_builder_half (SpecF (fun ((_, o, _, _, _) : Bld × Out × Ins × Int × List OEqu) => o.code.length ≤ 1000000000) (fun (_, _, i, line, _) => [.loc 0 0, insD i, .int .i64 line])
  (fun (b, o, _, _, q) => eO q b o) (fun _ => .tup []) fun (b, o, i, line, q) => eO q b (halfE o i line)) := by
 refine meets_f tabOk Tryz.func75 rfl (by decide) ?_
 rintro ⟨b, o, i, line, q⟩ hl
 have hl : o.code.length ≤ 1000000000 := hl
 refine ⟨Nat.le_refl _, by simp [Tryz.f75], fun E hE => ?_⟩
 show AWP _ _ _ _ (FinQ _ _ _ _ (eO q b (halfE o i line))) _ (eO q b o)
 have hH : halfE o i line = if wrongI i = 0 then ⟨o.code ++ [lowByte (encV i / 256), lowByte (encV i)], o.rels, o.fe, o.fa⟩ else failE o (wrongI i) line := rfl
 generalize halfE o i line = H at *
 refine vcOk _ ?_
 (all_goals refine qgp ?_ <;> (repeat' first | exact trivial | intro hc | refine And.intro ?_ ?_) <;> refine Lf.mk ?_)
 refine call_p encode_meets i trivial (VS.mk (LeL.of_eq rfl)) ?_
 generalize wrongI i = W at *
 (all_goals refine qgp ?_ <;> (repeat' first | exact trivial | intro hc | refine And.intro ?_ ?_) <;> refine Lf.mk ?_)
 ·rw [if_neg hc] at hH
  refine call_efail q b o W line [_] rfl rfl ?_
  rw [← hH]
  (all_goals refine qgp ?_ <;> (repeat' first | exact trivial | intro hc | refine And.intro ?_ ?_) <;> refine Lf.mk ?_)
  exact end_eO [_] rfl rfl rfl (Nat.le_of_eq rfl) .tup0
 ·rw [if_pos hc] at hH
  subst hH
  have he : (if W = 0 then encV i else 0) = encV i := if_pos hc
  simp only [he]
  exact end_eO (o' := ⟨o.code ++ [lowByte (encV i / 256), lowByte (encV i)], o.rels, o.fe, o.fa⟩) [_] rfl rfl rfl (Nat.le_of_eq rfl) .tup0
theorem insD_cl {n : Nat} (i : Ins) : ClD n (insD i) := .agg (.cons .int (.cons .int (.cons .int (.cons .int .nil))))
theorem call_half {av : List D} {L : List Ob} {KP : D → Prop} {KW : D → List Ob → Prop} (q : List OEqu) (b : Bld) (o : Out) (i : Ins) (line : Int) (X : List Ob) (hl : o.code.length ≤ 1000000000) (hL : L = eO q b o ++ X) (has : LeL av [.loc 0 0, insD i, .int .i64 line])
  (hK : KW (.tup []) (eO q b (halfE o i line) ++ X)) : CallS Tryz.prog n_asm_builder_half av L KP KW := by
 refine call_le has ?_
 exact call_b half_meets X (b, o, i, line, q) hl hL (LeL.refl _) rfl (.cons (.loc (Nat.lt_of_lt_of_le (by decide : 0 < 7) (Nat.le_of_eq rfl))) (.cons (insD_cl i) (.cons .int .nil))) .tup0 (eO_cl _ _ _) (eO_cl _ _ _) hK
theorem half_len (o : Out) (i : Ins) (line : Int) : (halfE o i line).code.length ≤ o.code.length + 2 := by
 unfold halfE failE
 repeat' split
 all_goals simp
theorem lead_len (o : Out) (i : Ins) (a to line : Int) : (leadE o i a to line).code.length ≤ o.code.length + 2 := by
 unfold leadE
 split
 ·exact half_len _ _ _
 ·unfold failE; split <;> simp
attribute [local irreducible] halfE
theorem lead_meets : Meets Tryz.prog n_asm_builder_lead (SpecF (fun ((_, o, _, a, _, _, _) : Bld × Out × Ins × Int × Int × Int × List OEqu) => o.code.length ≤ 1000000000 ∧ 0 ≤ a ∧ a ≤ 1000000000000000) (fun (_, _, i, a, to, line, _) => [.loc 0 0, insD i, .int .i64 a, .int .i64 to, .int .i64 line])
  (fun (b, o, _, _, _, _, q) => eO q b o) (fun _ => .tup []) fun (b, o, i, a, to, line, q) => eO q b (leadE o i a to line)) := by
 refine meets_f tabOk Tryz.func78 rfl (by decide) ?_
 rintro ⟨b, o, i, a, to, line, q⟩ ⟨hl, h0, h1⟩
 have hl : o.code.length ≤ 1000000000 := hl
 refine ⟨Nat.le_refl _, by simp [Tryz.f78], fun E hE => ?_⟩
 show AWP _ _ _ _ (FinQ _ _ _ _ (eO q b (leadE o i a to line))) _ (eO q b o)
 have hH : leadE o i a to line = if (awayA i.op a to).2 = 0 then halfE o ⟨i.op, i.n, i.m, (awayA i.op a to).1⟩ line else failE o (awayA i.op a to).2 line := rfl
 generalize leadE o i a to line = H at *
 refine vcOk _ ?_
 (all_goals refine qgp ?_ <;> (repeat' first | exact trivial | intro hc | refine And.intro ?_ ?_) <;> refine Lf.mk ?_)
 refine call_p away_meets (i.op, a, to) ⟨h0, h1⟩ (VS.mk (LeL.of_eq rfl)) ?_
 dsimp only
 generalize awayA i.op a to = W at *
 (all_goals refine qgp ?_ <;> (repeat' first | exact trivial | intro hc | refine And.intro ?_ ?_) <;> refine Lf.mk ?_)
 ·rw [if_neg hc] at hH
  refine call_efail q b o W.2 line [_] rfl rfl ?_
  rw [← hH]
  (all_goals refine qgp ?_ <;> (repeat' first | exact trivial | intro hc | refine And.intro ?_ ?_) <;> refine Lf.mk ?_)
  exact end_eO [_] rfl rfl rfl (Nat.le_of_eq rfl) .tup0
 ·rw [if_pos hc] at hH
  refine call_half q b o ⟨i.op, i.n, i.m, W.1⟩ line [_] hl rfl (LeL.of_eq rfl) ?_
  rw [← hH]
  (all_goals refine qgp ?_ <;> (repeat' first | exact trivial | intro hc | refine And.intro ?_ ?_) <;> refine Lf.mk ?_)
  exact end_eO [_] rfl rfl rfl (Nat.le_of_eq rfl) .tup0
theorem call_lead {av : List D} {L : List Ob} {KP : D → Prop} {KW : D → List Ob → Prop} (q : List OEqu) (b : Bld) (o : Out) (i : Ins) (a to line : Int) (X : List Ob) (hl : o.code.length ≤ 1000000000) (h0 : 0 ≤ a) (h1 : a ≤ 1000000000000000) (hL : L = eO q b o ++ X)
  (has : LeL av [.loc 0 0, insD i, .int .i64 a, .int .i64 to, .int .i64 line]) (hK : KW (.tup []) (eO q b (leadE o i a to line) ++ X)) : CallS Tryz.prog n_asm_builder_lead av L KP KW := by
 refine call_le has ?_
 exact call_b lead_meets X (b, o, i, a, to, line, q) ⟨hl, h0, h1⟩ hL (LeL.refl _) rfl (.cons (.loc (Nat.lt_of_lt_of_le (by decide : 0 < 7) (Nat.le_of_eq rfl))) (.cons (insD_cl i) (.cons .int (.cons .int (.cons .int .nil))))) .tup0 (eO_cl _ _ _) (eO_cl _ _ _) hK
attribute [local irreducible] leadE
theorem near_meets : Meets Tryz.prog n_asm_builder_near (SpecF (fun ((b, o, k, x, _, _) : Bld × Out × Nat × AItem × Int × List OEqu) => o.code.length ≤ 900000000 ∧ b.items[k]? = some x ∧ 0 ≤ x.at_ ∧ x.at_ ≤ 100000000000000) (fun (b, _, k, _, to, _) => [.loc 0 0, .aloc 1 b.items.length k 0, .int .i64 to])
  (fun (b, o, _, _, _, q) => eO q b o) (fun _ => .tup []) fun (b, o, _, x, to, q) => eO q b (nearE o x to)) := by
 refine meets_f tabOk Tryz.func79 rfl (by decide) ?_
 rintro ⟨b, o, k, x, to, q⟩ ⟨hl, hx, h0, h1⟩
 have hl : o.code.length ≤ 900000000 := hl
 have hx : b.items[k]? = some x := hx
 have h0 : 0 ≤ x.at_ := h0
 have h1 : x.at_ ≤ 100000000000000 := h1
 have hxn : b.items[((k : Nat) : Int).toNat]? = some x := by rw [Int.toNat_natCast]; exact hx
 refine ⟨Nat.le_refl _, by simp [Tryz.f79], fun E hE => ?_⟩
 show AWP _ _ _ _ (FinQ _ _ _ _ (eO q b (nearE o x to))) _ (eO q b o)
 have hH : nearE o x to = if x.long = false then leadE o x.ins x.at_ to x.line else halfE (leadE (halfE o ⟨w64 (35 - x.ins.op), 0, 0, 1⟩ x.line) ⟨19, 0, 0, 0⟩ (x.at_ + 2) to x.line) ⟨1, 0, 0, 0⟩ x.line := rfl
 generalize nearE o x to = H at *
 have hl1 := half_len o ⟨w64 (35 - x.ins.op), 0, 0, 1⟩ x.line
 have hl2 := lead_len (halfE o ⟨w64 (35 - x.ins.op), 0, 0, 1⟩ x.line) ⟨19, 0, 0, 0⟩ (x.at_ + 2) to x.line
 refine vcOk _ ?_
 (all_goals refine qgp ?_ <;> (repeat' first | exact trivial | intro hc | refine And.intro ?_ ?_) <;> refine Lf.mk ?_)
 refine ix_map x (Int.natCast_nonneg k) hxn ?_
 (all_goals refine qgp ?_ <;> (repeat' first | exact trivial | intro hc | refine And.intro ?_ ?_) <;> refine Lf.mk ?_)
 ·rw [if_pos hc] at hH
  refine ix_map x (Int.natCast_nonneg k) hxn ?_
  (all_goals refine qgp ?_ <;> (repeat' first | exact trivial | intro hc | refine And.intro ?_ ?_) <;> refine Lf.mk ?_)
  refine ix_map x (Int.natCast_nonneg k) hxn ?_
  (all_goals refine qgp ?_ <;> (repeat' first | exact trivial | intro hc | refine And.intro ?_ ?_) <;> refine Lf.mk ?_)
  refine ix_map x (Int.natCast_nonneg k) hxn ?_
  (all_goals refine qgp ?_ <;> (repeat' first | exact trivial | intro hc | refine And.intro ?_ ?_) <;> refine Lf.mk ?_)
  refine call_lead q b o x.ins x.at_ to x.line [] (by omega) h0 (by omega) rfl (LeL.of_eq rfl) ?_
  rw [← hH]
  (all_goals refine qgp ?_ <;> (repeat' first | exact trivial | intro hc | refine And.intro ?_ ?_) <;> refine Lf.mk ?_)
  exact end_eO [] rfl rfl rfl (Nat.le_of_eq rfl) .tup0
 ·rw [if_neg (by rw [hc]; decide)] at hH
  refine ix_map x (Int.natCast_nonneg k) hxn ?_
  (all_goals refine qgp ?_ <;> (repeat' first | exact trivial | intro hc | refine And.intro ?_ ?_) <;> refine Lf.mk ?_)
  refine ar_w ?_
  (all_goals refine qgp ?_ <;> (repeat' first | exact trivial | intro hc | refine And.intro ?_ ?_) <;> refine Lf.mk ?_)
  refine ix_map x (Int.natCast_nonneg k) hxn ?_
  (all_goals refine qgp ?_ <;> (repeat' first | exact trivial | intro hc | refine And.intro ?_ ?_) <;> refine Lf.mk ?_)
  refine call_half q b o ⟨w64 (35 - x.ins.op), 0, 0, 1⟩ x.line [_] (by omega) rfl (LeL.of_eq rfl) ?_
  generalize halfE o ⟨w64 (35 - x.ins.op), 0, 0, 1⟩ x.line = o1 at *
  (all_goals refine qgp ?_ <;> (repeat' first | exact trivial | intro hc | refine And.intro ?_ ?_) <;> refine Lf.mk ?_)
  refine ix_map x (Int.natCast_nonneg k) hxn ?_
  (all_goals refine qgp ?_ <;> (repeat' first | exact trivial | intro hc | refine And.intro ?_ ?_) <;> refine Lf.mk ?_)
  refine ix_map x (Int.natCast_nonneg k) hxn ?_
  (all_goals refine qgp ?_ <;> (repeat' first | exact trivial | intro hc | refine And.intro ?_ ?_) <;> refine Lf.mk ?_)
  refine call_lead q b o1 ⟨19, 0, 0, 0⟩ (x.at_ + 2) to x.line [_] (by omega) (by omega) (by omega) rfl (LeL.of_eq rfl) ?_
  generalize leadE o1 ⟨19, 0, 0, 0⟩ (x.at_ + 2) to x.line = o2 at *
  (all_goals refine qgp ?_ <;> (repeat' first | exact trivial | intro hc | refine And.intro ?_ ?_) <;> refine Lf.mk ?_)
  refine ix_map x (Int.natCast_nonneg k) hxn ?_
  (all_goals refine qgp ?_ <;> (repeat' first | exact trivial | intro hc | refine And.intro ?_ ?_) <;> refine Lf.mk ?_)
  refine call_half q b o2 ⟨1, 0, 0, 0⟩ x.line [_] (by omega) rfl (LeL.of_eq rfl) ?_
  rw [← hH]
  (all_goals refine qgp ?_ <;> (repeat' first | exact trivial | intro hc | refine And.intro ?_ ?_) <;> refine Lf.mk ?_)
  exact end_eO [_] rfl rfl rfl (Nat.le_of_eq rfl) .tup0
end Go.Proofs.YthmdddenbfbefaaGreatDoor
namespace Go.Proofs.YthmdddenbfbefaaGreatDoor
open Go Go.Plat
set_option linter.unusedVariables false
set_option linter.unusedSimpArgs false
set_option maxRecDepth 100000
set_option maxHeartbeats 2000000
attribute [local irreducible] AWP Arith BitS BytesS CallS CatS DrawS EndS IdxS Lib.itoa LookS LoopEnd Meets ModeS NilS NormL NormM OExpr.kids OExpr.kind OExpr.n OExpr.name QuoS RemS ShlS ShrS SideS SplitS allA awayA bitI encV evalE exprD findI idxV infoR labelB nameB nodes oneA pRes putN regI signedI sizeA slotV takeA withV wrongI
theorem target_e {av : List D} {L : List Ob} {KP : D → Prop} {KW : D → List Ob → Prop} (q : List OEqu) (b : Bld) (o : Out) (v : OVal) (X : List Ob) (hl : b.syms.length ≤ 1000000) (hL : L = eO q b o ++ X) (has : av = [.loc 0 0, valD v])
  (hK : KW (.tup [.int .i64 (targetA b.syms v).1, .int .i64 (targetA b.syms v).2]) (eO q b o ++ X)) : CallS Tryz.prog n_asm_builder_target av L KP KW := by
 subst has
 have hm : Meets Tryz.prog n_asm_builder_target (SpecF (fun ((b, _, _, _) : Bld × Out × OVal × List OEqu) => b.syms.length ≤ 1000000) (fun (_, _, v, _) => [.loc 0 0, valD v])
   (fun (b, o, _, q) => eO q b o) (fun (b, _, v, _) => .tup [.int .i64 (targetA b.syms v).1, .int .i64 (targetA b.syms v).2]) fun (b, o, _, q) => eO q b o) := by
  clear hK hL hl
  refine meets_f tabOk Tryz.func70 rfl (by decide) ?_
  rintro ⟨b, o, v, q⟩ hl
  have hl : b.syms.length ≤ 1000000 := hl
  refine ⟨Nat.le_refl _, by simp [Tryz.f70], fun E hE => ?_⟩
  show AWP _ _ _ _ (FinQ _ _ _ (.tup [.int .i64 (targetA b.syms v).1, .int .i64 (targetA b.syms v).2]) (eO q b o)) _ (eO q b o)
  have hT : targetA b.syms v = if v.name = [] then (0, 8) else if idxN v.name b.syms 0 < 0 then (0, 6) else (w64 ((symA b.syms (idxN v.name b.syms 0)).at_ + v.n), 0) := rfl
  generalize targetA b.syms v = T at *
  refine vcOk _ ?_
  (all_goals refine qgp ?_ <;> (repeat' first | exact trivial | intro hc | refine And.intro ?_ ?_) <;> refine Lf.mk ?_)
  ·rw [if_pos hc] at hT
   subst hT
   exact end_eO [_] rfl rfl rfl (Nat.le_of_eq rfl) (.tup (.cons .int (.cons .int .nil)))
  rw [if_neg hc] at hT
  refine idx_syms n_asm_builder_target_1 [.loc 7 0] (fun s => s.name == v.name) b.syms (.cells (eC q b o)) (.arr 13 (b.items.map itemD)) [.spare b.marks.length, .arr 1 (b.shut.map shutD), .spare o.rels.length, .spare o.code.length, .cells [.str v.name, .int .i64 v.n]] (by omega) rfl rfl
   (fun s hs KP KW hK => ?_) ?_
  ·exact call_f target1_meets [7] [7] (s, v) trivial rfl rfl ⟨VS.mk (LeL.refl _), VS.mk rfl, hK⟩
  have hp := posF_bound (fun s : OSym => s.name == v.name) b.syms 0
  have hT : T = if posF (fun s : OSym => s.name == v.name) b.syms 0 < 0 then (0, 6) else (w64 ((symA b.syms (posF (fun s : OSym => s.name == v.name) b.syms 0)).at_ + v.n), 0) := hT
  generalize posF (fun s : OSym => s.name == v.name) b.syms 0 = p at *
  (all_goals refine qgp ?_ <;> (repeat' first | exact trivial | intro hc | refine And.intro ?_ ?_) <;> refine Lf.mk ?_)
  ·rw [if_pos hc] at hT
   subst hT
   exact end_eO [_] rfl rfl rfl (Nat.le_of_eq rfl) (.tup (.cons .int (.cons .int .nil)))
  have hpl : p.toNat < b.syms.length := by
   rcases hp with h | ⟨j, h1, h2⟩
   ·omega
   ·rw [h2, Int.toNat_natCast, Nat.zero_add]; exact h1
  have hs : b.syms[p.toNat]? = some (symA b.syms p) := by unfold symA; rw [List.getElem?_eq_getElem hpl]; rfl
  rw [if_neg hc] at hT
  refine ix_map (symA b.syms p) (Int.natCast_nonneg _) (by rw [Int.toNat_natCast, Nat.zero_add]; exact hs) ?_
  (all_goals refine qgp ?_ <;> (repeat' first | exact trivial | intro hc | refine And.intro ?_ ?_) <;> refine Lf.mk ?_)
  refine ar_w ?_
  (all_goals refine qgp ?_ <;> (repeat' first | exact trivial | intro hc | refine And.intro ?_ ?_) <;> refine Lf.mk ?_)
  subst hT
  exact end_eO [_] rfl rfl rfl (Nat.le_of_eq rfl) (.tup (.cons .int (.cons .int .nil)))
 exact call_b hm X (b, o, v, q) hl hL (LeL.refl _) rfl (.cons (.loc (Nat.lt_of_lt_of_le (by decide : 0 < 7) (Nat.le_of_eq rfl))) (.cons (valD_cl v) .nil)) (.tup (.cons .int (.cons .int .nil))) (eO_cl _ _ _) (eO_cl _ _ _) hK
attribute [local irreducible] targetA
theorem wordE_len (syms : List OSym) (o : Out) (v : OVal) (size : Nat) : (wordE syms o v size).code.length = o.code.length + size := by
 unfold wordE
 split
 ·dsimp only
  rw [putN_len]
  simp
 ·simp
theorem aword_meets : Meets Tryz.prog n_asm_builder_word (SpecF (fun ((b, o, _, size, _) : Bld × Out × OVal × Nat × List OEqu) => b.syms.length ≤ 1000000 ∧ o.code.length ≤ 500000000 ∧ o.rels.length ≤ 500000000 ∧ 0 < size ∧ size ≤ 4) (fun (_, _, v, size, _) => [.loc 0 0, valD v, .int .i64 size])
  (fun (b, o, _, _, q) => eO q b o) (fun _ => .tup []) fun (b, o, v, size, q) => eO q b (wordE b.syms o v size)) := by
 refine meets_g 6 tabOk Tryz.func72 rfl (by decide) ?_
 rintro ⟨b, o, v, size, q⟩ ⟨hs, hl, hr, h0, h4⟩
 have hs : b.syms.length ≤ 1000000 := hs
 have hl : o.code.length ≤ 500000000 := hl
 have hr : o.rels.length ≤ 500000000 := hr
 have h0 : 0 < size := h0
 have h4 : size ≤ 4 := h4
 have hlen := wordE_len b.syms o v size
 refine ⟨Nat.le_succ 6, ?_, Nat.le_refl _, by simp [Tryz.f72], fun E hE => ?_⟩
 ·intro k hk hk2
  obtain rfl : k = 6 := by
   have : k < 7 := hk2
   omega
  exact ⟨_, _, rfl, rfl, by rw [hlen]; omega⟩
 show AWP _ _ _ _ (FinQ _ _ _ _ (eO q b (wordE b.syms o v size))) _ (eO q b o)
 have hW : wordE b.syms o v size = if v.name = [] then ⟨putN (o.code ++ List.replicate size 0) o.code.length size v.n, o.rels, o.fe, o.fa⟩
  else ⟨o.code ++ List.replicate size 0, o.rels ++ [relE b.syms o.code.length size v], o.fe, o.fa⟩ := rfl
 generalize wordE b.syms o v size = W at *
 refine vcOk _ ?_
 (all_goals refine qgk ?_ <;> (repeat' first | exact trivial | intro hc | refine And.intro ?_ ?_) <;> refine Lf.mk ?_)
 refine norm_eq ((o.code ++ List.replicate size 0).map byteD) (by rw [List.map_append, List.map_replicate]; rfl) ?_
 have hcl : (o.code ++ List.replicate size 0).length = o.code.length + size := by simp
 rw [List.length_map]
 (all_goals refine qgk ?_ <;> (repeat' first | exact trivial | intro hc | refine And.intro ?_ ?_) <;> refine Lf.mk ?_)
 ·rw [if_pos hc] at hW
  refine call_f put_meets [] [8] (o.code ++ List.replicate size 0, o.code.length, size, v.n) ⟨by show -1000000000000 ≤ ((o.code.length : Nat) : Int); omega, by show ((o.code.length : Nat) : Int) ≤ _; omega, by show size ≤ _; omega, by show (o.code ++ List.replicate size 0).length ≤ _; omega⟩ rfl rfl ?_
  refine And.intro (VS.mk (LeL.of_eq rfl)) (And.intro (VS.mk rfl) ?_)
  (all_goals refine qgk ?_ <;> (repeat' first | exact trivial | intro hc | refine And.intro ?_ ?_) <;> refine Lf.mk ?_)
  have key : ∀ k, k < 6 → keepAt [0, 1, 2, 3, 4, 5, 8] 0 k = some k := by decide
  subst hW
  have hpl := putN_len o.code.length size (o.code ++ List.replicate size 0) v.n
  refine end_keepO [0, 1, 2, 3, 4, 5, 8] rfl rfl ?_ (ClD.tup0 (n := 6) _ key)
  refine .cons (o := .cells [.sl 2 (q.map equD) none, .osl 13 1 b.items.length 0 b.items.length, .osl 2 2 b.syms.length 0 b.syms.length, .sl 1 (b.marks.map (.int .i64)) (some 3), .osl 1 4 (poolsD b).length 0 (poolsD b).length, .int .i64 b.shut.length,
   .sl 1 ((putN (o.code ++ List.replicate size 0) o.code.length size v.n).map byteD) (some 8), .nilsl, .sl 4 (o.rels.map relD) (some 5), .int .i64 o.fe, .int .i64 o.fa]) rfl
   ⟨_, rfl, .cons (ClD.sl (n := 6) _ key) (.cons (ClD.osl (n := 6) (by decide) _ key) (.cons (ClD.osl (n := 6) (by decide) _ key) (.cons (ClD.tok (n := 6) (by decide) _ key) (.cons (ClD.osl (n := 6) (by decide) _ key) (.cons (ClD.int (n := 6) _ key)
     (.cons (.tok rfl) (.cons (ClD.nilsl (n := 6) _ key) (.cons (ClD.tok (n := 6) (by decide) _ key) (.cons (ClD.int (n := 6) _ key) (.cons (ClD.int (n := 6) _ key) .nil))))))))))⟩
   (.cons (o := .arr 13 (b.items.map itemD)) rfl (ClO.arr (n := 6) (items_cl _) _ key) (.cons (o := .arr 2 (b.syms.map symD)) rfl (ClO.arr (n := 6) (syms_cl _) _ key) (.cons (o := .spare b.marks.length) rfl rfl
   (.cons (o := .arr 1 (b.shut.map shutD)) rfl (ClO.arr (n := 6) (shuts_cl _) _ key) (.cons (o := .spare o.rels.length) rfl rfl (.cons (o := .spare (o.code ++ List.replicate size 0).length) rfl (by rw [hpl]; rfl) .nil))))))
 ·rw [if_neg hc] at hW
  refine target_e q b ⟨o.code ++ List.replicate size 0, o.rels, o.fe, o.fa⟩ v [_, _] hs rfl rfl ?_
  have hR : relE b.syms o.code.length size v = if (targetA b.syms v).2 = 0 then ⟨o.code.length, size, [], signedI (targetA b.syms v).1 32⟩ else ⟨o.code.length, size, v.name, v.n⟩ := rfl
  generalize targetA b.syms v = T at *
  (all_goals refine qgk ?_ <;> (repeat' first | exact trivial | intro hc | refine And.intro ?_ ?_) <;> refine Lf.mk ?_)
  ·rw [if_pos hc] at hR
   refine call_p signed_meets2 T.1 trivial (VS.mk (LeL.of_eq rfl)) ?_
   (all_goals refine qgk ?_ <;> (repeat' first | exact trivial | intro hc | refine And.intro ?_ ?_) <;> refine Lf.mk ?_)
   refine norm_eq ((o.rels ++ [relE b.syms o.code.length size v]).map relD) (by rw [hR, List.map_append]; rfl) ?_
   rw [List.length_map]
   (all_goals refine qgk ?_ <;> (repeat' first | exact trivial | intro hc | refine And.intro ?_ ?_) <;> refine Lf.mk ?_)
   subst hW
   exact end_eO (o' := ⟨o.code ++ List.replicate size 0, o.rels ++ [relE b.syms o.code.length size v], o.fe, o.fa⟩) [_, _] rfl rfl rfl (by decide) .tup0
  ·rw [if_neg hc] at hR
   refine norm_eq ((o.rels ++ [relE b.syms o.code.length size v]).map relD) (by rw [hR, List.map_append]; rfl) ?_
   rw [List.length_map]
   (all_goals refine qgk ?_ <;> (repeat' first | exact trivial | intro hc | refine And.intro ?_ ?_) <;> refine Lf.mk ?_)
   subst hW
   exact end_eO (o' := ⟨o.code ++ List.replicate size 0, o.rels ++ [relE b.syms o.code.length size v], o.fe, o.fa⟩) [_, _] rfl rfl rfl (by decide) .tup0
attribute [local irreducible] halfE leadE nearE
theorem fillE_zero {o : Out} {to : Int} (h : to ≤ o.code.length) : fillE o to = o := by
 unfold fillE
 rw [show (to - (o.code.length : Int)).toNat = 0 by omega]
 simp
theorem fillE_more {o : Out} {to : Int} (h : (o.code.length : Int) < to) : fillE ⟨o.code ++ [0], o.rels, o.fe, o.fa⟩ to = fillE o to := by
 unfold fillE
 have : (to - (o.code.length : Int)).toNat = (to - ((o.code ++ [0]).length : Int)).toNat + 1 := by simp; omega
 rw [this, List.replicate_succ]
 simp
theorem fill_le {o : Out} {to : Int} {m : Nat} (h1 : o.code.length ≤ m) (h2 : to ≤ m) : (fillE o to).code.length ≤ m := by
 unfold fillE
 simp only [List.length_append, List.length_replicate]
 omega
theorem fill_rels (o : Out) (to : Int) : (fillE o to).rels = o.rels := by unfold fillE; rfl
theorem word_rels (syms : List OSym) (o : Out) (v : OVal) (size : Nat) : (wordE syms o v size).rels.length ≤ o.rels.length + 1 := by
 unfold wordE
 split
 ·exact Nat.le_succ _
 ·simp
theorem afill_meets : Meets Tryz.prog n_asm_builder_fill (SpecF (fun ((_, o, to, _) : Bld × Out × Int × List OEqu) => o.code.length ≤ 1000000000 ∧ to ≤ 1000000000) (fun (_, _, to, _) => [.loc 0 0, .int .i64 to])
  (fun (b, o, _, q) => eO q b o) (fun _ => .tup []) fun (b, o, to, q) => eO q b (fillE o to)) := by
 refine meets_f tabOk Tryz.func73 rfl (by decide) ?_
 rintro ⟨b, o, to, q⟩ ⟨hl, ht⟩
 have hl : o.code.length ≤ 1000000000 := hl
 have ht : to ≤ 1000000000 := ht
 refine ⟨Nat.le_refl _, by simp [Tryz.f73], fun E hE => ?_⟩
 have hE7 : E.L.length = 7 := by rw [hE]; rfl
 show AWP _ _ _ _ (FinQ _ _ _ _ (eO q b (fillE o to))) _ (eO q b o)
 generalize hF : fillE o to = F
 refine vcOk _ ?_
 (all_goals refine qgp ?_ <;> (repeat' first | exact trivial | intro hc | refine And.intro ?_ ?_) <;> refine Lf.mk ?_)
 refine awp_loopW (α := Out) (fun p => fillE p to = F ∧ p.code.length ≤ 1000000000) (fun _ => [(0, .loc 0 0), (1, .int .i64 to)]) (fun p => eO q b p) (fun p => (to - (p.code.length : Int)).toNat) (fun _ => by rw [hE7]; exact Nat.le_refl 7) o ⟨hF, hl⟩ ?_ ?_
 ·exact weak_same rfl ⟨rfl, rfl, trivial⟩
 rintro p ⟨i1, i2⟩
 refine vcOk _ ?_
 (all_goals refine qgk ?_ <;> (repeat' first | exact trivial | intro hc | refine And.intro ?_ ?_) <;> refine Lf.mk ?_)
 ·refine norm_eq ((p.code ++ [0]).map byteD) (by rw [List.map_append]; rfl) ?_
  rw [List.length_map]
  (all_goals refine qgk ?_ <;> (repeat' first | exact trivial | intro hc | refine And.intro ?_ ?_) <;> refine Lf.mk ?_)
  exact loop_same (⟨p.code ++ [0], p.rels, p.fe, p.fa⟩ : Out) ⟨by rw [fillE_more hc]; exact i1, by show (p.code ++ [0]).length ≤ _; simp; omega⟩ (by show (to - ((p.code ++ [0]).length : Int)).toNat < _; simp; omega) rfl ⟨rfl, rfl, trivial⟩
 ·rw [fillE_zero (by omega)] at i1
  subst i1
  exact end_eq rfl rfl
theorem call_fill {av : List D} {L : List Ob} {KP : D → Prop} {KW : D → List Ob → Prop} (q : List OEqu) (b : Bld) (o : Out) (to : Int) (X : List Ob) (hl : o.code.length ≤ 1000000000) (ht : to ≤ 1000000000) (hL : L = eO q b o ++ X) (has : av = [.loc 0 0, .int .i64 to])
  (hK : KW (.tup []) (eO q b (fillE o to) ++ X)) : CallS Tryz.prog n_asm_builder_fill av L KP KW := by
 subst has
 exact call_b afill_meets X (b, o, to, q) ⟨hl, ht⟩ hL (LeL.refl _) rfl (.cons (.loc (Nat.lt_of_lt_of_le (by decide : 0 < 7) (Nat.le_of_eq rfl))) (.cons .int .nil)) .tup0 (eO_cl _ _ _) (eO_cl _ _ _) hK
theorem call_word {av : List D} {L : List Ob} {KP : D → Prop} {KW : D → List Ob → Prop} (q : List OEqu) (b : Bld) (o : Out) (v : OVal) (size : Nat) (X : List Ob) (hs : b.syms.length ≤ 1000000) (hl : o.code.length ≤ 500000000) (hr : o.rels.length ≤ 500000000) (h0 : 0 < size) (h4 : size ≤ 4) (hL : L = eO q b o ++ X)
  (has : LeL av [.loc 0 0, valD v, .int .i64 size]) (hK : KW (.tup []) (eO q b (wordE b.syms o v size) ++ X)) : CallS Tryz.prog n_asm_builder_word av L KP KW := by
 refine call_le has ?_
 exact call_b aword_meets X (b, o, v, size, q) ⟨hs, hl, hr, h0, h4⟩ hL (LeL.refl _) rfl (.cons (.loc (Nat.lt_of_lt_of_le (by decide : 0 < 7) (Nat.le_of_eq rfl))) (.cons (valD_cl v) (.cons .int .nil))) .tup0 (eO_cl _ _ _) (eO_cl _ _ _) hK
theorem call_near {av : List D} {L : List Ob} {KP : D → Prop} {KW : D → List Ob → Prop} (q : List OEqu) (b : Bld) (o : Out) (k : Nat) (x : AItem) (to : Int) (X : List Ob) (hl : o.code.length ≤ 900000000) (hx : b.items[k]? = some x) (h0 : 0 ≤ x.at_) (h1 : x.at_ ≤ 100000000000000) (hL : L = eO q b o ++ X)
  (has : av = [.loc 0 0, .aloc 1 b.items.length k 0, .int .i64 to]) (hK : KW (.tup []) (eO q b (nearE o x to) ++ X)) : CallS Tryz.prog n_asm_builder_near av L KP KW := by
 subst has
 exact call_b near_meets X (b, o, k, x, to, q) ⟨hl, hx, h0, h1⟩ hL (LeL.refl _) rfl (.cons (.loc (Nat.lt_of_lt_of_le (by decide : 0 < 7) (Nat.le_of_eq rfl))) (.cons (.aloc (Nat.lt_of_lt_of_le (by decide : 1 < 7) (Nat.le_of_eq rfl))) (.cons .int .nil))) .tup0 (eO_cl _ _ _) (eO_cl _ _ _) hK
def boxO (b : Bld) (k : Nat) : Ob := .cells [.aloc 1 b.items.length k 0]
theorem eOb_cl (q : List OEqu) (b : Bld) (o : Out) (k : Nat) : ∀ x ∈ eO q b o ++ [boxO b k], ClO (eO q b o ++ [boxO b k]).length x := by
 intro x hx
 have hl : (eO q b o ++ [boxO b k]).length = 8 := rfl
 rw [hl]
 rcases List.mem_append.1 hx with hx | hx
 ·exact ClO.up (eO_cl q b o x hx) (by decide)
 ·rw [List.mem_singleton] at hx
  subst hx
  exact .cells (.cons (.aloc (by decide)) .nil)
theorem call_emit1 {av : List D} {L : List Ob} {KP : D → Prop} {KW : D → List Ob → Prop} (q : List OEqu) (b : Bld) (o : Out) (k : Nat) (x y : AItem) (hx : b.items[k]? = some x) (hL : L = eO q b o ++ [boxO b k]) (has : av = [itemD y, .loc 7 0])
  (hK : KW (.bool (y.kind == 9 && y.pool == x.pool)) L) : CallS Tryz.prog n_asm_builder_emit_1 av L KP KW := by
 subst has
 refine call_inline tabOk Tryz.func77 rfl (by decide) (.bool (y.kind == 9 && y.pool == x.pool)) L (Nat.le_refl _) (by simp [Tryz.f77]) (fun E hE => ?_) hK
 subst hL
 have hxn : b.items[((k : Nat) : Int).toNat]? = some x := by rw [Int.toNat_natCast]; exact hx
 refine vcOk _ ?_
 (all_goals refine qgp ?_ <;> (repeat' first | exact trivial | intro hc | refine And.intro ?_ ?_) <;> refine Lf.mk ?_)
 ·refine ix_map x (Int.natCast_nonneg k) hxn ?_
  (all_goals refine qgp ?_ <;> (repeat' first | exact trivial | intro hc | refine And.intro ?_ ?_) <;> refine Lf.mk ?_)
  have he : (y.kind == 9 && y.pool == x.pool) = (y.pool == x.pool) := by rw [hc]; simp
  rw [he]
  exact end_pre (eO q b o ++ [boxO b k]) [_] rfl (Nat.le_refl _) .bool (eOb_cl q b o k)
 ·have he : (y.kind == 9 && y.pool == x.pool) = false := by simp [hc]
  rw [he]
  exact end_le (.ff rfl) (end_pre (eO q b o ++ [boxO b k]) [_] rfl (Nat.le_refl _) .bool (eOb_cl q b o k)) (Nat.le_refl _)
structure EmitIn (b : Bld) (x : AItem) : Prop where
 size : SizeOk b.shut x
 lo : 0 ≤ x.at_
 hi : x.at_ ≤ 100000000
 idx : 0 ≤ x.idx ∧ x.idx ≤ 100000000
 pool : x.kind = 6 → 0 ≤ idxP x.pool b.items 0
def emB (b : Bld) (o : Out) (x : AItem) : Out := emitE b.shut b.items b.syms o x
attribute [local irreducible] fillE wordE
theorem aemit_meets : Meets Tryz.prog n_asm_builder_emit (SpecF (fun ((b, o, k, x, _) : Bld × Out × Nat × AItem × List OEqu) => b.has = false ∧ b.items[k]? = some x ∧ (∀ y ∈ b.items, EmitIn b y) ∧ b.items.length ≤ 1000000 ∧ b.syms.length ≤ 1000000 ∧ o.code.length ≤ 400000000 ∧ o.rels.length ≤ 400000000) (fun (b, _, k, _, _) => [.loc 0 0, .aloc 1 b.items.length k 0])
  (fun (b, o, _, _, q) => eO q b o) (fun _ => .tup []) fun (b, o, _, x, q) => eO q b (emB b o x)) := by
 refine meets_f tabOk Tryz.func40 rfl (by decide) ?_
 rintro ⟨b, o, k, x, q⟩ ⟨hh, hx, hin, hil, hsl, hcl, hrl⟩
 have hh : b.has = false := hh
 have hx : b.items[k]? = some x := hx
 have hin : ∀ y ∈ b.items, EmitIn b y := hin
 have hil : b.items.length ≤ 1000000 := hil
 have hsl : b.syms.length ≤ 1000000 := hsl
 have hcl : o.code.length ≤ 400000000 := hcl
 have hrl : o.rels.length ≤ 400000000 := hrl
 have hxe := hin x (List.mem_of_getElem? hx)
 obtain ⟨⟨hs8, hs7, hs9, hsp⟩, hlo, hhi, ⟨hi0, hi1⟩, hpool⟩ := hxe
 have hxn : b.items[((k : Nat) : Int).toNat]? = some x := by rw [Int.toNat_natCast]; exact hx
 refine ⟨Nat.le_refl _, by simp [Tryz.f40], fun E hE => ?_⟩
 have hE7 : E.L.length = 7 := by rw [hE]; rfl
 show AWP _ _ _ _ (FinQ _ _ _ _ (eO q b (emB b o x))) _ (eO q b o)
 have hH : emB b o x = if x.kind = 7 then (if x.at_ % x.size ≠ 0 then failE o 11 x.line else wordE b.syms o x.val x.size.toNat)
  else if x.kind = 8 then fillE o (upA x.at_ x.size)
  else if x.kind = 9 then ((b.shut[x.pool.toNat]?).getD []).foldl (fun o v => wordE b.syms o v 4) (fillE o (upA x.at_ 4))
  else if x.at_ % 2 ≠ 0 then failE o 11 x.line
  else if x.kind = 1 then halfE o x.ins x.line
  else if x.kind = 6 then leadE o x.ins x.at_ (upA (itA b.items (idxP x.pool b.items 0)).at_ 4 + 4 * x.idx) x.line
  else if (targetA b.syms x.val).2 ≠ 0 then failE o (targetA b.syms x.val).2 x.line
  else if x.kind = 2 then nearE o x (targetA b.syms x.val).1
  else leadE o x.ins x.at_ (targetA b.syms x.val).1 x.line := rfl
 generalize emB b o x = H at *
 refine vcOk _ ?_
 (all_goals refine qgp ?_ <;> (repeat' first | exact trivial | intro hc | refine And.intro ?_ ?_) <;> refine Lf.mk ?_)
 refine ix_map x (Int.natCast_nonneg k) hxn ?_
 (all_goals refine qgp ?_ <;> (repeat' first | exact trivial | intro hc | refine And.intro ?_ ?_) <;> refine Lf.mk ?_)
 ·rw [if_pos hc] at hH
  have h7 := hs7 hc
  refine ix_map x (Int.natCast_nonneg k) hxn ?_
  (all_goals refine qgp ?_ <;> (repeat' first | exact trivial | intro hc | refine And.intro ?_ ?_) <;> refine Lf.mk ?_)
  refine ix_map x (Int.natCast_nonneg k) hxn ?_
  (all_goals refine qgp ?_ <;> (repeat' first | exact trivial | intro hc | refine And.intro ?_ ?_) <;> refine Lf.mk ?_)
  ·rw [if_pos hc] at hH
   refine ix_map x (Int.natCast_nonneg k) hxn ?_
   (all_goals refine qgp ?_ <;> (repeat' first | exact trivial | intro hc | refine And.intro ?_ ?_) <;> refine Lf.mk ?_)
   refine call_efail q b o 11 x.line [_] rfl rfl ?_
   rw [← hH]
   (all_goals refine qgp ?_ <;> (repeat' first | exact trivial | intro hc | refine And.intro ?_ ?_) <;> refine Lf.mk ?_)
   exact end_eO [_] rfl rfl rfl (Nat.le_of_eq rfl) .tup0
  ·rw [if_neg (fun h => h hc)] at hH
   refine ix_map x (Int.natCast_nonneg k) hxn ?_
   (all_goals refine qgp ?_ <;> (repeat' first | exact trivial | intro hc | refine And.intro ?_ ?_) <;> refine Lf.mk ?_)
   refine ix_map x (Int.natCast_nonneg k) hxn ?_
   (all_goals refine qgp ?_ <;> (repeat' first | exact trivial | intro hc | refine And.intro ?_ ?_) <;> refine Lf.mk ?_)
   refine call_word q b o x.val x.size.toNat [_] hsl (by omega) (by omega) (by omega) (by omega) rfl (LeL.of_eq (by rw [Int.toNat_of_nonneg (by omega)]; rfl)) ?_
   rw [← hH]
   (all_goals refine qgp ?_ <;> (repeat' first | exact trivial | intro hc | refine And.intro ?_ ?_) <;> refine Lf.mk ?_)
   exact end_eO [_] rfl rfl rfl (Nat.le_of_eq rfl) .tup0
 ·rw [if_neg (by assumption), if_pos hc] at hH
  have h8 := hs8 hc
  have hu := upA_le (n := x.at_) h8.1
  refine ix_map x (Int.natCast_nonneg k) hxn ?_
  (all_goals refine qgp ?_ <;> (repeat' first | exact trivial | intro hc | refine And.intro ?_ ?_) <;> refine Lf.mk ?_)
  refine ix_map x (Int.natCast_nonneg k) hxn ?_
  (all_goals refine qgp ?_ <;> (repeat' first | exact trivial | intro hc | refine And.intro ?_ ?_) <;> refine Lf.mk ?_)
  refine call_p up_meets (x.at_, x.size) ⟨hlo, by show x.at_ ≤ _; omega, h8.1, by show x.size ≤ _; omega⟩ (VS.mk (LeL.of_eq rfl)) ?_
  (all_goals refine qgp ?_ <;> (repeat' first | exact trivial | intro hc | refine And.intro ?_ ?_) <;> refine Lf.mk ?_)
  refine call_fill q b o (upA x.at_ x.size) [_] (by omega) (by omega) rfl rfl ?_
  rw [← hH]
  (all_goals refine qgp ?_ <;> (repeat' first | exact trivial | intro hc | refine And.intro ?_ ?_) <;> refine Lf.mk ?_)
  exact end_eO [_] rfl rfl rfl (Nat.le_of_eq rfl) .tup0
 ·rw [if_neg (by assumption), if_neg (by assumption), if_pos hc] at hH
  have h9 := hs9 hc
  have hu := upA_le (n := x.at_) (k := 4) (by decide)
  have hpl : poolsD b = b.shut.map shutD := by unfold poolsD; rw [hh]
  have hlt : x.pool.toNat < b.shut.length := by omega
  have hgp : b.shut[x.pool.toNat]? = some ((b.shut[x.pool.toNat]?).getD []) := by rw [List.getElem?_eq_getElem hlt]; rfl
  have hpm := hsp _ (List.mem_of_getElem? hgp)
  generalize (b.shut[x.pool.toNat]?).getD [] = p at *
  refine ix_map x (Int.natCast_nonneg k) hxn ?_
  (all_goals refine qgp ?_ <;> (repeat' first | exact trivial | intro hc | refine And.intro ?_ ?_) <;> refine Lf.mk ?_)
  refine call_p up_meets (x.at_, 4) ⟨hlo, by show x.at_ ≤ _; omega, by decide, by decide⟩ (VS.mk (LeL.of_eq rfl)) ?_
  (all_goals refine qgp ?_ <;> (repeat' first | exact trivial | intro hc | refine And.intro ?_ ?_) <;> refine Lf.mk ?_)
  refine call_fill q b o (upA x.at_ 4) [_] (by omega) (by omega) rfl rfl ?_
  have hfl := fill_le (o := o) (to := upA x.at_ 4) (m := 400000000) hcl (by omega)
  have hfr := fill_rels o (upA x.at_ 4)
  generalize fillE o (upA x.at_ 4) = o1 at *
  (all_goals refine qgp ?_ <;> (repeat' first | exact trivial | intro hc | refine And.intro ?_ ?_) <;> refine Lf.mk ?_)
  refine ix_map x (Int.natCast_nonneg k) hxn ?_
  (all_goals refine qgp ?_ <;> (repeat' first | exact trivial | intro hc | refine And.intro ?_ ?_) <;> refine Lf.mk ?_)
  refine sd_mk ⟨h9.1, by rw [hpl, List.length_map]; exact h9.2⟩ ?_
  (all_goals refine qgp ?_ <;> (repeat' first | exact trivial | intro hc | refine And.intro ?_ ?_) <;> refine Lf.mk ?_)
  refine sd_mk (by rw [hpl]) ?_
  refine VS.mk ?_
  refine ix_map (enc := shutD) (l := b.shut) (n := ((0 + x.pool.toNat : Nat) : Int)) p (Int.natCast_nonneg _) (by rw [Int.toNat_natCast, Nat.zero_add]; exact hgp) ?_
  (all_goals refine qgp ?_ <;> (repeat' first | exact trivial | intro hc | refine And.intro ?_ ?_) <;> refine Lf.mk ?_)
  refine awp_loopW (α := Nat × Out) (fun r => r.1 ≤ p.length ∧ (p.drop r.1).foldl (fun o v => wordE b.syms o v 4) r.2 = H ∧ r.2.code.length ≤ 400000000 + 4 * r.1 ∧ r.2.rels.length ≤ 400000000 + r.1)
   (fun r => [(0, .loc 0 0), (72, .sl 2 (p.map valD) none), (73, .int .i64 p.length), (74, .int .i64 r.1)]) (fun r => eO q b r.2) (fun r => p.length - r.1) (fun _ => by rw [hE7]; exact Nat.le_refl 7) (0, o1) ⟨Nat.zero_le _, hH.symm, by dsimp only; omega, by dsimp only; rw [hfr]; omega⟩ ?_ ?_
  ·exact weak_pre (eO q b o1) [boxO b k] rfl (by rw [hE7]; exact Nat.le_refl 7) (eO_cl _ _ _) ⟨rfl, rfl, rfl, rfl, trivial⟩ (.cons (.loc (Nat.lt_of_lt_of_le (by decide : 0 < 7) (Nat.le_of_eq rfl))) (.cons .sl (.cons .int (.cons .int .nil))))
  rintro ⟨j, o2⟩ ⟨j1, j2, j3, j4⟩
  dsimp only at j1 j2 j3 j4 ⊢
  refine vcOk _ ?_
  (all_goals refine qgp ?_ <;> (repeat' first | exact trivial | intro hc | refine And.intro ?_ ?_) <;> refine Lf.mk ?_)
  ·obtain ⟨v, hv⟩ := at_of_lt (l := p) (k := j) (by omega)
   have hjl : j < p.length := by omega
   have hgv : p[j] = v := by rw [List.getElem?_eq_getElem hjl] at hv; exact Option.some.inj hv
   rw [List.drop_eq_getElem_cons hjl, hgv, List.foldl_cons] at j2
   have hwl := wordE_len b.syms o2 v 4
   have hwr := word_rels b.syms o2 v 4
   refine ix_map v (by omega) (by simpa using hv) ?_
   (all_goals refine qgp ?_ <;> (repeat' first | exact trivial | intro hc | refine And.intro ?_ ?_) <;> refine Lf.mk ?_)
   refine call_word q b o2 v 4 [_] hsl (by omega) (by omega) (by decide) (by decide) rfl (LeL.of_eq rfl) ?_
   generalize wordE b.syms o2 v 4 = o3 at *
   (all_goals refine qgp ?_ <;> (repeat' first | exact trivial | intro hc | refine And.intro ?_ ?_) <;> refine Lf.mk ?_)
   exact loop_pre (j + 1, o3) [_] ⟨by show j + 1 ≤ _; omega, j2, by dsimp only; omega, by dsimp only; omega⟩ (by dsimp only; omega) rfl (by rw [hE7]; exact Nat.le_refl 7) (eO_cl _ _ _) ⟨rfl, rfl, rfl, rfl, trivial⟩
    (.cons (.loc (Nat.lt_of_lt_of_le (by decide : 0 < 7) (Nat.le_of_eq rfl))) (.cons .sl (.cons .int (.cons .int .nil))))
  ·have hj : j = p.length := by omega
   rw [hj, List.drop_length] at j2
   exact end_eO [] rfl j2 rfl (Nat.le_of_eq rfl) .tup0
 ·rw [if_neg (by assumption), if_neg (by assumption), if_neg hc] at hH
  refine ix_map x (Int.natCast_nonneg k) hxn ?_
  (all_goals refine qgp ?_ <;> (repeat' first | exact trivial | intro hc | refine And.intro ?_ ?_) <;> refine Lf.mk ?_)
  ·rw [if_pos hc] at hH
   refine ix_map x (Int.natCast_nonneg k) hxn ?_
   (all_goals refine qgp ?_ <;> (repeat' first | exact trivial | intro hc | refine And.intro ?_ ?_) <;> refine Lf.mk ?_)
   refine call_efail q b o 11 x.line [_] rfl rfl ?_
   rw [← hH]
   (all_goals refine qgp ?_ <;> (repeat' first | exact trivial | intro hc | refine And.intro ?_ ?_) <;> refine Lf.mk ?_)
   exact end_eO [_] rfl rfl rfl (Nat.le_of_eq rfl) .tup0
  ·rw [if_neg (fun h => h hc)] at hH
   refine ix_map x (Int.natCast_nonneg k) hxn ?_
   (all_goals refine qgp ?_ <;> (repeat' first | exact trivial | intro hc | refine And.intro ?_ ?_) <;> refine Lf.mk ?_)
   ·rw [if_pos hc] at hH
    refine ix_map x (Int.natCast_nonneg k) hxn ?_
    (all_goals refine qgp ?_ <;> (repeat' first | exact trivial | intro hc | refine And.intro ?_ ?_) <;> refine Lf.mk ?_)
    refine ix_map x (Int.natCast_nonneg k) hxn ?_
    (all_goals refine qgp ?_ <;> (repeat' first | exact trivial | intro hc | refine And.intro ?_ ?_) <;> refine Lf.mk ?_)
    refine call_half q b o x.ins x.line [_] (by omega) rfl (LeL.of_eq rfl) ?_
    rw [← hH]
    (all_goals refine qgp ?_ <;> (repeat' first | exact trivial | intro hc | refine And.intro ?_ ?_) <;> refine Lf.mk ?_)
    exact end_eO [_] rfl rfl rfl (Nat.le_of_eq rfl) .tup0
   ·rw [if_neg (by assumption), if_pos hc] at hH
    have hp6 := hpool hc
    have hpos := posF_bound (fun y : AItem => y.kind == 9 && y.pool == x.pool) b.items 0
    have hidx : idxP x.pool b.items 0 = posF (fun y : AItem => y.kind == 9 && y.pool == x.pool) b.items 0 := rfl
    rw [hidx] at hp6 hH
    refine idx_items n_asm_builder_emit_1 [.loc 7 0] (fun y => y.kind == 9 && y.pool == x.pool) b.items (.cells (eC q b o)) [.arr 2 (b.syms.map symD), .spare b.marks.length, .arr 1 (b.shut.map shutD), .spare o.rels.length, .spare o.code.length, boxO b k] (by omega) rfl rfl
     (fun y hy KP KW hK => call_emit1 q b o k x y hx rfl rfl hK) ?_
    generalize posF (fun y : AItem => y.kind == 9 && y.pool == x.pool) b.items 0 = z at *
    have hz : z.toNat < b.items.length := by
     rcases hpos with h | ⟨j, h1, h2⟩
     ·omega
     ·rw [h2, Int.toNat_natCast, Nat.zero_add]; exact h1
    have hit : b.items[z.toNat]? = some (itA b.items z) := by unfold itA; rw [List.getElem?_eq_getElem hz]; rfl
    have hie := hin _ (List.mem_of_getElem? hit)
    have hilo := hie.lo
    have hihi := hie.hi
    have hu := upA_le (n := (itA b.items z).at_) (k := 4) (by decide)
    (all_goals refine qgp ?_ <;> (repeat' first | exact trivial | intro hc | refine And.intro ?_ ?_) <;> refine Lf.mk ?_)
    refine ix_map x (Int.natCast_nonneg k) hxn ?_
    (all_goals refine qgp ?_ <;> (repeat' first | exact trivial | intro hc | refine And.intro ?_ ?_) <;> refine Lf.mk ?_)
    refine ix_map x (Int.natCast_nonneg k) hxn ?_
    (all_goals refine qgp ?_ <;> (repeat' first | exact trivial | intro hc | refine And.intro ?_ ?_) <;> refine Lf.mk ?_)
    refine ix_map (itA b.items z) (Int.natCast_nonneg _) (by rw [Int.toNat_natCast, Nat.zero_add]; exact hit) ?_
    (all_goals refine qgp ?_ <;> (repeat' first | exact trivial | intro hc | refine And.intro ?_ ?_) <;> refine Lf.mk ?_)
    refine call_p up_meets ((itA b.items z).at_, 4) ⟨hilo, by show (itA b.items z).at_ ≤ _; omega, by decide, by decide⟩ (VS.mk (LeL.of_eq rfl)) ?_
    (all_goals refine qgp ?_ <;> (repeat' first | exact trivial | intro hc | refine And.intro ?_ ?_) <;> refine Lf.mk ?_)
    refine ix_map x (Int.natCast_nonneg k) hxn ?_
    (all_goals refine qgp ?_ <;> (repeat' first | exact trivial | intro hc | refine And.intro ?_ ?_) <;> refine Lf.mk ?_)
    refine ix_map x (Int.natCast_nonneg k) hxn ?_
    (all_goals refine qgp ?_ <;> (repeat' first | exact trivial | intro hc | refine And.intro ?_ ?_) <;> refine Lf.mk ?_)
    refine call_lead q b o x.ins x.at_ (upA (itA b.items z).at_ 4 + 4 * x.idx) x.line [_] (by omega) hlo (by omega) rfl (LeL.of_eq rfl) ?_
    rw [← hH]
    (all_goals refine qgp ?_ <;> (repeat' first | exact trivial | intro hc | refine And.intro ?_ ?_) <;> refine Lf.mk ?_)
    exact end_eO [_] rfl rfl rfl (Nat.le_of_eq rfl) .tup0
   ·rw [if_neg (by assumption), if_neg hc] at hH
    refine ix_map x (Int.natCast_nonneg k) hxn ?_
    (all_goals refine qgp ?_ <;> (repeat' first | exact trivial | intro hc | refine And.intro ?_ ?_) <;> refine Lf.mk ?_)
    refine target_e q b o x.val [_] hsl rfl rfl ?_
    generalize targetA b.syms x.val = T at *
    (all_goals refine qgp ?_ <;> (repeat' first | exact trivial | intro hc | refine And.intro ?_ ?_) <;> refine Lf.mk ?_)
    ·rw [if_pos hc] at hH
     refine ix_map x (Int.natCast_nonneg k) hxn ?_
     (all_goals refine qgp ?_ <;> (repeat' first | exact trivial | intro hc | refine And.intro ?_ ?_) <;> refine Lf.mk ?_)
     refine call_efail q b o T.2 x.line [_] rfl rfl ?_
     rw [← hH]
     (all_goals refine qgp ?_ <;> (repeat' first | exact trivial | intro hc | refine And.intro ?_ ?_) <;> refine Lf.mk ?_)
     exact end_eO [_] rfl rfl rfl (Nat.le_of_eq rfl) .tup0
    ·rw [if_neg (fun h => h hc)] at hH
     refine ix_map x (Int.natCast_nonneg k) hxn ?_
     (all_goals refine qgp ?_ <;> (repeat' first | exact trivial | intro hc | refine And.intro ?_ ?_) <;> refine Lf.mk ?_)
     ·rw [if_pos hc] at hH
      refine call_near q b o k x T.1 [_] (by omega) hx hlo (by omega) rfl rfl ?_
      rw [← hH]
      (all_goals refine qgp ?_ <;> (repeat' first | exact trivial | intro hc | refine And.intro ?_ ?_) <;> refine Lf.mk ?_)
      exact end_eO [_] rfl rfl rfl (Nat.le_of_eq rfl) .tup0
     ·rw [if_neg hc] at hH
      refine ix_map x (Int.natCast_nonneg k) hxn ?_
      (all_goals refine qgp ?_ <;> (repeat' first | exact trivial | intro hc | refine And.intro ?_ ?_) <;> refine Lf.mk ?_)
      refine ix_map x (Int.natCast_nonneg k) hxn ?_
      (all_goals refine qgp ?_ <;> (repeat' first | exact trivial | intro hc | refine And.intro ?_ ?_) <;> refine Lf.mk ?_)
      refine ix_map x (Int.natCast_nonneg k) hxn ?_
      (all_goals refine qgp ?_ <;> (repeat' first | exact trivial | intro hc | refine And.intro ?_ ?_) <;> refine Lf.mk ?_)
      refine call_lead q b o x.ins x.at_ T.1 x.line [_] (by omega) hlo (by omega) rfl (LeL.of_eq rfl) ?_
      rw [← hH]
      (all_goals refine qgp ?_ <;> (repeat' first | exact trivial | intro hc | refine And.intro ?_ ?_) <;> refine Lf.mk ?_)
      exact end_eO [_] rfl rfl rfl (Nat.le_of_eq rfl) .tup0
end Go.Proofs.YthmdddenbfbefaaGreatDoor
namespace Go.Proofs.YthmdddenbfbefaaGreatDoor
open Go Go.Plat
set_option linter.unusedVariables false
set_option linter.unusedSimpArgs false
set_option maxRecDepth 100000
set_option maxHeartbeats 2000000
attribute [local irreducible] AWP Arith BitS BytesS CallS CatS DrawS EndS IdxS Lib.itoa LookS LoopEnd Meets ModeS NilS NormL NormM QuoS RemS ShlS ShrS SideS SplitS allA bitI evalE findI idxV nameB pRes regI wrongI
def one? (h : Bool) : Int := match h with | true => 1 | false => 0
structure ItOk (n : Nat) (h : Bool) (x : AItem) : Prop where
 al : x.kind = 8 → 0 < x.size ∧ x.size ≤ 16
 da : x.kind = 7 → 0 < x.size ∧ x.size ≤ 4
 po : x.kind = 9 → 0 ≤ x.pool ∧ x.pool < n
 li : x.kind = 6 → 0 ≤ x.pool ∧ x.pool < n + one? h
 ix : 0 ≤ x.idx ∧ x.idx ≤ 1000000
structure OkB (T : Nat) (b : Bld) : Prop where
 its : ∀ x ∈ b.items, ItOk b.shut.length b.has x
 put : ∀ j : Nat, j < b.shut.length → ∃ x ∈ b.items, x.kind = 9 ∧ x.pool = j
 len : b.marks.length = b.syms.length
 pos : ∀ m ∈ b.marks, 0 ≤ m
 shl : ∀ p ∈ b.shut, p.length ≤ T
theorem OkB.fail {T : Nat} {b : Bld} (h : OkB T b) (e line : Int) : OkB T (failB b e line) := by
 unfold failB
 split
 ·exact ⟨h.its, h.put, h.len, h.pos, h.shl⟩
 ·exact h
theorem OkB.set {T : Nat} {b : Bld} (h : OkB T b) (s : RB) : OkB T (setF b s) := ⟨h.its, h.put, h.len, h.pos, h.shl⟩
theorem OkB.puts {T : Nat} {b : Bld} (h : OkB T b) {x : AItem} (hx : ItOk b.shut.length b.has x) : OkB T (putB b x) :=
 ⟨fun y hy => by
   rcases List.mem_append.1 hy with hy | hy
   ·exact h.its y hy
   ·rw [List.mem_singleton] at hy; subst hy; exact hx,
 fun j hj => by obtain ⟨y, h1, h2⟩ := h.put j hj; exact ⟨y, List.mem_append_left _ h1, h2⟩, h.len, h.pos, h.shl⟩
theorem OkB.label {T : Nat} {q : List OEqu} {b : Bld} (h : OkB T b) (t : LTok) (line : Int) : OkB T (labelB q b t line) := by
 unfold labelB
 split
 ·exact h.fail _ _
 ·refine ⟨h.its, h.put, by simp [h.len], fun m hm => ?_, h.shl⟩
  rcases List.mem_append.1 hm with hm | hm
  ·exact h.pos m hm
  ·rw [List.mem_singleton] at hm; subst hm; omega
theorem it_plain {n : Nat} {h : Bool} {x : AItem} (h8 : x.kind ≠ 8) (h7 : x.kind ≠ 7) (h9 : x.kind ≠ 9) (h6 : x.kind ≠ 6) (hi : x.idx = 0) : ItOk n h x :=
 ⟨fun e => absurd e h8, fun e => absurd e h7, fun e => absurd e h9, fun e => absurd e h6, by omega⟩
theorem it_data {n : Nat} {h : Bool} {size line : Int} {v : OVal} (hs : size = 1 ∨ size = 2 ∨ size = 4) : ItOk n h ⟨7, 0, line, noI, false, size, v, 0, 0⟩ :=
 ⟨fun e => absurd e (by dsimp only; decide), fun _ => by dsimp only; omega, fun e => absurd e (by dsimp only; decide), fun e => absurd e (by dsimp only; decide), by dsimp only; decide⟩
theorem OkB.dat {T : Nat} {b : Bld} (h : OkB T b) {size : Int} (hs : size = 1 ∨ size = 2 ∨ size = 4) (line : Int) (o : AOp) : OkB T (datB size line b o) := by
 unfold datB
 refine OkB.puts ?_ (it_data hs)
 repeat' split
 all_goals first | exact h.fail _ _ | exact h
theorem OkB.datas {T : Nat} {size : Int} (hs : size = 1 ∨ size = 2 ∨ size = 4) {line : Int} : ∀ (l : List AOp) {b : Bld}, OkB T b → OkB T (l.foldl (datB size line) b)
 | [], b, h => h
 | o :: l, b, h => OkB.datas hs l (h.dat hs line o)
theorem OkB.data {T : Nat} {b : Bld} (h : OkB T b) {size : Int} (hs : size = 1 ∨ size = 2 ∨ size = 4) (l : List AOp) (line : Int) : OkB T (dataB b size l line) := by
 unfold dataB
 refine OkB.datas hs l ?_
 split
 ·exact h.fail _ _
 ·exact h
theorem OkB.align {T : Nat} {b : Bld} (h : OkB T b) (l : List AOp) (line : Int) : OkB T (alignB b l line) := by
 unfold alignB
 split
 ·exact h.fail _ _
 split
 ·exact h.fail _ _
 ·rename_i hn
  exact h.puts ⟨fun _ => by dsimp only; omega, fun e => absurd e (by dsimp only; decide), fun e => absurd e (by dsimp only; decide), fun e => absurd e (by dsimp only; decide), by dsimp only; decide⟩
theorem OkB.pool {T : Nat} {b : Bld} (h : OkB T b) (hc : b.cur.length ≤ T) (line : Int) : OkB T (poolB b line) := by
 unfold poolB
 split
 ·rename_i hh
  have hl : (b.shut ++ [b.cur]).length = b.shut.length + 1 := by simp
  refine ⟨fun x hx => ?_, fun j hj => ?_, h.len, h.pos, fun p hp => ?_⟩
  ·dsimp only at hx ⊢
   rw [hl]
   rcases List.mem_append.1 hx with hx | hx
   ·have := h.its x hx
    refine ⟨this.al, this.da, fun e => ?_, fun e => ?_, this.ix⟩
    ·have := this.po e; omega
    ·have := this.li e
     rw [hh] at this
     have h1 : one? true = 1 := rfl
     have h0 : one? false = 0 := rfl
     rw [h1] at this
     rw [h0]
     omega
   ·rw [List.mem_singleton] at hx
    subst hx
    exact ⟨fun e => absurd e (by dsimp only; decide), fun e => absurd e (by dsimp only; decide), fun _ => by dsimp only; omega, fun e => absurd e (by dsimp only; decide), by dsimp only; decide⟩
  ·have hj : j < (b.shut ++ [b.cur]).length := hj
   rw [hl] at hj
   by_cases hjn : j < b.shut.length
   ·obtain ⟨y, h1, h2⟩ := h.put j hjn
    exact ⟨y, List.mem_append_left _ h1, h2⟩
   ·refine ⟨⟨9, 0, line, noI, false, 0, noV, b.shut.length, 0⟩, List.mem_append_right _ (List.mem_singleton.2 rfl), rfl, ?_⟩
    show ((b.shut.length : Nat) : Int) = j
    omega
  ·rcases List.mem_append.1 hp with hp | hp
   ·exact h.shl p hp
   ·rw [List.mem_singleton] at hp; subst hp; exact hc
 ·exact h
theorem pool_shut (b : Bld) (line : Int) : (poolB b line).has = false := by
 unfold poolB
 split
 ·rfl
 ·rename_i h
  cases hb : b.has with
  | true => exact absurd hb h
  | false => rfl
theorem idxV_le (v : OVal) : ∀ (l : List OVal) (k : Nat), idxV v l k ≤ k + l.length
 | [], k => by rw [idxV]; simp
 | x :: l, k => by
  rw [idxV]
  split
  ·simp; omega
  ·have := idxV_le v l (k + 1)
   simp only [List.length_cons]; omega
theorem OkB.lit {T : Nat} {b : Bld} (h : OkB T b) (hc : b.cur.length ≤ 1000000) (v : OVal) (reg line : Int) : OkB T (litB b v reg line) := by
 have hs : 0 ≤ slotV v b.cur ∧ slotV v b.cur ≤ 1000000 := by
  have := idxV_le v b.cur 0
  unfold slotV
  split
  ·omega
  ·omega
 have h1 : one? true = 1 := rfl
 have hb : OkB T { b with has := true, cur := withV v b.cur } := by
  refine ⟨fun x hx => ?_, h.put, h.len, h.pos, h.shl⟩
  have := h.its x hx
  refine ⟨this.al, this.da, this.po, fun e => ?_, this.ix⟩
  have := this.li e
  dsimp only
  rw [h1]
  cases hb : b.has with
  | true => rw [hb, h1] at this; exact this
  | false =>
   rw [hb] at this
   have h0 : one? false = 0 := rfl
   rw [h0] at this
   omega
 exact hb.puts ⟨fun e => absurd e (by dsimp only; decide), fun e => absurd e (by dsimp only; decide), fun e => absurd e (by dsimp only; decide), fun _ => by dsimp only; rw [h1]; omega, hs⟩
theorem draft_ok {n : Nat} {h : Bool} (op sh : Int) (l : List AOp) (line : Int) : ItOk n h (draftI op sh l line) := by
 unfold draftI
 repeat' split
 all_goals exact it_plain (by dsimp only; decide) (by dsimp only; decide) (by dsimp only; decide) (by dsimp only; decide) rfl
theorem OkB.instr {T : Nat} {b : Bld} (h : OkB T b) (hc : b.cur.length ≤ 1000000) (name : List UInt8) (l : List AOp) (line : Int) : OkB T (instrB b name l line) := by
 unfold instrB
 split
 ·exact h.lit hc _ _ _
 split
 ·exact h.fail _ _
 split
 ·exact h.fail _ _
 split
 ·exact h.puts (draft_ok _ _ _ _)
 ·exact h.fail _ _
theorem OkB.word {T : Nat} {b : Bld} (h : OkB T b) (hT : b.cur.length ≤ T) (hc : b.cur.length ≤ 1000000) (w : List UInt8) (l : List AOp) (line : Int) : OkB T (wordB b w l line) := by
 unfold wordB
 split
 ·exact h.data (by decide) _ _
 split
 ·exact h.data (by decide) _ _
 split
 ·exact h.data (by decide) _ _
 split
 ·exact h.align _ _
 split
 ·split
  ·exact h.fail _ _
  ·exact h.pool hT _
 ·exact h.instr hc _ _ _
theorem OkB.rest {T : Nat} {q : List OEqu} {b : Bld} (h : OkB T b) (hT : b.cur.length ≤ T) (hc : b.cur.length ≤ 1000000) (line : Int) (l : List LTok) : OkB T (restB q b line l) := by
 cases l with
 | nil => exact h
 | cons t r =>
  rw [restB]
  split
  ·exact h
  split
  ·exact h.fail _ _
  split
  ·exact h.set _
  ·exact (h.set _).word hT hc _ _ _
theorem labs_ok {T : Nat} {q : List OEqu} {line : Int} : ∀ (l : List LTok) {b : Bld}, OkB T b → OkB T (labsF q line l b).1 ∧ (labsF q line l b).1.cur = b.cur
 | [], b, h => by rw [labsF]; exact ⟨h, rfl⟩
 | [t], b, h => by rw [labsF]; exact ⟨h, rfl⟩
 | t :: c :: r, b, h => by
  rw [labsF]
  split
  ·obtain ⟨h1, h2⟩ := labs_ok r (h.label (q := q) t line)
   refine ⟨h1, h2.trans ?_⟩
   unfold labelB
   split
   ·unfold failB; split <;> rfl
   ·rfl
  ·exact ⟨h, rfl⟩
theorem OkB.line {T : Nat} {q : List OEqu} {b : Bld} (h : OkB T b) (hT : b.cur.length ≤ T) (hc : b.cur.length ≤ 1000000) (x : LLine) : OkB T (lineB q b x) := by
 obtain ⟨h1, h2⟩ := labs_ok (q := q) (line := x.pos) x.toks h
 exact h1.rest (by rw [h2]; exact hT) (by rw [h2]; exact hc) _ _
def totL : List LLine → Nat
 | [] => 0
 | x :: l => x.toks.length + totL l
def b0 : Bld := ⟨[], [], [], [], false, [], 0, 0⟩
def linesB (q : List OEqu) (l : List LLine) (b : Bld) : Bld := l.foldl (lineB q) b
def lastL (l : List LLine) : Int := l.foldl (fun _ x => x.pos) 0
def noO : OObj := ⟨[], [], []⟩
def layR (b : Bld) : OObj × Int × Int :=
 if b.fe ≠ 0 then (noO, b.fe, b.fa) else if 8000 < (relaxL b.shut b.marks ⟨b.items, b.syms⟩).2 then (noO, 4, 0)
 else if (emitAll b.shut (relaxL b.shut b.marks ⟨b.items, b.syms⟩).1.items (relaxL b.shut b.marks ⟨b.items, b.syms⟩).1.syms ⟨[], [], b.fe, b.fa⟩).fe ≠ 0
  then (noO, (emitAll b.shut (relaxL b.shut b.marks ⟨b.items, b.syms⟩).1.items (relaxL b.shut b.marks ⟨b.items, b.syms⟩).1.syms ⟨[], [], b.fe, b.fa⟩).fe,
   (emitAll b.shut (relaxL b.shut b.marks ⟨b.items, b.syms⟩).1.items (relaxL b.shut b.marks ⟨b.items, b.syms⟩).1.syms ⟨[], [], b.fe, b.fa⟩).fa)
 else (⟨(emitAll b.shut (relaxL b.shut b.marks ⟨b.items, b.syms⟩).1.items (relaxL b.shut b.marks ⟨b.items, b.syms⟩).1.syms ⟨[], [], b.fe, b.fa⟩).code, (relaxL b.shut b.marks ⟨b.items, b.syms⟩).1.syms,
  (emitAll b.shut (relaxL b.shut b.marks ⟨b.items, b.syms⟩).1.items (relaxL b.shut b.marks ⟨b.items, b.syms⟩).1.syms ⟨[], [], b.fe, b.fa⟩).rels⟩, 0, 0)
def buildR (q : List OEqu) (l : List LLine) : OObj × Int × Int := layR (poolB (linesB q l b0) (lastL l))
end Go.Proofs.YthmdddenbfbefaaGreatDoor
namespace Go.Proofs.YthmdddenbfbefaaGreatDoor
open Go Go.Plat
set_option linter.unusedVariables false
set_option linter.unusedSimpArgs false
set_option maxRecDepth 100000
set_option maxHeartbeats 2000000
attribute [local irreducible] AWP Arith BitS BytesS CallS CatS DrawS EndS IdxS LookS LoopEnd Meets ModeS NilS NormL NormM QuoS RemS ShlS ShrS SideS SplitS bitI
def isC (t : LTok) : Bool := t.kind == 3 && t.text == [58]
def headC : List LTok → Bool
 | [] => false
 | t :: _ => isC t
def renTok (f g : List UInt8) (first label : Bool) (t : LTok) : LTok := if (t.kind = 1 ∧ t.text = f) ∧ (first = false ∨ label = true) then ⟨t.kind, t.n, g⟩ else t
def renF (f g : List UInt8) : Bool → List LTok → List LTok
 | _, [] => []
 | p, t :: r => renTok f g p (headC r) t :: renF f g (isC t) r
def renLn (f g : List UInt8) (x : LLine) : LLine := ⟨x.pos, renF f g true x.toks⟩
def firstC (l : List LTok) (k : Nat) : Bool := if k = 0 then true else headC (l.drop (k - 1))
theorem isC_eq (t : LTok) : isC t = (t.kind == 3 && t.text == [58]) := rfl
theorem first_zero (l : List LTok) {k : Nat} (h : k = 0) : firstC l k = true := by unfold firstC; rw [if_pos h]
theorem first_prev {l : List LTok} {k : Nat} (h : ¬ k = 0) {p : LTok} (hp : l[k - 1]? = some p) : firstC l k = isC p := by
 unfold firstC
 rw [if_neg h]
 obtain ⟨h1, rfl⟩ := List.getElem?_eq_some_iff.1 hp
 rw [List.drop_eq_getElem_cons h1]
 rfl
theorem head_next {l : List LTok} {k : Nat} {q : LTok} (hq : l[k]? = some q) : headC (l.drop k) = isC q := by
 obtain ⟨h1, rfl⟩ := List.getElem?_eq_some_iff.1 hq
 rw [List.drop_eq_getElem_cons h1]
 rfl
theorem head_none {l : List LTok} {k : Nat} (h : ¬ k < l.length) : headC (l.drop k) = false := by
 rw [List.drop_eq_nil_of_le (by omega)]
 rfl
theorem renF_len (f g : List UInt8) : ∀ (l : List LTok) (p : Bool), (renF f g p l).length = l.length
 | [], _ => rfl
 | t :: r, p => by rw [renF, List.length_cons, List.length_cons, renF_len f g r]
theorem renF_get (f g : List UInt8) : ∀ (l : List LTok) (p : Bool) (k : Nat) (t : LTok), l[k]? = some t → (renF f g p l)[k]? = some (renTok f g (if k = 0 then p else headC (l.drop (k - 1))) (headC (l.drop (k + 1))) t)
 | [], _, _, _, h => by cases h
 | a :: r, p, 0, t, h => by cases h; rfl
 | a :: r, p, k + 1, t, h => by
  have h : r[k]? = some t := h
  have := renF_get f g r (isC a) k t h
  rw [renF, List.getElem?_cons_succ, this]
  cases k with
  | zero => rfl
  | succ k => rfl
theorem renF_step (f g : List UInt8) {l : List LTok} {k : Nat} {t : LTok} (h : l[k]? = some t) : (renF f g true l).take (k + 1) = (renF f g true l).take k ++ [renTok f g (firstC l k) (headC (l.drop (k + 1))) t] := by
 rw [List.take_add_one, renF_get f g l true k t h]
 rfl
theorem totL_ren (f g : List UInt8) : ∀ l : List LLine, totL (l.map (renLn f g)) = totL l
 | [] => rfl
 | x :: l => by rw [List.map_cons, totL, totL, totL_ren f g l]; unfold renLn; dsimp only; rw [renF_len]
def noW (g : List UInt8) (l : List LTok) : Prop := ∀ t ∈ l, ¬ (t.kind = 1 ∧ t.text = g)
theorem noW_step {g : List UInt8} {l : List LTok} {k : Nat} {t : LTok} (h : l[k]? = some t) (hn : noW g (l.take k)) (ht : ¬ (t.kind = 1 ∧ t.text = g)) : noW g (l.take (k + 1)) := by
 intro x hx
 rw [List.take_add_one, h] at hx
 rcases List.mem_append.1 hx with hx | hx
 ·exact hn x hx
 ·simp at hx; subst hx; exact ht
def SameO (a b : OObj × Int × Int) : Prop := a.2 = b.2 ∧ a.1.code = b.1.code ∧ a.1.syms.length = b.1.syms.length ∧ a.1.rels.length = b.1.rels.length
attribute [local irreducible] Lib.itoa OExpr.kids OExpr.kind OExpr.n OExpr.name allA awayA encV evalE exprD findI halfE idxV infoR labelB leadE nameB nearE nodes oneA pRes putN regI signedI sizeA slotV takeA targetA withV wordE wrongI
def T4 : Ob := .cells [.nilsl, .nilsl, .nilsl]
def T5 : Ob := .cells [.int .i64 0, .int .i64 0]
def newB (q : List OEqu) : List D := [.sl 2 (q.map equD) none, .nilsl, .nilsl, .nilsl, .nilsl, .int .i64 0, .nilsl, .nilsl, .nilsl, .int .i64 0, .int .i64 0]
theorem start_weak {σ σ' : List (Nat × D)} (q : List OEqu) (h : keptS (keepAt [2, 3, 4, 5, 6, 7, 0, 1] 0) σ σ') : Weak 0 σ [T4, T5, .cells (newB q)] σ' (bO q b0 ++ [T4, T5]) := by
 have key : keepAt [2, 3, 4, 5, 6, 7, 0, 1] 0 3 = some 1 := rfl
 refine weak_trans (weak_cellarr 2 13 [.sl 2 (q.map equD) none, .osl 13 3 0 0 0, .nilsl, .nilsl, .nilsl, .int .i64 0, .nilsl, .nilsl, .nilsl, .int .i64 0, .int .i64 0] rfl ⟨.same, .here, .same, .same, .same, .same, .same, .same, .same, .same, .same, trivial⟩) ?_
 refine weak_trans (weak_cellarr 2 2 [.sl 2 (q.map equD) none, .osl 13 3 0 0 0, .osl 2 4 0 0 0, .nilsl, .nilsl, .int .i64 0, .nilsl, .nilsl, .nilsl, .int .i64 0, .int .i64 0] rfl ⟨.same, .same, .here, .same, .same, .same, .same, .same, .same, .same, .same, trivial⟩) ?_
 refine weak_trans (weak_cellnil' 2 1 [.sl 2 (q.map equD) none, .osl 13 3 0 0 0, .osl 2 4 0 0 0, .sl 1 [] (some 5), .nilsl, .int .i64 0, .nilsl, .nilsl, .nilsl, .int .i64 0, .int .i64 0] rfl ⟨.same, .same, .same, .here, .same, .same, .same, .same, .same, .same, .same, trivial⟩) ?_
 refine weak_trans (weak_cellarr 2 1 [.sl 2 (q.map equD) none, .osl 13 3 0 0 0, .osl 2 4 0 0 0, .sl 1 [] (some 5), .osl 1 6 0 0 0, .int .i64 0, .nilsl, .nilsl, .nilsl, .int .i64 0, .int .i64 0] rfl ⟨.same, .same, .same, .same, .here, .same, .same, .same, .same, .same, .same, trivial⟩) ?_
 refine weak_trans weak_snocdead ?_
 refine weak_keepO [2, 3, 4, 5, 6, 7, 0, 1] rfl rfl ?_ h
 refine .cons (o := .cells [.sl 2 (q.map equD) none, .osl 13 3 0 0 0, .osl 2 4 0 0 0, .sl 1 [] (some 5), .osl 1 6 0 0 0, .int .i64 0, .nilsl, .nilsl, .nilsl, .int .i64 0, .int .i64 0]) rfl
  ⟨_, rfl, .cons (.flat .sl) (.cons (.osl rfl) (.cons (.osl rfl) (.cons (.tok rfl) (.cons (.osl rfl) (.cons (.flat .int) (.cons (.flat .nilsl) (.cons (.flat .nilsl) (.cons (.flat .nilsl) (.cons (.flat .int) (.cons (.flat .int) .nil))))))))))⟩
  (.cons (o := .arr 13 []) rfl ⟨_, rfl, rfl, by simp⟩ (.cons (o := .arr 2 []) rfl ⟨_, rfl, rfl, by simp⟩ (.cons (o := .spare 0) rfl rfl (.cons (o := .arr 1 []) rfl ⟨_, rfl, rfl, by simp⟩ (.cons (o := .dead) rfl rfl
  (.cons (o := T4) rfl ⟨_, rfl, .cons (.flat .nilsl) (.cons (.flat .nilsl) (.cons (.flat .nilsl) .nil))⟩ (.cons (o := T5) rfl ⟨_, rfl, .cons (.flat .int) (.cons (.flat .int) .nil)⟩ .nil)))))))
theorem call_line {av : List D} {L : List Ob} {KP : D → Prop} {KW : D → List Ob → Prop} (q : List OEqu) (b : Bld) (x : LLine) (X : List Ob) (hr : Room b (1 + x.toks.length)) (hw : wt (x.toks.map tk) ≤ 1048576) (hq : q.length ≤ 1000000)
  (hL : L = bO q b ++ X) (has : av = [.loc 0 0, llineD x])
  (hK1 : ((lineB q b x).has = true → b.has = true) → KW (.tup []) (bO q (lineB q b x) ++ X))
  (hK2 : b.has = false → (lineB q b x).has = true → KW (.tup []) (bOn L.length q (lineB q b x) ++ X ++ [.spare (lineB q b x).cur.length])) : CallS Tryz.prog n_asm_builder_line av L KP KW := by
 subst has
 have hcl : ClL (bO q b).length [.loc 0 0, llineD x] := .cons (.loc (Nat.lt_of_lt_of_le (by decide : 0 < 6) (Nat.le_of_eq rfl))) (.cons (.agg (.cons .int (.cons .sl .nil))) .nil)
 by_cases h : b.has = false ∧ (lineB q b x).has = true
 ·refine call_pre1 line_meets (bO q b) X (bOn 6 q (lineB q b x)) (bOn L.length q (lineB q b x)) (.spare (lineB q b x).cur.length) (d := .tup []) hL ⟨(b, x, q), ⟨hr, hw, hq⟩, LeL.refl _, rfl, rfl, (outO_new h.1 h.2).symm⟩ rfl rfl hcl .tup0 (bO_cl _ _)
   (fun m hm hk => bOn_ren q _ (fun j hj => hm j (Nat.lt_of_lt_of_le hj (by decide : 5 ≤ 6))) hk) .spare (hK2 h.1 h.2)
 ·have hn : (lineB q b x).has = true → b.has = true := fun e => by
   cases hb : b.has with
   | true => rfl
   | false => exact absurd ⟨hb, e⟩ h
  refine call_pre line_meets (bO q b) X (bO q (lineB q b x)) (d := .tup []) hL ⟨(b, x, q), ⟨hr, hw, hq⟩, LeL.refl _, rfl, rfl, (outO_no hn).symm⟩ rfl hcl .tup0 (bO_cl _ _) (bO_cl _ _) (hK1 hn)
theorem bO2_cl (q : List OEqu) (b : Bld) : ∀ x ∈ bO q b ++ [T4, T5], ClO (bO q b ++ [T4, T5]).length x := by
 intro x hx
 have hl : (bO q b ++ [T4, T5]).length = 8 := rfl
 rw [hl]
 rcases List.mem_append.1 hx with hx | hx
 ·exact ClO.up (bO_cl q b x hx) (by decide)
 ·simp only [List.mem_cons, List.not_mem_nil, or_false] at hx
  rcases hx with rfl | rfl
  ·exact .cells (.cons .nilsl (.cons .nilsl (.cons .nilsl .nil)))
  ·exact .cells (.cons .int (.cons .int .nil))
theorem bO_has (q : List OEqu) (b : Bld) (h : b.has = true) : bO q b = [.cells (bCk q b), .arr 13 (b.items.map itemD), .arr 2 (b.syms.map symD), .spare b.marks.length, .arr 1 (b.shut.map shutD ++ [.sl 2 (b.cur.map valD) (some 5)]), .spare b.cur.length] := by
 have hp : poolsD b = b.shut.map shutD ++ [.sl 2 (b.cur.map valD) (some 5)] := by unfold poolsD; rw [h]
 have hc : curO b = .spare b.cur.length := by unfold curO; rw [h]
 have hb : bC q b = bCk q b := by unfold bC bCk; rw [hp]; simp
 unfold bO bT
 rw [hb, hp, hc]
theorem round_new {σ σ' : List (Nat × D)} (q : List OEqu) (b : Bld) (Y : Ob) (h : b.has = true) (hs : keptS (keepAt [0, 1, 2, 3, 4, 9, 6, 7] 0) σ σ') : Weak 0 σ (bOn 9 q b ++ [T4, T5, Y] ++ [.spare b.cur.length]) σ' (bO q b ++ [T4, T5]) := by
 have key : ∀ k, k < 5 → keepAt [0, 1, 2, 3, 4, 9, 6, 7] 0 k = some k := by decide
 have hr := bOn_ren (m := keepAt [0, 1, 2, 3, 4, 9, 6, 7] 0) (k := 9) (k' := 5) q b key rfl
 rw [bO_has q b h]
 refine weak_keepO [0, 1, 2, 3, 4, 9, 6, 7] rfl rfl ?_ hs
 exact .cons (o := .cells (bCk q b)) rfl (hr 0 _ _ rfl rfl) (.cons (o := .arr 13 (b.items.map itemD)) rfl (hr 1 _ _ rfl rfl) (.cons (o := .arr 2 (b.syms.map symD)) rfl (hr 2 _ _ rfl rfl) (.cons (o := .spare b.marks.length) rfl (hr 3 _ _ rfl rfl)
  (.cons (o := .arr 1 (b.shut.map shutD ++ [.sl 2 (b.cur.map valD) (some 9)])) rfl (hr 4 _ _ rfl rfl) (.cons (o := .spare b.cur.length) rfl rfl
  (.cons (o := T4) rfl ⟨_, rfl, .cons (.flat .nilsl) (.cons (.flat .nilsl) (.cons (.flat .nilsl) .nil))⟩ (.cons (o := T5) rfl ⟨_, rfl, .cons (.flat .int) (.cons (.flat .int) .nil)⟩ .nil)))))))
theorem linesB_step (q : List OEqu) (x : LLine) (l : List LLine) (b : Bld) : linesB q (x :: l) b = linesB q l (lineB q b x) := rfl
theorem lines_room {q : List OEqu} : ∀ (l : List LLine) {b : Bld} {k : Nat}, Room b (k + totL l) → Room (linesB q l b) k
 | [], b, k, h => h
 | x :: l, b, k, h => lines_room l (Room.line x (by rw [totL] at h; exact h.less (by omega)))
theorem lines_ok {T : Nat} {q : List OEqu} (hT : T ≤ 1000000) : ∀ (l : List LLine) {b : Bld}, Room b (1000000 - T + totL l) → OkB T b → OkB T (linesB q l b)
 | [], b, _, h => h
 | x :: l, b, hr, h => by
  rw [totL] at hr
  have hc := hr.curl
  exact lines_ok hT l (Room.line x (hr.less (by omega))) (h.line (by omega) (by omega) x)
theorem room0 : Room b0 1000000 := ⟨by decide, by decide, by decide, by decide, by decide, fun _ => rfl⟩
theorem ok0 (T : Nat) : OkB T b0 := ⟨(fun x hx => by cases hx), fun j hj => absurd hj (Nat.not_lt_zero j), rfl, (fun m hm => by cases hm), (fun p hp => by cases hp)⟩
end Go.Proofs.YthmdddenbfbefaaGreatDoor
namespace Go.Proofs.YthmdddenbfbefaaGreatDoor
open Go Go.Plat
set_option linter.unusedVariables false
set_option linter.unusedSimpArgs false
set_option maxRecDepth 100000
set_option maxHeartbeats 2000000
attribute [local irreducible] AWP Arith BitS BytesS CallS CatS DrawS EndS IdxS Lib.itoa LookS LoopEnd Meets ModeS NilS NormL NormM QuoS RemS ShlS ShrS SideS SplitS allA awayA bitI encV evalE findI idxV infoR nameB pRes putN regI sizeA targetA wrongI
structure Sim (x y : AItem) : Prop where
 kind : y.kind = x.kind
 size : y.size = x.size
 pool : y.pool = x.pool
 idx : y.idx = x.idx
structure SimL (l m : List AItem) : Prop where
 len : m.length = l.length
 from_ : ∀ y ∈ m, ∃ x ∈ l, Sim x y
 to_ : ∀ x ∈ l, ∃ y ∈ m, Sim x y
theorem SimL.refl (l : List AItem) : SimL l l := ⟨rfl, fun y h => ⟨y, h, rfl, rfl, rfl, rfl⟩, fun y h => ⟨y, h, rfl, rfl, rfl, rfl⟩⟩
theorem Sim.trans {x y z : AItem} (h : Sim x y) (k : Sim y z) : Sim x z := ⟨k.kind.trans h.kind, k.size.trans h.size, k.pool.trans h.pool, k.idx.trans h.idx⟩
theorem SimL.trans {a b c : List AItem} (h : SimL a b) (k : SimL b c) : SimL a c :=
 ⟨k.len.trans h.len, fun z hz => by obtain ⟨y, h1, h2⟩ := k.from_ z hz; obtain ⟨x, h3, h4⟩ := h.from_ y h1; exact ⟨x, h3, h4.trans h2⟩,
   fun x hx => by obtain ⟨y, h1, h2⟩ := h.to_ x hx; obtain ⟨z, h3, h4⟩ := k.to_ y h1; exact ⟨z, h3, h2.trans h4⟩⟩
theorem SimL.cons {x y : AItem} {l m : List AItem} (h : Sim x y) (k : SimL l m) : SimL (x :: l) (y :: m) :=
 ⟨by simp [k.len], fun z hz => by
   rcases List.mem_cons.1 hz with rfl | hz
   ·exact ⟨x, List.mem_cons_self, h⟩
   ·obtain ⟨w, h1, h2⟩ := k.from_ z hz; exact ⟨w, List.mem_cons_of_mem _ h1, h2⟩,
 fun z hz => by
  rcases List.mem_cons.1 hz with rfl | hz
  ·exact ⟨y, List.mem_cons_self, h⟩
  ·obtain ⟨w, h1, h2⟩ := k.to_ z hz; exact ⟨w, List.mem_cons_of_mem _ h1, h2⟩⟩
theorem sim_place (pools : List (List OVal)) : ∀ (l : List AItem) (a : Int), SimL l (placeI pools l a).1
 | [], a => .refl _
 | x :: l, a => by rw [placeI]; exact .cons ⟨rfl, rfl, rfl, rfl⟩ (sim_place pools l _)
theorem sim_grow (syms : List OSym) : ∀ l : List AItem, SimL l (l.map (growI syms))
 | [] => .refl _
 | x :: l => .cons (by unfold growI; split <;> exact ⟨rfl, rfl, rfl, rfl⟩) (sim_grow syms l)
theorem sim_ok {pools : List (List OVal)} {x y : AItem} (h : Sim x y) (k : SizeOk pools x) : SizeOk pools y :=
 ⟨fun e => by rw [h.size]; exact k.1 (by rw [← h.kind]; exact e), fun e => by rw [h.size]; exact k.2.1 (by rw [← h.kind]; exact e), fun e => by rw [h.pool]; exact k.2.2.1 (by rw [← h.kind]; exact e), k.2.2.2⟩
theorem place_end {pools : List (List OVal)} : ∀ (l : List AItem) (a : Int), 0 ≤ a → (∀ x ∈ l, SizeOk pools x) → a ≤ (placeI pools l a).2 ∧ ∀ x ∈ (placeI pools l a).1, 0 ≤ x.at_ ∧ x.at_ ≤ (placeI pools l a).2
 | [], a, h0, _ => ⟨Int.le_refl a, fun x hx => by cases hx⟩
 | y :: l, a, h0, hs => by
  have hz := size_le (a := a) (hs y List.mem_cons_self) h0
  obtain ⟨h1, h2⟩ := place_end l (a + sizeA pools y a) (by omega) (fun z hz => hs z (List.mem_cons_of_mem _ hz))
  rw [placeI]
  refine ⟨by dsimp only; omega, fun x hx => ?_⟩
  rcases List.mem_cons.1 hx with rfl | hx
  ·exact ⟨h0, by dsimp only; omega⟩
  ·exact h2 x hx
structure Laid (pools : List (List OVal)) (s : Lay) (R : Lay × Int) : Prop where
 sim : SimL s.items R.1.items
 syms : R.1.syms.length = s.syms.length
 at_ : ∀ x ∈ R.1.items, 0 ≤ x.at_ ∧ x.at_ ≤ R.2
theorem relax_laid {pools : List (List OVal)} {marks : List Int} : ∀ (f : Nat) (s : Lay), shortN s.items < f → (∀ x ∈ s.items, SizeOk pools x) → Laid pools s (relaxF pools marks f s)
 | 0, s, h, _ => absurd h (Nat.not_lt_zero _)
 | f + 1, s, h, hs => by
  have h1 := sim_place pools s.items 0
  have h2 := place_end s.items 0 (Int.le_refl 0) hs
  have h3 := placeI_short pools s.items 0
  have h4 : (placeL pools marks s).1.syms.length = s.syms.length := placeS_len _ _ _ _
  have hP : (placeL pools marks s).1.items = (placeI pools s.items 0).1 := rfl
  have hE : (placeL pools marks s).2 = (placeI pools s.items 0).2 := rfl
  rw [relaxF_step]
  generalize placeL pools marks s = P at *
  rw [← hP] at h1 h2 h3
  rw [← hE] at h2
  clear hP hE
  have h5 := sim_grow P.1.syms P.1.items
  have hgr := grow_short P.1.syms P.1.items
  have hat : ∀ x ∈ P.1.items.map (growI P.1.syms), 0 ≤ x.at_ ∧ x.at_ ≤ P.2 := by
   intro x hx
   obtain ⟨y, hy, rfl⟩ := List.mem_map.1 hx
   have := h2.2 y hy
   unfold growI
   split
   ·exact this
   ·exact this
  have hso : ∀ x ∈ P.1.items.map (growI P.1.syms), SizeOk pools x := by
   intro x hx
   obtain ⟨y, hy, h6⟩ := (h1.trans h5).from_ x hx
   exact sim_ok h6 (hs y hy)
  split
  ·exact ⟨h1.trans h5, h4, hat⟩
  ·rename_i hn
   have hany : P.1.items.any (mustL P.1.syms) = true := by
    cases hb : P.1.items.any (mustL P.1.syms) with
    | true => rfl
    | false => exact absurd (.inl hb) hn
   have := hgr.2 hany
   have ih := relax_laid (pools := pools) (marks := marks) f ⟨P.1.items.map (growI P.1.syms), P.1.syms⟩ (by show shortN (P.1.items.map (growI P.1.syms)) < f; omega) hso
   exact ⟨(h1.trans h5).trans ih.sim, ih.syms.trans h4, ih.at_⟩
theorem words_len (syms : List OSym) : ∀ (p : List OVal) (o : Out), (p.foldl (fun o v => wordE syms o v 4) o).code.length = o.code.length + 4 * p.length ∧ (p.foldl (fun o v => wordE syms o v 4) o).rels.length ≤ o.rels.length + p.length
 | [], o => by simp
 | v :: p, o => by
  have h1 := wordE_len syms o v 4
  have h2 := word_rels syms o v 4
  obtain ⟨h3, h4⟩ := words_len syms p (wordE syms o v 4)
  rw [List.foldl_cons]
  simp only [List.length_cons]
  omega
theorem fail_len (o : Out) (e line : Int) : (failE o e line).code = o.code ∧ (failE o e line).rels = o.rels := by unfold failE; split <;> exact ⟨rfl, rfl⟩
theorem half_rels (o : Out) (i : Ins) (line : Int) : (halfE o i line).rels = o.rels := by
 unfold halfE
 split
 ·rfl
 ·exact (fail_len _ _ _).2
theorem lead_rels (o : Out) (i : Ins) (a to line : Int) : (leadE o i a to line).rels = o.rels := by
 unfold leadE
 split
 ·exact half_rels _ _ _
 ·exact (fail_len _ _ _).2
theorem near_len (o : Out) (x : AItem) (to : Int) : (nearE o x to).code.length ≤ o.code.length + 6 ∧ (nearE o x to).rels = o.rels := by
 unfold nearE
 split
 ·exact ⟨by have := lead_len o x.ins x.at_ to x.line; omega, lead_rels _ _ _ _ _⟩
 ·have h1 := half_len o ⟨w64 (35 - x.ins.op), 0, 0, 1⟩ x.line
  have h2 := lead_len (halfE o ⟨w64 (35 - x.ins.op), 0, 0, 1⟩ x.line) ⟨19, 0, 0, 0⟩ (x.at_ + 2) to x.line
  have h3 := half_len (leadE (halfE o ⟨w64 (35 - x.ins.op), 0, 0, 1⟩ x.line) ⟨19, 0, 0, 0⟩ (x.at_ + 2) to x.line) ⟨1, 0, 0, 0⟩ x.line
  exact ⟨by omega, by rw [half_rels, lead_rels, half_rels]⟩
theorem fill_grow (o : Out) (to : Int) : (fillE o to).code.length ≤ o.code.length + to.toNat := by
 unfold fillE
 simp only [List.length_append, List.length_replicate]
 omega
theorem emit_grow {pools : List (List OVal)} {items : List AItem} {syms : List OSym} {o : Out} {x : AItem} (hs : SizeOk pools x) (h0 : 0 ≤ x.at_) (h1 : x.at_ ≤ 8000) (hp : ∀ p ∈ pools, p.length ≤ 9000) :
  (emitE pools items syms o x).code.length ≤ o.code.length + 44100 ∧ (emitE pools items syms o x).rels.length ≤ o.rels.length + 9000 := by
 have hu4 := upA_le (n := x.at_) (k := 4) (by decide)
 unfold emitE
 split
 ·rename_i h7
  have := hs.2.1 h7
  split
  ·rw [(fail_len _ _ _).1, (fail_len _ _ _).2]; omega
  ·have h2 := wordE_len syms o x.val x.size.toNat
   have h3 := word_rels syms o x.val x.size.toNat
   omega
 split
 ·rename_i h8
  have := hs.1 h8
  have hu := upA_le (n := x.at_) this.1
  have h2 := fill_grow o (upA x.at_ x.size)
  rw [fill_rels]
  omega
 split
 ·have h2 := fill_grow o (upA x.at_ 4)
  have h3 := words_len syms ((pools[x.pool.toNat]?).getD []) (fillE o (upA x.at_ 4))
  rw [fill_rels] at h3
  have h4 : ((pools[x.pool.toNat]?).getD []).length ≤ 9000 := by
   cases hg : pools[x.pool.toNat]? with
   | none => simp
   | some p => exact hp p (List.mem_of_getElem? hg)
  omega
 split
 ·rw [(fail_len _ _ _).1, (fail_len _ _ _).2]; omega
 split
 ·have := half_len o x.ins x.line; rw [half_rels]; omega
 split
 ·have := lead_len o x.ins x.at_ (upA (itA items (idxP x.pool items 0)).at_ 4 + 4 * x.idx) x.line; rw [lead_rels]; omega
 split
 ·rw [(fail_len _ _ _).1, (fail_len _ _ _).2]; omega
 split
 ·have := near_len o x (targetA syms x.val).1; rw [this.2]; omega
 ·have := lead_len o x.ins x.at_ (targetA syms x.val).1 x.line; rw [lead_rels]; omega
theorem posF_has {α : Type} (p : α → Bool) : ∀ (l : List α) (k : Nat), (∃ x ∈ l, p x = true) → 0 ≤ posF p l k
 | [], k, h => by obtain ⟨x, h, _⟩ := h; cases h
 | y :: l, k, h => by
  rw [posF]
  split
  ·omega
  ·rename_i hn
   obtain ⟨x, h1, h2⟩ := h
   rcases List.mem_cons.1 h1 with rfl | h1
   ·exact absurd h2 hn
   ·exact posF_has p l (k + 1) ⟨x, h1, h2⟩
attribute [local irreducible] OExpr.kids OExpr.kind OExpr.n OExpr.name exprD halfE labelB leadE nearE nodes oneA signedI slotV takeA withV wordE
theorem strip_syms (l : List OSym) : StripEls (l.map symD) (l.map symD) := by
 refine ⟨rfl, fun i d d' h1 h2 => ?_⟩
 rw [h1] at h2
 cases h2
 simp only [List.getElem?_map, Option.map_eq_some_iff] at h1
 obtain ⟨c, _, rfl⟩ := h1
 refine ⟨rfl, rfl, fun j x x' h3 h4 => ?_⟩
 rw [h3] at h4
 cases h4
 match j, h3 with
 | 0, h3 =>
  cases h3
  intro w F ρ L v h
  cases h with | pure _ _ h => exact h
 | 1, h3 =>
  cases h3
  intro w F ρ L v h
  cases h with | pure _ _ h => exact h
 | j + 2, h3 => simp [symD, D.cells] at h3
theorem put_weak {σ σ' : List (Nat × D)} (q : List OEqu) (items : List AItem) (syms : List OSym) (marks : List Int) (shut : List (List OVal)) (cur : List OVal) (fe fa : Int) (h : keptS (keepAt [0, 1, 2, 3, 4, 8, 9, 6, 7] 0) σ σ') :
  Weak 0 σ (bO q ⟨items, syms, marks, shut, false, cur, fe, fa⟩ ++ [T4, T5]) σ' (eO q ⟨items, syms, marks, shut, false, cur, fe, fa⟩ ⟨[], [], fe, fa⟩ ++ [T4, T5]) := by
 have key : ∀ k, k < 5 → keepAt [0, 1, 2, 3, 4, 8, 9, 6, 7] 0 k = some k := by decide
 refine weak_trans (weak_cellnil' 0 4 [.sl 2 (q.map equD) none, .osl 13 1 items.length 0 items.length, .osl 2 2 syms.length 0 syms.length, .sl 1 (marks.map (.int .i64)) (some 3), .osl 1 4 (poolsD ⟨items, syms, marks, shut, false, cur, fe, fa⟩).length 0 (poolsD ⟨items, syms, marks, shut, false, cur, fe, fa⟩).length,
  .int .i64 shut.length, .nilsl, .nilsl, .sl 4 [] (some 8), .int .i64 fe, .int .i64 fa] rfl ⟨.same, .same, .same, .same, .same, .same, .same, .same, .here, .same, .same, trivial⟩) ?_
 refine weak_trans (weak_cellnil' 0 1 [.sl 2 (q.map equD) none, .osl 13 1 items.length 0 items.length, .osl 2 2 syms.length 0 syms.length, .sl 1 (marks.map (.int .i64)) (some 3), .osl 1 4 (poolsD ⟨items, syms, marks, shut, false, cur, fe, fa⟩).length 0 (poolsD ⟨items, syms, marks, shut, false, cur, fe, fa⟩).length,
  .int .i64 shut.length, .sl 1 [] (some 9), .nilsl, .sl 4 [] (some 8), .int .i64 fe, .int .i64 fa] rfl ⟨.same, .same, .same, .same, .same, .same, .here, .same, .same, .same, .same, trivial⟩) ?_
 refine weak_keepO [0, 1, 2, 3, 4, 8, 9, 6, 7] rfl rfl ?_ h
 exact .cons (o := .cells [.sl 2 (q.map equD) none, .osl 13 1 items.length 0 items.length, .osl 2 2 syms.length 0 syms.length, .sl 1 (marks.map (.int .i64)) (some 3), .osl 1 4 (poolsD ⟨items, syms, marks, shut, false, cur, fe, fa⟩).length 0 (poolsD ⟨items, syms, marks, shut, false, cur, fe, fa⟩).length,
   .int .i64 shut.length, .sl 1 [] (some 9), .nilsl, .sl 4 [] (some 8), .int .i64 fe, .int .i64 fa]) rfl
  ⟨_, rfl, .cons (.flat .sl) (.cons (.osl rfl) (.cons (.osl rfl) (.cons (.tok rfl) (.cons (.osl rfl) (.cons (.flat .int) (.cons (.tok rfl) (.cons (.flat .nilsl) (.cons (.tok rfl) (.cons (.flat .int) (.cons (.flat .int) .nil))))))))))⟩
  (.cons (o := .arr 13 (items.map itemD)) rfl (ClO.arr (n := 5) (items_cl _) _ key) (.cons (o := .arr 2 (syms.map symD)) rfl (ClO.arr (n := 5) (syms_cl _) _ key) (.cons (o := .spare marks.length) rfl rfl (.cons (o := .arr 1 (shut.map shutD)) rfl (ClO.arr (n := 5) (shuts_cl _) _ key)
  (.cons (o := .spare 0) rfl rfl (.cons (o := .spare 0) rfl rfl
  (.cons (o := T4) rfl ⟨_, rfl, .cons (.flat .nilsl) (.cons (.flat .nilsl) (.cons (.flat .nilsl) .nil))⟩ (.cons (o := T5) rfl ⟨_, rfl, .cons (.flat .int) (.cons (.flat .int) .nil)⟩ .nil))))))))
theorem emitAll_step (pools : List (List OVal)) (items : List AItem) (syms : List OSym) (x : AItem) (l : List AItem) (o : Out) : (x :: l).foldl (fun o x => if o.fe = 0 then emitE pools items syms o x else o) o = l.foldl (fun o x => if o.fe = 0 then emitE pools items syms o x else o) (if o.fe = 0 then emitE pools items syms o x else o) := rfl
theorem build_meets : Meets Tryz.prog n_asm_Build (SpecP (fun ((l, q) : List LLine × List OEqu) => totL l ≤ 9000 ∧ (∀ x ∈ l, wt (x.toks.map tk) ≤ 1048576) ∧ q.length ≤ 1000000 ∧ l.length ≤ 1000000) (fun (l, q) => [.sl 2 (l.map llineD) none, .sl 2 (q.map equD) none])
  fun (l, q) => .tup [objD (buildR q l).1, .agg [.int .i64 (buildR q l).2.1, .int .i64 (buildR q l).2.2]]) := by
 refine meets_f tabOk Tryz.func19 rfl (by decide) ?_
 rintro ⟨l, q⟩ ⟨ht, hw, hq, hll⟩
 have ht : totL l ≤ 9000 := ht
 have hw : ∀ x ∈ l, wt (x.toks.map tk) ≤ 1048576 := hw
 have hq : q.length ≤ 1000000 := hq
 have hll : l.length ≤ 1000000 := hll
 refine ⟨Nat.le_refl _, by simp [Tryz.f19], fun E hE => ?_⟩
 have hE0 : E.L.length = 0 := by rw [hE]; rfl
 show AWP _ _ _ _ (FinQ _ _ _ (.tup [objD (buildR q l).1, .agg [.int .i64 (buildR q l).2.1, .int .i64 (buildR q l).2.2]]) []) _ []
 refine awp_seqK (vcOk _ ?_)
 (all_goals refine qgp ?_ <;> (repeat' first | exact trivial | intro hc | refine And.intro ?_ ?_) <;> refine Lf.mk ?_)
 refine awp_seqK (vcOk _ ?_)
 (all_goals refine qgp ?_ <;> (repeat' first | exact trivial | intro hc | refine And.intro ?_ ?_) <;> refine Lf.mk ?_)
 refine awp_seqK (vcOk _ ?_)
 (all_goals refine qgp ?_ <;> (repeat' first | exact trivial | intro hc | refine And.intro ?_ ?_) <;> refine Lf.mk ?_)
 refine awp_cut (α := Unit) (fun _ => True) (fun _ => [(4, .loc 6 0), (5, .loc 7 0), (6, .loc 0 0), (7, .int .i64 (lastL l))]) (fun _ => bO q (linesB q l b0) ++ [T4, T5]) ?_ ?_
 ·refine vcOk _ ?_
  (all_goals refine qgp ?_ <;> (repeat' first | exact trivial | intro hc | refine And.intro ?_ ?_) <;> refine Lf.mk ?_)
  refine awp_loopW (α := Nat × Bld × Int) (fun p => p.1 ≤ l.length ∧ linesB q (l.drop p.1) p.2.1 = linesB q l b0 ∧ (l.drop p.1).foldl (fun _ x => x.pos) p.2.2 = lastL l ∧ Room p.2.1 (1 + totL (l.drop p.1)))
   (fun p => [(4, .loc 6 0), (5, .loc 7 0), (6, .loc 0 0), (7, .int .i64 p.2.2), (14, .sl 2 (l.map llineD) none), (15, .int .i64 l.length), (16, .int .i64 p.1)]) (fun p => bO q p.2.1 ++ [T4, T5]) (fun p => l.length - p.1) (fun _ => by rw [hE0]; exact Nat.zero_le _) (0, b0, 0)
   ⟨Nat.zero_le _, rfl, rfl, room0.less (by show 1 + totL l ≤ _; omega)⟩ ?_ ?_
  ·rw [hE0]
   exact start_weak q ⟨.loc rfl, .loc rfl, .loc rfl, .flat .int, .flat .sl, .flat .int, .flat .int, trivial⟩
  rintro ⟨k, b, la⟩ ⟨i1, i2, i3, i4⟩
  dsimp only at i1 i2 i3 i4 ⊢
  refine vcOk _ ?_
  (all_goals refine qgp ?_ <;> (repeat' first | exact trivial | intro hc | refine And.intro ?_ ?_) <;> refine Lf.mk ?_)
  ·obtain ⟨x, hx⟩ := at_of_lt (l := l) (k := k) (by omega)
   have hkl : k < l.length := by omega
   have hgx : l[k] = x := by rw [List.getElem?_eq_getElem hkl] at hx; exact Option.some.inj hx
   rw [List.drop_eq_getElem_cons hkl, hgx] at i2 i3 i4
   rw [linesB_step] at i2
   rw [List.foldl_cons] at i3
   rw [totL] at i4
   have hr' : Room (lineB q b x) (1 + totL (l.drop (k + 1))) := Room.line x (i4.less (by omega))
   refine ix_map x (by omega) (by simpa using hx) ?_
   (all_goals refine qgp ?_ <;> (repeat' first | exact trivial | intro hc | refine And.intro ?_ ?_) <;> refine Lf.mk ?_)
   refine call_line q b x [T4, T5, .cells [.int .i64 x.pos, .sl 3 (x.toks.map ltokD) none]] (i4.less (by omega)) (hw x (List.mem_of_getElem? hx)) hq rfl rfl (fun hn => ?_) (fun hn hn' => ?_)
   ·(all_goals refine qgp ?_ <;> (repeat' first | exact trivial | intro hc | refine And.intro ?_ ?_) <;> refine Lf.mk ?_)
    exact loop_pre (k + 1, lineB q b x, x.pos) [.cells [.int .i64 x.pos, .sl 3 (x.toks.map ltokD) none]] ⟨by show k + 1 ≤ _; omega, i2, i3, hr'⟩ (by dsimp only; omega) (by simp) (by rw [hE0]; exact Nat.zero_le _) (bO2_cl _ _) ⟨rfl, rfl, rfl, rfl, rfl, rfl, rfl, trivial⟩
     (.cons (.loc (Nat.lt_of_lt_of_le (by decide : 6 < 8) (Nat.le_of_eq rfl))) (.cons (.loc (Nat.lt_of_lt_of_le (by decide : 7 < 8) (Nat.le_of_eq rfl))) (.cons (.loc (Nat.lt_of_lt_of_le (by decide : 0 < 8) (Nat.le_of_eq rfl))) (.cons .int (.cons .sl (.cons .int (.cons .int .nil)))))))
   ·(all_goals refine qgp ?_ <;> (repeat' first | exact trivial | intro hc | refine And.intro ?_ ?_) <;> refine Lf.mk ?_)
    refine loop_weak (k + 1, lineB q b x, x.pos) ⟨by show k + 1 ≤ _; omega, i2, i3, hr'⟩ (by dsimp only; omega) ?_
    rw [hE0]
    exact round_new q (lineB q b x) _ hn' ⟨.loc rfl, .loc rfl, .loc rfl, .flat .int, .flat .sl, .flat .int, .flat .int, trivial⟩
  ·have hk : k = l.length := by omega
   rw [hk, List.drop_length] at i2 i3
   have e1 : b = linesB q l b0 := i2
   have e2 : la = lastL l := i3
   subst e1
   exact ⟨(), trivial, weak_same rfl ⟨rfl, rfl, rfl, by rw [← e2]; rfl, trivial⟩⟩
 ·rintro _ _
  have hroom : Room (linesB q l b0) (1000000 - 9000) := lines_room l (room0.less (by omega))
  have hok : OkB 9000 (linesB q l b0) := lines_ok (by decide) l (room0.less (by omega)) (ok0 9000)
  have hroom2 : Room (poolB (linesB q l b0) (lastL l)) 990999 := (hroom.less (by decide : 990999 + 1 ≤ 1000000 - 9000)).pool _
  have hok2 : OkB 9000 (poolB (linesB q l b0) (lastL l)) := hok.pool (by have := hroom.curl; omega) _
  have hsh := pool_shut (linesB q l b0) (lastL l)
  have hbi := hroom.items
  have hbs := hroom.shut
  have hR : buildR q l = layR (poolB (linesB q l b0) (lastL l)) := rfl
  rw [hR]
  generalize linesB q l b0 = b1 at *
  refine awp_seqK (vcOk _ ?_)
  (all_goals refine qgp ?_ <;> (repeat' first | exact trivial | intro hc | refine And.intro ?_ ?_) <;> refine Lf.mk ?_)
  refine call_pool q b1 (lastL l) [T4, T5] (by omega) (by omega) rfl rfl ?_
  generalize poolB b1 (lastL l) = b2 at *
  (all_goals refine qgp ?_ <;> (repeat' first | exact trivial | intro hc | refine And.intro ?_ ?_) <;> refine Lf.mk ?_)
  obtain ⟨items, syms, marks, shut, has, cur, fe, fa⟩ := b2
  have hsh : has = false := hsh
  subst hsh
  clear hR hroom hok hbi hbs
  have hL : layR ⟨items, syms, marks, shut, false, cur, fe, fa⟩ = if fe ≠ 0 then (noO, fe, fa) else if 8000 < (relaxL shut marks ⟨items, syms⟩).2 then (noO, 4, 0)
   else if (emitAll shut (relaxL shut marks ⟨items, syms⟩).1.items (relaxL shut marks ⟨items, syms⟩).1.syms ⟨[], [], fe, fa⟩).fe ≠ 0
    then (noO, (emitAll shut (relaxL shut marks ⟨items, syms⟩).1.items (relaxL shut marks ⟨items, syms⟩).1.syms ⟨[], [], fe, fa⟩).fe, (emitAll shut (relaxL shut marks ⟨items, syms⟩).1.items (relaxL shut marks ⟨items, syms⟩).1.syms ⟨[], [], fe, fa⟩).fa)
   else (⟨(emitAll shut (relaxL shut marks ⟨items, syms⟩).1.items (relaxL shut marks ⟨items, syms⟩).1.syms ⟨[], [], fe, fa⟩).code, (relaxL shut marks ⟨items, syms⟩).1.syms,
    (emitAll shut (relaxL shut marks ⟨items, syms⟩).1.items (relaxL shut marks ⟨items, syms⟩).1.syms ⟨[], [], fe, fa⟩).rels⟩, 0, 0) := rfl
  generalize layR ⟨items, syms, marks, shut, false, cur, fe, fa⟩ = R at *
  refine awp_seqK (vcOk _ ?_)
  (all_goals refine qgp ?_ <;> (repeat' first | exact trivial | intro hc | refine And.intro ?_ ?_) <;> refine Lf.mk ?_)
  ·rw [if_pos hc] at hL
   subst hL
   exact end_p (VS.mk (LeD.tup (.cons (LeD.agg (.cons (.nil 1) (.cons (.nil 2) (.cons (.nil 4) .nil)))) (LeL.refl _))))
  have hfe : fe = 0 := hc
  rw [if_neg (fun h => h hc)] at hL
  have hTl : ∀ p ∈ shut, p.length ≤ 9000 := hok2.shl
  have hsz : ∀ x ∈ items, SizeOk shut x := fun x hx => by
   have := hok2.its x hx
   exact ⟨this.al, this.da, this.po, fun p hp => by have := hTl p hp; omega⟩
  have hil : items.length ≤ 9001 := by have := hroom2.items; dsimp only at this; omega
  have hml : marks.length ≤ 9001 := by have := hroom2.marks; dsimp only at this; omega
  have hlay : LayIn shut marks ⟨items, syms⟩ := ⟨hsz, by show items.length ≤ _; omega, hok2.len, by omega, hok2.pos⟩
  have hW := relax_laid (pools := shut) (marks := marks) (shortN items + 1) ⟨items, syms⟩ (Nat.lt_succ_self _) hsz
  have hW : Laid shut ⟨items, syms⟩ (relaxL shut marks ⟨items, syms⟩) := hW
  refine awp_seqK (vcOk _ ?_)
  (all_goals refine qgp ?_ <;> (repeat' first | exact trivial | intro hc | refine And.intro ?_ ?_) <;> refine Lf.mk ?_)
  refine call_b relax_meets [T4, T5] (⟨items, syms⟩, marks, shut, cur, fe, fa, q) hlay rfl (LeL.refl _) rfl (.cons (.loc (Nat.lt_of_lt_of_le (by decide : 0 < 6) (Nat.le_of_eq rfl))) .nil) .int (bO_cl _ _) (bO_cl _ _) ?_
  dsimp only
  generalize relaxL shut marks ⟨items, syms⟩ = W at *
  obtain ⟨⟨its, sys⟩, n⟩ := W
  dsimp only at hL ⊢
  (all_goals refine qgp ?_ <;> (repeat' first | exact trivial | intro hc | refine And.intro ?_ ?_) <;> refine Lf.mk ?_)
  ·rw [if_pos hc] at hL
   subst hL
   exact end_p (VS.mk (LeD.tup (.cons (LeD.agg (.cons (.nil 1) (.cons (.nil 2) (.cons (.nil 4) .nil)))) (LeL.refl _))))
  rw [if_neg hc] at hL
  have hlen : its.length = items.length := hW.sim.len
  have hsl : sys.length = syms.length := hW.syms
  have hsyl : syms.length ≤ 9001 := by have := hok2.len; dsimp only at this; omega
  have hin : ∀ y ∈ its, EmitIn ⟨its, sys, marks, shut, false, cur, fe, fa⟩ y := fun y hy => by
   obtain ⟨x, hx, hs⟩ := hW.sim.from_ y hy
   have hi := hok2.its x hx
   have ha := hW.at_ y hy
   refine ⟨sim_ok hs (hsz x hx), ha.1, by omega, ?_, fun h6 => ?_⟩
   ·rw [hs.idx]; have := hi.ix; omega
   ·have hl := hi.li (by rw [← hs.kind]; exact h6)
    have h0 : one? false = 0 := rfl
    rw [h0] at hl
    dsimp only at hl
    obtain ⟨z, hz, hz9, hzp⟩ := hok2.put x.pool.toNat (by dsimp only; omega)
    obtain ⟨u, hu, hzu⟩ := hW.sim.to_ z hz
    refine posF_has _ _ _ ⟨u, hu, ?_⟩
    rw [hzu.kind, hz9, hzu.pool, hzp, hs.pool, Int.toNat_of_nonneg hl.1]
    simp
  have hgrow : ∀ (o : Out), ∀ y ∈ its, (emitE shut its sys o y).code.length ≤ o.code.length + 44100 ∧ (emitE shut its sys o y).rels.length ≤ o.rels.length + 9000 := fun o y hy => by
   have ha := hW.at_ y hy
   exact emit_grow (hin y hy).size ha.1 (by omega) hTl
  have hF : emitAll shut its sys ⟨[], [], fe, fa⟩ = its.foldl (fun o x => if o.fe = 0 then emitE shut its sys o x else o) ⟨[], [], fe, fa⟩ := rfl
  generalize emitAll shut its sys ⟨[], [], fe, fa⟩ = F at *
  refine awp_cut (α := Unit) (fun _ => True) (fun _ => [(4, .loc 7 0), (5, .loc 8 0), (6, .loc 0 0)]) (fun _ => eO q ⟨its, sys, marks, shut, false, cur, fe, fa⟩ F ++ [T4, T5]) ?_ ?_
  ·refine vcOk _ ?_
   (all_goals refine qgp ?_ <;> (repeat' first | exact trivial | intro hc | refine And.intro ?_ ?_) <;> refine Lf.mk ?_)
   refine awp_loopW (α := Nat × Out) (fun p => p.1 ≤ its.length ∧ (its.drop p.1).foldl (fun o x => if o.fe = 0 then emitE shut its sys o x else o) p.2 = F ∧ p.2.code.length ≤ 44100 * p.1 ∧ p.2.rels.length ≤ 9000 * p.1)
    (fun p => [(4, .loc 7 0), (5, .loc 8 0), (6, .loc 0 0), (49, .int .i64 its.length), (50, .int .i64 p.1)]) (fun p => eO q ⟨its, sys, marks, shut, false, cur, fe, fa⟩ p.2 ++ [T4, T5]) (fun p => its.length - p.1) (fun _ => by rw [hE0]; exact Nat.zero_le _) (0, ⟨[], [], fe, fa⟩)
    ⟨Nat.zero_le _, hF.symm, Nat.le_refl _, Nat.le_refl _⟩ ?_ ?_
   ·rw [hE0]
    exact put_weak q its sys marks shut cur fe fa ⟨.loc rfl, .loc rfl, .loc rfl, .flat .int, .flat .int, trivial⟩
   rintro ⟨k, o⟩ ⟨j1, j2, j3, j4⟩
   dsimp only at j1 j2 j3 j4 ⊢
   refine vcOk _ ?_
   (all_goals refine qgp ?_ <;> (repeat' first | exact trivial | intro hc | refine And.intro ?_ ?_) <;> refine Lf.mk ?_)
   ·obtain ⟨x, hx⟩ := at_of_lt (l := its) (k := k) (by omega)
    have hkl : k < its.length := by omega
    have hgx : its[k] = x := by rw [List.getElem?_eq_getElem hkl] at hx; exact Option.some.inj hx
    rw [List.drop_eq_getElem_cons hkl, hgx, emitAll_step, if_pos (by assumption)] at j2
    obtain ⟨g1, g2⟩ := hgrow o x (List.mem_of_getElem? hx)
    refine call_b aemit_meets [T4, T5] (⟨its, sys, marks, shut, false, cur, fe, fa⟩, o, k, x, q) ⟨rfl, hx, hin, by show its.length ≤ _; omega, by show sys.length ≤ _; omega, by show o.code.length ≤ _; omega, by show o.rels.length ≤ _; omega⟩ rfl
     (LeL.of_eq (by show [D.loc 0 0, .aloc 1 its.length (0 + ((k : Nat) : Int).toNat) 0] = _; rw [Nat.zero_add, Int.toNat_natCast])) rfl
     (.cons (.loc (Nat.lt_of_lt_of_le (by decide : 0 < 7) (Nat.le_of_eq rfl))) (.cons (.aloc (Nat.lt_of_lt_of_le (by decide : 1 < 7) (Nat.le_of_eq rfl))) .nil)) .tup0 (eO_cl _ _ _) (eO_cl _ _ _) ?_
    have hem : emB ⟨its, sys, marks, shut, false, cur, fe, fa⟩ o x = emitE shut its sys o x := rfl
    dsimp only
    rw [hem]
    generalize emitE shut its sys o x = o2 at *
    (all_goals refine qgp ?_ <;> (repeat' first | exact trivial | intro hc | refine And.intro ?_ ?_) <;> refine Lf.mk ?_)
    exact loop_same (k + 1, o2) ⟨by show k + 1 ≤ _; omega, j2, by dsimp only; omega, by dsimp only; omega⟩ (by dsimp only; omega) rfl ⟨rfl, rfl, rfl, rfl, rfl, trivial⟩
   ·have hkl : k < its.length := by omega
    rw [List.drop_eq_getElem_cons hkl, emitAll_step, if_neg hc] at j2
    exact loop_same (k + 1, o) ⟨by show k + 1 ≤ _; omega, j2, by dsimp only; omega, by dsimp only; omega⟩ (by dsimp only; omega) rfl ⟨rfl, rfl, rfl, rfl, rfl, trivial⟩
   ·have hk : k = its.length := by omega
    rw [hk, List.drop_length] at j2
    have j2 : o = F := j2
    subst j2
    exact ⟨(), trivial, weak_same rfl ⟨rfl, rfl, rfl, trivial⟩⟩
  ·rintro _ _
   refine vcOk _ ?_
   (all_goals refine qgp ?_ <;> (repeat' first | exact trivial | intro hc | refine And.intro ?_ ?_) <;> refine Lf.mk ?_)
   ·rw [if_pos hc] at hL
    subst hL
    exact end_p (VS.mk (LeD.tup (.cons (LeD.agg (.cons (.nil 1) (.cons (.nil 2) (.cons (.nil 4) .nil)))) (LeL.refl _))))
   ·rw [if_neg (fun h => h hc)] at hL
    subst hL
    refine end_freeze (k := 2) (e := 2) (els := sys.map symD) (els' := sys.map symD) (r1 := .tup [.agg [.sl 1 (F.code.map byteD) (some 6), .sl 2 (sys.map symD) (some 9), .sl 4 (F.rels.map relD) (some 5)], .agg [.int .i64 0, .int .i64 0]]) rfl (Nat.zero_le 2) (strip_syms sys) ?_ ?_ (Nat.zero_le _)
    ·refine .tup _ _ rfl fun i d d' h1 h2 => ?_
     match i, h1, h2 with
     | 0, h1, h2 =>
      cases h1
      cases h2
      refine .agg _ _ rfl fun j c c' g1 g2 => ?_
      match j, g1, g2 with
      | 0, g1, g2 => cases g1; cases g2; exact .keep _
      | 1, g1, g2 => cases g1; cases g2; exact .here _ _ (by simp) (by simp)
      | 2, g1, g2 => cases g1; cases g2; exact .keep _
      | j + 3, g1, g2 => cases g1
     | 1, h1, h2 => cases h1; cases h2; exact .keep _
     | i + 2, h1, h2 => cases h1
    ·exact end_p (VS.mk (LeD.tup (.cons (LeD.agg (.cons (.strip _ _ _) (.cons (.strip _ _ _) (.cons (.strip _ _ _) .nil)))) (LeL.refl _))))
attribute [local irreducible] buildR linesR
def headM (x : LLine) : List UInt8 := match x.toks with
 | t :: _ => if t.kind = 1 then t.text else []
 | [] => []
theorem mhead_meets : Meets Tryz.prog n_macro_head (SpecP (fun x : LLine => x.toks.length ≤ 1000000000) (fun x => [llineD x]) fun x => .str (headM x)) := by
 refine meets_f tabOk Tryz.func114 rfl (by decide) ?_
 rintro ⟨pos, toks⟩ hl
 have hl : toks.length ≤ 1000000000 := hl
 refine ⟨Nat.le_refl _, by simp [Tryz.f114], fun E hE => ?_⟩
 cases toks with
 | nil =>
  refine vcOk _ ?_
  (all_goals refine qgp ?_ <;> (repeat' first | exact trivial | intro hc | refine And.intro ?_ ?_) <;> refine Lf.mk ?_)
  exact end_p (VS.mk (LeD.refl _))
 | cons t r =>
  have hl : r.length + 1 ≤ 1000000000 := hl
  refine vcOk _ ?_
  (all_goals refine qgp ?_ <;> (repeat' first | exact trivial | intro hc | refine And.intro ?_ ?_) <;> refine Lf.mk ?_)
  all_goals refine end_p (VS.mk (LeD.of_eq (congrArg D.str ?_)))
  ·unfold headM; dsimp only; rw [if_neg hc]
  ·unfold headM; dsimp only; rw [if_pos hc]
def mC (out : List LLine) (looked fe fa : Int) : List D := [.nilsl, .nilsl, .sl 2 (out.map llineD) (some 1), .int .i64 looked, .int .i64 fe, .int .i64 fa]
def mO (out : List LLine) (looked fe fa : Int) : List Ob := [.cells (mC out looked fe fa), .spare out.length]
theorem mO_cl (out : List LLine) (looked fe fa : Int) : ∀ x ∈ mO out looked fe fa, ClO 2 x := by
 intro x hx
 simp only [mO, List.mem_cons, List.not_mem_nil, or_false] at hx
 rcases hx with rfl | rfl
 ·exact .cells (.cons .nilsl (.cons .nilsl (.cons (.tok (by decide)) (.cons .int (.cons .int (.cons .int .nil))))))
 ·exact .spare
theorem mfind_meets : Meets Tryz.prog n_macro_maker_find (SpecF (fun _ : List LLine × Int × Int × Int × List UInt8 => True) (fun (_, _, _, _, name) => [.loc 0 0, .str name]) (fun (out, looked, fe, fa, _) => mO out looked fe fa) (fun _ => .int .i64 (-1)) fun (out, looked, fe, fa, _) => mO out looked fe fa) := by
 refine meets_f tabOk Tryz.func117 rfl (by decide) ?_
 rintro ⟨out, looked, fe, fa, name⟩ _
 refine ⟨Nat.le_refl _, by simp [Tryz.f117], fun E hE => ?_⟩
 refine vcOk _ ?_
 (all_goals refine qgp ?_ <;> (repeat' first | exact trivial | intro hc | refine And.intro ?_ ?_) <;> refine Lf.mk ?_)
 refine call_inline tabOk Tryz.func169 rfl (by decide) (.int .i64 (-1)) (mO out looked fe fa ++ [.cells [.str name]]) (Nat.le_refl _) (by simp [Tryz.f169]) (fun E' hE' => ?_) ?_
 ·refine vcOk _ ?_
  (all_goals refine qgp ?_ <;> (repeat' first | exact trivial | intro hc | refine And.intro ?_ ?_) <;> refine Lf.mk ?_)
  refine awp_unroll (vcOk _ ?_)
  (all_goals refine qgp ?_ <;> (repeat' first | exact trivial | intro hc | refine And.intro ?_ ?_) <;> refine Lf.mk ?_)
  exact end_eq rfl rfl
 ·(all_goals refine qgp ?_ <;> (repeat' first | exact trivial | intro hc | refine And.intro ?_ ?_) <;> refine Lf.mk ?_)
  exact end_pre (mO out looked fe fa) [_] rfl (Nat.le_refl _) .int (mO_cl _ _ _ _)
def plainH (h : List UInt8) : Prop := h ≠ [46, 109, 97, 99, 114, 111] ∧ h ≠ [46, 114, 101, 112, 116] ∧ h ≠ [46, 105, 102] ∧ h ≠ [46, 101, 110, 100, 109] ∧ h ≠ [46, 101, 110, 100, 114] ∧ h ≠ [46, 101, 110, 100, 105, 102] ∧ h ≠ [46, 101, 108, 115, 101] ∧ h ≠ [46, 101, 113, 117]
instance (h : List UInt8) : Decidable (plainH h) := by unfold plainH; infer_instance
theorem mlines_plain : Meets Tryz.prog n_macro_maker_lines (SpecF (fun ((l, out, looked, deep) : List LLine × List LLine × Int × Int) => 0 ≤ deep ∧ deep ≤ 6 ∧ out.length + l.length ≤ 200 ∧ 0 ≤ looked ∧ looked + (l.length : Int) ≤ 4000 ∧ ∀ x ∈ l, plainH (headM x) ∧ x.toks.length ≤ 1000000000)
  (fun (l, _, _, deep) => [.loc 0 0, .sl 2 (l.map llineD) none, .int .i64 deep]) (fun (_, out, looked, _) => mO out looked 0 0) (fun _ => .tup []) fun (l, out, looked, _) => mO (out ++ l) (looked + (l.length : Int)) 0 0) := by
 refine meets_f tabOk Tryz.func59 rfl (by decide) ?_
 rintro ⟨l, out, looked, deep⟩ ⟨hd0, hd1, hol, hk0, hk1, hl⟩
 have hd1 : deep ≤ 6 := hd1
 have hol : out.length + l.length ≤ 200 := hol
 have hk0 : 0 ≤ looked := hk0
 have hk1 : looked + (l.length : Int) ≤ 4000 := hk1
 have hl : ∀ x ∈ l, plainH (headM x) ∧ x.toks.length ≤ 1000000000 := hl
 refine ⟨Nat.le_refl _, by simp [Tryz.f59], fun E hE => ?_⟩
 have hE2 : E.L.length = 2 := by rw [hE]; rfl
 refine vcOk _ ?_
 (all_goals refine qgp ?_ <;> (repeat' first | exact trivial | intro hc | refine And.intro ?_ ?_) <;> refine Lf.mk ?_)
 refine awp_loopW (α := Nat) (fun k => k ≤ l.length) (fun k => [(0, .loc 0 0), (1, .sl 2 (l.map llineD) none), (2, .int .i64 deep), (7, .int .i64 k)]) (fun k => mO (out ++ l.take k) (looked + (k : Int)) 0 0) (fun k => l.length - k) (fun _ => by rw [hE2]; exact Nat.le_refl 2) 0 (Nat.zero_le _) ?_ ?_
 ·exact weak_same (by simp) ⟨rfl, rfl, rfl, rfl, trivial⟩
 intro k hk
 have hk : k ≤ l.length := hk
 refine vcOk _ ?_
 (all_goals refine qgp ?_ <;> (repeat' first | exact trivial | intro hc | refine And.intro ?_ ?_) <;> refine Lf.mk ?_)
 ·obtain ⟨x, hx⟩ := at_of_lt (l := l) (k := k) (by omega)
  have hkl : k < l.length := by omega
  have hgx : l[k] = x := by rw [List.getElem?_eq_getElem hkl] at hx; exact Option.some.inj hx
  obtain ⟨hp, hxl⟩ := hl x (List.mem_of_getElem? hx)
  have hxk : l[((k : Nat) : Int).toNat]? = some x := by rw [Int.toNat_natCast]; exact hx
  refine ix_map x (Int.natCast_nonneg k) hxk ?_
  (all_goals refine qgp ?_ <;> (repeat' first | exact trivial | intro hc | refine And.intro ?_ ?_) <;> refine Lf.mk ?_)
  refine call_p mhead_meets x hxl (VS.mk (LeL.of_eq rfl)) ?_
  obtain ⟨p1, p2, p3, p4, p5, p6, p7, p8⟩ := hp
  (all_goals refine qgp ?_ <;> (repeat' first | exact trivial | intro hc | refine And.intro ?_ ?_) <;> refine Lf.mk ?_)
  all_goals first
   | (exfalso; exact p1 (by assumption))
   | (exfalso; exact p2 (by assumption))
   | (exfalso; exact p3 (by assumption))
   | (exfalso; exact p4 (by assumption))
   | (exfalso; exact p5 (by assumption))
   | (exfalso; exact p6 (by assumption))
   | (exfalso; exact p7 (by assumption))
   | (exfalso; exact p8 (by assumption))
   | skip
  have hok : (out ++ l.take k).length = out.length + k := by rw [List.length_append, List.length_take]; omega
  refine call_b mfind_meets [] (out ++ l.take k, looked + (k : Int) + 1, 0, 0, headM x) trivial rfl (LeL.refl _) rfl (.cons (.loc (Nat.lt_of_lt_of_le (by decide : 0 < 2) (Nat.le_of_eq rfl))) (.cons .str .nil)) .int (mO_cl _ _ _ _) (mO_cl _ _ _ _) ?_
  have htk : (l.take (k + 1)).drop k = [x] := by
   rw [List.take_succ_eq_append_getElem hkl, List.drop_left' (by rw [List.length_take]; omega), hgx]
  have htk2 : out ++ l.take (k + 1) = (out ++ l.take k) ++ [x] := by rw [List.take_succ_eq_append_getElem hkl, hgx, List.append_assoc]
  generalize out ++ l.take k = ok at *
  (all_goals refine qgk ?_ <;> (repeat' first | exact trivial | intro hc | refine And.intro ?_ ?_) <;> refine Lf.mk ?_)
  ·exact absurd hc (by decide)
  ·exfalso; omega
  refine call_p sown_meets [x] ⟨by simp, fun y hy => by rw [List.mem_singleton] at hy; subst hy; exact hxl⟩ (VS.mk (LeL.of_eq (by rw [Int.toNat_natCast, show (((k : Nat) : Int) + 1).toNat = k + 1 by omega, htk]))) ?_
  (all_goals refine qgk ?_ <;> (repeat' first | exact trivial | intro hc | refine And.intro ?_ ?_) <;> refine Lf.mk ?_)
  exact loop_same (k + 1) (by show k + 1 ≤ _; omega) (by omega) (by dsimp only; rw [htk2, show looked + (((k + 1 : Nat)) : Int) = looked + (k : Int) + 1 by omega]; rfl) ⟨rfl, rfl, rfl, rfl, trivial⟩
 ·exact absurd trivial hc
 ·have hk2 : k = l.length := by omega
  rw [hk2, List.take_length]
  exact end_eq rfl rfl
def plainL (l : List LLine) : Prop := l.length ≤ 200 ∧ ∀ x ∈ l, plainH (headM x) ∧ x.toks.length ≤ 1000000000
theorem expand_plain : Meets Tryz.prog n_macro_Expand (SpecP (fun l : List LLine => plainL l) (fun l => [.sl 2 (l.map llineD) none]) fun l => .tup [.sl 2 (l.map llineD) none, .sl 2 [] none, .agg [.int .i64 0, .int .i64 0]]) := by
 refine meets_f tabOk Tryz.func32 rfl (by decide) ?_
 rintro l ⟨hl, hp⟩
 refine ⟨Nat.le_refl _, by simp [Tryz.f32], fun E hE => ?_⟩
 have hE0 : E.L.length = 0 := by rw [hE]; rfl
 refine awp_seqK (vcOk _ ?_)
 (all_goals refine qgp ?_ <;> (repeat' first | exact trivial | intro hc | refine And.intro ?_ ?_) <;> refine Lf.mk ?_)
 refine awp_seqK (vcOk _ ?_)
 (all_goals refine qgp ?_ <;> (repeat' first | exact trivial | intro hc | refine And.intro ?_ ?_) <;> refine Lf.mk ?_)
 refine awp_weak (σ' := [(0, .sl 2 (l.map llineD) none), (4, .loc 2 0), (5, .loc 0 0)]) (L' := mO [] 0 0 0 ++ [T5]) ?_ ?_
 ·rw [hE0]
  refine weak_trans (weak_cellnil' 1 2 [.nilsl, .nilsl, .sl 2 [] (some 2), .int .i64 0, .int .i64 0, .int .i64 0] rfl ⟨.same, .same, .here, .same, .same, .same, trivial⟩) ?_
  refine weak_keepO [1, 2, 0] rfl rfl ?_ ⟨.flat .sl, .loc rfl, .loc rfl, trivial⟩
  exact .cons (o := .cells [.nilsl, .nilsl, .sl 2 [] (some 2), .int .i64 0, .int .i64 0, .int .i64 0]) rfl ⟨_, rfl, .cons (.flat .nilsl) (.cons (.flat .nilsl) (.cons (.tok rfl) (.cons (.flat .int) (.cons (.flat .int) (.cons (.flat .int) .nil)))))⟩
   (.cons (o := .spare 0) rfl rfl (.cons (o := T5) rfl ⟨_, rfl, .cons (.flat .int) (.cons (.flat .int) .nil)⟩ .nil))
 refine vcOk _ ?_
 (all_goals refine qgp ?_ <;> (repeat' first | exact trivial | intro hc | refine And.intro ?_ ?_) <;> refine Lf.mk ?_)
 refine call_b mlines_plain [T5] (l, [], 0, 0) ⟨by decide, by decide, by simpa using hl, by decide, by show 0 + (l.length : Int) ≤ 4000; omega, hp⟩ rfl (LeL.refl _) rfl (.cons (.loc (Nat.lt_of_lt_of_le (by decide : 0 < 2) (Nat.le_of_eq rfl))) (.cons .sl (.cons .int .nil))) .tup0 (mO_cl _ _ _ _) (mO_cl _ _ _ _) ?_
 dsimp only
 rw [List.nil_append]
 (all_goals refine qgp ?_ <;> (repeat' first | exact trivial | intro hc | refine And.intro ?_ ?_) <;> refine Lf.mk ?_)
 ·exact absurd trivial hc
 ·exact end_p (VS.mk (LeD.tup (.cons (.strip _ _ _) (.cons (.nil 2) (LeL.refl _)))))
end Go.Proofs.YthmdddenbfbefaaGreatDoor
namespace Go.Proofs.YthmdddenbfbefaaGreatDoor
open Go Go.Plat
set_option linter.unusedVariables false
set_option linter.unusedSimpArgs false
set_option maxRecDepth 100000
set_option maxHeartbeats 2000000
attribute [local irreducible] AWP Arith BitS BytesS CallS CatS DrawS EndS IdxS LookS LoopEnd Meets ModeS NilS NormL NormM QuoS RemS ShlS ShrS SideS SplitS bitI blankC digV digitB kindB letterB lexF lexL lexR numC numR numTok okC puF puR signT spanF wordC
theorem seg_while {c : UInt8} : ∀ (l : List UInt8) (n : Nat), n < l.length → (∀ j, j < n → l.getD j 0 ≠ c) → l.getD n 0 = c → l.contains c = true ∧ l.takeWhile (· != c) = l.take n ∧ (l.dropWhile (· != c)).drop 1 = l.drop (n + 1)
 | [], n, h, _, _ => by simp at h
 | a :: l, 0, h, _, h2 => by
  have e : a = c := h2
  subst e
  simp
 | a :: l, n + 1, h, h1, h2 => by
  have e : a ≠ c := h1 0 (by omega)
  have e2 : (a != c) = true := by rw [bne_iff_ne]; exact e
  have e1 : (c == a) = false := beq_eq_false_iff_ne.2 fun q => e q.symm
  obtain ⟨g1, g2, g3⟩ := seg_while l n (by simpa using h) (fun j hj => h1 (j + 1) (by omega)) h2
  rw [List.contains_cons, e1, g1, List.takeWhile_cons, e2, if_pos rfl, g2, List.dropWhile_cons, e2, if_pos rfl, g3]
  exact ⟨rfl, rfl, rfl⟩
theorem seg_none {c : UInt8} : ∀ (l : List UInt8), (∀ j, j < l.length → l.getD j 0 ≠ c) → l.contains c = false
 | [], _ => rfl
 | a :: l, h => by
  have e : a ≠ c := h 0 (by simp)
  have e1 : (c == a) = false := beq_eq_false_iff_ne.2 fun q => e q.symm
  rw [List.contains_cons, e1, seg_none l fun j hj => h (j + 1) (by simpa using hj)]
  rfl
theorem ref_lines_meets : Meets Tryz.prog n_plref1_Lines (SpecP (fun b : List UInt8 => b.length ≤ 1000000000) (fun b => [.sl 1 (b.map byteD) none]) fun b => linesD (linesR b)) := by
 refine meets_f tabOk Tryz.func16 rfl (by decide) ?_
 intro b hb
 refine ⟨Nat.le_refl _, by simp [Tryz.f16], fun E hE => ?_⟩
 have hR : linesR b = if 1200 < b.length then ([], 4, 0) else linesF (splitC 10 b) 1 [] := rfl
 refine vcOk _ ?_
 (all_goals refine qgp ?_ <;> (repeat' first | exact trivial | intro hc | refine And.intro ?_ ?_) <;> refine Lf.mk ?_)
 ·rw [if_pos (by omega)] at hR
  refine end_p (VS.mk ?_)
  rw [hR]
  exact .tup (.cons (.nil 2) (.cons (.refl _) .nil))
 rw [if_neg (by omega)] at hR
 refine awp_weak (weak_nil 4 2 rfl) ?_
 refine awp_loop (α := (Nat × Nat) × Int × List LLine) (fun p => p.1.1 ≤ p.1.2 + 1 ∧ p.1.2 ≤ b.length + 1 ∧ p.2.2.length ≤ p.1.2 ∧ 1 ≤ p.2.1 ∧ p.2.1 ≤ p.1.2 + 1 ∧
   (p.1.2 ≤ b.length → p.1.1 ≤ p.1.2 ∧ linesR b = linesF (splitC 10 (b.drop p.1.1)) p.2.1 p.2.2 ∧ ∀ j, p.1.1 ≤ j → j < p.1.2 → b.getD j 0 ≠ 10) ∧ (p.1.2 = b.length + 1 → linesR b = (p.2.2, 0, 0)))
  (fun p => [(0, .sl 1 (b.map byteD) none), (3, .loc 0 0), (4, .sl 2 (p.2.2.map llineD) (some 1)), (5, .int .i64 p.2.1), (6, .int .i64 p.1.1), (7, .int .i64 p.1.2)])
  (fun p => [.cells [.int .i64 0, .int .i64 0], .spare p.2.2.length]) (fun p => b.length + 1 - p.1.2) (fun _ => by simp [hE]) ((0, 0), 1, [])
  ⟨by dsimp only; omega, by dsimp only; omega, Nat.le_refl _, by dsimp only; omega, by dsimp only; omega, fun _ => ⟨Nat.le_refl _, hR, fun j h1 h2 => absurd h2 (by dsimp only; omega)⟩, fun h => absurd h (by dsimp only; omega)⟩ ?_ ?_
 ·(repeat' (first | (refine VS.mk ?_) | exact trivial | exact rfl | refine And.intro ?_ ?_))
 rintro ⟨⟨fr, i⟩, at_, out⟩ ⟨hfr, hi, ho, ha1, ha2, hgo, hend⟩
 dsimp only at hfr hi ho ha1 ha2 hgo hend ⊢
 refine vcOk _ ?_
 (all_goals refine qgp ?_ <;> (repeat' first | exact trivial | intro hc | refine And.intro ?_ ?_) <;> refine Lf.mk ?_)
 ·obtain ⟨g1, g2, g3⟩ := hgo (by omega)
  have hx : i + 1 ≤ b.length → fr ≤ i + 1 ∧ linesR b = linesF (splitC 10 (b.drop fr)) at_ out ∧ ∀ j, fr ≤ j → j < i + 1 → b.getD j 0 ≠ 10 := fun _ => ⟨by omega, g2, fun j h1 h2 => by
   by_cases e : j = i
   ·subst e
    intro e
    rw [e] at hc
    exact hc rfl
   ·exact g3 j h1 (by omega)⟩
  refine loop_end ((fr, i + 1), at_, out) ⟨by dsimp only; omega, by dsimp only; omega, by dsimp only; omega, by dsimp only; omega, by dsimp only; omega, hx, fun h => absurd h (by dsimp only; omega)⟩ (by dsimp only; omega) ?_
  (repeat' (first | (refine VS.mk ?_) | exact trivial | exact rfl | refine And.intro ?_ ?_))
 ·obtain ⟨g1, g2, g3⟩ := hgo (by omega)
  have hbi : b.getD i 0 = 10 := byte_yes hc
  have gd : ∀ j, (b.drop fr).getD j 0 = b.getD (fr + j) 0 := fun j => by rw [List.getD_eq_getElem?_getD, List.getElem?_drop, ← List.getD_eq_getElem?_getD]
  obtain ⟨w1, w2, w3⟩ := seg_while (c := 10) (b.drop fr) (i - fr) (by rw [List.length_drop]; omega) (fun j hj => by rw [gd]; exact g3 _ (by omega) (by omega)) (by rw [gd, show fr + (i - fr) = i by omega]; exact hbi)
  have hf := g2
  rw [(split_has 10 (b.drop fr)).2 w1, w2, w3, List.drop_drop, show fr + (i - fr + 1) = i + 1 by omega, ← List.drop_take] at hf
  have hX : ∀ o, linesR b = linesF (splitC 10 (b.drop (i + 1))) (at_ + 1) o → (i + 1 ≤ b.length → i + 1 ≤ i + 1 ∧ linesR b = linesF (splitC 10 (b.drop (i + 1))) (at_ + 1) o ∧ ∀ j, i + 1 ≤ j → j < i + 1 → b.getD j 0 ≠ 10) ∧ (i + 1 = b.length + 1 → linesR b = (o, 0, 0)) :=
   fun o h => ⟨fun _ => ⟨Nat.le_refl _, h, fun j h1 h2 => absurd h2 (by omega)⟩, fun h => absurd h (by omega)⟩
  have hpl : ((b.take i).drop fr).length ≤ 1000000000 := by rw [List.length_drop, List.length_take]; omega
  refine call_p rtokens_meets ((b.take i).drop fr) hpl (VS.mk (LeL.of_eq (by rw [Int.toNat_natCast, Int.toNat_natCast]))) ?_
  generalize (b.take i).drop fr = p at *
  rw [linesF_cons] at hf
  generalize lexR p = T at *
  obtain ⟨ts, te⟩ := T
  dsimp only at hf
  (all_goals refine qgp ?_ <;> (repeat' first | exact trivial | intro hc | refine And.intro ?_ ?_) <;> refine Lf.mk ?_)
  ·rw [if_pos hc] at hf
   refine end_p (VS.mk ?_)
   rw [hf]
   exact .tup (.cons (.nil 2) (.cons (.refl _) .nil))
  ·have ht : te = 0 := by assumption
   rw [if_neg (by rw [ht]; simp), if_neg (by omega)] at hf
   have hx := hX _ hf
   refine loop_end ((i + 1, i + 1), at_ + 1, out ++ [⟨at_, ts⟩]) ⟨by dsimp only; omega, by dsimp only; omega, by dsimp only; rw [List.length_append, List.length_cons, List.length_nil]; omega, by dsimp only; omega, by dsimp only; omega, hx.1, hx.2⟩ (by dsimp only; omega) ?_
   (repeat' (first | (refine VS.mk ?_) | exact trivial | exact rfl | refine And.intro ?_ ?_))
   all_goals (first | rfl | simp [llineD])
  ·have ht : te = 0 := by assumption
   rw [if_neg (by rw [ht]; simp), if_pos (by omega)] at hf
   have hx := hX _ hf
   refine loop_end ((i + 1, i + 1), at_ + 1, out) ⟨by dsimp only; omega, by dsimp only; omega, by dsimp only; omega, by dsimp only; omega, by dsimp only; omega, hx.1, hx.2⟩ (by dsimp only; omega) ?_
   (repeat' (first | (refine VS.mk ?_) | exact trivial | exact rfl | refine And.intro ?_ ?_))
 ·obtain ⟨g1, g2, g3⟩ := hgo (by omega)
  have gd : ∀ j, (b.drop fr).getD j 0 = b.getD (fr + j) 0 := fun j => by rw [List.getD_eq_getElem?_getD, List.getElem?_drop, ← List.getD_eq_getElem?_getD]
  have w1 := seg_none (c := 10) (b.drop fr) (fun j hj => by rw [gd]; rw [List.length_drop] at hj; exact g3 _ (by omega) (by omega))
  have hf := g2
  rw [(split_has 10 (b.drop fr)).1 w1, show b.drop fr = (b.take i).drop fr by rw [List.take_of_length_le (by omega)]] at hf
  have hX : ∀ o, linesR b = linesF [] (at_ + 1) o → (i + 1 ≤ b.length → i + 1 ≤ i + 1 ∧ linesR b = linesF (splitC 10 (b.drop (i + 1))) (at_ + 1) o ∧ ∀ j, i + 1 ≤ j → j < i + 1 → b.getD j 0 ≠ 10) ∧ (i + 1 = b.length + 1 → linesR b = (o, 0, 0)) :=
   fun o h => ⟨fun h => absurd h (by omega), fun _ => h⟩
  have hpl : ((b.take i).drop fr).length ≤ 1000000000 := by rw [List.length_drop, List.length_take]; omega
  refine call_p rtokens_meets ((b.take i).drop fr) hpl (VS.mk (LeL.of_eq (by rw [Int.toNat_natCast, Int.toNat_natCast]))) ?_
  generalize (b.take i).drop fr = p at *
  rw [linesF_cons] at hf
  generalize lexR p = T at *
  obtain ⟨ts, te⟩ := T
  dsimp only at hf
  (all_goals refine qgp ?_ <;> (repeat' first | exact trivial | intro hc | refine And.intro ?_ ?_) <;> refine Lf.mk ?_)
  ·rw [if_pos hc] at hf
   refine end_p (VS.mk ?_)
   rw [hf]
   exact .tup (.cons (.nil 2) (.cons (.refl _) .nil))
  ·have ht : te = 0 := by assumption
   rw [if_neg (by rw [ht]; simp), if_neg (by omega)] at hf
   have hx := hX _ hf
   refine loop_end ((i + 1, i + 1), at_ + 1, out ++ [⟨at_, ts⟩]) ⟨by dsimp only; omega, by dsimp only; omega, by dsimp only; rw [List.length_append, List.length_cons, List.length_nil]; omega, by dsimp only; omega, by dsimp only; omega, hx.1, hx.2⟩ (by dsimp only; omega) ?_
   (repeat' (first | (refine VS.mk ?_) | exact trivial | exact rfl | refine And.intro ?_ ?_))
   all_goals (first | rfl | simp [llineD])
  ·have ht : te = 0 := by assumption
   rw [if_neg (by rw [ht]; simp), if_pos (by omega)] at hf
   have hx := hX _ hf
   refine loop_end ((i + 1, i + 1), at_ + 1, out) ⟨by dsimp only; omega, by dsimp only; omega, by dsimp only; omega, by dsimp only; omega, by dsimp only; omega, hx.1, hx.2⟩ (by dsimp only; omega) ?_
   (repeat' (first | (refine VS.mk ?_) | exact trivial | exact rfl | refine And.intro ?_ ?_))
 ·have hf := hend (by omega)
  refine end_p (VS.mk ?_)
  rw [hf]
  (first | exact LeL.refl _ | (repeat' (first | exact LeL.nil | exact LeD.refl _ | exact LeD.nil _ | exact LeD.strip _ _ _ | refine LeL.cons ?_ ?_ | refine LeD.tup ?_ | refine LeD.agg ?_)))
end Go.Proofs.YthmdddenbfbefaaGreatDoor
namespace Go.Proofs.YthmdddenbfbefaaGreatDoor
open Go Go.Plat
set_option linter.unusedVariables false
set_option linter.unusedSimpArgs false
set_option maxRecDepth 100000
set_option maxHeartbeats 2000000
attribute [local irreducible] AWP Arith BitS BytesS CallS CatS DrawS EndS IdxS Lib.itoa LookS LoopEnd Meets ModeS NilS NormL NormM OExpr.kids OExpr.kind OExpr.n OExpr.name QuoS RemS ShlS ShrS SideS SplitS allA awayA bitI buildR encV evalE exprD findI halfE idxV infoR labelB leadE linesR nameB nearE nodes oneA pRes putN regI signedI sizeA slotV takeA targetA withV wordE wrongI
def unitP (b : List UInt8) : OObj × Int × Int := if (linesR b).2.1 ≠ 0 then (noO, (linesR b).2.1, (linesR b).2.2) else buildR [] (linesR b).1
structure PlainB (b : List UInt8) : Prop where
 len : b.length ≤ 1000000000
 plain : plainL (linesR b).1
 tot : totL (linesR b).1 ≤ 9000
 wts : ∀ x ∈ (linesR b).1, wt (x.toks.map tk) ≤ 1048576
theorem unit_plain : Meets Tryz.prog n_asm_Unit (SpecP PlainB (fun b => [.sl 1 (b.map byteD) none]) fun b => .tup [objD (unitP b).1, .agg [.int .i64 (unitP b).2.1, .int .i64 (unitP b).2.2]]) := by
 refine meets_f tabOk Tryz.func13 rfl (by decide) ?_
 rintro b ⟨h1, h2, h3, h4⟩
 refine ⟨Nat.le_refl _, by simp [Tryz.f13], fun E hE => ?_⟩
 have hU : unitP b = if (linesR b).2.1 ≠ 0 then (noO, (linesR b).2.1, (linesR b).2.2) else buildR [] (linesR b).1 := rfl
 generalize unitP b = U at *
 refine vcOk _ ?_
 (all_goals refine qgp ?_ <;> (repeat' first | exact trivial | intro hc | refine And.intro ?_ ?_) <;> refine Lf.mk ?_)
 refine call_p scan_lines_meets b h1 (VS.mk (LeL.of_eq rfl)) ?_
 have hD : linesD (linesR b) = .tup [.sl 2 ((linesR b).1.map llineD) none, .agg [.int .i64 (linesR b).2.1, .int .i64 (linesR b).2.2]] := rfl
 rw [hD]
 generalize linesR b = W at *
 obtain ⟨l, e, a⟩ := W
 dsimp only at h2 h3 h4 hU ⊢
 (all_goals refine qgp ?_ <;> (repeat' first | exact trivial | intro hc | refine And.intro ?_ ?_) <;> refine Lf.mk ?_)
 ·rw [if_pos hc] at hU
  subst hU
  exact end_p (VS.mk (LeD.tup (.cons (LeD.agg (.cons (.nil 1) (.cons (.nil 2) (.cons (.nil 4) .nil)))) (LeL.refl _))))
 rw [if_neg (fun h => h hc)] at hU
 refine call_p expand_plain l h2 (VS.mk (LeL.of_eq rfl)) ?_
 (all_goals refine qgp ?_ <;> (repeat' first | exact trivial | intro hc | refine And.intro ?_ ?_) <;> refine Lf.mk ?_)
 ·exact absurd trivial hc
 refine call_p build_meets (l, []) ⟨h3, h4, by decide, by have := h2.1; show l.length ≤ _; omega⟩ (VS.mk (LeL.of_eq rfl)) ?_
 dsimp only
 rw [← hU]
 (all_goals refine qgp ?_ <;> (repeat' first | exact trivial | intro hc | refine And.intro ?_ ?_) <;> refine Lf.mk ?_)
 exact end_p (VS.mk (LeD.refl _))
end Go.Proofs.YthmdddenbfbefaaGreatDoor
namespace Go.Proofs.YthmdddenbfbefaaGreatDoor
open Go Go.Plat
set_option linter.unusedVariables false
set_option linter.unusedSimpArgs false
set_option maxRecDepth 100000
set_option maxHeartbeats 2000000
attribute [local irreducible] AWP Arith BitS BytesS CallS CatS DrawS EndS IdxS LookS LoopEnd Meets ModeS NilS NormL NormM QuoS RemS ShlS ShrS SideS SplitS bitI
def srcA : List UInt8 := [97, 58, 32, 109, 111, 118, 46, 108, 32, 61, 97, 44, 114, 49, 10, 98, 114, 97, 32, 97, 10, 110, 111, 112]
def objA : OObj := ⟨[209, 1, 175, 253, 0, 9, 0, 0, 0, 0, 0, 0], [⟨[97], 0⟩], [⟨8, 4, [], 0⟩]⟩
theorem srcA_unit : unitP srcA = (objA, 0, 0) := by kernel_rfl
def linA : List LLine := [⟨1, [⟨1, 0, [97]⟩, ⟨3, 0, [58]⟩, ⟨1, 0, [109, 111, 118, 46, 108]⟩, ⟨3, 0, [61]⟩, ⟨1, 0, [97]⟩, ⟨3, 0, [44]⟩, ⟨1, 0, [114, 49]⟩]⟩, ⟨2, [⟨1, 0, [98, 114, 97]⟩, ⟨1, 0, [97]⟩]⟩, ⟨3, [⟨1, 0, [110, 111, 112]⟩]⟩]
theorem srcA_lines : linesR srcA = (linA, 0, 0) := by kernel_rfl
theorem srcA_plain : PlainB srcA := by
 refine ⟨by decide, ?_, ?_, ?_⟩
 ·rw [srcA_lines]
  refine ⟨by decide, fun x hx => ?_⟩
  simp only [linA, List.mem_cons, List.not_mem_nil, or_false] at hx
  rcases hx with rfl | rfl | rfl <;> exact ⟨by decide, by decide⟩
 ·rw [srcA_lines]; decide
 ·rw [srcA_lines]
  intro x hx
  simp only [linA, List.mem_cons, List.not_mem_nil, or_false] at hx
  rcases hx with rfl | rfl | rfl <;> decide
def nopT : List LLine := [⟨1, [⟨1, 0, [110, 111, 112]⟩]⟩]
theorem nop_lines : linesR [110, 111, 112] = (nopT, 0, 0) := by kernel_rfl
theorem nop_build : buildR [] nopT = (⟨[0, 9], [], []⟩, 0, 0) := by kernel_rfl
attribute [local irreducible] unitP linesR buildR
theorem alive5_meets : Meets Tryz.prog n_pllaw5_alive (SpecP (fun _ : Unit => True) (fun _ => []) fun _ => .bool true) := by
 refine meets_f tabOk Tryz.func11 rfl (by decide) fun _ _ => ?_
 refine ⟨Nat.le_refl _, by simp [Tryz.f11], fun E hE => ?_⟩
 refine vcOk _ ?_
 (all_goals refine qgs ?_ <;> (repeat' first | exact trivial | intro hc | refine And.intro ?_ ?_) <;> refine Lf.mk ?_)
 refine md_l (VS.mk (md_r ?_))
 (all_goals refine qgp ?_ <;> (repeat' first | exact trivial | intro hc | refine And.intro ?_ ?_) <;> refine Lf.mk ?_)
 refine call_p unit_plain srcA srcA_plain (VS.mk (LeL.of_eq rfl)) ?_
 rw [srcA_unit]
 (all_goals refine qgs ?_ <;> (repeat' first | exact trivial | intro hc | refine And.intro ?_ ?_) <;> refine Lf.mk ?_)
 refine md_l (VS.mk (md_r ?_))
 (all_goals refine qgp ?_ <;> (repeat' first | exact trivial | intro hc | refine And.intro ?_ ?_) <;> refine Lf.mk ?_)
 refine call_p ref_lines_meets [110, 111, 112] (by decide) (VS.mk (LeL.of_eq rfl)) ?_
 rw [nop_lines]
 (all_goals refine qgp ?_ <;> (repeat' first | exact trivial | intro hc | refine And.intro ?_ ?_) <;> refine Lf.mk ?_)
 refine call_p build_meets (nopT, []) ⟨by decide, fun x hx => by
  simp only [nopT, List.mem_cons, List.not_mem_nil, or_false] at hx
  subst hx
  decide, by decide, by decide⟩ (VS.mk (.cons (.refl _) (.cons (.nil 2) .nil))) ?_
 dsimp only
 rw [nop_build]
 (all_goals refine qgp ?_ <;> (repeat' first | exact trivial | intro hc | refine And.intro ?_ ?_) <;> refine Lf.mk ?_)
 all_goals first
  | (exfalso; exact hc trivial)
  | (exfalso; exact hc rfl)
  | (exfalso; exact Bool.noConfusion hc)
  | (exfalso; refine absurd hc ?_; decide)
  | skip
 all_goals exact end_p (VS.mk (LeD.of_eq rfl))
end Go.Proofs.YthmdddenbfbefaaGreatDoor
namespace Go.Proofs.YthmdddenbfbefaaGreatDoor
open Go Go.Plat
set_option linter.unusedVariables false
set_option linter.unusedSimpArgs false
set_option maxRecDepth 100000
set_option maxHeartbeats 2000000
attribute [local irreducible] AWP Arith BitS BytesS CallS CatS DrawS EndS IdxS Lib.itoa LookS LoopEnd Meets ModeS NilS NormL NormM QuoS RemS ShlS ShrS SideS SplitS bitI buildR firstC headC isC linesR nameB regR renF renTok
theorem asmnames_walk (H : ∀ (f g : List UInt8) (l : List LLine), nameB f = true → nameB g = true → regR ⟨1, 0, f⟩ < 0 → regR ⟨1, 0, g⟩ < 0 → (∀ x ∈ l, noW g x.toks) → SameO (buildR [] l) (buildR [] (l.map (renLn f g))))
  (HL : ∀ b l, linesR b = (l, 0, 0) → totL l ≤ 9000 ∧ (∀ x ∈ l, x.toks.length ≤ 9000) ∧ (∀ (f g : List UInt8), nameB g = true → (∀ x ∈ l, wt (x.toks.map tk) ≤ 1048576) ∧ ∀ x ∈ l.map (renLn f g), wt (x.toks.map tk) ≤ 1048576) ∧ l.length ≤ 9000) (HE : ∀ b, (linesR b).2.1 = 0 → (linesR b).2.2 = 0) :
  Meets Tryz.prog n_pllaw5_AsmNames (SpecP (fun ((b, f, g) : List UInt8 × List UInt8 × List UInt8) => b.length ≤ 1000000000 ∧ f.length ≤ 1000000000 ∧ g.length ≤ 1000000000) (fun (b, f, g) => [.sl 1 (b.map byteD) none, .str f, .str g]) fun _ => .bool true) := by
 refine meets_f tabOk Tryz.func4 rfl (by decide) ?_
 rintro ⟨b, f, g⟩ ⟨hb, hf, hg⟩
 have hb : b.length ≤ 1000000000 := hb
 have hf : f.length ≤ 1000000000 := hf
 have hg : g.length ≤ 1000000000 := hg
 refine ⟨Nat.le_refl _, by simp [Tryz.f4], fun E hE => ?_⟩
 have hE0 : E.L.length = 0 := by rw [hE]; rfl
 refine vcOk _ ?_
 (all_goals refine qgp ?_ <;> (repeat' first | exact trivial | intro hc | refine And.intro ?_ ?_) <;> refine Lf.mk ?_)
 refine call_p alive5_meets () trivial (VS.mk (LeL.of_eq rfl)) ?_
 (all_goals refine qgp ?_ <;> (repeat' first | exact trivial | intro hc | refine And.intro ?_ ?_) <;> refine Lf.mk ?_)
 (any_goals (first | (exfalso; refine Bool.false_ne_true ?_; assumption) | (exfalso; refine Bool.false_ne_true (Eq.symm ?_); assumption) | (exfalso; refine absurd trivial ?_; assumption) | skip))
 refine call_p ref_lines_meets b hb (VS.mk (LeL.of_eq rfl)) ?_
 have hlE := HE b
 have hlL := HL b
 generalize linesR b = R at *
 obtain ⟨l, e1, e2⟩ := R
 dsimp only at hlE hlL
 (all_goals refine qgp ?_ <;> (repeat' first | exact trivial | intro hc | refine And.intro ?_ ?_) <;> refine Lf.mk ?_)
 ·exact end_p (VS.mk (LeD.tt rfl))
 have he2 := hlE hc
 subst hc
 subst he2
 obtain ⟨hL1, hL2, hL3, hL4⟩ := hlL l rfl
 clear hlL hlE
 refine call_p rname_meets f hf (VS.mk (LeL.of_eq rfl)) ?_
 generalize hnf : nameB f = nf
 (all_goals refine qgp ?_ <;> (repeat' first | exact trivial | intro hc | refine And.intro ?_ ?_) <;> refine Lf.mk ?_)
 ·exact end_p (VS.mk (LeD.tt rfl))
 refine call_p rname_meets g hg (VS.mk (LeL.of_eq rfl)) ?_
 generalize hng : nameB g = ng
 (all_goals refine qgp ?_ <;> (repeat' first | exact trivial | intro hc | refine And.intro ?_ ?_) <;> refine Lf.mk ?_)
 ·exact end_p (VS.mk (LeD.tt rfl))
 refine call_p refreg_meets ⟨1, 0, g⟩ hg (VS.mk (LeL.of_eq rfl)) ?_
 generalize hrg : regR ⟨1, 0, g⟩ = rg
 (all_goals refine qgp ?_ <;> (repeat' first | exact trivial | intro hc | refine And.intro ?_ ?_) <;> refine Lf.mk ?_)
 ·exact end_p (VS.mk (LeD.tt rfl))
 refine call_p refreg_meets ⟨1, 0, f⟩ hf (VS.mk (LeL.of_eq rfl)) ?_
 generalize hrf : regR ⟨1, 0, f⟩ = rf
 (all_goals refine qgp ?_ <;> (repeat' first | exact trivial | intro hc | refine And.intro ?_ ?_) <;> refine Lf.mk ?_)
 ·exact end_p (VS.mk (LeD.tt rfl))
 refine awp_weak (weak_nil 9 2 rfl) ?_
 refine awp_loop (α := Nat) (fun k => k ≤ l.length ∧ ∀ x ∈ l.take k, noW g x.toks) (fun k => [(1, .str f), (2, .str g), (7, .sl 2 (l.map llineD) none), (8, .loc 0 0), (9, .sl 2 (((l.take k).map (renLn f g)).map llineD) (some 1)), (52, .sl 2 (l.map llineD) none), (53, .int .i64 l.length), (54, .int .i64 k)])
  (fun k => [.cells [.int .i64 0, .int .i64 0], .spare ((l.take k).map (renLn f g)).length]) (fun k => l.length - k) (fun _ => by simp [hE]) 0 ⟨Nat.zero_le _, fun x hx => by simp at hx⟩ ?_ ?_
 ·(repeat' (first | (refine VS.mk ?_) | exact trivial | exact rfl | refine And.intro ?_ ?_))
 rintro k ⟨hk, hnw⟩
 refine vcOk _ ?_
 (all_goals refine qgp ?_ <;> (repeat' first | exact trivial | intro hc | refine And.intro ?_ ?_) <;> refine Lf.mk ?_)
 ·obtain ⟨x, hx⟩ := at_of_lt (l := l) (k := k) (by omega)
  refine ix_map x (Int.natCast_nonneg k) (by rw [Int.toNat_natCast]; exact hx) ?_
  (all_goals refine qgp ?_ <;> (repeat' first | exact trivial | intro hc | refine And.intro ?_ ?_) <;> refine Lf.mk ?_)
  refine awp_weak (weak_cellnil' 3 3 [.int .i64 x.pos, .sl 3 [] (some 4)] rfl ⟨.same, .here, trivial⟩) ?_
  obtain ⟨pos, ts⟩ := x
  have htl : ts.length ≤ 9000 := hL2 _ (List.mem_of_getElem? hx)
  refine awp_loop (α := Nat) (fun i => i ≤ ts.length ∧ noW g (ts.take i)) (fun i => [(1, .str f), (2, .str g), (7, .sl 2 (l.map llineD) none), (8, .loc 0 0), (9, .sl 2 (((l.take k).map (renLn f g)).map llineD) (some 1)), (11, .loc 2 0), (12, .loc 3 0), (52, .sl 2 (l.map llineD) none), (53, .int .i64 l.length), (54, .int .i64 k),
   (62, .sl 3 (ts.map ltokD) none), (63, .int .i64 ts.length), (64, .int .i64 i)])
   (fun i => [.cells [.int .i64 0, .int .i64 0], .spare ((l.take k).map (renLn f g)).length, .cells [.int .i64 pos, .sl 3 (ts.map ltokD) none], .cells [.int .i64 pos, .sl 3 (((renF f g true ts).take i).map ltokD) (some 4)], .spare ((renF f g true ts).take i).length]) (fun i => ts.length - i) (fun _ => by simp [hE]) 0 ⟨Nat.zero_le _, fun x hx => by simp at hx⟩ ?_ ?_
  ·(repeat' (first | (refine VS.mk ?_) | exact trivial | exact rfl | refine And.intro ?_ ?_))
  rintro i ⟨hi, hw⟩
  refine awp_seqK (vcOk _ ?_)
  (all_goals refine qgp ?_ <;> (repeat' first | exact trivial | intro hc | refine And.intro ?_ ?_) <;> refine Lf.mk ?_)
  refine awp_seqK (vcOk _ ?_)
  (all_goals refine qgp ?_ <;> (repeat' first | exact trivial | intro hc | refine And.intro ?_ ?_) <;> refine Lf.mk ?_)
  ·obtain ⟨t, ht⟩ := at_of_lt (l := ts) (k := i) (by omega)
   obtain ⟨p, hP⟩ : ∃ p, ¬ i = 0 → ts[i - 1]? = some p ∧ firstC ts i = isC p := by
    by_cases h0 : i = 0
    ·exact ⟨t, fun h => absurd h0 h⟩
    ·obtain ⟨p, hp⟩ := at_of_lt (l := ts) (k := i - 1) (by omega)
     exact ⟨p, fun _ => ⟨hp, first_prev h0 hp⟩⟩
   obtain ⟨q, hQ⟩ : ∃ q, i + 1 < ts.length → ts[i + 1]? = some q ∧ headC (ts.drop (i + 1)) = isC q := by
    by_cases h0 : i + 1 < ts.length
    ·obtain ⟨q, hq⟩ := at_of_lt (l := ts) (k := i + 1) h0
     exact ⟨q, fun _ => ⟨hq, head_next hq⟩⟩
    ·exact ⟨t, fun h => absurd h h0⟩
   have hst := renF_step f g ht
   refine vcOk _ ?_
   (all_goals refine qgp ?_ <;> (repeat' first | exact trivial | intro hc | refine And.intro ?_ ?_) <;> refine Lf.mk ?_)
   refine ix_map t (Int.natCast_nonneg i) (by rw [Int.toNat_natCast]; exact ht) ?_
   (all_goals refine qgp ?_ <;> (repeat' first | exact trivial | intro hc | refine And.intro ?_ ?_) <;> refine Lf.mk ?_)
   ·exact end_p (VS.mk (LeD.tt rfl))
   all_goals try (
    first
     | refine ix_map q (by omega) (by rw [show ((i : Nat) : Int) + 1 = ((i + 1 : Nat) : Int) by omega, Int.toNat_natCast]; exact (hQ (by omega)).1) ?_
     | refine ix_map p (by omega) (by rw [show ((i : Nat) : Int) - 1 = ((i - 1 : Nat) : Int) by omega, Int.toNat_natCast]; exact (hP (by omega)).1) ?_
    (all_goals refine qgp ?_ <;> (repeat' first | exact trivial | intro hc | refine And.intro ?_ ?_) <;> refine Lf.mk ?_))
   all_goals try (
    first
     | refine ix_map q (by omega) (by rw [show ((i : Nat) : Int) + 1 = ((i + 1 : Nat) : Int) by omega, Int.toNat_natCast]; exact (hQ (by omega)).1) ?_
     | refine ix_map p (by omega) (by rw [show ((i : Nat) : Int) - 1 = ((i - 1 : Nat) : Int) by omega, Int.toNat_natCast]; exact (hP (by omega)).1) ?_
    (all_goals refine qgp ?_ <;> (repeat' first | exact trivial | intro hc | refine And.intro ?_ ?_) <;> refine Lf.mk ?_))
   all_goals try (
    first
     | refine ix_map q (by omega) (by rw [show ((i : Nat) : Int) + 1 = ((i + 1 : Nat) : Int) by omega, Int.toNat_natCast]; exact (hQ (by omega)).1) ?_
     | refine ix_map p (by omega) (by rw [show ((i : Nat) : Int) - 1 = ((i - 1 : Nat) : Int) by omega, Int.toNat_natCast]; exact (hP (by omega)).1) ?_
    (all_goals refine qgp ?_ <;> (repeat' first | exact trivial | intro hc | refine And.intro ?_ ?_) <;> refine Lf.mk ?_))
   all_goals try (
    first
     | refine ix_map q (by omega) (by rw [show ((i : Nat) : Int) + 1 = ((i + 1 : Nat) : Int) by omega, Int.toNat_natCast]; exact (hQ (by omega)).1) ?_
     | refine ix_map p (by omega) (by rw [show ((i : Nat) : Int) - 1 = ((i - 1 : Nat) : Int) by omega, Int.toNat_natCast]; exact (hP (by omega)).1) ?_
    (all_goals refine qgp ?_ <;> (repeat' first | exact trivial | intro hc | refine And.intro ?_ ?_) <;> refine Lf.mk ?_))
   all_goals have hw2 := noW_step (g := g) ht hw (fun h => by first | exact absurd h.1 (by assumption) | exact absurd h.2 (by assumption))
   all_goals (first | rw [first_zero ts (by omega)] at hst | rw [(hP (by omega)).2, isC_eq] at hst)
   all_goals (first | rw [(hQ (by omega)).2, isC_eq] at hst | rw [head_none (by omega)] at hst)
   all_goals clear hP hQ
   all_goals (unfold renTok at hst; split at hst)
   all_goals rename_i hsp
   all_goals try (exfalso; clear hst hw2 hnw hw; revert hsp; simp [*]; done)
   all_goals clear hsp
   all_goals (refine loop_end (i + 1) ⟨by omega, hw2⟩ (by omega) ?_)
   all_goals rw [hst]
   all_goals (repeat' (first | (refine VS.mk ?_) | exact trivial | exact rfl | refine And.intro ?_ ?_))
   all_goals (first | rfl | simp [ltokD])
  ·have hil : i = ts.length := by omega
   have e1 : (renF f g true ts).take i = renF f g true ts := List.take_of_length_le (by rw [renF_len]; omega)
   have e2 : (l.take (k + 1)).map (renLn f g) = (l.take k).map (renLn f g) ++ [⟨pos, renF f g true ts⟩] := by rw [List.take_add_one, hx, List.map_append]; rfl
   have e3 : ∀ x ∈ l.take (k + 1), noW g x.toks := by
    intro x hxm
    rw [List.take_add_one, hx] at hxm
    rcases List.mem_append.1 hxm with hxm | hxm
    ·exact hnw x hxm
    ·simp at hxm
     subst hxm
     rw [hil, List.take_length] at hw
     exact hw
   rw [e1]
   refine loop_end (k + 1) ⟨by omega, e3⟩ (by omega) ?_
   rw [e2]
   (repeat' (first | (refine VS.mk ?_) | exact trivial | exact rfl | refine And.intro ?_ ?_))
   all_goals (first | rfl | simp [llineD] | skip)
 ·have hkl : k = l.length := by omega
  subst hkl
  rw [List.take_length] at *
  obtain ⟨w1, w2⟩ := hL3 f g (hng.trans (by assumption))
  refine call_p build_meets (l, []) ⟨hL1, w1, by decide, by show l.length ≤ _; omega⟩ (VS.mk (.cons (.refl _) (.cons (.nil 2) .nil))) ?_
  have hS := H f g l (hnf.trans (by assumption)) (hng.trans (by assumption)) (by omega) (by omega) hnw
  dsimp only
  generalize buildR [] l = R1 at *
  obtain ⟨o1, a1, b1⟩ := R1
  (all_goals refine qgp ?_ <;> (repeat' first | exact trivial | intro hc | refine And.intro ?_ ?_) <;> refine Lf.mk ?_)
  refine call_p build_meets (l.map (renLn f g), []) ⟨?_, w2, by decide, by show (l.map _).length ≤ _; rw [List.length_map]; omega⟩ (VS.mk (.cons (.strip _ _ _) (.cons (.nil 2) .nil))) ?_
  ·show totL _ ≤ 9000
   rw [totL_ren]
   exact hL1
  dsimp only
  generalize buildR [] (l.map (renLn f g)) = R2 at *
  obtain ⟨o2, a2, b2⟩ := R2
  dsimp only at hS ⊢
  obtain ⟨s1, s2, s3, s4⟩ := hS
  dsimp only at s1 s2 s3 s4
  obtain ⟨rfl, rfl⟩ : a1 = a2 ∧ b1 = b2 := by injection s1 with u v; exact ⟨u, v⟩
  (all_goals refine qgp ?_ <;> (repeat' first | exact trivial | intro hc | refine And.intro ?_ ?_) <;> refine Lf.mk ?_)
  refine eqS_flat [.int .i64, .int .i64] (by kernel_rfl) rfl ?_
  (all_goals refine qgp ?_ <;> (repeat' first | exact trivial | intro hc | refine And.intro ?_ ?_) <;> refine Lf.mk ?_)
  ·exact end_p (VS.mk (LeD.of_eq (congrArg D.bool (by rw [s4]; exact beq_self_eq_true _))))
  ·exact absurd s2 hc
  ·simp at hc
end Go.Proofs.YthmdddenbfbefaaGreatDoor
namespace Go.Proofs.YthmdddenbfbefaaGreatDoor
open Go Go.Plat
set_option linter.unusedVariables false
set_option linter.unusedSimpArgs false
set_option maxRecDepth 100000
set_option maxHeartbeats 2000000
attribute [local irreducible] AWP Arith BitS BytesS CallS CatS DrawS EndS IdxS LookS LoopEnd Meets ModeS NilS NormL NormM QuoS RemS ShlS ShrS SideS SplitS bitI nameB numV signedI
def renN (f g s : List UInt8) : List UInt8 := if s = f then g else s
def rn (f g : List UInt8) (t : OTok) : OTok := if t.kind = 1 ∧ t.text = f then ⟨t.kind, t.n, g⟩ else t
mutual
def renE (f g : List UInt8) : OExpr → OExpr
 | .mk k n s ks => .mk k n (renN f g s) (renEs f g ks)
def renEs (f g : List UInt8) : List OExpr → List OExpr
 | [] => []
 | e :: es => renE f g e :: renEs f g es
end
mutual
def noG (g : List UInt8) : OExpr → Prop
 | .mk _ _ s ks => s ≠ g ∧ noGs g ks
def noGs (g : List UInt8) : List OExpr → Prop
 | [] => True
 | e :: es => noG g e ∧ noGs g es
end
structure FG (f g : List UInt8) : Prop where
 hf : nameB f = true
 hg : nameB g = true
theorem FG.nf {f g : List UInt8} (h : FG f g) : f ≠ [] := by
 intro e
 have := h.hf
 rw [e] at this
 exact absurd this (by unfold nameB; decide)
theorem FG.ng {f g : List UInt8} (h : FG f g) : g ≠ [] := by
 intro e
 have := h.hg
 rw [e] at this
 exact absurd this (by unfold nameB; decide)
theorem FG.nil {f g : List UInt8} (h : FG f g) : renN f g [] = [] := if_neg (Ne.symm h.nf)
inductive TT (f g : List UInt8) : List OTok → List OTok → Prop
 | nil : TT f g [] []
 | cons {t : OTok} {r r' : List OTok} : ¬ (t.kind = 1 ∧ t.text = g) → TT f g r r' → TT f g (t :: r) (rn f g t :: r')
 | col {t : OTok} {r r' : List OTok} : t.kind = 3 → t.text = [58] → r.length = r'.length → TT f g (t :: r) (t :: r')
theorem TT.len {f g : List UInt8} {l l' : List OTok} (h : TT f g l l') : l.length = l'.length := by
 induction h with
 | nil => rfl
 | cons _ _ ih => rw [List.length_cons, List.length_cons, ih]
 | col _ _ h => rw [List.length_cons, List.length_cons, h]
structure SR (f g : List UInt8) (s s' : St) : Prop where
 tt : TT f g s.rest s'.rest
 e0 : s.err = 0
 e1 : s'.err = 0
def Suf (s s1 s' s1' : St) : Prop := ∃ n : Nat, s1.rest = s.rest.drop n ∧ s1'.rest = s'.rest.drop n
theorem Suf.refl (s s' : St) : Suf s s s' s' := ⟨0, rfl, rfl⟩
theorem Suf.trans {a b c a' b' c' : St} (h : Suf a b a' b') (k : Suf b c b' c') : Suf a c a' c' := by
 obtain ⟨n, h1, h2⟩ := h
 obtain ⟨m, h3, h4⟩ := k
 exact ⟨n + m, by rw [h3, h1, List.drop_drop], by rw [h4, h2, List.drop_drop]⟩
theorem rn_kind (f g : List UInt8) (t : OTok) : (rn f g t).kind = t.kind := by unfold rn; split <;> rfl
theorem rn_n (f g : List UInt8) (t : OTok) : (rn f g t).n = t.n := by unfold rn; split <;> rfl
theorem rn_other {f g : List UInt8} {t : OTok} (h : t.kind ≠ 1) : rn f g t = t := if_neg fun h2 => h h2.1
theorem rn_word {f g : List UInt8} {t : OTok} (h : t.kind = 1) : (rn f g t).text = renN f g t.text := by
 unfold rn renN
 by_cases h2 : t.text = f
 ·rw [if_pos ⟨h, h2⟩, if_pos h2]
 ·rw [if_neg fun h3 => h2 h3.2, if_neg h2]
theorem fail_err {s : St} (h : s.err = 0) (e : Int) : (failS s e).err = e := by unfold failS; rw [if_pos h]
theorem fail_keep {s : St} (h : ¬ s.err = 0) (e : Int) : (failS s e).err = s.err := by unfold failS; rw [if_neg h]
theorem sign_err (l : List (List UInt8)) (s : St) : (signI l s).2.err = s.err := by
 obtain ⟨r, e⟩ := s
 cases r with
 | nil => rfl
 | cons t r => simp only [signI]; repeat' split
               all_goals rfl
def NoCol (l : List (List UInt8)) : Prop := idxT [58] l 0 < 0
theorem sign_sim {f g : List UInt8} {l : List (List UInt8)} (hl : NoCol l) {s s' : St} (h : SR f g s s') : (signI l s').1 = (signI l s).1 ∧ SR f g (signI l s).2 (signI l s').2 ∧ Suf s (signI l s).2 s' (signI l s').2 := by
 obtain ⟨r, e⟩ := s
 obtain ⟨r', e'⟩ := s'
 obtain ⟨ht, he, he'⟩ := h
 dsimp only at ht he he'
 subst he
 subst he'
 cases ht with
 | nil => exact ⟨rfl, ⟨.nil, rfl, rfl⟩, .refl _ _⟩
 | @cons t r r' hn hr =>
  simp only [signI]
  rw [rn_kind]
  by_cases hk : t.kind = 3
  ·rw [if_pos hk, if_pos hk, rn_other (by rw [hk]; decide)]
   by_cases h0 : 0 ≤ idxT t.text l 0
   ·rw [if_pos h0, if_pos h0]
    exact ⟨rfl, ⟨hr, rfl, rfl⟩, 1, rfl, rfl⟩
   ·rw [if_neg h0, if_neg h0]
    refine ⟨rfl, ⟨?_, rfl, rfl⟩, 0, rfl, rfl⟩
    have := TT.cons (f := f) hn hr
    rwa [rn_other (by rw [hk]; decide)] at this
  ·rw [if_neg hk, if_neg hk]
   exact ⟨rfl, ⟨.cons hn hr, rfl, rfl⟩, 0, rfl, rfl⟩
 | @col t r r' h1 h2 h3 =>
  simp only [signI]
  rw [if_pos h1, if_pos h1, h2, if_neg (by unfold NoCol at hl; omega), if_neg (by unfold NoCol at hl; omega)]
  exact ⟨rfl, ⟨.col h1 h2 h3, rfl, rfl⟩, .refl _ _⟩
structure Out2 (f g : List UInt8) (s s' : St) (a a' : OExpr × St) : Prop where
 err : a'.2.err = a.2.err
 ok : a.2.err = 0 → a'.1 = renE f g a.1 ∧ noG g a.1 ∧ SR f g a.2 a'.2 ∧ Suf s a.2 s' a'.2
theorem Out2.bad {f g : List UInt8} {s s' : St} {a a' : OExpr × St} (h : a'.2.err = a.2.err) (h2 : ¬ a.2.err = 0) : Out2 f g s s' a a' := ⟨h, fun h3 => absurd h3 h2⟩
theorem Out2.pre {f g : List UInt8} {s s' t t' : St} {a a' : OExpr × St} (h : Out2 f g t t' a a') (hs : Suf s t s' t') : Out2 f g s s' a a' := ⟨h.err, fun h2 => by
 obtain ⟨h3, h4, h5, h6⟩ := h.ok h2
 exact ⟨h3, h4, h5, hs.trans h6⟩⟩
structure SimN (f g : List UInt8) (p : St → OExpr × St) : Prop where
 keep : ∀ s, ¬ s.err = 0 → (p s).2.err = s.err
 sim : ∀ s s', SR f g s s' → Out2 f g s s' (p s) (p s')
theorem mk1_ren {f g : List UInt8} (h : FG f g) (k n : Int) (e : OExpr) : renE f g (.mk k n [] [e]) = .mk k n [] [renE f g e] := by rw [renE, renEs, renEs, h.nil]
theorem mk1_no {f g : List UInt8} (h : FG f g) (k n : Int) {e : OExpr} (he : noG g e) : noG g (.mk k n [] [e]) := by rw [noG, noGs, noGs]; exact ⟨Ne.symm h.ng, he, trivial⟩
theorem mk2_ren {f g : List UInt8} (h : FG f g) (k n : Int) (e e2 : OExpr) : renE f g (.mk k n [] [e, e2]) = .mk k n [] [renE f g e, renE f g e2] := by rw [renE, renEs, renEs, renEs, h.nil]
theorem mk2_no {f g : List UInt8} (h : FG f g) (k n : Int) {e e2 : OExpr} (he : noG g e) (he2 : noG g e2) : noG g (.mk k n [] [e, e2]) := by rw [noG, noGs, noGs, noGs]; exact ⟨Ne.symm h.ng, he, he2, trivial⟩
theorem fail_out {f g : List UInt8} {s s' t t' : St} {a a' : OExpr} (h : t.err = 0) (h' : t'.err = 0) {e : Int} (he : e ≠ 0) : Out2 f g s s' (a, failS t e) (a', failS t' e) :=
 .bad (by rw [fail_err h, fail_err h']) (by rw [fail_err h]; exact he)
theorem tok_sim {f g : List UInt8} (h : FG f g) : SimN f g tokI where
 keep := by
  rintro ⟨r, e⟩ he
  have he : ¬ e = 0 := he
  cases r with
  | nil => exact fail_keep he 9
  | cons t r =>
   simp only [tokI]
   by_cases h2 : t.kind = 2
   ·rw [if_pos h2]
   ·rw [if_neg h2]
    by_cases h1 : t.kind = 1
    ·rw [if_pos h1]
     by_cases h3 : nameB t.text = true
     ·rw [if_pos h3]
     ·rw [if_neg h3]; exact fail_keep (s := ⟨r, e⟩) he 7
    ·rw [if_neg h1]; exact fail_keep (s := ⟨r, e⟩) he 2
 sim := by
  rintro ⟨r, e⟩ ⟨r', e'⟩ ⟨ht, he, he'⟩
  dsimp only at ht he he'
  subst he
  subst he'
  cases ht with
  | nil => exact fail_out rfl rfl (by decide)
  | @cons t r r' hn hr =>
   simp only [tokI]
   rw [rn_kind, rn_n]
   by_cases h2 : t.kind = 2
   ·rw [if_pos h2, if_pos h2]
    refine ⟨rfl, fun _ => ⟨?_, ?_, ⟨hr, rfl, rfl⟩, 1, rfl, rfl⟩⟩
    ·dsimp only; rw [renE, renEs, h.nil]
    ·dsimp only; rw [noG, noGs]; exact ⟨Ne.symm h.ng, trivial⟩
   ·rw [if_neg h2, if_neg h2]
    by_cases h1 : t.kind = 1
    ·rw [if_pos h1, if_pos h1, rn_word h1]
     have hb : nameB (renN f g t.text) = nameB t.text := by
      unfold renN
      split
      ·next hq => rw [hq, h.hf, h.hg]
      ·rfl
     rw [hb]
     by_cases h3 : nameB t.text = true
     ·rw [if_pos h3, if_pos h3]
      refine ⟨rfl, fun _ => ⟨?_, ?_, ⟨hr, rfl, rfl⟩, 1, rfl, rfl⟩⟩
      ·dsimp only; rw [renE, renEs]
      ·dsimp only; rw [noG, noGs]; exact ⟨fun q => hn ⟨h1, q⟩, trivial⟩
     ·rw [if_neg h3, if_neg h3]
      exact fail_out rfl rfl (by decide)
    ·rw [if_neg h1, if_neg h1]
     exact fail_out rfl rfl (by decide)
  | @col t r r' h1 h2 h3 =>
   simp only [tokI]
   rw [if_neg (by rw [h1]; decide), if_neg (by rw [h1]; decide), if_neg (by rw [h1]; decide), if_neg (by rw [h1]; decide)]
   exact fail_out rfl rfl (by decide)
theorem signs_nocol (k : Nat) : NoCol (signs k) := by
 unfold signs NoCol
 split <;> decide
theorem loop_keep {k : Nat} {sub : St → OExpr × St} (n : Nat) (e : OExpr) {s : St} (h : ¬ s.err = 0) : (loopF k sub n e s).2.err = s.err := by rw [loop_stop h]
theorem loop_sim {f g : List UInt8} (h : FG f g) {k : Nat} {sub : St → OExpr × St} (hs : SimN f g sub) : ∀ (n : Nat) (e : OExpr) (s s' : St), noG g e → SR f g s s' → Out2 f g s s' (loopF k sub n e s) (loopF k sub n (renE f g e) s')
 | 0, e, s, s', he, hr => ⟨by rw [loop_0, loop_0, hr.e0, hr.e1], fun _ => ⟨rfl, he, hr, .refl _ _⟩⟩
 | n + 1, e, s, s', he, hr => by
  obtain ⟨q1, q2, q3⟩ := sign_sim (signs_nocol k) hr
  by_cases h1 : (signI (signs k) s).1 < 0
  ·rw [loop_break hr.e0 h1, loop_break hr.e1 (by rw [q1]; exact h1)]
   exact ⟨by rw [q2.e0, q2.e1], fun _ => ⟨rfl, he, q2, q3⟩⟩
  ·rw [loop_go hr.e0 h1, loop_go hr.e1 (by rw [q1]; exact h1), q1]
   have ho := hs.sim _ _ q2
   by_cases h2 : (sub (signI (signs k) s).2).2.err = 0
   ·obtain ⟨o1, o2, o3, o4⟩ := ho.ok h2
    rw [o1, ← mk2_ren h]
    exact (loop_sim h hs n _ _ _ (mk2_no h _ _ he o2) o3).pre (q3.trans o4)
   ·have h3 : ¬ (sub (signI (signs k) s').2).2.err = 0 := by rw [ho.err]; exact h2
    exact .bad (by rw [loop_keep _ _ h2, loop_keep _ _ h3, ho.err]) (by rw [loop_keep _ _ h2]; exact h2)
theorem level_sim {f g : List UInt8} (h : FG f g) {k : Nat} {sub : St → OExpr × St} (hs : SimN f g sub) : SimN f g (levelF k sub) where
 keep := fun s he => by
  unfold levelF
  have := hs.keep s he
  rw [loop_keep _ _ (by rw [this]; exact he), this]
 sim := fun s s' hr => by
  unfold levelF
  have ho := hs.sim _ _ hr
  by_cases h2 : (sub s).2.err = 0
  ·obtain ⟨o1, o2, o3, o4⟩ := ho.ok h2
   rw [o1, ← o3.tt.len]
   exact (loop_sim h hs _ _ _ _ o2 o3).pre o4
  ·have h3 : ¬ (sub s').2.err = 0 := by rw [ho.err]; exact h2
   exact .bad (by rw [loop_keep _ _ h2, loop_keep _ _ h3, ho.err]) (by rw [loop_keep _ _ h2]; exact h2)
theorem at_sim {f g : List UInt8} (h : FG f g) {one : St → OExpr × St} (hs : SimN f g one) : ∀ j, SimN f g (atF one j)
 | 0 => hs
 | j + 1 => level_sim h (at_sim h hs j)
theorem step_sim {f g : List UInt8} (h : FG f g) {one : St → OExpr × St} (hs : SimN f g one) : SimN f g (oneStep one) where
 keep := fun s he => by
  have e1 : ¬ (signI opens s).2.err = 0 := by rw [sign_err]; exact he
  have e2 := hs.keep _ e1
  have e3 := (at_sim h hs 5).keep _ e1
  have e4 := (tok_sim h).keep _ e1
  rw [sign_err] at e2 e3 e4
  unfold oneStep
  split
  ·exact e2
  ·split
   ·exact e2
   ·split
    ·split
     ·dsimp only
      rw [fail_keep (by rw [sign_err, e3]; exact he), sign_err, e3]
     ·dsimp only
      rw [sign_err, e3]
    ·exact e4
 sim := fun s s' hr => by
  obtain ⟨q1, q2, q3⟩ := sign_sim (l := opens) (by unfold NoCol; decide) hr
  have o := hs.sim _ _ q2
  have oa := (at_sim h hs 5).sim _ _ q2
  have ot := (tok_sim h).sim _ _ q2
  unfold oneStep
  rw [q1]
  split
  ·exact ⟨o.err, fun h2 => by obtain ⟨o1, o2, o3, o4⟩ := o.ok h2; exact ⟨by dsimp only; rw [o1, mk1_ren h], mk1_no h _ _ o2, o3, q3.trans o4⟩⟩
  ·split
   ·exact ⟨o.err, fun h2 => by obtain ⟨o1, o2, o3, o4⟩ := o.ok h2; exact ⟨by dsimp only; rw [o1, mk1_ren h], mk1_no h _ _ o2, o3, q3.trans o4⟩⟩
   ·split
    ·by_cases h2 : (atF one 5 (signI opens s).2).2.err = 0
     ·obtain ⟨o1, o2, o3, o4⟩ := oa.ok h2
      obtain ⟨c1, c2, c3⟩ := sign_sim (l := closes) (by unfold NoCol; decide) o3
      rw [c1]
      split
      ·exact fail_out c2.e0 c2.e1 (by decide)
      ·exact ⟨by dsimp only; rw [c2.e0, c2.e1], fun _ => ⟨o1, o2, c2, (q3.trans o4).trans c3⟩⟩
     ·have h3 : ¬ (atF one 5 (signI opens s').2).2.err = 0 := by rw [oa.err]; exact h2
      have k1 : ∀ (x : St) (c : Prop) [Decidable c] (a : OExpr), ¬ x.err = 0 → (if c then (noE, failS (signI closes x).2 2) else (a, (signI closes x).2)).2.err = x.err := by
       intro x c _ a hx
       split
       ·dsimp only; rw [fail_keep (by rw [sign_err]; exact hx), sign_err]
       ·dsimp only; rw [sign_err]
      exact .bad (by rw [k1 _ _ _ h2, k1 _ _ _ h3, oa.err]) (by rw [k1 _ _ _ h2]; exact h2)
    ·exact ot.pre q3
theorem one_sim {f g : List UInt8} (h : FG f g) : ∀ n, SimN f g (oneI n)
 | 0 => ⟨fun s he => by rw [oneI]; exact fail_keep he 10, fun s s' hr => by rw [oneI, oneI]; exact fail_out hr.e0 hr.e1 (by decide)⟩
 | n + 1 => by
  have := step_sim h (one_sim h n)
  exact ⟨fun s he => by rw [oneI]; exact this.keep s he, fun s s' hr => by rw [oneI, oneI]; exact this.sim s s' hr⟩
theorem pres_sim {f g : List UInt8} (h : FG f g) {l l' : List OTok} (ht : TT f g l l') : (pRes l').2 = (pRes l).2 ∧ ((pRes l).2.2 = 0 → (pRes l').1 = renE f g (pRes l).1 ∧ noG g (pRes l).1 ∧ TT f g (l.drop (pRes l).2.1.toNat) (l'.drop (pRes l).2.1.toNat)) := by
 have o := (at_sim h (one_sim h 7) 5).sim ⟨l, 0⟩ ⟨l', 0⟩ ⟨ht, rfl, rfl⟩
 have e : ∀ l, atF (oneI 7) 5 ⟨l, 0⟩ = parseI l := fun _ => rfl
 rw [e, e] at o
 unfold pRes
 by_cases h2 : (parseI l).2.err = 0
 ·obtain ⟨o1, o2, o3, n, o4, o5⟩ := o.ok h2
  rw [if_pos h2, if_pos (by rw [o.err]; exact h2)]
  dsimp only at o4 o5 ⊢
  have hl := ht.len
  have hl2 := o3.tt.len
  refine ⟨by rw [hl, hl2], fun _ => ⟨o1, o2, ?_⟩⟩
  have k : ∀ m : List OTok, m.drop ((l.length : Int) - ((parseI l).2.rest.length : Int)).toNat = m.drop n ∨ l.length < n := by
   intro m
   by_cases hn : l.length < n
   ·exact .inr hn
   ·refine .inl (congrArg (m.drop ·) ?_)
    rw [o4, List.length_drop]; omega
  by_cases hn : l.length < n
  ·have : ((l.length : Int) - ((parseI l).2.rest.length : Int)).toNat = l.length := by rw [o4, List.length_drop]; omega
   rw [this, List.drop_length, hl, List.drop_length]
   exact .nil
  ·rw [(k l).resolve_right hn, (k l').resolve_right hn, ← o4, ← o5]
   exact o3.tt
 ·rw [if_neg h2, if_neg (by rw [o.err]; exact h2), o.err]
  exact ⟨rfl, fun h3 => absurd h3 h2⟩
attribute [local irreducible] idxT pRes
def renV (f g : List UInt8) (v : OVal) : OVal := ⟨renN f g v.name, v.n⟩
theorem renN_nil {f g s : List UInt8} (h : FG f g) : renN f g s = [] ↔ s = [] := by
 unfold renN
 split
 ·next e => exact ⟨fun q => absurd q h.ng, fun q => absurd (e ▸ q : f = []) h.nf⟩
 ·exact .rfl
theorem renN_inj {f g s t : List UInt8} (hs : s ≠ g) (ht : t ≠ g) : renN f g s = renN f g t ↔ s = t := by
 unfold renN
 split
 ·next e =>
  split
  ·next e2 => rw [e, e2]; exact ⟨fun _ => rfl, fun _ => rfl⟩
  ·next e2 => exact ⟨fun q => absurd q.symm ht, fun q => absurd (q ▸ e) e2⟩
 ·next e =>
  split
  ·next e2 => exact ⟨fun q => absurd q hs, fun q => absurd (q.trans e2) e⟩
  ·exact .rfl
theorem twoV_sim {f g : List UInt8} (h : FG f g) {k : Int} {a b : OVal} (ha : a.name ≠ g) (hb : b.name ≠ g) : twoV k (renV f g a) (renV f g b) = (renV f g (twoV k a b).1, (twoV k a b).2) ∧ (twoV k a b).1.name ≠ g := by
 unfold twoV renV
 dsimp only
 simp only [renN_nil h, renN_inj ha hb]
 repeat' split
 ·exact ⟨by dsimp only; rw [h.nil], Ne.symm h.ng⟩
 ·next e1 e2 =>
  rcases e2.2 with q | q
  ·rw [q, List.nil_append, h.nil, List.nil_append]; exact ⟨rfl, hb⟩
  ·rw [q, List.append_nil, h.nil, List.append_nil]; exact ⟨rfl, ha⟩
 ·exact ⟨rfl, ha⟩
 ·exact ⟨by dsimp only; rw [h.nil], Ne.symm h.ng⟩
 ·exact ⟨by dsimp only; rw [h.nil], Ne.symm h.ng⟩
theorem topV0 (k n : Int) (s : List UInt8) : topV k n s [] [] = if k = 1 then (⟨[], signedI n 32⟩, 0) else if k = 2 then (⟨s, 0⟩, 0) else (noVal, 1) := by
 unfold topV; simp [findQ]
theorem topV1 (k n : Int) (s : List UInt8) (v : OVal) : topV k n s [v] [] = if k = 3 ∨ k = 4 then (if v.name = [] then (if k = 3 then (⟨[], signedI (-v.n) 32⟩, 0) else (⟨[], signedI (-v.n - 1) 32⟩, 0)) else (noVal, 8)) else (noVal, 1) := by
 unfold topV; simp
theorem topV2 (k n : Int) (s : List UInt8) (a b : OVal) : topV k n s [a, b] [] = if 5 ≤ k ∧ k ≤ 11 then twoV k a b else (noVal, 1) := by
 unfold topV; simp
theorem topV3 (k n : Int) (s : List UInt8) (a b c : OVal) (r : List OVal) : topV k n s (a :: b :: c :: r) [] = (noVal, 1) := by
 unfold topV; simp
theorem topV_sim {f g : List UInt8} (h : FG f g) {k n : Int} {s : List UInt8} (hs : s ≠ g) {vs : List OVal} (hv : ∀ v ∈ vs, v.name ≠ g) :
  topV k n (renN f g s) (vs.map (renV f g)) [] = (renV f g (topV k n s vs []).1, (topV k n s vs []).2) ∧ (topV k n s vs []).1.name ≠ g := by
 have n0 : renV f g noVal = noVal := by unfold renV noVal; rw [h.nil]
 have n1 : ∀ m : Int, renV f g ⟨[], m⟩ = ⟨[], m⟩ := fun m => by unfold renV; rw [h.nil]
 have n2 : noVal.name ≠ g := Ne.symm h.ng
 match vs, hv with
 | [], _ =>
  rw [List.map_nil, topV0, topV0]
  repeat' split
  ·exact ⟨by dsimp only; rw [n1], Ne.symm h.ng⟩
  ·exact ⟨rfl, hs⟩
  ·exact ⟨by dsimp only; rw [n0], n2⟩
 | [v], hv =>
  rw [List.map_cons, List.map_nil, topV1, topV1]
  have e1 : (renV f g v).name = [] ↔ v.name = [] := renN_nil h
  have e2 : (renV f g v).n = v.n := rfl
  simp only [e1]
  rw [e2]
  repeat' split
  ·exact ⟨by dsimp only; rw [n1], Ne.symm h.ng⟩
  ·exact ⟨by dsimp only; rw [n1], Ne.symm h.ng⟩
  ·exact ⟨by dsimp only; rw [n0], n2⟩
  ·exact ⟨by dsimp only; rw [n0], n2⟩
 | [a, b], hv =>
  rw [List.map_cons, List.map_cons, List.map_nil, topV2, topV2]
  split
  ·exact twoV_sim h (hv a (List.mem_cons_self ..)) (hv b (List.mem_cons_of_mem _ (List.mem_cons_self ..)))
  ·exact ⟨by dsimp only; rw [n0], n2⟩
 | a :: b :: c :: r, _ =>
  rw [List.map_cons, List.map_cons, List.map_cons, topV3, topV3]
  exact ⟨by dsimp only; rw [n0], n2⟩
def renR (f g : List UInt8) : Int ⊕ List OVal → Int ⊕ List OVal
 | .inl w => .inl w
 | .inr vs => .inr (vs.map (renV f g))
def okR (g : List UInt8) : Int ⊕ List OVal → Prop
 | .inl _ => True
 | .inr vs => ∀ v ∈ vs, v.name ≠ g
mutual
theorem eval_sim {f g : List UInt8} (h : FG f g) : ∀ e : OExpr, noG g e → evalE [] (renE f g e) = (renV f g (evalE [] e).1, (evalE [] e).2) ∧ (evalE [] e).1.name ≠ g
 | .mk k n s ks, hn => by
  rw [noG] at hn
  obtain ⟨q1, q2⟩ := evals_sim h ks hn.2
  rw [renE, evalE, evalE, q1]
  generalize evalL [] ks = R at *
  cases R with
  | inl w => exact ⟨by dsimp only [renR]; unfold renV noVal; rw [h.nil], Ne.symm h.ng⟩
  | inr vs => exact topV_sim h hn.1 q2
theorem evals_sim {f g : List UInt8} (h : FG f g) : ∀ es : List OExpr, noGs g es → evalL [] (renEs f g es) = renR f g (evalL [] es) ∧ okR g (evalL [] es)
 | [], _ => by rw [renEs, evalL]; exact ⟨rfl, fun v hv => by simp at hv⟩
 | e :: es, hn => by
  rw [noGs] at hn
  obtain ⟨q1, q2⟩ := eval_sim h e hn.1
  obtain ⟨q3, q4⟩ := evals_sim h es hn.2
  rw [renEs, evalL, evalL, q1, q3]
  dsimp only
  split
  ·generalize evalL [] es = R at *
   cases R with
   | inl w => exact ⟨rfl, trivial⟩
   | inr vs => exact ⟨rfl, fun v hv => by
     rcases List.mem_cons.1 hv with rfl | hv
     ·exact q2
     ·exact q4 v hv⟩
  ·exact ⟨rfl, trivial⟩
end
attribute [local irreducible] evalE
theorem regI_lt {t : LTok} (h : regI t < 0) : regI t = -1 := by
 unfold regI at h ⊢
 split
 ·next e => rw [if_pos e] at h; exact idxT_lt _ _ _ h
 ·rfl
structure FR (f g : List UInt8) : Prop extends FG f g where
 rf : ∀ n, regI ⟨1, n, f⟩ = -1
 rg : ∀ n, regI ⟨1, n, g⟩ = -1
def rnL (f g : List UInt8) (t : LTok) : LTok := if t.kind = 1 ∧ t.text = f then ⟨t.kind, t.n, g⟩ else t
theorem tk_rn (f g : List UInt8) (t : LTok) : tk (rnL f g t) = rn f g (tk t) := by
 unfold rnL rn tk
 dsimp only
 split <;> rfl
theorem tk_inj {a b : LTok} (h : tk a = tk b) : a = b := by
 obtain ⟨a1, a2, a3⟩ := a
 obtain ⟨b1, b2, b3⟩ := b
 unfold tk at h
 injection h with h1 h2 h3
 dsimp only at h1 h2 h3
 rw [h1, h2, h3]
def TL (f g : List UInt8) (l l' : List LTok) : Prop := TT f g (l.map tk) (l'.map tk)
theorem TL.len {f g : List UInt8} {l l' : List LTok} (h : TL f g l l') : l.length = l'.length := by
 have := TT.len h
 rwa [List.length_map, List.length_map] at this
theorem TL.nil_inv {f g : List UInt8} {l' : List LTok} (h : TL f g [] l') : l' = [] := by
 have := h.len
 exact List.eq_nil_of_length_eq_zero this.symm
theorem tt_inv {f g : List UInt8} {t : OTok} {r l' : List OTok} (h : TT f g (t :: r) l') : (∃ r', l' = rn f g t :: r' ∧ ¬ (t.kind = 1 ∧ t.text = g) ∧ TT f g r r') ∨ (t.kind = 3 ∧ t.text = [58] ∧ ∃ r', l' = t :: r') := by
 cases h with
 | cons h1 h2 => exact .inl ⟨_, rfl, h1, h2⟩
 | col h1 h2 _ => exact .inr ⟨h1, h2, _, rfl⟩
theorem TL.inv {f g : List UInt8} {t : LTok} {r l' : List LTok} (h : TL f g (t :: r) l') : (∃ r', l' = rnL f g t :: r' ∧ ¬ (t.kind = 1 ∧ t.text = g) ∧ TL f g r r') ∨ (t.kind = 3 ∧ t.text = [58] ∧ ∃ r', l' = t :: r') := by
 cases l' with
 | nil => exact absurd h.len (by simp)
 | cons t' r' =>
  rcases tt_inv h with ⟨r2, h1, h2, h3⟩ | ⟨h1, h2, r2, h3⟩
  ·injection h1 with u v
   rw [← tk_rn] at u
   rw [← v] at h3
   exact .inl ⟨r', by rw [tk_inj u], h2, h3⟩
  ·injection h3 with u v
   exact .inr ⟨h1, h2, r', by rw [tk_inj u]⟩
theorem TL.drop {f g : List UInt8} {l l' : List LTok} {n : Nat} (h : TT f g ((l.map tk).drop n) ((l'.map tk).drop n)) : TL f g (l.drop n) (l'.drop n) := by
 unfold TL
 rwa [List.map_drop, List.map_drop]
theorem rnL_kind (f g : List UInt8) (t : LTok) : (rnL f g t).kind = t.kind := by unfold rnL; split <;> rfl
theorem rnL_other {f g : List UInt8} {t : LTok} (h : t.kind ≠ 1) : rnL f g t = t := if_neg fun h2 => h h2.1
theorem regI_rn {f g : List UInt8} (h : FR f g) (t : LTok) : regI (rnL f g t) = regI t := by
 unfold rnL
 split
 ·next e =>
  obtain ⟨k, n, x⟩ := t
  obtain ⟨rfl, rfl⟩ := e
  rw [h.rf, h.rg]
 ·rfl
structure RS (f g : List UInt8) (s s' : RB) : Prop where
 tl : TL f g s.rest s'.rest
 fe : s'.fe = s.fe
 fa : s'.fa = s.fa
theorem failR_sim {f g : List UInt8} {s s' : RB} (h : RS f g s s') (e line : Int) : RS f g (failR s e line) (failR s' e line) := by
 unfold failR
 rw [h.fe]
 split
 ·exact ⟨h.tl, rfl, rfl⟩
 ·exact h
theorem take_sim {f g : List UInt8} {c : List UInt8} (hc : c ≠ [58]) {s s' : RB} (h : RS f g s s') : (takeA c s').1 = (takeA c s).1 ∧ RS f g (takeA c s).2 (takeA c s').2 := by
 obtain ⟨r, e, a⟩ := s
 obtain ⟨r', e', a'⟩ := s'
 obtain ⟨ht, he, ha⟩ := h
 dsimp only at ht he ha
 subst he
 subst ha
 cases r with
 | nil => cases ht.nil_inv; exact ⟨rfl, ht, rfl, rfl⟩
 | cons t r =>
  rcases ht.inv with ⟨r2, rfl, h2, h3⟩ | ⟨h1, h2, r2, rfl⟩
  ·simp only [takeA]
   rw [rnL_kind]
   by_cases hk : t.kind = 3
   ·rw [rnL_other (by rw [hk]; decide)]
    by_cases hx : t.kind = 3 ∧ t.text = c
    ·rw [if_pos hx, if_pos hx]
     exact ⟨rfl, h3, rfl, rfl⟩
    ·rw [if_neg hx, if_neg hx]
     rw [rnL_other (by rw [hk]; decide)] at ht
     exact ⟨rfl, ht, rfl, rfl⟩
   ·rw [if_neg fun q => hk q.1, if_neg fun q => hk q.1]
    exact ⟨rfl, ht, rfl, rfl⟩
  ·simp only [takeA]
   rw [h2, if_neg fun q => hc q.2.symm, if_neg fun q => hc q.2.symm]
   exact ⟨rfl, ht, rfl, rfl⟩
theorem value_sim {f g : List UInt8} (h : FR f g) {line : Int} {s s' : RB} (hs : RS f g s s') : (valueA [] line s').1 = renV f g (valueA [] line s).1 ∧ (valueA [] line s).1.name ≠ g ∧ RS f g (valueA [] line s).2 (valueA [] line s').2 := by
 obtain ⟨q1, q2⟩ := pres_sim h.toFG hs.tl
 unfold valueA
 rw [q1]
 by_cases h0 : (pRes (s.rest.map tk)).2.2 = 0
 ·obtain ⟨q3, q4, q5⟩ := q2 h0
  obtain ⟨q6, q7⟩ := eval_sim h.toFG _ q4
  rw [if_pos h0, if_pos h0, q3, q6]
  dsimp only
  have hd : RS f g ⟨s.rest.drop (pRes (s.rest.map tk)).2.1.toNat, s.fe, s.fa⟩ ⟨s'.rest.drop (pRes (s.rest.map tk)).2.1.toNat, s'.fe, s'.fa⟩ := ⟨TL.drop q5, hs.fe, hs.fa⟩
  refine ⟨rfl, q7, ?_⟩
  split
  ·exact hd
  ·exact failR_sim hd _ _
 ·rw [if_neg h0, if_neg h0]
  refine ⟨?_, Ne.symm h.toFG.ng, failR_sim hs _ _⟩
  dsimp only
  unfold renV noV
  rw [h.toFG.nil]
theorem sign_a_sim {f g : List UInt8} {s s' : RB} (hs : RS f g s s') : (signA s').1 = (signA s).1 ∧ RS f g (signA s).2 (signA s').2 := by
 obtain ⟨a1, a2⟩ := take_sim (c := [35]) (by decide) hs
 obtain ⟨b1, b2⟩ := take_sim (c := [64]) (by decide) hs
 obtain ⟨c1, c2⟩ := take_sim (c := [61]) (by decide) hs
 unfold signA
 rw [a1, b1, c1]
 repeat' split
 ·exact ⟨rfl, a2⟩
 ·exact ⟨rfl, b2⟩
 ·exact ⟨rfl, c2⟩
 ·exact ⟨rfl, hs⟩
def renO (f g : List UInt8) (o : AOp) : AOp := ⟨o.sign, o.reg, renV f g o.val⟩
theorem noV_ren {f g : List UInt8} (h : FG f g) : renV f g noV = noV := by unfold renV noV; rw [h.nil]
theorem regH_sim {f g : List UInt8} (h : FR f g) {l l' : List LTok} (hl : TL f g l l') : regH l' = regH l ∧ (0 ≤ regH l → TL f g (l.drop 1) (l'.drop 1)) := by
 cases l with
 | nil => cases hl.nil_inv; exact ⟨rfl, fun _ => hl⟩
 | cons t r =>
  rcases hl.inv with ⟨r2, rfl, h2, h3⟩ | ⟨h1, h2, r2, rfl⟩
  ·exact ⟨regI_rn h t, fun _ => h3⟩
  ·refine ⟨rfl, fun q => ?_⟩
   have : regI t = -1 := if_neg fun e => by rw [h1] at e; exact absurd e.1 (by decide)
   have q : 0 ≤ regI t := q
   omega
theorem oneB_sim {f g : List UInt8} (h : FR f g) {line : Int} {sg : List UInt8} {s s' : RB} (hs : RS f g s s') : (oneB [] line sg s').1 = renO f g (oneB [] line sg s).1 ∧ (oneB [] line sg s).1.val.name ≠ g ∧ RS f g (oneB [] line sg s).2 (oneB [] line sg s').2 := by
 obtain ⟨r1, r2⟩ := regH_sim h hs.tl
 obtain ⟨v1, v2, v3⟩ := value_sim h (line := line) hs
 unfold oneB
 rw [r1]
 split
 ·next e => exact ⟨by unfold renO; dsimp only; rw [noV_ren h.toFG], Ne.symm h.toFG.ng, r2 e.2, hs.fe, hs.fa⟩
 ·split
  ·exact ⟨by unfold renO; dsimp only; rw [noV_ren h.toFG], Ne.symm h.toFG.ng, failR_sim hs _ _⟩
  ·exact ⟨by unfold renO; dsimp only; rw [v1], v2, v3⟩
theorem oneA_sim {f g : List UInt8} (h : FR f g) {line : Int} {s s' : RB} (hs : RS f g s s') : (oneA [] line s').1 = renO f g (oneA [] line s).1 ∧ (oneA [] line s).1.val.name ≠ g ∧ RS f g (oneA [] line s).2 (oneA [] line s').2 := by
 obtain ⟨a1, a2⟩ := sign_a_sim hs
 unfold oneA
 rw [a1]
 exact oneB_sim h a2
theorem TL.nil_iff {f g : List UInt8} {l l' : List LTok} (h : TL f g l l') : l' = [] ↔ l = [] := by
 have := h.len
 constructor
 ·intro e; subst e; exact List.eq_nil_of_length_eq_zero this
 ·intro e; subst e; exact List.eq_nil_of_length_eq_zero this.symm
theorem comma_sim {f g : List UInt8} {line : Int} {s s' : RB} (hs : RS f g s s') : RS f g (commaA line s) (commaA line s') := by
 obtain ⟨a1, a2⟩ := take_sim (c := [44]) (by decide) hs
 unfold commaA
 rw [a1]
 simp only [a2.tl.nil_iff]
 split
 ·exact failR_sim a2 _ _
 ·exact a2
theorem allF_sim {f g : List UInt8} (h : FR f g) {line : Int} : ∀ (n : Nat) (out : List AOp) (s s' : RB), (∀ o ∈ out, o.val.name ≠ g) → RS f g s s' →
  (allF [] line n (out.map (renO f g)) s').1 = (allF [] line n out s).1.map (renO f g) ∧ (∀ o ∈ (allF [] line n out s).1, o.val.name ≠ g) ∧ RS f g (allF [] line n out s).2 (allF [] line n (out.map (renO f g)) s').2
 | 0, out, s, s', ho, hs => ⟨rfl, ho, hs⟩
 | n + 1, out, s, s', ho, hs => by
  obtain ⟨o1, o2, o3⟩ := oneA_sim h (line := line) hs
  have ho2 : ∀ o ∈ out ++ [(oneA [] line s).1], o.val.name ≠ g := fun o hm => by
   rcases List.mem_append.1 hm with hm | hm
   ·exact ho o hm
   ·rw [List.mem_singleton] at hm; rw [hm]; exact o2
  have hm : out.map (renO f g) ++ [(oneA [] line s').1] = (out ++ [(oneA [] line s).1]).map (renO f g) := by rw [List.map_append, o1]; rfl
  rw [allF, allF, hm]
  simp only [hs.tl.nil_iff, o3.tl.nil_iff, hs.fe]
  split
  ·exact ⟨rfl, ho, hs⟩
  ·split
   ·exact ⟨rfl, ho2, o3⟩
   ·exact allF_sim h n _ _ _ ho2 (comma_sim o3)
theorem all_sim {f g : List UInt8} (h : FR f g) {line : Int} {s s' : RB} (hs : RS f g s s') :
  (allA [] line s').1 = (allA [] line s).1.map (renO f g) ∧ (∀ o ∈ (allA [] line s).1, o.val.name ≠ g) ∧ RS f g (allA [] line s).2 (allA [] line s').2 := by
 unfold allA
 rw [← hs.tl.len]
 exact allF_sim h _ [] _ _ (fun _ hm => by simp at hm) hs
attribute [local irreducible] allA findI regI wrongI
def renI (f g : List UInt8) (x : AItem) : AItem := { x with val := renV f g x.val }
def renS (f g : List UInt8) (s : OSym) : OSym := ⟨renN f g s.name, s.at_⟩
def renB (f g : List UInt8) (b : Bld) : Bld := ⟨b.items.map (renI f g), b.syms.map (renS f g), b.marks, b.shut.map (List.map (renV f g)), b.has, b.cur.map (renV f g), b.fe, b.fa⟩
structure NG (g : List UInt8) (b : Bld) : Prop where
 items : ∀ x ∈ b.items, x.val.name ≠ g
 syms : ∀ s ∈ b.syms, s.name ≠ g
 shut : ∀ l ∈ b.shut, ∀ v ∈ l, v.name ≠ g
 cur : ∀ v ∈ b.cur, v.name ≠ g
structure BS (f g : List UInt8) (b b' : Bld) : Prop where
 ng : NG g b
 eq : b' = renB f g b
theorem mem_snoc {α : Type} {P : α → Prop} {l : List α} {x : α} (h : ∀ y ∈ l, P y) (hx : P x) : ∀ y ∈ l ++ [x], P y := fun y hy => by
 rcases List.mem_append.1 hy with hy | hy
 ·exact h y hy
 ·rw [List.mem_singleton] at hy; rw [hy]; exact hx
theorem failB_sim {f g : List UInt8} {b b' : Bld} (h : BS f g b b') (e line : Int) : BS f g (failB b e line) (failB b' e line) := by
 obtain ⟨⟨h1, h2, h3, h4⟩, rfl⟩ := h
 unfold failB renB
 dsimp only
 split
 ·exact ⟨⟨h1, h2, h3, h4⟩, rfl⟩
 ·exact ⟨⟨h1, h2, h3, h4⟩, rfl⟩
theorem putB_sim {f g : List UInt8} {b b' : Bld} (h : BS f g b b') {x : AItem} (hx : x.val.name ≠ g) : BS f g (putB b x) (putB b' (renI f g x)) := by
 obtain ⟨⟨h1, h2, h3, h4⟩, rfl⟩ := h
 refine ⟨⟨mem_snoc h1 hx, h2, h3, h4⟩, ?_⟩
 unfold putB renB
 dsimp only
 rw [List.map_append]
 rfl
theorem idxV_sim {f g : List UInt8} {v : OVal} (hv : v.name ≠ g) : ∀ (l : List OVal) (k : Nat), (∀ u ∈ l, u.name ≠ g) → idxV (renV f g v) (l.map (renV f g)) k = idxV v l k
 | [], _, _ => rfl
 | u :: l, k, h => by
  rw [List.map_cons, idxV, idxV]
  have e1 : (renV f g u).name = (renV f g v).name ↔ u.name = v.name := renN_inj (h u (List.mem_cons_self ..)) hv
  have e2 : (renV f g u).n = u.n := rfl
  have e3 : (renV f g v).n = v.n := rfl
  simp only [e1, e2, e3]
  rw [idxV_sim hv l (k + 1) fun u hu => h u (List.mem_cons_of_mem _ hu)]
theorem litB_sim {f g : List UInt8} (h : FG f g) {b b' : Bld} (hb : BS f g b b') {v : OVal} (hv : v.name ≠ g) (reg line : Int) : BS f g (litB b v reg line) (litB b' (renV f g v) reg line) := by
 obtain ⟨⟨h1, h2, h3, h4⟩, rfl⟩ := hb
 have e0 := idxV_sim (f := f) hv b.cur 0 h4
 have e1 : withV (renV f g v) (b.cur.map (renV f g)) = (withV v b.cur).map (renV f g) := by
  unfold withV
  rw [e0]
  split
  ·rw [List.map_append]; rfl
  ·rfl
 have e2 : slotV (renV f g v) (b.cur.map (renV f g)) = slotV v b.cur := by
  unfold slotV
  rw [e0, List.length_map]
 have e3 : ∀ u ∈ withV v b.cur, u.name ≠ g := by
  unfold withV
  split
  ·exact mem_snoc h4 hv
  ·exact h4
 refine ⟨⟨mem_snoc h1 (Ne.symm h.ng), h2, h3, e3⟩, ?_⟩
 unfold litB putB renB
 dsimp only
 rw [e1, e2, List.map_append, List.length_map]
 simp only [List.map_cons, List.map_nil, renI, noV_ren h]
theorem poolB_sim {f g : List UInt8} (h : FG f g) {b b' : Bld} (hb : BS f g b b') (line : Int) : BS f g (poolB b line) (poolB b' line) := by
 obtain ⟨⟨h1, h2, h3, h4⟩, rfl⟩ := hb
 unfold poolB
 have e : (renB f g b).has = b.has := rfl
 rw [e]
 split
 ·refine ⟨⟨mem_snoc h1 (Ne.symm h.ng), h2, mem_snoc h3 h4, fun _ hm => by simp at hm⟩, ?_⟩
  unfold putB renB
  dsimp only
  rw [List.map_append, List.map_append, List.length_map]
  simp only [List.map_cons, List.map_nil, renI, noV_ren h]
 ·exact ⟨⟨h1, h2, h3, h4⟩, rfl⟩
theorem aop_sim {f g : List UInt8} (h : FG f g) (l : List AOp) (k : Nat) : aop (l.map (renO f g)) k = renO f g (aop l k) := by
 unfold aop
 rw [List.getElem?_map]
 cases l[k]? with
 | none => show (⟨[], 0, noV⟩ : AOp) = ⟨[], 0, renV f g noV⟩; rw [noV_ren h]
 | some o => rfl
theorem aop_no {f g : List UInt8} (h : FG f g) {l : List AOp} (hl : ∀ o ∈ l, o.val.name ≠ g) (k : Nat) : (aop l k).val.name ≠ g := by
 unfold aop
 cases e : l[k]? with
 | none => exact Ne.symm h.ng
 | some o => exact hl o (List.mem_of_getElem? e)
theorem sgs_sim (f g : List UInt8) (l : List AOp) : sgsA (l.map (renO f g)) = sgsA l := by
 unfold sgsA
 rw [List.map_map]
 rfl
theorem draft_sim {f g : List UInt8} (h : FG f g) (op shape : Int) (l : List AOp) (line : Int) : draftI op shape (l.map (renO f g)) line = renI f g (draftI op shape l line) := by
 have n := noV_ren h
 unfold draftI
 simp only [aop_sim h]
 repeat' split
 all_goals (simp only [renI, renO, n]; try rfl)
theorem draft_no {f g : List UInt8} (h : FG f g) {l : List AOp} (hl : ∀ o ∈ l, o.val.name ≠ g) (op shape line : Int) : (draftI op shape l line).val.name ≠ g := by
 unfold draftI
 repeat' split
 all_goals first
  | exact aop_no h hl 0
  | exact Ne.symm h.ng
theorem instrB_sim {f g : List UInt8} (h : FG f g) {b b' : Bld} (hb : BS f g b b') (name : List UInt8) {l : List AOp} (hl : ∀ o ∈ l, o.val.name ≠ g) (line : Int) : BS f g (instrB b name l line) (instrB b' name (l.map (renO f g)) line) := by
 have a0 : aop (l.map (renO f g)) 0 = renO f g (aop l 0) := aop_sim h l 0
 have a1 : aop (l.map (renO f g)) 1 = renO f g (aop l 1) := aop_sim h l 1
 have e1 : ((renO f g (aop l 0)).val.name = []) ↔ ((aop l 0).val.name = []) := renN_nil h
 unfold instrB
 rw [draft_sim h, sgs_sim, a0, a1, List.length_map]
 simp only [e1, ne_eq]
 have s0 : (renO f g (aop l 0)).sign = (aop l 0).sign := rfl
 have s1 : (renO f g (aop l 1)).sign = (aop l 1).sign := rfl
 have s2 : (renO f g (aop l 1)).reg = (aop l 1).reg := rfl
 have s3 : (renO f g (aop l 0)).val = renV f g (aop l 0).val := rfl
 have s4 : ∀ x, (renI f g x).ins = x.ins := fun _ => rfl
 rw [s0, s1, s2, s3, s4]
 split
 ·exact litB_sim h hb (aop_no h hl 0) _ _
 ·split
  ·exact failB_sim hb _ _
  ·split
   ·exact failB_sim hb _ _
   ·split
    ·exact putB_sim hb (draft_no h hl _ _ _)
    ·exact failB_sim hb _ _
theorem datB_sim {f g : List UInt8} (h : FG f g) (size line : Int) : ∀ (l : List AOp) (b b' : Bld), (∀ o ∈ l, o.val.name ≠ g) → BS f g b b' → BS f g (l.foldl (datB size line) b) ((l.map (renO f g)).foldl (datB size line) b')
 | [], _, _, _, hb => hb
 | o :: l, b, b', hl, hb => by
  rw [List.map_cons, List.foldl_cons, List.foldl_cons]
  refine datB_sim h size line l _ _ (fun x hx => hl x (List.mem_cons_of_mem _ hx)) ?_
  have ho := hl o (List.mem_cons_self ..)
  have e1 : ((renO f g o).val.name = []) ↔ (o.val.name = []) := renN_nil h
  have e2 : (renO f g o).val.n = o.val.n := rfl
  have e3 : (renO f g o).sign = o.sign := rfl
  unfold datB
  simp only [e1, ne_eq, e2, e3]
  refine putB_sim (x := ⟨7, 0, line, noI, false, size, o.val, 0, 0⟩) ?_ ho
  repeat' split
  all_goals first | exact hb | exact failB_sim hb _ _
theorem wordB_sim {f g : List UInt8} (h : FG f g) {b b' : Bld} (hb : BS f g b b') (w : List UInt8) {l : List AOp} (hl : ∀ o ∈ l, o.val.name ≠ g) (line : Int) : BS f g (wordB b w l line) (wordB b' w (l.map (renO f g)) line) := by
 have hd : ∀ size, BS f g (dataB b size l line) (dataB b' size (l.map (renO f g)) line) := fun size => by
  unfold dataB
  refine datB_sim h size line l _ _ hl ?_
  simp only [List.map_eq_nil_iff]
  split
  ·exact failB_sim hb _ _
  ·exact hb
 have ha : BS f g (alignB b l line) (alignB b' (l.map (renO f g)) line) := by
  have a0 : aop (l.map (renO f g)) 0 = renO f g (aop l 0) := aop_sim h l 0
  have e1 : ((renO f g (aop l 0)).val.name = []) ↔ ((aop l 0).val.name = []) := renN_nil h
  have e2 : (renO f g (aop l 0)).val.n = (aop l 0).val.n := rfl
  have e3 : (renO f g (aop l 0)).sign = (aop l 0).sign := rfl
  unfold alignB
  rw [a0, List.length_map]
  simp only [e1, ne_eq, e2, e3]
  repeat' split
  ·exact failB_sim hb _ _
  ·exact failB_sim hb _ _
  ·have := putB_sim hb (x := ⟨8, 0, line, noI, false, (aop l 0).val.n, noV, 0, 0⟩) (Ne.symm h.ng)
   unfold renI at this
   dsimp only at this
   rwa [noV_ren h] at this
 unfold wordB
 rw [List.length_map]
 repeat' split
 ·exact hd 1
 ·exact hd 2
 ·exact hd 4
 ·exact ha
 ·exact failB_sim hb _ _
 ·exact poolB_sim h hb _
 ·exact instrB_sim h hb w hl line
attribute [local irreducible] wordB
theorem isC_iff (t : LTok) : isC t = true ↔ t.kind = 3 ∧ t.text = [58] := by unfold isC; simp
theorem ren_false (f g : List UInt8) (b : Bool) (t : LTok) : renTok f g false b t = rnL f g t := by
 unfold renTok rnL
 by_cases h : t.kind = 1 ∧ t.text = f
 ·rw [if_pos h, if_pos ⟨h, .inl rfl⟩]
 ·rw [if_neg h, if_neg fun q => h q.1]
theorem ren_label (f g : List UInt8) (t : LTok) : renTok f g true true t = rnL f g t := by
 unfold renTok rnL
 by_cases h : t.kind = 1 ∧ t.text = f
 ·rw [if_pos h, if_pos ⟨h, .inr rfl⟩]
 ·rw [if_neg h, if_neg fun q => h q.1]
theorem ren_first (f g : List UInt8) (t : LTok) : renTok f g true false t = t := if_neg fun q => by rcases q.2 with q | q <;> exact absurd q (by decide)
theorem ren_kind (f g : List UInt8) (a b : Bool) (t : LTok) : (renTok f g a b t).kind = t.kind := by unfold renTok; split <;> rfl
theorem ren_other {f g : List UInt8} {a b : Bool} {t : LTok} (h : t.kind ≠ 1) : renTok f g a b t = t := if_neg fun q => h q.1.1
theorem TL.cons {f g : List UInt8} {t : LTok} {r r' : List LTok} (ht : ¬ (t.kind = 1 ∧ t.text = g)) (h : TL f g r r') : TL f g (t :: r) (rnL f g t :: r') := by
 unfold TL
 rw [List.map_cons, List.map_cons, tk_rn]
 exact .cons ht h
theorem TL.ren {f g : List UInt8} : ∀ r : List LTok, noW g r → TL f g r (renF f g false r)
 | [], _ => .nil
 | t :: r, h => by
  have ht := h t (List.mem_cons_self ..)
  rw [renF, ren_false]
  cases e : isC t with
  | false => exact .cons ht (TL.ren r fun x hx => h x (List.mem_cons_of_mem _ hx))
  | true =>
   obtain ⟨h1, h2⟩ := (isC_iff t).1 e
   rw [rnL_other (by rw [h1]; decide)]
   unfold TL
   rw [List.map_cons, List.map_cons]
   exact .col h1 h2 (by rw [List.length_map, List.length_map, renF_len])
theorem any_sim {f g : List UInt8} {x : List UInt8} (hx : x ≠ g) : ∀ l : List OSym, (∀ s ∈ l, s.name ≠ g) → (l.map (renS f g)).any (fun s => s.name == renN f g x) = l.any (fun s => s.name == x)
 | [], _ => rfl
 | s :: l, h => by
  rw [List.map_cons, List.any_cons, List.any_cons, any_sim hx l fun y hy => h y (List.mem_cons_of_mem _ hy)]
  congr 1
  have e1 : (renS f g s).name = renN f g x ↔ s.name = x := renN_inj (h s (List.mem_cons_self ..)) hx
  rw [Bool.eq_iff_iff, beq_iff_eq, beq_iff_eq]
  exact e1
theorem ite_bs {f g : List UInt8} {c c' : Prop} [Decidable c] [Decidable c'] (hcc : c' ↔ c) {a a' d d' : Bld} (h1 : BS f g a a') (h2 : BS f g d d') : BS f g (if c then a else d) (if c' then a' else d') := by
 by_cases h : c
 ·rw [if_pos h, if_pos (hcc.2 h)]; exact h1
 ·rw [if_neg h, if_neg fun q => h (hcc.1 q)]; exact h2
theorem label_sim {f g : List UInt8} (h : FR f g) {b b' : Bld} (hb : BS f g b b') {t : LTok} (hk : t.kind = 1) (ht : ¬ (t.kind = 1 ∧ t.text = g)) (line : Int) : BS f g (labelB [] b t line) (labelB [] b' (rnL f g t) line) := by
 have hx : t.text ≠ g := fun q => ht ⟨hk, q⟩
 have e0 : (rnL f g t).text = renN f g t.text := by
  unfold rnL renN
  by_cases q : t.text = f
  ·rw [if_pos ⟨hk, q⟩, if_pos q]
  ·rw [if_neg fun z => q z.2, if_neg q]
 have e1 : nameB (renN f g t.text) = nameB t.text := by
  unfold renN
  split
  ·next q => rw [q, h.toFG.hf, h.toFG.hg]
  ·rfl
 obtain ⟨hn, rfl⟩ := hb
 have e2 : (renB f g b).syms.any (fun s => s.name == renN f g t.text) = b.syms.any (fun s => s.name == t.text) := any_sim hx b.syms hn.syms
 unfold labelB
 rw [e0, e1, regI_rn h, e2]
 refine ite_bs Iff.rfl (failB_sim ⟨hn, rfl⟩ _ _) ?_
 ·refine ⟨⟨hn.items, mem_snoc hn.syms hx, hn.shut, hn.cur⟩, ?_⟩
  unfold renB
  dsimp only
  rw [List.map_append, List.length_map]
  rfl
theorem labs_sim {f g : List UInt8} (h : FR f g) (line : Int) : ∀ (l : List LTok) (b b' : Bld), noW g l → BS f g b b' →
  BS f g (labsF [] line l b).1 (labsF [] line (renF f g true l) b').1 ∧ (labsF [] line (renF f g true l) b').2 = renF f g true (labsF [] line l b).2 ∧ noW g (labsF [] line l b).2 ∧ (∀ t r, (labsF [] line l b).2 = t :: r → t.kind = 1 → headC r = false)
 | t :: c :: r, b, b', hn, hb => by
  rw [renF, renF]
  by_cases hc : t.kind = 1 ∧ c.kind = 3 ∧ c.text = [58]
  ·have hcc : isC c = true := (isC_iff c).2 hc.2
   have e1 : headC (c :: r) = true := hcc
   rw [labsF, labsF, ren_kind, ren_other (t := c) (by rw [hc.2.1]; decide), if_pos hc, if_pos hc, e1, ren_label, hcc]
   exact labs_sim h line r _ _ (fun x hx => hn x (List.mem_cons_of_mem _ (List.mem_cons_of_mem _ hx))) (label_sim h hb hc.1 (hn t (List.mem_cons_self ..)) line)
  ·have e2 : ¬ (t.kind = 1 ∧ (renTok f g (isC t) (headC r) c).kind = 3 ∧ (renTok f g (isC t) (headC r) c).text = [58]) := fun q => by
    have hk : c.kind = 3 := by rw [← ren_kind f g (isC t) (headC r) c]; exact q.2.1
    rw [ren_other (by rw [hk]; decide)] at q
    exact hc q
   rw [labsF, labsF, ren_kind, if_neg hc, if_neg e2]
   refine ⟨hb, by rw [renF, renF], hn, fun t' r' h1 h2 => ?_⟩
   injection h1 with u v
   subst u
   subst v
   show isC c = false
   cases e : isC c with
   | false => rfl
   | true => exact absurd ⟨h2, (isC_iff c).1 e⟩ hc
 | [t], b, b', hn, hb => by
  rw [renF, renF, labsF, labsF]
  refine ⟨hb, by rw [renF, renF], hn, fun t' r' h1 h2 => ?_⟩
  injection h1 with u v
  subst v
  rfl
 | [], b, b', hn, hb => by
  rw [renF, labsF, labsF]
  exact ⟨hb, by rw [renF], hn, fun t' r' h1 _ => by cases h1⟩
theorem setF_sim {f g : List UInt8} {b b' : Bld} (hb : BS f g b b') {s s' : RB} (hs : RS f g s s') : BS f g (setF b s) (setF b' s') := by
 obtain ⟨⟨h1, h2, h3, h4⟩, rfl⟩ := hb
 unfold setF renB
 rw [hs.fe, hs.fa]
 exact ⟨⟨h1, h2, h3, h4⟩, rfl⟩
theorem rest_sim {f g : List UInt8} (h : FR f g) {b b' : Bld} (hb : BS f g b b') (line : Int) : ∀ l : List LTok, noW g l → (∀ t r, l = t :: r → t.kind = 1 → headC r = false) → BS f g (restB [] b line l) (restB [] b' line (renF f g true l))
 | [], _, _ => by rw [renF]; exact hb
 | t :: r, hn, hh => by
  have e0 : b'.fe = b.fe := by rw [hb.eq]; rfl
  have e1 : b'.fa = b.fa := by rw [hb.eq]; rfl
  rw [renF, restB, restB, ren_kind, e0, e1]
  by_cases h1 : b.fe ≠ 0
  ·rw [if_pos h1, if_pos h1]; exact hb
  rw [if_neg h1, if_neg h1]
  by_cases h2 : t.kind ≠ 1
  ·rw [if_pos h2, if_pos h2]; exact failB_sim hb _ _
  rw [if_neg h2, if_neg h2]
  have hk : t.kind = 1 := by omega
  have ht : isC t = false := by unfold isC; rw [hk]; rfl
  rw [hh t r rfl hk, ren_first, ht]
  obtain ⟨a1, a2, a3⟩ := all_sim h (line := line) (s := ⟨r, b.fe, b.fa⟩) (s' := ⟨renF f g false r, b.fe, b.fa⟩) ⟨TL.ren r fun x hx => hn x (List.mem_cons_of_mem _ hx), rfl, rfl⟩
  rw [a3.fe, a1]
  split
  ·exact setF_sim hb a3
  ·exact wordB_sim h.toFG (setF_sim hb a3) _ a2 line
theorem line_sim {f g : List UInt8} (h : FR f g) {b b' : Bld} (hb : BS f g b b') {x : LLine} (hx : noW g x.toks) : BS f g (lineB [] b x) (lineB [] b' (renLn f g x)) := by
 obtain ⟨q1, q2, q3, q4⟩ := labs_sim h x.pos x.toks b b' hx hb
 unfold lineB renLn
 dsimp only
 rw [q2]
 exact rest_sim h q1 _ _ q3 q4
theorem lines_sim {f g : List UInt8} (h : FR f g) : ∀ (l : List LLine) (b b' : Bld), (∀ x ∈ l, noW g x.toks) → BS f g b b' → BS f g (linesB [] l b) (linesB [] (l.map (renLn f g)) b')
 | [], _, _, _, hb => hb
 | x :: l, b, b', hn, hb => by
  have := lines_sim h l _ _ (fun y hy => hn y (List.mem_cons_of_mem _ hy)) (line_sim h hb (hn x (List.mem_cons_self ..)))
  unfold linesB at this ⊢
  exact this
theorem last_sim (f g : List UInt8) (l : List LLine) : lastL (l.map (renLn f g)) = lastL l := by
 unfold lastL
 rw [List.foldl_map]
 rfl
theorem read_sim {f g : List UInt8} (h : FR f g) {l : List LLine} (hn : ∀ x ∈ l, noW g x.toks) : BS f g (poolB (linesB [] l b0) (lastL l)) (poolB (linesB [] (l.map (renLn f g)) b0) (lastL (l.map (renLn f g)))) := by
 rw [last_sim]
 refine poolB_sim h.toFG (lines_sim h l _ _ hn ⟨⟨fun _ hm => by simp [b0] at hm, fun _ hm => by simp [b0] at hm, fun _ hm => by simp [b0] at hm, fun _ hm => by simp [b0] at hm⟩, rfl⟩) _
end Go.Proofs.YthmdddenbfbefaaGreatDoor
